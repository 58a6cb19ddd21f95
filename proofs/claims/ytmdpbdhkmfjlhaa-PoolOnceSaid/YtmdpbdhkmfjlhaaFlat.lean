/- Plain lists of cells: rows of equal parts, read and written; no program is named. -/
import Derived.Test.YtmdpbdhkmfjlhaaOps
namespace Go.Bw
open Go

def upd {α : Type} (g : Nat → α) (i : Nat) (v : α) : Nat → α := fun j => if j = i then v else g j
@[simp] theorem upd_same {α : Type} (g : Nat → α) (i : Nat) (v : α) : upd g i v i = v := by simp [upd]
theorem upd_other {α : Type} (g : Nat → α) {i j : Nat} (v : α) (h : j ≠ i) : upd g i v j = g j := by simp [upd, h]

/-- n parts, one behind the other -/
def flat (g : Nat → List Value) : Nat → List Value
  | 0 => []
  | n + 1 => flat g n ++ g n

theorem flat_len {g : Nat → List Value} {k : Nat} : ∀ {n : Nat}, (∀ i, i < n → (g i).length = k) → (flat g n).length = n * k := by
  intro n
  induction n with
  | zero => intro _; simp [flat]
  | succ n ih => intro h; simp [flat, ih (fun i hi => h i (by omega)), h n (by omega), Nat.add_mul]

theorem flat_congr {g g' : Nat → List Value} : ∀ {n : Nat}, (∀ i, i < n → g i = g' i) → flat g n = flat g' n := by
  intro n
  induction n with
  | zero => intro _; rfl
  | succ n ih => intro h; simp [flat, ih (fun i hi => h i (by omega)), h n (by omega)]

theorem flat_get {g : Nat → List Value} {k : Nat} : ∀ {n i j : Nat}, (∀ i, i < n → (g i).length = k) → i < n → j < k → (flat g n)[i * k + j]? = (g i)[j]? := by
  intro n
  induction n with
  | zero => intro i j _ hi; omega
  | succ n ih =>
    intro i j h hi hj
    have hl := flat_len (n := n) (fun i hi => h i (by omega))
    by_cases e : i = n
    · subst e
      rw [flat, List.getElem?_append_right (by omega), hl]
      congr 1; omega
    · have : i * k + j < n * k := by
        have h1 : (i + 1) * k ≤ n * k := Nat.mul_le_mul_right k (by omega)
        rw [Nat.add_mul] at h1; omega
      rw [flat, List.getElem?_append_left (by omega)]
      exact ih (fun i hi => h i (by omega)) (by omega) hj

/-- a list is told by its elements -/
theorem list_ext {l m : List Value} (h : ∀ j : Nat, l[j]? = m[j]?) : l = m := List.ext_getElem? h

theorem splice_len {cs vs : List Value} {off : Nat} (h : off + vs.length ≤ cs.length) : (splice cs off vs).length = cs.length := by
  simp [splice]; omega

theorem splice_get {cs vs : List Value} {off : Nat} (h : off + vs.length ≤ cs.length) (j : Nat) : (splice cs off vs)[j]? = if off ≤ j ∧ j < off + vs.length then vs[j - off]? else cs[j]? := by
  unfold splice
  by_cases h1 : j < off
  · rw [if_neg (by omega), List.append_assoc, List.getElem?_append_left (by simp; omega), List.getElem?_take, if_pos h1]
  · by_cases h2 : j < off + vs.length
    · rw [if_pos (by omega), List.append_assoc, List.getElem?_append_right (by simp; omega), List.getElem?_append_left (by simp; omega)]
      congr 1; simp; omega
    · rw [if_neg (by omega), List.getElem?_append_right (by simp; omega), List.getElem?_drop]
      congr 1; simp; omega

theorem splice_right {p q vs : List Value} {off : Nat} : splice (p ++ q) (p.length + off) vs = p ++ splice q off vs := by
  unfold splice
  have h1 : (p ++ q).take (p.length + off) = p ++ q.take off := by simp [List.take_append, List.take_of_length_le (show p.length ≤ p.length + off by omega)]
  have h2 : (p ++ q).drop (p.length + off + vs.length) = q.drop (off + vs.length) := by
    rw [Nat.add_assoc, List.drop_append, List.drop_eq_nil_of_le (by omega)]
    simp
  rw [h1, h2]; simp

theorem splice_left {p q vs : List Value} {off : Nat} (h : off + vs.length ≤ p.length) : splice (p ++ q) off vs = splice p off vs ++ q := by
  unfold splice
  rw [List.take_append_of_le_length (by omega), List.drop_append_of_le_length h]
  simp

/-- one part written anew -/
theorem flat_splice {g : Nat → List Value} {k n i : Nat} {vs : List Value} (h : ∀ i, i < n → (g i).length = k) (hi : i < n) (hv : vs.length = k) : splice (flat g n) (i * k) vs = flat (upd g i vs) n := by
  have hl := flat_len (n := n) h
  have h' : ∀ j, j < n → (upd g i vs j).length = k := fun j hj => by by_cases e : j = i <;> simp [upd, e, hv, h j hj]
  have hl' := flat_len (n := n) h'
  have hb : (i + 1) * k ≤ n * k := Nat.mul_le_mul_right k (by omega)
  rw [Nat.add_mul] at hb
  refine list_ext fun j => ?_
  rw [splice_get (by omega)]
  by_cases hj : j < n * k
  · have hk : 0 < k := by
      rcases Nat.eq_zero_or_pos k with h0 | h0
      · subst h0; omega
      · exact h0
    have hd : j = j / k * k + j % k := by rw [Nat.mul_comm]; exact (Nat.div_add_mod j k).symm
    have hm := Nat.mod_lt j hk
    have hq : j / k < n := Nat.div_lt_of_lt_mul (by rw [Nat.mul_comm]; exact hj)
    by_cases e : j / k = i
    · rw [if_pos (by subst e; omega)]
      rw [hd, flat_get h' hq hm, e, upd_same]
      congr 1; subst e; omega
    · rw [if_neg]
      · rw [hd, flat_get h' hq hm, flat_get h hq hm, upd_other _ _ e]
      · rintro ⟨h1, h2⟩
        apply e
        have : i ≤ j / k := (Nat.le_div_iff_mul_le hk).2 h1
        have : j / k < i + 1 := (Nat.div_lt_iff_lt_mul hk).2 (by rw [Nat.add_mul]; omega)
        omega
  · rw [if_neg (by omega), List.getElem?_eq_none (by omega), List.getElem?_eq_none (by omega)]

/-- a cell of one part written anew -/
theorem flat_set {g : Nat → List Value} {k n i j : Nat} {v : Value} (h : ∀ i, i < n → (g i).length = k) (hi : i < n) (hj : j < k) : splice (flat g n) (i * k + j) [v] = flat (upd g i ((g i).set j v)) n := by
  rw [← flat_splice (vs := (g i).set j v) h hi (by simp [h i hi])]
  have hl := flat_len (n := n) h
  have hb : (i + 1) * k ≤ n * k := Nat.mul_le_mul_right k (by omega)
  rw [Nat.add_mul] at hb
  refine list_ext fun m => ?_
  rw [splice_get (by simp; omega), splice_get (by simp [h i hi]; omega)]
  simp only [List.length_singleton, List.length_set, h i hi]
  by_cases e : m = i * k + j
  · subst e
    rw [if_pos (by omega), if_pos (by omega)]
    have : i * k + j - (i * k) = j := by omega
    rw [this]
    simp [h i hi, hj]
  · rw [if_neg (by omega)]
    by_cases e2 : i * k ≤ m ∧ m < i * k + k
    · rw [if_pos e2]
      have : m = i * k + (m - i * k) := by omega
      rw [this, flat_get h hi (by omega)]
      rw [List.getElem?_set_ne (by omega)]
      congr 1; omega
    · rw [if_neg e2]

theorem flat_part {g : Nat → List Value} {k n i : Nat} {t : List Value} (h : ∀ i, i < n → (g i).length = k) (hi : i < n) : ((flat g n ++ t).drop (i * k)).take k = g i := by
  have hl := flat_len (n := n) h
  have hb : (i + 1) * k ≤ n * k := Nat.mul_le_mul_right k (by omega)
  rw [Nat.add_mul] at hb
  refine list_ext fun j => ?_
  rw [List.getElem?_take, List.getElem?_drop]
  by_cases hj : j < k
  · rw [if_pos hj, List.getElem?_append_left (by omega), flat_get h hi hj]
  · rw [if_neg hj, List.getElem?_eq_none (by rw [h i hi]; omega)]

theorem flat_tail {g : Nat → List Value} {k : Nat} (h : ∀ i, (g i).length = k) : ∀ n, (flat g (n + 1)).drop k = flat (fun i => g (i + 1)) n := by
  intro n
  induction n with
  | zero => simp [flat, ← h 0]
  | succ n ih =>
    have hl : k ≤ (flat g (n + 1)).length := by rw [flat_len (k := k) fun i _ => h i]; exact Nat.le_mul_of_pos_left _ (by omega)
    show (flat g (n + 1) ++ g (n + 1)).drop k = flat (fun i => g (i + 1)) n ++ g (n + 1)
    rw [List.drop_append_of_le_length hl, ih]
theorem flat_sub {g : Nat → List Value} {k n i j m : Nat} (h : ∀ i, i < n → (g i).length = k) (hi : i < n) (hj : j + m ≤ k) : ((flat g n).drop (i * k + j)).take m = ((g i).drop j).take m := by
  refine List.ext_getElem? fun q => ?_
  simp only [List.getElem?_take, List.getElem?_drop]
  split
  · rw [Nat.add_assoc, flat_get h hi (by omega)]
  · rfl
theorem flat_at {g : Nat → List Value} {k n i j : Nat} {t : List Value} (h : ∀ i, i < n → (g i).length = k) (hi : i < n) (hj : j < k) : (flat g n ++ t)[i * k + j]? = (g i)[j]? := by
  have hl := flat_len (n := n) h
  have hb : (i + 1) * k ≤ n * k := Nat.mul_le_mul_right k (by omega)
  rw [Nat.add_mul] at hb
  rw [List.getElem?_append_left (by omega), flat_get h hi hj]

theorem OneC.app {a b : List Value} (ha : OneC a) (hb : OneC b) : OneC (a ++ b) := fun v hv => (List.mem_append.1 hv).elim (ha v) (hb v)
@[simp] theorem OneC.set {cs : List Value} {i : Nat} {v : Value} (h : OneC cs) (hv : v.oneCell' = true) : OneC (cs.set i v) := fun u hu => by
  rcases List.mem_or_eq_of_mem_set hu with h1 | h1
  · exact h u h1
  · rw [h1]; exact hv
@[simp] theorem one_int (k : IntKind) (n : Int) : (Value.int k n).oneCell' = true := by
  have h : ∀ b : Bool, b = true → b = true := fun _ h => h
  exact h _ rfl
@[simp] theorem one_bool (b : Bool) : (Value.bool b).oneCell' = true := by
  have h : ∀ b : Bool, b = true → b = true := fun _ h => h
  exact h _ rfl
@[simp] theorem one_ptr (a : Option Addr) : (Value.pointer a).oneCell' = true := by
  have h : ∀ b : Bool, b = true → b = true := fun _ h => h
  exact h _ rfl
@[simp] theorem one_slice (a : Option Addr) (n c : Nat) : (Value.slice a n c).oneCell' = true := by
  have h : ∀ b : Bool, b = true → b = true := fun _ h => h
  exact h _ rfl
@[simp] theorem OneC.nil : OneC [] := fun _ h => by cases h
@[simp] theorem OneC.cons {v : Value} {r : List Value} (hv : v.oneCell' = true) (h : OneC r) : OneC (v :: r) := fun u hu => by
  rcases List.mem_cons.1 hu with h1 | h1
  · rw [h1]; exact hv
  · exact h u h1
theorem OneC_of {vs : List Value} (h : vs.all (·.oneCell') = true) : OneC vs := fun v hv => List.all_eq_true.1 h v hv
theorem OneC.flat {g : Nat → List Value} : ∀ {n : Nat}, (∀ i, i < n → OneC (g i)) → OneC (flat g n) := by
  intro n
  induction n with
  | zero => intro _ v hv; simp [Bw.flat] at hv
  | succ n ih => intro h; exact (ih fun i hi => h i (by omega)).app (h n (by omega))
end Go.Bw
