/- What package runs and its document's answer compute. -/
import Derived.Test.YtmdpbdhkmfjlhaaDRuns
import Derived.Test.YtmdpbdhkmfjlhaaPure
namespace Go.Proofs.Ytmdpbdhkmfjlhaa
open Go Go.Bw

abbrev Rn := runs_Run
structure Can (l : List Rn) : Prop where
  ran : ∀ y ∈ l, 0 ≤ y.At ∧ 1 ≤ y.N ∧ y.At + y.N ≤ 64
  pw : l.Pairwise fun y z => y.At + y.N < z.At
def memI (l : List Rn) (p : Int) : Prop := ∃ y ∈ l, y.At ≤ p ∧ p < y.At + y.N
def okR (at_ k : Int) : Prop := 1 ≤ k ∧ 0 ≤ at_ ∧ at_ + k ≤ 64
instance (a k : Int) : Decidable (okR a k) := by unfold okR; infer_instance
def I64 (x : Int) : Prop := -9223372036854775808 ≤ x ∧ x ≤ 9223372036854775807

theorem Can.nil : Can [] := ⟨by simp, .nil⟩
theorem can_len' : ∀ {l : List Rn} {lo : Int}, Can l → (∀ y ∈ l, lo ≤ y.At) → lo ≤ 65 → (l.length : Int) * 2 ≤ 65 - lo
  | [], lo, _, _, h => by simp; omega
  | y :: r, lo, h, hl, _ => by
    obtain ⟨h1, h2⟩ := List.pairwise_cons.1 h.pw
    have hy := h.ran y (by simp)
    have hy' := hl y (by simp)
    have := can_len' (l := r) (lo := y.At + y.N + 1) ⟨fun z hz => h.ran z (by simp [hz]), h2⟩ (fun z hz => by have := h1 z hz; omega) (by omega)
    simp only [List.length_cons]; omega
theorem Can.len {l : List Rn} (h : Can l) : l.length ≤ 32 := by
  have := can_len' (lo := 0) h (fun y hy => (h.ran y hy).1) (by omega)
  omega
/-- two runs of a set are one, or apart -/
theorem Can.two {l : List Rn} (h : Can l) {y z : Rn} (hy : y ∈ l) (hz : z ∈ l) : y = z ∨ y.At + y.N < z.At ∨ z.At + z.N < y.At := by
  have := h.pw
  clear h
  induction l with
  | nil => simp at hy
  | cons x r ih =>
    obtain ⟨h1, h2⟩ := List.pairwise_cons.1 this
    rcases List.mem_cons.1 hy with rfl | hy' <;> rcases List.mem_cons.1 hz with rfl | hz'
    · exact .inl rfl
    · exact .inr (.inl (h1 z hz'))
    · exact .inr (.inr (h1 y hy'))
    · exact ih hy' hz' h2
theorem memI_nil (p : Int) : ¬ memI [] p := by simp [memI]
theorem memI_cons {y : Rn} {r : List Rn} {p : Int} : memI (y :: r) p ↔ (y.At ≤ p ∧ p < y.At + y.N) ∨ memI r p := by simp [memI]
theorem memI_app {l r : List Rn} {p : Int} : memI (l ++ r) p ↔ memI l p ∨ memI r p := by simp [memI, or_and_right, exists_or]
theorem memI_ran {l : List Rn} (h : Can l) {p : Int} (hp : memI l p) : 0 ≤ p ∧ p < 64 := by
  obtain ⟨y, hy, h1, h2⟩ := hp
  have := h.ran y hy
  omega
/-- the run of a set that has a page, and all behind it, has them all -/
theorem Can.whole {l : List Rn} (h : Can l) {at_ k : Int} (hk : 1 ≤ k) (hm : ∀ p, at_ ≤ p → p < at_ + k → memI l p) : ∃ y ∈ l, y.At ≤ at_ ∧ at_ + k ≤ y.At + y.N := by
  obtain ⟨y, hy, h1, h2⟩ := hm at_ (by omega) (by omega)
  refine ⟨y, hy, h1, ?_⟩
  refine Int.not_lt.1 fun hlt => ?_
  obtain ⟨z, hz, h3, h4⟩ := hm (y.At + y.N) (by omega) (by omega)
  rcases h.two hy hz with rfl | h5 | h5
  · omega
  · omega
  · have := h.ran z hz; omega
/-- sets of the same pages have the same runs -/
theorem can_ext : ∀ {l m : List Rn}, Can l → Can m → (∀ p, memI l p ↔ memI m p) → l = m
  | [], [], _, _, _ => rfl
  | [], z :: m, _, hm, h => by
    have := hm.ran z (by simp)
    exact absurd ((h z.At).2 (memI_cons.2 (.inl ⟨by omega, by omega⟩))) (memI_nil _)
  | y :: l, [], hl, _, h => by
    have := hl.ran y (by simp)
    exact absurd ((h y.At).1 (memI_cons.2 (.inl ⟨by omega, by omega⟩))) (memI_nil _)
  | y :: l, z :: m, hl, hm, h => by
    obtain ⟨a1, a2⟩ := List.pairwise_cons.1 hl.pw
    obtain ⟨b1, b2⟩ := List.pairwise_cons.1 hm.pw
    have hy := hl.ran y (by simp)
    have hz := hm.ran z (by simp)
    have f1 : ∀ p, memI l p → y.At + y.N < p := fun p ⟨q, hq, h1, h2⟩ => by have := a1 q hq; omega
    have f2 : ∀ p, memI m p → z.At + z.N < p := fun p ⟨q, hq, h1, h2⟩ => by have := b1 q hq; omega
    have g1 : ∀ p, y.At ≤ p → p < y.At + y.N → (z.At ≤ p ∧ p < z.At + z.N) ∨ memI m p := fun p h1 h2 => memI_cons.1 ((h p).1 (memI_cons.2 (.inl ⟨h1, h2⟩)))
    have g2 : ∀ p, z.At ≤ p → p < z.At + z.N → (y.At ≤ p ∧ p < y.At + y.N) ∨ memI l p := fun p h1 h2 => memI_cons.1 ((h p).2 (memI_cons.2 (.inl ⟨h1, h2⟩)))
    have e1 : y.At = z.At := by
      rcases g1 y.At (by omega) (by omega) with c | c <;> rcases g2 z.At (by omega) (by omega) with d | d
      · omega
      · have := f1 _ d; omega
      · have := f2 _ c; omega
      · have := f1 _ d; have := f2 _ c; omega
    have e2 : y.N = z.N := by
      refine Int.le_antisymm (Int.not_lt.1 fun hlt => ?_) (Int.not_lt.1 fun hlt => ?_)
      · rcases g1 (z.At + z.N) (by omega) (by omega) with c | c
        · omega
        · have := f2 _ c; omega
      · rcases g2 (y.At + y.N) (by omega) (by omega) with c | c
        · omega
        · have := f1 _ c; omega
    have e : y = z := by cases y; cases z; simp_all
    subst e
    congr 1
    refine can_ext ⟨fun q hq => hl.ran q (by simp [hq]), a2⟩ ⟨fun q hq => hm.ran q (by simp [hq]), b2⟩ fun p => ⟨fun hp => ?_, fun hp => ?_⟩
    · rcases memI_cons.1 ((h p).1 (memI_cons.2 (.inr hp))) with c | c
      · have := f1 _ hp; omega
      · exact c
    · rcases memI_cons.1 ((h p).2 (memI_cons.2 (.inr hp))) with c | c
      · have := f2 _ hp; omega
      · exact c

/-! the document's -/
def allI (w : Nat → Bool) (at_ k : Int) (b : Bool) : Prop := ∀ p, at_ ≤ p → p < at_ + k → w p.toNat = b
theorem refis_eq {n : Nat} (hn : 70 ≤ n) (w : Nat → Bool) {at_ k : Int} (b : Bool) (ha : I64 at_) (hk : I64 k) : ∃ r, ref01_Set_Is n w at_ k b = some r ∧ (r = true ↔ okR at_ k ∧ allI w at_ k b) := by
  unfold ref01_Set_Is
  obtain ⟨a1, a2⟩ := ha
  obtain ⟨k1, k2⟩ := hk
  by_cases ho : okR at_ k
  · obtain ⟨o1, o2, o3⟩ := ho
    rw [cn_false (by rw [w_i64 (by omega) (by omega)]; simp; omega)]
    refine loop1_ind (fun (x : Int) => 0 ≤ x ∧ x ≤ k ∧ ∀ p, at_ ≤ p → p < at_ + x → w p.toNat = b) (fun x => (k - x).toNat) (fun o => ∃ r, o = some r ∧ (r = true ↔ okR at_ k ∧ allI w at_ k b)) ?_ n 0 ⟨by omega, by omega, fun p _ _ => by omega⟩ (by omega)
    rintro kk x ⟨x0, x1, hx⟩ ih
    by_cases hc : x < k
    · rw [cn_true (by simpa using hc), w_i64 (by omega) (by omega), gu_true (inb_t (by omega) (by omega))]
      by_cases he : w (Int.toNat (at_ + x)) = b
      · rw [cn_false (by simp [he]), w_i64 (by omega) (by omega)]
        refine ih _ ⟨by omega, by omega, fun p h1 h2 => ?_⟩ (by omega)
        by_cases e : p = at_ + x
        · subst e; exact he
        · exact hx p h1 (by omega)
      · rw [cn_true (by simpa using he)]
        exact ⟨false, rfl, by simp; exact fun _ h => he (h _ (by omega) (by omega))⟩
    · rw [cn_false (by simpa using hc)]
      exact ⟨true, rfl, by simp; exact ⟨⟨o1, o2, o3⟩, fun p h1 h2 => hx p h1 (by omega)⟩⟩
  · rw [cn_true (by
      unfold okR at ho
      by_cases h1 : k < 1
      · simp [h1]
      by_cases h2 : 64 < k
      · simp [h2]
      by_cases h3 : at_ < 0
      · simp [h3]
      by_cases h4 : 63 < at_
      · simp [h4]
      rw [w_i64 (by omega) (by omega)]
      simp; omega)]
    exact ⟨false, rfl, by simp [ho]⟩
theorem refwith_eq {n : Nat} (hn : 70 ≤ n) (w : Nat → Bool) {at_ k : Int} (b : Bool) (ho : okR at_ k) : ∃ w', ref01_Set_With n w at_ k b = some w' ∧ ∀ p : Nat, w' p = if at_ ≤ (p : Int) ∧ (p : Int) < at_ + k then b else w p := by
  unfold ref01_Set_With
  obtain ⟨o1, o2, o3⟩ := ho
  refine loop2_ind (fun (x : Int) (v : Nat → Bool) => 0 ≤ x ∧ x ≤ k ∧ ∀ p : Nat, v p = if at_ ≤ (p : Int) ∧ (p : Int) < at_ + x then b else w p) (fun x _ => (k - x).toNat) (fun o => ∃ w' : Nat → Bool, o = some w' ∧ ∀ p : Nat, w' p = if at_ ≤ (p : Int) ∧ (p : Int) < at_ + k then b else w p) ?_ n 0 w ⟨by omega, by omega, fun p => by rw [if_neg (by omega)]⟩ (by omega)
  rintro kk x v ⟨x0, x1, hx⟩ ih
  by_cases hc : x < k
  · rw [cn_true (by simpa using hc), w_i64 (by omega) (by omega), gu_true (inb_t (by omega) (by omega)), lt_eq, w_i64 (by omega) (by omega)]
    refine ih _ _ ⟨by omega, by omega, fun p => ?_⟩ (by omega)
    rw [upd_ite, hx p]
    by_cases e : p = Int.toNat (at_ + x)
    · rw [if_pos e, if_pos (by omega)]
    · rw [if_neg e]
      by_cases e2 : at_ ≤ (p : Int) ∧ (p : Int) < at_ + x
      · rw [if_pos e2, if_pos (by omega)]
      · rw [if_neg e2, if_neg (by omega)]
  · rw [cn_false (by simpa using hc)]
    obtain rfl : x = k := by omega
    exact ⟨v, rfl, hx⟩
theorem refof_eq {n : Nat} (hn : 70 ≤ n) (k : Int) : ∃ w, ref01_Of n k = some w ∧ ∀ p : Nat, p < 64 → w p = decide ((p : Int) < k) := by
  unfold ref01_Of
  refine loop2_ind (fun (x : Int) (v : Nat → Bool) => 0 ≤ x ∧ x ≤ 64 ∧ ∀ p : Nat, (p : Int) < x → v p = decide ((p : Int) < k)) (fun x _ => (64 - x).toNat) (fun o => ∃ w : Nat → Bool, o = some w ∧ ∀ p : Nat, p < 64 → w p = decide ((p : Int) < k)) ?_ n 0 _ ⟨by omega, by omega, fun p h => by omega⟩ (by omega)
  rintro kk x v ⟨x0, x1, hx⟩ ih
  by_cases hc : x < 64
  · rw [cn_true (by simpa using hc), gu_true (inb_t x0 (by omega)), lt_eq, w_i64 (by omega) (by omega)]
    refine ih _ _ ⟨by omega, by omega, fun p h => ?_⟩ (by omega)
    rw [upd_ite]
    by_cases e : p = x.toNat
    · subst e; rw [if_pos rfl]; congr 1; rw [Int.toNat_of_nonneg x0]
    · rw [if_neg e]; exact hx p (by omega)
  · rw [cn_false (by simpa using hc)]
    exact ⟨v, rfl, fun p h => hx p (by omega)⟩
theorem reffind_eq {n : Nat} (hn : 70 ≤ n) (w : Nat → Bool) {k : Int} (hk : I64 k) : ∃ r, ref01_Set_Find n w k = some r ∧ ((r = -1 ∧ ∀ a, ¬ (okR a k ∧ allI w a k true)) ∨ (0 ≤ r ∧ okR r k ∧ allI w r k true ∧ ∀ a, 0 ≤ a → a < r → ¬ (okR a k ∧ allI w a k true))) := by
  unfold ref01_Set_Find
  refine loop1_ind (fun (x : Int) => 0 ≤ x ∧ x ≤ 64 ∧ ∀ a, 0 ≤ a → a < x → ¬ (okR a k ∧ allI w a k true)) (fun x => (64 - x).toNat) (fun o => ∃ r, o = some r ∧ ((r = -1 ∧ ∀ a, ¬ (okR a k ∧ allI w a k true)) ∨ (0 ≤ r ∧ okR r k ∧ allI w r k true ∧ ∀ a, 0 ≤ a → a < r → ¬ (okR a k ∧ allI w a k true)))) ?_ n 0 ⟨by omega, by omega, fun a _ _ => by omega⟩ (by omega)
  rintro kk x ⟨x0, x1, hx⟩ ih
  by_cases hc : x < 64
  · obtain ⟨r, hr, hr'⟩ := refis_eq hn w (at_ := x) (k := k) true ⟨by omega, by omega⟩ hk
    rw [cn_true (by simpa using hc), bd_some hr]
    cases r with
    | true =>
      obtain ⟨h1, h2⟩ := hr'.1 rfl
      exact ⟨x, rfl, .inr ⟨x0, h1, h2, hx⟩⟩
    | false =>
      rw [cn_false rfl, w_i64 (by omega) (by omega)]
      refine ih _ ⟨by omega, by omega, fun a h1 h2 => ?_⟩ (by omega)
      by_cases e : a = x
      · subst e; exact fun h => by have := hr'.2 h; cases this
      · exact hx a h1 (by omega)
  · rw [cn_false (by simpa using hc)]
    refine ⟨-1, rfl, .inl ⟨rfl, fun a h => ?_⟩⟩
    obtain ⟨o1, o2, o3⟩ := h.1
    exact hx a o2 (by omega) h

/-! the program's -/
theorem all_eq {n : Nat} {l : List Rn} (hl : l.length ≤ 100) (hn : 110 ≤ n) : ∃ xs, slices_All_9402_1 n l = some xs ∧ xs.map Prod.snd = l := by
  unfold slices_All_9402_1
  have key : ∀ (m x : Nat), x ≤ l.length → l.length - x < m → ∃ xs, loop1 (fun k37 (x29 : Int) => cn (decide (x29 < (l.length : Int))) (gu (inb x29 l.length) <| lt ((l.getD (Int.toNat x29) default) : runs_Run) fun x39 => yl (x29, x39) <| k37 (wr .i64 (x29 + 1))) (some [])) m (x : Int) = some xs ∧ xs.map Prod.snd = l.drop x := by
    intro m
    induction m with
    | zero => intro x _ h; omega
    | succ m ih =>
      intro x hx hm
      simp only [loop1]
      by_cases hc : x < l.length
      · rw [cn_true (by simpa using hc), gu_true (inb_t (by omega) (by omega)), lt_eq, w_i64 (by omega) (by omega)]
        obtain ⟨xs, h1, h2⟩ := ih (x + 1) (by omega) (by omega)
        have e : ((x : Int) + 1) = ((x + 1 : Nat) : Int) := by omega
        rw [e, h1]
        refine ⟨_, rfl, ?_⟩
        rw [List.map_cons, h2, List.drop_eq_getElem_cons hc, Int.toNat_natCast, List.getD, List.getElem?_eq_getElem hc]
        rfl
      · rw [cn_false (by simpa using hc)]
        exact ⟨[], rfl, by rw [List.drop_eq_nil_of_le (by omega)]; rfl⟩
  obtain ⟨xs, h1, h2⟩ := key n 0 (by omega) (by omega)
  exact ⟨xs, h1, by simpa using h2⟩
theorem each_eq (n : Nat) (r : runs_Runs) : runs_Runs_each n r = some r.l := rfl
theorem may_eq {n : Nat} {at_ k : Int} (ha : I64 at_) (hk : I64 k) : ∃ b, runs_Run_may n ⟨at_, k⟩ = some b ∧ (b = true ↔ okR at_ k) := by
  obtain ⟨a1, a2⟩ := ha
  obtain ⟨k1, k2⟩ := hk
  refine ⟨_, rfl, ?_⟩
  show ((decide (1 ≤ k) && decide (0 ≤ at_)) && decide (at_ ≤ wr .i64 (64 - k))) = true ↔ _
  unfold okR
  by_cases h : 1 ≤ k
  · rw [w_i64 (by omega) (by omega)]; simp; omega
  · simp [h]
theorem end_eq {n : Nat} {y : Rn} (h : 0 ≤ y.At ∧ 1 ≤ y.N ∧ y.At + y.N ≤ 64) : runs_Run_end n y = some (y.At + y.N) := by
  unfold runs_Run_end; rw [w_i64 (by omega) (by omega)]
def inR (y x : Rn) : Prop := y.At ≤ x.At ∧ x.At + x.N ≤ y.At + y.N
instance (y x : Rn) : Decidable (inR y x) := by unfold inR; infer_instance
theorem holds_eq {n : Nat} {y x : Rn} (hy : 0 ≤ y.At ∧ 1 ≤ y.N ∧ y.At + y.N ≤ 64) (hx : okR x.At x.N) : runs_Run_holds n y x = some (decide (inR y x)) := by
  unfold runs_Run_holds okR at *
  rw [cl_some (end_eq (by omega)), cl_some (end_eq hy)]
  congr 1
  unfold inR
  by_cases he : EQ_runs_Run x y = true
  · have : x.At = y.At ∧ x.N = y.N := by simpa [EQ_runs_Run] using he
    simp [he, this.1, this.2]
  · by_cases h1 : y.At ≤ x.At
    · simp [he, h1]
    · simp [he, h1]
theorem index_eq {n : Nat} (hn : 110 ≤ n) {l : List Rn} (hl : Can l) {x : Rn} (hx : okR x.At x.N) : ∃ v, slices_IndexFunc_9402__runs_Runs_Take_1 n l x = some v ∧ ((v = -1 ∧ ∀ y ∈ l, ¬ inR y x) ∨ ∃ i, ∃ h : i < l.length, v = (i : Int) ∧ inR l[i] x) := by
  unfold slices_IndexFunc_9402__runs_Runs_Take_1
  have hlen := hl.len
  refine loop1_ind (fun (v : Int) => 0 ≤ v ∧ v ≤ l.length ∧ ∀ y ∈ l.take v.toNat, ¬ inR y x) (fun v => ((l.length : Int) - v).toNat) (fun o => ∃ v, o = some v ∧ ((v = -1 ∧ ∀ y ∈ l, ¬ inR y x) ∨ ∃ i, ∃ h : i < l.length, v = (i : Int) ∧ inR l[i] x)) ?_ n 0 ⟨by omega, by omega, by simp⟩ (by omega)
  rintro kk v ⟨v0, v1, hv⟩ ih
  obtain ⟨i, rfl⟩ := Int.eq_ofNat_of_zero_le v0
  by_cases hc : i < l.length
  · have hg : l.getD (Int.toNat (i : Int)) default = l[i] := by rw [Int.toNat_natCast, List.getD, List.getElem?_eq_getElem hc]; rfl
    rw [cn_true (by simpa using hc), gu_true (inb_t (by omega) (by omega)), hg, w_i64 (by omega) (by omega)]
    rw [bd_some (show runs_Runs_Take_1 n l[i] x = some (decide (inR l[i] x)) by unfold runs_Runs_Take_1; rw [bd_some (holds_eq (hl.ran _ (List.getElem_mem hc)) hx)])]
    by_cases he : inR l[i] x
    · rw [cn_true (by simpa using he)]
      exact ⟨_, rfl, .inr ⟨i, hc, rfl, he⟩⟩
    · rw [cn_false (by simpa using he)]
      refine ih _ ⟨by omega, by omega, fun y hy => ?_⟩ (by omega)
      have e : ((i : Int) + 1).toNat = i + 1 := by omega
      rw [e, List.take_succ_eq_append_getElem hc] at hy
      rcases List.mem_append.1 hy with h | h
      · exact hv y (by simpa using h)
      · rw [List.mem_singleton.1 h]; exact he
  · rw [cn_false (by simpa using hc)]
    refine ⟨-1, rfl, .inl ⟨rfl, fun y hy => hv y ?_⟩⟩
    rw [List.take_of_length_le (by omega)]; exact hy
theorem index_has {n : Nat} {l : List Rn} {x : Rn} : slices_IndexFunc_9402__runs_Runs_Has_1 n l x = slices_IndexFunc_9402__runs_Runs_Take_1 n l x := rfl
theorem inR_mem {y x : Rn} (h : inR y x) (hx : okR x.At x.N) {l : List Rn} (hy : y ∈ l) : ∀ p, x.At ≤ p → p < x.At + x.N → memI l p := fun p h1 h2 => ⟨y, hy, by unfold inR at h; omega, by unfold inR at h; omega⟩
theorem has_eq {n : Nat} (hn : 110 ≤ n) {r : runs_Runs} (hr : Can r.l) {p : Int} (hp : I64 p) : ∃ b, runs_Runs_Has n r p = some b ∧ (b = true ↔ memI r.l p) := by
  unfold runs_Runs_Has
  rw [lt_eq]
  obtain ⟨b, hb, hb'⟩ := may_eq (n := n) hp (show I64 1 from ⟨by omega, by omega⟩)
  rw [bd_some hb]
  cases b with
  | false =>
    refine ⟨false, rfl, ⟨fun h => (by cases h), fun hm => ?_⟩⟩
    have := memI_ran hr hm
    exact hb'.2 ⟨by omega, by omega, by omega⟩
  | true =>
    have ho := hb'.1 rfl
    obtain ⟨v, h1, h2⟩ := index_eq hn hr (x := ⟨p, 1⟩) ho
    have h3 : slices_ContainsFunc_9402__runs_Runs_Has_1 n r.l ⟨p, 1⟩ = some (decide (0 ≤ v)) := by
      unfold slices_ContainsFunc_9402__runs_Runs_Has_1
      rw [index_has, bd_some h1]
    rw [cl_true (g := (true == true)) rfl h3]
    refine ⟨_, rfl, ?_⟩
    rcases h2 with ⟨rfl, h2⟩ | ⟨i, hi, rfl, h2⟩
    · simp
      rintro ⟨y, hy, h4, h5⟩
      exact h2 y hy ⟨h4, by show p + 1 ≤ _; omega⟩
    · simp
      exact inR_mem h2 ho (List.getElem_mem hi) p (by show p ≤ p; omega) (by show p < p + 1; omega)

theorem of_eq {n : Nat} (k : Int) : ∃ r, runs_Of n k = some r ∧ Can r.l ∧ ∀ p, 0 ≤ p → p < 64 → (memI r.l p ↔ p < k) := by
  unfold runs_Of
  by_cases h1 : (if 64 < k then 64 else k) < 1
  · rw [cn_true (by simpa using h1)]
    refine ⟨⟨[]⟩, rfl, Can.nil, fun p h2 h3 => ⟨fun h => absurd h (memI_nil p), fun h => ?_⟩⟩
    split at h1 <;> omega
  · rw [cn_false (by simpa using h1)]
    refine ⟨⟨[⟨0, if 64 < k then 64 else k⟩]⟩, rfl, ⟨?_, List.pairwise_singleton _ _⟩, fun p h2 h3 => ?_⟩
    · intro y hy
      obtain rfl := List.mem_singleton.1 hy
      show 0 ≤ (0 : Int) ∧ 1 ≤ (if 64 < k then 64 else k) ∧ 0 + (if 64 < k then 64 else k) ≤ 64
      split at h1 <;> split <;> omega
    · rw [memI_cons]
      show (0 ≤ p ∧ p < 0 + (if 64 < k then 64 else k)) ∨ memI [] p ↔ _
      constructor
      · rintro (h | h)
        · split at h <;> omega
        · exact absurd h (memI_nil p)
      · intro h; refine .inl ?_; split <;> omega
def fitB (k : Int) (y : Rn) : Bool := decide (1 ≤ k) && decide (k ≤ y.N)
def findR (k : Int) (l : List Rn) : Int × Bool := match l.find? (fitB k) with | some y => (y.At, true) | none => (0, false)
theorem find_eq {n : Nat} (hn : 110 ≤ n) {r : runs_Runs} (hr : Can r.l) (k : Int) : runs_Runs_Find n r k = some (findR k r.l) := by
  unfold runs_Runs_Find
  rw [bd_some (each_eq n r)]
  obtain ⟨xs, h1, h2⟩ := all_eq (n := n) (l := r.l) (by have := hr.len; omega) hn
  rw [bd_some h1, ← h2]
  clear h1 h2 hr
  induction xs with
  | nil => rfl
  | cons e xs ih =>
    show cn (fitB k e.2) (some (e.2.At, true)) _ = _
    unfold findR
    rw [List.map_cons, List.find?_cons]
    cases hf : fitB k e.2 with
    | true => rfl
    | false => exact ih
def inL (l : List Rn) (a k : Int) : Prop := okR a k ∧ ∀ p, a ≤ p → p < a + k → memI l p
theorem findR_t {l : List Rn} (hl : Can l) {k : Int} : (findR k l = (0, false) ∧ ∀ a, ¬ inL l a k) ∨ ∃ v, findR k l = (v, true) ∧ 0 ≤ v ∧ inL l v k ∧ ∀ a, a < v → ¬ inL l a k := by
  unfold findR
  cases hf : l.find? (fitB k) with
  | none =>
    refine .inl ⟨rfl, fun a ⟨⟨o1, o2, o3⟩, h⟩ => ?_⟩
    obtain ⟨y, hy, h1, h2⟩ := hl.whole o1 h
    have := List.find?_eq_none.1 hf y hy
    refine this ?_
    simp only [fitB, Bool.and_eq_true, decide_eq_true_eq]; omega
  | some y =>
    obtain ⟨hp, us, bs, e, hno⟩ := List.find?_eq_some_iff_append.1 hf
    have hy : y ∈ l := by rw [e]; simp
    have hyr := hl.ran y hy
    simp only [fitB, Bool.and_eq_true, decide_eq_true_eq] at hp
    refine .inr ⟨y.At, rfl, by omega, ⟨⟨by omega, by omega, by omega⟩, fun p h1 h2 => ⟨y, hy, h1, by omega⟩⟩, fun a ha ⟨⟨o1, o2, o3⟩, h⟩ => ?_⟩
    obtain ⟨z, hz, h1, h2⟩ := hl.whole o1 h
    have hzy : z ∈ us := by
      rw [e] at hz
      rcases List.mem_append.1 hz with hz | hz
      · exact hz
      · rcases List.mem_cons.1 hz with rfl | hz
        · omega
        · have hpw := hl.pw
          rw [e] at hpw
          have := (List.pairwise_cons.1 (List.pairwise_append.1 hpw).2.1).1 z hz
          omega
    have := hno z hzy
    simp only [fitB, Bool.not_eq_true', Bool.and_eq_false_iff, decide_eq_false_iff_not] at this
    omega

theorem concat_eq {n : Nat} {a b c : List Rn} (ha : a.length ≤ 100) (hb : b.length ≤ 100) (hc : c.length ≤ 100) : slices_Concat_9402__lit3 n a b c = some (a ++ b ++ c) := by
  unfold slices_Concat_9402__lit3
  have e1 : wr .i64 (0 + (a.length : Int)) = a.length := by rw [w_i64 (by omega) (by omega)]; omega
  have e2 : wr .i64 ((a.length : Int) + b.length) = (a.length : Int) + b.length := w_i64 (by omega) (by omega)
  have e3 : wr .i64 ((a.length : Int) + b.length + c.length) = (a.length : Int) + b.length + c.length := w_i64 (by omega) (by omega)
  rw [e1, e2, e3, cn_false (by simp), cn_false (by simp; omega), cn_false (by simp; omega)]
  have hg : slices_Grow_9402__nil0 n ((a.length : Int) + b.length + c.length) = some () := by
    unfold slices_Grow_9402__nil0
    simp only [lt_eq]
    rw [cn_false (by simp; omega), w_i64 (by omega) (by omega)]
    by_cases h0 : 0 < (a.length : Int) + b.length + c.length
    · rw [cn_true (by simp; omega), gu_true]
      simp only [growok, decide_eq_true_eq]
      omega
    · rw [cn_false (by simp; omega)]
  rw [bd_some hg, gu_true (apok_t (by simp; omega) (by simp; omega)), lt_eq, gu_true (apok_t (by simp; omega) (by simp; omega)), lt_eq, gu_true (apok_t (by simp; omega) (by simp; omega)), lt_eq]
  rfl

/-- a run out of a set -/
theorem Can.cut {l : List Rn} (h : Can l) {i : Nat} (hi : i < l.length) {left : List Rn} {at_ k : Int} (hk : 1 ≤ k) (hin : l[i].At ≤ at_ ∧ at_ + k ≤ l[i].At + l[i].N)
    (hl : Can left) (hm : ∀ p, memI left p ↔ (l[i].At ≤ p ∧ p < l[i].At + l[i].N) ∧ ¬ (at_ ≤ p ∧ p < at_ + k)) (hb : ∀ y ∈ left, l[i].At ≤ y.At ∧ y.At + y.N ≤ l[i].At + l[i].N) :
    Can (l.take i ++ left ++ l.drop (i + 1)) ∧ ∀ p, memI (l.take i ++ left ++ l.drop (i + 1)) p ↔ memI l p ∧ ¬ (at_ ≤ p ∧ p < at_ + k) := by
  have e : l = l.take i ++ l[i] :: l.drop (i + 1) := by rw [← List.drop_eq_getElem_cons hi, List.take_append_drop]
  generalize hy : l[i] = y at *
  have hpw := h.pw
  rw [e] at hpw
  obtain ⟨q1, q2, q3⟩ := List.pairwise_append.1 hpw
  obtain ⟨q4, q5⟩ := List.pairwise_cons.1 q2
  have hyl : y ∈ l := by rw [e]; simp
  have hyr := h.ran y hyl
  refine ⟨⟨?_, ?_⟩, fun p => ?_⟩
  · intro z hz
    rcases List.mem_append.1 hz with hz | hz
    · rcases List.mem_append.1 hz with hz | hz
      · exact h.ran z (List.mem_of_mem_take hz)
      · exact hl.ran z hz
    · exact h.ran z (List.mem_of_mem_drop hz)
  · refine List.pairwise_append.2 ⟨List.pairwise_append.2 ⟨q1, hl.pw, fun a ha b hb' => ?_⟩, q5, fun a ha b hb' => ?_⟩
    · have := q3 a ha y (by simp); have := hb b hb'; omega
    · rcases List.mem_append.1 ha with ha | ha
      · exact q3 a ha b (by simp [hb'])
      · have := q4 b hb'; have := hb a ha; omega
  · have hp : memI l p ↔ memI (l.take i) p ∨ (y.At ≤ p ∧ p < y.At + y.N) ∨ memI (l.drop (i + 1)) p := by
      conv => lhs; rw [e, memI_app, memI_cons]
    rw [memI_app, memI_app, hm p, hp]
    have t1 : memI (l.take i) p → p < y.At := fun ⟨z, hz, h1, h2⟩ => by have := q3 z hz y (by simp); omega
    have t2 : memI (l.drop (i + 1)) p → y.At + y.N < p := fun ⟨z, hz, h1, h2⟩ => by have := q4 z hz; omega
    constructor
    · rintro ((c | ⟨c1, c2⟩) | c)
      · have := t1 c; exact ⟨.inl c, by omega⟩
      · exact ⟨.inr (.inl c1), c2⟩
      · have := t2 c; exact ⟨.inr (.inr c), by omega⟩
    · rintro ⟨c | c | c, d⟩
      · exact .inl (.inl c)
      · exact .inl (.inr ⟨c, d⟩)
      · exact .inr c
theorem take_eq {n : Nat} (hn : 110 ≤ n) {r : runs_Runs} (hr : Can r.l) {at_ k : Int} (ha : I64 at_) (hk : I64 k) :
    ∃ r' g, runs_Runs_Take n r at_ k = some (r', g) ∧ (g = true ↔ inL r.l at_ k) ∧ (g = false → r' = r) ∧ (g = true → Can r'.l ∧ ∀ p, memI r'.l p ↔ memI r.l p ∧ ¬ (at_ ≤ p ∧ p < at_ + k)) := by
  unfold runs_Runs_Take
  rw [lt_eq]
  obtain ⟨b, hb, hb'⟩ := may_eq (n := n) ha hk
  rw [bd_some hb]
  cases b with
  | false =>
    refine ⟨r, false, rfl, ⟨fun h => (by cases h), fun h => hb'.2 h.1⟩, fun _ => rfl, fun h => (by cases h)⟩
  | true =>
    have ho := hb'.1 rfl
    obtain ⟨o1, o2, o3⟩ := ho
    obtain ⟨v, h1, h2⟩ := index_eq hn hr (x := ⟨at_, k⟩) ⟨o1, o2, o3⟩
    rw [cn_false (b := !true) rfl, bd_some h1]
    rcases h2 with ⟨rfl, h2⟩ | ⟨i, hi, rfl, h2⟩
    · refine ⟨r, false, rfl, ⟨fun h => (by cases h), fun h => ?_⟩, fun _ => rfl, fun h => (by cases h)⟩
      obtain ⟨y, hy, h3, h4⟩ := hr.whole o1 h.2
      exact absurd ⟨h3, h4⟩ (h2 y hy)
    · have hlen := hr.len
      have hyr := hr.ran _ (List.getElem_mem hi)
      have hg : r.l.getD (Int.toNat (i : Int)) default = r.l[i] := by rw [Int.toNat_natCast, List.getD, List.getElem?_eq_getElem hi]; rfl
      have hin : r.l[i].At ≤ at_ ∧ at_ + k ≤ r.l[i].At + r.l[i].N := h2
      have e1 : wr .i64 ((i : Int) + 1) = ((i + 1 : Nat) : Int) := by rw [w_i64 (by omega) (by omega)]; omega
      rw [cn_false (by simp), gu_true (inb_t (by omega) (by omega)), lt_eq, hg]
      have fin : ∀ left : List Rn, left.length ≤ 2 → Can left → (∀ p, memI left p ↔ (r.l[i].At ≤ p ∧ p < r.l[i].At + r.l[i].N) ∧ ¬ (at_ ≤ p ∧ p < at_ + k)) → (∀ y ∈ left, r.l[i].At ≤ y.At ∧ y.At + y.N ≤ r.l[i].At + r.l[i].N) →
          ∃ r' g, (gu (inb (i : Int) (r.l.length + 1)) <| gu (inb (wr .i64 ((i : Int) + 1)) (r.l.length + 1)) <| bd (slices_Concat_9402__lit3 n (r.l.take (Int.toNat (i : Int))) left (r.l.drop (Int.toNat (wr .i64 ((i : Int) + 1))))) fun x68 => lt ({ l := x68 } : runs_Runs) fun x76 => some (x76, true)) = some (r', g) ∧
            (g = true ↔ inL r.l at_ k) ∧ (g = false → r' = r) ∧ (g = true → Can r'.l ∧ ∀ p, memI r'.l p ↔ memI r.l p ∧ ¬ (at_ ≤ p ∧ p < at_ + k)) := fun left c1 c2 c3 c4 => by
        rw [e1, gu_true (inb_t (by omega) (by omega)), gu_true (inb_t (by omega) (by omega)), Int.toNat_natCast, Int.toNat_natCast, bd_some (concat_eq (by rw [List.length_take]; omega) (by omega) (by rw [List.length_drop]; omega))]
        exact ⟨_, true, rfl, ⟨fun _ => ⟨⟨o1, o2, o3⟩, inR_mem (x := ⟨at_, k⟩) h2 ⟨o1, o2, o3⟩ (List.getElem_mem hi)⟩, fun _ => rfl⟩, fun h => (by cases h), fun _ => hr.cut hi o1 hin c2 c3 c4⟩
      generalize hy : r.l[i] = y at *
      dsimp only [lt]
      have ex : runs_Run_end n (⟨at_, k⟩ : Rn) = some (at_ + k) := end_eq (y := ⟨at_, k⟩) ⟨o2, o1, o3⟩
      have ey : runs_Run_end n y = some (y.At + y.N) := end_eq hyr
      by_cases c1 : y.At < at_
      · rw [cn_true (by simpa using c1), w_i64 (x := at_ - y.At) (by omega) (by omega), gu_true (apok_t (by simp) (by simp)), bd_some ex, bd_some ey]
        by_cases c2 : at_ + k < y.At + y.N
        · rw [cn_true (by simpa using c2), bd_some ex, bd_some ey, bd_some ex, w_i64 (x := y.At + y.N - (at_ + k)) (by omega) (by omega), gu_true (apok_t (by simp) (by simp))]
          refine fin [⟨y.At, at_ - y.At⟩, ⟨at_ + k, y.At + y.N - (at_ + k)⟩] (by simp) ⟨?_, ?_⟩ (fun p => ?_) ?_
          · intro z hz
            simp only [List.nil_append, List.cons_append, List.mem_cons, List.not_mem_nil, or_false] at hz
            rcases hz with rfl | rfl <;> dsimp only <;> omega
          · refine List.pairwise_cons.2 ⟨fun z hz => ?_, List.pairwise_singleton _ _⟩
            obtain rfl := List.mem_singleton.1 hz
            dsimp only; omega
          · simp only [List.nil_append, List.cons_append, memI_cons, memI_nil, or_false]; omega
          · intro z hz
            simp only [List.nil_append, List.cons_append, List.mem_cons, List.not_mem_nil, or_false] at hz
            rcases hz with rfl | rfl <;> dsimp only <;> omega
        · rw [cn_false (by simpa using c2)]
          refine fin [⟨y.At, at_ - y.At⟩] (by simp) ⟨?_, List.pairwise_singleton _ _⟩ (fun p => ?_) ?_
          · intro z hz
            obtain rfl := List.mem_singleton.1 hz
            dsimp only; omega
          · simp only [List.nil_append, memI_cons, memI_nil, or_false]; omega
          · intro z hz
            obtain rfl := List.mem_singleton.1 hz
            dsimp only; omega
      · rw [cn_false (by simpa using c1), bd_some ex, bd_some ey]
        by_cases c2 : at_ + k < y.At + y.N
        · rw [cn_true (by simpa using c2), bd_some ex, bd_some ey, bd_some ex, w_i64 (x := y.At + y.N - (at_ + k)) (by omega) (by omega), gu_true (apok_t (by simp) (by simp))]
          refine fin [⟨at_ + k, y.At + y.N - (at_ + k)⟩] (by simp) ⟨?_, List.pairwise_singleton _ _⟩ (fun p => ?_) ?_
          · intro z hz
            obtain rfl := List.mem_singleton.1 hz
            dsimp only; omega
          · simp only [List.nil_append, memI_cons, memI_nil, or_false]; omega
          · intro z hz
            obtain rfl := List.mem_singleton.1 hz
            dsimp only; omega
        · rw [cn_false (by simpa using c2)]
          refine fin _ (by simp) Can.nil (fun p => ?_) (by simp)
          simp only [memI_nil, false_iff]; omega
end Go.Proofs.Ytmdpbdhkmfjlhaa
