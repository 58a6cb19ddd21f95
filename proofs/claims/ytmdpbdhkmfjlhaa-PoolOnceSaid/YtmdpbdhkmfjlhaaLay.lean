/- Layouts: how a value of a Lean type lies in cells; paths into it; and the words in which decompiled functions are written. No program is named. -/
import Derived.Test.YtmdpbdhkmfjlhaaDraw
import Derived.Test.YtmdpbdhkmfjlhaaOps4
import Derived.Test.YtmdpbdhkmfjlhaaFlat
import Derived.Test.YtmdpbdhkmfjlhaaRange
namespace Go.Bw
open Go Go.RowKit

/-! layouts -/
structure Lay (α : Type) where
  n : Nat
  rep : (World → Prop) → List Value → α → Prop
  len : ∀ {J cs x}, rep J cs x → cs.length = n
  one : ∀ {J cs x}, rep J cs x → OneC cs
  mono : ∀ {J J' : World → Prop} {cs x}, (∀ w, J' w → J w) → rep J cs x → rep J' cs x

class FlatL {α : Type} (L : Lay α) where
  enc : α → List Value
  iff : ∀ {J cs x}, L.rep J cs x ↔ cs = enc x

def Lay.enc {α : Type} (L : Lay α) [FlatL L] (x : α) : List Value := FlatL.enc L x

section
variable {α β γ S : Type}
theorem rp (L : Lay α) [FlatL L] (x : α) : L.rep (fun _ => True) (L.enc x) x := FlatL.iff.2 rfl
theorem enc_len (L : Lay α) [FlatL L] (x : α) : (L.enc x).length = L.n := L.len (rp L x)
theorem enc_one (L : Lay α) [FlatL L] (x : α) : OneC (L.enc x) := L.one (rp L x)

def LI (k : IntKind) : Lay Int where
  n := 1
  rep _ cs x := cs = [.int k x]
  len h := by subst h; rfl
  one h := by subst h; exact OneC_of rfl
  mono _ h := h
instance (k : IntKind) : FlatL (LI k) := ⟨fun x => [.int k x], Iff.rfl⟩
def LB : Lay Bool where
  n := 1
  rep _ cs x := cs = [.bool x]
  len h := by subst h; rfl
  one h := by subst h; exact OneC_of rfl
  mono _ h := h
instance : FlatL LB := ⟨fun x => [.bool x], Iff.rfl⟩

def LP (A : Lay α) (B : Lay β) : Lay (α × β) where
  n := A.n + B.n
  rep J cs x := ∃ c1 c2, cs = c1 ++ c2 ∧ A.rep J c1 x.1 ∧ B.rep J c2 x.2
  len := fun ⟨c1, c2, h, h1, h2⟩ => by subst h; simp [A.len h1, B.len h2]
  one := fun ⟨c1, c2, h, h1, h2⟩ => by subst h; exact (A.one h1).app (B.one h2)
  mono m := fun ⟨c1, c2, h, h1, h2⟩ => ⟨c1, c2, h, A.mono m h1, B.mono m h2⟩
instance (A : Lay α) (B : Lay β) [FlatL A] [FlatL B] : FlatL (LP A B) := ⟨fun x => A.enc x.1 ++ B.enc x.2, by
  intro J cs x
  constructor
  · rintro ⟨c1, c2, rfl, h1, h2⟩
    rw [FlatL.iff] at h1 h2; subst h1 h2; rfl
  · intro h; exact ⟨_, _, h, FlatL.iff.2 rfl, FlatL.iff.2 rfl⟩⟩

def Lay.via (A : Lay α) (f : S → α) : Lay S where
  n := A.n
  rep J cs s := A.rep J cs (f s)
  len h := A.len h
  one h := A.one h
  mono m h := A.mono m h
instance (A : Lay α) (f : S → α) [FlatL A] : FlatL (A.via f) := ⟨fun s => A.enc (f s), FlatL.iff (L := A)⟩

def LA (L : Lay α) (m : Nat) : Lay (Nat → α) where
  n := m * L.n
  rep J cs a := ∃ cc : Nat → List Value, cs = flat cc m ∧ ∀ i, i < m → L.rep J (cc i) (a i)
  len := fun ⟨cc, h, h1⟩ => by subst h; exact flat_len fun i hi => L.len (h1 i hi)
  one := fun ⟨cc, h, h1⟩ => by subst h; exact OneC.flat fun i hi => L.one (h1 i hi)
  mono m' := fun ⟨cc, h, h1⟩ => ⟨cc, h, fun i hi => L.mono m' (h1 i hi)⟩
instance (L : Lay α) (m : Nat) [FlatL L] : FlatL (LA L m) := ⟨fun a => flat (fun i => L.enc (a i)) m, by
  intro J cs a
  constructor
  · rintro ⟨cc, rfl, h⟩
    exact flat_congr fun i hi => FlatL.iff.1 (h i hi)
  · intro h; exact ⟨_, h, fun i _ => FlatL.iff.2 rfl⟩⟩

/-! paths -/
structure Pth (L : Lay α) (M : Lay β) (o : Nat) (g : α → β) (s : α → β → α) : Prop where
  get : ∀ {J cs x}, L.rep J cs x → M.rep J ((cs.drop o).take M.n) (g x)
  set : ∀ {J cs x vs v}, L.rep J cs x → M.rep J vs v → L.rep J (splice cs o vs) (s x v)
  le : o + M.n ≤ L.n

theorem Pth.id {L : Lay α} : Pth L L 0 (fun x => x) (fun _ v => v) where
  get h := by rw [List.drop_zero, List.take_of_length_le (by rw [L.len h]; exact Nat.le_refl _)]; exact h
  set := @fun J cs x vs v h hv => by
    have : splice cs 0 vs = vs := splice_all (by rw [L.len h, L.len hv])
    rw [this]; exact hv
  le := by omega
where splice_all {cs vs : List Value} (h : cs.length = vs.length) : splice cs 0 vs = vs := by simp [splice, ← h]

theorem Pth.fst {A : Lay α} {B : Lay β} {M : Lay γ} {o : Nat} {g : α → γ} {s : α → γ → α} (p : Pth A M o g s) : Pth (LP A B) M o (fun x => g x.1) (fun x v => (s x.1 v, x.2)) where
  get := fun ⟨c1, c2, h, h1, h2⟩ => by
    subst h
    have hl := A.len h1
    have := p.le
    rw [List.drop_append_of_le_length (by omega), List.take_append_of_le_length (by simp; omega)]
    exact p.get h1
  set := fun ⟨c1, c2, h, h1, h2⟩ hv => by
    subst h
    have hl := A.len h1
    have := p.le
    exact ⟨_, _, splice_left (by rw [M.len hv]; omega), p.set h1 hv, h2⟩
  le := by have := p.le; show o + M.n ≤ A.n + B.n; omega
theorem Pth.snd {A : Lay α} {B : Lay β} {M : Lay γ} {o : Nat} {g : β → γ} {s : β → γ → β} (p : Pth B M o g s) : Pth (LP A B) M (A.n + o) (fun x => g x.2) (fun x v => (x.1, s x.2 v)) where
  get := fun ⟨c1, c2, h, h1, h2⟩ => by
    subst h
    have hl := A.len h1
    rw [← hl, ← List.drop_drop, List.drop_left]
    exact p.get h2
  set := fun ⟨c1, c2, h, h1, h2⟩ hv => by
    subst h
    have hl := A.len h1
    exact ⟨c1, _, by rw [← hl]; exact splice_right, h1, p.set h2 hv⟩
  le := by have := p.le; show A.n + o + M.n ≤ A.n + B.n; omega
theorem Pth.via {A : Lay α} {M : Lay γ} {o : Nat} {g : α → γ} {s : α → γ → α} (p : Pth A M o g s) (f : S → α) (g' : S → γ) (s' : S → γ → S) (o' : Nat) (ho : o' = o) (hg : ∀ x, g' x = g (f x)) (hs : ∀ x v, f (s' x v) = s (f x) v) : Pth (A.via f) M o' g' s' where
  get h := by subst ho; rw [hg]; exact p.get h
  set h hv := by
    subst ho
    show A.rep _ _ (f (s' _ _))
    rw [hs]; exact p.set h hv
  le := by subst ho; exact p.le
theorem Pth.idx {L : Lay α} {m : Nat} (i : Nat) (h : i < m) {k : Nat} (hk : k = L.n) : Pth (LA L m) L (i * k) (fun a => a i) (fun a v => upd a i v) where
  get := fun ⟨cc, hc, h1⟩ => by
    subst hc hk
    have := flat_part (g := cc) (t := []) (fun j hj => L.len (h1 j hj)) h
    rw [List.append_nil] at this
    rw [this]; exact h1 i h
  set := @fun J cs x vs v hh hv => by
    obtain ⟨cc, hc, h1⟩ := hh
    subst hc hk
    refine ⟨upd cc i vs, flat_splice (fun j hj => L.len (h1 j hj)) h (L.len hv), fun j hj => ?_⟩
    unfold upd
    split
    · exact hv
    · exact h1 j hj
  le := by
    subst hk
    show i * L.n + L.n ≤ m * L.n
    rw [← Nat.succ_mul]; exact Nat.mul_le_mul_right _ h
theorem Pth.comp {L : Lay α} {M : Lay β} {K : Lay γ} {o1 o2 : Nat} {g1 : α → β} {s1 : α → β → α} {g2 : β → γ} {s2 : β → γ → β} (p : Pth L M o1 g1 s1) (q : Pth M K o2 g2 s2) : Pth L K (o1 + o2) (fun x => g2 (g1 x)) (fun x v => s1 x (s2 (g1 x) v)) where
  get h := by
    have h2 := q.get (p.get h)
    have := q.le
    rw [List.drop_take, List.take_take, List.drop_drop, Nat.min_eq_left (by omega)] at h2
    exact h2
  set := @fun J cs x vs v h hv => by
    have hl := L.len h
    have h2 := p.set h (q.set (p.get h) hv)
    have hv' := K.len hv
    have := q.le; have := p.le
    have e : splice cs o1 (splice ((cs.drop o1).take M.n) o2 vs) = splice cs (o1 + o2) vs := by
      refine list_ext fun j => ?_
      have hm := M.len (p.get h)
      have hlen : (splice ((cs.drop o1).take M.n) o2 vs).length = M.n := by
        rw [splice_len (by omega)]; exact hm
      rw [splice_get (by omega), splice_get (cs := cs) (vs := vs) (by omega), hlen, hv']
      by_cases h1 : o1 ≤ j ∧ j < o1 + M.n
      · rw [if_pos h1, splice_get (by omega), hv']
        by_cases h3 : o1 + o2 ≤ j ∧ j < o1 + o2 + K.n
        · rw [if_pos h3, if_pos (by omega), show j - o1 - o2 = j - (o1 + o2) by omega]
        · rw [if_neg h3, if_neg (by omega), List.getElem?_take, if_pos (by omega), List.getElem?_drop, show o1 + (j - o1) = j by omega]
      · rw [if_neg h1, if_neg (by omega)]
    rw [e] at h2; exact h2
  le := by have := q.le; have := p.le; omega
theorem Pth.c0 {L : Lay α} {M : Lay β} {K : Lay γ} {o2 : Nat} {g1 : α → β} {s1 : α → β → α} {g2 : β → γ} {s2 : β → γ → β} (p : Pth L M 0 g1 s1) (q : Pth M K o2 g2 s2) : Pth L K o2 (fun x => g2 (g1 x)) (fun x v => s1 x (s2 (g1 x) v)) := by
  have := p.comp q
  rwa [Nat.zero_add] at this

theorem Pth.int {L : Lay α} {k : IntKind} {o : Nat} {g : α → Int} {s : α → Int → α} (p : Pth L (LI k) o g s) {J cs x} (r : L.rep J cs x) : cs[o]? = some (.int k (g x)) := by
  have h : (cs.drop o).take 1 = [.int k (g x)] := p.get r
  have h2 : ((cs.drop o).take 1)[0]? = some (.int k (g x)) := by rw [h]; rfl
  rw [List.getElem?_take, if_pos (by decide), List.getElem?_drop] at h2
  exact h2
theorem Pth.bool {L : Lay α} {o : Nat} {g : α → Bool} {s : α → Bool → α} (p : Pth L LB o g s) {J cs x} (r : L.rep J cs x) : cs[o]? = some (.bool (g x)) := by
  have h : (cs.drop o).take 1 = [.bool (g x)] := p.get r
  have h2 : ((cs.drop o).take 1)[0]? = some (.bool (g x)) := by rw [h]; rfl
  rw [List.getElem?_take, if_pos (by decide), List.getElem?_drop] at h2
  exact h2
theorem Pth.agg {L : Lay α} {M : Lay β} [FlatL L] [FlatL M] {o : Nat} {g : α → β} {s : α → β → α} (p : Pth L M o g s) (x : α) : ((L.enc x).drop o).take M.n = M.enc (g x) := FlatL.iff.1 (p.get (rp L x))
theorem Pth.put {L : Lay α} {M : Lay β} [FlatL L] [FlatL M] {o : Nat} {g : α → β} {s : α → β → α} (p : Pth L M o g s) (x : α) (v : β) : splice (L.enc x) o (M.enc v) = L.enc (s x v) := FlatL.iff.1 (p.set (rp L x) (rp M v))
end

/-! the words of decompiled functions -/
section words
variable {α ρ : Type}
def lt (a : α) (f : α → Option ρ) : Option ρ := f a
def gu (b : Bool) (k : Option ρ) : Option ρ := bif b then k else none
def bd (m : Option α) (f : α → Option ρ) : Option ρ := m.bind f
def cn (b : Bool) (x y : Option ρ) : Option ρ := bif b then x else y
/-- a call under a guard -/
def cl (g : Bool) (m : Option α) (z : α) (f : α → Option ρ) : Option ρ := bif g then m.bind f else f z
def inb (i : Int) (n : Nat) : Bool := decide (0 ≤ i) && decide (i < (n : Int))
abbrev wr (k : IntKind) (n : Int) : Int := k.wrap n
def shlI (k : IntKind) (a b : Int) : Int := k.wrap (a * 2 ^ (min b.toNat k.bits))
def shrI (k : IntKind) (a b : Int) : Int := a.fdiv (2 ^ (min b.toNat k.bits))
def andI (k : IntKind) (a b : Int) : Int := k.wrap ((BitVec.ofInt k.bits a &&& BitVec.ofInt k.bits b).toNat : Int)
def orI (k : IntKind) (a b : Int) : Int := k.wrap ((BitVec.ofInt k.bits a ||| BitVec.ofInt k.bits b).toNat : Int)
def xorI (k : IntKind) (a b : Int) : Int := k.wrap ((BitVec.ofInt k.bits a ^^^ BitVec.ofInt k.bits b).toNat : Int)
def andNotI (k : IntKind) (a b : Int) : Int := k.wrap ((BitVec.ofInt k.bits a &&& ~~~BitVec.ofInt k.bits b).toNat : Int)

theorem lt_e {a : α} {f : α → Option ρ} {r : ρ} (h : lt a f = some r) : ∃ x, x = a ∧ f x = some r := ⟨a, rfl, h⟩
theorem gu_e {b : Bool} {k : Option ρ} {r : ρ} (h : gu b k = some r) : b = true ∧ k = some r := by cases b with | true => exact ⟨rfl, h⟩ | false => cases h
theorem bd_e {m : Option α} {f : α → Option ρ} {r : ρ} (h : bd m f = some r) : ∃ x, m = some x ∧ f x = some r := by cases m with | none => cases h | some x => exact ⟨x, rfl, h⟩
theorem cn_t {b : Bool} {x y : Option ρ} {r : ρ} (hb : b = true) (h : cn b x y = some r) : x = some r := by subst hb; exact h
theorem cn_f {b : Bool} {x y : Option ρ} {r : ρ} (hb : b = false) (h : cn b x y = some r) : y = some r := by subst hb; exact h
theorem cl_e {g : Bool} {m : Option α} {z : α} {f : α → Option ρ} {r : ρ} (h : cl g m z f = some r) : ∃ x, (g = true → m = some x) ∧ (g = false → x = z) ∧ f x = some r := by
  cases g with
  | true => obtain ⟨x, h1, h2⟩ := bd_e h; exact ⟨x, fun _ => h1, nofun, h2⟩
  | false => exact ⟨z, nofun, fun _ => rfl, h⟩
theorem inb_e {i : Int} {n : Nat} (h : inb i n = true) : i = (i.toNat : Int) ∧ i.toNat < n := by
  simp [inb] at h; omega
theorem imp_b {g p : Bool} (h : (!g || p) = true) (hg : g = true) : p = true := by subst hg; simpa using h
theorem ne0_e {i : Int} (h : (i != 0) = true) : i ≠ 0 := by simpa using h
theorem ge0_e {i : Int} (h : decide (0 ≤ i) = true) : 0 ≤ i := by simpa using h
end words

section
variable {α1 ρ : Type}
def loop1 (B : (α1 → Option ρ) → α1 → Option ρ) : Nat → α1 → Option ρ
  | 0, _ => none
  | n + 1, a1 => B (loop1 B n) a1
theorem lp1_i {B : (α1 → Option ρ) → α1 → Option ρ} {n : Nat} {a1 : α1} {r : ρ} (h : loop1 B n a1 = some r) : ∃ lb, lb = B ∧ loop1 lb n a1 = some r := ⟨B, rfl, h⟩
theorem lp1_s {lb B : (α1 → Option ρ) → α1 → Option ρ} (e : lb = B) {m : Nat} {a1 : α1} {r : ρ} (h : loop1 lb m a1 = some r) : ∃ m', m = m' + 1 ∧ B (loop1 lb m') a1 = some r := by
  subst e
  cases m with
  | zero => cases h
  | succ m => exact ⟨m, rfl, h⟩
theorem jn1_u {j B : α1 → Option ρ} (e : j = B) {a1 : α1} {r : ρ} (h : j a1 = some r) : B a1 = some r := e ▸ h
theorem loop1_ind {B : (α1 → Option ρ) → α1 → Option ρ} (I : α1 → Prop) (μ : α1 → Nat) (Q : Option ρ → Prop) (hB : ∀ k a1, I a1 → (∀ b1, I b1 → μ b1 < μ a1 → Q (k b1)) → Q (B k a1)) : ∀ n a1, I a1 → μ a1 < n → Q (loop1 B n a1) := by
  intro n
  induction n with
  | zero => intro a1 _ h; exact absurd h (Nat.not_lt_zero _)
  | succ n ih => intro a1 hi hm; exact hB _ a1 hi fun b1 hj hl => ih b1 hj (by omega)
end
section
variable {α1 α2 ρ : Type}
def loop2 (B : (α1 → α2 → Option ρ) → α1 → α2 → Option ρ) : Nat → α1 → α2 → Option ρ
  | 0, _, _ => none
  | n + 1, a1, a2 => B (loop2 B n) a1 a2
theorem lp2_i {B : (α1 → α2 → Option ρ) → α1 → α2 → Option ρ} {n : Nat} {a1 : α1} {a2 : α2} {r : ρ} (h : loop2 B n a1 a2 = some r) : ∃ lb, lb = B ∧ loop2 lb n a1 a2 = some r := ⟨B, rfl, h⟩
theorem lp2_s {lb B : (α1 → α2 → Option ρ) → α1 → α2 → Option ρ} (e : lb = B) {m : Nat} {a1 : α1} {a2 : α2} {r : ρ} (h : loop2 lb m a1 a2 = some r) : ∃ m', m = m' + 1 ∧ B (loop2 lb m') a1 a2 = some r := by
  subst e
  cases m with
  | zero => cases h
  | succ m => exact ⟨m, rfl, h⟩
theorem jn2_u {j B : α1 → α2 → Option ρ} (e : j = B) {a1 : α1} {a2 : α2} {r : ρ} (h : j a1 a2 = some r) : B a1 a2 = some r := e ▸ h
theorem loop2_ind {B : (α1 → α2 → Option ρ) → α1 → α2 → Option ρ} (I : α1 → α2 → Prop) (μ : α1 → α2 → Nat) (Q : Option ρ → Prop) (hB : ∀ k a1 a2, I a1 a2 → (∀ b1 b2, I b1 b2 → μ b1 b2 < μ a1 a2 → Q (k b1 b2)) → Q (B k a1 a2)) : ∀ n a1 a2, I a1 a2 → μ a1 a2 < n → Q (loop2 B n a1 a2) := by
  intro n
  induction n with
  | zero => intro a1 a2 _ h; exact absurd h (Nat.not_lt_zero _)
  | succ n ih => intro a1 a2 hi hm; exact hB _ a1 a2 hi fun b1 b2 hj hl => ih b1 b2 hj (by omega)
end
section
variable {α1 α2 α3 ρ : Type}
def loop3 (B : (α1 → α2 → α3 → Option ρ) → α1 → α2 → α3 → Option ρ) : Nat → α1 → α2 → α3 → Option ρ
  | 0, _, _, _ => none
  | n + 1, a1, a2, a3 => B (loop3 B n) a1 a2 a3
theorem lp3_i {B : (α1 → α2 → α3 → Option ρ) → α1 → α2 → α3 → Option ρ} {n : Nat} {a1 : α1} {a2 : α2} {a3 : α3} {r : ρ} (h : loop3 B n a1 a2 a3 = some r) : ∃ lb, lb = B ∧ loop3 lb n a1 a2 a3 = some r := ⟨B, rfl, h⟩
theorem lp3_s {lb B : (α1 → α2 → α3 → Option ρ) → α1 → α2 → α3 → Option ρ} (e : lb = B) {m : Nat} {a1 : α1} {a2 : α2} {a3 : α3} {r : ρ} (h : loop3 lb m a1 a2 a3 = some r) : ∃ m', m = m' + 1 ∧ B (loop3 lb m') a1 a2 a3 = some r := by
  subst e
  cases m with
  | zero => cases h
  | succ m => exact ⟨m, rfl, h⟩
theorem jn3_u {j B : α1 → α2 → α3 → Option ρ} (e : j = B) {a1 : α1} {a2 : α2} {a3 : α3} {r : ρ} (h : j a1 a2 a3 = some r) : B a1 a2 a3 = some r := e ▸ h
theorem loop3_ind {B : (α1 → α2 → α3 → Option ρ) → α1 → α2 → α3 → Option ρ} (I : α1 → α2 → α3 → Prop) (μ : α1 → α2 → α3 → Nat) (Q : Option ρ → Prop) (hB : ∀ k a1 a2 a3, I a1 a2 a3 → (∀ b1 b2 b3, I b1 b2 b3 → μ b1 b2 b3 < μ a1 a2 a3 → Q (k b1 b2 b3)) → Q (B k a1 a2 a3)) : ∀ n a1 a2 a3, I a1 a2 a3 → μ a1 a2 a3 < n → Q (loop3 B n a1 a2 a3) := by
  intro n
  induction n with
  | zero => intro a1 a2 a3 _ h; exact absurd h (Nat.not_lt_zero _)
  | succ n ih => intro a1 a2 a3 hi hm; exact hB _ a1 a2 a3 hi fun b1 b2 b3 hj hl => ih b1 b2 b3 hj (by omega)
end
section
variable {α1 α2 α3 α4 ρ : Type}
def loop4 (B : (α1 → α2 → α3 → α4 → Option ρ) → α1 → α2 → α3 → α4 → Option ρ) : Nat → α1 → α2 → α3 → α4 → Option ρ
  | 0, _, _, _, _ => none
  | n + 1, a1, a2, a3, a4 => B (loop4 B n) a1 a2 a3 a4
theorem lp4_i {B : (α1 → α2 → α3 → α4 → Option ρ) → α1 → α2 → α3 → α4 → Option ρ} {n : Nat} {a1 : α1} {a2 : α2} {a3 : α3} {a4 : α4} {r : ρ} (h : loop4 B n a1 a2 a3 a4 = some r) : ∃ lb, lb = B ∧ loop4 lb n a1 a2 a3 a4 = some r := ⟨B, rfl, h⟩
theorem lp4_s {lb B : (α1 → α2 → α3 → α4 → Option ρ) → α1 → α2 → α3 → α4 → Option ρ} (e : lb = B) {m : Nat} {a1 : α1} {a2 : α2} {a3 : α3} {a4 : α4} {r : ρ} (h : loop4 lb m a1 a2 a3 a4 = some r) : ∃ m', m = m' + 1 ∧ B (loop4 lb m') a1 a2 a3 a4 = some r := by
  subst e
  cases m with
  | zero => cases h
  | succ m => exact ⟨m, rfl, h⟩
theorem jn4_u {j B : α1 → α2 → α3 → α4 → Option ρ} (e : j = B) {a1 : α1} {a2 : α2} {a3 : α3} {a4 : α4} {r : ρ} (h : j a1 a2 a3 a4 = some r) : B a1 a2 a3 a4 = some r := e ▸ h
theorem loop4_ind {B : (α1 → α2 → α3 → α4 → Option ρ) → α1 → α2 → α3 → α4 → Option ρ} (I : α1 → α2 → α3 → α4 → Prop) (μ : α1 → α2 → α3 → α4 → Nat) (Q : Option ρ → Prop) (hB : ∀ k a1 a2 a3 a4, I a1 a2 a3 a4 → (∀ b1 b2 b3 b4, I b1 b2 b3 b4 → μ b1 b2 b3 b4 < μ a1 a2 a3 a4 → Q (k b1 b2 b3 b4)) → Q (B k a1 a2 a3 a4)) : ∀ n a1 a2 a3 a4, I a1 a2 a3 a4 → μ a1 a2 a3 a4 < n → Q (loop4 B n a1 a2 a3 a4) := by
  intro n
  induction n with
  | zero => intro a1 a2 a3 a4 _ h; exact absurd h (Nat.not_lt_zero _)
  | succ n ih => intro a1 a2 a3 a4 hi hm; exact hB _ a1 a2 a3 a4 hi fun b1 b2 b3 b4 hj hl => ih b1 b2 b3 b4 hj (by omega)
end
section
variable {α1 α2 α3 α4 α5 ρ : Type}
def loop5 (B : (α1 → α2 → α3 → α4 → α5 → Option ρ) → α1 → α2 → α3 → α4 → α5 → Option ρ) : Nat → α1 → α2 → α3 → α4 → α5 → Option ρ
  | 0, _, _, _, _, _ => none
  | n + 1, a1, a2, a3, a4, a5 => B (loop5 B n) a1 a2 a3 a4 a5
theorem lp5_i {B : (α1 → α2 → α3 → α4 → α5 → Option ρ) → α1 → α2 → α3 → α4 → α5 → Option ρ} {n : Nat} {a1 : α1} {a2 : α2} {a3 : α3} {a4 : α4} {a5 : α5} {r : ρ} (h : loop5 B n a1 a2 a3 a4 a5 = some r) : ∃ lb, lb = B ∧ loop5 lb n a1 a2 a3 a4 a5 = some r := ⟨B, rfl, h⟩
theorem lp5_s {lb B : (α1 → α2 → α3 → α4 → α5 → Option ρ) → α1 → α2 → α3 → α4 → α5 → Option ρ} (e : lb = B) {m : Nat} {a1 : α1} {a2 : α2} {a3 : α3} {a4 : α4} {a5 : α5} {r : ρ} (h : loop5 lb m a1 a2 a3 a4 a5 = some r) : ∃ m', m = m' + 1 ∧ B (loop5 lb m') a1 a2 a3 a4 a5 = some r := by
  subst e
  cases m with
  | zero => cases h
  | succ m => exact ⟨m, rfl, h⟩
theorem jn5_u {j B : α1 → α2 → α3 → α4 → α5 → Option ρ} (e : j = B) {a1 : α1} {a2 : α2} {a3 : α3} {a4 : α4} {a5 : α5} {r : ρ} (h : j a1 a2 a3 a4 a5 = some r) : B a1 a2 a3 a4 a5 = some r := e ▸ h
theorem loop5_ind {B : (α1 → α2 → α3 → α4 → α5 → Option ρ) → α1 → α2 → α3 → α4 → α5 → Option ρ} (I : α1 → α2 → α3 → α4 → α5 → Prop) (μ : α1 → α2 → α3 → α4 → α5 → Nat) (Q : Option ρ → Prop) (hB : ∀ k a1 a2 a3 a4 a5, I a1 a2 a3 a4 a5 → (∀ b1 b2 b3 b4 b5, I b1 b2 b3 b4 b5 → μ b1 b2 b3 b4 b5 < μ a1 a2 a3 a4 a5 → Q (k b1 b2 b3 b4 b5)) → Q (B k a1 a2 a3 a4 a5)) : ∀ n a1 a2 a3 a4 a5, I a1 a2 a3 a4 a5 → μ a1 a2 a3 a4 a5 < n → Q (loop5 B n a1 a2 a3 a4 a5) := by
  intro n
  induction n with
  | zero => intro a1 a2 a3 a4 a5 _ h; exact absurd h (Nat.not_lt_zero _)
  | succ n ih => intro a1 a2 a3 a4 a5 hi hm; exact hB _ a1 a2 a3 a4 a5 hi fun b1 b2 b3 b4 b5 hj hl => ih b1 b2 b3 b4 b5 hj (by omega)
end
section
variable {α1 α2 α3 α4 α5 α6 ρ : Type}
def loop6 (B : (α1 → α2 → α3 → α4 → α5 → α6 → Option ρ) → α1 → α2 → α3 → α4 → α5 → α6 → Option ρ) : Nat → α1 → α2 → α3 → α4 → α5 → α6 → Option ρ
  | 0, _, _, _, _, _, _ => none
  | n + 1, a1, a2, a3, a4, a5, a6 => B (loop6 B n) a1 a2 a3 a4 a5 a6
theorem lp6_i {B : (α1 → α2 → α3 → α4 → α5 → α6 → Option ρ) → α1 → α2 → α3 → α4 → α5 → α6 → Option ρ} {n : Nat} {a1 : α1} {a2 : α2} {a3 : α3} {a4 : α4} {a5 : α5} {a6 : α6} {r : ρ} (h : loop6 B n a1 a2 a3 a4 a5 a6 = some r) : ∃ lb, lb = B ∧ loop6 lb n a1 a2 a3 a4 a5 a6 = some r := ⟨B, rfl, h⟩
theorem lp6_s {lb B : (α1 → α2 → α3 → α4 → α5 → α6 → Option ρ) → α1 → α2 → α3 → α4 → α5 → α6 → Option ρ} (e : lb = B) {m : Nat} {a1 : α1} {a2 : α2} {a3 : α3} {a4 : α4} {a5 : α5} {a6 : α6} {r : ρ} (h : loop6 lb m a1 a2 a3 a4 a5 a6 = some r) : ∃ m', m = m' + 1 ∧ B (loop6 lb m') a1 a2 a3 a4 a5 a6 = some r := by
  subst e
  cases m with
  | zero => cases h
  | succ m => exact ⟨m, rfl, h⟩
theorem jn6_u {j B : α1 → α2 → α3 → α4 → α5 → α6 → Option ρ} (e : j = B) {a1 : α1} {a2 : α2} {a3 : α3} {a4 : α4} {a5 : α5} {a6 : α6} {r : ρ} (h : j a1 a2 a3 a4 a5 a6 = some r) : B a1 a2 a3 a4 a5 a6 = some r := e ▸ h
theorem loop6_ind {B : (α1 → α2 → α3 → α4 → α5 → α6 → Option ρ) → α1 → α2 → α3 → α4 → α5 → α6 → Option ρ} (I : α1 → α2 → α3 → α4 → α5 → α6 → Prop) (μ : α1 → α2 → α3 → α4 → α5 → α6 → Nat) (Q : Option ρ → Prop) (hB : ∀ k a1 a2 a3 a4 a5 a6, I a1 a2 a3 a4 a5 a6 → (∀ b1 b2 b3 b4 b5 b6, I b1 b2 b3 b4 b5 b6 → μ b1 b2 b3 b4 b5 b6 < μ a1 a2 a3 a4 a5 a6 → Q (k b1 b2 b3 b4 b5 b6)) → Q (B k a1 a2 a3 a4 a5 a6)) : ∀ n a1 a2 a3 a4 a5 a6, I a1 a2 a3 a4 a5 a6 → μ a1 a2 a3 a4 a5 a6 < n → Q (loop6 B n a1 a2 a3 a4 a5 a6) := by
  intro n
  induction n with
  | zero => intro a1 a2 a3 a4 a5 a6 _ h; exact absurd h (Nat.not_lt_zero _)
  | succ n ih => intro a1 a2 a3 a4 a5 a6 hi hm; exact hB _ a1 a2 a3 a4 a5 a6 hi fun b1 b2 b3 b4 b5 b6 hj hl => ih b1 b2 b3 b4 b5 b6 hj (by omega)
end
section
variable {α1 α2 α3 α4 α5 α6 α7 ρ : Type}
def loop7 (B : (α1 → α2 → α3 → α4 → α5 → α6 → α7 → Option ρ) → α1 → α2 → α3 → α4 → α5 → α6 → α7 → Option ρ) : Nat → α1 → α2 → α3 → α4 → α5 → α6 → α7 → Option ρ
  | 0, _, _, _, _, _, _, _ => none
  | n + 1, a1, a2, a3, a4, a5, a6, a7 => B (loop7 B n) a1 a2 a3 a4 a5 a6 a7
theorem lp7_i {B : (α1 → α2 → α3 → α4 → α5 → α6 → α7 → Option ρ) → α1 → α2 → α3 → α4 → α5 → α6 → α7 → Option ρ} {n : Nat} {a1 : α1} {a2 : α2} {a3 : α3} {a4 : α4} {a5 : α5} {a6 : α6} {a7 : α7} {r : ρ} (h : loop7 B n a1 a2 a3 a4 a5 a6 a7 = some r) : ∃ lb, lb = B ∧ loop7 lb n a1 a2 a3 a4 a5 a6 a7 = some r := ⟨B, rfl, h⟩
theorem lp7_s {lb B : (α1 → α2 → α3 → α4 → α5 → α6 → α7 → Option ρ) → α1 → α2 → α3 → α4 → α5 → α6 → α7 → Option ρ} (e : lb = B) {m : Nat} {a1 : α1} {a2 : α2} {a3 : α3} {a4 : α4} {a5 : α5} {a6 : α6} {a7 : α7} {r : ρ} (h : loop7 lb m a1 a2 a3 a4 a5 a6 a7 = some r) : ∃ m', m = m' + 1 ∧ B (loop7 lb m') a1 a2 a3 a4 a5 a6 a7 = some r := by
  subst e
  cases m with
  | zero => cases h
  | succ m => exact ⟨m, rfl, h⟩
theorem jn7_u {j B : α1 → α2 → α3 → α4 → α5 → α6 → α7 → Option ρ} (e : j = B) {a1 : α1} {a2 : α2} {a3 : α3} {a4 : α4} {a5 : α5} {a6 : α6} {a7 : α7} {r : ρ} (h : j a1 a2 a3 a4 a5 a6 a7 = some r) : B a1 a2 a3 a4 a5 a6 a7 = some r := e ▸ h
theorem loop7_ind {B : (α1 → α2 → α3 → α4 → α5 → α6 → α7 → Option ρ) → α1 → α2 → α3 → α4 → α5 → α6 → α7 → Option ρ} (I : α1 → α2 → α3 → α4 → α5 → α6 → α7 → Prop) (μ : α1 → α2 → α3 → α4 → α5 → α6 → α7 → Nat) (Q : Option ρ → Prop) (hB : ∀ k a1 a2 a3 a4 a5 a6 a7, I a1 a2 a3 a4 a5 a6 a7 → (∀ b1 b2 b3 b4 b5 b6 b7, I b1 b2 b3 b4 b5 b6 b7 → μ b1 b2 b3 b4 b5 b6 b7 < μ a1 a2 a3 a4 a5 a6 a7 → Q (k b1 b2 b3 b4 b5 b6 b7)) → Q (B k a1 a2 a3 a4 a5 a6 a7)) : ∀ n a1 a2 a3 a4 a5 a6 a7, I a1 a2 a3 a4 a5 a6 a7 → μ a1 a2 a3 a4 a5 a6 a7 < n → Q (loop7 B n a1 a2 a3 a4 a5 a6 a7) := by
  intro n
  induction n with
  | zero => intro a1 a2 a3 a4 a5 a6 a7 _ h; exact absurd h (Nat.not_lt_zero _)
  | succ n ih => intro a1 a2 a3 a4 a5 a6 a7 hi hm; exact hB _ a1 a2 a3 a4 a5 a6 a7 hi fun b1 b2 b3 b4 b5 b6 b7 hj hl => ih b1 b2 b3 b4 b5 b6 b7 hj (by omega)
end
section
variable {α1 α2 α3 α4 α5 α6 α7 α8 ρ : Type}
def loop8 (B : (α1 → α2 → α3 → α4 → α5 → α6 → α7 → α8 → Option ρ) → α1 → α2 → α3 → α4 → α5 → α6 → α7 → α8 → Option ρ) : Nat → α1 → α2 → α3 → α4 → α5 → α6 → α7 → α8 → Option ρ
  | 0, _, _, _, _, _, _, _, _ => none
  | n + 1, a1, a2, a3, a4, a5, a6, a7, a8 => B (loop8 B n) a1 a2 a3 a4 a5 a6 a7 a8
theorem lp8_i {B : (α1 → α2 → α3 → α4 → α5 → α6 → α7 → α8 → Option ρ) → α1 → α2 → α3 → α4 → α5 → α6 → α7 → α8 → Option ρ} {n : Nat} {a1 : α1} {a2 : α2} {a3 : α3} {a4 : α4} {a5 : α5} {a6 : α6} {a7 : α7} {a8 : α8} {r : ρ} (h : loop8 B n a1 a2 a3 a4 a5 a6 a7 a8 = some r) : ∃ lb, lb = B ∧ loop8 lb n a1 a2 a3 a4 a5 a6 a7 a8 = some r := ⟨B, rfl, h⟩
theorem lp8_s {lb B : (α1 → α2 → α3 → α4 → α5 → α6 → α7 → α8 → Option ρ) → α1 → α2 → α3 → α4 → α5 → α6 → α7 → α8 → Option ρ} (e : lb = B) {m : Nat} {a1 : α1} {a2 : α2} {a3 : α3} {a4 : α4} {a5 : α5} {a6 : α6} {a7 : α7} {a8 : α8} {r : ρ} (h : loop8 lb m a1 a2 a3 a4 a5 a6 a7 a8 = some r) : ∃ m', m = m' + 1 ∧ B (loop8 lb m') a1 a2 a3 a4 a5 a6 a7 a8 = some r := by
  subst e
  cases m with
  | zero => cases h
  | succ m => exact ⟨m, rfl, h⟩
theorem jn8_u {j B : α1 → α2 → α3 → α4 → α5 → α6 → α7 → α8 → Option ρ} (e : j = B) {a1 : α1} {a2 : α2} {a3 : α3} {a4 : α4} {a5 : α5} {a6 : α6} {a7 : α7} {a8 : α8} {r : ρ} (h : j a1 a2 a3 a4 a5 a6 a7 a8 = some r) : B a1 a2 a3 a4 a5 a6 a7 a8 = some r := e ▸ h
theorem loop8_ind {B : (α1 → α2 → α3 → α4 → α5 → α6 → α7 → α8 → Option ρ) → α1 → α2 → α3 → α4 → α5 → α6 → α7 → α8 → Option ρ} (I : α1 → α2 → α3 → α4 → α5 → α6 → α7 → α8 → Prop) (μ : α1 → α2 → α3 → α4 → α5 → α6 → α7 → α8 → Nat) (Q : Option ρ → Prop) (hB : ∀ k a1 a2 a3 a4 a5 a6 a7 a8, I a1 a2 a3 a4 a5 a6 a7 a8 → (∀ b1 b2 b3 b4 b5 b6 b7 b8, I b1 b2 b3 b4 b5 b6 b7 b8 → μ b1 b2 b3 b4 b5 b6 b7 b8 < μ a1 a2 a3 a4 a5 a6 a7 a8 → Q (k b1 b2 b3 b4 b5 b6 b7 b8)) → Q (B k a1 a2 a3 a4 a5 a6 a7 a8)) : ∀ n a1 a2 a3 a4 a5 a6 a7 a8, I a1 a2 a3 a4 a5 a6 a7 a8 → μ a1 a2 a3 a4 a5 a6 a7 a8 < n → Q (loop8 B n a1 a2 a3 a4 a5 a6 a7 a8) := by
  intro n
  induction n with
  | zero => intro a1 a2 a3 a4 a5 a6 a7 a8 _ h; exact absurd h (Nat.not_lt_zero _)
  | succ n ih => intro a1 a2 a3 a4 a5 a6 a7 a8 hi hm; exact hB _ a1 a2 a3 a4 a5 a6 a7 a8 hi fun b1 b2 b3 b4 b5 b6 b7 b8 hj hl => ih b1 b2 b3 b4 b5 b6 b7 b8 hj (by omega)
end
section
variable {α1 α2 α3 α4 α5 α6 α7 α8 α9 ρ : Type}
def loop9 (B : (α1 → α2 → α3 → α4 → α5 → α6 → α7 → α8 → α9 → Option ρ) → α1 → α2 → α3 → α4 → α5 → α6 → α7 → α8 → α9 → Option ρ) : Nat → α1 → α2 → α3 → α4 → α5 → α6 → α7 → α8 → α9 → Option ρ
  | 0, _, _, _, _, _, _, _, _, _ => none
  | n + 1, a1, a2, a3, a4, a5, a6, a7, a8, a9 => B (loop9 B n) a1 a2 a3 a4 a5 a6 a7 a8 a9
theorem lp9_i {B : (α1 → α2 → α3 → α4 → α5 → α6 → α7 → α8 → α9 → Option ρ) → α1 → α2 → α3 → α4 → α5 → α6 → α7 → α8 → α9 → Option ρ} {n : Nat} {a1 : α1} {a2 : α2} {a3 : α3} {a4 : α4} {a5 : α5} {a6 : α6} {a7 : α7} {a8 : α8} {a9 : α9} {r : ρ} (h : loop9 B n a1 a2 a3 a4 a5 a6 a7 a8 a9 = some r) : ∃ lb, lb = B ∧ loop9 lb n a1 a2 a3 a4 a5 a6 a7 a8 a9 = some r := ⟨B, rfl, h⟩
theorem lp9_s {lb B : (α1 → α2 → α3 → α4 → α5 → α6 → α7 → α8 → α9 → Option ρ) → α1 → α2 → α3 → α4 → α5 → α6 → α7 → α8 → α9 → Option ρ} (e : lb = B) {m : Nat} {a1 : α1} {a2 : α2} {a3 : α3} {a4 : α4} {a5 : α5} {a6 : α6} {a7 : α7} {a8 : α8} {a9 : α9} {r : ρ} (h : loop9 lb m a1 a2 a3 a4 a5 a6 a7 a8 a9 = some r) : ∃ m', m = m' + 1 ∧ B (loop9 lb m') a1 a2 a3 a4 a5 a6 a7 a8 a9 = some r := by
  subst e
  cases m with
  | zero => cases h
  | succ m => exact ⟨m, rfl, h⟩
theorem jn9_u {j B : α1 → α2 → α3 → α4 → α5 → α6 → α7 → α8 → α9 → Option ρ} (e : j = B) {a1 : α1} {a2 : α2} {a3 : α3} {a4 : α4} {a5 : α5} {a6 : α6} {a7 : α7} {a8 : α8} {a9 : α9} {r : ρ} (h : j a1 a2 a3 a4 a5 a6 a7 a8 a9 = some r) : B a1 a2 a3 a4 a5 a6 a7 a8 a9 = some r := e ▸ h
theorem loop9_ind {B : (α1 → α2 → α3 → α4 → α5 → α6 → α7 → α8 → α9 → Option ρ) → α1 → α2 → α3 → α4 → α5 → α6 → α7 → α8 → α9 → Option ρ} (I : α1 → α2 → α3 → α4 → α5 → α6 → α7 → α8 → α9 → Prop) (μ : α1 → α2 → α3 → α4 → α5 → α6 → α7 → α8 → α9 → Nat) (Q : Option ρ → Prop) (hB : ∀ k a1 a2 a3 a4 a5 a6 a7 a8 a9, I a1 a2 a3 a4 a5 a6 a7 a8 a9 → (∀ b1 b2 b3 b4 b5 b6 b7 b8 b9, I b1 b2 b3 b4 b5 b6 b7 b8 b9 → μ b1 b2 b3 b4 b5 b6 b7 b8 b9 < μ a1 a2 a3 a4 a5 a6 a7 a8 a9 → Q (k b1 b2 b3 b4 b5 b6 b7 b8 b9)) → Q (B k a1 a2 a3 a4 a5 a6 a7 a8 a9)) : ∀ n a1 a2 a3 a4 a5 a6 a7 a8 a9, I a1 a2 a3 a4 a5 a6 a7 a8 a9 → μ a1 a2 a3 a4 a5 a6 a7 a8 a9 < n → Q (loop9 B n a1 a2 a3 a4 a5 a6 a7 a8 a9) := by
  intro n
  induction n with
  | zero => intro a1 a2 a3 a4 a5 a6 a7 a8 a9 _ h; exact absurd h (Nat.not_lt_zero _)
  | succ n ih => intro a1 a2 a3 a4 a5 a6 a7 a8 a9 hi hm; exact hB _ a1 a2 a3 a4 a5 a6 a7 a8 a9 hi fun b1 b2 b3 b4 b5 b6 b7 b8 b9 hj hl => ih b1 b2 b3 b4 b5 b6 b7 b8 b9 hj (by omega)
end
section
variable {α1 α2 α3 α4 α5 α6 α7 α8 α9 α10 ρ : Type}
def loop10 (B : (α1 → α2 → α3 → α4 → α5 → α6 → α7 → α8 → α9 → α10 → Option ρ) → α1 → α2 → α3 → α4 → α5 → α6 → α7 → α8 → α9 → α10 → Option ρ) : Nat → α1 → α2 → α3 → α4 → α5 → α6 → α7 → α8 → α9 → α10 → Option ρ
  | 0, _, _, _, _, _, _, _, _, _, _ => none
  | n + 1, a1, a2, a3, a4, a5, a6, a7, a8, a9, a10 => B (loop10 B n) a1 a2 a3 a4 a5 a6 a7 a8 a9 a10
theorem lp10_i {B : (α1 → α2 → α3 → α4 → α5 → α6 → α7 → α8 → α9 → α10 → Option ρ) → α1 → α2 → α3 → α4 → α5 → α6 → α7 → α8 → α9 → α10 → Option ρ} {n : Nat} {a1 : α1} {a2 : α2} {a3 : α3} {a4 : α4} {a5 : α5} {a6 : α6} {a7 : α7} {a8 : α8} {a9 : α9} {a10 : α10} {r : ρ} (h : loop10 B n a1 a2 a3 a4 a5 a6 a7 a8 a9 a10 = some r) : ∃ lb, lb = B ∧ loop10 lb n a1 a2 a3 a4 a5 a6 a7 a8 a9 a10 = some r := ⟨B, rfl, h⟩
theorem lp10_s {lb B : (α1 → α2 → α3 → α4 → α5 → α6 → α7 → α8 → α9 → α10 → Option ρ) → α1 → α2 → α3 → α4 → α5 → α6 → α7 → α8 → α9 → α10 → Option ρ} (e : lb = B) {m : Nat} {a1 : α1} {a2 : α2} {a3 : α3} {a4 : α4} {a5 : α5} {a6 : α6} {a7 : α7} {a8 : α8} {a9 : α9} {a10 : α10} {r : ρ} (h : loop10 lb m a1 a2 a3 a4 a5 a6 a7 a8 a9 a10 = some r) : ∃ m', m = m' + 1 ∧ B (loop10 lb m') a1 a2 a3 a4 a5 a6 a7 a8 a9 a10 = some r := by
  subst e
  cases m with
  | zero => cases h
  | succ m => exact ⟨m, rfl, h⟩
theorem jn10_u {j B : α1 → α2 → α3 → α4 → α5 → α6 → α7 → α8 → α9 → α10 → Option ρ} (e : j = B) {a1 : α1} {a2 : α2} {a3 : α3} {a4 : α4} {a5 : α5} {a6 : α6} {a7 : α7} {a8 : α8} {a9 : α9} {a10 : α10} {r : ρ} (h : j a1 a2 a3 a4 a5 a6 a7 a8 a9 a10 = some r) : B a1 a2 a3 a4 a5 a6 a7 a8 a9 a10 = some r := e ▸ h
theorem loop10_ind {B : (α1 → α2 → α3 → α4 → α5 → α6 → α7 → α8 → α9 → α10 → Option ρ) → α1 → α2 → α3 → α4 → α5 → α6 → α7 → α8 → α9 → α10 → Option ρ} (I : α1 → α2 → α3 → α4 → α5 → α6 → α7 → α8 → α9 → α10 → Prop) (μ : α1 → α2 → α3 → α4 → α5 → α6 → α7 → α8 → α9 → α10 → Nat) (Q : Option ρ → Prop) (hB : ∀ k a1 a2 a3 a4 a5 a6 a7 a8 a9 a10, I a1 a2 a3 a4 a5 a6 a7 a8 a9 a10 → (∀ b1 b2 b3 b4 b5 b6 b7 b8 b9 b10, I b1 b2 b3 b4 b5 b6 b7 b8 b9 b10 → μ b1 b2 b3 b4 b5 b6 b7 b8 b9 b10 < μ a1 a2 a3 a4 a5 a6 a7 a8 a9 a10 → Q (k b1 b2 b3 b4 b5 b6 b7 b8 b9 b10)) → Q (B k a1 a2 a3 a4 a5 a6 a7 a8 a9 a10)) : ∀ n a1 a2 a3 a4 a5 a6 a7 a8 a9 a10, I a1 a2 a3 a4 a5 a6 a7 a8 a9 a10 → μ a1 a2 a3 a4 a5 a6 a7 a8 a9 a10 < n → Q (loop10 B n a1 a2 a3 a4 a5 a6 a7 a8 a9 a10) := by
  intro n
  induction n with
  | zero => intro a1 a2 a3 a4 a5 a6 a7 a8 a9 a10 _ h; exact absurd h (Nat.not_lt_zero _)
  | succ n ih => intro a1 a2 a3 a4 a5 a6 a7 a8 a9 a10 hi hm; exact hB _ a1 a2 a3 a4 a5 a6 a7 a8 a9 a10 hi fun b1 b2 b3 b4 b5 b6 b7 b8 b9 b10 hj hl => ih b1 b2 b3 b4 b5 b6 b7 b8 b9 b10 hj (by omega)
end
section
variable {α1 α2 α3 α4 α5 α6 α7 α8 α9 α10 α11 ρ : Type}
def loop11 (B : (α1 → α2 → α3 → α4 → α5 → α6 → α7 → α8 → α9 → α10 → α11 → Option ρ) → α1 → α2 → α3 → α4 → α5 → α6 → α7 → α8 → α9 → α10 → α11 → Option ρ) : Nat → α1 → α2 → α3 → α4 → α5 → α6 → α7 → α8 → α9 → α10 → α11 → Option ρ
  | 0, _, _, _, _, _, _, _, _, _, _, _ => none
  | n + 1, a1, a2, a3, a4, a5, a6, a7, a8, a9, a10, a11 => B (loop11 B n) a1 a2 a3 a4 a5 a6 a7 a8 a9 a10 a11
theorem lp11_i {B : (α1 → α2 → α3 → α4 → α5 → α6 → α7 → α8 → α9 → α10 → α11 → Option ρ) → α1 → α2 → α3 → α4 → α5 → α6 → α7 → α8 → α9 → α10 → α11 → Option ρ} {n : Nat} {a1 : α1} {a2 : α2} {a3 : α3} {a4 : α4} {a5 : α5} {a6 : α6} {a7 : α7} {a8 : α8} {a9 : α9} {a10 : α10} {a11 : α11} {r : ρ} (h : loop11 B n a1 a2 a3 a4 a5 a6 a7 a8 a9 a10 a11 = some r) : ∃ lb, lb = B ∧ loop11 lb n a1 a2 a3 a4 a5 a6 a7 a8 a9 a10 a11 = some r := ⟨B, rfl, h⟩
theorem lp11_s {lb B : (α1 → α2 → α3 → α4 → α5 → α6 → α7 → α8 → α9 → α10 → α11 → Option ρ) → α1 → α2 → α3 → α4 → α5 → α6 → α7 → α8 → α9 → α10 → α11 → Option ρ} (e : lb = B) {m : Nat} {a1 : α1} {a2 : α2} {a3 : α3} {a4 : α4} {a5 : α5} {a6 : α6} {a7 : α7} {a8 : α8} {a9 : α9} {a10 : α10} {a11 : α11} {r : ρ} (h : loop11 lb m a1 a2 a3 a4 a5 a6 a7 a8 a9 a10 a11 = some r) : ∃ m', m = m' + 1 ∧ B (loop11 lb m') a1 a2 a3 a4 a5 a6 a7 a8 a9 a10 a11 = some r := by
  subst e
  cases m with
  | zero => cases h
  | succ m => exact ⟨m, rfl, h⟩
theorem jn11_u {j B : α1 → α2 → α3 → α4 → α5 → α6 → α7 → α8 → α9 → α10 → α11 → Option ρ} (e : j = B) {a1 : α1} {a2 : α2} {a3 : α3} {a4 : α4} {a5 : α5} {a6 : α6} {a7 : α7} {a8 : α8} {a9 : α9} {a10 : α10} {a11 : α11} {r : ρ} (h : j a1 a2 a3 a4 a5 a6 a7 a8 a9 a10 a11 = some r) : B a1 a2 a3 a4 a5 a6 a7 a8 a9 a10 a11 = some r := e ▸ h
theorem loop11_ind {B : (α1 → α2 → α3 → α4 → α5 → α6 → α7 → α8 → α9 → α10 → α11 → Option ρ) → α1 → α2 → α3 → α4 → α5 → α6 → α7 → α8 → α9 → α10 → α11 → Option ρ} (I : α1 → α2 → α3 → α4 → α5 → α6 → α7 → α8 → α9 → α10 → α11 → Prop) (μ : α1 → α2 → α3 → α4 → α5 → α6 → α7 → α8 → α9 → α10 → α11 → Nat) (Q : Option ρ → Prop) (hB : ∀ k a1 a2 a3 a4 a5 a6 a7 a8 a9 a10 a11, I a1 a2 a3 a4 a5 a6 a7 a8 a9 a10 a11 → (∀ b1 b2 b3 b4 b5 b6 b7 b8 b9 b10 b11, I b1 b2 b3 b4 b5 b6 b7 b8 b9 b10 b11 → μ b1 b2 b3 b4 b5 b6 b7 b8 b9 b10 b11 < μ a1 a2 a3 a4 a5 a6 a7 a8 a9 a10 a11 → Q (k b1 b2 b3 b4 b5 b6 b7 b8 b9 b10 b11)) → Q (B k a1 a2 a3 a4 a5 a6 a7 a8 a9 a10 a11)) : ∀ n a1 a2 a3 a4 a5 a6 a7 a8 a9 a10 a11, I a1 a2 a3 a4 a5 a6 a7 a8 a9 a10 a11 → μ a1 a2 a3 a4 a5 a6 a7 a8 a9 a10 a11 < n → Q (loop11 B n a1 a2 a3 a4 a5 a6 a7 a8 a9 a10 a11) := by
  intro n
  induction n with
  | zero => intro a1 a2 a3 a4 a5 a6 a7 a8 a9 a10 a11 _ h; exact absurd h (Nat.not_lt_zero _)
  | succ n ih => intro a1 a2 a3 a4 a5 a6 a7 a8 a9 a10 a11 hi hm; exact hB _ a1 a2 a3 a4 a5 a6 a7 a8 a9 a10 a11 hi fun b1 b2 b3 b4 b5 b6 b7 b8 b9 b10 b11 hj hl => ih b1 b2 b3 b4 b5 b6 b7 b8 b9 b10 b11 hj (by omega)
end
section
variable {α1 α2 α3 α4 α5 α6 α7 α8 α9 α10 α11 α12 ρ : Type}
def loop12 (B : (α1 → α2 → α3 → α4 → α5 → α6 → α7 → α8 → α9 → α10 → α11 → α12 → Option ρ) → α1 → α2 → α3 → α4 → α5 → α6 → α7 → α8 → α9 → α10 → α11 → α12 → Option ρ) : Nat → α1 → α2 → α3 → α4 → α5 → α6 → α7 → α8 → α9 → α10 → α11 → α12 → Option ρ
  | 0, _, _, _, _, _, _, _, _, _, _, _, _ => none
  | n + 1, a1, a2, a3, a4, a5, a6, a7, a8, a9, a10, a11, a12 => B (loop12 B n) a1 a2 a3 a4 a5 a6 a7 a8 a9 a10 a11 a12
theorem lp12_i {B : (α1 → α2 → α3 → α4 → α5 → α6 → α7 → α8 → α9 → α10 → α11 → α12 → Option ρ) → α1 → α2 → α3 → α4 → α5 → α6 → α7 → α8 → α9 → α10 → α11 → α12 → Option ρ} {n : Nat} {a1 : α1} {a2 : α2} {a3 : α3} {a4 : α4} {a5 : α5} {a6 : α6} {a7 : α7} {a8 : α8} {a9 : α9} {a10 : α10} {a11 : α11} {a12 : α12} {r : ρ} (h : loop12 B n a1 a2 a3 a4 a5 a6 a7 a8 a9 a10 a11 a12 = some r) : ∃ lb, lb = B ∧ loop12 lb n a1 a2 a3 a4 a5 a6 a7 a8 a9 a10 a11 a12 = some r := ⟨B, rfl, h⟩
theorem lp12_s {lb B : (α1 → α2 → α3 → α4 → α5 → α6 → α7 → α8 → α9 → α10 → α11 → α12 → Option ρ) → α1 → α2 → α3 → α4 → α5 → α6 → α7 → α8 → α9 → α10 → α11 → α12 → Option ρ} (e : lb = B) {m : Nat} {a1 : α1} {a2 : α2} {a3 : α3} {a4 : α4} {a5 : α5} {a6 : α6} {a7 : α7} {a8 : α8} {a9 : α9} {a10 : α10} {a11 : α11} {a12 : α12} {r : ρ} (h : loop12 lb m a1 a2 a3 a4 a5 a6 a7 a8 a9 a10 a11 a12 = some r) : ∃ m', m = m' + 1 ∧ B (loop12 lb m') a1 a2 a3 a4 a5 a6 a7 a8 a9 a10 a11 a12 = some r := by
  subst e
  cases m with
  | zero => cases h
  | succ m => exact ⟨m, rfl, h⟩
theorem jn12_u {j B : α1 → α2 → α3 → α4 → α5 → α6 → α7 → α8 → α9 → α10 → α11 → α12 → Option ρ} (e : j = B) {a1 : α1} {a2 : α2} {a3 : α3} {a4 : α4} {a5 : α5} {a6 : α6} {a7 : α7} {a8 : α8} {a9 : α9} {a10 : α10} {a11 : α11} {a12 : α12} {r : ρ} (h : j a1 a2 a3 a4 a5 a6 a7 a8 a9 a10 a11 a12 = some r) : B a1 a2 a3 a4 a5 a6 a7 a8 a9 a10 a11 a12 = some r := e ▸ h
theorem loop12_ind {B : (α1 → α2 → α3 → α4 → α5 → α6 → α7 → α8 → α9 → α10 → α11 → α12 → Option ρ) → α1 → α2 → α3 → α4 → α5 → α6 → α7 → α8 → α9 → α10 → α11 → α12 → Option ρ} (I : α1 → α2 → α3 → α4 → α5 → α6 → α7 → α8 → α9 → α10 → α11 → α12 → Prop) (μ : α1 → α2 → α3 → α4 → α5 → α6 → α7 → α8 → α9 → α10 → α11 → α12 → Nat) (Q : Option ρ → Prop) (hB : ∀ k a1 a2 a3 a4 a5 a6 a7 a8 a9 a10 a11 a12, I a1 a2 a3 a4 a5 a6 a7 a8 a9 a10 a11 a12 → (∀ b1 b2 b3 b4 b5 b6 b7 b8 b9 b10 b11 b12, I b1 b2 b3 b4 b5 b6 b7 b8 b9 b10 b11 b12 → μ b1 b2 b3 b4 b5 b6 b7 b8 b9 b10 b11 b12 < μ a1 a2 a3 a4 a5 a6 a7 a8 a9 a10 a11 a12 → Q (k b1 b2 b3 b4 b5 b6 b7 b8 b9 b10 b11 b12)) → Q (B k a1 a2 a3 a4 a5 a6 a7 a8 a9 a10 a11 a12)) : ∀ n a1 a2 a3 a4 a5 a6 a7 a8 a9 a10 a11 a12, I a1 a2 a3 a4 a5 a6 a7 a8 a9 a10 a11 a12 → μ a1 a2 a3 a4 a5 a6 a7 a8 a9 a10 a11 a12 < n → Q (loop12 B n a1 a2 a3 a4 a5 a6 a7 a8 a9 a10 a11 a12) := by
  intro n
  induction n with
  | zero => intro a1 a2 a3 a4 a5 a6 a7 a8 a9 a10 a11 a12 _ h; exact absurd h (Nat.not_lt_zero _)
  | succ n ih => intro a1 a2 a3 a4 a5 a6 a7 a8 a9 a10 a11 a12 hi hm; exact hB _ a1 a2 a3 a4 a5 a6 a7 a8 a9 a10 a11 a12 hi fun b1 b2 b3 b4 b5 b6 b7 b8 b9 b10 b11 b12 hj hl => ih b1 b2 b3 b4 b5 b6 b7 b8 b9 b10 b11 b12 hj (by omega)
end

/-! rules in these words -/
section rules
variable {P : Program} {N : Nat} {c : Cx} {D : List Deferred} {Q : Exit → Act → World → Prop} {F : Frm} {H : List Res} {d : Option Tmp} {ty : TypeId} {ps : String} {af : Array Edge} {g : Option (Nat × Bool)} {α β γ : Type}

theorem WP_if {x : Operand} {y z : Code} {t : Bool} (hc : ev F x = some (.bool t)) (h1 : t = true → WP P N c D y Q F H) (h0 : t = false → WP P N c D z Q F H) : WP P N c D (.cond x y z) Q F H := by
  cases t with
  | true => exact WP_true hc (h1 rfl)
  | false => exact WP_false hc (h0 rfl)

theorem VS_val {o : Oper} {v v' : Value} (h : VS P N c o F H v) (e : v = v') : VS P N c o F H v' := e ▸ h

theorem VS_andI {T U : TypeId} {x y : Operand} {k : IntKind} {a b : Int} (hx : ev F x = some (.int k a)) (hy : ev F y = some (.int k b)) : VS P N c ⟨d, .binOp .and T x y U, ty, ps, af, g⟩ F H (.int k (andI k a b)) := VS_bits hx hy rfl fun _ _ => rfl
theorem VS_orI {T U : TypeId} {x y : Operand} {k : IntKind} {a b : Int} (hx : ev F x = some (.int k a)) (hy : ev F y = some (.int k b)) : VS P N c ⟨d, .binOp .or T x y U, ty, ps, af, g⟩ F H (.int k (orI k a b)) := VS_bits hx hy rfl fun _ _ => rfl
theorem VS_xorI {T U : TypeId} {x y : Operand} {k : IntKind} {a b : Int} (hx : ev F x = some (.int k a)) (hy : ev F y = some (.int k b)) : VS P N c ⟨d, .binOp .xor T x y U, ty, ps, af, g⟩ F H (.int k (xorI k a b)) := VS_bits hx hy rfl fun _ _ => rfl
theorem VS_andNotI {T U : TypeId} {x y : Operand} {k : IntKind} {a b : Int} (hx : ev F x = some (.int k a)) (hy : ev F y = some (.int k b)) : VS P N c ⟨d, .binOp .andNot T x y U, ty, ps, af, g⟩ F H (.int k (andNotI k a b)) := VS_bits hx hy rfl fun _ _ => rfl
theorem VS_shlI {T U : TypeId} {x y : Operand} {k k' : IntKind} {a b : Int} (hx : ev F x = some (.int k a)) (hy : ev F y = some (.int k' b)) (h0 : 0 ≤ b) : VS P N c ⟨d, .binOp .shl T x y U, ty, ps, af, g⟩ F H (.int k (shlI k a b)) := VS_shl hx hy h0 rfl
theorem VS_shrI {T U : TypeId} {x y : Operand} {k k' : IntKind} {a b : Int} (hx : ev F x = some (.int k a)) (hy : ev F y = some (.int k' b)) (h0 : 0 ≤ b) : VS P N c ⟨d, .binOp .shr T x y U, ty, ps, af, g⟩ F H (.int k (shrI k a b)) := VS_shr hx hy h0 rfl

theorem VS_ldi {L : Lay α} [FlatL L] {x : α} {k : IntKind} {o b t T : Nat} {y : Operand} {gg : α → Int} {s : α → Int → α} (p : Pth L (LI k) o gg s) (hx : ev F y = some (Ptr b o)) [HasC H b T (L.enc x)] [TOne P t] : VS P N c ⟨d, .load t y, ty, ps, af, g⟩ F H (.int k (gg x)) := VS_load hx (p.int (rp L x))
theorem VS_ldb {L : Lay α} [FlatL L] {x : α} {o b t T : Nat} {y : Operand} {gg : α → Bool} {s : α → Bool → α} (p : Pth L LB o gg s) (hx : ev F y = some (Ptr b o)) [HasC H b T (L.enc x)] [TOne P t] : VS P N c ⟨d, .load t y, ty, ps, af, g⟩ F H (.bool (gg x)) := VS_load hx (p.bool (rp L x))
theorem VS_lda {L : Lay α} {M : Lay β} [FlatL L] [FlatL M] {x : α} {o b t T q : Nat} {y : Operand} {gg : α → β} {s : α → β → α} (p : Pth L M o gg s) (hx : ev F y = some (Ptr b o)) [HasC H b T (L.enc x)] [ht : TAgg P t q] (hn : M.n = q) : VS P N c ⟨d, .load t y, ty, ps, af, g⟩ F H (.agg (M.enc (gg x)).toArray) := by
  subst hn; exact VS_loadpart hx (p.agg x) (enc_len _ _)

theorem RX_st {L : Lay α} {M : Lay β} [FlatL L] [FlatL M] {x : α} {o b t T q : Nat} {y z : Operand} {gg : α → β} {s : α → β → α} {val : Value} {H' : List Res} (p : Pth L M o gg s) (v : β) (x' : α) (e : x' = s x v) (hx : ev F y = some (Ptr b o)) (hz : ev F z = some val) (hv : val.cells.toList = M.enc v)
    [HasC H b T (L.enc x)] [ht : TSz P t q] (hn : M.n = q) [SetC H b (L.enc x') H'] : RX (α := Unit) P N c ⟨d, .store t y z, ty, ps, af, g⟩ F H (fun _ => True) (fun _ => undef) (fun _ => H') := by
  subst hn; subst e
  exact RX_store hx hz hv (enc_len _ _) (by rw [enc_len]; exact p.le) (enc_one _ _) (p.put x v)
theorem RX_boxL (L : Lay α) [FlatL L] (x : α) {y : Operand} {t : Nat} {val : Value} (hx : ev F y = some val) (hv : val.cells.toList = L.enc x) :
    RX P N c ⟨d, .box t y, ty, ps, af, g⟩ F H (fun _ => True) (fun b => Ptr b 0) (fun b => .cells b t (L.enc x) :: H) := RX_box hx hv
theorem RX_allocL {L : Lay α} [FlatL L] {z : α} {t : Nat} (hz : TZero P t (L.enc z)) :
    RX P N c ⟨d, .alloc t, ty, ps, af, g⟩ F H (fun _ => True) (fun b => Ptr b 0) (fun b => .cells b t (L.enc z) :: H) := RX_alloc (hz := hz)
theorem VS_ixa {L : Lay α} [FlatL L] {A : Nat → α} {x y : Operand} {T len e sz q m : Nat} {i : Int} {k : IntKind} [hT : TArr P T len e sz] [hA : TAgg P e q] (hx : ev F x = some (.agg ((LA L len).enc A).toArray)) (hy : ev F y = some (.int k i)) (hi : i = (m : Int)) (hm : m < len) (h1 : L.n = sz) (h2 : L.n = q) :
    VS P N c ⟨d, .index T x y, ty, ps, af, g⟩ F H (.agg (L.enc (A m)).toArray) := by
  subst h2
  have := (Pth.idx (L := L) (m := len) m hm (k := sz) h1.symm).agg A
  rw [h1] at this
  exact VS_indexa hx hy hi hm this
end rules
end Go.Bw
