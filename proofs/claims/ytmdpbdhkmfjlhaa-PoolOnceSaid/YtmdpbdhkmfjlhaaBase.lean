/- The base of our own logic: states told by facts on slots and on owned heap blocks; no program is named. -/
import Derived.RangeFuncNested
import Derived.RangeFuncBound
import Derived.RangeFuncCalls
import Derived.RangeFuncLeaves
import Derived.WalkKit
import Derived.TacticsIn
import Derived.KernelRfl
namespace Go.Bw
open Go Go.RowKit

abbrev FA (ro : Option Nat) : Fence := { fn := fun _ => True, depth := none, alive := false, round := ro }

theorem room_fa (ro : Option Nat) (n : Nat) : (FA ro).room n := fun d h => by cases h

/-! slots -/
abbrev Frm := List (Nat × Value)

def lk : Frm → Nat → Option Value
  | [], _ => none
  | (k, v) :: r, d => bif Nat.beq k d then some v else lk r d

def ev (F : Frm) : Operand → Option Value
  | .tmp t => lk F t
  | .const v => some v
  | .global g => some (.pointer (some ⟨g, 0, none⟩))
  | .func f => some (.func (.func f) #[] #[])

def FrOk (F : Frm) (t : Array Value) : Prop := ∀ d v, lk F d = some v → t[d]? = some v

theorem ev_ok {F : Frm} {a : Act} (h : FrOk F a.tmps) {x : Operand} {v : Value} (hx : ev F x = some v) : a.eval x = v := by
  cases x with
  | tmp t => have := h t v hx; simp [Act.eval, this]
  | const u => exact Option.some.inj hx
  | global g => exact Option.some.inj hx
  | func f => exact Option.some.inj hx

def evs (F : Frm) : List Operand → Option (List Value)
  | [] => some []
  | x :: r => match ev F x, evs F r with
    | some v, some vs => some (v :: vs)
    | _, _ => none

theorem evs_ok {F : Frm} {a : Act} (h : FrOk F a.tmps) : ∀ {l : List Operand} {vs : List Value}, evs F l = some vs → l.map a.eval = vs := by
  intro l
  induction l with
  | nil => intro vs hl; exact (Option.some.inj hl)
  | cons x l ih =>
    intro vs hl
    simp only [evs] at hl
    split at hl
    · rename_i v us h1 h2
      rw [← Option.some.inj hl]
      simp [ev_ok h h1, ih h2]
    · cases hl

theorem beq_no {d k : Nat} (e : ¬ d = k) : Nat.beq d k = false := by
  cases hb : Nat.beq d k with
  | false => rfl
  | true => exact absurd (Nat.eq_of_beq_eq_true hb) e

def pt (d : Option Tmp) (v : Value) (F : Frm) : Frm := match d with
  | some d => (d, v) :: F
  | none => F

def dOk (N : Nat) (d : Option Tmp) : Bool := match d with
  | some d => Nat.blt d N
  | none => true

theorem FrOk.put {F : Frm} {a : Act} {d : Option Tmp} {v : Value} {N : Nat} (h : FrOk F a.tmps) (hs : a.tmps.size = N) (hd : dOk N d = true) :
    FrOk (pt d v F) (a.put d v).tmps := by
  cases d with
  | none => exact h
  | some d =>
    intro k u hk
    simp only [pt, lk] at hk
    have hd' : d < a.tmps.size := by simpa [dOk, hs, Nat.blt_eq] using hd
    by_cases e : d = k
    · subst e
      simp at hk; subst hk
      simp [Act.put, hd']
    · have : Nat.beq d k = false := beq_no e
      rw [this] at hk
      simp only [cond_false] at hk
      simp only [Act.put, Array.getElem?_setIfInBounds, if_neg e]
      exact h k u hk

theorem FrOk.sub {F F' : Frm} {t : Array Value} (h : FrOk F t) (hs : ∀ d v, lk F' d = some v → lk F d = some v) : FrOk F' t := fun d v hk => h d v (hs d v hk)

/-- each fact of the first list stands in the second -/
def Sub : Frm → Frm → Prop
  | [], _ => True
  | p :: r, F => lk F p.1 = some p.2 ∧ Sub r F

theorem Sub.lk {F' F : Frm} (h : Sub F' F) : ∀ d v, lk F' d = some v → lk F d = some v := by
  induction F' with
  | nil => intro d v hk; simp [Bw.lk] at hk
  | cons p r ih =>
    intro d v hk
    obtain ⟨h1, h2⟩ := h
    simp only [Bw.lk] at hk
    by_cases e : p.1 = d
    · subst e; simp at hk; subst hk; exact h1
    · have : Nat.beq p.1 d = false := beq_no e
      rw [this] at hk
      exact ih h2 d v hk

/-! the world since -/
structure Since (bs : List Nat) (w0 w : World) : Prop where
  os : w.os = w0.os
  tape : w.tape = w0.tape
  output : w.output = w0.output
  size : w0.heap.size ≤ w.heap.size
  block : ∀ k, k < w0.heap.size → k ∉ bs → w.heap[k]? = w0.heap[k]?

theorem Since.refl (bs : List Nat) (w : World) : Since bs w w := ⟨rfl, rfl, rfl, Nat.le_refl _, fun _ _ _ => rfl⟩

theorem Since.trans {bs bs' : List Nat} {w0 w w' : World} (h : Since bs w0 w) (k : Since bs' w w') (hb : ∀ b ∈ bs', b ∈ bs ∨ w0.heap.size ≤ b) : Since bs w0 w' :=
  ⟨k.os.trans h.os, k.tape.trans h.tape, k.output.trans h.output, Nat.le_trans h.size k.size,
   fun i hi hn => (k.block i (Nat.lt_of_lt_of_le hi h.size) (fun hm => by
     rcases hb i hm with h1 | h1
     · exact hn h1
     · omega)).trans (h.block i hi hn)⟩

theorem Since.ext {bs : List Nat} {w0 w w' : World} (h : Since bs w0 w) (k : Since [] w w') : Since bs w0 w' := h.trans k (fun _ hb => by cases hb)

theorem Since.below {w0 w : World} (h : Since [] w0 w) : Below w0.heap.size w0 w := ⟨h.os, h.tape, h.output, h.size, fun k hk => h.block k hk (by simp)⟩
theorem Since.of_below {w0 w : World} (h : Below w0.heap.size w0 w) : Since [] w0 w := ⟨h.os, h.tape, h.output, h.size, fun k hk _ => h.block k hk⟩
theorem Since.of_grown {w w' : World} {row : Option Nat} (h : w.grownBy w' row) : Since row.toList w w' :=
  ⟨h.os, h.tape, h.output, h.size, fun k hk hn => h.block k hk (fun e => hn (by rw [← e]; simp))⟩
theorem Since.alloc (w : World) (o : Obj) : Since [] w (w.alloc o) := ⟨rfl, rfl, rfl, by simp, fun k hk _ => Below.heap_alloc w o k hk⟩
theorem Since.drawn {w0 w : World} {bs : List Nat} (h : Since bs w0 w) (n : Nat) : Since bs w0 { w with drawn := n } := ⟨h.os, h.tape, h.output, h.size, h.block⟩

/-- a slice that is only read: n elements of sz cells each -/
def Ro (w : World) (v : Value) (sz n : Nat) (xs : List Value) : Prop :=
  xs.length = n * sz ∧ (((∃ a cp, v = .slice a 0 cp) ∧ n = 0) ∨ ∃ g off cap, v = .slice (some ⟨g, off, none⟩) n cap ∧ g < w.heap.size ∧ n ≤ cap ∧ ∀ (j : Nat) u, xs[j]? = some u → w.cell? ⟨g, off + j, none⟩ = some u)

/-! what is owned -/
inductive Res where
  | cells (b : Nat) (t : TypeId) (cs : List Value)
  | row (v : Value) (e : TypeId) (sz : Nat) (n : Nat) (xs : List Value)
  | obj (b : Nat) (o : Obj)
  /-- a slice that is read alone from now on -/
  | sl (v : Value) (sz n : Nat) (xs : List Value)
  /-- another's, told by a word on these blocks alone -/
  | ext (bs : List Nat) (J : World → Prop)

def Res.blk : Res → List Nat
  | .cells b _ _ => [b]
  | .row v _ _ _ _ => v.ownBlock.toList
  | .obj b _ => [b]
  | .sl v _ _ _ => v.ownBlock.toList
  | .ext bs _ => bs

def Res.holds (w : World) : Res → Prop
  | .cells b t cs => w.heap[b]? = some (.cells cs.toArray t (0, 0))
  | .row v e sz n xs => w.ownsRow 0 e sz v n xs
  | .obj b o => w.heap[b]? = some o
  | .sl v sz n xs => Ro w v sz n xs
  | .ext bs J => ∀ w' : World, w.heap.size ≤ w'.heap.size → (∀ b ∈ bs, w'.heap[b]? = w.heap[b]?) → J w'

def Res.apart (r s : Res) : Prop := ∀ b, b ∈ r.blk → b ∉ s.blk

theorem Res.apart_comm {r s : Res} (h : r.apart s) : s.apart r := fun b hs hr => h b hr hs

theorem ownsRow_same {w w' : World} {base : Nat} {e : TypeId} {sz : Nat} {v : Value} {n : Nat} {xs : List Value} (h : w.ownsRow base e sz v n xs)
    (hb : ∀ b, v.ownBlock = some b → w'.heap[b]? = w.heap[b]?) : w'.ownsRow base e sz v n xs := by
  refine ⟨h.1, ?_⟩
  rcases h.2 with hn | ⟨g, cap, cur, rfl, hbg, hgg, rest⟩
  · exact .inl hn
  · exact .inr ⟨g, cap, cur, rfl, hbg, (hb g rfl).trans hgg, rest⟩

theorem Ro.same {w w' : World} {v : Value} {sz n : Nat} {xs : List Value} (h : Ro w v sz n xs) (hs : w.heap.size ≤ w'.heap.size) (hb : ∀ b, v.ownBlock = some b → w'.heap[b]? = w.heap[b]?) : Ro w' v sz n xs := by
  refine ⟨h.1, ?_⟩
  rcases h.2 with h0 | ⟨g, off, cap, rfl, h2, h3, h4⟩
  · exact .inl h0
  · exact .inr ⟨g, off, cap, rfl, Nat.lt_of_lt_of_le h2 hs, h3, fun j u hu => (World.cell?_of_block (hb g rfl)).trans (h4 j u hu)⟩

theorem Res.holds_same {w w' : World} {r : Res} (h : r.holds w) (hs : w.heap.size ≤ w'.heap.size) (hb : ∀ b, b ∈ r.blk → w'.heap[b]? = w.heap[b]?) : r.holds w' := by
  cases r with
  | cells b t cs => exact (hb b (by simp [Res.blk])).trans h
  | row v e sz n xs => exact ownsRow_same h fun b hv => hb b (by simp [Res.blk, hv])
  | obj b o => exact (hb b (by simp [Res.blk])).trans h
  | sl v sz n xs => exact Ro.same h hs fun b hv => hb b (by simp [Res.blk, hv])
  | ext bs J => exact fun w2 h1 h2 => h w2 (Nat.le_trans hs h1) fun b hm => (h2 b hm).trans (hb b hm)

structure HpOk (bs : List Nat) (n0 : Nat) (H : List Res) (w : World) : Prop where
  holds : ∀ r ∈ H, r.holds w
  own : ∀ r ∈ H, ∀ b, b ∈ r.blk → (b ∈ bs ∨ n0 ≤ b) ∧ b < w.heap.size
  apart : H.Pairwise Res.apart

theorem HpOk.nil (bs : List Nat) (n0 : Nat) (w : World) : HpOk bs n0 [] w := ⟨by simp, by simp, .nil⟩

/-- a world in which each owned block lies as it lay -/
theorem HpOk.same {bs bs' : List Nat} {n0 n0' : Nat} {H : List Res} {w w' : World} (h : HpOk bs n0 H w) (hs : w.heap.size ≤ w'.heap.size)
    (hb : ∀ r ∈ H, ∀ b, b ∈ r.blk → w'.heap[b]? = w.heap[b]?) (hw : ∀ b, (b ∈ bs ∨ n0 ≤ b) → b < w.heap.size → (b ∈ bs' ∨ n0' ≤ b)) : HpOk bs' n0' H w' :=
  ⟨fun r hr => Res.holds_same (h.holds r hr) hs (hb r hr), fun r hr b hb' => let ⟨o, l⟩ := h.own r hr b hb'; ⟨hw b o l, Nat.lt_of_lt_of_le l hs⟩, h.apart⟩

theorem HpOk.ext {bs : List Nat} {n0 : Nat} {H : List Res} {w w' : World} (h : HpOk bs n0 H w) (hs : Since [] w w') : HpOk bs n0 H w' :=
  h.same hs.size (fun r hr b hb => hs.block b (h.own r hr b hb).2 (by simp)) (fun _ o _ => o)

theorem HpOk.cons {bs : List Nat} {n0 : Nat} {H : List Res} {w : World} {r : Res} (h : HpOk bs n0 H w) (hr : r.holds w)
    (ho : ∀ b, b ∈ r.blk → (b ∈ bs ∨ n0 ≤ b) ∧ b < w.heap.size) (ha : ∀ s ∈ H, r.apart s) : HpOk bs n0 (r :: H) w :=
  ⟨fun s hs => by cases hs with | head => exact hr | tail _ hm => exact h.holds s hm,
   fun s hs => by cases hs with | head => exact ho | tail _ hm => exact h.own s hm,
   .cons ha h.apart⟩

/-- a new resource whose block was not there before -/
theorem HpOk.fresh {bs : List Nat} {n0 : Nat} {H : List Res} {w w' : World} {r : Res} (h : HpOk bs n0 H w) (hs : Since [] w w') (hr : r.holds w')
    (hn : n0 ≤ w.heap.size) (ho : ∀ b, b ∈ r.blk → w.heap.size ≤ b ∧ b < w'.heap.size) : HpOk bs n0 (r :: H) w' :=
  (h.ext hs).cons hr (fun b hb => ⟨.inr (Nat.le_trans hn (ho b hb).1), (ho b hb).2⟩)
    (fun s hm b hb hsb => by have := (h.own s hm b hsb).2; have := (ho b hb).1; omega)

theorem HpOk.sub {bs : List Nat} {n0 : Nat} {H H' : List Res} {w : World} (h : HpOk bs n0 H w) (hs : H'.Sublist H) : HpOk bs n0 H' w :=
  ⟨fun r hr => h.holds r (hs.subset hr), fun r hr => h.own r (hs.subset hr), h.apart.sublist hs⟩

theorem HpOk.perm {bs : List Nat} {n0 : Nat} {H H' : List Res} {w : World} (h : HpOk bs n0 H w) (hs : H.Perm H') : HpOk bs n0 H' w :=
  ⟨fun r hr => h.holds r (hs.mem_iff.2 hr), fun r hr => h.own r (hs.mem_iff.2 hr), (hs.pairwise_iff (fun hrs => Res.apart_comm hrs)).1 h.apart⟩

theorem apart_of_get {H : List Res} (h : H.Pairwise Res.apart) {j k : Nat} {r s : Res} (hj : H[j]? = some r) (hk : H[k]? = some s) (hne : j ≠ k) : r.apart s := by
  obtain ⟨lj, rfl⟩ := List.getElem?_eq_some_iff.1 hj
  obtain ⟨lk, rfl⟩ := List.getElem?_eq_some_iff.1 hk
  rcases Nat.lt_or_ge j k with hlt | hge
  · exact List.pairwise_iff_getElem.1 h j k lj lk hlt
  · exact Res.apart_comm (List.pairwise_iff_getElem.1 h k j lk lj (by omega))

/-- one resource is turned into another one, in its block or in a new one; nothing else of what was there has turned -/
theorem HpOk.set {bs : List Nat} {n0 : Nat} {H : List Res} {w w' : World} (h : HpOk bs n0 H w) {k : Nat} {r r' : Res} (hk : H[k]? = some r)
    (hs : w.heap.size ≤ w'.heap.size) (hb : ∀ j, j < w.heap.size → j ∉ r.blk → w'.heap[j]? = w.heap[j]?) (hr : r'.holds w') (hn : n0 ≤ w.heap.size)
    (ho : ∀ b, b ∈ r'.blk → (b ∈ r.blk ∨ w.heap.size ≤ b) ∧ b < w'.heap.size) : HpOk bs n0 (H.set k r') w' := by
  have hmem : r ∈ H := List.mem_of_getElem? hk
  refine ⟨fun s hm => ?_, fun s hm b hbs => ?_, ?_⟩
  · obtain ⟨j, hj⟩ := List.mem_iff_getElem?.1 hm
    rw [List.getElem?_set] at hj
    by_cases e : k = j
    · subst e
      have hl := (List.getElem?_eq_some_iff.1 hk).1
      simp [hl] at hj; subst hj; exact hr
    · simp [e] at hj
      refine Res.holds_same (h.holds s (List.mem_of_getElem? hj)) hs (fun b hbb => hb b (h.own s (List.mem_of_getElem? hj) b hbb).2 (fun hrb => ?_))
      exact apart_of_get h.apart hk hj e b hrb hbb
  · obtain ⟨j, hj⟩ := List.mem_iff_getElem?.1 hm
    rw [List.getElem?_set] at hj
    by_cases e : k = j
    · subst e
      have hl := (List.getElem?_eq_some_iff.1 hk).1
      simp [hl] at hj; subst hj
      obtain ⟨h1, h2⟩ := ho b hbs
      refine ⟨?_, h2⟩
      rcases h1 with h1 | h1
      · exact (h.own r hmem b h1).1
      · exact .inr (Nat.le_trans hn h1)
    · simp [e] at hj
      obtain ⟨h1, h2⟩ := h.own s (List.mem_of_getElem? hj) b hbs
      exact ⟨h1, Nat.lt_of_lt_of_le h2 hs⟩
  · rw [List.pairwise_iff_getElem]
    intro i j hi hj hij
    have hl := (List.getElem?_eq_some_iff.1 hk).1
    have key : ∀ j s, H[j]? = some s → k ≠ j → r'.apart s := fun j s hjs hne b hrb hsb => by
      have h2 := (h.own s (List.mem_of_getElem? hjs) b hsb).2
      rcases (ho b hrb).1 with h1 | h1
      · exact apart_of_get h.apart hk hjs hne b h1 hsb
      · omega
    rw [List.length_set] at hi hj
    rw [List.getElem_set, List.getElem_set]
    by_cases e1 : k = i
    · rw [if_pos e1, if_neg (by omega)]
      exact key j _ (List.getElem?_eq_getElem hj) (by omega)
    · rw [if_neg e1]
      by_cases e2 : k = j
      · rw [if_pos e2]
        exact Res.apart_comm (key i _ (List.getElem?_eq_getElem hi) (by omega))
      · rw [if_neg e2]
        exact List.pairwise_iff_getElem.1 h.apart i j hi hj hij

/-- the k-th resource told otherwise, in no other blocks -/
theorem HpOk.turn {bs : List Nat} {n0 : Nat} {H : List Res} {w : World} (h : HpOk bs n0 H w) {k : Nat} {r r' : Res} (hk : H[k]? = some r) (hr : ∀ w : World, r.holds w → r'.holds w) (hb : ∀ b, b ∈ r'.blk → b ∈ r.blk) : HpOk bs n0 (H.set k r') w := by
  have hmem : r ∈ H := List.mem_of_getElem? hk
  have hl := (List.getElem?_eq_some_iff.1 hk).1
  have get : ∀ s ∈ H.set k r', (s = r' ∨ ∃ j, j ≠ k ∧ H[j]? = some s) := fun s hs => by
    obtain ⟨j, hj⟩ := List.mem_iff_getElem?.1 hs
    rw [List.getElem?_set] at hj
    by_cases e : k = j
    · subst e; simp [hl] at hj; exact .inl hj.symm
    · simp [e] at hj; exact .inr ⟨j, Ne.symm e, hj⟩
  refine ⟨fun s hs => ?_, fun s hs b hbs => ?_, ?_⟩
  · rcases get s hs with rfl | ⟨j, _, hj⟩
    · exact hr w (h.holds r hmem)
    · exact h.holds s (List.mem_of_getElem? hj)
  · rcases get s hs with rfl | ⟨j, _, hj⟩
    · exact h.own r hmem b (hb b hbs)
    · exact h.own s (List.mem_of_getElem? hj) b hbs
  · rw [List.pairwise_iff_getElem]
    intro i j hi hj hij
    rw [List.length_set] at hi hj
    rw [List.getElem_set, List.getElem_set]
    by_cases e1 : k = i
    · rw [if_pos e1, if_neg (by omega)]
      exact fun b hb1 hb2 => apart_of_get h.apart hk (List.getElem?_eq_getElem hj) (by omega) b (hb b hb1) hb2
    · rw [if_neg e1]
      by_cases e2 : k = j
      · rw [if_pos e2]
        exact fun b hb1 hb2 => apart_of_get h.apart (List.getElem?_eq_getElem hi) hk (by omega) b hb1 (hb b hb2)
      · rw [if_neg e2]
        exact List.pairwise_iff_getElem.1 h.apart i j hi hj hij

/-- some of the resources, in another order -/
def pick (H : List Res) : List Nat → Option (List Res)
  | [] => some []
  | k :: ks => match H[k]?, pick H ks with
    | some r, some l => some (r :: l)
    | _, _ => none

theorem pick_get {H : List Res} : ∀ {ks : List Nat} {l : List Res}, pick H ks = some l → ∀ (j : Nat) (r : Res), l[j]? = some r → ∃ k : Nat, ks[j]? = some k ∧ H[k]? = some r := by
  intro ks
  induction ks with
  | nil => intro l h j r hj; simp [pick] at h; subst h; simp at hj
  | cons k ks ih =>
    intro l h j r hj
    simp only [pick] at h
    split at h
    · rename_i r0 l0 h1 h2
      simp at h; subst h
      cases j with
      | zero => simp at hj; subst hj; exact ⟨k, rfl, h1⟩
      | succ j => obtain ⟨k', e1, e2⟩ := ih h2 j r (by simpa using hj); exact ⟨k', by simpa using e1, e2⟩
    · cases h

theorem HpOk.pick {bs : List Nat} {n0 : Nat} {H l : List Res} {w : World} (h : HpOk bs n0 H w) {ks : List Nat} (hp : pick H ks = some l) (hn : ks.Nodup) : HpOk bs n0 l w := by
  refine ⟨fun r hr => ?_, fun r hr => ?_, ?_⟩
  · obtain ⟨j, hj⟩ := List.mem_iff_getElem?.1 hr
    obtain ⟨k, _, e⟩ := pick_get hp j r hj
    exact h.holds r (List.mem_of_getElem? e)
  · obtain ⟨j, hj⟩ := List.mem_iff_getElem?.1 hr
    obtain ⟨k, _, e⟩ := pick_get hp j r hj
    exact h.own r (List.mem_of_getElem? e)
  · rw [List.pairwise_iff_getElem]
    intro i j hi hj hij
    obtain ⟨k1, e1, f1⟩ := pick_get hp i _ (List.getElem?_eq_getElem hi)
    obtain ⟨k2, e2, f2⟩ := pick_get hp j _ (List.getElem?_eq_getElem hj)
    refine apart_of_get h.apart f1 f2 (fun e => ?_)
    subst e
    obtain ⟨l1, q1⟩ := List.getElem?_eq_some_iff.1 e1
    obtain ⟨l2, q2⟩ := List.getElem?_eq_some_iff.1 e2
    exact absurd (q1.trans q2.symm) (by
      intro hq
      exact (List.pairwise_iff_getElem.1 hn i j l1 l2 hij) hq)

/-! states -/
structure Cx where
  ro : Option Nat
  w0 : World
  bs : List Nat

structure St (N : Nat) (c : Cx) (D : List Deferred) (F : Frm) (H : List Res) (a : Act) (w : World) : Prop where
  tm : a.tmps.size = N
  fr : FrOk F a.tmps
  df : a.defers = D
  si : Since c.bs c.w0 w
  hp : HpOk c.bs c.w0.heap.size H w

theorem St.sub {N : Nat} {c : Cx} {D : List Deferred} {F F' : Frm} {H : List Res} {a : Act} {w : World} (h : St N c D F H a w) (hs : ∀ d v, lk F' d = some v → lk F d = some v) : St N c D F' H a w :=
  ⟨h.tm, h.fr.sub hs, h.df, h.si, h.hp⟩

theorem St.put {N : Nat} {c : Cx} {D : List Deferred} {F : Frm} {H H' : List Res} {a : Act} {w w' : World} {d : Option Tmp} {v : Value} (h : St N c D F H a w) (hd : dOk N d = true)
    (hs : Since c.bs c.w0 w') (hp : HpOk c.bs c.w0.heap.size H' w') : St N c D (pt d v F) H' (a.put d v) w' := by
  refine ⟨?_, h.fr.put h.tm hd, ?_, hs, hp⟩
  · cases d <;> simp [Act.put, h.tm]
  · cases d <;> simp [Act.put, h.df]

def WP (P : Program) (N : Nat) (c : Cx) (D : List Deferred) (code : Code) (Q : Exit → Act → World → Prop) (F : Frm) (H : List Res) : Prop :=
  ∀ a w, St N c D F H a w → code.wpIn (FA c.ro) 0 P Q a w
def WQ (N : Nat) (c : Cx) (D : List Deferred) (Q : Exit → Act → World → Prop) (e : Exit) (F : Frm) (H : List Res) : Prop :=
  ∀ a w, St N c D F H a w → Q e a w
def WL (P : Program) (N : Nat) (c : Cx) (D : List Deferred) (ops : Array Oper) (Q : Exit → Act → World → Prop) (l : List Oper) (F : Frm) (H : List Res) : Prop :=
  ∀ a w, St N c D F H a w → wpListIn (FA c.ro) 0 P ops Q l a w

/-- the operation gives this value; of the world nothing turns but what is new -/
def VS (P : Program) (N : Nat) (c : Cx) (o : Oper) (F : Frm) (H : List Res) (v : Value) : Prop :=
  ∀ D a w next Q, St N c D F H a w → (∀ w', Since [] w w' → next (a.put o.dst v) w') → o.wpIn (FA c.ro) 0 P a w next Q

/-- the operation gives a value and resources, told by a ghost -/
def RX {α : Type} (P : Program) (N : Nat) (c : Cx) (o : Oper) (F : Frm) (H : List Res) (p : α → Prop) (fv : α → Value) (fH : α → List Res) : Prop :=
  ∀ D a w next Q, St N c D F H a w → (∀ x w', p x → Since c.bs c.w0 w' → HpOk c.bs c.w0.heap.size (fH x) w' → next (a.put o.dst (fv x)) w') → o.wpIn (FA c.ro) 0 P a w next Q

theorem VS.rx {P : Program} {N : Nat} {c : Cx} {o : Oper} {F : Frm} {H : List Res} {v : Value} (h : VS P N c o F H v) : RX (α := Unit) P N c o F H (fun _ => True) (fun _ => v) (fun _ => H) :=
  fun D a w next Q hst hk => h D a w next Q hst fun w' hw => hk () w' trivial (hst.si.ext hw) (hst.hp.ext hw)

/-- an operation that is carried out at once -/
theorem opIn_value {P : Program} {c : Cx} {o : Oper} {a : Act} {w w' : World} {v : Value} {next : Act → World → Prop} {Q : Exit → Act → World → Prop} (hd : ∀ cc, o.op ≠ .defer cc)
    (hr : (execOp a.eval o).run P w = .ok (.value v) w') (hk : next (a.put o.dst v) w') : o.wpIn (FA c.ro) 0 P a w next Q := by
  refine ⟨fun _ _ => trivial, ?_⟩
  have : Oper.semAt (FA c.ro).round a.eval o = execOp a.eval o := Oper.semAt_eq _ _ _ hd
  rw [this, hr]
  exact hk

theorem opIn_skip {P : Program} {c : Cx} {o : Oper} {a : Act} {w w' : World} {next : Act → World → Prop} {Q : Exit → Act → World → Prop} (hd : ∀ cc, o.op ≠ .defer cc)
    (hr : (execOp a.eval o).run P w = .ok .skip w') (hk : next (a.put o.dst undef) w') : o.wpIn (FA c.ro) 0 P a w next Q := by
  refine ⟨fun _ _ => trivial, ?_⟩
  have : Oper.semAt (FA c.ro).round a.eval o = execOp a.eval o := Oper.semAt_eq _ _ _ hd
  rw [this, hr]
  exact hk

theorem VS_of_run {P : Program} {N : Nat} {c : Cx} {o : Oper} {F : Frm} {H : List Res} {v : Value} (hd : ∀ cc, o.op ≠ .defer cc)
    (h : ∀ (a : Act) (w : World), FrOk F a.tmps → Since c.bs c.w0 w → HpOk c.bs c.w0.heap.size H w → (execOp a.eval o).run P w = .ok (.value v) w) : VS P N c o F H v :=
  fun _ a w _ _ hst hk => opIn_value hd (h a w hst.fr hst.si hst.hp) (hk w (Since.refl _ _))

/-! lists of operations -/
section lists
variable {P : Program} {N : Nat} {c : Cx} {D : List Deferred} {ops : Array Oper} {Q : Exit → Act → World → Prop} {o : Oper} {rest : List Oper} {F : Frm} {H : List Res}
  {d : Tmp} {op : Op} {ty : TypeId} {ps : String} {af : Array Edge} {g : Option (Nat × Bool)}

theorem WL_nil (h : WQ N c D Q .normal F H) : WL P N c D ops Q [] F H := fun a w hst => h a w hst

theorem WL_v {v : Value} (hd : Nat.blt d N = true) (hv : VS P N c ⟨some d, op, ty, ps, af, none⟩ F H v) (h : WL P N c D ops Q rest ((d, v) :: F) H) : WL P N c D ops Q (⟨some d, op, ty, ps, af, none⟩ :: rest) F H :=
  fun a w hst => wpListIn_plain rfl fun K hK => hv D a w K Q hst fun _ hw => hK _ _ (h _ _ (hst.put (d := some d) hd (hst.si.ext hw) (hst.hp.ext hw)))

theorem WL_x {α : Type} {p : α → Prop} {fv : α → Value} {fH : α → List Res} (hd : Nat.blt d N = true) (hv : RX P N c ⟨some d, op, ty, ps, af, none⟩ F H p fv fH)
    (h : ∀ x, p x → WL P N c D ops Q rest ((d, fv x) :: F) (fH x)) : WL P N c D ops Q (⟨some d, op, ty, ps, af, none⟩ :: rest) F H :=
  fun a w hst => wpListIn_plain rfl fun K hK => hv D a w K Q hst fun x _ hp hs hh => hK _ _ (h x hp _ _ (hst.put (d := some d) hd hs hh))
theorem WL_x0 {α : Type} {p : α → Prop} {fv : α → Value} {fH : α → List Res} (hv : RX P N c ⟨none, op, ty, ps, af, none⟩ F H p fv fH)
    (h : ∀ x, p x → WL P N c D ops Q rest F (fH x)) : WL P N c D ops Q (⟨none, op, ty, ps, af, none⟩ :: rest) F H :=
  fun a w hst => wpListIn_plain rfl fun K hK => hv D a w K Q hst fun x _ hp hs hh => hK _ _ (h x hp _ _ (hst.put (d := none) rfl hs hh))

/-- what a guard's operation has yielded, as far as the facts tell -/
def gd (ops : Array Oper) (F : Frm) : Option (Nat × Bool) → Option Bool
  | none => none
  | some (j, want) => match ((ops[j]?).bind (·.dst)).bind (lk F) with
    | some (.bool b) => some (b == want)
    | _ => none

/-- whether the guard lets the operation -/
def Gd (ops : Array Oper) (F : Frm) (g : Option (Nat × Bool)) (B : Bool) : Prop := ∀ (o : Oper) (a : Act), o.guard = g → FrOk F a.tmps → Region.wanted o (yielded ops a.tmps) = B

theorem yielded_of {a : Act} {j : Nat} {k : Tmp} {v : Value} (hf : FrOk F a.tmps) (hd : (ops[j]?).bind (·.dst) = some k) (hl : lk F k = some v) : yielded ops a.tmps j = match v with | .bool b => some b | _ => none := by
  have h1 := hf _ _ hl
  cases ho : ops[j]? with
  | none => simp [ho] at hd
  | some oj =>
    simp [ho] at hd
    cases v <;> simp [yielded, ho, hd, h1]

theorem Gd_b {j : Nat} {want b : Bool} {k : Tmp} (hd : (ops[j]?).bind (·.dst) = some k) (hl : lk F k = some (.bool b)) : Gd ops F (some (j, want)) (b == want) := fun o a hg hf => by
  simp only [Region.wanted, hg, yielded_of hf hd hl]
  cases b <;> cases want <;> rfl
theorem Gd_g {j : Nat} {want b t : Bool} {k : Tmp} (hd : (ops[j]?).bind (·.dst) = some k) (hl : lk F k = some (bif t then .bool b else undef)) : Gd ops F (some (j, want)) (t && (b == want)) := fun o a hg hf => by
  simp only [Region.wanted, hg, yielded_of hf hd hl]
  cases b <;> cases want <;> cases t <;> rfl

theorem WL_skip (hg : Gd ops F g false) (hd : Nat.blt d N = true) (h : WL P N c D ops Q rest ((d, undef) :: F) H) : WL P N c D ops Q (⟨some d, op, ty, ps, af, g⟩ :: rest) F H := by
  intro a w hst
  simp only [wpListIn, hg ⟨some d, op, ty, ps, af, g⟩ a rfl hst.fr]
  exact ⟨fun _ _ => trivial, h _ _ (hst.put (d := some d) hd hst.si hst.hp)⟩

/-- a guarded operation that only gives a value: its fact stands where the guard lets it -/
theorem WL_g {b : Bool} {v : Value} (hg : Gd ops F g b) (hd : Nat.blt d N = true) (hv : b = true → VS P N c ⟨some d, op, ty, ps, af, g⟩ F H v)
    (h : WL P N c D ops Q rest ((d, bif b then v else undef) :: F) H) : WL P N c D ops Q (⟨some d, op, ty, ps, af, g⟩ :: rest) F H := by
  cases b with
  | false => exact WL_skip hg hd h
  | true =>
    intro a w hst
    simp only [wpListIn, hg ⟨some d, op, ty, ps, af, g⟩ a rfl hst.fr, if_true]
    exact hv rfl D a w _ Q hst fun w' hw => h _ _ (hst.put (d := some d) hd (hst.si.ext hw) (hst.hp.ext hw))

/-- a guarded operation, the two ways apart -/
theorem WL_gx {α : Type} {b : Bool} {p : α → Prop} {fv : α → Value} {fH : α → List Res} (hg : Gd ops F g b) (hd : Nat.blt d N = true) (hv : b = true → RX P N c ⟨some d, op, ty, ps, af, g⟩ F H p fv fH)
    (h1 : b = true → ∀ x, p x → WL P N c D ops Q rest ((d, fv x) :: F) (fH x)) (h0 : b = false → WL P N c D ops Q rest ((d, undef) :: F) H) : WL P N c D ops Q (⟨some d, op, ty, ps, af, g⟩ :: rest) F H := by
  cases b with
  | false => exact WL_skip hg hd (h0 rfl)
  | true =>
    intro a w hst
    simp only [wpListIn, hg ⟨some d, op, ty, ps, af, g⟩ a rfl hst.fr, if_true]
    exact hv rfl D a w _ Q hst fun x w' hp hs hh => h1 rfl x hp _ _ (hst.put (d := some d) hd hs hh)

/-- an operand whose fact stands under a guard -/
theorem gev {x : Operand} {t : Bool} {v : Value} (h : ev F x = some (bif t then v else undef)) (ht : t = true) : ev F x = some v := by subst ht; exact h
theorem gev2 {x : Operand} {s t : Bool} {v : Value} (h : ev F x = some (bif s && t then v else undef)) (ht : s = true) : ev F x = some (bif t then v else undef) := by subst ht; exact h
theorem and_l {s t : Bool} (h : (s && t) = true) : s = true := (Bool.and_eq_true_iff.1 h).1
theorem and_r {s t : Bool} (h : (s && t) = true) : t = true := (Bool.and_eq_true_iff.1 h).2

/-- what is owned, told otherwise -/
theorem WL_res {l : List Oper} {H' : List Res} (hH : ∀ bs n0 w, HpOk bs n0 H w → HpOk bs n0 H' w) (h : WL P N c D ops Q l F H') : WL P N c D ops Q l F H := fun a w hst => h a w ⟨hst.tm, hst.fr, hst.df, hst.si, hH _ _ _ hst.hp⟩
theorem WL.weaken {l : List Oper} {F' : Frm} (h : WL P N c D ops Q l F' H) (hs : Sub F' F) : WL P N c D ops Q l F H := fun a w hst => h a w (hst.sub hs.lk)
end lists

/-! code -/
section code
variable {P : Program} {N : Nat} {c : Cx} {D : List Deferred} {Q : Exit → Act → World → Prop} {F : Frm} {H : List Res}

theorem WP_seq {x y : Code} (h : WP P N c D x (Exit.then (y.wpIn (FA c.ro) 0 P Q) Q) F H) : WP P N c D (.seq x y) Q F H := fun a w hst => wpIn_seq (h a w hst)
theorem WP_block {id : Nat} {x : Code} (h : WP P N c D x (Exit.inBlock id Q) F H) : WP P N c D (.block id x) Q F H := fun a w hst => wpIn_block (h a w hst)
theorem WP_skip (h : WQ N c D Q .normal F H) : WP P N c D .skip Q F H := fun a w hst => wpIn_skip (h a w hst)
theorem WP_label {l : Nat} (h : WQ N c D Q .normal F H) : WP P N c D (.label l) Q F H := fun a w hst => wpIn_label (h a w hst)
theorem WP_ret (h : WQ N c D Q .ret F H) : WP P N c D .ret Q F H := fun a w hst => wpIn_ret (h a w hst)
theorem WP_exit {id : Nat} (h : WQ N c D Q (.exit id) F H) : WP P N c D (.exit id) Q F H := fun a w hst => wpIn_exit (h a w hst)
theorem WP_region {id : Nat} {l : List Oper} (h : WL P N c D l.toArray Q l F H) : WP P N c D (.region id l.toArray false) Q F H := fun a w hst => wpIn_region_lit (h a w hst)
theorem WP_true {x : Operand} {y z : Code} (hc : ev F x = some (.bool true)) (h : WP P N c D y Q F H) : WP P N c D (.cond x y z) Q F H :=
  fun a w hst => wpIn_cond_true (ev_ok hst.fr hc) (h a w hst)
theorem WP_false {x : Operand} {y z : Code} (hc : ev F x = some (.bool false)) (h : WP P N c D z Q F H) : WP P N c D (.cond x y z) Q F H :=
  fun a w hst => wpIn_cond_false (ev_ok hst.fr hc) (h a w hst)

theorem WP_res {x : Code} {H' : List Res} (hH : ∀ bs n0 w, HpOk bs n0 H w → HpOk bs n0 H' w) (h : WP P N c D x Q F H') : WP P N c D x Q F H := fun a w hst => h a w ⟨hst.tm, hst.fr, hst.df, hst.si, hH _ _ _ hst.hp⟩
theorem WQ_res {e : Exit} {H' : List Res} (hH : ∀ bs n0 w, HpOk bs n0 H w → HpOk bs n0 H' w) (h : WQ N c D Q e F H') : WQ N c D Q e F H := fun a w hst => h a w ⟨hst.tm, hst.fr, hst.df, hst.si, hH _ _ _ hst.hp⟩

/-- what a Bool says -/
class BP (t : Bool) (p : outParam Prop) : Prop where
  iff : t = true ↔ p
instance (priority := 10) BP_any (t : Bool) : BP t (t = true) := ⟨Iff.rfl⟩
instance BP_dec (p : Prop) [Decidable p] : BP (decide p) p := ⟨decide_eq_true_iff⟩
instance BP_int (a b : Int) : BP (a == b) (a = b) := ⟨beq_iff_eq⟩
instance BP_intne (a b : Int) : BP (a != b) (a ≠ b) := ⟨bne_iff_ne⟩
instance BP_not (t : Bool) (p : Prop) [h : BP t p] : BP (!t) (¬ p) := ⟨by simp [← h.iff]⟩
instance BP_and (t u : Bool) (p q : Prop) [h : BP t p] [k : BP u q] : BP (t && u) (p ∧ q) := ⟨by simp [← h.iff, ← k.iff]⟩
instance BP_or (t u : Bool) (p q : Prop) [h : BP t p] [k : BP u q] : BP (t || u) (p ∨ q) := ⟨by simp [← h.iff, ← k.iff]⟩

theorem WP_cond {x : Operand} {y z : Code} {t : Bool} {p : Prop} [hb : BP t p] (hc : ev F x = some (.bool t)) (h1 : p → WP P N c D y Q F H) (h0 : ¬ p → WP P N c D z Q F H) : WP P N c D (.cond x y z) Q F H := by
  cases t with
  | true => exact WP_true hc (h1 (hb.iff.1 rfl))
  | false => exact WP_false hc (h0 (fun hp => by have := hb.iff.2 hp; cases this))

theorem WQ_then {y : Code} (h : WP P N c D y Q F H) : WQ N c D (Exit.then (y.wpIn (FA c.ro) 0 P Q) Q) .normal F H := h
theorem WQ_then_ret {K : Act → World → Prop} (h : WQ N c D Q .ret F H) : WQ N c D (Exit.then K Q) .ret F H := h
theorem WQ_then_exit {K : Act → World → Prop} {id : Nat} (h : WQ N c D Q (.exit id) F H) : WQ N c D (Exit.then K Q) (.exit id) F H := h
theorem WQ_block {id : Nat} (h : WQ N c D Q .normal F H) : WQ N c D (Exit.inBlock id Q) .normal F H := h
theorem WQ_block_ret {id : Nat} (h : WQ N c D Q .ret F H) : WQ N c D (Exit.inBlock id Q) .ret F H := h
theorem WQ_block_exit {id : Nat} (h : WQ N c D Q .normal F H) : WQ N c D (Exit.inBlock id Q) (.exit id) F H := fun a w hst => by simpa [Exit.inBlock] using h a w hst
theorem WQ_block_pass {id k : Nat} (hne : Nat.beq k id = false) (h : WQ N c D Q (.exit k) F H) : WQ N c D (Exit.inBlock id Q) (.exit k) F H := fun a w hst => by
  have : ¬ k = id := fun e => by rw [e, Nat.beq_refl] at hne; cases hne
  simpa [Exit.inBlock, this] using h a w hst

/-- a cut: what stands between is told anew, with ghosts -/
theorem WP_cut {α : Type} {x y : Code} (I : α → Frm) (J : α → List Res) (p : α → Prop)
    (h1 : WP P N c D x (Exit.then (fun a w => ∃ i, p i ∧ St N c D (I i) (J i) a w) Q) F H) (h2 : ∀ i, p i → WP P N c D y Q (I i) (J i)) : WP P N c D (.seq x y) Q F H :=
  fun _ _ hst => wpIn_seq (wpIn_mono (h1 _ _ hst) fun e a' w' hq => by
    cases e with
    | normal => obtain ⟨i, hp, hs⟩ := hq; exact h2 i hp a' w' hs
    | _ => exact hq)

theorem WQ_cut {α : Type} {I : α → Frm} {J : α → List Res} {p : α → Prop} (i : α) (hp : p i) (hs : Sub (I i) F) {ks : List Nat} (hk : pick H ks = some (J i)) (hn : ks.Nodup) :
    WQ N c D (Exit.then (fun a w => ∃ i, p i ∧ St N c D (I i) (J i) a w) Q) .normal F H :=
  fun _ _ hst => ⟨i, hp, hst.tm, hst.fr.sub hs.lk, hst.df, hst.si, hst.hp.pick hk hn⟩

/-- a loop, with ghosts and a measure -/
theorem WP_loop0 {α : Type} {x : Code} (I : α → Frm) (J : α → List Res) (p : α → Prop) (μ : α → Nat) (i0 : α) (hp0 : p i0)
    (hbody : ∀ i, p i → WP P N c D x (Exit.then (fun a w => ∃ i', μ i' < μ i ∧ p i' ∧ St N c D (I i') (J i') a w) Q) (I i) (J i)) : WP P N c D (.loop x) Q (I i0) (J i0) := by
  intro a w hst b k cs hro hb hr
  have key : ∀ j i, μ i = j → p i → ∀ a w, St N c D (I i) (J i) a w →
      ∃ e a' w', Q e a' w' ∧ ArrivesIn (Machine.fenced P (FA c.ro)) P (lone (b.atR a (.code x :: .inLoop x :: k)) cs w) b k cs e a' w' := by
    intro j
    induction j using Nat.strongRecOn with
    | _ j ih =>
      intro i hi hp a w hst
      obtain ⟨e, a₁, w₁, hq, harr⟩ := hbody i hp a w hst b (.inLoop x :: k) cs hro hb hr
      cases e with
      | normal =>
        obtain ⟨i', hlt, hp', hst'⟩ := hq
        obtain ⟨e₂, a₂, w₂, hq₂, harr₂⟩ := ih (μ i') (hi ▸ hlt) i' rfl hp' a₁ w₁ hst'
        exact ⟨e₂, a₂, w₂, hq₂, .of_steps (StepsIn.trans harr (.one (fenced_calm hb hr rfl) stepR_inLoop)) harr₂⟩
      | exit id => exact ⟨_, a₁, w₁, hq, .pass (x := .inLoop x) rfl (fun _ _ => .inl (by simp)) harr⟩
      | goto l => exact ⟨_, a₁, w₁, hq, .pass (x := .inLoop x) rfl (fun _ _ => .inl (by simp)) harr⟩
      | ret => exact ⟨_, a₁, w₁, hq, .pass (x := .inLoop x) rfl (fun _ _ => .inl (by simp)) harr⟩
      | panic ch => exact ⟨_, a₁, w₁, hq, .pass (x := .inLoop x) rfl (fun _ _ => .inl (by simp)) harr⟩
      | outgrown => exact ⟨_, a₁, w₁, hq, .pass (x := .inLoop x) rfl (fun _ _ => .inl (by simp)) harr⟩
  obtain ⟨e, a', w', hq, harr⟩ := key _ i0 rfl hp0 a w hst
  exact ⟨e, a', w', hq, .of_steps (.one (fenced_calm hb hr rfl) stepR_loop) harr⟩

theorem WP_loop {α : Type} {x : Code} (I : α → Frm) (J : α → List Res) (p : α → Prop) (μ : α → Nat) (i0 : α) (hp0 : p i0) (hs : Sub (I i0) F) {ks : List Nat} (hk : pick H ks = some (J i0)) (hn : ks.Nodup)
    (hbody : ∀ i, p i → WP P N c D x (Exit.then (fun a w => ∃ i', μ i' < μ i ∧ p i' ∧ St N c D (I i') (J i') a w) Q) (I i) (J i)) : WP P N c D (.loop x) Q F H :=
  fun a w hst => WP_loop0 I J p μ i0 hp0 hbody a w ⟨hst.tm, hst.fr.sub hs.lk, hst.df, hst.si, hst.hp.pick hk hn⟩

theorem WQ_loop {α : Type} {I : α → Frm} {J : α → List Res} {p : α → Prop} {μ : α → Nat} {i0 : α} (i : α) (hμ : μ i < μ i0) (hp : p i) (hs : Sub (I i) F) {ks : List Nat} (hk : pick H ks = some (J i)) (hn : ks.Nodup) :
    WQ N c D (Exit.then (fun a w => ∃ i', μ i' < μ i0 ∧ p i' ∧ St N c D (I i') (J i') a w) Q) .normal F H :=
  fun _ _ hst => ⟨i, hμ, hp, hst.tm, hst.fr.sub hs.lk, hst.df, hst.si, hst.hp.pick hk hn⟩
theorem Sub_nil {G : Frm} : Sub [] G := trivial
theorem Sub_cons {d : Nat} {v : Value} {r G : Frm} (h : lk G d = some v) (hr : Sub r G) : Sub ((d, v) :: r) G := ⟨h, hr⟩

/-- some slots, with whatever they hold -/
def selF (F : Frm) : List Nat → Frm
  | [] => []
  | k :: r => match lk F k with
    | some v => (k, v) :: selF F r
    | none => selF F r

theorem lk_selF {F : Frm} : ∀ {ks : List Nat} {d : Nat} {v : Value}, lk (selF F ks) d = some v → d ∈ ks ∧ lk F d = some v := by
  intro ks
  induction ks with
  | nil => intro d v h; simp [selF, lk] at h
  | cons k r ih =>
    intro d v h
    simp only [selF] at h
    split at h
    · rename_i u hu
      simp only [lk] at h
      by_cases e : k = d
      · subst e; simp at h; subst h; exact ⟨by simp, hu⟩
      · rw [beq_no e] at h; obtain ⟨h1, h2⟩ := ih h; exact ⟨by simp [h1], h2⟩
    · obtain ⟨h1, h2⟩ := ih h; exact ⟨by simp [h1], h2⟩

/-- the slots hold what they held -/
def AllLk (G F : Frm) : List Nat → Prop
  | [] => True
  | k :: r => lk G k = lk F k ∧ AllLk G F r
theorem AllLk_nil {G F : Frm} : AllLk G F [] := trivial
theorem AllLk_cons {G F : Frm} {k : Nat} {r : List Nat} (h : lk G k = lk F k) (hr : AllLk G F r) : AllLk G F (k :: r) := ⟨h, hr⟩
theorem AllLk.get {G F : Frm} : ∀ {ks : List Nat}, AllLk G F ks → ∀ k ∈ ks, lk G k = lk F k := by
  intro ks
  induction ks with
  | nil => intro _ k h; simp at h
  | cons k r ih =>
    intro h j hj
    rcases List.mem_cons.1 hj with e | hj
    · rw [e]; exact h.1
    · exact ih h.2 j hj

theorem lk_app {A B : Frm} (d : Nat) : lk (A ++ B) d = match lk A d with | some v => some v | none => lk B d := by
  induction A with
  | nil => rfl
  | cons p r ih =>
    obtain ⟨k, v⟩ := p
    simp only [List.cons_append, lk]
    by_cases e : k = d
    · subst e; simp
    · simp [beq_no e, ih]

theorem lk_sel_app {I G F : Frm} {ks : List Nat} (h1 : Sub I G) (h2 : AllLk G F ks) : ∀ d v, lk (I ++ selF F ks) d = some v → lk G d = some v := by
  intro d v h
  rw [lk_app] at h
  split at h
  · rename_i u hu
    cases h
    exact h1.lk d _ hu
  · obtain ⟨e1, e2⟩ := lk_selF h
    rw [h2.get d e1, e2]

theorem AllLk_self (F : Frm) : ∀ ks, AllLk F F ks := by
  intro ks
  induction ks with
  | nil => trivial
  | cons k r ih => exact ⟨rfl, ih⟩

/-- slots that are kept, and what they hold -/
inductive Keep (F : Frm) : List Nat → Frm → Prop where
  | nil : Keep F [] []
  | cons {k : Nat} {v : Value} {ks : List Nat} {K : Frm} (h : lk F k = some v) (r : Keep F ks K) : Keep F (k :: ks) ((k, v) :: K)
theorem Keep.lk {F : Frm} {ks : List Nat} {K : Frm} (h : Keep F ks K) : ∀ d v, lk K d = some v → Bw.lk F d = some v := by
  induction h with
  | nil => intro d v hd; simp [Bw.lk] at hd
  | @cons k u ks K h r ih =>
    intro d v hd
    by_cases e : k = d
    · subst e; simp [Bw.lk] at hd; subst hd; exact h
    · simp only [Bw.lk, beq_no e, cond_false] at hd; exact ih d v hd
theorem lk_keep {I K G : Frm} (h1 : Sub I G) (h2 : ∀ d v, lk K d = some v → lk G d = some v) : ∀ d v, lk (I ++ K) d = some v → lk G d = some v := by
  induction I with
  | nil => exact h2
  | cons q I ih =>
    obtain ⟨k, u⟩ := q
    obtain ⟨hq, hr⟩ := h1
    intro d v hd
    by_cases e : k = d
    · subst e; simp [lk] at hd; subst hd; exact hq
    · simp only [List.cons_append, lk, beq_no e, cond_false] at hd; exact ih hr d v hd

/-- a loop's round must come to this -/
def LoopQ {α : Type} (N : Nat) (c : Cx) (D : List Deferred) (Q : Exit → Act → World → Prop) (sl : List Nat) (K : Frm) (I : α → Frm) (J : α → List Res) (p : α → Prop) (μ : α → Nat) (i0 : α) : Exit → Act → World → Prop :=
  Exit.then (fun a w => ∃ i', μ i' < μ i0 ∧ p i' ∧ St N c D (I i' ++ K) (J i') a w) (match sl with | _ => Q)
/-- and the part ahead of a cut to this -/
def CutQ {α : Type} (N : Nat) (c : Cx) (D : List Deferred) (Q : Exit → Act → World → Prop) (sl : List Nat) (K : Frm) (I : α → Frm) (J : α → List Res) (p : α → Prop) : Exit → Act → World → Prop :=
  Exit.then (fun a w => ∃ i, p i ∧ St N c D (I i ++ K) (J i) a w) (match sl with | _ => Q)
/-- a loop; the slots 'sl', which the body does not write, hold what they held -/
theorem WP_loops {α : Type} {x : Code} (sl : List Nat) {K : Frm} (hK : Keep F sl K) (I : α → Frm) (J : α → List Res) (p : α → Prop) (μ : α → Nat) (i0 : α) (hp0 : p i0) (hs : Sub (I i0) F) {ks : List Nat} (hk : pick H ks = some (J i0)) (hn : ks.Nodup)
    (hbody : ∀ i, p i → WP P N c D x (LoopQ N c D Q sl K I J p μ i) (I i ++ K) (J i)) : WP P N c D (.loop x) Q F H := by
  have h0 : WP P N c D (.loop x) Q (I i0 ++ K) (J i0) := by
    exact WP_loop0 (fun i => I i ++ K) J p μ i0 hp0 hbody
  intro a w hst
  exact h0 a w ⟨hst.tm, hst.fr.sub (lk_keep hs hK.lk), hst.df, hst.si, hst.hp.pick hk hn⟩
theorem WQ_loops {α : Type} {K : Frm} {sl : List Nat} {I : α → Frm} {J : α → List Res} {p : α → Prop} {μ : α → Nat} {i0 : α} (i : α) (hμ : μ i < μ i0) (hp : p i) (hs : Sub (I i) F) (hl : Keep F sl K) {ks : List Nat} (hk : pick H ks = some (J i)) (hn : ks.Nodup) :
    WQ N c D (LoopQ N c D Q sl K I J p μ i0) .normal F H :=
  fun _ _ hst => ⟨i, hμ, hp, hst.tm, hst.fr.sub (lk_keep hs hl.lk), hst.df, hst.si, hst.hp.pick hk hn⟩
/-- a cut, likewise -/
theorem WP_cuts {α : Type} {x y : Code} (sl : List Nat) {K : Frm} (_ : Keep F sl K) (I : α → Frm) (J : α → List Res) (p : α → Prop)
    (h1 : WP P N c D x (CutQ N c D Q sl K I J p) F H) (h2 : ∀ i, p i → WP P N c D y Q (I i ++ K) (J i)) : WP P N c D (.seq x y) Q F H :=
  WP_cut (fun i => I i ++ K) J p h1 h2
theorem WQ_cuts {α : Type} {K : Frm} {sl : List Nat} {I : α → Frm} {J : α → List Res} {p : α → Prop} (i : α) (hp : p i) (hs : Sub (I i) F) (hl : Keep F sl K) {ks : List Nat} (hk : pick H ks = some (J i)) (hn : ks.Nodup) :
    WQ N c D (CutQ N c D Q sl K I J p) .normal F H :=
  fun _ _ hst => ⟨i, hp, hst.tm, hst.fr.sub (lk_keep hs hl.lk), hst.df, hst.si, hst.hp.pick hk hn⟩
end code

end Go.Bw
