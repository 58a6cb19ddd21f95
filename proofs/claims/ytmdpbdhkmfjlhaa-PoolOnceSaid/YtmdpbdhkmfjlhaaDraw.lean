/- A region that draws its order: each operation is looked at once. Operations that just give a value float; the others (the spine) stand in one order, which the edges force. No program is named. -/
import Derived.Test.YtmdpbdhkmfjlhaaCall
import Derived.OrdersIn
namespace Go.Bw
open Go Go.RowKit

theorem lk_of_mem {F : Frm} : ∀ {ks : List Nat} {d : Nat} {v : Value}, d ∈ ks → lk F d = some v → lk (selF F ks) d = some v := by
  intro ks
  induction ks with
  | nil => intro d v h; simp at h
  | cons k r ih =>
    intro d v h hl
    simp only [selF]
    by_cases e : k = d
    · subst e; rw [hl]; simp [lk]
    · have hm : d ∈ r := by simpa [Ne.symm e] using h
      split
      · simp only [lk, beq_no e, cond_false]; exact ih hm hl
      · exact ih hm hl

section
variable (ops : Array Oper)
def aft (i : Nat) : List Nat := match ops[i]? with
  | some o => (o.after.toList.filter fun e => Region.binds .any e).map (·.on)
  | none => []
def dstOf (i : Nat) : Option Nat := (ops[i]?).bind (·.dst)
end

variable {P : Program} {N : Nat} {c : Cx} {D : List Deferred} {ops : Array Oper} {Q : Exit → Act → World → Prop}

/-- the operation, its guard asked, gives this value -/
def VG (P : Program) (N : Nat) (c : Cx) (ops : Array Oper) (o : Oper) (F : Frm) (H : List Res) (v : Value) : Prop :=
  ∀ D a w next Q, St N c D F H a w → (∀ w', Since [] w w' → next (a.put o.dst v) w') → if Region.wanted o (yielded ops a.tmps) then o.wpIn (FA c.ro) 0 P a w next Q else next (a.put o.dst undef) w

theorem VG_v {o : Oper} {F : Frm} {H : List Res} {v : Value} (hg : o.guard = none) (h : VS P N c o F H v) : VG P N c ops o F H v := fun D a w next Q hst hk => by
  simp only [Region.wanted, hg, if_true]
  exact h D a w next Q hst hk
theorem VG_g {o : Oper} {F : Frm} {H : List Res} {v : Value} {b : Bool} (hg : Gd ops F o.guard b) (h : b = true → VS P N c o F H v) : VG P N c ops o F H (bif b then v else undef) := fun D a w next Q hst hk => by
  rw [hg o a rfl hst.fr]
  cases b with
  | false => exact hk w (Since.refl _ _)
  | true => exact h rfl D a w next Q hst hk
theorem VG_skip {o : Oper} {F : Frm} {H : List Res} (hg : Gd ops F o.guard false) : VG P N c ops o F H undef := fun D a w next Q hst hk => by
  rw [hg o a rfl hst.fr]
  exact hk w (Since.refl _ _)

/-- the operation, its guard asked, gives a value and resources, told by a ghost -/
def RG {α : Type} (P : Program) (N : Nat) (c : Cx) (ops : Array Oper) (o : Oper) (F : Frm) (H : List Res) (p : α → Prop) (fv : α → Value) (fH : α → List Res) : Prop :=
  ∀ D a w next Q, St N c D F H a w → (∀ x w', p x → Since c.bs c.w0 w' → HpOk c.bs c.w0.heap.size (fH x) w' → next (a.put o.dst (fv x)) w') → if Region.wanted o (yielded ops a.tmps) then o.wpIn (FA c.ro) 0 P a w next Q else next (a.put o.dst undef) w
theorem RG_x {α : Type} {o : Oper} {F : Frm} {H : List Res} {p : α → Prop} {fv : α → Value} {fH : α → List Res} (hg : o.guard = none) (h : RX P N c o F H p fv fH) : RG P N c ops o F H p fv fH := fun D a w next Q hst hk => by
  simp only [Region.wanted, hg, if_true]
  exact h D a w next Q hst hk
theorem RG_g {α : Type} {o : Oper} {F : Frm} {H : List Res} {b : Bool} {p : α → Prop} {fv : α → Value} {fH : α → List Res} (hg : Gd ops F o.guard b) (h : b = true → RX P N c o F H p fv fH) :
    RG (α := Option α) P N c ops o F H (fun x => match x with | some x => b = true ∧ p x | none => b = false) (fun x => match x with | some x => fv x | none => undef) (fun x => match x with | some x => fH x | none => H) := fun D a w next Q hst hk => by
  rw [hg o a rfl hst.fr]
  cases b with
  | false => exact hk none w rfl hst.si hst.hp
  | true => exact h rfl D a w next Q hst fun x w' hp hs hh => hk (some x) w' ⟨rfl, hp⟩ hs hh

/-! the stages -/
/-- a floating operation, and the slots that it looks at -/
abbrev Fl := Nat × List Nat

def ReOk (P : Program) (N : Nat) (c : Cx) (ops : Array Oper) (F : Frm) (H : List Res) : List Fl → Prop
  | [] => True
  | (i, ks) :: r => (∃ o d v, ops[i]? = some o ∧ o.dst = some d ∧ lk F d = some v ∧ VG P N c ops o (selF F ks) H v) ∧ ReOk P N c ops F H r

def NewOk (P : Program) (N : Nat) (c : Cx) (ops : Array Oper) (H : List Res) : List Fl → Frm → (Frm → Prop) → Prop
  | [], F, K => K F
  | (i, ks) :: r, F, K => ∃ o d v, ops[i]? = some o ∧ o.dst = some d ∧ Nat.blt d N = true ∧ VG P N c ops o (selF F ks) H v ∧ NewOk P N c ops H r ((d, v) :: F) K

/-- the ways that the spine may go: a stage, then whichever operation comes next -/
inductive Tr where
  | fin (re new : List Fl)
  | stg (re new : List Fl) (t : Tr)
  | alt (s : Nat) (ks : List Nat) (here more : Tr)
  | no
def Tr.alts : Tr → List Nat
  | .alt s _ _ more => s :: more.alts
  | _ => []
def Tr.stage : Tr → Bool
  | .fin _ _ => true
  | .stg _ _ _ => true
  | _ => false

def Stg (P : Program) (N : Nat) (c : Cx) (D : List Deferred) (ops : Array Oper) (Q : Exit → Act → World → Prop) : Tr → Frm → List Res → Prop
  | .fin re new, F, H => ReOk P N c ops F H re ∧ NewOk P N c ops H new F fun F' => WQ N c D Q .normal F' H
  | .stg re new t, F, H => ReOk P N c ops F H re ∧ NewOk P N c ops H new F fun F' => Stg P N c D ops Q t F' H
  | .alt s ks here more, F, H => (∃ (o : Oper) (α : Type) (p : α → Prop) (fv : α → Value) (fH : α → List Res), ops[s]? = some o ∧ dOk N o.dst = true ∧ RG P N c ops o (selF F ks) H p fv fH ∧ ∀ x, p x → Stg P N c D ops Q here (pt o.dst (fv x) F) (fH x)) ∧ Stg P N c D ops Q more F H
  | .no, _, _ => True

/-- what stands before an operation, near and far (edges point back) -/
def anc (ops : Array Oper) (s : Nat) : List Nat := (List.range s).reverse.foldl (fun acc j => if (aft ops s).contains j || acc.any (fun k => (aft ops k).contains j) then j :: acc else acc) []
/-- a slot may be looked at: what floats and writes it stands before, by an edge -/
def keepK (ops : Array Oper) (pu : List Nat) (i d : Nat) : Bool := pu.all fun j => !(dstOf ops j == some d) || (aft ops i).contains j

/-- the floating operations of a stage, one after the other: what each one needs is there -/
def newChk (ops : Array Oper) (pu : List Nat) : (seen : List Nat) → List Fl → Bool
  | _, [] => true
  | seen, (i, ks) :: r => (aft ops i).all seen.contains && !seen.contains i && pu.contains i && ks.all (keepK ops pu i) && newChk ops pu (i :: seen) r

def okS (ops : Array Oper) (pu : List Nat) : Tr → (en pend sps : List Nat) → Bool
  | .fin re new, en, pend, sps => pend.all (re.map (·.1)).contains && re.all (fun q => q.2.all (keepK ops pu q.1)) && newChk ops pu (en ++ sps) new &&
      (List.range ops.size).all fun i => en.contains i || (new.map (·.1)).contains i || sps.contains i
  | .stg re new t, en, pend, sps =>
    pend.all (re.map (·.1)).contains && re.all (fun q => q.2.all (keepK ops pu q.1)) && newChk ops pu (en ++ sps) new &&
    (List.range ops.size).all (fun i => t.alts.contains i || (new.map (·.1)).contains i || en.contains i || sps.contains i || (aft ops i).any fun j => !((new.map (·.1)).contains j || en.contains j || sps.contains j)) &&
    !t.alts.isEmpty && okS ops pu t (en ++ new.map (·.1)) (pend ++ new.map (·.1)) sps
  | .alt s ks here more, en, pend, sps => ks.all (keepK ops pu s) && !pu.contains s && !sps.contains s && here.stage && okS ops pu here en (pend.filter fun i => !(anc ops s).contains i) (s :: sps) && okS ops pu more en pend sps
  | .no, _, _, _ => true

/-- the floating ones write each its own slot, and none that another operation writes; edges point back -/
def okD (ops : Array Oper) (pu : List Nat) : Bool :=
  (List.range ops.size).all (fun i => (aft ops i).all fun j => Nat.blt j i) &&
  pu.all fun j => (List.range ops.size).all fun i => i == j || !(dstOf ops i == dstOf ops j) || (dstOf ops j).isNone

def pures : Tr → List Nat
  | .fin _ new => new.map (·.1)
  | .stg _ new t => new.map (·.1) ++ pures t
  | .alt _ _ here more => pures here ++ pures more
  | .no => []

def okAll (ops : Array Oper) (t : Tr) : Bool := t.stage && okD ops (pures t) && okS ops (pures t) t [] [] []

/-! soundness -/
def dn (l : Array Bool) (j : Nat) : Prop := l.getD j false = true

theorem dn_set {l : Array Bool} {i j : Nat} (hi : i < l.size) : dn (l.setIfInBounds i true) j ↔ dn l j ∨ j = i := by
  unfold dn
  simp only [Array.getD_eq_getD_getElem?, Array.getElem?_setIfInBounds]
  by_cases e : i = j
  · subst e; simp [hi]
  · simp [e, Ne.symm e]

theorem mem_ready {l : Array Bool} {i : Nat} (hs : l.size = ops.size) : i ∈ Region.ready .any ops l ↔ i < ops.size ∧ ¬ dn l i ∧ ∀ j ∈ aft ops i, dn l j := by
  unfold Region.ready dn aft
  simp only [List.mem_filter, List.mem_range, Bool.and_eq_true, Bool.not_eq_true']
  constructor
  · rintro ⟨h1, h2, h3⟩
    have hi : i < l.size := by omega
    refine ⟨h1, ?_, ?_⟩
    · simp [Array.getD_eq_getD_getElem?, hi] at h2 ⊢; exact h2
    · cases ho : ops[i]? with
      | none => simp
      | some o =>
        simp only [ho, Option.map_some, Option.getD_some, Array.all_eq_true'] at h3
        simp only [List.mem_map, List.mem_filter]
        rintro j ⟨e, ⟨he, hb⟩, rfl⟩
        have := h3 e (by simpa using he)
        simpa [hb] using this
  · rintro ⟨h1, h2, h3⟩
    have hi : i < l.size := by omega
    have ho : ops[i]? = some ops[i] := Array.getElem?_eq_getElem h1
    refine ⟨h1, ?_, ?_⟩
    · simp [Array.getD_eq_getD_getElem?, hi] at h2 ⊢; exact h2
    · simp only [ho, Option.map_some, Option.getD_some, Array.all_eq_true']
      simp only [ho, List.mem_map, List.mem_filter] at h3
      intro e he
      cases hb : Region.binds .any e with
      | false => simp
      | true => simp only [Bool.not_true, Bool.false_or]; exact h3 e.on ⟨e, ⟨by simpa using he, hb⟩, rfl⟩

theorem anc_done {l : Array Bool} {s : Nat} (hcl : ∀ j, dn l j → ∀ k ∈ aft ops j, dn l k) (hs : ∀ j ∈ aft ops s, dn l j) : ∀ j ∈ anc ops s, dn l j := by
  have key : ∀ (L : List Nat) (acc : List Nat), (∀ j ∈ acc, dn l j) → ∀ j ∈ L.foldl (fun acc j => if (aft ops s).contains j || acc.any (fun k => (aft ops k).contains j) then j :: acc else acc) acc, dn l j := by
    intro L
    induction L with
    | nil => intro acc h; exact h
    | cons x L ih =>
      intro acc h
      simp only [List.foldl_cons]
      refine ih _ ?_
      split
      · rename_i hc
        intro j hj
        rcases List.mem_cons.1 hj with rfl | hj
        · simp only [Bool.or_eq_true, List.contains_eq_mem, decide_eq_true_eq, List.any_eq_true] at hc
          rcases hc with hc | ⟨k, hk, hc⟩
          · exact hs _ hc
          · exact hcl k (h k hk) _ hc
        · exact h j hj
      · exact h
  exact key _ [] (by simp)

structure Inv (P : Program) (N : Nat) (c : Cx) (D : List Deferred) (ops : Array Oper) (pu en pn sps : List Nat) (l : Array Bool) (F : Frm) (H : List Res) (a : Act) (w : World) : Prop where
  size : l.size = ops.size
  seen : ∀ j, dn l j → j ∈ en ∨ j ∈ sps
  sp : ∀ j ∈ sps, dn l j
  pend : ∀ j ∈ en, ¬ dn l j → j ∈ pn
  enpu : ∀ j ∈ en, j ∈ pu
  back : ∀ j ∈ en, ∀ k ∈ aft ops j, k ∈ en ∨ k ∈ sps
  tm : a.tmps.size = N
  df : a.defers = D
  si : Since c.bs c.w0 w
  hp : HpOk c.bs c.w0.heap.size H w
  cl : ∀ j, dn l j → ∀ k ∈ aft ops j, dn l k
  fr : ∀ d v, lk F d = some v → (∀ j ∈ en, dstOf ops j = some d → dn l j) → a.tmps[d]? = some v

def VGat (P : Program) (N : Nat) (c : Cx) (ops : Array Oper) (pu : List Nat) (F : Frm) (H : List Res) (j : Nat) : Prop :=
  ∃ ks o d v, ops[j]? = some o ∧ o.dst = some d ∧ Nat.blt d N = true ∧ lk F d = some v ∧ VG P N c ops o (selF F ks) H v ∧ ∀ k ∈ ks, keepK ops pu j k = true

theorem Inv.st {pu en pn sps : List Nat} {l : Array Bool} {F : Frm} {H : List Res} {a : Act} {w : World} (h : Inv P N c D ops pu en pn sps l F H a w) {i : Nat} {ks : List Nat} (hk : ∀ k ∈ ks, keepK ops pu i k = true)
    (hr : ∀ j ∈ aft ops i, dn l j) : St N c D (selF F ks) H a w := by
  refine ⟨h.tm, fun d v hd => ?_, h.df, h.si, h.hp⟩
  obtain ⟨h1, h2⟩ := lk_selF hd
  refine h.fr d v h2 fun j hj hdj => ?_
  have := hk d h1
  simp only [keepK, List.all_eq_true, Bool.or_eq_true, Bool.not_eq_true', List.contains_eq_mem, decide_eq_true_eq] at this
  rcases this j (h.enpu j hj) with h3 | h3
  · rw [hdj] at h3; simp at h3
  · exact hr j h3

theorem okD_back {pu : List Nat} (h : okD ops pu = true) {i j : Nat} (hi : i < ops.size) (hj : j ∈ aft ops i) : j < i := by
  simp only [okD, Bool.and_eq_true, List.all_eq_true, List.mem_range] at h
  have := h.1 i hi j hj
  simpa [Nat.blt_eq] using this
theorem okD_dst {pu : List Nat} (h : okD ops pu = true) {i j d : Nat} (hj : j ∈ pu) (hi : dstOf ops i = some d) (hd : dstOf ops j = some d) : i = j := by
  simp only [okD, Bool.and_eq_true, List.all_eq_true, List.mem_range] at h
  have hlt : i < ops.size := by
    unfold dstOf at hi
    cases ho : ops[i]? with
    | none => simp [ho] at hi
    | some o => exact (Array.getElem?_eq_some_iff.1 ho).1
  have := h.2 j hj i hlt
  rw [hi, hd] at this
  simpa using this

theorem dstOf_of {i : Nat} {o : Oper} {d : Nat} (ho : ops[i]? = some o) (hd : o.dst = some d) : dstOf ops i = some d := by simp [dstOf, ho, hd]

/-- the new ones of a stage -/
theorem newOk_out {pu : List Nat} (hD : okD ops pu = true) {H : List Res} {K : Frm → Prop} : ∀ {new : List Fl} {seen : List Nat} {F : Frm}, NewOk P N c ops H new F K → newChk ops pu seen new = true →
    ∃ F2, K F2 ∧ (∀ i ∈ new.map (·.1), i ∈ pu ∧ i ∉ seen) ∧
      (∀ d, (∀ j ∈ new.map (·.1), dstOf ops j ≠ some d) → lk F2 d = lk F d) ∧
      (∀ i ∈ new.map (·.1), VGat P N c ops pu F2 H i) ∧ (∀ i ∈ new.map (·.1), ∀ k ∈ aft ops i, k ∈ seen ∨ k ∈ new.map (·.1)) := by
  intro new
  induction new with
  | nil => intro seen F h _; exact ⟨F, h, by simp, by simp, by simp, by simp⟩
  | cons q r ih =>
    obtain ⟨i, ks⟩ := q
    intro seen F h hc
    obtain ⟨o, d, v, ho, hd, hN, hv, hn⟩ := h
    simp only [newChk, Bool.and_eq_true, Bool.not_eq_true', List.all_eq_true, List.contains_eq_mem, decide_eq_true_eq, decide_eq_false_iff_not] at hc
    obtain ⟨⟨⟨⟨h1, h2⟩, h3⟩, h4⟩, h5⟩ := hc
    obtain ⟨F2, k1, k2, k3, k4, k5⟩ := ih hn h5
    have hdi := dstOf_of ho hd
    refine ⟨F2, k1, ?_, ?_, ?_, ?_⟩
    · intro j hj
      rcases List.mem_cons.1 hj with rfl | hj
      · exact ⟨h3, h2⟩
      · obtain ⟨e1, e2⟩ := k2 j hj
        exact ⟨e1, fun hm => e2 (by simp [hm])⟩
    · intro d' hd'
      rw [k3 d' (fun j hj => hd' j (by simp only [List.map_cons]; exact List.mem_cons_of_mem _ hj))]
      have : ¬ d = d' := fun e => hd' i (by simp) (by rw [hdi, e])
      simp [lk, beq_no this]
    · intro j hj
      rcases List.mem_cons.1 hj with rfl | hj
      · refine ⟨ks, o, d, v, ho, hd, hN, ?_, ?_, h4⟩
        · rw [k3 d (fun j hj hdj => by
            have := okD_dst hD (k2 j hj).1 hdi hdj
            exact (k2 j hj).2 (by simp [← this]))]
          simp [lk]
        · intro D' a w next Q' hst hk
          refine hv D' a w next Q' (hst.sub fun d' v' hl => ?_) hk
          obtain ⟨e1, e2⟩ := lk_selF hl
          refine lk_of_mem e1 ?_
          rw [k3 d' (fun j hj hdj => by
            have hkk := h4 d' e1
            simp only [keepK, List.all_eq_true, Bool.or_eq_true, Bool.not_eq_true', List.contains_eq_mem, decide_eq_true_eq] at hkk
            rcases hkk j (k2 j hj).1 with h6 | h6
            · rw [hdj] at h6; simp at h6
            · exact (k2 j hj).2 (by simp [h1 j h6]))]
          have : ¬ d = d' := fun e => by
            have hkk := h4 d' e1
            simp only [keepK, List.all_eq_true, Bool.or_eq_true, Bool.not_eq_true', List.contains_eq_mem, decide_eq_true_eq] at hkk
            rcases hkk j h3 with h6 | h6
            · rw [hdi, e] at h6; simp at h6
            · exact h2 (h1 j h6)
          simp only [lk, beq_no this, cond_false]
          exact e2
      · exact k4 j hj
    · intro j hj k hk
      rcases List.mem_cons.1 hj with rfl | hj
      · exact .inl (h1 k hk)
      · rcases k5 j hj k hk with h6 | h6
        · rcases List.mem_cons.1 h6 with rfl | h6
          · exact .inr (by simp)
          · exact .inl h6
        · exact .inr (by simp only [List.map_cons]; exact List.mem_cons_of_mem _ h6)

theorem reOk_out {F : Frm} {H : List Res} : ∀ {re : List Fl} {i : Nat}, ReOk P N c ops F H re → i ∈ re.map (·.1) → ∃ ks o d v, (i, ks) ∈ re ∧ ops[i]? = some o ∧ o.dst = some d ∧ lk F d = some v ∧ VG P N c ops o (selF F ks) H v := by
  intro re
  induction re with
  | nil => intro i _ hi; simp at hi
  | cons q r ih =>
    obtain ⟨j, ks⟩ := q
    intro i h hi
    obtain ⟨⟨o, d, v, h1, h2, h3, h4⟩, h5⟩ := h
    rcases List.mem_cons.1 hi with rfl | hi
    · exact ⟨ks, o, d, v, by simp, h1, h2, h3, h4⟩
    · obtain ⟨ks', o', d', v', e1, e2⟩ := ih h5 hi
      exact ⟨ks', o', d', v', by simp [e1], e2⟩

def Cont (P : Program) (N : Nat) (c : Cx) (D : List Deferred) (ops : Array Oper) (Q : Exit → Act → World → Prop) (pu : List Nat) (en pn sps : List Nat) (F : Frm) (H : List Res) : Prop :=
  ((∀ i, i < ops.size → i ∈ en ∨ i ∈ sps) ∧ WQ N c D Q .normal F H) ∨
  ∃ t : Tr, Stg P N c D ops Q t F H ∧ okS ops pu t en pn sps = true ∧ t.alts ≠ [] ∧ (∀ i, i < ops.size → i ∈ t.alts ∨ i ∈ en ∨ i ∈ sps ∨ ∃ j ∈ aft ops i, j ∉ en ∧ j ∉ sps)

theorem alt_get {pu en pn sps : List Nat} {F : Frm} {H : List Res} {i : Nat} : ∀ {t : Tr}, i ∈ t.alts → Stg P N c D ops Q t F H → okS ops pu t en pn sps = true →
    ∃ (ks : List Nat) (o : Oper) (α : Type) (p : α → Prop) (fv : α → Value) (fH : α → List Res) (r : Tr), ops[i]? = some o ∧ dOk N o.dst = true ∧ RG P N c ops o (selF F ks) H p fv fH ∧ (∀ x, p x → Stg P N c D ops Q r (pt o.dst (fv x) F) (fH x)) ∧
      (∀ k ∈ ks, keepK ops pu i k = true) ∧ i ∉ pu ∧ i ∉ sps ∧ r.stage = true ∧ okS ops pu r en (pn.filter fun j => !(anc ops i).contains j) (i :: sps) = true := by
  intro t
  induction t with
  | fin re new => intro h; simp [Tr.alts] at h
  | stg re new t _ => intro h; simp [Tr.alts] at h
  | no => intro h; simp [Tr.alts] at h
  | alt s ks here more _ ih =>
    intro h hs hc
    obtain ⟨h1, h2⟩ := hs
    simp only [okS, Bool.and_eq_true, Bool.not_eq_true', List.all_eq_true] at hc
    obtain ⟨⟨⟨⟨⟨c1, c2⟩, c3⟩, c4⟩, c5⟩, c6⟩ := hc
    rcases List.mem_cons.1 h with rfl | h
    · obtain ⟨o, α, p, fv, fH, e1, e2, e3, e4⟩ := h1
      exact ⟨ks, o, α, p, fv, fH, here, e1, e2, e3, e4, c1, by simpa using c2, by simpa using c3, c4, c5⟩
    · exact ih h h2 c6

theorem okD_lt {i : Nat} {d : Nat} (h : dstOf ops i = some d) : i < ops.size := by
  unfold dstOf at h
  cases ho : ops[i]? with
  | none => simp [ho] at h
  | some o => exact (Array.getElem?_eq_some_iff.1 ho).1

/-- a stage is entered -/
theorem enter {pu : List Nat} (hD : okD ops pu = true) {en pend sps : List Nat} {l : Array Bool} {F : Frm} {H : List Res} {a : Act} {w : World} {st : Tr} (hst : st.stage = true)
    (hI : Inv P N c D ops pu en pend sps l F H a w) (hN : ∀ j ∈ en, ∀ d, dstOf ops j = some d → Nat.blt d N = true) (hs : Stg P N c D ops Q st F H) (hc : okS ops pu st en pend sps = true) :
    ∃ en2 pn2 F2, Inv P N c D ops pu en2 pn2 sps l F2 H a w ∧ (∀ j ∈ en2, ∀ d, dstOf ops j = some d → Nat.blt d N = true) ∧ (∀ j ∈ en2, ¬ dn l j → VGat P N c ops pu F2 H j) ∧ Cont P N c D ops Q pu en2 pn2 sps F2 H := by
  have key : ∀ {re new : List Fl} {K : Frm → Prop}, ReOk P N c ops F H re → NewOk P N c ops H new F K → (∀ j ∈ pend, j ∈ re.map (·.1)) → (∀ q ∈ re, ∀ k ∈ q.2, keepK ops pu q.1 k = true) → newChk ops pu (en ++ sps) new = true →
      ∃ F2, K F2 ∧ Inv P N c D ops pu (en ++ new.map (·.1)) (pend ++ new.map (·.1)) sps l F2 H a w ∧ (∀ j ∈ en ++ new.map (·.1), ∀ d, dstOf ops j = some d → Nat.blt d N = true) ∧ (∀ j ∈ en ++ new.map (·.1), ¬ dn l j → VGat P N c ops pu F2 H j) := by
    intro re new K hre hnew hp hk hch
    obtain ⟨F2, k1, k2, k3, k4, k5⟩ := newOk_out hD hnew hch
    refine ⟨F2, k1, ⟨hI.size, ?_, hI.sp, ?_, ?_, ?_, hI.tm, hI.df, hI.si, hI.hp, hI.cl, ?_⟩, ?_, ?_⟩
    · intro j hj; rcases hI.seen j hj with h | h
      · exact .inl (by simp [h])
      · exact .inr h
    · intro j hj hnd
      rcases List.mem_append.1 hj with h | h
      · exact List.mem_append_left _ (hI.pend j h hnd)
      · exact List.mem_append_right _ h
    · intro j hj
      rcases List.mem_append.1 hj with h | h
      · exact hI.enpu j h
      · exact (k2 j h).1
    · intro j hj k hk'
      rcases List.mem_append.1 hj with h | h
      · rcases hI.back j h k hk' with h1 | h1
        · exact .inl (by simp [h1])
        · exact .inr h1
      · rcases k5 j h k hk' with h1 | h1
        · rcases List.mem_append.1 h1 with h2 | h2
          · exact .inl (by simp [h2])
          · exact .inr h2
        · exact .inl (List.mem_append_right _ h1)
    · intro d v hl hdn
      by_cases hex : ∃ j ∈ new.map (·.1), dstOf ops j = some d
      · obtain ⟨j, hj, hdj⟩ := hex
        have h1 := hdn j (List.mem_append_right _ hj) hdj
        exact absurd (hI.seen j h1) (fun h2 => (k2 j hj).2 (by rcases h2 with h2 | h2 <;> simp [h2]))
      · rw [k3 d (fun j hj hdj => hex ⟨j, hj, hdj⟩)] at hl
        exact hI.fr d v hl (fun j hj hdj => hdn j (List.mem_append_left _ hj) hdj)
    · intro j hj d hdj
      rcases List.mem_append.1 hj with h | h
      · exact hN j h d hdj
      · obtain ⟨ks, o, d', v, e1, e2, e3, _⟩ := k4 j h
        have := dstOf_of e1 e2
        rw [hdj] at this; cases this; exact e3
    · intro j hj hnd
      rcases List.mem_append.1 hj with h | h
      · obtain ⟨ks, o, d, v, e0, e1, e2, e3, e4⟩ := reOk_out hre (hp j (hI.pend j h hnd))
        have hdj := dstOf_of e1 e2
        have hkk : ∀ k ∈ ks, keepK ops pu j k = true := fun k hk' => hk _ e0 k hk'
        refine ⟨ks, o, d, v, e1, e2, hN j h d hdj, ?_, ?_, hkk⟩
        · rw [k3 d (fun j' hj' hdj' => by
            have := okD_dst hD (k2 j' hj').1 hdj hdj'
            subst this
            exact (k2 _ hj').2 (by simp [h]))]
          exact e3
        · intro D' a' w' next Q' hst hk'
          refine e4 D' a' w' next Q' (hst.sub fun d' v' hl => ?_) hk'
          obtain ⟨f1, f2⟩ := lk_selF hl
          refine lk_of_mem f1 ?_
          rw [k3 d' (fun j' hj' hdj' => by
            have hq := hkk d' f1
            simp only [keepK, List.all_eq_true, Bool.or_eq_true, Bool.not_eq_true', List.contains_eq_mem, decide_eq_true_eq] at hq
            rcases hq j' (k2 j' hj').1 with h6 | h6
            · rw [hdj'] at h6; simp at h6
            · refine (k2 j' hj').2 ?_
              rcases hI.back j h j' h6 with h7 | h7 <;> simp [h7])]
          exact f2
      · exact k4 j h
  cases st with
  | no => simp [Tr.stage] at hst
  | alt _ _ _ _ => simp [Tr.stage] at hst
  | fin re new =>
    obtain ⟨hre, hnew⟩ := hs
    simp only [okS, Bool.and_eq_true, List.all_eq_true, List.contains_eq_mem, decide_eq_true_eq, List.mem_range, Bool.or_eq_true] at hc
    obtain ⟨⟨⟨c1, c2⟩, c3⟩, c4⟩ := hc
    obtain ⟨F2, k1, k2, k3, k4⟩ := key hre hnew c1 c2 c3
    exact ⟨_, _, F2, k2, k3, k4, .inl ⟨fun i hi => by
      rcases c4 i hi with (h | h) | h
      · exact .inl (by simp [h])
      · exact .inl (List.mem_append_right _ h)
      · exact .inr h, k1⟩⟩
  | stg re new t =>
    obtain ⟨hre, hnew⟩ := hs
    simp only [okS, Bool.and_eq_true, List.all_eq_true, List.contains_eq_mem, decide_eq_true_eq, List.mem_range, Bool.or_eq_true, Bool.not_eq_true', List.any_eq_true] at hc
    obtain ⟨⟨⟨⟨⟨c1, c2⟩, c3⟩, c7⟩, c6⟩, c8⟩ := hc
    obtain ⟨F2, k1, k2, k3, k4⟩ := key hre hnew c1 c2 c3
    refine ⟨_, _, F2, k2, k3, k4, .inr ⟨t, k1, c8, fun e => by simp [e] at c6, fun i hi => ?_⟩⟩
    rcases c7 i hi with (((h | h) | h) | h) | h
    · exact .inl h
    · exact .inr (.inl (List.mem_append_right _ h))
    · exact .inr (.inl (by simp [h]))
    · exact .inr (.inr (.inl h))
    · obtain ⟨j, hj, hn⟩ := h
      refine .inr (.inr (.inr ⟨j, hj, fun hm => ?_, fun hm => ?_⟩))
      · rcases List.mem_append.1 hm with h1 | h1
        · simp [h1] at hn
        · have h1' : decide (j ∈ new.map (·.1)) = true := decide_eq_true h1
          rw [h1'] at hn; simp at hn
      · simp [hm] at hn

theorem all_done {pu : List Nat} (hD : okD ops pu = true) {l : Array Bool} (hs : l.size = ops.size) (hr : Region.ready .any ops l = []) : ∀ i, i < ops.size → dn l i := by
  intro i
  induction i using Nat.strongRecOn with
  | _ i ih =>
    intro hi
    by_cases hd : dn l i
    · exact hd
    · have : i ∈ Region.ready .any ops l := (mem_ready hs).2 ⟨hi, hd, fun j hj => ih j (okD_back hD hi hj) (Nat.lt_trans (okD_back hD hi hj) hi)⟩
      rw [hr] at this; simp at this

def undone (ops : Array Oper) (l : Array Bool) : Nat := ((List.range ops.size).filter fun i => !l.getD i false).length

theorem filter_le {p q : Nat → Bool} (h : ∀ x, q x = true → p x = true) : ∀ (L : List Nat), (L.filter q).length ≤ (L.filter p).length := by
  intro L
  induction L with
  | nil => simp
  | cons x L ih =>
    by_cases hq : q x = true
    · simp [hq, h x hq, ih]
    · by_cases hp : p x = true
      · simp [hq, hp]; omega
      · simp [hq, hp, ih]
theorem filter_lt {p q : Nat → Bool} (h : ∀ x, q x = true → p x = true) {i : Nat} (hp : p i = true) (hq : q i = false) : ∀ (L : List Nat), i ∈ L → (L.filter q).length < (L.filter p).length := by
  intro L
  induction L with
  | nil => intro hi; simp at hi
  | cons x L ih =>
    intro hi
    by_cases e : i = x
    · subst e
      have := filter_le h L
      simp [hp, hq]; omega
    · have hi' : i ∈ L := by simpa [e] using hi
      have := ih hi'
      by_cases hqx : q x = true
      · simp [hqx, h x hqx]; omega
      · by_cases hpx : p x = true
        · simp [hqx, hpx]; omega
        · simp [hqx, hpx]; omega

theorem undone_set {l : Array Bool} {i : Nat} (hs : l.size = ops.size) (hi : i < ops.size) (hd : ¬ dn l i) : undone ops (l.setIfInBounds i true) < undone ops l := by
  unfold undone
  have hil : i < l.size := by omega
  refine filter_lt (i := i) (fun x hx => ?_) ?_ ?_ _ (by simpa using hi)
  · have h1 : ¬ dn (l.setIfInBounds i true) x := by simpa [dn] using hx
    have h2 : ¬ dn l x := fun h => h1 ((dn_set hil).2 (.inl h))
    simpa [dn] using h2
  · simpa [dn] using hd
  · have : dn (l.setIfInBounds i true) i := (dn_set hil).2 (.inr rfl)
    simpa [dn] using this

theorem stg_sound {pu : List Nat} (hD : okD ops pu = true) : ∀ (fuel : Nat) (l : Array Bool) (a : Act) (w : World) (en pn sps : List Nat) (F : Frm) (H : List Res), undone ops l ≤ fuel →
    Inv P N c D ops pu en pn sps l F H a w → (∀ j ∈ en, ∀ d, dstOf ops j = some d → Nat.blt d N = true) → (∀ j ∈ en, ¬ dn l j → VGat P N c ops pu F H j) → Cont P N c D ops Q pu en pn sps F H →
    wpAnyIn (FA c.ro) 0 P .any ops Q fuel l a w := by
  intro fuel
  have fin_ok : ∀ (l : Array Bool) (a : Act) (w : World) (en pn sps : List Nat) (F : Frm) (H : List Res), Inv P N c D ops pu en pn sps l F H a w → Cont P N c D ops Q pu en pn sps F H → (∀ i, i < ops.size → dn l i) → Q .normal a w := by
    intro l a w en pn sps F H hI hC hall
    rcases hC with ⟨_, hq⟩ | ⟨t, hst, hok, hne, _⟩
    · refine hq a w ⟨hI.tm, fun d v hl => hI.fr d v hl fun j _ hdj => hall j (okD_lt hdj), hI.df, hI.si, hI.hp⟩
    · obtain ⟨s, hs⟩ := List.exists_mem_of_ne_nil _ hne
      obtain ⟨ks, o, α, p, fv, fH, r, e1, _, _, _, _, e5, e6, _, _⟩ := alt_get hs hst hok
      have hlt := (Array.getElem?_eq_some_iff.1 e1).1
      rcases hI.seen s (hall s hlt) with h | h
      · exact absurd (hI.enpu s h) e5
      · exact absurd h e6
  induction fuel with
  | zero =>
    intro l a w en pn sps F H hu hI hN hV hC
    have hall : ∀ i, i < ops.size → dn l i := fun i hi => by
      unfold undone at hu
      have h0 : (List.range ops.size).filter (fun i => !l.getD i false) = [] := List.length_eq_zero_iff.1 (by omega)
      rw [List.filter_eq_nil_iff] at h0
      have := h0 i (by simpa using hi)
      simpa [dn] using this
    refine ⟨?_, fin_ok l a w en pn sps F H hI hC hall⟩
    cases hr : Region.ready .any ops l with
    | nil => rfl
    | cons i r =>
      have : i ∈ Region.ready .any ops l := by rw [hr]; simp
      obtain ⟨h1, h2, _⟩ := (mem_ready hI.size).1 this
      exact absurd (hall i h1) h2
  | succ fuel ih =>
    intro l a w en pn sps F H hu hI hN hV hC
    refine ⟨fun hr => fin_ok l a w en pn sps F H hI hC (all_done hD hI.size hr), fun i hi => ?_⟩
    obtain ⟨h1, h2, h3⟩ := (mem_ready hI.size).1 hi
    have hil : i < l.size := by rw [hI.size]; exact h1
    have hu' : undone ops (l.setIfInBounds i true) ≤ fuel := by have := undone_set hI.size h1 h2; omega
    have hcl' : ∀ j, dn (l.setIfInBounds i true) j → ∀ k ∈ aft ops j, dn (l.setIfInBounds i true) k := fun j hj k hk => by
      rcases (dn_set hil).1 hj with h | rfl
      · exact (dn_set hil).2 (.inl (hI.cl j h k hk))
      · exact (dn_set hil).2 (.inl (h3 k hk))
    by_cases hen : i ∈ en
    · -- a floating one
      obtain ⟨ks, o, d, v, e1, e2, e3, e4, e5, e6⟩ := hV i hen h2
      have hst := hI.st (i := i) e6 h3
      have hdi := dstOf_of e1 e2
      have step := e5 D a w (wpAnyIn (FA c.ro) 0 P .any ops Q fuel (l.setIfInBounds i true)) Q hst
      have nxt : ∀ w', Since [] w w' → wpAnyIn (FA c.ro) 0 P .any ops Q fuel (l.setIfInBounds i true) (a.put o.dst v) w' := by
        intro w' hw
        refine ih _ _ _ en pn sps F H hu' ⟨by simp [hI.size], ?_, ?_, ?_, hI.enpu, hI.back, ?_, ?_, hI.si.ext hw, hI.hp.ext hw, hcl', ?_⟩ hN ?_ hC
        · intro j hj
          rcases (dn_set hil).1 hj with h | rfl
          · exact hI.seen j h
          · exact .inl hen
        · intro j hj; exact (dn_set hil).2 (.inl (hI.sp j hj))
        · intro j hj hnd; exact hI.pend j hj fun h => hnd ((dn_set hil).2 (.inl h))
        · rw [e2]; simp [Act.put, hI.tm]
        · rw [e2]; simp [Act.put, hI.df]
        · intro d' v' hl hdn
          rw [e2]
          have hdN : d < a.tmps.size := by rw [hI.tm]; simpa [Nat.blt_eq] using e3
          by_cases e : d = d'
          · subst e
            rw [e4] at hl; cases hl
            simp [Act.put, hdN]
          · simp only [Act.put, Array.getElem?_setIfInBounds, if_neg e]
            refine hI.fr d' v' hl fun j hj hdj => ?_
            rcases (dn_set hil).1 (hdn j hj hdj) with h | rfl
            · exact h
            · rw [hdi] at hdj; cases hdj; exact absurd rfl e
        · intro j hj hnd
          exact hV j hj fun h => hnd ((dn_set hil).2 (.inl h))
      have step := step nxt
      unfold wpOpIn
      simp only [e1]
      split
      · rename_i hw; simp only [hw, if_true] at step; exact step
      · rename_i hw; simp only [hw] at step; exact ⟨fun _ _ => trivial, step⟩
    · -- the next of the spine
      have hsp : i ∉ sps := fun h => h2 (hI.sp i h)
      rcases hC with ⟨hall, _⟩ | ⟨t, hstg, hok, _, e8⟩
      · rcases hall i h1 with h | h
        · exact absurd h hen
        · exact absurd h hsp
      · have his : i ∈ t.alts := by
          rcases e8 i h1 with h | h | h | ⟨j, hj, h4, h5⟩
          · exact h
          · exact absurd h hen
          · exact absurd h hsp
          · rcases hI.seen j (h3 j hj) with h | h
            · exact absurd h h4
            · exact absurd h h5
        obtain ⟨ks, o, α, p, fv, fH, r, e1, e2, e3, e4, e5, e6, e7, e10, e9⟩ := alt_get his hstg hok
        have hst := hI.st (i := i) e5 h3
        have step := e3 D a w (wpAnyIn (FA c.ro) 0 P .any ops Q fuel (l.setIfInBounds i true)) Q hst
        have nxt : ∀ x w', p x → Since c.bs c.w0 w' → HpOk c.bs c.w0.heap.size (fH x) w' → wpAnyIn (FA c.ro) 0 P .any ops Q fuel (l.setIfInBounds i true) (a.put o.dst (fv x)) w' := by
          intro x w' hp hsi hhp
          have hI' : Inv P N c D ops pu en (pn.filter fun j => !(anc ops i).contains j) (i :: sps) (l.setIfInBounds i true) (pt o.dst (fv x) F) (fH x) (a.put o.dst (fv x)) w' := by
            refine ⟨by simp [hI.size], ?_, ?_, ?_, hI.enpu, ?_, ?_, ?_, hsi, hhp, hcl', ?_⟩
            · intro j hj
              rcases (dn_set hil).1 hj with h | rfl
              · rcases hI.seen j h with h | h
                · exact .inl h
                · exact .inr (by simp [h])
              · exact .inr (by simp)
            · intro j hj
              rcases List.mem_cons.1 hj with rfl | h
              · exact (dn_set hil).2 (.inr rfl)
              · exact (dn_set hil).2 (.inl (hI.sp j h))
            · intro j hj hnd
              have hnd' : ¬ dn l j := fun h => hnd ((dn_set hil).2 (.inl h))
              simp only [List.mem_filter, Bool.not_eq_true', List.contains_eq_mem, decide_eq_false_iff_not]
              exact ⟨hI.pend j hj hnd', fun hm => hnd' (anc_done hI.cl h3 j hm)⟩
            · intro j hj k hk
              rcases hI.back j hj k hk with h | h
              · exact .inl h
              · exact .inr (by simp [h])
            · cases o.dst <;> simp [Act.put, hI.tm]
            · cases o.dst <;> simp [Act.put, hI.df]
            · intro d v hl hdn
              have old : lk F d = some v → a.tmps[d]? = some v := fun hl' => hI.fr d v hl' fun j hj hdj => by
                rcases (dn_set hil).1 (hdn j hj hdj) with h | rfl
                · exact h
                · exact absurd (hI.enpu _ hj) e6
              cases ho : o.dst with
              | none => rw [ho] at hl; exact old hl
              | some k =>
                rw [ho] at hl e2
                have hkN : k < a.tmps.size := by rw [hI.tm]; simpa [dOk, Nat.blt_eq] using e2
                simp only [pt, lk] at hl
                by_cases e : k = d
                · subst e; simp at hl; subst hl; simp [Act.put, hkN]
                · rw [beq_no e] at hl
                  simp only [Act.put, Array.getElem?_setIfInBounds, if_neg e]
                  exact old hl
          obtain ⟨en2, pn2, F2, k1, k2, k3, k4⟩ := enter hD e10 hI' hN (e4 x hp) e9
          exact ih _ _ _ en2 pn2 (i :: sps) F2 (fH x) hu' k1 k2 k3 k4
        have step := step nxt
        unfold wpOpIn
        simp only [e1]
        split
        · rename_i hw; simp only [hw, if_true] at step; exact step
        · rename_i hw; simp only [hw] at step; exact ⟨fun _ _ => trivial, step⟩

/-! the stages, rule by rule -/
section
variable {F : Frm} {H : List Res}
theorem ReOk_nil : ReOk P N c ops F H [] := trivial
theorem ReOk_cons {i : Nat} {ks : List Nat} {r : List Fl} {d : Nat} {v : Value} {op : Op} {ty : TypeId} {ps : String} {af : Array Edge} {g : Option (Nat × Bool)} (ho : ops[i]? = some ⟨some d, op, ty, ps, af, g⟩) (hl : lk F d = some v) (hv : VG P N c ops ⟨some d, op, ty, ps, af, g⟩ (selF F ks) H v) (hr : ReOk P N c ops F H r) :
    ReOk P N c ops F H ((i, ks) :: r) := ⟨⟨_, d, v, ho, rfl, hl, hv⟩, hr⟩
theorem NewOk_nil {K : Frm → Prop} (h : K F) : NewOk P N c ops H [] F K := h
theorem NewOk_cons {i : Nat} {ks : List Nat} {r : List Fl} {K : Frm → Prop} {d : Nat} {v : Value} {op : Op} {ty : TypeId} {ps : String} {af : Array Edge} {g : Option (Nat × Bool)} (ho : ops[i]? = some ⟨some d, op, ty, ps, af, g⟩) (hN : Nat.blt d N = true)
    (hv : VG P N c ops ⟨some d, op, ty, ps, af, g⟩ (selF F ks) H v) (hr : NewOk P N c ops H r ((d, v) :: F) K) : NewOk P N c ops H ((i, ks) :: r) F K := ⟨_, d, v, ho, rfl, hN, hv, hr⟩
theorem Stg_fin {re new : List Fl} (h1 : ReOk P N c ops F H re) (h2 : NewOk P N c ops H new F fun F' => WQ N c D Q .normal F' H) : Stg P N c D ops Q (.fin re new) F H := ⟨h1, h2⟩
theorem Stg_stg {re new : List Fl} {t : Tr} (h1 : ReOk P N c ops F H re) (h2 : NewOk P N c ops H new F fun F' => Stg P N c D ops Q t F' H) : Stg P N c D ops Q (.stg re new t) F H := ⟨h1, h2⟩
theorem Stg_no : Stg P N c D ops Q .no F H := trivial
/-- the next of the spine -/
theorem Stg_some {s : Nat} {ks : List Nat} {here more : Tr} {d : Nat} {op : Op} {ty : TypeId} {ps : String} {af : Array Edge} {g : Option (Nat × Bool)} {α : Type} {p : α → Prop} {fv : α → Value} {fH : α → List Res}
    (ho : ops[s]? = some ⟨some d, op, ty, ps, af, g⟩) (hN : Nat.blt d N = true) (hv : RG P N c ops ⟨some d, op, ty, ps, af, g⟩ (selF F ks) H p fv fH) (h : ∀ x, p x → Stg P N c D ops Q here ((d, fv x) :: F) (fH x)) (hm : Stg P N c D ops Q more F H) : Stg P N c D ops Q (.alt s ks here more) F H :=
  ⟨⟨_, α, p, fv, fH, ho, hN, hv, h⟩, hm⟩
theorem Stg_none {s : Nat} {ks : List Nat} {here more : Tr} {op : Op} {ty : TypeId} {ps : String} {af : Array Edge} {g : Option (Nat × Bool)} {α : Type} {p : α → Prop} {fv : α → Value} {fH : α → List Res}
    (ho : ops[s]? = some ⟨none, op, ty, ps, af, g⟩) (hv : RG P N c ops ⟨none, op, ty, ps, af, g⟩ (selF F ks) H p fv fH) (h : ∀ x, p x → Stg P N c D ops Q here F (fH x)) (hm : Stg P N c D ops Q more F H) : Stg P N c D ops Q (.alt s ks here more) F H :=
  ⟨⟨_, α, p, fv, fH, ho, rfl, hv, h⟩, hm⟩
end

/-- THE RULE -/
theorem WP_draw {id : Nat} {l : List Oper} {F : Frm} {H : List Res} (hm : P.follows .mixedOrders = true) (st : Tr) (hok : okAll l.toArray st = true)
    (h : Stg P N c D l.toArray Q st F H) : WP P N c D (.region id l.toArray true) Q F H := fun a w hst => by
  simp only [okAll, Bool.and_eq_true] at hok
  refine wpIn_region_any hm ?_
  have hdn : ∀ j, ¬ dn (Array.replicate l.toArray.size false) j := fun j h => by
    unfold dn at h
    simp only [Array.getD_eq_getD_getElem?, Array.getElem?_replicate] at h
    split at h <;> simp at h
  have hI : Inv P N c D l.toArray (pures st) [] [] [] (Array.replicate l.toArray.size false) F H a { w with drawn := w.drawn + 1 } :=
    ⟨by simp, fun j hj => absurd hj (hdn j), by simp, by simp, by simp, by simp, hst.tm, hst.df, hst.si.drawn _, ⟨fun r hr => hst.hp.holds r hr, hst.hp.own, hst.hp.apart⟩, fun j hj => absurd hj (hdn j), fun d v hl _ => hst.fr d v hl⟩
  obtain ⟨en2, pn2, F2, k1, k2, k3, k4⟩ := enter hok.1.2 hok.1.1 hI (by simp) h hok.2
  refine stg_sound hok.1.2 _ _ _ _ en2 pn2 [] F2 H ?_ k1 k2 k3 k4
  unfold undone
  exact Nat.le_trans (List.length_filter_le _ _) (by simp)
end Go.Bw
