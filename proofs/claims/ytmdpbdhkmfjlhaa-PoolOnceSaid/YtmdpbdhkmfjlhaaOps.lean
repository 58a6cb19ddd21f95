/- The rules of our own logic for single operations; no program is named. -/
import Derived.Test.YtmdpbdhkmfjlhaaBase
namespace Go.Bw
open Go Go.RowKit

/-! types -/
def isAggD : TypeDesc → Bool
  | .struct _ => true
  | .array _ _ => true
  | _ => false
def chkAgg (P : Program) (t n : Nat) : Bool := match P.underlying t, P.info? t with
  | some d, some i => isAggD d && Nat.beq i.size n
  | _, _ => false
def chkOne (P : Program) (t : Nat) : Bool := match P.underlying t, P.info? t with
  | some d, some i => !isAggD d && Nat.beq i.size 1
  | _, _ => false
class TAgg (P : Program) (t : TypeId) (n : outParam Nat) : Prop where
  ok : chkAgg P t n = true
class TOne (P : Program) (t : TypeId) : Prop where
  ok : chkOne P t = true
/-- the cells that a type takes -/
class TSz (P : Program) (t : TypeId) (n : outParam Nat) : Prop where
  ok : (P.info? t).map (·.size) = some n

section types
variable {P : Program} {t n : Nat}
theorem TAgg.get (h : chkAgg P t n = true) : ∃ d i, P.underlying t = some d ∧ isAggD d = true ∧ P.info? t = some i ∧ i.size = n := by
  unfold chkAgg at h
  split at h
  · rename_i d i h1 h2
    simp only [Bool.and_eq_true] at h
    exact ⟨d, i, h1, h.1, h2, Nat.eq_of_beq_eq_true h.2⟩
  · cases h
theorem TOne.get (h : chkOne P t = true) : ∃ d i, P.underlying t = some d ∧ isAggD d = false ∧ P.info? t = some i ∧ i.size = 1 := by
  unfold chkOne at h
  split at h
  · rename_i d i h1 h2
    simp only [Bool.and_eq_true, Bool.not_eq_true'] at h
    exact ⟨d, i, h1, h.1, h2, Nat.eq_of_beq_eq_true h.2⟩
  · cases h
instance (priority := 50) TSz_agg [h : TAgg P t n] : TSz P t n := ⟨by obtain ⟨d, i, _, _, h3, h4⟩ := TAgg.get h.ok; simp [h3, h4]⟩
instance (priority := 40) TSz_one [h : TOne P t] : TSz P t 1 := ⟨by obtain ⟨d, i, _, _, h3, h4⟩ := TOne.get h.ok; simp [h3, h4]⟩

theorem run_isAgg_true (w : World) [h : TAgg P t n] : (isAgg t).run P w = .ok true w := by
  obtain ⟨d, i, h1, h2, _, _⟩ := TAgg.get h.ok
  unfold isAgg
  rw [Sem.run_bind, run_underlying h1 w]
  cases d <;> simp_all [isAggD]
theorem run_isAgg_false (w : World) [h : TOne P t] : (isAgg t).run P w = .ok false w := by
  obtain ⟨d, i, h1, h2, _, _⟩ := TOne.get h.ok
  unfold isAgg
  rw [Sem.run_bind, run_underlying h1 w]
  cases d <;> simp_all [isAggD]
theorem run_sizeOf (w : World) [h : TSz P t n] : (sizeOf t).run P w = .ok n w := by
  have := h.ok
  cases hi : P.info? t with
  | none => simp [hi] at this
  | some i => simp [hi] at this; simp [sizeOf, typeInfo, hi, this]
end types

/-! resources, found by their block -/
class HasC (H : List Res) (b : Nat) (T : outParam TypeId) (cs : outParam (List Value)) : Prop where
  mem : Res.cells b T cs ∈ H
instance (priority := 100) HasC_here (b T cs) (H : List Res) : HasC (.cells b T cs :: H) b T cs := ⟨by simp⟩
instance (priority := 50) HasC_there (r : Res) (H : List Res) (b T cs) [h : HasC H b T cs] : HasC (r :: H) b T cs := ⟨by simp [h.mem]⟩

class SetC (H : List Res) (b : Nat) (cs' : List Value) (H' : outParam (List Res)) : Prop where
  ok : ∃ k T cs, H[k]? = some (.cells b T cs) ∧ H' = H.set k (.cells b T cs')
instance (priority := 100) SetC_here (b T cs cs') (H : List Res) : SetC (.cells b T cs :: H) b cs' (.cells b T cs' :: H) := ⟨0, T, cs, rfl, rfl⟩
instance (priority := 50) SetC_there (r : Res) (H H' : List Res) (b cs') [h : SetC H b cs' H'] : SetC (r :: H) b cs' (r :: H') :=
  ⟨by obtain ⟨k, T, cs, h1, h2⟩ := h.ok; exact ⟨k + 1, T, cs, by simpa using h1, by simp [h2]⟩⟩

class HasR (H : List Res) (v : Value) (e sz n : outParam Nat) (xs : outParam (List Value)) : Prop where
  mem : Res.row v e sz n xs ∈ H
instance (priority := 100) HasR_here (v e sz n xs) (H : List Res) : HasR (.row v e sz n xs :: H) v e sz n xs := ⟨by simp⟩
instance (priority := 50) HasR_there (r : Res) (H : List Res) (v e sz n xs) [h : HasR H v e sz n xs] : HasR (r :: H) v e sz n xs := ⟨by simp [h.mem]⟩

class SetR (H : List Res) (v : Value) (r' : Res) (H' : outParam (List Res)) : Prop where
  ok : ∃ k e sz n xs, H[k]? = some (.row v e sz n xs) ∧ H' = H.set k r'
instance (priority := 100) SetR_here (v e sz n xs r') (H : List Res) : SetR (.row v e sz n xs :: H) v r' (r' :: H) := ⟨0, e, sz, n, xs, rfl, rfl⟩
instance (priority := 50) SetR_there (r : Res) (H H' : List Res) (v r') [h : SetR H v r' H'] : SetR (r :: H) v r' (r :: H') :=
  ⟨by obtain ⟨k, e, sz, n, xs, h1, h2⟩ := h.ok; exact ⟨k + 1, e, sz, n, xs, by simpa using h1, by simp [h2]⟩⟩

class HasO (H : List Res) (b : Nat) (o : outParam Obj) : Prop where
  mem : Res.obj b o ∈ H
instance (priority := 100) HasO_here (b o) (H : List Res) : HasO (.obj b o :: H) b o := ⟨by simp⟩
instance (priority := 50) HasO_there (r : Res) (H : List Res) (b o) [h : HasO H b o] : HasO (r :: H) b o := ⟨by simp [h.mem]⟩
class SetO (H : List Res) (b : Nat) (o' : Obj) (H' : outParam (List Res)) : Prop where
  ok : ∃ k o, H[k]? = some (.obj b o) ∧ H' = H.set k (.obj b o')
instance (priority := 100) SetO_here (b o o') (H : List Res) : SetO (.obj b o :: H) b o' (.obj b o' :: H) := ⟨0, o, rfl, rfl⟩
instance (priority := 50) SetO_there (r : Res) (H H' : List Res) (b o') [h : SetO H b o' H'] : SetO (r :: H) b o' (r :: H') :=
  ⟨by obtain ⟨k, o, h1, h2⟩ := h.ok; exact ⟨k + 1, o, by simpa using h1, by simp [h2]⟩⟩

def Ptr (b off : Nat) : Value := .pointer (some ⟨b, off, none⟩)
attribute [reducible] Ptr

section ops
variable {P : Program} {N : Nat} {c : Cx} {F : Frm} {H : List Res} {d : Option Tmp} {ty : TypeId} {p : String} {af : Array Edge} {g : Option (Nat × Bool)}

theorem VS_move {x : Operand} {v : Value} (hx : ev F x = some v) : VS P N c ⟨d, .move x, ty, p, af, g⟩ F H v :=
  VS_of_run (by simp) fun a w hf _ _ => by simp [execOp, ev_ok hf hx]
theorem VS_assign {x : Operand} {v : Value} (hx : ev F x = some v) : VS P N c ⟨d, .assign x, ty, p, af, g⟩ F H v :=
  VS_of_run (by simp) fun a w hf _ _ => by simp [execOp, ev_ok hf hx]

theorem VS_pick {x y z : Operand} {b : Bool} {u v : Value} (hx : ev F x = some (.bool b)) (hy : ev F y = some u) (hz : ev F z = some v) :
    VS P N c ⟨d, .pick x y z, ty, p, af, g⟩ F H (bif b then u else v) :=
  VS_of_run (by simp) fun a w hf _ _ => by cases b <;> simp [execOp, ev_ok hf hx, ev_ok hf hy, ev_ok hf hz, asBool]
/-- 'b && u': u was reckoned where b is -/
theorem VS_and {x y : Operand} {b u : Bool} (hx : ev F x = some (.bool b)) (hy : ev F y = some (bif b == true then .bool u else undef)) :
    VS P N c ⟨d, .pick x y (.const (.bool false)), ty, p, af, g⟩ F H (.bool (b && u)) :=
  VS_of_run (by simp) fun a w hf _ _ => by
    have e1 := ev_ok hf hx
    have e2 := ev_ok hf hy
    have e3 : ∀ v, a.eval (.const v) = v := fun _ => rfl
    cases b <;> (try simp at e2) <;> simp [execOp, e1, e2, e3, asBool]
theorem VS_or {x y : Operand} {b u : Bool} (hx : ev F x = some (.bool b)) (hy : ev F y = some (bif b == false then .bool u else undef)) :
    VS P N c ⟨d, .pick x (.const (.bool true)) y, ty, p, af, g⟩ F H (.bool (b || u)) :=
  VS_of_run (by simp) fun a w hf _ _ => by
    have e1 := ev_ok hf hx
    have e2 := ev_ok hf hy
    have e3 : ∀ v, a.eval (.const v) = v := fun _ => rfl
    cases b <;> (try simp at e2) <;> simp [execOp, e1, e2, e3, asBool]
theorem VS_and1 {x y : Operand} {b u : Bool} (hx : ev F x = some (.bool b)) (hy : ev F y = some (.bool u)) :
    VS P N c ⟨d, .pick x y (.const (.bool false)), ty, p, af, g⟩ F H (.bool (b && u)) :=
  VS_of_run (by simp) fun a w hf _ _ => by
    have e1 := ev_ok hf hx
    have e2 := ev_ok hf hy
    have e3 : ∀ v, a.eval (.const v) = v := fun _ => rfl
    cases b <;> (try simp at e2) <;> simp [execOp, e1, e2, e3, asBool]
theorem VS_or1 {x y : Operand} {b u : Bool} (hx : ev F x = some (.bool b)) (hy : ev F y = some (.bool u)) :
    VS P N c ⟨d, .pick x (.const (.bool true)) y, ty, p, af, g⟩ F H (.bool (b || u)) :=
  VS_of_run (by simp) fun a w hf _ _ => by
    have e1 := ev_ok hf hx
    have e2 := ev_ok hf hy
    have e3 : ∀ v, a.eval (.const v) = v := fun _ => rfl
    cases b <;> (try simp at e2) <;> simp [execOp, e1, e2, e3, asBool]

theorem VS_not {x : Operand} {b : Bool} (hx : ev F x = some (.bool b)) {T : TypeId} : VS P N c ⟨d, .unOp .not T x, ty, p, af, g⟩ F H (.bool (!b)) :=
  VS_of_run (by simp) fun a w hf _ _ => by simp [execOp, ev_ok hf hx, Op.unary]

section ints
variable {x y : Operand} {k : IntKind} {a b r : Int} {T U : TypeId}
theorem VS_add (hx : ev F x = some (.int k a)) (hy : ev F y = some (.int k b)) (h : k.wrap (a + b) = r) : VS P N c ⟨d, .binOp .add T x y U, ty, p, af, g⟩ F H (.int k r) :=
  VS_of_run (by simp) fun a' w hf _ _ => by simp [execOp, ev_ok hf hx, ev_ok hf hy, eqGuard, binOp, Op.intArith, h]
theorem VS_sub (hx : ev F x = some (.int k a)) (hy : ev F y = some (.int k b)) (h : k.wrap (a - b) = r) : VS P N c ⟨d, .binOp .sub T x y U, ty, p, af, g⟩ F H (.int k r) :=
  VS_of_run (by simp) fun a' w hf _ _ => by simp [execOp, ev_ok hf hx, ev_ok hf hy, eqGuard, binOp, Op.intArith, h]
theorem VS_mul (hx : ev F x = some (.int k a)) (hy : ev F y = some (.int k b)) (h : k.wrap (a * b) = r) : VS P N c ⟨d, .binOp .mul T x y U, ty, p, af, g⟩ F H (.int k r) :=
  VS_of_run (by simp) fun a' w hf _ _ => by simp [execOp, ev_ok hf hx, ev_ok hf hy, eqGuard, binOp, Op.intArith, h]
theorem VS_quo (hx : ev F x = some (.int k a)) (hy : ev F y = some (.int k b)) (h0 : b ≠ 0) (h : k.wrap (a.tdiv b) = r) : VS P N c ⟨d, .binOp .quo T x y U, ty, p, af, g⟩ F H (.int k r) :=
  VS_of_run (by simp) fun a' w hf _ _ => by simp [execOp, ev_ok hf hx, ev_ok hf hy, eqGuard, binOp, Op.intDiv, h, h0]
theorem VS_rem (hx : ev F x = some (.int k a)) (hy : ev F y = some (.int k b)) (h0 : b ≠ 0) (h : a.tmod b = r) : VS P N c ⟨d, .binOp .rem T x y U, ty, p, af, g⟩ F H (.int k r) :=
  VS_of_run (by simp) fun a' w hf _ _ => by simp [execOp, ev_ok hf hx, ev_ok hf hy, eqGuard, binOp, Op.intDiv, h, h0]
theorem VS_bits {op : BinOp} {v : Value} (hx : ev F x = some (.int k a)) (hy : ev F y = some (.int k b)) (ho : (op matches .and | .or | .xor | .andNot) = true)
    (h : ∀ P w, (Op.intBits op k a b).run P w = .ok v w) : VS P N c ⟨d, .binOp op T x y U, ty, p, af, g⟩ F H v :=
  VS_of_run (by simp) fun a' w hf _ _ => by cases op <;> simp at ho <;> simp [execOp, ev_ok hf hx, ev_ok hf hy, eqGuard, binOp, h]
theorem VS_shl {k' : IntKind} (hx : ev F x = some (.int k a)) (hy : ev F y = some (.int k' b)) (h0 : 0 ≤ b) (h : k.wrap (a * 2 ^ (min b.toNat k.bits)) = r) : VS P N c ⟨d, .binOp .shl T x y U, ty, p, af, g⟩ F H (.int k r) :=
  VS_of_run (by simp) fun a' w hf _ _ => by simp [execOp, ev_ok hf hx, ev_ok hf hy, eqGuard, binOp, Op.shift, h, Int.not_lt.2 h0]
theorem VS_shr {k' : IntKind} (hx : ev F x = some (.int k a)) (hy : ev F y = some (.int k' b)) (h0 : 0 ≤ b) (h : a.fdiv (2 ^ (min b.toNat k.bits)) = r) : VS P N c ⟨d, .binOp .shr T x y U, ty, p, af, g⟩ F H (.int k r) :=
  VS_of_run (by simp) fun a' w hf _ _ => by simp [execOp, ev_ok hf hx, ev_ok hf hy, eqGuard, binOp, Op.shift, h, Int.not_lt.2 h0]
theorem VS_eql (hx : ev F x = some (.int k a)) (hy : ev F y = some (.int k b)) : VS P N c ⟨d, .binOp .eql T x y U, ty, p, af, g⟩ F H (.bool (a == b)) :=
  VS_of_run (by simp) fun a' w hf _ _ => by simp [execOp, ev_ok hf hx, ev_ok hf hy, eqGuard, binOp, Op.intCmp]
theorem VS_neq (hx : ev F x = some (.int k a)) (hy : ev F y = some (.int k b)) : VS P N c ⟨d, .binOp .neq T x y U, ty, p, af, g⟩ F H (.bool (a != b)) :=
  VS_of_run (by simp) fun a' w hf _ _ => by simp [execOp, ev_ok hf hx, ev_ok hf hy, eqGuard, binOp, Op.intCmp]
theorem VS_lss (hx : ev F x = some (.int k a)) (hy : ev F y = some (.int k b)) : VS P N c ⟨d, .binOp .lss T x y U, ty, p, af, g⟩ F H (.bool (decide (a < b))) :=
  VS_of_run (by simp) fun a' w hf _ _ => by simp [execOp, ev_ok hf hx, ev_ok hf hy, eqGuard, binOp, Op.intCmp]
theorem VS_leq (hx : ev F x = some (.int k a)) (hy : ev F y = some (.int k b)) : VS P N c ⟨d, .binOp .leq T x y U, ty, p, af, g⟩ F H (.bool (decide (a ≤ b))) :=
  VS_of_run (by simp) fun a' w hf _ _ => by simp [execOp, ev_ok hf hx, ev_ok hf hy, eqGuard, binOp, Op.intCmp]
theorem VS_gtr (hx : ev F x = some (.int k a)) (hy : ev F y = some (.int k b)) : VS P N c ⟨d, .binOp .gtr T x y U, ty, p, af, g⟩ F H (.bool (decide (b < a))) :=
  VS_of_run (by simp) fun a' w hf _ _ => by simp [execOp, ev_ok hf hx, ev_ok hf hy, eqGuard, binOp, Op.intCmp]
theorem VS_geq (hx : ev F x = some (.int k a)) (hy : ev F y = some (.int k b)) : VS P N c ⟨d, .binOp .geq T x y U, ty, p, af, g⟩ F H (.bool (decide (b ≤ a))) :=
  VS_of_run (by simp) fun a' w hf _ _ => by simp [execOp, ev_ok hf hx, ev_ok hf hy, eqGuard, binOp, Op.intCmp]
theorem VS_neg (hx : ev F x = some (.int k a)) (h : k.wrap (0 - a) = r) : VS P N c ⟨d, .unOp .neg T x, ty, p, af, g⟩ F H (.int k r) :=
  VS_of_run (by simp) fun a' w hf _ _ => by simp at h; simp [execOp, ev_ok hf hx, Op.unary, Op.intArith, h]
end ints

/-- the type is an integer kind -/
class TInt (P : Program) (t : TypeId) (k : outParam IntKind) : Prop where
  ok : P.underlying t = some (.int k)
class TBool (P : Program) (t : TypeId) : Prop where
  ok : P.underlying t = some .bool

theorem VS_conv {x : Operand} {k k' : IntKind} {a r : Int} {S T : TypeId} (hx : ev F x = some (.int k a)) [hT : TInt P T k'] [hS : TInt P S k] (h : k'.wrap a = r) :
    VS P N c ⟨d, .convert S T x, ty, p, af, g⟩ F H (.int k' r) :=
  VS_of_run (by simp) fun a' w hf _ _ => by
    have h1 := run_underlying hT.ok w
    have h2 := run_underlying hS.ok w
    simp [execOp, ev_ok hf hx, convert, h1, h2, Conv.intToInt, h]

theorem VS_eqlb {x y : Operand} {a b : Bool} {T U : TypeId} [hT : TBool P T] (hx : ev F x = some (.bool a)) (hy : ev F y = some (.bool b)) :
    VS P N c ⟨d, .binOp .eql T x y U, ty, p, af, g⟩ F H (.bool (a == b)) :=
  VS_of_run (by simp) fun a' w hf _ _ => by
    have h1 := run_eql_bool (P := P) w T a b hT.ok
    simp [execOp, ev_ok hf hx, ev_ok hf hy, eqGuard, h1]
theorem VS_neqb {x y : Operand} {a b : Bool} {T U : TypeId} [hT : TBool P T] (hx : ev F x = some (.bool a)) (hy : ev F y = some (.bool b)) :
    VS P N c ⟨d, .binOp .neq T x y U, ty, p, af, g⟩ F H (.bool (a != b)) :=
  VS_of_run (by simp) fun a' w hf _ _ => by
    have h1 := run_neq_bool (P := P) w T a b hT.ok
    have e1 := ev_ok hf hx
    have e2 := ev_ok hf hy
    cases a <;> cases b <;> simp [execOp, e1, e2, eqGuard, h1]

theorem VS_extract {x : Operand} {vs : List Value} {i : Nat} {v : Value} (hx : ev F x = some (.tuple vs.toArray)) (hv : vs[i]? = some v) : VS P N c ⟨d, .extract x i, ty, p, af, g⟩ F H v :=
  VS_of_run (by simp) fun a w hf _ _ => by simp [execOp, ev_ok hf hx, Instr.extract, hv]

/-! addresses -/
def chkFld (P : Program) (s f off : Nat) : Bool := match P.underlying s with
  | some (.struct fs) => match fs[f]? with
    | some fl => Nat.beq fl.offset off && (match P.info? fl.type with | some i => !Nat.beq i.size 0 | none => false)
    | none => false
  | _ => false
class TFld (P : Program) (s : TypeId) (f : Nat) (off : outParam Nat) : Prop where
  ok : chkFld P s f off = true
theorem TFld.get {s f off : Nat} (h : chkFld P s f off = true) : ∃ fs fl i, P.underlying s = some (.struct fs) ∧ fs[f]? = some fl ∧ fl.offset = off ∧ P.info? fl.type = some i ∧ i.size ≠ 0 := by
  unfold chkFld at h
  split at h
  · rename_i fs h1
    split at h
    · rename_i fl h2
      split at h
      · rename_i i h3
        simp only [Bool.and_eq_true, Bool.not_eq_true'] at h
        exact ⟨fs, fl, i, h1, h2, Nat.eq_of_beq_eq_true h.1, h3, fun e => by rw [e] at h; exact absurd h.2 (by decide)⟩
      · simp at h
    · cases h
  · cases h

theorem run_fieldAt {s f fo b off : Nat} [h : TFld P s f fo] (w : World) : (Instr.fieldAt s (Ptr b off) f).run P w = .ok (Ptr b (off + fo)) w := by
  obtain ⟨fs, fl, i, h1, h2, h3, h4, h5⟩ := TFld.get h.ok
  simp [Instr.fieldAt, run_underlying h1, h2, Instr.sureAddr, fieldPlace, sizeOf, typeInfo, h4, h5, Addr.add_lit, h3]

theorem VS_field0 {x : Operand} {s f fo b : Nat} [TFld P s f fo] (hx : ev F x = some (Ptr b 0)) : VS P N c ⟨d, .fieldAddr s x f, ty, p, af, g⟩ F H (Ptr b fo) :=
  VS_of_run (by simp) fun a w hf _ _ => by
    have := run_fieldAt (P := P) (s := s) (f := f) (b := b) (off := 0) w
    rw [Nat.zero_add] at this
    simp only [execOp, ev_ok hf hx]
    simp [this]
theorem VS_field {x : Operand} {s f fo b off : Nat} [TFld P s f fo] (hx : ev F x = some (Ptr b off)) : VS P N c ⟨d, .fieldAddr s x f, ty, p, af, g⟩ F H (Ptr b (off + fo)) :=
  VS_of_run (by simp) fun a w hf _ _ => by
    have := run_fieldAt (P := P) (s := s) (f := f) (b := b) (off := off) w
    simp only [execOp, ev_ok hf hx]
    simp [this]

def chkArr (P : Program) (t len e sz : Nat) : Bool := match P.underlying t with
  | some (.array l e') => Nat.beq l len && Nat.beq e' e && (match P.info? e with | some i => Nat.beq i.size sz | none => false)
  | _ => false
class TArr (P : Program) (t : TypeId) (len e sz : outParam Nat) : Prop where
  ok : chkArr P t len e sz = true
theorem TArr.get {t len e sz : Nat} (h : chkArr P t len e sz = true) : ∃ i, P.underlying t = some (.array len e) ∧ P.info? e = some i ∧ i.size = sz := by
  unfold chkArr at h
  split at h
  · rename_i l e' h1
    split at h
    · rename_i i h3
      simp only [Bool.and_eq_true] at h
      obtain ⟨⟨h4, h5⟩, h6⟩ := h
      rw [Nat.eq_of_beq_eq_true h4, Nat.eq_of_beq_eq_true h5] at h1
      exact ⟨i, h1, h3, Nat.eq_of_beq_eq_true h6⟩
    · simp at h
  · cases h
def chkSl (P : Program) (t e sz : Nat) : Bool := match P.underlying t with
  | some (.slice e') => Nat.beq e' e && (match P.info? e with | some i => Nat.beq i.size sz | none => false)
  | _ => false
class TSl (P : Program) (t : TypeId) (e sz : outParam Nat) : Prop where
  ok : chkSl P t e sz = true
theorem TSl.get {t e sz : Nat} (h : chkSl P t e sz = true) : ∃ i, P.underlying t = some (.slice e) ∧ P.info? e = some i ∧ i.size = sz := by
  unfold chkSl at h
  split at h
  · rename_i e' h1
    split at h
    · rename_i i h3
      simp only [Bool.and_eq_true] at h
      obtain ⟨h4, h6⟩ := h
      rw [Nat.eq_of_beq_eq_true h4] at h1
      exact ⟨i, h1, h3, Nat.eq_of_beq_eq_true h6⟩
    · simp at h
  · cases h

theorem VS_index0 {x y : Operand} {t len e sz b : Nat} {k : IntKind} {i : Int} {m : Nat} [h : TArr P t len e sz] (hx : ev F x = some (Ptr b 0)) (hy : ev F y = some (.int k i)) (hi : i = (m : Int)) (hm : m < len) :
    VS P N c ⟨d, .indexAddr t x y, ty, p, af, g⟩ F H (Ptr b (m * sz)) :=
  VS_of_run (by simp) fun a w hf _ _ => by
    obtain ⟨inf, h1, h2, h3⟩ := TArr.get h.ok
    subst hi
    simp [execOp, ev_ok hf hx, ev_ok hf hy, Instr.indexAt, asIntOf, run_underlying h1, Instr.sureAddr, sizeOf, typeInfo, h2, h3, Addr.add_lit]
    intro hle
    omega
theorem VS_index {x y : Operand} {t len e sz b off : Nat} {k : IntKind} {i : Int} {m : Nat} [h : TArr P t len e sz] (hx : ev F x = some (Ptr b off)) (hy : ev F y = some (.int k i)) (hi : i = (m : Int)) (hm : m < len) :
    VS P N c ⟨d, .indexAddr t x y, ty, p, af, g⟩ F H (Ptr b (off + m * sz)) :=
  VS_of_run (by simp) fun a w hf _ _ => by
    obtain ⟨inf, h1, h2, h3⟩ := TArr.get h.ok
    subst hi
    simp [execOp, ev_ok hf hx, ev_ok hf hy, Instr.indexAt, asIntOf, run_underlying h1, Instr.sureAddr, sizeOf, typeInfo, h2, h3, Addr.add_lit]
    intro hle
    omega
theorem VS_index_sl {x y : Operand} {t e sz b off len cap : Nat} {k : IntKind} {i : Int} {m : Nat} [h : TSl P t e sz] (hx : ev F x = some (.slice (some ⟨b, off, none⟩) len cap)) (hy : ev F y = some (.int k i)) (hi : i = (m : Int)) (hm : m < len) :
    VS P N c ⟨d, .indexAddr t x y, ty, p, af, g⟩ F H (Ptr b (off + m * sz)) :=
  VS_of_run (by simp) fun a w hf _ _ => by
    obtain ⟨inf, h1, h2, h3⟩ := TSl.get h.ok
    subst hi
    simp [execOp, ev_ok hf hx, ev_ok hf hy, Instr.indexAt, asIntOf, run_underlying h1, sizeOf, typeInfo, h2, h3, Addr.add_lit]
    intro hle
    omega

theorem VS_nilCheck {x : Operand} {a : Addr} (hx : ev F x = some (.pointer (some a))) : VS P N c ⟨d, .nilCheck x, ty, p, af, g⟩ F H (.pointer (some a)) :=
  VS_of_run (by simp) fun a w hf _ _ => by simp [execOp, ev_ok hf hx]

/-! loads -/
theorem cell_of {w : World} {b T : Nat} {cs : List Value} (h : (Res.cells b T cs).holds w) (j : Nat) : w.cell? ⟨b, j, none⟩ = cs[j]? := by
  have : w.heap[b]? = some (.cells cs.toArray T (0, 0)) := h
  simp [World.cell?, this]

theorem run_loadVar_one {t : TypeId} {a : Addr} {v : Value} {w : World} [TOne P t] (h : w.cell? a = some v) : (loadVar t a).run P w = .ok v w := by
  simp [loadVar, run_isAgg_false, load, Sem.run, h]

theorem run_loadVar_agg {t : TypeId} {b off n : Nat} {vs : List Value} {w : World} [TAgg P t n] (hl : vs.length = n) (h : ∀ (j : Nat) v, vs[j]? = some v → w.cell? ⟨b, off + j, none⟩ = some v) :
    (loadVar t ⟨b, off, none⟩).run P w = .ok (.agg vs.toArray) w := by
  have hl' : (loadCells ⟨b, off, none⟩ vs.length).run P w = .ok vs.toArray w :=
    run_loadCells_list (P := P) w ⟨b, off, none⟩ vs (fun j v hv => by rw [Addr.add_lit]; exact h j v hv)
  have hs : (sizeOf t).run P w = .ok n w := run_sizeOf w
  simp [loadVar, Sem.run_bind, run_isAgg_true, hs, ← hl, hl']

/-- one cell -/
theorem VS_load {x : Operand} {t b off T : Nat} {cs : List Value} {v : Value} (hx : ev F x = some (Ptr b off)) [hr : HasC H b T cs] [TOne P t] (hv : cs[off]? = some v) : VS P N c ⟨d, .load t x, ty, p, af, g⟩ F H v :=
  VS_of_run (by simp) fun a w hf _ hp => by
    have := run_loadVar_one (P := P) (t := t) (a := ⟨b, off, none⟩) ((cell_of (hp.holds _ hr.mem) off).trans hv)
    simp [execOp, ev_ok hf hx, Instr.loadAt, Instr.sureAddr, this]
/-- a whole variable -/
theorem VS_loadall {x : Operand} {t b T n : Nat} {cs : List Value} (hx : ev F x = some (Ptr b 0)) [hr : HasC H b T cs] [TAgg P t n] (hl : cs.length = n) : VS P N c ⟨d, .load t x, ty, p, af, g⟩ F H (.agg cs.toArray) :=
  VS_of_run (by simp) fun a w hf _ hp => by
    have := run_loadVar_agg (P := P) (t := t) (b := b) (off := 0) (w := w) hl (fun j v hv => by rw [Nat.zero_add, cell_of (hp.holds _ hr.mem)]; exact hv)
    simp [execOp, ev_ok hf hx, Instr.loadAt, Instr.sureAddr, this]
/-- a part of one -/
theorem VS_loadpart {x : Operand} {t b off T n : Nat} {cs vs : List Value} (hx : ev F x = some (Ptr b off)) [hr : HasC H b T cs] [TAgg P t n] (hv : (cs.drop off).take n = vs) (hl : vs.length = n) : VS P N c ⟨d, .load t x, ty, p, af, g⟩ F H (.agg vs.toArray) :=
  VS_of_run (by simp) fun a w hf _ hp => by
    have := run_loadVar_agg (P := P) (t := t) (b := b) (off := off) (w := w) hl (fun j v hj => by
      rw [cell_of (hp.holds _ hr.mem)]
      rw [← hv, List.getElem?_take] at hj
      split at hj
      · rwa [List.getElem?_drop] at hj
      · cases hj)
    simp [execOp, ev_ok hf hx, Instr.loadAt, Instr.sureAddr, this]

/-! stores -/
def splice (cs : List Value) (off : Nat) (vs : List Value) : List Value := cs.take off ++ vs ++ cs.drop (off + vs.length)

def OneC (vs : List Value) : Prop := ∀ v ∈ vs, v.oneCell' = true

theorem run_storeVar_at {t b off T n : Nat} {cs vs : List Value} {v : Value} {w : World} [TSz P t n] (h : (Res.cells b T cs).holds w) (hv : v.cells.toList = vs) (hl : vs.length = n) (ho : off + n ≤ cs.length) (h1 : OneC vs) :
    ∃ w', (storeVar t ⟨b, off, none⟩ v).run P w = .ok () w' ∧ (Res.cells b T (splice cs off vs)).holds w' ∧ Since [b] w w' := by
  have hb : w.heap[b]? = some (.cells cs.toArray T (0, 0)) := h
  have hst := run_storeCells_at P b off T vs 0 cs.toArray w hb (by simp; omega) h1
  simp only [Nat.add_zero] at hst
  have hs : (sizeOf t).run P w = .ok n w := run_sizeOf w
  have hsz : v.cells.size = n := by rw [← hl, ← hv]; simp
  refine ⟨w.setRow b (splice cs off vs).toArray, ?_, ?_, ?_⟩
  · simp only [storeVar, Sem.run_bind, hs, Result.andThen_ok, hsz, hv, ne_eq, not_true_eq_false, if_false]
    exact hst
  · have := setRow_heap w b cs.toArray (splice cs off vs).toArray T (0, 0) hb
    simpa [Res.holds, splice] using this
  · exact ⟨rfl, rfl, rfl, by simp, fun k _ hk => setRow_other w b k _ (by simpa using hk)⟩

theorem HpOk.setC {bs : List Nat} {n0 b : Nat} {H H' : List Res} {cs' : List Value} {w w' : World} (h : HpOk bs n0 H w) (hs : SetC H b cs' H') (hw : Since [b] w w') (hn : n0 ≤ w.heap.size)
    (hc : ∀ T cs, (Res.cells b T cs).holds w → (Res.cells b T cs').holds w') : HpOk bs n0 H' w' := by
  obtain ⟨k, T, cs, hk, rfl⟩ := hs.ok
  have hm : Res.cells b T cs ∈ H := List.mem_of_getElem? hk
  refine h.set hk hw.size (fun j hj hne => hw.block j hj hne) (hc T cs (h.holds _ hm)) hn (fun b' hb' => ?_)
  have e : b' = b := by simpa [Res.blk] using hb'
  subst e
  exact ⟨.inl (by simp [Res.blk]), Nat.lt_of_lt_of_le (h.own _ hm b' (by simp [Res.blk])).2 hw.size⟩

theorem Since.store {bs : List Nat} {w0 w w' : World} {H : List Res} {r : Res} {b : Nat} (h : Since bs w0 w) (hp : HpOk bs w0.heap.size H w) (hm : r ∈ H) (hb : b ∈ r.blk) (hw : Since [b] w w') : Since bs w0 w' :=
  h.trans hw (fun x hx => by simp at hx; subst hx; exact (hp.own r hm _ hb).1)

theorem cell_of_inj {w : World} {b T T' : Nat} {cs cs' : List Value} (h : (Res.cells b T cs).holds w) (h' : (Res.cells b T' cs').holds w) : T = T' ∧ cs = cs' := by
  have h1 : w.heap[b]? = some (.cells cs.toArray T (0, 0)) := h
  have h2 : w.heap[b]? = some (.cells cs'.toArray T' (0, 0)) := h'
  rw [h1] at h2
  simp at h2
  exact ⟨h2.2, h2.1⟩

variable {D : List Deferred} {ops : Array Oper} {Q : Exit → Act → World → Prop} {rest : List Oper}

theorem RX_store {x y : Operand} {t b off T n : Nat} {cs vs cs' : List Value} {v : Value} {H' : List Res} (hx : ev F x = some (Ptr b off)) (hy : ev F y = some v) [hr : HasC H b T cs] [TSz P t n]
    (hv : v.cells.toList = vs) (hl : vs.length = n) (ho : off + n ≤ cs.length) (h1 : OneC vs) (hc : splice cs off vs = cs') [hs : SetC H b cs' H'] :
    RX (α := Unit) P N c ⟨d, .store t x y, ty, p, af, g⟩ F H (fun _ => True) (fun _ => undef) (fun _ => H') := fun D a w next Q hst hk => by
  obtain ⟨w', e1, e2, e3⟩ := run_storeVar_at (P := P) (t := t) (off := off) (hst.hp.holds _ hr.mem) hv hl ho h1
  refine opIn_skip (by simp) (w' := w') ?_ (hk () w' trivial (hst.si.store hst.hp hr.mem (by simp [Res.blk]) e3) (hst.hp.setC hs e3 hst.si.size ?_))
  · simp [execOp, ev_ok hst.fr hx, ev_ok hst.fr hy, Instr.storeAt, Instr.sureAddr, e1]
  · intro T' cs'' hT
    have := cell_of_inj (hst.hp.holds _ hr.mem) hT
    obtain ⟨rfl, rfl⟩ := this
    rw [← hc]; exact e2

theorem WL_store {x y : Operand} {t b off T n : Nat} {cs vs cs' : List Value} {v : Value} {H' : List Res} (hx : ev F x = some (Ptr b off)) (hy : ev F y = some v) [HasC H b T cs] [TSz P t n]
    (hv : v.cells.toList = vs) (hl : vs.length = n) (ho : off + n ≤ cs.length) (h1 : OneC vs) (hc : splice cs off vs = cs') [SetC H b cs' H']
    (h : WL P N c D ops Q rest F H') : WL P N c D ops Q (⟨none, .store t x y, ty, p, af, none⟩ :: rest) F H :=
  WL_x0 (RX_store hx hy hv hl ho h1 hc) fun _ _ => h
/-- a store of a whole variable -/
theorem WL_storeall {x y : Operand} {t b T n : Nat} {cs vs : List Value} {v : Value} {H' : List Res} (hx : ev F x = some (Ptr b 0)) (hy : ev F y = some v) [HasC H b T cs] [TSz P t n]
    (hv : v.cells.toList = vs) (hl : vs.length = n) (ho : cs.length = n) (h1 : OneC vs) [SetC H b vs H']
    (h : WL P N c D ops Q rest F H') : WL P N c D ops Q (⟨none, .store t x y, ty, p, af, none⟩ :: rest) F H :=
  WL_store (cs' := vs) hx hy hv hl (by omega) h1 (by simp [splice, hl, ← ho]) h

theorem WL_storea {x y : Operand} {t b T n : Nat} {cs vs : List Value} {H' : List Res} (hx : ev F x = some (Ptr b 0)) (hy : ev F y = some (.agg vs.toArray)) [HasC H b T cs] [TSz P t n]
    (hl : vs.length = n) (ho : cs.length = n) (h1 : OneC vs) [SetC H b vs H'] (h : WL P N c D ops Q rest F H') : WL P N c D ops Q (⟨none, .store t x y, ty, p, af, none⟩ :: rest) F H :=
  WL_storeall (vs := vs) hx hy rfl hl ho h1 h
/-- a store of one cell -/
theorem WL_store1 {x y : Operand} {t b off T : Nat} {cs : List Value} {v : Value} {H' : List Res} (hx : ev F x = some (Ptr b off)) (hy : ev F y = some v) [HasC H b T cs] [TOne P t]
    (hv : v.cells.toList = [v]) (ho : off < cs.length) (h1 : v.oneCell' = true) [SetC H b (cs.set off v) H']
    (h : WL P N c D ops Q rest F H') : WL P N c D ops Q (⟨none, .store t x y, ty, p, af, none⟩ :: rest) F H :=
  WL_store (cs' := cs.set off v) hx hy hv rfl (show off + 1 ≤ cs.length by omega) (by simpa [OneC] using h1) (by
    have := ho
    unfold splice
    rw [List.set_eq_take_append_cons_drop, if_pos ho]
    simp) h

/-! new variables -/
def chkZero (P : Program) (t : Nat) : Option (List Value) := (P.info? t).bind fun i => i.zero.map fun z => z.cells.toList
class TZero (P : Program) (t : TypeId) (cs : outParam (List Value)) : Prop where
  ok : chkZero P t = some cs
theorem TZero.get {t : Nat} {cs : List Value} (h : chkZero P t = some cs) : ∃ i z, P.info? t = some i ∧ i.zero = some z ∧ z.cells.toList = cs := by
  unfold chkZero at h
  cases hi : P.info? t with
  | none => simp [hi] at h
  | some i =>
    cases hz : i.zero with
    | none => simp [hi, hz] at h
    | some z => simp [hi, hz] at h; exact ⟨i, z, rfl, hz, h⟩

theorem HpOk.box {bs : List Nat} {n0 : Nat} {H : List Res} {w : World} (h : HpOk bs n0 H w) (t : TypeId) (cs : List Value) (hn : n0 ≤ w.heap.size) : HpOk bs n0 (.cells w.heap.size t cs :: H) (w.alloc (.cells cs.toArray t)) :=
  h.fresh (Since.alloc _ _) (by show (w.heap.push _)[w.heap.size]? = _; simp) hn (fun b hb => by
    have e : b = w.heap.size := by simpa [Res.blk] using hb
    subst e
    exact ⟨Nat.le_refl _, by simp⟩)

theorem RX_box {x : Operand} {t : Nat} {v : Value} {cs : List Value} (hx : ev F x = some v) (hc : v.cells.toList = cs) :
    RX P N c ⟨d, .box t x, ty, p, af, g⟩ F H (fun _ => True) (fun b => Ptr b 0) (fun b => .cells b t cs :: H) := fun D a w next Q hst hk => by
  refine opIn_value (by simp) (w' := w.alloc (.cells cs.toArray t)) ?_ (hk w.heap.size _ trivial (hst.si.ext (Since.alloc _ _)) (hst.hp.box t cs hst.si.size))
  subst hc
  simp [execOp, ev_ok hst.fr hx, Instr.box, newVar, newRow, newObj, Sem.run]
theorem RX_boxa {x : Operand} {t : Nat} {cs : List Value} (hx : ev F x = some (.agg cs.toArray)) :
    RX P N c ⟨d, .box t x, ty, p, af, g⟩ F H (fun _ => True) (fun b => Ptr b 0) (fun b => .cells b t cs :: H) := RX_box hx rfl
theorem RX_box1 {x : Operand} {t : Nat} {v : Value} (hx : ev F x = some v) (hc : v.cells.toList = [v]) :
    RX P N c ⟨d, .box t x, ty, p, af, g⟩ F H (fun _ => True) (fun b => Ptr b 0) (fun b => .cells b t [v] :: H) := RX_box hx hc
theorem RX_alloc {t : Nat} {cs : List Value} [hz : TZero P t cs] :
    RX P N c ⟨d, .alloc t, ty, p, af, g⟩ F H (fun _ => True) (fun b => Ptr b 0) (fun b => .cells b t cs :: H) := fun D a w next Q hst hk => by
  refine opIn_value (by simp) (w' := w.alloc (.cells cs.toArray t)) ?_ (hk w.heap.size _ trivial (hst.si.ext (Since.alloc _ _)) (hst.hp.box t cs hst.si.size))
  obtain ⟨i, z, h1, h2, rfl⟩ := TZero.get hz.ok
  simp [execOp, Instr.alloc, zeroValue, typeInfo, h1, h2, newVar, newRow, newObj, Sem.run]

theorem VS_makeFunc {fn : Fn} {cap : List Operand} {vs : List Value} (hc : evs F cap = some vs) : VS P N c ⟨d, .makeFunc fn #[] cap.toArray, ty, p, af, g⟩ F H (.func fn #[] vs.toArray) :=
  VS_of_run (by simp) fun a w hf _ _ => by simp [execOp, Instr.makeFunc, evs_ok hf hc]
end ops
end Go.Bw
