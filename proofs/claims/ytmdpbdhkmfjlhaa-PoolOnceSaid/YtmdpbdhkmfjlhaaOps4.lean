/- Rules on bits, of numbers that are not below 0. No program is named. -/
import Derived.Test.YtmdpbdhkmfjlhaaOps3
namespace Go.Bw
open Go Go.RowKit
/-- the numbers of a kind, from 0 up, lie below this power -/
def IntKind.up (k : IntKind) : Nat := if k.signed then k.bits - 1 else k.bits
theorem wrap_up {k : IntKind} {r : Nat} (h : r < 2 ^ IntKind.up k) : k.wrap (r : Int) = r := by
  cases k <;> simp only [IntKind.up, IntKind.signed, IntKind.bits, if_true, Bool.false_eq_true, if_false] at h <;>
    simp [IntKind.wrap, IntKind.signed, IntKind.bits] at h ⊢ <;> omega
theorem up_u8 {a : Nat} (h : a < 256) : a < 2 ^ IntKind.up .u8 := h
theorem up_u16 {a : Nat} (h : a < 65536) : a < 2 ^ IntKind.up .u16 := h
theorem up_u32 {a : Nat} (h : a < 4294967296) : a < 2 ^ IntKind.up .u32 := h
theorem up_u64 {a : Nat} (h : a < 18446744073709551616) : a < 2 ^ IntKind.up .u64 := h
theorem up_i64 {a : Nat} (h : a < 9223372036854775808) : a < 2 ^ IntKind.up .i64 := h
theorem bits_up (k : IntKind) : IntKind.up k ≤ k.bits := by cases k <;> simp [IntKind.up, IntKind.signed, IntKind.bits]
theorem bv_up {k : IntKind} {r : Nat} (h : r < 2 ^ IntKind.up k) : (BitVec.ofInt k.bits (r : Int)).toNat = r := by
  have : r < 2 ^ k.bits := Nat.lt_of_lt_of_le h (Nat.pow_le_pow_right (by decide) (bits_up k))
  rw [BitVec.ofInt_natCast, BitVec.toNat_ofNat, Nat.mod_eq_of_lt this]
section
variable {P : Program} {N : Nat} {c : Cx} {F : Frm} {H : List Res} {d : Option Tmp} {ty : TypeId} {p : String} {af : Array Edge} {g : Option (Nat × Bool)} {x y : Operand} {k : IntKind} {T U : TypeId}
theorem VS_andn {a b : Nat} (hx : ev F x = some (.int k (a : Int))) (hy : ev F y = some (.int k (b : Int))) (ha : a < 2 ^ IntKind.up k) (hb : b < 2 ^ IntKind.up k) :
    VS P N c ⟨d, .binOp .and T x y U, ty, p, af, g⟩ F H (.int k ((a &&& b : Nat) : Int)) :=
  VS_bits hx hy rfl fun P w => by
    have h1 : (a &&& b) < 2 ^ IntKind.up k := Nat.lt_of_le_of_lt Nat.and_le_left ha
    show (pure (.int k (k.wrap ((BitVec.ofInt k.bits (a : Int) &&& BitVec.ofInt k.bits (b : Int)).toNat : Int))) : Sem Value).run P w = _
    rw [BitVec.toNat_and, bv_up ha, bv_up hb, wrap_up h1]; rfl
theorem VS_orn {a b : Nat} (hx : ev F x = some (.int k (a : Int))) (hy : ev F y = some (.int k (b : Int))) (ha : a < 2 ^ IntKind.up k) (hb : b < 2 ^ IntKind.up k) :
    VS P N c ⟨d, .binOp .or T x y U, ty, p, af, g⟩ F H (.int k ((a ||| b : Nat) : Int)) :=
  VS_bits hx hy rfl fun P w => by
    have h1 : (a ||| b) < 2 ^ IntKind.up k := Nat.or_lt_two_pow ha hb
    show (pure (.int k (k.wrap ((BitVec.ofInt k.bits (a : Int) ||| BitVec.ofInt k.bits (b : Int)).toNat : Int))) : Sem Value).run P w = _
    rw [BitVec.toNat_or, bv_up ha, bv_up hb, wrap_up h1]; rfl
theorem VS_xorn {a b : Nat} (hx : ev F x = some (.int k (a : Int))) (hy : ev F y = some (.int k (b : Int))) (ha : a < 2 ^ IntKind.up k) (hb : b < 2 ^ IntKind.up k) :
    VS P N c ⟨d, .binOp .xor T x y U, ty, p, af, g⟩ F H (.int k ((a ^^^ b : Nat) : Int)) :=
  VS_bits hx hy rfl fun P w => by
    have h1 : (a ^^^ b) < 2 ^ IntKind.up k := Nat.xor_lt_two_pow ha hb
    show (pure (.int k (k.wrap ((BitVec.ofInt k.bits (a : Int) ^^^ BitVec.ofInt k.bits (b : Int)).toNat : Int))) : Sem Value).run P w = _
    rw [BitVec.toNat_xor, bv_up ha, bv_up hb, wrap_up h1]; rfl
theorem VS_andnotn {a b : Nat} (hx : ev F x = some (.int k (a : Int))) (hy : ev F y = some (.int k (b : Int))) (ha : a < 2 ^ IntKind.up k) (hb : b < 2 ^ IntKind.up k) :
    VS P N c ⟨d, .binOp .andNot T x y U, ty, p, af, g⟩ F H (.int k ((a &&& (2 ^ k.bits - 1 - b) : Nat) : Int)) :=
  VS_bits hx hy rfl fun P w => by
    have h1 : (a &&& (2 ^ k.bits - 1 - b)) < 2 ^ IntKind.up k := Nat.lt_of_le_of_lt Nat.and_le_left ha
    show (pure (.int k (k.wrap ((BitVec.ofInt k.bits (a : Int) &&& ~~~BitVec.ofInt k.bits (b : Int)).toNat : Int))) : Sem Value).run P w = _
    rw [BitVec.toNat_and, BitVec.toNat_not, bv_up ha, bv_up hb, wrap_up h1]; rfl
theorem VS_mod2 {a b n : Nat} (hx : ev F x = some (.int k (a : Int))) (hy : ev F y = some (.int k (b : Int))) (ha : a < 2 ^ IntKind.up k) (hb : b < 2 ^ IntKind.up k) (hn : b = 2 ^ n - 1) :
    VS P N c ⟨d, .binOp .and T x y U, ty, p, af, g⟩ F H (.int k ((a % 2 ^ n : Nat) : Int)) := by
  have h := VS_andn (P := P) (N := N) (c := c) (H := H) (d := d) (ty := ty) (p := p) (af := af) (g := g) (T := T) (U := U) hx hy ha hb
  rwa [hn, Nat.and_two_pow_sub_one_eq_mod] at h
/-- shifts of numbers that are not below 0 -/
theorem VS_shln {k' : IntKind} {a : Nat} {n : Nat} (hx : ev F x = some (.int k (a : Int))) (hy : ev F y = some (.int k' (n : Int))) (hn : n ≤ k.bits) (h : a * 2 ^ n < 2 ^ IntKind.up k) :
    VS P N c ⟨d, .binOp .shl T x y U, ty, p, af, g⟩ F H (.int k ((a * 2 ^ n : Nat) : Int)) :=
  VS_shl hx hy (by omega) (by
    rw [show min (n : Int).toNat k.bits = n by rw [Int.toNat_natCast]; omega]
    have := wrap_up h
    rwa [Int.natCast_mul, Int.natCast_pow] at this ⊢)
theorem VS_shrn {k' : IntKind} {a : Nat} {n : Nat} (hx : ev F x = some (.int k (a : Int))) (hy : ev F y = some (.int k' (n : Int))) (hn : n ≤ k.bits) :
    VS P N c ⟨d, .binOp .shr T x y U, ty, p, af, g⟩ F H (.int k ((a / 2 ^ n : Nat) : Int)) :=
  VS_shr hx hy (by omega) (by
    rw [show min (n : Int).toNat k.bits = n by rw [Int.toNat_natCast]; omega, Int.fdiv_eq_ediv_of_nonneg _ (Int.le_of_lt (Int.pow_pos (by decide)))]
    rw [Int.natCast_ediv, Int.natCast_pow]; rfl)
/-- an element of an array that is a value -/
theorem VS_indexa {x y : Operand} {T len e sz q m : Nat} {i : Int} {k : IntKind} {cs us : List Value} [hT : TArr P T len e sz] [hA : TAgg P e q] (hx : ev F x = some (.agg cs.toArray)) (hy : ev F y = some (.int k i)) (hi : i = (m : Int)) (hm : m < len)
    (hv : (cs.drop (m * sz)).take sz = us) : VS P N c ⟨d, .index T x y, ty, p, af, g⟩ F H (.agg us.toArray) :=
  VS_of_run (by simp) fun a w hf _ _ => by
    obtain ⟨inf, h1, h2, h3⟩ := TArr.get hT.ok
    subst hi
    have hs : (sizeOf e).run P w = .ok sz w := by simp [sizeOf, typeInfo, h2, h3]
    have hag : (isAgg e).run P w = .ok true w := run_isAgg_true w
    have he : cs.toArray.extract (m * sz) (m * sz + sz) = us.toArray := by
      apply Array.ext'
      rw [← hv]
      simp [List.extract_eq_take_drop, Nat.add_sub_cancel_left]
    have hp : (part e cs.toArray (m * sz)).run P w = .ok (.agg us.toArray) w := by
      unfold part
      rw [Sem.run_bind, hag]
      simp only [Result.andThen_ok, if_true, Sem.run_bind, hs, Sem.run_pure, he]
    simp [execOp, ev_ok hf hx, ev_ok hf hy, Instr.index, asIntOf, run_underlying h1, hm, hs, hp]
theorem VS_index1 {x y : Operand} {T len e sz m : Nat} {i : Int} {k : IntKind} {cs : List Value} {u : Value} [hT : TArr P T len e sz] [hA : TOne P e] (hx : ev F x = some (.agg cs.toArray)) (hy : ev F y = some (.int k i)) (hi : i = (m : Int)) (hm : m < len)
    (hv : cs[m * sz]? = some u) : VS P N c ⟨d, .index T x y, ty, p, af, g⟩ F H u :=
  VS_of_run (by simp) fun a w hf _ _ => by
    obtain ⟨inf, h1, h2, h3⟩ := TArr.get hT.ok
    subst hi
    have hs : (sizeOf e).run P w = .ok sz w := by simp [sizeOf, typeInfo, h2, h3]
    have hag : (isAgg e).run P w = .ok false w := run_isAgg_false w
    have hp : (part e cs.toArray (m * sz)).run P w = .ok u w := by simp [part, hag, hv]
    simp [execOp, ev_ok hf hx, ev_ok hf hy, Instr.index, asIntOf, run_underlying h1, hm, hs, hp]
theorem VS_minn {a b : Nat} {ats : Array TypeId} (hx : ev F x = some (.int k (a : Int))) (hy : ev F y = some (.int k (b : Int))) : VS P N c ⟨d, .call ⟨.builtin .min, #[x, y], ats⟩, ty, p, af, g⟩ F H (.int k ((min a b : Nat) : Int)) := by
  have h := VS_min (P := P) (N := N) (c := c) (H := H) (d := d) (ty := ty) (p := p) (af := af) (g := g) (ats := ats) hx hy
  rwa [show (if (b : Int) < (a : Int) then (b : Int) else (a : Int)) = ((min a b : Nat) : Int) by split <;> omega] at h
theorem VS_maxn {a b : Nat} {ats : Array TypeId} (hx : ev F x = some (.int k (a : Int))) (hy : ev F y = some (.int k (b : Int))) : VS P N c ⟨d, .call ⟨.builtin .max, #[x, y], ats⟩, ty, p, af, g⟩ F H (.int k ((max a b : Nat) : Int)) := by
  have h := VS_max (P := P) (N := N) (c := c) (H := H) (d := d) (ty := ty) (p := p) (af := af) (g := g) (ats := ats) hx hy
  rwa [show (if (a : Int) < (b : Int) then (b : Int) else (a : Int)) = ((max a b : Nat) : Int) by split <;> omega] at h
end
end Go.Bw
