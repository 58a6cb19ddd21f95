/- Words on numbers and loops of decompiled functions; no program is named. -/
import Derived.Test.YtmdpbdhkmfjlhaaSl
namespace Go.Bw
open Go

theorem w_i64 {x : Int} (h1 : -9223372036854775808 ≤ x) (h2 : x ≤ 9223372036854775807) : wr .i64 x = x := IntWalk.i64_in x ⟨h1, h2⟩
theorem w_u8 {x : Int} (h1 : 0 ≤ x) (h2 : x ≤ 255) : wr .u8 x = x := IntWalk.u8_in x ⟨h1, h2⟩
theorem w_u32 {x : Int} (h1 : 0 ≤ x) (h2 : x ≤ 4294967295) : wr .u32 x = x := IntWalk.u32_in x ⟨h1, h2⟩
theorem w_u64 {x : Int} (h1 : 0 ≤ x) (h2 : x ≤ 18446744073709551615) : wr .u64 x = x := IntWalk.u64_in x ⟨h1, h2⟩
theorem bv_toNat {k : IntKind} {a : Nat} (h : a < 2 ^ k.bits) : (BitVec.ofInt k.bits (a : Int)).toNat = a := by
  rw [BitVec.toNat_ofInt]
  have : ((a : Int) % ((2 ^ k.bits : Nat) : Int)) = ((a % 2 ^ k.bits : Nat) : Int) := (Int.natCast_emod _ _).symm
  rw [this, Nat.mod_eq_of_lt h]; rfl
theorem wr_nat {k : IntKind} {r : Nat} (h : r < 2 ^ IntKind.up k) : wr k (r : Int) = r := wrap_up h
theorem bits_le (k : IntKind) {r : Nat} (h : r < 2 ^ IntKind.up k) : r < 2 ^ k.bits := Nat.lt_of_lt_of_le h (Nat.pow_le_pow_right (by decide) (bits_up k))
theorem andI_nat {k : IntKind} {a b : Nat} (ha : a < 2 ^ IntKind.up k) (hb : b < 2 ^ IntKind.up k) : andI k a b = ((a &&& b : Nat) : Int) := by
  unfold andI
  rw [BitVec.toNat_and, bv_toNat (bits_le k ha), bv_toNat (bits_le k hb)]
  exact wr_nat (Nat.lt_of_le_of_lt Nat.and_le_left ha)
theorem andI_mod {k : IntKind} {a : Int} (m : Nat) {b : Int} (h0 : 0 ≤ a) (ha : a < ((2 ^ IntKind.up k : Nat) : Int)) (hb : b = ((2 ^ m - 1 : Nat) : Int)) (hm : 2 ^ m - 1 < 2 ^ IntKind.up k) : andI k a b = a % ((2 ^ m : Nat) : Int) := by
  obtain ⟨x, rfl⟩ := Int.eq_ofNat_of_zero_le h0
  subst hb
  rw [andI_nat (by exact_mod_cast ha) hm, Nat.and_two_pow_sub_one_eq_mod]
  exact Int.natCast_emod _ _
theorem shrI_div {k : IntKind} {a : Int} (m : Nat) {b : Int} (hb : b = (m : Int)) (hm : m ≤ k.bits) : shrI k a b = a / ((2 ^ m : Nat) : Int) := by
  subst hb
  unfold shrI
  rw [Int.toNat_natCast, Nat.min_eq_left hm, Int.fdiv_eq_ediv_of_nonneg _ (Int.pow_nonneg (by decide))]
  congr 1
theorem shlI_mul {k : IntKind} {a : Int} (m : Nat) {b : Int} (hb : b = (m : Int)) (hm : m ≤ k.bits) : shlI k a b = wr k (a * ((2 ^ m : Nat) : Int)) := by
  subst hb
  unfold shlI wr
  rw [Int.toNat_natCast, Nat.min_eq_left hm]
  congr 2
theorem tmod_pos {a b : Int} (h : 0 ≤ a) : Int.tmod a b = a % b := Int.tmod_eq_emod_of_nonneg h
theorem tdiv_pos {a b : Int} (h : 0 ≤ a) : Int.tdiv a b = a / b := Int.tdiv_eq_ediv_of_nonneg h
theorem inb_t {i : Int} {n : Nat} (h0 : 0 ≤ i) (h1 : i < (n : Int)) : inb i n = true := by simp [inb, h0, h1]
theorem apok_t {n m b : Nat} (h : (n + m) * b ≤ 140737488355328) (h2 : n + m ≤ 9223372036854775807) : apok n m b = true := by simp [apok, h, h2]
theorem upd_at {α : Type} (f : Nat → α) (i : Nat) (v : α) : upd f i v i = v := by simp [upd]
theorem upd_ne {α : Type} (f : Nat → α) {i j : Nat} (v : α) (h : j ≠ i) : upd f i v j = f j := by simp [upd, h]
theorem upd_ite {α : Type} (f : Nat → α) (i j : Nat) (v : α) : upd f i v j = if j = i then v else f j := rfl

section
variable {α ρ : Type}
theorem bd_some {m : Option α} {x : α} {f : α → Option ρ} (h : m = some x) : bd m f = f x := by subst h; rfl
theorem lt_eq (a : α) (f : α → Option ρ) : lt a f = f a := rfl
theorem gu_true {b : Bool} {k : Option ρ} (h : b = true) : gu b k = k := by subst h; rfl
theorem cn_true {b : Bool} {x y : Option ρ} (h : b = true) : cn b x y = x := by subst h; rfl
theorem cn_false {b : Bool} {x y : Option ρ} (h : b = false) : cn b x y = y := by subst h; rfl
theorem cl_true {g : Bool} {m : Option α} {z x : α} {f : α → Option ρ} (h : g = true) (hm : m = some x) : cl g m z f = f x := by subst h; subst hm; rfl
theorem cl_false {g : Bool} {m : Option α} {z : α} {f : α → Option ρ} (h : g = false) : cl g m z f = f z := by subst h; rfl
theorem cl_tt {m : Option α} {z x : α} {f : α → Option ρ} (hm : m = some x) : cl (true == true) m z f = f x := by subst hm; rfl
theorem cl_ff {m : Option α} {z x : α} {f : α → Option ρ} (hm : m = some x) : cl (false == false) m z f = f x := by subst hm; rfl
theorem cl_tf {m : Option α} {z : α} {f : α → Option ρ} : cl (true == false) m z f = f z := rfl
theorem cl_ft {m : Option α} {z : α} {f : α → Option ρ} : cl (false == true) m z f = f z := rfl
/-- a call under a guard, whatever the guard says -/
theorem cl_some {g : Bool} {m : Option α} {z x : α} {f : α → Option ρ} (hm : m = some x) : cl g m z f = f (bif g then x else z) := by subst hm; cases g <;> rfl
end
end Go.Bw
