/- PoolPlays, as a plain law. -/
import Derived.Test.YtmdpbdhkmfjlhaaL02
namespace Go.Proofs.Ytmdpbdhkmfjlhaa
open Go Go.Bw

theorem maskloop {n : Nat} (hn : 110 ≤ n) (w : Nat → Bool) {ρ : Type} (F : Int → Option ρ) : ∃ m : Nat, m < 2 ^ 64 ∧ (∀ p : Nat, p < 64 → m.testBit p = w p) ∧
    loop2 (fun k113 (x109 : Int) (x110 : Int) =>
  cn (decide (x110 < 64)) (
  gu (inb x110 64) <|
  cn ((w (Int.toNat x110))) (
  gu (decide (0 ≤ x110)) <|
  k113 (orI .u64 x109 (shlI .u64 1 x110)) (wr .i64 (x110 + 1))) (
  k113 x109 (wr .i64 (x110 + 1)))) (F x109)) n 0 0 = F (m : Int) := by
  refine loop2_ind (fun (x i : Int) => 0 ≤ i ∧ i ≤ 64 ∧ ∃ m : Nat, x = m ∧ m < 2 ^ 64 ∧ ∀ p : Nat, m.testBit p = (decide ((p : Int) < i) && w p)) (fun _ i => (64 - i).toNat)
    (fun o => ∃ m : Nat, m < 2 ^ 64 ∧ (∀ p : Nat, p < 64 → m.testBit p = w p) ∧ o = F (m : Int)) ?_ n 0 0 ⟨by omega, by omega, 0, rfl, by decide, fun p => by rw [Nat.zero_testBit, decide_eq_false (by omega)]; rfl⟩ (by omega)
  rintro kk x i ⟨i0, i1, m, rfl, hm, hb⟩ ih
  by_cases c : i < 64
  · rw [cn_true (by simpa using c), gu_true (inb_t i0 (by omega)), w_i64 (x := i + 1) (by omega) (by omega)]
    cases hw : w i.toNat with
    | false =>
      rw [cn_false rfl]
      refine ih _ _ ⟨by omega, by omega, m, rfl, hm, fun p => ?_⟩ (by omega)
      rw [hb p]
      by_cases e : p = i.toNat
      · subst e; rw [hw]; simp
      · congr 1
        rw [decide_eq_decide]; omega
    | true =>
      obtain ⟨j, rfl⟩ := Int.eq_ofNat_of_zero_le i0
      have h2 : (2 : Nat) ^ j < 2 ^ 64 := Nat.pow_lt_pow_right (by decide) (by omega)
      have hs : shlI .u64 1 (j : Int) = ((2 ^ j : Nat) : Int) := by
        rw [shlI_mul j rfl (by show j ≤ 64; omega), Int.one_mul]; exact wr_nat h2
      rw [cn_true rfl, gu_true (by simp), hs, orI_nat (k := .u64) hm h2]
      refine ih _ _ ⟨by omega, by omega, m ||| 2 ^ j, rfl, Nat.or_lt_two_pow hm h2, fun p => ?_⟩ (by omega)
      rw [Nat.testBit_or, hb p, Nat.testBit_two_pow]
      simp only [Int.toNat_natCast] at hw
      by_cases e : j = p
      · subst e; rw [hw]; simp; omega
      · rw [decide_eq_false e, Bool.or_false]
        congr 1
        rw [decide_eq_decide]; omega
  · rw [cn_false (by simpa using c)]
    obtain rfl : i = 64 := by omega
    exact ⟨m, hm, fun p hp => by rw [hb p, decide_eq_true (by omega)]; rfl, rfl⟩
theorem mask2 {n : Nat} (hn : 110 ≤ n) {r : runs_Runs} {w : Nat → Bool} (h : RS r w) {m : Nat} (hm : m < 2 ^ 64) (hb : ∀ p : Nat, p < 64 → m.testBit p = w p) : runs_Runs_Mask n r = some (m : Int) := by
  obtain ⟨k, k1, k2⟩ := mask_eq (n := n) hn h.can
  rw [k1]
  have hk := mask_lt h.can k2
  have : k = m := Nat.eq_of_testBit_eq fun p => by
    by_cases c : p < 64
    · rw [hb p c, Bool.eq_iff_iff, k2 p]; exact (h.mem p c).symm
    · rw [Nat.testBit_lt_two_pow (Nat.lt_of_lt_of_le hk (Nat.pow_le_pow_right (by decide) (by omega))), Nat.testBit_lt_two_pow (Nat.lt_of_lt_of_le hm (Nat.pow_le_pow_right (by decide) (by omega)))]
  rw [this]
theorem plays2_true {k : Int} (hk0 : -9223372036854775808 ≤ k ∧ k ≤ 9223372036854775807) {l : List law02_Act} (hl : ∀ a ∈ l, (0 ≤ a.Do ∧ a.Do ≤ 255) ∧ (-9223372036854775808 ≤ a.N ∧ a.N ≤ 9223372036854775807) ∧ (0 ≤ a.B ∧ a.B ≤ 255)) : law02_PoolPlays 1000 k l = some true := by
  have _ := hk0
  unfold law02_PoolPlays
  by_cases hc : 200 < (l.length : Int)
  · rw [cn_true (by simpa using hc), bd_some wakes02]
  rw [cn_false (by simpa using hc)]
  by_cases hk : 1 ≤ k ∧ k ≤ 64
  · obtain ⟨p0, w0, e1, e2, r0⟩ := new2 (n := 1000) (by omega) hk
    rw [bd_some e1, oc_some rfl, cn_false (by simp; omega), cn_false (by rfl), bd_some e2]
    refine loop3_ind (fun (i : Int) (w : ref02_Pool) (p : pool_Pool) => 0 ≤ i ∧ i ≤ l.length ∧ RP2 p w k) (fun i _ _ => ((l.length : Int) - i).toNat) (fun o => o = some true) ?_ 1000 0 _ _ ⟨by omega, by omega, r0⟩ (by omega)
    rintro kk i w p ⟨i0, i1, r⟩ ih
    by_cases hx : i < l.length
    · rw [cn_true (by simpa using hx), gu_true (inb_t i0 (by omega)), lt_eq, lt_eq]
      have hm : l.getD i.toNat default ∈ l := by
        rw [List.getD, List.getElem?_eq_getElem (show i.toNat < l.length by omega)]; exact List.getElem_mem _
      obtain ⟨_, a1, _⟩ := hl _ hm
      generalize l.getD i.toNat default = a at *
      have hN : I64 a.N := a1
      -- behind each act
      have rest : ∀ (e a b : Int) (w' : ref02_Pool) (p' : pool_Pool), a = b → RP2 p' w' k →
          (cn (((e != e) || (a != b))) (some false) (
  loop2 (fun k113 (x109 : Int) (x110 : Int) =>
  cn (decide (x110 < 64)) (
  gu (inb x110 64) <|
  cn ((w'.Free (Int.toNat x110))) (
  gu (decide (0 ≤ x110)) <|
  k113 (orI .u64 x109 (shlI .u64 1 x110)) (wr .i64 (x110 + 1))) (
  k113 x109 (wr .i64 (x110 + 1)))) (
  bd (pool_Pool_Free 1000 p') fun x116 =>
  bd (runs_Runs_Mask 1000 x116) fun x124 =>
  cl ((x124 != x109) == false) (pool_Pool_Pages 1000 p') default fun x125 =>
  cn (((x124 != x109) || (x125 != k))) (
  some false) (
  kk (wr .i64 (i + 1)) w' p'))) 1000 0 0)) = some true := by
        rintro e a _ w' p' rfl r'
        rw [cn_false (by simp)]
        obtain ⟨m, m1, m2, m3⟩ := maskloop (n := 1000) (by omega) w'.Free (fun x109 => bd (pool_Pool_Free 1000 p') fun x116 =>
  bd (runs_Runs_Mask 1000 x116) fun x124 =>
  cl ((x124 != x109) == false) (pool_Pool_Pages 1000 p') default fun x125 =>
  cn (((x124 != x109) || (x125 != k))) (
  some false) (
  kk (wr .i64 (i + 1)) w' p'))
        refine m3.trans ?_
        have hp : pool_Pool_Pages 1000 p' = some k := by unfold pool_Pool_Pages; rw [r'.n]
        have hf : pool_Pool_Free 1000 p' = some p'.free := rfl
        rw [bd_some hf, bd_some (mask2 (by omega) r'.fr m1 m2)]
        refine (cl_true (by simp) hp).trans ?_
        rw [cn_false (by simp), w_i64 (x := i + 1) (by omega) (by omega)]
        exact ih _ _ _ ⟨by omega, by omega, r'⟩ (by omega)
      by_cases d0 : a.Do = 0
      · obtain ⟨p', w', v, e, c1, c2, c3⟩ := claim2 (n := 1000) (by omega) r hN
        rw [cn_true (by simpa using d0), bd_some c1, bd_some c2]
        exact rest _ _ _ _ _ rfl c3
      rw [cn_false (by simpa using d0)]
      by_cases d1 : a.Do = 1
      · obtain ⟨p', w', e, c1, c2, c3⟩ := clear2 (n := 1000) (by omega) r hN
        rw [cn_true (by simpa using d1), bd_some c1, bd_some c2]
        exact rest _ _ _ _ _ rfl c3
      rw [cn_false (by simpa using d1)]
      by_cases d2 : a.Do = 2
      · obtain ⟨p', w', e, c1, c2, c3⟩ := back2 (n := 1000) (by omega) r hN
        rw [cn_true (by simpa using d2), bd_some c1, bd_some c2]
        exact rest _ _ _ _ _ rfl c3
      rw [cn_false (by simpa using d2)]
      by_cases d3 : a.Do = 3
      · rw [cn_true (by simpa using d3), bd_some (read2 (by omega) r hN), bd_some (refat2 r hN)]
        by_cases h0 : atV w k a.N = 0
        · have := atV_ran r.kr.2 h0
          rw [cn_true (by simpa using h0), gu_true (inb_t (by omega) (by omega))]
          dsimp only
          rw [if_pos h0]
          exact rest _ _ _ _ _ rfl r
        · rw [cn_false (by simpa using h0)]
          dsimp only
          rw [if_neg h0]
          exact rest _ _ _ _ _ rfl r
      rw [cn_false (by simpa using d3)]
      obtain ⟨p', c1, c2⟩ := write2 (n := 1000) (by omega) r (b := a.B) hN
      rw [bd_some c1, bd_some (refat2 r hN)]
      by_cases h0 : atV w k a.N = 0
      · have := atV_ran r.kr.2 h0
        rw [cn_true (by simpa using h0), gu_true (inb_t (by omega) (by omega)), lt_eq]
        rw [if_pos h0] at c2
        exact rest _ _ _ _ _ rfl c2
      · rw [cn_false (by simpa using h0)]
        rw [if_neg h0] at c2
        exact rest _ _ _ _ _ rfl c2
    · rw [cn_false (by simpa using hx), bd_some wakes02]
  · rw [bd_some (new2_not hk), oc_none rfl, cn_true (by simp; omega)]
    exact (cl_true (by rfl) wakes02).trans rfl
end Go.Proofs.Ytmdpbdhkmfjlhaa
