/- Counts, masks, the document's runs, and the statement RunsPlay. -/
import Derived.Test.YtmdpbdhkmfjlhaaL01b
namespace Go.Proofs.Ytmdpbdhkmfjlhaa
open Go Go.Bw

theorem orI_nat {k : IntKind} {a b : Nat} (ha : a < 2 ^ IntKind.up k) (hb : b < 2 ^ IntKind.up k) : orI k a b = ((a ||| b : Nat) : Int) := by
  unfold orI
  rw [BitVec.toNat_or, bv_toNat (bits_le k ha), bv_toNat (bits_le k hb)]
  exact wr_nat (Nat.or_lt_two_pow ha hb)
/-- how much of the runs lies below a page -/
def ov (y : Rn) (i : Int) : Int := if i ≤ y.At then 0 else if y.At + y.N ≤ i then y.N else i - y.At
def sumov (l : List Rn) (i : Int) : Int := (l.map fun y => ov y i).sum
theorem sumov_nil (i : Int) : sumov [] i = 0 := rfl
theorem sumov_cons (y : Rn) (l : List Rn) (i : Int) : sumov (y :: l) i = ov y i + sumov l i := rfl
theorem sumov_zero : ∀ {l : List Rn}, Can l → sumov l 0 = 0
  | [], _ => rfl
  | y :: r, h => by
    have hy := h.ran y (by simp)
    rw [sumov_cons, sumov_zero ⟨fun z hz => h.ran z (by simp [hz]), (List.pairwise_cons.1 h.pw).2⟩]
    unfold ov; rw [if_pos hy.1]; rfl
theorem sumov_step : ∀ {l : List Rn}, Can l → ∀ i : Int, (memI l i → sumov l (i + 1) = sumov l i + 1) ∧ (¬ memI l i → sumov l (i + 1) = sumov l i)
  | [], _, i => ⟨fun h => absurd h (memI_nil i), fun _ => rfl⟩
  | y :: r, h, i => by
    obtain ⟨h1, h2⟩ := List.pairwise_cons.1 h.pw
    have hy := h.ran y (by simp)
    obtain ⟨i1, i2⟩ := sumov_step (l := r) ⟨fun z hz => h.ran z (by simp [hz]), h2⟩ i
    rw [sumov_cons, sumov_cons, memI_cons]
    by_cases c : y.At ≤ i ∧ i < y.At + y.N
    · have hn : ¬ memI r i := fun ⟨z, hz, a, b⟩ => by have := h1 z hz; omega
      rw [i2 hn]
      refine ⟨fun _ => ?_, fun hh => absurd (.inl c) hh⟩
      unfold ov
      rw [if_neg (by omega)]
      split <;> split <;> omega
    · have e : ov y (i + 1) = ov y i := by
        unfold ov
        (repeat' split) <;> omega
      rw [e]
      refine ⟨fun hh => ?_, fun hh => ?_⟩
      · rw [i1 (hh.resolve_left c)]; omega
      · rw [i2 fun hm => hh (.inr hm)]
def sumN (l : List Rn) : Int := (l.map fun y => y.N).sum
theorem sumN_cons (y : Rn) (l : List Rn) : sumN (y :: l) = y.N + sumN l := rfl
theorem sumov_all : ∀ {l : List Rn}, Can l → sumov l 64 = sumN l
  | [], _ => rfl
  | y :: r, h => by
    have hy := h.ran y (by simp)
    rw [sumov_cons, sumN_cons, sumov_all ⟨fun z hz => h.ran z (by simp [hz]), (List.pairwise_cons.1 h.pw).2⟩]
    unfold ov; rw [if_neg (by omega), if_pos hy.2.2]
theorem sumN_ran : ∀ {l : List Rn} {lo : Int}, Can l → (∀ y ∈ l, lo ≤ y.At) → lo ≤ 65 → 0 ≤ sumN l ∧ sumN l ≤ 65 - lo
  | [], lo, _, _, h => by simp [sumN]; omega
  | y :: r, lo, h, hl, _ => by
    obtain ⟨h1, h2⟩ := List.pairwise_cons.1 h.pw
    have hy := h.ran y (by simp)
    have hy' := hl y (by simp)
    have := sumN_ran (l := r) (lo := y.At + y.N + 1) ⟨fun z hz => h.ran z (by simp [hz]), h2⟩ (fun z hz => by have := h1 z hz; omega) (by omega)
    rw [sumN_cons]; omega
theorem count_it {n : Nat} : ∀ (xs : List (Int × Rn)) (s : Int), 0 ≤ s → s ≤ 1000000 - sumN (xs.map Prod.snd) → (∀ e ∈ xs, 1 ≤ e.2.N) →
    itr1 (fun (e35 : Int × runs_Run) k29 (x28 : Int) =>
      lt (e35.1 : Int) fun x33 =>
      lt (e35.2 : runs_Run) fun x34 =>
      lt (wr .i64 (x28 + x34.N) : Int) fun x36 =>
      k29 x36) (fun (x28 : Int) =>
      some x28) xs s = some (s + sumN (xs.map Prod.snd))
  | [], s, _, _, _ => by show some s = _; simp [sumN]
  | e :: xs, s, h0, h1, h2 => by
    have := h2 e (by simp)
    have hs : 0 ≤ sumN (xs.map Prod.snd) := by
      clear h1 h0
      have h3 : ∀ e ∈ xs, 1 ≤ e.2.N := fun e he => h2 e (by simp [he])
      clear h2 this
      induction xs with
      | nil => simp [sumN]
      | cons a xs ih => have := h3 a (by simp); have := ih fun e he => h3 e (by simp [he]); rw [List.map_cons, sumN_cons]; omega
    rw [List.map_cons, sumN_cons] at h1 ⊢
    show itr1 _ _ xs (wr .i64 (s + e.2.N)) = _
    rw [w_i64 (by omega) (by omega), count_it (n := n) xs (s + e.2.N) (by omega) (by omega) (fun e he => h2 e (by simp [he]))]
    congr 1; omega
theorem count_eq {n : Nat} (hn : 110 ≤ n) {r : runs_Runs} (hr : Can r.l) : runs_Runs_Count n r = some (sumN r.l) := by
  unfold runs_Runs_Count
  rw [bd_some (each_eq n r)]
  obtain ⟨xs, h1, h2⟩ := all_eq (n := n) (l := r.l) (by have := hr.len; omega) hn
  have hs := sumN_ran (lo := 0) hr (fun y hy => (hr.ran y hy).1) (by omega)
  rw [bd_some h1]
  refine (count_it (n := n) xs 0 (by omega) (by rw [h2]; omega) fun e he => (hr.ran e.2 (by rw [← h2]; exact List.mem_map_of_mem he)).2.1).trans ?_
  rw [h2]; congr 1; omega
/-- the pages of a run as bits -/
theorem bits_eq {n : Nat} {y : Rn} (hy : 0 ≤ y.At ∧ 1 ≤ y.N ∧ y.At + y.N ≤ 64) : ∃ b : Nat, shlI .u64 (shrI .u64 18446744073709551615 (wr .i64 (64 - y.N))) y.At = (b : Int) ∧ b < 2 ^ 64 ∧ ∀ p : Nat, b.testBit p = decide (y.At ≤ (p : Int) ∧ (p : Int) < y.At + y.N) := by
  obtain ⟨a, N⟩ := y
  obtain ⟨a, rfl⟩ := Int.eq_ofNat_of_zero_le hy.1
  obtain ⟨m, rfl⟩ := Int.eq_ofNat_of_zero_le (show 0 ≤ N by have := hy.2.1; dsimp only at this; omega)
  dsimp only at hy ⊢
  have hm : m ≤ 64 := by omega
  rw [w_i64 (by omega) (by omega), shrI_div (k := .u64) (64 - m) (by omega) (show 64 - m ≤ 64 by omega)]
  have e1 : (18446744073709551615 : Int) / ((2 ^ (64 - m) : Nat) : Int) = ((2 ^ m - 1 : Nat) : Int) := by
    have h1 : (18446744073709551615 : Nat) / 2 ^ (64 - m) = 2 ^ m - 1 := by
      have h2 : 2 ^ m * 2 ^ (64 - m) = 18446744073709551616 := by rw [← Nat.pow_add, show m + (64 - m) = 64 by omega]
      have h3 : 0 < 2 ^ m := Nat.pow_pos (by decide)
      have h4 : 0 < 2 ^ (64 - m) := Nat.pow_pos (by decide)
      refine Nat.div_eq_of_lt_le ?_ ?_
      · rw [Nat.sub_mul, h2]; omega
      · rw [Nat.sub_add_cancel h3, h2]; omega
    rw [show (18446744073709551615 : Int) = ((18446744073709551615 : Nat) : Int) from rfl, ← Int.natCast_ediv, h1]
  rw [e1, shlI_mul (k := .u64) a rfl (show a ≤ 64 by omega)]
  have hlt : (2 ^ m - 1) * 2 ^ a < 2 ^ 64 := by
    have h2 : 2 ^ m * 2 ^ a ≤ 2 ^ 64 := by rw [← Nat.pow_add]; exact Nat.pow_le_pow_right (by decide) (by omega)
    have h3 : 0 < 2 ^ m := Nat.pow_pos (by decide)
    have h4 : 0 < 2 ^ a := Nat.pow_pos (by decide)
    rw [Nat.sub_mul]; omega
  refine ⟨(2 ^ m - 1) * 2 ^ a, ?_, hlt, fun p => ?_⟩
  · rw [← Int.natCast_mul]
    exact wr_nat (k := .u64) hlt
  · rw [Nat.testBit_mul_two_pow, Nat.testBit_two_pow_sub_one]
    by_cases c : a ≤ p
    · simp [c] <;> omega
    · simp [c] <;> omega
theorem mask_it {n : Nat} : ∀ (xs : List (Int × Rn)) (s : Nat), s < 2 ^ 64 → (∀ e ∈ xs, 0 ≤ e.2.At ∧ 1 ≤ e.2.N ∧ e.2.At + e.2.N ≤ 64) →
    ∃ m : Nat, itr1 (fun (e35 : Int × runs_Run) k29 (x28 : Int) =>
      lt (e35.1 : Int) fun x33 =>
      lt (e35.2 : runs_Run) fun x34 =>
      gu (decide (0 ≤ (wr .i64 (64 - x34.N)))) <|
      gu (decide (0 ≤ x34.At)) <|
      lt (orI .u64 x28 (shlI .u64 (shrI .u64 18446744073709551615 (wr .i64 (64 - x34.N))) x34.At) : Int) fun x38 =>
      k29 x38) (fun (x28 : Int) =>
      some x28) xs (s : Int) = some (m : Int) ∧ ∀ p : Nat, m.testBit p = true ↔ (s.testBit p = true ∨ memI (xs.map Prod.snd) p)
  | [], s, _, _ => ⟨s, rfl, fun p => by simp [memI]⟩
  | e :: xs, s, h0, h2 => by
    have he := h2 e (by simp)
    obtain ⟨b, b1, b2, b3⟩ := bits_eq (n := n) he
    obtain ⟨m, m1, m2⟩ := mask_it (n := n) xs (s ||| b) (Nat.or_lt_two_pow h0 b2) fun e he => h2 e (by simp [he])
    refine ⟨m, ?_, fun p => ?_⟩
    · simp only [itr1, lt]
      rw [b1, orI_nat (k := .u64) h0 b2, gu_true (by rw [w_i64 (by omega) (by omega)]; simp; omega), gu_true (by simp; omega)]
      exact m1
    · rw [m2, Nat.testBit_or, b3, List.map_cons, memI_cons]
      simp only [Bool.or_eq_true, decide_eq_true_eq]
      rw [or_assoc]
theorem mask_eq {n : Nat} (hn : 110 ≤ n) {r : runs_Runs} (hr : Can r.l) : ∃ m : Nat, runs_Runs_Mask n r = some (m : Int) ∧ ∀ p : Nat, m.testBit p = true ↔ memI r.l p := by
  unfold runs_Runs_Mask
  rw [bd_some (each_eq n r)]
  obtain ⟨xs, h1, h2⟩ := all_eq (n := n) (l := r.l) (by have := hr.len; omega) hn
  rw [bd_some h1]
  obtain ⟨m, m1, m2⟩ := mask_it (n := n) xs 0 (by decide) fun e he => hr.ran e.2 (by rw [← h2]; exact List.mem_map_of_mem he)
  refine ⟨m, m1, fun p => ?_⟩
  rw [m2, h2]; simp
theorem allr_eq {n : Nat} {r : runs_Runs} (hr : Can r.l) : runs_Runs_All n r = some r.l := by
  have := hr.len
  unfold runs_Runs_All slices_Clone_9402
  rw [gu_true (apok_t (by simp; omega) (by simp; omega)), lt_eq, List.nil_append]
  rfl

/-! the document's runs -/
def toR (a : Nat → Int) : Rn := ⟨a 0, a 1⟩
theorem last_of {l : List Rn} (hl : Can l) {i : Int} (hi : ∀ p, memI l p → p < i) (hm : memI l (i - 1)) : ∃ l0 y, l = l0 ++ [y] ∧ y.At + y.N = i := by
  obtain ⟨y, hy, h1, h2⟩ := hm
  have hyr := hl.ran y hy
  have he : y.At + y.N = i := by have := hi (y.At + y.N - 1) ⟨y, hy, by omega, by omega⟩; omega
  have hne : l ≠ [] := fun e => by rw [e] at hy; simp at hy
  refine ⟨l.dropLast, l.getLast hne, (List.dropLast_concat_getLast hne).symm, ?_⟩
  have hz : l.getLast hne ∈ l := List.getLast_mem hne
  have hzr := hl.ran _ hz
  rcases hl.two hy hz with e | e | e
  · rw [← e]; exact he
  · have := hi (l.getLast hne).At ⟨_, hz, by omega, by omega⟩; omega
  · have hy' : y ∈ l.dropLast ++ [l.getLast hne] := by rw [List.dropLast_concat_getLast]; exact hy
    rcases List.mem_append.1 hy' with h | h
    · have hpw := hl.pw
      rw [← List.dropLast_concat_getLast hne] at hpw
      have := (List.pairwise_append.1 hpw).2.2 y h (l.getLast hne) (by simp)
      omega
    · rw [← List.mem_singleton.1 h]; exact he
/-! a set of the program has what the document's has -/
structure RS (r : runs_Runs) (w : Nat → Bool) : Prop where
  can : Can r.l
  mem : ∀ p : Nat, p < 64 → (w p = true ↔ memI r.l p)
theorem RS.all {r : runs_Runs} {w : Nat → Bool} (h : RS r w) (p : Int) : memI r.l p ↔ 0 ≤ p ∧ p < 64 ∧ w p.toNat = true := by
  constructor
  · intro hm
    obtain ⟨a, b⟩ := memI_ran h.can hm
    exact ⟨a, b, (h.mem p.toNat (by omega)).2 (by rw [Int.toNat_of_nonneg a]; exact hm)⟩
  · rintro ⟨a, b, d⟩
    have := (h.mem p.toNat (by omega)).1 d
    rwa [Int.toNat_of_nonneg a] at this
theorem RS.take {r r' : runs_Runs} {w w' : Nat → Bool} {a k : Int} (h : RS r w) (hc : Can r'.l) (hm : ∀ p, memI r'.l p ↔ memI r.l p ∧ ¬ (a ≤ p ∧ p < a + k)) (hw : ∀ p : Nat, w' p = if a ≤ (p : Int) ∧ (p : Int) < a + k then false else w p) : RS r' w' :=
  ⟨hc, fun p hp => by
    rw [hw p, hm]
    by_cases c : a ≤ (p : Int) ∧ (p : Int) < a + k
    · rw [if_pos c]; simp [c]
    · rw [if_neg c, h.mem p hp]; exact ⟨fun x => ⟨x, c⟩, fun x => x.1⟩⟩
theorem RS.give {r r' : runs_Runs} {w w' : Nat → Bool} {a k : Int} (h : RS r w) (hc : Can r'.l) (hm : ∀ p, memI r'.l p ↔ memI r.l p ∨ (a ≤ p ∧ p < a + k)) (hw : ∀ p : Nat, w' p = if a ≤ (p : Int) ∧ (p : Int) < a + k then true else w p) : RS r' w' :=
  ⟨hc, fun p hp => by
    rw [hw p, hm]
    by_cases c : a ≤ (p : Int) ∧ (p : Int) < a + k
    · rw [if_pos c]; simp [c]
    · rw [if_neg c, h.mem p hp]; exact ⟨fun x => .inl x, fun x => x.resolve_right c⟩⟩
theorem RS.inL {r : runs_Runs} {w : Nat → Bool} (h : RS r w) {a k : Int} : inL r.l a k ↔ okR a k ∧ allI w a k true := by
  unfold _root_.Go.Proofs.Ytmdpbdhkmfjlhaa.inL allI
  constructor
  · rintro ⟨o, hh⟩; exact ⟨o, fun p h1 h2 => ((h.all p).1 (hh p h1 h2)).2.2⟩
  · rintro ⟨o, hh⟩
    refine ⟨o, fun p h1 h2 => (h.all p).2 ?_⟩
    unfold okR at o
    exact ⟨by omega, by omega, hh p h1 h2⟩
theorem RS.outL {r : runs_Runs} {w : Nat → Bool} (h : RS r w) {a k : Int} : (okR a k ∧ ∀ p, a ≤ p → p < a + k → ¬ memI r.l p) ↔ okR a k ∧ allI w a k false := by
  unfold allI
  constructor
  · rintro ⟨o, hh⟩
    refine ⟨o, fun p h1 h2 => ?_⟩
    have := hh p h1 h2
    rw [h.all p] at this
    unfold okR at o
    cases hw : w p.toNat with
    | false => rfl
    | true => exact absurd ⟨by omega, by omega, hw⟩ this
  · rintro ⟨o, hh⟩
    refine ⟨o, fun p h1 h2 hm => ?_⟩
    have := ((h.all p).1 hm).2.2
    rw [hh p h1 h2] at this
    cases this
theorem find_ref {n : Nat} (hn : 110 ≤ n) {r : runs_Runs} {w : Nat → Bool} (h : RS r w) {k : Int} (hk : I64 k) : ∃ v, ref01_Set_Find n w k = some v ∧ findR k r.l = (if 0 ≤ v then (v, true) else (0, false)) := by
  obtain ⟨v, h1, h2⟩ := reffind_eq (n := n) (by omega) w hk
  refine ⟨v, h1, ?_⟩
  rcases findR_t (k := k) h.can with ⟨f1, f2⟩ | ⟨u, f1, f2, f3, f4⟩
  · rcases h2 with ⟨rfl, _⟩ | ⟨c1, c2, c3, _⟩
    · rw [f1, if_neg (by omega)]
    · exact absurd (h.inL.2 ⟨c2, c3⟩) (f2 v)
  · rcases h2 with ⟨rfl, c⟩ | ⟨c1, c2, c3, c4⟩
    · exact absurd (h.inL.1 f3) (c u)
    · rw [f1, if_pos c1]
      have : u = v := by
        rcases Int.lt_trichotomy u v with c | c | c
        · exact absurd (h.inL.1 f3) (c4 u f2 c)
        · exact c
        · exact absurd (h.inL.2 ⟨c2, c3⟩) (f4 v c)
      rw [this]
end Go.Proofs.Ytmdpbdhkmfjlhaa
