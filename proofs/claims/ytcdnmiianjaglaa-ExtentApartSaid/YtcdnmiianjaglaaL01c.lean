/- Counts, masks, the document's runs, and the statement RunsPlay. -/
import Derived.Test.YtcdnmiianjaglaaL01b
namespace Go.Proofs.Ytcdnmiianjaglaa
open Go Go.Bw

theorem orI_nat {k : IntKind} {a b : Nat} (ha : a < 2 ^ IntKind.up k) (hb : b < 2 ^ IntKind.up k) : orI k a b = ((a ||| b : Nat) : Int) := by
  unfold orI
  rw [BitVec.toNat_or, bv_toNat (bits_le k ha), bv_toNat (bits_le k hb)]
  exact wr_nat (Nat.or_lt_two_pow ha hb)
/-- how much of the runs lies below a page -/
def ov (y : Rn) (i : Int) : Int := if i ≤ y.At then 0 else if y.At + y.N ≤ i then y.N else i - y.At
def sumov (l : List Rn) (i : Int) : Int := (l.map fun y => ov y i).sum
theorem sumov_nil (i : Int) : sumov [] i = 0 := rfl
theorem sumov_cons (y : Rn) (l : List Rn) (i : Int) : sumov (y :: l) i = ov y i + sumov l i := rfl
theorem sumov_zero : ∀ {l : List Rn}, Can l → sumov l 0 = 0
  | [], _ => rfl
  | y :: r, h => by
    have hy := h.ran y (by simp)
    rw [sumov_cons, sumov_zero ⟨fun z hz => h.ran z (by simp [hz]), (List.pairwise_cons.1 h.pw).2⟩]
    unfold ov; rw [if_pos hy.1]; rfl
theorem sumov_step : ∀ {l : List Rn}, Can l → ∀ i : Int, (memI l i → sumov l (i + 1) = sumov l i + 1) ∧ (¬ memI l i → sumov l (i + 1) = sumov l i)
  | [], _, i => ⟨fun h => absurd h (memI_nil i), fun _ => rfl⟩
  | y :: r, h, i => by
    obtain ⟨h1, h2⟩ := List.pairwise_cons.1 h.pw
    have hy := h.ran y (by simp)
    obtain ⟨i1, i2⟩ := sumov_step (l := r) ⟨fun z hz => h.ran z (by simp [hz]), h2⟩ i
    rw [sumov_cons, sumov_cons, memI_cons]
    by_cases c : y.At ≤ i ∧ i < y.At + y.N
    · have hn : ¬ memI r i := fun ⟨z, hz, a, b⟩ => by have := h1 z hz; omega
      rw [i2 hn]
      refine ⟨fun _ => ?_, fun hh => absurd (.inl c) hh⟩
      unfold ov
      rw [if_neg (by omega)]
      split <;> split <;> omega
    · have e : ov y (i + 1) = ov y i := by
        unfold ov
        (repeat' split) <;> omega
      rw [e]
      refine ⟨fun hh => ?_, fun hh => ?_⟩
      · rw [i1 (hh.resolve_left c)]; omega
      · rw [i2 fun hm => hh (.inr hm)]
def sumN (l : List Rn) : Int := (l.map fun y => y.N).sum
theorem sumN_cons (y : Rn) (l : List Rn) : sumN (y :: l) = y.N + sumN l := rfl
theorem sumov_all : ∀ {l : List Rn}, Can l → sumov l 64 = sumN l
  | [], _ => rfl
  | y :: r, h => by
    have hy := h.ran y (by simp)
    rw [sumov_cons, sumN_cons, sumov_all ⟨fun z hz => h.ran z (by simp [hz]), (List.pairwise_cons.1 h.pw).2⟩]
    unfold ov; rw [if_neg (by omega), if_pos hy.2.2]
theorem sumN_ran : ∀ {l : List Rn} {lo : Int}, Can l → (∀ y ∈ l, lo ≤ y.At) → lo ≤ 65 → 0 ≤ sumN l ∧ sumN l ≤ 65 - lo
  | [], lo, _, _, h => by simp [sumN]; omega
  | y :: r, lo, h, hl, _ => by
    obtain ⟨h1, h2⟩ := List.pairwise_cons.1 h.pw
    have hy := h.ran y (by simp)
    have hy' := hl y (by simp)
    have := sumN_ran (l := r) (lo := y.At + y.N + 1) ⟨fun z hz => h.ran z (by simp [hz]), h2⟩ (fun z hz => by have := h1 z hz; omega) (by omega)
    rw [sumN_cons]; omega
theorem count_it {n : Nat} : ∀ (xs : List (Int × Rn)) (s : Int), 0 ≤ s → s ≤ 1000000 - sumN (xs.map Prod.snd) → (∀ e ∈ xs, 1 ≤ e.2.N) →
    itr1 (fun (e35 : Int × runs_Run) k29 (x28 : Int) =>
      lt (e35.1 : Int) fun x33 =>
      lt (e35.2 : runs_Run) fun x34 =>
      lt (wr .i64 (x28 + x34.N) : Int) fun x36 =>
      k29 x36) (fun (x28 : Int) =>
      some x28) xs s = some (s + sumN (xs.map Prod.snd))
  | [], s, _, _, _ => by show some s = _; simp [sumN]
  | e :: xs, s, h0, h1, h2 => by
    have := h2 e (by simp)
    have hs : 0 ≤ sumN (xs.map Prod.snd) := by
      clear h1 h0
      have h3 : ∀ e ∈ xs, 1 ≤ e.2.N := fun e he => h2 e (by simp [he])
      clear h2 this
      induction xs with
      | nil => simp [sumN]
      | cons a xs ih => have := h3 a (by simp); have := ih fun e he => h3 e (by simp [he]); rw [List.map_cons, sumN_cons]; omega
    rw [List.map_cons, sumN_cons] at h1 ⊢
    show itr1 _ _ xs (wr .i64 (s + e.2.N)) = _
    rw [w_i64 (by omega) (by omega), count_it (n := n) xs (s + e.2.N) (by omega) (by omega) (fun e he => h2 e (by simp [he]))]
    congr 1; omega
theorem count_eq {n : Nat} (hn : 110 ≤ n) {r : runs_Runs} (hr : Can r.l) : runs_Runs_Count n r = some (sumN r.l) := by
  unfold runs_Runs_Count
  rw [bd_some (each_eq n r)]
  obtain ⟨xs, h1, h2⟩ := all_eq (n := n) (l := r.l) (by have := hr.len; omega) hn
  have hs := sumN_ran (lo := 0) hr (fun y hy => (hr.ran y hy).1) (by omega)
  rw [bd_some h1]
  refine (count_it (n := n) xs 0 (by omega) (by rw [h2]; omega) fun e he => (hr.ran e.2 (by rw [← h2]; exact List.mem_map_of_mem he)).2.1).trans ?_
  rw [h2]; congr 1; omega
/-- the pages of a run as bits -/
theorem bits_eq {n : Nat} {y : Rn} (hy : 0 ≤ y.At ∧ 1 ≤ y.N ∧ y.At + y.N ≤ 64) : ∃ b : Nat, shlI .u64 (shrI .u64 18446744073709551615 (wr .i64 (64 - y.N))) y.At = (b : Int) ∧ b < 2 ^ 64 ∧ ∀ p : Nat, b.testBit p = decide (y.At ≤ (p : Int) ∧ (p : Int) < y.At + y.N) := by
  obtain ⟨a, N⟩ := y
  obtain ⟨a, rfl⟩ := Int.eq_ofNat_of_zero_le hy.1
  obtain ⟨m, rfl⟩ := Int.eq_ofNat_of_zero_le (show 0 ≤ N by have := hy.2.1; dsimp only at this; omega)
  dsimp only at hy ⊢
  have hm : m ≤ 64 := by omega
  rw [w_i64 (by omega) (by omega), shrI_div (k := .u64) (64 - m) (by omega) (show 64 - m ≤ 64 by omega)]
  have e1 : (18446744073709551615 : Int) / ((2 ^ (64 - m) : Nat) : Int) = ((2 ^ m - 1 : Nat) : Int) := by
    have h1 : (18446744073709551615 : Nat) / 2 ^ (64 - m) = 2 ^ m - 1 := by
      have h2 : 2 ^ m * 2 ^ (64 - m) = 18446744073709551616 := by rw [← Nat.pow_add, show m + (64 - m) = 64 by omega]
      have h3 : 0 < 2 ^ m := Nat.pow_pos (by decide)
      have h4 : 0 < 2 ^ (64 - m) := Nat.pow_pos (by decide)
      refine Nat.div_eq_of_lt_le ?_ ?_
      · rw [Nat.sub_mul, h2]; omega
      · rw [Nat.sub_add_cancel h3, h2]; omega
    rw [show (18446744073709551615 : Int) = ((18446744073709551615 : Nat) : Int) from rfl, ← Int.natCast_ediv, h1]
  rw [e1, shlI_mul (k := .u64) a rfl (show a ≤ 64 by omega)]
  have hlt : (2 ^ m - 1) * 2 ^ a < 2 ^ 64 := by
    have h2 : 2 ^ m * 2 ^ a ≤ 2 ^ 64 := by rw [← Nat.pow_add]; exact Nat.pow_le_pow_right (by decide) (by omega)
    have h3 : 0 < 2 ^ m := Nat.pow_pos (by decide)
    have h4 : 0 < 2 ^ a := Nat.pow_pos (by decide)
    rw [Nat.sub_mul]; omega
  refine ⟨(2 ^ m - 1) * 2 ^ a, ?_, hlt, fun p => ?_⟩
  · rw [← Int.natCast_mul]
    exact wr_nat (k := .u64) hlt
  · rw [Nat.testBit_mul_two_pow, Nat.testBit_two_pow_sub_one]
    by_cases c : a ≤ p
    · simp [c] <;> omega
    · simp [c] <;> omega
theorem mask_it {n : Nat} : ∀ (xs : List (Int × Rn)) (s : Nat), s < 2 ^ 64 → (∀ e ∈ xs, 0 ≤ e.2.At ∧ 1 ≤ e.2.N ∧ e.2.At + e.2.N ≤ 64) →
    ∃ m : Nat, itr1 (fun (e35 : Int × runs_Run) k29 (x28 : Int) =>
      lt (e35.1 : Int) fun x33 =>
      lt (e35.2 : runs_Run) fun x34 =>
      gu (decide (0 ≤ (wr .i64 (64 - x34.N)))) <|
      gu (decide (0 ≤ x34.At)) <|
      lt (orI .u64 x28 (shlI .u64 (shrI .u64 18446744073709551615 (wr .i64 (64 - x34.N))) x34.At) : Int) fun x38 =>
      k29 x38) (fun (x28 : Int) =>
      some x28) xs (s : Int) = some (m : Int) ∧ ∀ p : Nat, m.testBit p = true ↔ (s.testBit p = true ∨ memI (xs.map Prod.snd) p)
  | [], s, _, _ => ⟨s, rfl, fun p => by simp [memI]⟩
  | e :: xs, s, h0, h2 => by
    have he := h2 e (by simp)
    obtain ⟨b, b1, b2, b3⟩ := bits_eq (n := n) he
    obtain ⟨m, m1, m2⟩ := mask_it (n := n) xs (s ||| b) (Nat.or_lt_two_pow h0 b2) fun e he => h2 e (by simp [he])
    refine ⟨m, ?_, fun p => ?_⟩
    · simp only [itr1, lt]
      rw [b1, orI_nat (k := .u64) h0 b2, gu_true (by rw [w_i64 (by omega) (by omega)]; simp; omega), gu_true (by simp; omega)]
      exact m1
    · rw [m2, Nat.testBit_or, b3, List.map_cons, memI_cons]
      simp only [Bool.or_eq_true, decide_eq_true_eq]
      rw [or_assoc]
theorem mask_eq {n : Nat} (hn : 110 ≤ n) {r : runs_Runs} (hr : Can r.l) : ∃ m : Nat, runs_Runs_Mask n r = some (m : Int) ∧ ∀ p : Nat, m.testBit p = true ↔ memI r.l p := by
  unfold runs_Runs_Mask
  rw [bd_some (each_eq n r)]
  obtain ⟨xs, h1, h2⟩ := all_eq (n := n) (l := r.l) (by have := hr.len; omega) hn
  rw [bd_some h1]
  obtain ⟨m, m1, m2⟩ := mask_it (n := n) xs 0 (by decide) fun e he => hr.ran e.2 (by rw [← h2]; exact List.mem_map_of_mem he)
  refine ⟨m, m1, fun p => ?_⟩
  rw [m2, h2]; simp
theorem allr_eq {n : Nat} {r : runs_Runs} (hr : Can r.l) : runs_Runs_All n r = some r.l := by
  have := hr.len
  unfold runs_Runs_All slices_Clone_9402
  rw [gu_true (apok_t (by simp; omega) (by simp; omega)), lt_eq, List.nil_append]
  rfl

/-! the document's runs -/
def toR (a : Nat → Int) : Rn := ⟨a 0, a 1⟩
theorem last_of {l : List Rn} (hl : Can l) {i : Int} (hi : ∀ p, memI l p → p < i) (hm : memI l (i - 1)) : ∃ l0 y, l = l0 ++ [y] ∧ y.At + y.N = i := by
  obtain ⟨y, hy, h1, h2⟩ := hm
  have hyr := hl.ran y hy
  have he : y.At + y.N = i := by have := hi (y.At + y.N - 1) ⟨y, hy, by omega, by omega⟩; omega
  have hne : l ≠ [] := fun e => by rw [e] at hy; simp at hy
  refine ⟨l.dropLast, l.getLast hne, (List.dropLast_concat_getLast hne).symm, ?_⟩
  have hz : l.getLast hne ∈ l := List.getLast_mem hne
  have hzr := hl.ran _ hz
  rcases hl.two hy hz with e | e | e
  · rw [← e]; exact he
  · have := hi (l.getLast hne).At ⟨_, hz, by omega, by omega⟩; omega
  · have hy' : y ∈ l.dropLast ++ [l.getLast hne] := by rw [List.dropLast_concat_getLast]; exact hy
    rcases List.mem_append.1 hy' with h | h
    · have hpw := hl.pw
      rw [← List.dropLast_concat_getLast hne] at hpw
      have := (List.pairwise_append.1 hpw).2.2 y h (l.getLast hne) (by simp)
      omega
    · rw [← List.mem_singleton.1 h]; exact he
theorem refruns_eq {n : Nat} (hn : 110 ≤ n) (w : Nat → Bool) : ∃ xs, ref01_Set_Runs n w = some xs ∧ Can (xs.map toR) ∧ ∀ p : Int, memI (xs.map toR) p ↔ 0 ≤ p ∧ p < 64 ∧ w p.toNat = true := by
  unfold ref01_Set_Runs
  refine loop2_ind (fun (xs : List (Nat → Int)) (i : Int) => 0 ≤ i ∧ i ≤ 64 ∧ Can (xs.map toR) ∧ ∀ p : Int, memI (xs.map toR) p ↔ 0 ≤ p ∧ p < i ∧ w p.toNat = true) (fun _ i => (64 - i).toNat)
    (fun o => ∃ xs : List (Nat → Int), o = some xs ∧ Can (xs.map toR) ∧ ∀ p : Int, memI (xs.map toR) p ↔ 0 ≤ p ∧ p < 64 ∧ w p.toNat = true) ?_ n [] 0 ⟨by omega, by omega, Can.nil, fun p => ⟨fun h => absurd h (memI_nil p), fun h => by omega⟩⟩ (by omega)
  rintro kk xs i ⟨i0, i1, hc, hm⟩ ih
  have hlen := hc.len
  rw [List.length_map] at hlen
  by_cases c : i < 64
  · rw [cn_true (by simpa using c), gu_true (inb_t i0 (by omega)), w_i64 (x := i + 1) (by omega) (by omega)]
    cases hw : w i.toNat with
    | false =>
      rw [cn_true (b := !false) rfl]
      refine ih _ _ ⟨by omega, by omega, hc, fun p => ?_⟩ (by omega)
      rw [hm p]
      constructor
      · rintro ⟨a, b, d⟩; exact ⟨a, by omega, d⟩
      · rintro ⟨a, b, d⟩
        refine ⟨a, ?_, d⟩
        by_cases e : p = i
        · subst e; rw [hw] at d; cases d
        · omega
    | true =>
      rw [cn_false (b := !true) rfl]
      have hmi : ∀ p, memI (xs.map toR) p → p < i := fun p hp => ((hm p).1 hp).2.1
      by_cases c0 : 0 < i
      · have e1 : wr .i64 (i - 1) = i - 1 := w_i64 (by omega) (by omega)
        rw [e1, gu_true (by rw [inb_t (by omega) (by omega)]; simp)]
        by_cases c1 : w (i - 1).toNat = true
        · rw [cn_true (by rw [c1]; simp [c0])]
          obtain ⟨l0, y, e2, e3⟩ := last_of hc hmi ((hm (i - 1)).2 ⟨by omega, by omega, c1⟩)
          have hl : xs.length = l0.length + 1 := by rw [← List.length_map (f := toR), e2, List.length_append]; rfl
          have e4 : wr .i64 ((xs.length : Int) - 1) = (l0.length : Int) := by rw [w_i64 (by omega) (by omega)]; omega
          have hg : toR (xs.getD l0.length default) = y := by
            have h1 : (xs.map toR)[l0.length]? = some y := by rw [e2]; simp
            rw [List.getElem?_map] at h1
            obtain ⟨a, h2, h3⟩ := Option.map_eq_some_iff.1 h1
            rw [List.getD, h2]; exact h3
          have hyr := hc.ran y (by rw [e2]; simp)
          have hN : (xs.getD l0.length default) 1 = y.N := by rw [← hg]; rfl
          have hA : (xs.getD l0.length default) 0 = y.At := by rw [← hg]; rfl
          rw [e4, gu_true (inb_t (by omega) (by omega)), gu_true (inb_t (by omega) (by omega)), lt_eq, Int.toNat_natCast, hN, w_i64 (by omega) (by omega)]
          have e5 : (xs.set l0.length (upd (xs.getD l0.length default) 1 (y.N + 1))).map toR = l0 ++ [⟨y.At, y.N + 1⟩] := by
            rw [List.map_set, e2]
            have : toR (upd (xs.getD l0.length default) 1 (y.N + 1)) = ⟨y.At, y.N + 1⟩ := by simp [toR, upd, hA]
            rw [this, List.set_append_right _ _ (Nat.le_refl _), Nat.sub_self]
            rfl
          refine ih _ _ ⟨by omega, by omega, ?_, fun p => ?_⟩ (by omega)
          · rw [e5]; rw [e2] at hc
            exact can_snoc hc.init (by dsimp only; omega) fun z hz => hc.last z hz
          · have := hm p
            rw [e2, memI_app, memI_one] at this
            rw [e5, memI_app, memI_one]
            dsimp only
            constructor
            · rintro (h | h)
              · obtain ⟨a, b, d⟩ := this.1 (.inl h); exact ⟨a, by omega, d⟩
              · by_cases e : p = i
                · subst e; exact ⟨by omega, by omega, hw⟩
                · obtain ⟨a, b, d⟩ := this.1 (.inr (by omega)); exact ⟨a, by omega, d⟩
            · rintro ⟨a, b, d⟩
              by_cases e : p = i
              · exact .inr (by omega)
              · rcases this.2 ⟨a, by omega, d⟩ with h | h
                · exact .inl h
                · exact .inr (by omega)
        · rw [cn_false (by rw [Bool.not_eq_true] at c1; rw [c1]; simp), lt_eq, gu_true (apok_t (by omega) (by omega)), lt_eq]
          refine ih _ _ ⟨by omega, by omega, ?_, fun p => ?_⟩ (by omega)
          · rw [List.map_append]
            refine can_snoc hc (by show 0 ≤ i ∧ 1 ≤ (1 : Int) ∧ i + 1 ≤ 64; omega) fun z hz => ?_
            show z.At + z.N < i
            have hzr := hc.ran z hz
            have h1 := (hm (z.At + z.N - 1)).1 ⟨z, hz, by omega, by omega⟩
            by_cases e : z.At + z.N - 1 = i - 1
            · rw [e] at h1; exact absurd h1.2.2 c1
            · omega
          · rw [List.map_append, memI_app, hm p]
            show _ ∨ memI [(⟨i, 1⟩ : Rn)] p ↔ _
            rw [memI_one]
            dsimp only
            constructor
            · rintro (⟨a, b, d⟩ | h)
              · exact ⟨a, by omega, d⟩
              · obtain rfl : p = i := by omega
                exact ⟨by omega, by omega, hw⟩
            · rintro ⟨a, b, d⟩
              by_cases e : p = i
              · exact .inr (by omega)
              · exact .inl ⟨a, by omega, d⟩
      · obtain rfl : i = 0 := by omega
        rw [gu_true (by simp), cn_false (by simp), lt_eq, gu_true (apok_t (by omega) (by omega)), lt_eq]
        refine ih _ _ ⟨by omega, by omega, ?_, fun p => ?_⟩ (by omega)
        · rw [List.map_append]
          refine can_snoc hc (by show 0 ≤ (0 : Int) ∧ 1 ≤ (1 : Int) ∧ (0 : Int) + 1 ≤ 64; omega) fun z hz => ?_
          have hzr := hc.ran z hz
          have := hmi z.At ⟨z, hz, by omega, by omega⟩
          omega
        · rw [List.map_append, memI_app, hm p]
          show _ ∨ memI [(⟨0, 1⟩ : Rn)] p ↔ _
          rw [memI_one]
          dsimp only
          constructor
          · rintro (⟨a, b, d⟩ | h)
            · omega
            · obtain rfl : p = 0 := by omega
              exact ⟨by omega, by omega, hw⟩
          · rintro ⟨a, b, d⟩
            exact .inr (by omega)
  · rw [cn_false (by simpa using c)]
    obtain rfl : i = 64 := by omega
    exact ⟨xs, rfl, hc, hm⟩

/-! a set of the program has what the document's has -/
structure RS (r : runs_Runs) (w : Nat → Bool) : Prop where
  can : Can r.l
  mem : ∀ p : Nat, p < 64 → (w p = true ↔ memI r.l p)
theorem RS.all {r : runs_Runs} {w : Nat → Bool} (h : RS r w) (p : Int) : memI r.l p ↔ 0 ≤ p ∧ p < 64 ∧ w p.toNat = true := by
  constructor
  · intro hm
    obtain ⟨a, b⟩ := memI_ran h.can hm
    exact ⟨a, b, (h.mem p.toNat (by omega)).2 (by rw [Int.toNat_of_nonneg a]; exact hm)⟩
  · rintro ⟨a, b, d⟩
    have := (h.mem p.toNat (by omega)).1 d
    rwa [Int.toNat_of_nonneg a] at this
theorem same_eq {n : Nat} (hn : 110 ≤ n) {r : runs_Runs} {w : Nat → Bool} (h : RS r w) : law01_same n r w = some true := by
  unfold law01_same
  obtain ⟨xs, x1, x2, x3⟩ := refruns_eq hn w
  have hx : xs.map toR = r.l := can_ext x2 h.can fun p => by rw [x3 p, h.all p]
  have hlen : r.l.length = xs.length := by rw [← hx, List.length_map]
  have hle := h.can.len
  rw [bd_some (allr_eq h.can), bd_some x1, cn_false (by simp [hlen])]
  refine loop1_ind (fun (i : Int) => 0 ≤ i ∧ i ≤ r.l.length) (fun i => ((r.l.length : Int) - i).toNat) (fun o => o = some true) ?_ n 0 ⟨by omega, by omega⟩ (by omega)
  rintro kk i ⟨i0, i1⟩ ih
  obtain ⟨i, rfl⟩ := Int.eq_ofNat_of_zero_le i0
  by_cases c : i < r.l.length
  · have hg : r.l.getD (Int.toNat (i : Int)) default = toR (xs.getD (Int.toNat (i : Int)) default) := by
      rw [Int.toNat_natCast, ← hx, List.getD, List.getD, List.getElem?_map, List.getElem?_eq_getElem (show i < xs.length by omega)]; rfl
    have b1 : inb (i : Int) r.l.length = true := inb_t (by omega) (by omega)
    have b2 : inb (i : Int) xs.length = true := inb_t (by omega) (by omega)
    rw [cn_true (by simpa using c), gu_true b1, gu_true b2, b1, b2, gu_true (by simp), gu_true (by simp), hg, cn_false (by simp [toR]), w_i64 (by omega) (by omega)]
    exact ih _ ⟨by omega, by omega⟩ (by omega)
  · rw [cn_false (by simpa using c)]
    have hs := sumN_ran (lo := 0) h.can (fun y hy => (h.can.ran y hy).1) (by omega)
    obtain ⟨mk, mk1, mk2⟩ := mask_eq (n := n) hn h.can
    refine loop3_ind (fun (s m i : Int) => 0 ≤ i ∧ i ≤ 64 ∧ s = sumov r.l i ∧ 0 ≤ s ∧ s ≤ i ∧ ∃ q : Nat, m = (q : Int) ∧ q < 2 ^ 64 ∧ ∀ p : Nat, q.testBit p = true ↔ ((p : Int) < i ∧ memI r.l p)) (fun _ _ i => (64 - i).toNat) (fun o => o = some true) ?_ n 0 0 0
      ⟨by omega, by omega, (sumov_zero h.can).symm, by omega, by omega, 0, rfl, by decide, fun p => by simp; omega⟩ (by omega)
    rintro k2 s m i ⟨i0, i1, hs1, hs2, hs3, q, rfl, q1, q2⟩ ih
    by_cases c : i < 64
    · obtain ⟨b, b1, b2⟩ := has_eq (n := n) hn h.can (p := i) ⟨by omega, by omega⟩
      have hwb : w i.toNat = b := by
        have h1 := h.mem i.toNat (by omega)
        rw [Int.toNat_of_nonneg i0] at h1
        cases b with
        | true => exact h1.2 (b2.1 rfl)
        | false =>
          cases hw : w i.toNat with
          | false => rfl
          | true => exact (b2.2 (h1.1 hw)).symm
      obtain ⟨t1, t2⟩ := sumov_step h.can i
      have g1 : inb i 64 = true := inb_t i0 (by omega)
      rw [cn_true (by simpa using c), bd_some b1, gu_true g1, cn_false (by rw [hwb]; simp), gu_true g1, hwb, w_i64 (x := i + 1) (by omega) (by omega)]
      cases b with
      | true =>
        have hm := b2.1 rfl
        rw [cn_true rfl, gu_true (by simpa using i0), w_i64 (by omega) (by omega)]
        have hsh : shlI .u64 1 i = ((2 ^ i.toNat : Nat) : Int) := by
          rw [shlI_mul (k := .u64) i.toNat (Int.toNat_of_nonneg i0).symm (show i.toNat ≤ 64 by omega), Int.one_mul]
          exact wr_nat (k := .u64) (Nat.pow_lt_pow_right (by decide) (show i.toNat < 64 by omega))
        rw [hsh, orI_nat (k := .u64) q1 (Nat.pow_lt_pow_right (by decide) (show i.toNat < 64 by omega))]
        refine ih _ _ _ ⟨by omega, by omega, by rw [t1 hm, hs1], by omega, by omega, _, rfl, Nat.or_lt_two_pow q1 (Nat.pow_lt_pow_right (by decide) (show i.toNat < 64 by omega)), fun p => ?_⟩ (by omega)
        rw [Nat.testBit_or, Nat.testBit_two_pow]
        simp only [Bool.or_eq_true, decide_eq_true_eq, q2 p]
        constructor
        · rintro (⟨a, b⟩ | e)
          · exact ⟨by omega, b⟩
          · have : (p : Int) = i := by omega
            exact ⟨by omega, by rw [this]; exact hm⟩
        · rintro ⟨a, b⟩
          by_cases e : (p : Int) = i
          · exact .inr (by omega)
          · exact .inl ⟨by omega, b⟩
      | false =>
        have hm : ¬ memI r.l i := fun hm => by have := b2.2 hm; cases this
        rw [cn_false rfl]
        refine ih _ _ _ ⟨by omega, by omega, by rw [t2 hm, hs1], by omega, by omega, q, rfl, q1, fun p => ?_⟩ (by omega)
        rw [q2 p]
        constructor
        · rintro ⟨a, b⟩; exact ⟨by omega, b⟩
        · rintro ⟨a, b⟩
          refine ⟨?_, b⟩
          by_cases e : (p : Int) = i
          · rw [e] at b; exact absurd b hm
          · omega
    · rw [cn_false (by simpa using c)]
      obtain rfl : i = 64 := by omega
      have hq : mk = q := Nat.eq_of_testBit_eq fun p => by
        rw [Bool.eq_iff_iff, mk2 p, q2 p]
        exact ⟨fun hm => ⟨(memI_ran h.can hm).2, hm⟩, fun hm => hm.2⟩
      have hsn : sumN r.l = s := by rw [hs1, sumov_all h.can]
      obtain ⟨b, b1, b2⟩ := has_eq (n := n) hn h.can (p := -1) ⟨by omega, by omega⟩
      obtain ⟨b', b1', b2'⟩ := has_eq (n := n) hn h.can (p := 64) ⟨by omega, by omega⟩
      obtain rfl : b = false := by
        cases b with
        | false => rfl
        | true => have := memI_ran h.can (b2.1 rfl); omega
      obtain rfl : b' = false := by
        cases b' with
        | false => rfl
        | true => have := memI_ran h.can (b2'.1 rfl); omega
      rw [bd_some (count_eq hn h.can), cl_true (by simp [hsn]) mk1, cl_true (by simp [hsn, hq]) b1, cl_true (by simp [hsn, hq]) b1']
      simp [hsn, hq]

theorem RS.take {r r' : runs_Runs} {w w' : Nat → Bool} {a k : Int} (h : RS r w) (hc : Can r'.l) (hm : ∀ p, memI r'.l p ↔ memI r.l p ∧ ¬ (a ≤ p ∧ p < a + k)) (hw : ∀ p : Nat, w' p = if a ≤ (p : Int) ∧ (p : Int) < a + k then false else w p) : RS r' w' :=
  ⟨hc, fun p hp => by
    rw [hw p, hm]
    by_cases c : a ≤ (p : Int) ∧ (p : Int) < a + k
    · rw [if_pos c]; simp [c]
    · rw [if_neg c, h.mem p hp]; exact ⟨fun x => ⟨x, c⟩, fun x => x.1⟩⟩
theorem RS.give {r r' : runs_Runs} {w w' : Nat → Bool} {a k : Int} (h : RS r w) (hc : Can r'.l) (hm : ∀ p, memI r'.l p ↔ memI r.l p ∨ (a ≤ p ∧ p < a + k)) (hw : ∀ p : Nat, w' p = if a ≤ (p : Int) ∧ (p : Int) < a + k then true else w p) : RS r' w' :=
  ⟨hc, fun p hp => by
    rw [hw p, hm]
    by_cases c : a ≤ (p : Int) ∧ (p : Int) < a + k
    · rw [if_pos c]; simp [c]
    · rw [if_neg c, h.mem p hp]; exact ⟨fun x => .inl x, fun x => x.resolve_right c⟩⟩
theorem RS.inL {r : runs_Runs} {w : Nat → Bool} (h : RS r w) {a k : Int} : inL r.l a k ↔ okR a k ∧ allI w a k true := by
  unfold _root_.Go.Proofs.Ytcdnmiianjaglaa.inL allI
  constructor
  · rintro ⟨o, hh⟩; exact ⟨o, fun p h1 h2 => ((h.all p).1 (hh p h1 h2)).2.2⟩
  · rintro ⟨o, hh⟩
    refine ⟨o, fun p h1 h2 => (h.all p).2 ?_⟩
    unfold okR at o
    exact ⟨by omega, by omega, hh p h1 h2⟩
theorem RS.outL {r : runs_Runs} {w : Nat → Bool} (h : RS r w) {a k : Int} : (okR a k ∧ ∀ p, a ≤ p → p < a + k → ¬ memI r.l p) ↔ okR a k ∧ allI w a k false := by
  unfold allI
  constructor
  · rintro ⟨o, hh⟩
    refine ⟨o, fun p h1 h2 => ?_⟩
    have := hh p h1 h2
    rw [h.all p] at this
    unfold okR at o
    cases hw : w p.toNat with
    | false => rfl
    | true => exact absurd ⟨by omega, by omega, hw⟩ this
  · rintro ⟨o, hh⟩
    refine ⟨o, fun p h1 h2 hm => ?_⟩
    have := ((h.all p).1 hm).2.2
    rw [hh p h1 h2] at this
    cases this
theorem find_ref {n : Nat} (hn : 110 ≤ n) {r : runs_Runs} {w : Nat → Bool} (h : RS r w) {k : Int} (hk : I64 k) : ∃ v, ref01_Set_Find n w k = some v ∧ findR k r.l = (if 0 ≤ v then (v, true) else (0, false)) := by
  obtain ⟨v, h1, h2⟩ := reffind_eq (n := n) (by omega) w hk
  refine ⟨v, h1, ?_⟩
  rcases findR_t (k := k) h.can with ⟨f1, f2⟩ | ⟨u, f1, f2, f3, f4⟩
  · rcases h2 with ⟨rfl, _⟩ | ⟨c1, c2, c3, _⟩
    · rw [f1, if_neg (by omega)]
    · exact absurd (h.inL.2 ⟨c2, c3⟩) (f2 v)
  · rcases h2 with ⟨rfl, c⟩ | ⟨c1, c2, c3, c4⟩
    · exact absurd (h.inL.1 f3) (c u)
    · rw [f1, if_pos c1]
      have : u = v := by
        rcases Int.lt_trichotomy u v with c | c | c
        · exact absurd (h.inL.1 f3) (c4 u f2 c)
        · exact c
        · exact absurd (h.inL.2 ⟨c2, c3⟩) (f4 v c)
      rw [this]
/-- THE STATEMENT's answer -/
theorem play_true {a0 : Int} (h0 : -9223372036854775808 ≤ a0 ∧ a0 ≤ 9223372036854775807) {a1 : List law01_Act} (h1 : ∀ x ∈ a1, (0 ≤ x.Do ∧ x.Do ≤ 255) ∧ (-9223372036854775808 ≤ x.At ∧ x.At ≤ 9223372036854775807) ∧ (-9223372036854775808 ≤ x.N ∧ x.N ≤ 9223372036854775807)) {a2 : Int} (h2 : -9223372036854775808 ≤ a2 ∧ a2 ≤ 9223372036854775807) : law01_RunsPlay 1000 a0 a1 a2 = some true := by
  unfold law01_RunsPlay
  by_cases hl : 150 < (a1.length : Int)
  · rw [cn_true (by simpa using hl), bd_some wakes01]
  · rw [cn_false (by simpa using hl)]
    obtain ⟨r0, r1, r2, r3⟩ := of_eq (n := 1000) a0
    obtain ⟨w0, w1, w2⟩ := refof_eq (n := 1000) (by omega) a0
    have hr0 : RS r0 w0 := ⟨r2, fun p hp => by rw [w2 p hp, r3 p (by omega) (by omega)]; simp⟩
    rw [bd_some r1, bd_some w1]
    refine loop5_ind (fun (i : Int) (hw : Nat → Bool) (hr : runs_Runs) (w : Nat → Bool) (r : runs_Runs) => 0 ≤ i ∧ i ≤ a1.length ∧ RS hr hw ∧ RS r w) (fun i _ _ _ _ => ((a1.length : Int) - i).toNat) (fun o => o = some true) ?_ 1000 0 w0 r0 w0 r0 ⟨by omega, by omega, hr0, hr0⟩ (by omega)
    rintro kk i hw hr w r ⟨i0, i1, hh, h⟩ ih
    by_cases c : i < a1.length
    · obtain ⟨i, rfl⟩ := Int.eq_ofNat_of_zero_le i0
      have hg : a1.getD (Int.toNat (i : Int)) default ∈ a1 := by rw [Int.toNat_natCast, List.getD, List.getElem?_eq_getElem (by omega)]; exact List.getElem_mem _
      rw [cn_true (by simpa using c), gu_true (inb_t (by omega) (by omega)), lt_eq]
      generalize a1.getD (Int.toNat (i : Int)) default = a at *
      obtain ⟨_, hA, hN⟩ := h1 a hg
      have i64A : I64 a.At := hA
      have i64N : I64 a.N := hN
      obtain ⟨b, b1, b2⟩ := refis_eq (n := 1000) (by omega) w (at_ := a.At) (k := a.N) (!(a.Do == 0)) i64A i64N
      rw [bd_some b1]
      dsimp only [lt]
      have nxt : ∀ (g : Bool) (r' : runs_Runs), g = b → (b = false → r' = r) → (b = true → ∀ w', (∀ p : Nat, w' p = if a.At ≤ (p : Int) ∧ (p : Int) < a.At + a.N then (a.Do == 0) else w p) → RS r' w') →
          (cn b (bd (ref01_Set_With 1000 w a.At a.N (a.Do == 0)) fun x90 => cn ((g != b)) (some false) (cn (((i : Int) == (wr .i64 (Int.tdiv (a1.length : Int) 2)))) (kk (wr .i64 ((i : Int) + 1)) x90 r' x90 r') (kk (wr .i64 ((i : Int) + 1)) hw hr x90 r')))
            (cn ((g != b)) (some false) (cn (((i : Int) == (wr .i64 (Int.tdiv (a1.length : Int) 2)))) (kk (wr .i64 ((i : Int) + 1)) w r' w r') (kk (wr .i64 ((i : Int) + 1)) hw hr w r')))) = some true := by
        rintro g r' rfl hf ht
        have go : ∀ w', RS r' w' → (cn ((g != g)) (some false) (cn (((i : Int) == (wr .i64 (Int.tdiv (a1.length : Int) 2)))) (kk (wr .i64 ((i : Int) + 1)) w' r' w' r') (kk (wr .i64 ((i : Int) + 1)) hw hr w' r'))) = some true := fun w' hrs => by
          rw [cn_false (by simp), w_i64 (x := (i : Int) + 1) (by omega) (by omega)]
          by_cases e : (((i : Int) == (wr .i64 (Int.tdiv (a1.length : Int) 2)))) = true
          · rw [cn_true e]; exact ih _ _ _ _ _ ⟨by omega, by omega, hrs, hrs⟩ (by omega)
          · rw [cn_false (by simpa using e)]; exact ih _ _ _ _ _ ⟨by omega, by omega, hh, hrs⟩ (by omega)
        cases g with
        | true =>
          obtain ⟨w', e1, e2⟩ := refwith_eq (n := 1000) (by omega) w (a.Do == 0) (b2.1 rfl).1
          rw [cn_true rfl, bd_some e1]
          exact go w' (ht rfl w' e2)
        | false =>
          rw [cn_false rfl]
          rw [hf rfl] at go ⊢
          exact go w h
      cases hd : (a.Do == 0) with
      | true =>
        rw [hd] at nxt b2
        obtain ⟨r', g, g1, g2, g3, g4⟩ := give_eq (n := 1000) (by omega) h.can i64A i64N
        rw [cn_true rfl, bd_some g1]
        have hgb : g = b := by
          rw [Bool.eq_iff_iff, g2, h.outL, b2]; simp
        exact nxt g r' hgb (fun hb => g3 (hgb.trans hb)) fun hb w' hw' => by
          obtain ⟨e1, e2⟩ := g4 (hgb.trans hb)
          exact h.give e1 e2 hw'
      | false =>
        rw [hd] at nxt b2
        obtain ⟨r', g, g1, g2, g3, g4⟩ := take_eq (n := 1000) (by omega) h.can i64A i64N
        rw [cn_false rfl, bd_some g1]
        have hgb : g = b := by
          rw [Bool.eq_iff_iff, g2, h.inL, b2]; simp
        exact nxt g r' hgb (fun hb => g3 (hgb.trans hb)) fun hb w' hw' => by
          obtain ⟨e1, e2⟩ := g4 (hgb.trans hb)
          exact h.take e1 e2 hw'
    · rw [cn_false (by simpa using c)]
      obtain ⟨v, v1, v2⟩ := find_ref (n := 1000) (by omega) h (k := a2) h2
      rw [bd_some (find_eq (n := 1000) (by omega) h.can a2), bd_some v1, bd_some (same_eq (by omega) h), cl_true (g := (true == true)) rfl (same_eq (n := 1000) (by omega) hh), v2]
      by_cases c0 : 0 ≤ v
      · rw [if_pos c0, cl_true (by simp [c0]) wakes01]; simp [c0]
      · rw [if_neg c0, cl_true (by simp [c0]) wakes01]; simp [c0]
end Go.Proofs.Ytcdnmiianjaglaa
