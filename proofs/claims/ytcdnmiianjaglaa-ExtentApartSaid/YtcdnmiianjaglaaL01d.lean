/- The stage's theorem of runs: sets of the same pages have the same runs. -/
import Derived.Test.YtcdnmiianjaglaaL01c
namespace Go.Proofs.Ytcdnmiianjaglaa
open Go Go.Bw

theorem sum_split {l m x : List Rn} (hl : Can l) (hm : Can m) (hx : Can x) (h1 : ∀ p, memI l p ↔ memI m p ∨ memI x p) (h2 : ∀ p, memI m p → ¬ memI x p) : sumN l = sumN m + sumN x := by
  have key : ∀ i : Nat, sumov l i = sumov m i + sumov x i := by
    intro i
    induction i with
    | zero => rw [Int.natCast_zero, sumov_zero hl, sumov_zero hm, sumov_zero hx]; rfl
    | succ i ih =>
      have e : ((i + 1 : Nat) : Int) = (i : Int) + 1 := by omega
      rw [e]
      obtain ⟨a1, a2⟩ := sumov_step hl i
      obtain ⟨b1, b2⟩ := sumov_step hm i
      obtain ⟨c1, c2⟩ := sumov_step hx i
      by_cases c : memI m i
      · rw [a1 ((h1 _).2 (.inl c)), b1 c, c2 (h2 _ c), ih]; omega
      · by_cases d : memI x i
        · rw [a1 ((h1 _).2 (.inr d)), b2 c, c1 d, ih]; omega
        · rw [a2 (fun h => ((h1 _).1 h).elim c d), b2 c, c2 d, ih]
  have := key 64
  rw [show ((64 : Nat) : Int) = 64 from rfl, sumov_all hl, sumov_all hm, sumov_all hx] at this
  exact this
theorem can_one {a k : Int} (h : okR a k) : Can [(⟨a, k⟩ : Rn)] := can_snoc (l := []) Can.nil (by unfold okR at h; exact ⟨h.2.1, h.1, h.2.2⟩) (by simp)
theorem sum_one (a k : Int) : sumN [(⟨a, k⟩ : Rn)] = k := by simp [sumN]
theorem mask_lt {l : List Rn} (hl : Can l) {m : Nat} (h : ∀ p : Nat, m.testBit p = true ↔ memI l p) : m < 2 ^ 64 := by
  refine Nat.lt_pow_two_of_testBit m fun i hi => ?_
  cases hb : m.testBit i with
  | false => rfl
  | true => have := memI_ran hl ((h i).1 hb); omega
/-- pages that were taken -/
structure OW (first r : List Rn) (t : List Int) : Prop where
  can : Can r
  nd : t.Nodup
  mem : ∀ p, memI first p ↔ memI r p ∨ p ∈ t
  apart : ∀ p, p ∈ t → ¬ memI r p
theorem nodup_len : ∀ (k : Nat) {t : List Int}, t.Nodup → (∀ p ∈ t, 0 ≤ p ∧ p < (k : Int)) → t.length ≤ k
  | 0, [], _, _ => Nat.le_refl _
  | 0, x :: t, _, h => by have := h x (by simp); omega
  | k + 1, t, hn, h => by
    by_cases hk : (k : Int) ∈ t
    · have h1 := nodup_len k (hn.erase (k : Int)) fun x hx => by
        have h2 := h x (List.mem_of_mem_erase hx)
        have h3 : x ≠ k := fun e => by subst e; exact (List.Nodup.not_mem_erase hn) hx
        omega
      rw [List.length_erase_of_mem hk] at h1
      omega
    · have h1 := nodup_len k hn fun x hx => by
        have h2 := h x hx
        have h3 : x ≠ k := fun e => hk (e ▸ hx)
        omega
      omega
theorem OW.ran {first r : List Rn} {t : List Int} (hf : Can first) (h : OW first r t) {p : Int} (hp : p ∈ t) : 0 ≤ p ∧ p < 64 := memI_ran hf ((h.mem p).2 (.inr hp))
theorem OW.len {first r : List Rn} {t : List Int} (hf : Can first) (h : OW first r t) : t.length ≤ 64 := nodup_len 64 h.nd fun p hp => h.ran hf hp
theorem nd_snoc {t : List Int} {p : Int} (h : t.Nodup) (hp : p ∉ t) : (t ++ [p]).Nodup := by
  rw [List.nodup_append]
  refine ⟨h, by simp, fun a ha b hb => ?_⟩
  rw [List.mem_singleton.1 hb]
  rintro rfl
  exact hp ha

theorem oneway_true {a0 : Int} (h0 : 0 ≤ a0 ∧ a0 ≤ 255) {a1 : List Int} (h1 : ∀ x ∈ a1, 0 ≤ x ∧ x ≤ 255) {a2 : List Int} (h2 : ∀ x ∈ a2, 0 ≤ x ∧ x ≤ 255) : law01_RunsOneWay 1000 a0 a1 a2 = some true := by
  unfold law01_RunsOneWay
  by_cases hl : (decide (60 < (a1.length : Int)) || decide (200 < (a2.length : Int))) = true
  · rw [cn_true hl, bd_some wakes01]
  rw [cn_false (by simpa using hl)]
  simp only [Bool.or_eq_true, decide_eq_true_eq, not_or] at hl
  obtain ⟨f, f1, f2, f3⟩ := of_eq (n := 1000) (Int.tmod (wr .i64 a0) 65)
  rw [bd_some f1]
  refine loop3_ind (fun (t : List Int) (i : Int) (r : runs_Runs) => 0 ≤ i ∧ i ≤ a1.length ∧ OW f.l r.l t) (fun _ i _ => ((a1.length : Int) - i).toNat) (fun o => o = some true) ?_ 1000 [] 0 f ⟨by omega, by omega, f2, .nil, fun p => by simp, fun p hp => by simp at hp⟩ (by omega)
  rintro kk t i r ⟨i0, i1, ow⟩ ih
  have htl := ow.len f2
  by_cases c : i < a1.length
  · obtain ⟨i, rfl⟩ := Int.eq_ofNat_of_zero_le i0
    have hg : a1.getD (Int.toNat (i : Int)) default ∈ a1 := by rw [Int.toNat_natCast, List.getD, List.getElem?_eq_getElem (by omega)]; exact List.getElem_mem _
    rw [cn_true (by simpa using c), gu_true (inb_t (by omega) (by omega))]
    generalize a1.getD (Int.toNat (i : Int)) default = a at *
    have ha := h1 a hg
    have ek : wr .i64 (1 + Int.tmod (wr .i64 a) 8) = 1 + a % 8 := by
      rw [w_i64 (x := a) (by omega) (by omega), tmod_pos ha.1, w_i64 (by omega) (by omega)]
    simp only [ek]
    obtain ⟨k, hk⟩ : ∃ k, k = 1 + a % 8 := ⟨_, rfl⟩
    rw [← hk]
    have hk1 : 1 ≤ k ∧ k ≤ 8 := by omega
    rw [bd_some (find_eq (n := 1000) (by omega) ow.can k), w_i64 (x := (i : Int) + 1) (by omega) (by omega)]
    rcases findR_t (k := k) ow.can with ⟨e1, _⟩ | ⟨v, e1, e2, e3, _⟩
    · rw [e1, cn_true (b := !false) rfl]
      exact ih _ _ _ ⟨by omega, by omega, ow⟩ (by omega)
    · rw [e1, cn_false (b := !true) rfl]
      have ho := e3.1
      unfold okR at ho
      obtain ⟨r', g, g1, g2, g3, g4⟩ := take_eq (n := 1000) (by omega) ow.can (at_ := v) (k := k) ⟨by omega, by omega⟩ ⟨by omega, by omega⟩
      obtain rfl : g = true := g2.2 e3
      obtain ⟨c1, c2⟩ := g4 rfl
      dsimp only
      rw [bd_some g1]
      have hx : ∀ p, memI [(⟨v, k⟩ : Rn)] p ↔ v ≤ p ∧ p < v + k := fun p => memI_one
      have hsum := sum_split ow.can c1 (can_one e3.1) (fun p => by
        rw [c2 p, hx]
        constructor
        · intro hp
          by_cases q : v ≤ p ∧ p < v + k
          · exact .inr q
          · exact .inl ⟨hp, q⟩
        · rintro (q | q)
          · exact q.1
          · exact e3.2 p q.1 q.2) (fun p hp => by rw [hx]; exact ((c2 p).1 hp).2)
      rw [sum_one] at hsum
      have hsr := sumN_ran (lo := 0) ow.can (fun y hy => (ow.can.ran y hy).1) (by omega)
      obtain ⟨m, m1, m2⟩ := mask_eq (n := 1000) (by omega) ow.can
      obtain ⟨m', m1', m2'⟩ := mask_eq (n := 1000) (by omega) c1
      have hw : wr .i64 (sumN r.l - k) = sumN r'.l := by rw [w_i64 (by omega) (by omega)]; omega
      have hand : andI .u64 (m' : Int) (m : Int) = (m' : Int) := by
        rw [andI_nat (k := .u64) (mask_lt c1 m2') (mask_lt ow.can m2)]
        congr 1
        refine Nat.eq_of_testBit_eq fun p => ?_
        rw [Nat.testBit_and, Bool.eq_iff_iff, Bool.and_eq_true, m2', m2, c2]
        exact ⟨fun q => q.1, fun q => ⟨q, q.1⟩⟩
      rw [cl_true (by rfl) (count_eq (n := 1000) (by omega) c1), cl_true (by rfl) (count_eq (n := 1000) (by omega) ow.can), cl_true (by simp [hw]) m1', cl_true (by simp [hw]) m1, cl_true (by simp [hw]) m1', cn_false (by simp [hw, hand])]
      rw [w_i64 (x := v + k) (by omega) (by omega)]
      refine loop2_ind (fun (t' : List Int) (x : Int) => v ≤ x ∧ x ≤ v + k ∧ t'.Nodup ∧ ∀ p, p ∈ t' ↔ p ∈ t ∨ (v ≤ p ∧ p < x)) (fun _ x => (v + k - x).toNat) (fun o => o = some true) ?_ 1000 t v ⟨by omega, by omega, ow.nd, fun p => ⟨.inl, fun q => q.resolve_right (by omega)⟩⟩ (by omega)
      rintro k2 t' x ⟨x0, x1, x2, x3⟩ ih2
      by_cases d : x < v + k
      · obtain ⟨b, b1, b2⟩ := has_eq (n := 1000) (by omega) ow.can (p := x) ⟨by omega, by omega⟩
        obtain ⟨b', b1', b2'⟩ := has_eq (n := 1000) (by omega) c1 (p := x) ⟨by omega, by omega⟩
        have hmx := e3.2 x x0 d
        obtain rfl : b = true := b2.2 hmx
        obtain rfl : b' = false := by
          cases b' with
          | false => rfl
          | true => exact absurd ⟨x0, d⟩ ((c2 x).1 (b2'.1 rfl)).2
        have hl' : t'.length ≤ 64 := nodup_len 64 x2 fun p hp => by
          rcases (x3 p).1 hp with q | q
          · exact ow.ran f2 q
          · omega
        rw [cn_true (by simpa using d), bd_some b1, cl_true (by rfl) b1', cn_false (by rfl), gu_true (apok_t (by omega) (by omega)), lt_eq, w_i64 (by omega) (by omega)]
        refine ih2 _ _ ⟨by omega, by omega, nd_snoc x2 fun hp => ?_, fun p => ?_⟩ (by omega)
        · rcases (x3 x).1 hp with q | q
          · exact ow.apart x q hmx
          · omega
        · rw [List.mem_append, x3 p, List.mem_singleton]
          constructor
          · rintro ((q | q) | q)
            · exact .inl q
            · exact .inr (by omega)
            · exact .inr (by omega)
          · rintro (q | q)
            · exact .inl (.inl q)
            · by_cases e : p = x
              · exact .inr e
              · exact .inl (.inr (by omega))
      · rw [cn_false (by simpa using d)]
        obtain rfl : x = v + k := by omega
        refine ih _ _ _ ⟨by omega, by omega, c1, x2, fun p => ?_, fun p hp hm => ?_⟩ (by omega)
        · rw [ow.mem p, x3 p, c2 p]
          constructor
          · rintro (q | q)
            · by_cases e : v ≤ p ∧ p < v + k
              · exact .inr (.inr e)
              · exact .inl ⟨q, e⟩
            · exact .inr (.inl q)
          · rintro (q | q | q)
            · exact .inl q.1
            · exact .inr q
            · exact .inl (e3.2 p q.1 q.2)
        · obtain ⟨q1, q2⟩ := (c2 p).1 hm
          rcases (x3 p).1 hp with q | q
          · exact ow.apart p q q1
          · exact q2 q
  rw [cn_false (by simpa using c)]
  clear ih
  refine loop3_ind (fun (t : List Int) (i : Int) (r : runs_Runs) => 0 ≤ i ∧ i + t.length ≤ 100 ∧ OW f.l r.l t) (fun t _ _ => t.length) (fun o => o = some true) ?_ 1000 t 0 r ⟨by omega, by omega, ow⟩ (by omega)
  clear ow htl i0 i1 c
  rintro kk t i r ⟨i0, i1, ow⟩ ih
  have htl := ow.len f2
  by_cases c : 0 < (t.length : Int)
  · rw [cn_true (by simpa using c), lt_eq]
    have nxt : ∀ j : Int, 0 ≤ j → j < t.length → (gu (inb j t.length) <|
        bd (runs_Runs_Give 1000 r (t.getD (Int.toNat j) default) 1) fun x121 =>
        gu (inb j t.length) <|
        bd (runs_Runs_Give 1000 x121.1 (t.getD (Int.toNat j) default) 1) fun x131 =>
        cl (((!x121.2) || x131.2) == false) (runs_Runs_Count 1000 x121.1) default fun x140 =>
        cl (((!x121.2) || x131.2) == false) (runs_Runs_Count 1000 r) default fun x141 =>
        cn ((((!x121.2) || x131.2) || (x140 != (wr .i64 (x141 + 1))))) (
        some false) (
        gu (inb j (t.length + 1)) <|
        gu (apok ([] : List Int).length (t.take (Int.toNat j)).length 8) <|
        lt (([] : List Int) ++ (t.take (Int.toNat j)) : List Int) fun x147 =>
        gu (inb (wr .i64 (j + 1)) (t.length + 1)) <|
        gu (apok x147.length (t.drop (Int.toNat (wr .i64 (j + 1)))).length 8) <|
        lt (x147 ++ (t.drop (Int.toNat (wr .i64 (j + 1)))) : List Int) fun x152 =>
        kk x152 (wr .i64 (i + 1)) x121.1)) = some true := by
      intro j j0 j1
      obtain ⟨j, rfl⟩ := Int.eq_ofNat_of_zero_le j0
      have hj : j < t.length := by omega
      have hgd : t.getD (Int.toNat (j : Int)) default = t[j] := by rw [Int.toNat_natCast, List.getD, List.getElem?_eq_getElem hj]; rfl
      have hpt : t[j] ∈ t := List.getElem_mem hj
      have et : t = t.take j ++ t[j] :: t.drop (j + 1) := by rw [← List.drop_eq_getElem_cons hj, List.take_append_drop]
      have hnd := ow.nd
      rw [et] at hnd
      have hpr := ow.ran f2 hpt
      have hpa := ow.apart _ hpt
      rw [hgd]
      generalize t[j] = p at *
      have ho : okR p 1 := ⟨by omega, by omega, by omega⟩
      obtain ⟨r', g, g1, g2, g3, g4⟩ := give_eq (n := 1000) (by omega) ow.can (at_ := p) (k := 1) ⟨by omega, by omega⟩ ⟨by omega, by omega⟩
      obtain rfl : g = true := g2.2 ⟨ho, fun q q1 q2 hq => by rw [show q = p by omega] at hq; exact hpa hq⟩
      obtain ⟨c1, c2⟩ := g4 rfl
      obtain ⟨r'', g', g1', g2', g3', g4'⟩ := give_eq (n := 1000) (by omega) c1 (at_ := p) (k := 1) ⟨by omega, by omega⟩ ⟨by omega, by omega⟩
      obtain rfl : g' = false := by
        cases g' with
        | false => rfl
        | true => exact absurd ((c2 p).2 (.inr ⟨by omega, by omega⟩)) ((g2'.1 rfl).2 p (by omega) (by omega))
      have hx : ∀ q, memI [(⟨p, 1⟩ : Rn)] q ↔ p ≤ q ∧ q < p + 1 := fun q => memI_one
      have hsum := sum_split c1 ow.can (can_one ho) (fun q => by rw [c2 q, hx]) (fun q hq hq' => by
        rw [hx] at hq'
        obtain rfl : q = p := by omega
        exact hpa hq)
      rw [sum_one] at hsum
      have hsr := sumN_ran (lo := 0) ow.can (fun y hy => (ow.can.ran y hy).1) (by omega)
      have hin : inb (j : Int) t.length = true := inb_t (by omega) (by omega)
      rw [gu_true hin, bd_some g1, gu_true hin, bd_some g1', cl_true (by rfl) (count_eq (n := 1000) (by omega) c1), cl_true (by rfl) (count_eq (n := 1000) (by omega) ow.can), w_i64 (x := sumN r.l + 1) (by omega) (by omega),
        cn_false (by simp [hsum]), gu_true (inb_t (by omega) (by omega)), gu_true (apok_t (by simp; omega) (by simp; omega)), lt_eq, w_i64 (x := (j : Int) + 1) (by omega) (by omega), gu_true (inb_t (by omega) (by omega)), gu_true (apok_t (by simp; omega) (by simp; omega)), lt_eq, w_i64 (by omega) (by omega)]
      have e1 : ((j : Int) + 1).toNat = j + 1 := by omega
      rw [e1, Int.toNat_natCast, List.nil_append]
      have hlen : (t.take j ++ t.drop (j + 1)).length + 1 = t.length := by rw [List.length_append, List.length_take, List.length_drop]; omega
      obtain ⟨n1, n2, n3⟩ := List.nodup_append.1 hnd
      obtain ⟨n4, n5⟩ := List.nodup_cons.1 n2
      refine ih _ _ _ ⟨by omega, by omega, c1, List.nodup_append.2 ⟨n1, n5, fun a ha b hb => n3 a ha b (by simp [hb])⟩, fun q => ?_, fun q hq hm => ?_⟩ (by omega)
      · rw [ow.mem q, c2 q]
        have : q ∈ t ↔ q ∈ t.take j ++ t.drop (j + 1) ∨ q = p := by
          conv => lhs; rw [et]
          simp only [List.mem_append, List.mem_cons]
          constructor
          · rintro (q | q | q)
            · exact .inl (.inl q)
            · exact .inr q
            · exact .inl (.inr q)
          · rintro ((q | q) | q)
            · exact .inl q
            · exact .inr (.inr q)
            · exact .inr (.inl q)
        rw [this]
        constructor
        · rintro (q | q | q)
          · exact .inl (.inl q)
          · exact .inr q
          · exact .inl (.inr (by omega))
        · rintro ((q | q) | q)
          · exact .inl q
          · exact .inr (.inr (by omega))
          · exact .inr (.inl q)
      · have hne : q ≠ p := by
          rintro rfl
          rcases List.mem_append.1 hq with h | h
          · exact n3 q h q (by simp) rfl
          · exact n4 h
        have hqt : q ∈ t := by
          rw [et]
          rcases List.mem_append.1 hq with h | h
          · simp [h]
          · simp [h]
        rcases (c2 q).1 hm with h | h
        · exact ow.apart q hqt h
        · omega
    by_cases d : i < a2.length
    · have hg : a2.getD (Int.toNat i) default ∈ a2 := by rw [List.getD, List.getElem?_eq_getElem (by omega)]; exact List.getElem_mem _
      have hb := h2 _ hg
      rw [cn_true (by simpa using d), gu_true (inb_t (by omega) (by omega)), gu_true (by rw [bne_iff_ne]; omega)]
      refine nxt _ ?_ ?_
      · rw [w_i64 (by omega) (by omega), tmod_pos hb.1]; exact Int.emod_nonneg _ (show (t.length : Int) ≠ 0 by omega)
      · rw [w_i64 (by omega) (by omega), tmod_pos hb.1]; exact Int.emod_lt_of_pos _ (show (0 : Int) < (t.length : Int) by omega)
    · rw [cn_false (by simpa using d)]
      exact nxt 0 (by omega) (by omega)
  · rw [cn_false (by simpa using c)]
    obtain rfl : t = [] := List.length_eq_zero_iff.1 (by omega)
    have e : r.l = f.l := can_ext ow.can f2 fun p => by rw [ow.mem p]; simp
    rw [bd_some (allr_eq ow.can), bd_some (allr_eq f2), e, cn_false (by simp)]
    have hle := f2.len
    refine loop1_ind (fun (i : Int) => 0 ≤ i ∧ i ≤ f.l.length) (fun i => ((f.l.length : Int) - i).toNat) (fun o => o = some true) ?_ 1000 0 ⟨by omega, by omega⟩ (by omega)
    rintro k3 x ⟨x0, x1⟩ ih3
    by_cases d : x < f.l.length
    · rw [cn_true (by simpa using d), gu_true (inb_t (by omega) (by omega)), gu_true (inb_t (by omega) (by omega)), cn_false (by simp [EQ_runs_Run]), w_i64 (by omega) (by omega)]
      exact ih3 _ ⟨by omega, by omega⟩ (by omega)
    · rw [cn_false (by simpa using d), bd_some wakes01]
end Go.Proofs.Ytcdnmiianjaglaa
