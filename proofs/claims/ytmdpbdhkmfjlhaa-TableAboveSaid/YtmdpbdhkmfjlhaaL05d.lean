/- TablePlays, as a plain law. -/
import Derived.Test.YtmdpbdhkmfjlhaaL05c
namespace Go.Proofs.Ytmdpbdhkmfjlhaa
open Go Go.Bw

theorem refall5 {n : Nat} (hn : 40 ≤ n) {t : table_Table} {w : ref05_Table} (r : RTb t w) : ref05_Table_All n w = some (issuedL w.B 32) := by
  unfold ref05_Table_All
  refine loop2_ind (fun (l : List Int) (x : Int) => ∃ k : Nat, x = k ∧ k ≤ 32 ∧ l = issuedL w.B k) (fun _ (x : Int) => (32 - x).toNat) (fun o => o = some (issuedL w.B 32)) ?_ n [] 0 ⟨0, rfl, by omega, rfl⟩ (by omega)
  rintro kk l x ⟨k, rfl, hk, rfl⟩ ih
  by_cases hc : k < 32
  · rw [cn_true (by simp; omega), gu_true (inb_t (by omega) (by omega))]
    have hr := r.book.ran k hc
    by_cases e : w.B.Is k = 1
    · rw [cn_true (by simpa using e), bd_some (ref_of_eq (by omega) (by omega) hr.1 hr.2), gu_true (apok_t (by have := issuedL_len w.B k; omega) (by have := issuedL_len w.B k; omega)), lt_eq, w_i64 (by omega) (by omega)]
      exact ih _ _ ⟨k + 1, by omega, by omega, by simp [issuedL, e]⟩ (by omega)
    · rw [cn_false (by simpa using e), w_i64 (by omega) (by omega)]
      exact ih _ _ ⟨k + 1, by omega, by omega, by simp [issuedL, e]⟩ (by omega)
  · rw [cn_false (by simp; omega)]
    obtain rfl : k = 32 := by omega
    rfl
theorem all5 {n : Nat} (hn : 40 ≤ n) {t : table_Table} {w : ref05_Table} (r : RTb t w) : table_book_All n t.book = some (issuedL w.B 32) := by
  unfold table_book_All; rw [bd_some (issued_eq hn r.book)]
theorem getD_mem {α : Type} [Inhabited α] {l : List α} {i : Nat} (h : i < l.length) : l.getD i default ∈ l := by
  rw [List.getD, List.getElem?_eq_getElem h]; exact List.getElem_mem _
theorem same5 {n : Nat} (hn : 100 ≤ n) {t : table_Table} {w : ref05_Table} (r : RTb t w) : law05_Same n t w = some true := by
  unfold law05_Same
  rw [bd_some (all5 (by omega) r), bd_some (refall5 (by omega) r), cn_false (by simp)]
  have hlen := issuedL_len w.B 32
  have hmem := goodS_all r.book
  refine loop1_ind (fun (i : Int) => 0 ≤ i ∧ i ≤ (issuedL w.B 32).length) (fun i => ((issuedL w.B 32).length - i).toNat) (fun o => o = some true) ?_ n 0 ⟨by omega, by omega⟩ (by omega)
  rintro kk i ⟨i0, i1⟩ ih
  by_cases c : i < (issuedL w.B 32).length
  · have g1 : inb i (issuedL w.B 32).length = true := inb_t i0 c
    have hg := (hmem _).1 (getD_mem (l := issuedL w.B 32) (i := i.toNat) (by omega))
    generalize (issuedL w.B 32).getD i.toNat default = x at *
    have hl := goodW_lt hg.2
    have hp := hg.1
    obtain ⟨l1, l2⟩ := good_live hg
    have hR := r.reg _ l1 l2
    have e1 : (x != x) = false := by simp
    rw [cn_true (by simpa using c), gu_true g1, gu_true g1, w_i64 (x := x) (by omega) (by omega), e1, g1, gu_true (by rfl), cl_some (goodB r.book hp hl), hg.2, cn_false (by rfl), gu_true (b := true) rfl, bd_some (get5_eq r hp hl), if_pos hg.2, gu_true (b := true) rfl, bd_some (refget5_eq (by omega) r hg)]
    dsimp only
    have hu : 0 ≤ (w.R (slN x)).Up ∧ (w.R (slN x)).Up < 4294967296 := by
      rcases r.ups hg with h | h
      · rw [h]; decide
      · exact ⟨h.1, goodW_lt h.2⟩
    have hv1 : (vis5 t w x).Up = (w.R (slN x)).Up := rfl
    have hv2 : (vis5 t w x).Quota = (w.R (slN x)).Quota := hR.q
    have hv3 : (vis5 t w x).E = ⟨(w.R (slN x)).E.Runs.map toR, (w.R (slN x)).E.Len⟩ := hR.e
    have hv4 : ∀ i, i < 8 → (vis5 t w x).Cells i = (w.R (slN x)).Cells i := hR.c
    rw [hv1, hv2, w_i64 (x := (w.R (slN x)).Up) (by omega) (by omega), cl_some (same04_eq (by omega) (by have := hR.n; omega) (by rw [hv3]) (by rw [hv3])), cn_false (by simp)]
    refine loop1_ind (fun (j : Int) => 0 ≤ j ∧ j ≤ 8) (fun j => (8 - j).toNat) (fun o => o = some true) ?_ n 0 ⟨by omega, by omega⟩ (by omega)
    rintro k2 j ⟨j0, j1⟩ ih2
    by_cases cj : j < 8
    · have h4 := hv4 j.toNat (by omega)
      have h5 := hR.c0 j.toNat (by omega)
      rw [cn_true (by simpa using cj), gu_true (inb_t j0 (by omega)), gu_true (inb_t j0 (by omega)), h4, w_i64 (x := (w.R (slN x)).Cells j.toNat) (by omega) (by omega), cn_false (by simp), w_i64 (by omega) (by omega)]
      exact ih2 _ ⟨by omega, by omega⟩ (by omega)
    · rw [cn_false (by simpa using cj), w_i64 (by omega) (by omega)]
      exact ih _ ⟨by omega, by omega⟩ (by omega)
  · rw [cn_false (by simpa using c)]

/-- a region that is given -/
def R5in (x : ref05_Region) : Prop := (-9223372036854775808 ≤ x.Up ∧ x.Up ≤ 9223372036854775807) ∧ (-9223372036854775808 ≤ x.Quota ∧ x.Quota ≤ 9223372036854775807) ∧ ((∀ y ∈ x.E.Runs, ∀ i, i < 2 → -9223372036854775808 ≤ y i ∧ y i ≤ 9223372036854775807) ∧ (-9223372036854775808 ≤ x.E.Len ∧ x.E.Len ≤ 9223372036854775807)) ∧ (∀ i, i < 8 → -9223372036854775808 ≤ x.Cells i ∧ x.Cells i ≤ 9223372036854775807)
theorem runs_ran {l : List (Nat → Int)} (h : ∀ y ∈ l, ∀ i, i < 2 → -9223372036854775808 ≤ y i ∧ y i ≤ 9223372036854775807) : ∀ y ∈ l.map toR, I64 y.At ∧ I64 y.N := by
  intro y hy
  obtain ⟨z, hz, rfl⟩ := List.mem_map.1 hy
  exact ⟨h z hz 0 (by omega), h z hz 1 (by omega)⟩
theorem w32_ran (x : Int) : 0 ≤ wr .u32 x ∧ wr .u32 x ≤ 4294967295 := by
  show 0 ≤ IntKind.u32.wrap x ∧ IntKind.u32.wrap x ≤ 4294967295
  rw [IntKind.wrap_u32]; omega
theorem region5 {n : Nat} (hn : 100 ≤ n) {x : ref05_Region} (hl : x.E.Runs.length ≤ 80) : ∃ p : table_Region, law05_Region n x = some p ∧ p.Quota = x.Quota ∧ p.E = ⟨x.E.Runs.map toR, x.E.Len⟩ ∧ ∀ i, i < 8 → p.Cells i = wr .u32 (x.Cells i) := by
  unfold law05_Region
  rw [bd_some (of04_eq (by omega) hl), lt_eq]
  refine loop2_ind (fun (i : Int) (p : table_Region) => 0 ≤ i ∧ i ≤ 8 ∧ p.Quota = x.Quota ∧ p.E = ⟨x.E.Runs.map toR, x.E.Len⟩ ∧ ∀ j : Nat, (j : Int) < i → p.Cells j = wr .u32 (x.Cells j)) (fun i _ => (8 - i).toNat)
    (fun o => ∃ p : table_Region, o = some p ∧ p.Quota = x.Quota ∧ p.E = ⟨x.E.Runs.map toR, x.E.Len⟩ ∧ ∀ i, i < 8 → p.Cells i = wr .u32 (x.Cells i)) ?_ n 0 _ ⟨by omega, by omega, rfl, rfl, fun j hj => by omega⟩ (by omega)
  rintro kk i p ⟨i0, i1, p1, p2, p3⟩ ih
  by_cases c : i < 8
  · rw [cn_true (by simpa using c), gu_true (inb_t i0 (by omega)), gu_true (inb_t i0 (by omega)), lt_eq, w_i64 (by omega) (by omega)]
    refine ih _ _ ⟨by omega, by omega, p1, p2, fun j hj => ?_⟩ (by omega)
    show upd p.Cells i.toNat _ j = _
    rw [upd_ite]
    by_cases e : j = i.toNat
    · rw [if_pos e, e]
    · rw [if_neg e]; exact p3 j (by omega)
  · rw [cn_false (by simpa using c)]
    exact ⟨p, rfl, p1, p2, fun j hj => p3 j (by omega)⟩
theorem masked5 {n : Nat} (hn : 20 ≤ n) (x : ref05_Region) {ρ : Type} (F : ref05_Region → Option ρ) : ∃ v : ref05_Region, v.Quota = x.Quota ∧ v.E = x.E ∧ (∀ i, i < 8 → v.Cells i = andI .i64 (x.Cells i) 4294967295) ∧
    loop2 (fun k73 (x67 : Int) (x68 : ref05_Region) =>
  cn (decide (x67 < 8)) (
  gu (inb x67 8) <|
  gu (inb x67 8) <|
  lt ({ x68 with Cells := (upd x68.Cells (Int.toNat x67) (andI .i64 (x68.Cells (Int.toNat x67)) 4294967295)) } : ref05_Region) fun x76 =>
  k73 (wr .i64 (x67 + 1)) x76) (F x68)) n 0 x = F v := by
  refine loop2_ind (fun (i : Int) (p : ref05_Region) => 0 ≤ i ∧ i ≤ 8 ∧ p.Quota = x.Quota ∧ p.E = x.E ∧ ∀ j : Nat, p.Cells j = if (j : Int) < i then andI .i64 (x.Cells j) 4294967295 else x.Cells j) (fun i _ => (8 - i).toNat)
    (fun o => ∃ v : ref05_Region, v.Quota = x.Quota ∧ v.E = x.E ∧ (∀ i, i < 8 → v.Cells i = andI .i64 (x.Cells i) 4294967295) ∧ o = F v) ?_ n 0 x ⟨by omega, by omega, rfl, rfl, fun j => by rw [if_neg (by omega)]⟩ (by omega)
  rintro kk i p ⟨i0, i1, p1, p2, p3⟩ ih
  by_cases c : i < 8
  · rw [cn_true (by simpa using c), gu_true (inb_t i0 (by omega)), gu_true (inb_t i0 (by omega)), lt_eq, w_i64 (by omega) (by omega)]
    refine ih _ _ ⟨by omega, by omega, p1, p2, fun j => ?_⟩ (by omega)
    show upd p.Cells i.toNat _ j = _
    rw [upd_ite]
    by_cases e : j = i.toNat
    · rw [if_pos e, if_pos (by omega), p3, if_neg (by omega), e]
    · rw [if_neg e, p3]
      by_cases hj : (j : Int) < i
      · rw [if_pos hj, if_pos (by omega)]
      · rw [if_neg hj, if_neg (by omega)]
  · rw [cn_false (by simpa using c)]
    exact ⟨p, p1, p2, fun j hj => by rw [p3, if_pos (by omega)], rfl⟩
theorem name5_eq {n : Nat} {t : table_Table} {w : ref05_Table} (r : RTb t w) {a : Int} (h0 : 0 ≤ a) (h1 : a < 4294967296) : ∃ v, law05_name n w a = some v ∧ 0 ≤ v ∧ v < 4294967296 := by
  unfold law05_name
  by_cases hc : 1 ≤ a ∧ a ≤ 32
  · have e : (decide (1 ≤ a) && decide (a ≤ 32)) = true := by simpa using hc
    rw [e, w_u32 (x := a - 1) (by omega) (by omega), gu_true (by rw [inb_t (by omega) (by omega)]; rfl), Bool.true_and]
    have hr := r.book.ran (a - 1).toNat (by omega)
    by_cases h2 : w.B.Is (a - 1).toNat = 1
    · obtain ⟨q1, q2, q3, q4, q5⟩ := sl_hof (i := a - 1) (g := w.B.Gen (a - 1).toNat) (by omega) (by omega) hr.1 hr.2
      rw [cn_true (by simpa using h2), w_i64 (by omega) (by omega), bd_some (ref_of_eq (by omega) (by omega) hr.1 hr.2)]
      exact ⟨_, rfl, by omega, q5⟩
    · rw [cn_false (by simpa using h2), w_i64 (by omega) (by omega)]
      exact ⟨_, rfl, h0, h1⟩
  · have e : (decide (1 ≤ a) && decide (a ≤ 32)) = false := by rw [Bool.and_eq_false_iff, decide_eq_false_iff_not, decide_eq_false_iff_not]; omega
    rw [e, gu_true (by rfl), cn_false (by rfl), w_i64 (by omega) (by omega)]
    exact ⟨_, rfl, h0, h1⟩
/-- an act does -/
theorem does5 {n : Nat} (hn : 200 ≤ n) {t : table_Table} {w : ref05_Table} (r : RTb t w) (tt : TTb w) {a : law05_Act} (hA : 0 ≤ a.A ∧ a.A ≤ 4294967295) (hB : 0 ≤ a.B ∧ a.B ≤ 4294967295) (hR : R5in a.R) (hl : a.R.E.Runs.length ≤ 80) :
    ∃ t' w', law05_Does n t w a = some (t', w', true) ∧ RTb t' w' ∧ TTb w' := by
  obtain ⟨u, u1, u2, u3⟩ := name5_eq (n := n) r hA.1 (by omega)
  obtain ⟨v, v1, v2, v3⟩ := name5_eq (n := n) r hB.1 (by omega)
  unfold law05_Does
  rw [bd_some u1, bd_some v1, lt_eq, w_u32 u2 (by omega), w_u32 v2 (by omega)]
  have h0 : wr .i64 0 = 0 := rfl
  by_cases d0 : a.Do = 0
  · obtain ⟨t', w', e, e1, e2, e3⟩ := drop5 (n := n) (by omega) r tt u2 u3
    rw [cn_true (by simpa using d0), bd_some e1, bd_some e2]
    exact ⟨t', w', by simp [h0], e3.rt, e3.tt⟩
  rw [cn_false (by simpa using d0)]
  by_cases d1 : a.Do = 1
  · rw [cn_true (by simpa using d1)]
    obtain ⟨x, x1, x2, x3, x4⟩ := masked5 (n := n) (by omega) a.R (fun x68 => lt ({ x68 with Up := 0 } : ref05_Region) fun x79 =>
  bd (law05_Region n x79) fun x82 =>
  bd (table_Table_Set n t u x82) fun x89 =>
  bd (ref05_Table_Set n w u x79) fun x98 =>
  (some (x89.1, x98.1, ((x89.2 == x98.2) && ((wr .i64 (0 : Int)) == (0 : Int)))) : Option (table_Table × ref05_Table × Bool)))
    have hx2 : x.E.Runs.length ≤ 80 := by rw [x2]; exact hl
    obtain ⟨p, p1, p2, p3, p4⟩ := region5 (n := n) (by omega) (x := { x with Up := 0 }) hx2
    have hpx : RegR p { x with Up := 0 } := by
      refine ⟨p2, p3, hx2, ?_, fun i hi => ?_, fun i hi => ?_⟩
      · show ∀ y ∈ x.E.Runs.map toR, _
        rw [x2]; exact runs_ran hR.2.2.1.1
      · rw [p4 i hi]
        have := and32 (a.R.Cells i)
        exact w_u32 (by rw [x3 i hi]; omega) (by rw [x3 i hi]; omega)
      · have := and32 (a.R.Cells i)
        rw [x3 i hi]; exact this
    obtain ⟨t', w', e, e1, e2, e3⟩ := set5 (n := n) (by omega) r tt u2 u3 hpx
    refine ⟨t', w', x4.trans ?_, e3.rt, e3.tt⟩
    rw [lt_eq, bd_some p1, bd_some e1, bd_some e2]
    simp [h0]
  rw [cn_false (by simpa using d1)]
  by_cases d2 : a.Do = 2
  · obtain ⟨t', w', e, e1, e2, e3⟩ := raise5 (n := n) (by omega) r tt u2 u3 v2 v3
    rw [cn_true (by simpa using d2), bd_some e1, bd_some e2]
    exact ⟨t', w', by simp [h0], e3.rt, e3.tt⟩
  rw [cn_false (by simpa using d2)]
  obtain ⟨t', w', m, e, e1, e2, m0, m1, e3⟩ := new5 (n := n) (by omega) r tt (q := a.R.Quota) u2 u3
  rw [bd_some e1, bd_some e2]
  have hm : wr .i64 m = m := w_i64 (by omega) (by omega)
  exact ⟨t', w', by simp [hm], e3.rt, e3.tt⟩
theorem great5 {n : Nat} (hn : 200 ≤ n) (l : List law05_Act) : ∃ b, law05_Great n l = some b ∧ (b = false → l.length ≤ 150 ∧ ∀ a ∈ l, a.R.E.Runs.length ≤ 80) := by
  unfold law05_Great
  by_cases hc : 150 < l.length
  · rw [cn_true (decide_eq_true (by omega))]; exact ⟨true, rfl, fun h => by cases h⟩
  rw [cn_false (decide_eq_false (by omega))]
  refine loop1_ind (fun (i : Int) => 0 ≤ i ∧ i ≤ l.length ∧ ∀ a ∈ l.take i.toNat, a.R.E.Runs.length ≤ 80) (fun i => ((l.length : Int) - i).toNat) (fun o => ∃ b, o = some b ∧ (b = false → l.length ≤ 150 ∧ ∀ a ∈ l, a.R.E.Runs.length ≤ 80)) ?_ n 0 ⟨by omega, by omega, by simp⟩ (by omega)
  rintro kk i ⟨i0, i1, h⟩ ih
  by_cases c : i < l.length
  · rw [cn_true (by simpa using c), gu_true (inb_t i0 (by omega))]
    by_cases hk : 80 < (l.getD i.toNat default).R.E.Runs.length
    · rw [cn_true (decide_eq_true (by omega))]; exact ⟨true, rfl, fun h => by cases h⟩
    · rw [cn_false (decide_eq_false (by omega)), w_i64 (by omega) (by omega)]
      refine ih _ ⟨by omega, by omega, fun a ha => ?_⟩ (by omega)
      have e : (i + 1).toNat = i.toNat + 1 := by omega
      have hi : i.toNat < l.length := by omega
      rw [e, List.take_succ_eq_append_getElem hi, List.mem_append, List.mem_singleton] at ha
      rcases ha with ha | ha
      · exact h a ha
      · rw [List.getD, List.getElem?_eq_getElem hi] at hk
        rw [ha]; exact Nat.le_of_not_lt hk
  · rw [cn_false (by simpa using c)]
    refine ⟨false, rfl, fun _ => ⟨by omega, fun a ha => h a ?_⟩⟩
    rw [List.take_of_length_le (by omega)]; exact ha
theorem init5 {b : handle_Book} {w : ref03_Book} (r : RB b w) (h0 : ∀ i, i < 32 → w.Is i = 0) (R : Nat → table_Region) (R' : Nat → ref05_Region) : RTb ⟨⟨b⟩, R⟩ ⟨w, R'⟩ ∧ TTb ⟨w, R'⟩ := by
  have no : ∀ i, i < 32 → w.Is i = 1 → False := fun i hi h => by rw [h0 i hi] at h; cases h
  exact ⟨⟨r, fun i hi h => (no i hi h).elim, fun i hi h => (no i hi h).elim, fun i hi h => (no i hi h).elim⟩, fun _ => 0, fun i hi h => (no i hi h).elim⟩
def A5in (a : law05_Act) : Prop := (0 ≤ a.Do ∧ a.Do ≤ 255) ∧ (0 ≤ a.A ∧ a.A ≤ 4294967295) ∧ (0 ≤ a.B ∧ a.B ≤ 4294967295) ∧ R5in a.R
theorem plays5_true {g : List Int} (hg' : ∀ x ∈ g, (0 ≤ x ∧ x ≤ 4294967295)) {l : List law05_Act} (hl : ∀ a ∈ l, A5in a) {ask : Int} (hask : 0 ≤ ask ∧ ask ≤ 4294967295) :
    law05_TablePlays 1000 g l ask = some true := by
  have hg : ∀ x ∈ g, 0 ≤ x ∧ x < 4294967296 := fun x hx => by have := hg' x hx; omega
  unfold law05_TablePlays
  obtain ⟨b, b1, b2⟩ := great5 (n := 1000) (by omega) l
  rw [bd_some b1]
  by_cases hc : b = true ∨ 100 < g.length
  · rw [cn_true (by rw [Bool.or_eq_true]; exact hc.imp _root_.id fun h => decide_eq_true (by omega)), bd_some wakes05]
  obtain ⟨hb, hgl⟩ := not_or.1 hc
  have hb : b = false := by cases b <;> simp_all
  obtain ⟨c1, c2⟩ := b2 hb
  rw [cn_false (by rw [hb, Bool.false_or]; exact decide_eq_false (by omega))]
  obtain ⟨b0, hb0, hbs⟩ := aged_eq (n := 1000) (by omega) (by omega) hg
  obtain ⟨w0, hw0, hws⟩ := refaged_eq (n := 1000) (by omega) (by omega) hg
  obtain ⟨r0, t0⟩ := init5 (aged_RB hg hbs hws) (fun i hi => (hws i hi).2) (fun _ => Z_table_Region) (fun _ => Z_ref05_Region)
  have hA : table_Aged 1000 g = some ⟨⟨b0⟩, fun _ => Z_table_Region⟩ := by unfold table_Aged; rw [bd_some hb0]; rfl
  rw [bd_some hA, bd_some hw0, lt_eq]
  refine loop5_ind (fun (i : Int) (was : ref05_Table) (half : table_Table) (w : ref05_Table) (t : table_Table) => 0 ≤ i ∧ i ≤ l.length ∧ RTb t w ∧ TTb w ∧ RTb half was) (fun i _ _ _ _ => ((l.length : Int) - i).toNat) (fun o => o = some true) ?_ 1000 0 _ _ _ _ ⟨by omega, by omega, r0, t0, r0⟩ (by omega)
  rintro kk i was half w t ⟨i0, i1, r, tt, rh⟩ ih
  by_cases hx : i < l.length
  · rw [cn_true (by simpa using hx), gu_true (inb_t i0 (by omega))]
    have hm := getD_mem (l := l) (i := i.toNat) (by omega)
    obtain ⟨_, a1, a2, a3⟩ := hl _ hm
    have a4 := c2 _ hm
    generalize l.getD i.toNat default = a at *
    obtain ⟨t', w', e, r', tt'⟩ := does5 (n := 1000) (by omega) r tt a1 a2 a3 a4
    rw [bd_some e]
    dsimp only
    rw [cn_false (by rfl), w_i64 (x := i + 1) (by omega) (by omega)]
    cases (i == (wr .i64 (Int.tdiv (l.length : Int) 2))) with
    | true => rw [cn_true rfl]; exact ih _ _ _ _ _ ⟨by omega, by omega, r', tt', r'⟩ (by omega)
    | false => rw [cn_false rfl]; exact ih _ _ _ _ _ ⟨by omega, by omega, r', tt', rh⟩ (by omega)
  · have hk1 : ask < 4294967296 := by omega
    rw [cn_false (by simpa using hx), bd_some (get5_eq r hask.1 hk1), bd_some (same5 (by omega) r), w_i64 (x := ask) (by omega) (by omega)]
    have gk := goodB (n := 1000) r.book hask.1 hk1
    have rk := refgood5_eq (n := 1000) (by omega) r hask.1
    refine (cl_true (by rfl) (same5 (by omega) rh)).trans ((cl_true (by rfl) gk).trans ((cl_true (by rfl) rk).trans ?_))
    cases hgd : goodW w.B ask with
    | true => rw [hgd] at rk; exact (cl_true (by rfl) rk).trans ((cl_true (by rfl) wakes05).trans rfl)
    | false => rw [hgd] at rk; exact (cl_true (by rfl) rk).trans ((cl_true (by rfl) wakes05).trans rfl)
end Go.Proofs.Ytmdpbdhkmfjlhaa
