/- TableAbove, as a plain law. -/
import Derived.Test.YtmdpbdhkmfjlhaaL05d
namespace Go.Proofs.Ytmdpbdhkmfjlhaa
open Go Go.Bw

theorem eqA_refl (k : Nat) (f : Nat → Int) : eqA k f f = true := by unfold eqA; simp
theorem none5 {i : Nat} (h : Z_ref05_Table.B.Is i = 1) : False := absurd (show (0 : Int) = 1 from h) (by decide)
theorem zero5 : RTb Z_table_Table Z_ref05_Table ∧ TTb Z_ref05_Table :=
  ⟨⟨⟨fun i _ => rfl, fun i _ => rfl, fun i _ => rfl, fun i _ => .inl rfl, fun i _ => ⟨Int.le_refl 0, show (0 : Int) ≤ 8388607 by decide⟩⟩, fun i _ h => (none5 h).elim, fun i _ h => (none5 h).elim, fun i _ h => (none5 h).elim⟩, fun _ => 0, fun i _ h => (none5 h).elim⟩
/-- the two readings of a table -/
theorem looks5 {n : Nat} (hn : 100 ≤ n) {t t' : table_Table} {w w' : ref05_Table} {who e : Int} {dr : Bool} {d : Int} (r : RTb t w) (k : Kp5 t w t' w' who e dr) (hd : dr = true → d = 0) (z : Option Bool) :
  (bd (table_book_All n t.book) fun x100 =>
  loop1 (fun k111 (x108 : Int) =>
  cn (decide (x108 < (x100.length : Int))) (
  gu (inb x108 x100.length) <|
  cn ((((x100.getD (Int.toNat x108) default) == who) && (e == 0))) (
  k111 (wr .i64 (x108 + 1))) (
  gu (inb x108 x100.length) <|
  bd (table_Table_Get n t (x100.getD (Int.toNat x108) default)) fun x114 =>
  gu (inb x108 x100.length) <|
  bd (table_Table_Get n t' (x100.getD (Int.toNat x108) default)) fun x124 =>
  cn ((((((((x114.2 != 0) || (x124.2 != 0)) || (x114.1.Quota != x124.1.Quota)) || (!(eqA 8 x114.1.Cells x124.1.Cells))) || (x114.1.E.Len != x124.1.E.Len)) || ((x114.1.E.Runs.length : Int) != (x124.1.E.Runs.length : Int))) || ((x114.1.Up != x124.1.Up) && (!(((((e == 0) && (d == 0)) && (x114.1.Up == who)) && (who != 0)) && (x124.1.Up == 0)))))) (
  some false) (
  k111 (wr .i64 (x108 + 1))))) (
  bd (table_book_All n t'.book) fun x139 =>
  loop1 (fun k150 (x147 : Int) =>
  cn (decide (x147 < (x139.length : Int))) (
  gu (inb x147 x139.length) <|
  loop2 (fun k158 (x154 : Int) (x155 : Int) =>
  cn (((x154 != 0) && decide (x155 ≤ 32))) (
  bd (table_Table_Get n t' x154) fun x159 =>
  cn ((x159.2 != 0)) (
  some false) (
  k158 x159.1.Up (wr .i64 (x155 + 1)))) (
  cn (decide (32 < x155)) (
  some false) (
  k150 (wr .i64 (x147 + 1))))) n (x139.getD (Int.toNat x147) default) 0) z) n 0)) n 0) = z := by
  have r' := k.rt
  rw [bd_some (all5 (by omega) r)]
  have hlen := issuedL_len w.B 32
  have hmem := goodS_all r.book
  refine loop1_ind (fun (i : Int) => 0 ≤ i ∧ i ≤ (issuedL w.B 32).length) (fun i => ((issuedL w.B 32).length - i).toNat) (fun o => o = z) ?_ n 0 ⟨by omega, by omega⟩ (by omega)
  rintro kk i ⟨i0, i1⟩ ih
  by_cases c : i < (issuedL w.B 32).length
  · have g1 : inb i (issuedL w.B 32).length = true := inb_t i0 c
    have hg := (hmem _).1 (getD_mem (l := issuedL w.B 32) (i := i.toNat) (by omega))
    generalize (issuedL w.B 32).getD i.toNat default = x at *
    have hl := goodW_lt hg.2
    rw [cn_true (by simpa using c), gu_true g1, w_i64 (by omega) (by omega)]
    have nxt := ih (i + 1) ⟨by omega, by omega⟩ (by omega)
    by_cases hs : x = who ∧ e = 0
    · rw [cn_true (by simp [hs])]; exact nxt
    · have hb : ((x == who) && (e == 0)) = false := by rw [Bool.and_eq_false_iff, beq_eq_false_iff_ne, beq_eq_false_iff_ne]; omega
      obtain ⟨k1, k2, k3, k4, k5⟩ := k.kp x hg hs
      rw [cn_false hb, gu_true g1, bd_some (get5_eq r hg.1 hl), if_pos hg.2, gu_true g1, bd_some (get5_eq r' hg.1 hl), if_pos k1.2]
      have v1 : (vis5 t' w' x).Quota = (vis5 t w x).Quota := k2
      have v2 : (vis5 t' w' x).E = (vis5 t w x).E := k3
      have v3 : (vis5 t' w' x).Cells = (vis5 t w x).Cells := k4
      dsimp only
      rw [v1, v2, v3, eqA_refl, cn_false ?_]
      · exact nxt
      · have u1 : (vis5 t w x).Up = (w.R (slN x)).Up := rfl
        have u2 : (vis5 t' w' x).Up = (w'.R (slN x)).Up := rfl
        rw [u1, u2]
        rcases k5 with h | ⟨h1, h2, h3, h4, h5⟩
        · rw [h]; simp
        · rw [hd h1, h2, h3, h5]
          have : (who != 0) = true := by simpa using h4
          rw [this]; simp
  · rw [cn_false (by simpa using c), bd_some (all5 (by omega) r')]
    have hlen := issuedL_len w'.B 32
    have hmem := goodS_all r'.book
    refine loop1_ind (fun (i : Int) => 0 ≤ i ∧ i ≤ (issuedL w'.B 32).length) (fun i => ((issuedL w'.B 32).length - i).toNat) (fun o => o = z) ?_ n 0 ⟨by omega, by omega⟩ (by omega)
    rintro k2 j ⟨j0, j1⟩ ih2
    by_cases cj : j < (issuedL w'.B 32).length
    · have g1 : inb j (issuedL w'.B 32).length = true := inb_t j0 cj
      have hg := (hmem _).1 (getD_mem (l := issuedL w'.B 32) (i := j.toNat) (by omega))
      generalize (issuedL w'.B 32).getD j.toNat default = x at *
      rw [cn_true (by simpa using cj), gu_true g1, w_i64 (x := j + 1) (by omega) (by omega)]
      have nxt := ih2 (j + 1) ⟨by omega, by omega⟩ (by omega)
      obtain ⟨ρ, hρ⟩ := k.tt
      refine loop2_ind (fun (y c : Int) => (y = 0 ∨ goodS w'.B y) ∧ 0 ≤ c ∧ c + chain5 w' ρ y ≤ 32) (fun y _ => chain5 w' ρ y) (fun o => o = z) ?_ n x 0 ⟨.inr hg, by omega, by have := chain5_le w' ρ x; omega⟩ (by have := chain5_le w' ρ x; omega)
      rintro k3 y c ⟨y0, y1, y2⟩ ih3
      by_cases h0 : y = 0
      · subst h0
        rw [cn_false (by rfl), cn_false (decide_eq_false (by omega))]
        exact nxt
      · have hgy := y0.resolve_left h0
        have hp : ((y != 0) && decide (c ≤ 32)) = true := by rw [Bool.and_eq_true, bne_iff_ne, decide_eq_true_eq]; exact ⟨h0, by omega⟩
        rw [cn_true hp, bd_some (get5_eq r' hgy.1 (goodW_lt hgy.2)), if_pos hgy.2, cn_false (by rfl), w_i64 (by omega) (by omega)]
        have := chain5_lt r' hρ hgy
        exact ih3 _ _ ⟨r'.ups hgy, by omega, by show c + 1 + (chain5 w' ρ (w'.R (slN y)).Up : Int) ≤ 32; omega⟩ this
    · rw [cn_false (by simpa using cj)]
theorem above5_true {l : List law05_Act} (hl : ∀ a ∈ l, A5in a) : law05_TableAbove 1000 l = some true := by
  unfold law05_TableAbove
  obtain ⟨b, b1, b2⟩ := great5 (n := 1000) (by omega) l
  rw [bd_some b1]
  cases b with
  | true => rw [cn_true rfl, bd_some wakes05]
  | false =>
  obtain ⟨c1, c2⟩ := b2 rfl
  rw [cn_false rfl]
  refine loop2_ind (fun (i : Int) (t : table_Table) => 0 ≤ i ∧ i ≤ l.length ∧ ∃ w, RTb t w ∧ TTb w) (fun i _ => ((l.length : Int) - i).toNat) (fun o => o = some true) ?_ 1000 0 _ ⟨by omega, by omega, _, zero5.1, zero5.2⟩ (by omega)
  rintro kk i t ⟨i0, i1, w, r, tt⟩ ih
  by_cases hx : i < l.length
  · rw [cn_true (by simpa using hx), gu_true (inb_t i0 (by omega)), lt_eq, lt_eq]
    have hm := getD_mem (l := l) (i := i.toNat) (by omega)
    obtain ⟨_, a1, a2, a3⟩ := hl _ hm
    have a4 := c2 _ hm
    generalize l.getD i.toNat default = a at *
    rw [w_i64 (x := i + 1) (by omega) (by omega)]
    have nxt : ∀ t' w', RTb t' w' → TTb w' → kk (i + 1) t' = some true := fun t' w' r' tt' => ih _ _ ⟨by omega, by omega, w', r', tt'⟩ (by omega)
    by_cases d0 : a.Do = 0
    · obtain ⟨t', w', e, e1, e2, e3⟩ := drop5 (n := 1000) (by omega) r tt a1.1 (by omega)
      rw [cn_true (by simpa using d0), bd_some e1]
      exact (looks5 (by omega) r e3 (fun _ => d0) _).trans (nxt _ _ e3.rt e3.tt)
    rw [cn_false (by simpa using d0)]
    by_cases d1 : a.Do = 1
    · obtain ⟨p, p1, p2, p3, p4⟩ := region5 (n := 1000) (by omega) a4
      have hpx : RegR p { a.R with Cells := p.Cells } := ⟨p2, p3, a4, runs_ran a3.2.2.1.1, fun _ _ => rfl, fun i hi => by
        have := w32_ran (a.R.Cells i)
        show 0 ≤ p.Cells i ∧ p.Cells i ≤ 4294967295
        rw [p4 i hi]; exact this⟩
      obtain ⟨t', w', e, e1, e2, e3⟩ := set5 (n := 1000) (by omega) r tt a1.1 (by omega) hpx
      rw [cn_true (by simpa using d1), bd_some p1, bd_some e1]
      exact (looks5 (by omega) r e3 (fun h => by cases h) _).trans (nxt _ _ e3.rt e3.tt)
    rw [cn_false (by simpa using d1)]
    by_cases d2 : a.Do = 2
    · obtain ⟨t', w', e, e1, e2, e3⟩ := raise5 (n := 1000) (by omega) r tt a1.1 (by omega) a2.1 (by omega)
      rw [cn_true (by simpa using d2), bd_some e1]
      exact (looks5 (by omega) r e3 (fun h => by cases h) _).trans (nxt _ _ e3.rt e3.tt)
    rw [cn_false (by simpa using d2)]
    obtain ⟨t', w', m, e, e1, e2, m0, m1, e3⟩ := new5 (n := 1000) (by omega) r tt (q := a.R.Quota) a1.1 (by omega)
    rw [bd_some e1]
    exact (looks5 (by omega) r e3 (fun h => by cases h) _).trans (nxt _ _ e3.rt e3.tt)
  · rw [cn_false (by simpa using hx), bd_some wakes05]
end Go.Proofs.Ytmdpbdhkmfjlhaa
