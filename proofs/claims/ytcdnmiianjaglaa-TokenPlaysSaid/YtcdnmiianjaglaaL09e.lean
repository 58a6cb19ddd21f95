/- TokenPlays, as a plain law. -/
import Derived.Test.YtcdnmiianjaglaaL09d
namespace Go.Proofs.Ytcdnmiianjaglaa
open Go Go.Bw

theorem TT.voids {k k' : token_Tokens} {w : ref09_Tokens} (t : TT k w) (l : List Int) (hs : k'.slots = k.slots) : TT k' { w with B := l.foldl vdW w.B } := by
  refine ⟨fun i hi h1 => ?_, ?_⟩
  · rw [hs]
    exact (t.past i hi (vds_live l h1).1).imp _root_.id (vds_past l)
  · obtain ⟨ρ, hρ⟩ := t.rank
    refine ⟨ρ, fun i j hi h1 hk => ?_⟩
    obtain ⟨k1, k2, k3⟩ := hk
    rw [hs] at k3
    have hi1 := vds_live l h1
    have hj1 := vds_live l k2
    exact hρ i j hi hi1.1 ⟨k1, hj1.1, by rw [k3]; show hofI i ((l.foldl vdW w.B).Gen i) = _; rw [hi1.2]⟩
def sumR (ρ : Nat → Nat) : Nat → Nat
  | 0 => 0
  | k + 1 => sumR ρ k + ρ k
theorem sumR_le (ρ : Nat → Nat) {j : Nat} : ∀ k, j < k → ρ j ≤ sumR ρ k
  | 0, h => absurd h (Nat.not_lt_zero _)
  | k + 1, h => by
    simp only [sumR]
    by_cases e : j = k
    · subst e; omega
    · have := sumR_le ρ (j := j) k (by omega); omega
theorem good_past {w : ref03_Book} {x : Int} (h : goodS w x) : pastS w x := by
  obtain ⟨g1, g2, g3⟩ := good_slot h.2
  exact ⟨h.1, g1, .inr ⟨g3.symm, by show w.Is (slN x) ≠ 0; omega⟩⟩
theorem TT.lend {k : token_Tokens} {w : ref09_Tokens} {x : token_Token} {k' : token_Tokens} {w' : ref09_Tokens} {m e : Int} (t : TT k w) (r : RT k w) (hx : TokR x) (h : LD k w x k' w' m e) : TT k' w' := by
  by_cases he : e = 0
  · obtain ⟨f, h1, h2, h3, h4, h5, h6, h7⟩ := h.good he
    subst h4
    have hok : okA w x.Above = true := by
      unfold mayV at h7
      cases ho : okA w x.Above with
      | true => rfl
      | false => rw [ho, Bool.not_false, cond_true] at h7; exact absurd h7 (by decide)
    have hr := r.book.ran f (by omega)
    have hfree := h1.2.2 (by omega)
    have hax : x.Above = 0 ∨ goodS w.B x.Above := by
      unfold okA at hok
      rw [Bool.or_eq_true, beq_iff_eq] at hok
      exact hok.imp _root_.id fun hg => ⟨hx.above.1, hg⟩
    have hpos := (sl_hof (i := f) (g := w.B.Gen f) (by omega) (by omega) hr.1 hr.2)
    have hnew : ∀ a, (a = 0 ∨ pastS w.B a) → a ≠ hofI f (w.B.Gen f) := fun a ha e => by
      rcases ha with ha | ha
      · have := hpos.2.2.2.1; omega
      · subst e; exact past_not r.book h1 (by omega) ha
    refine ⟨fun i hi hs => ?_, ?_⟩
    · rw [h3, upd_ite]
      by_cases e1 : i = f
      · rw [if_pos e1]
        exact hax.imp _root_.id fun hg => past_issue _ (good_past hg)
      · rw [if_neg e1]
        have hs' : w.B.Is i = 1 := by rw [← hs]; exact (upd_ne _ _ e1).symm
        exact (t.past i hi hs').imp _root_.id (past_issue _)
    · obtain ⟨ρ, hρ⟩ := t.rank
      refine ⟨upd ρ f (1 + sumR ρ 32), fun i j hi hs hk => ?_⟩
      obtain ⟨k1, k2, k3⟩ := hk
      rw [h3, upd_ite] at k3
      replace k3 : (if j = f then x else k.slots j).Above = hofI i (w.B.Gen i) := k3
      rw [upd_ite, upd_ite]
      by_cases ej : j = f
      · rw [if_pos ej] at k3
        rw [if_pos ej]
        have hif : i ≠ f := fun e => by
          subst e
          exact hnew _ (hax.imp _root_.id good_past) k3
        rw [if_neg hif]
        have := sumR_le ρ 32 hi; omega
      · rw [if_neg ej] at k3
        rw [if_neg ej]
        have hj' : w.B.Is j = 1 := by rw [← k2]; exact (upd_ne _ _ ej).symm
        by_cases ei : i = f
        · subst ei
          exact absurd k3 (hnew _ (t.past j k1 hj'))
        · rw [if_neg ei]
          have hi' : w.B.Is i = 1 := by rw [← hs]; exact (upd_ne _ _ ei).symm
          exact hρ i j hi hi' ⟨k1, hj', k3⟩
  · obtain ⟨rfl, rfl, _⟩ := h.bad he
    exact t
theorem RetP.next {k : token_Tokens} {w : ref09_Tokens} {h : Int} {k' : token_Tokens} {w' : ref09_Tokens} {l : List Int} {e : Int} (p : RetP k w h k' w' l e) (r : RT k w) (t : TT k w) : RT k' w' ∧ TT k' w' := by
  cases hg : goodW w.B h with
  | false => obtain ⟨rfl, rfl, _⟩ := p.no hg; exact ⟨r, t⟩
  | true =>
    obtain ⟨_, h1, h2, h3, _⟩ := p.yes hg
    subst h3
    exact ⟨h1, t.voids l h2⟩
theorem RetP.ran {k : token_Tokens} {w : ref09_Tokens} {h : Int} {k' : token_Tokens} {w' : ref09_Tokens} {l : List Int} {e : Int} (p : RetP k w h k' w' l e) (r : RT k w) : (∀ x ∈ l, 0 ≤ x ∧ x < 4294967296) ∧ l.length ≤ 32 := by
  cases hg : goodW w.B h with
  | false => obtain ⟨_, _, rfl, _⟩ := p.no hg; exact ⟨fun x hx => (by cases hx), by decide⟩
  | true =>
    obtain ⟨_, _, _, _, g, _, e⟩ := p.yes hg
    rw [e]
    have q1 := those_ran r.book (p := g)
    have q2 := thoseL_len w.B g 32
    exact ⟨q1, q2⟩
theorem row9_eq {n : Nat} (hn : 200 ≤ n) {l : List Int} (hl : l.length ≤ 100) (hr : ∀ x ∈ l, 0 ≤ x ∧ x < 4294967296) : law09_row n l l = some true := by
  unfold law09_row
  rw [cn_false (by simp)]
  refine loop1_ind (fun (i : Int) => 0 ≤ i ∧ i ≤ l.length) (fun i => ((l.length : Int) - i).toNat) (fun o => o = some true) ?_ n 0 ⟨by omega, by omega⟩ (by omega)
  rintro kk i ⟨i0, i1⟩ ih
  by_cases c : i < l.length
  · have hm : l.getD i.toNat default ∈ l := by
      rw [List.getD, List.getElem?_eq_getElem (show i.toNat < l.length by omega)]; exact List.getElem_mem _
    have := hr _ hm
    rw [cn_true (by simpa using c), gu_true (inb_t i0 c), gu_true (inb_t i0 c), w_i64 (by omega) (by omega), cn_false (by simp), w_i64 (by omega) (by omega)]
    exact ih _ ⟨by omega, by omega⟩ (by omega)
  · rw [cn_false (by simpa using c)]
def tok9 (k : token_Tokens) (w : ref09_Tokens) (h : Int) : token_Token := bif goodW w.B h then k.slots (slN h) else ⟨0, 0, 0, false, 0⟩
theorem get9 {n : Nat} {k : token_Tokens} {w : ref09_Tokens} (r : RT k w) {h : Int} (h0 : 0 ≤ h) (h1 : h < 4294967296) : token_Tokens_Get n k h = some (tok9 k w h, bif goodW w.B h then 0 else 4) := by
  rw [get_eq r h0 h1]
  unfold tok9
  cases goodW w.B h <;> rfl
theorem refget9 {n : Nat} (hn : 40 ≤ n) {k : token_Tokens} {w : ref09_Tokens} (r : RT k w) {h : Int} (h0 : 0 ≤ h) : ref09_Tokens_Get n w h = some (ofT (tok9 k w h), bif goodW w.B h then 0 else 4) := by
  rw [refget_eq hn r h0]
  unfold tok9
  cases goodW w.B h <;> rfl
theorem tok9_ran {k : token_Tokens} {w : ref09_Tokens} (r : RT k w) (h : Int) : TokR (tok9 k w h) := by
  unfold tok9
  cases hg : goodW w.B h with
  | false => exact ⟨⟨Int.le_refl 0, by show (0 : Int) < _; decide⟩, ⟨Int.le_refl 0, by show (0 : Int) < _; decide⟩, ⟨Int.le_refl 0, by show (0 : Int) < _; decide⟩, ⟨Int.le_refl 0, by show (0 : Int) < _; decide⟩⟩
  | true =>
    obtain ⟨g1, g2, g3⟩ := good_slot hg
    exact (r.tok _ (r.lt16 (slN_lt h) g2) g2).2
theorem eqT (x : ref09_Token) : EQ_ref09_Token x x = true := by unfold EQ_ref09_Token; simp
theorem same9_eq {n : Nat} (hn : 200 ≤ n) {k : token_Tokens} {w : ref09_Tokens} (r : RT k w) : law09_Same n k w = some true := by
  unfold law09_Same
  refine loop1_ind (fun (i : Int) => 0 ≤ i ∧ i ≤ 32) (fun i => (32 - i).toNat) (fun o => o = some true) ?_ n 0 ⟨by omega, by omega⟩ (by omega)
  rintro kk i ⟨i0, i1⟩ ih
  by_cases c : i < 32
  · have hr := r.book.ran i.toNat (by omega)
    obtain ⟨q1, q2, q3, q4, q5⟩ := sl_hof (i := i) (g := w.B.Gen i.toNat) i0 c hr.1 hr.2
    rw [cn_true (by simpa using c), bd_some (ref_of_eq i0 c hr.1 hr.2)]
    generalize hofI i (w.B.Gen i.toNat) = h at *
    have ht := tok9_ran r h
    rw [w_u32 (by omega) (by omega), bd_some (get9 r (by omega) q5), bd_some (refget9 (by omega) r (by omega))]
    have h1 := ht.region
    have e1 : ((bif goodW w.B h then (0 : Int) else 4) != (bif goodW w.B h then 0 else 4)) = false := by simp
    dsimp only
    rw [cl_some (of09_eq ht), w_i64 (x := (tok9 k w h).Region) (by omega) (by omega), e1]
    rw [cl_some (reads_eq (by omega) r _ (by omega) q5), cl_some (refreads_eq (by omega) r _ (by omega)), cl_some (writes_eq (by omega) r _ (by omega) q5), cl_some (refwrites_eq (by omega) r _ (by omega))]
    rw [cn_false ?_, w_i64 (by omega) (by omega)]
    · exact ih _ ⟨by omega, by omega⟩ (by omega)
    · cases goodW w.B h <;> simp [eqT]
  · rw [cn_false (by simpa using c)]
theorem name9_eq {n : Nat} {k : token_Tokens} {w : ref09_Tokens} (r : RT k w) {a : Int} (h0 : 0 ≤ a) (h1 : a < 4294967296) : ∃ v, law09_name n w a = some v ∧ 0 ≤ v ∧ v < 4294967296 := by
  unfold law09_name
  by_cases hc : 1 ≤ a ∧ a ≤ 16
  · have e : (decide (1 ≤ a) && decide (a ≤ 16)) = true := by simpa using hc
    rw [e, w_u32 (x := a - 1) (by omega) (by omega), gu_true (by rw [inb_t (by omega) (by omega)]; rfl), Bool.true_and]
    have hr := r.book.ran (a - 1).toNat (by omega)
    by_cases h2 : w.B.Is (a - 1).toNat = 1
    · obtain ⟨q1, q2, q3, q4, q5⟩ := sl_hof (i := a - 1) (g := w.B.Gen (a - 1).toNat) (by omega) (by omega) hr.1 hr.2
      rw [cn_true (by simpa using h2), w_i64 (by omega) (by omega), bd_some (ref_of_eq (by omega) (by omega) hr.1 hr.2)]
      exact ⟨_, rfl, by omega, q5⟩
    · rw [cn_false (by simpa using h2), w_i64 (by omega) (by omega)]
      exact ⟨_, rfl, h0, h1⟩
  · have e : (decide (1 ≤ a) && decide (a ≤ 16)) = false := by rw [Bool.and_eq_false_iff, decide_eq_false_iff_not, decide_eq_false_iff_not]; omega
    rw [e, gu_true (by rfl), cn_false (by rfl), w_i64 (by omega) (by omega)]
    exact ⟨_, rfl, h0, h1⟩
theorem thoseL_false {w : ref03_Book} {p : Nat → Bool} (h : ∀ i, i < 32 → w.Is i = 1 → p i = false) : ∀ k, k ≤ 32 → thoseL w p k = []
  | 0, _ => rfl
  | k + 1, hk => by
    rw [thoseL, thoseL_false h k (by omega), if_neg (fun hh => by rw [h k (by omega) hh.1] at hh; cases hh.2)]; rfl
theorem none9 {i : Nat} (h : Z_ref09_Tokens.B.Is i = 1) : False := absurd (show (0 : Int) = 1 from h) (by decide)
theorem init9 : RT Z_token_Tokens Z_ref09_Tokens ∧ TT Z_token_Tokens Z_ref09_Tokens :=
  ⟨⟨⟨fun i _ => rfl, fun i _ => rfl, fun i _ => rfl, fun i _ => .inl rfl, fun i _ => ⟨Int.le_refl 0, show (0 : Int) ≤ 8388607 by decide⟩⟩, fun i _ h => (none9 h).elim, fun i _ _ => rfl, fun i _ => Int.le_refl _⟩, fun i _ h => (none9 h).elim, fun _ => 0, fun i j _ h => (none9 h).elim⟩

theorem plays9_true {l : List law09_Act} (hl : ∀ a ∈ l, ((0 ≤ a.Do ∧ a.Do ≤ 255) ∧ (0 ≤ a.H ∧ a.H ≤ 4294967295) ∧ ((0 ≤ a.X.Region ∧ a.X.Region ≤ 4294967295) ∧ (0 ≤ a.X.By ∧ a.X.By ≤ 255) ∧ (0 ≤ a.X.To ∧ a.X.To ≤ 255) ∧ (0 ≤ a.X.Above ∧ a.X.Above ≤ 4294967295)))) {g : Int} (hg : 0 ≤ g ∧ g ≤ 4294967295) {t : Int} (ht : -9223372036854775808 ≤ t ∧ t ≤ 9223372036854775807) :
    law09_TokenPlays 1000 l g t = some true := by
  unfold law09_TokenPlays
  by_cases hc : 150 < l.length
  · rw [cn_true (decide_eq_true (by omega)), bd_some wakes09]
  rw [cn_false (decide_eq_false (by omega))]
  refine loop5_ind (fun (i : Int) (was w : ref09_Tokens) (half k : token_Tokens) => 0 ≤ i ∧ i ≤ l.length ∧ RT k w ∧ TT k w ∧ RT half was) (fun i _ _ _ _ => ((l.length : Int) - i).toNat) (fun o => o = some true) ?_ 1000 0 _ _ _ _ ⟨by omega, by omega, init9.1, init9.2, init9.1⟩ (by omega)
  rintro kk i was w half k ⟨i0, i1, r, tt, rh⟩ ih
  by_cases hx : i < l.length
  · rw [cn_true (by simpa using hx), gu_true (inb_t i0 (by omega)), lt_eq]
    have hm : l.getD i.toNat default ∈ l := by
      rw [List.getD, List.getElem?_eq_getElem (show i.toNat < l.length by omega)]; exact List.getElem_mem _
    obtain ⟨⟨a0, a1⟩, ⟨a2, a3⟩, ⟨b0, b1⟩, ⟨b2, b3⟩, ⟨b4, b5⟩, b6, b7⟩ := hl _ hm
    generalize l.getD i.toNat default = a at *
    obtain ⟨v, v1, v2, v3⟩ := name9_eq (n := 1000) r a2 (by omega)
    rw [bd_some v1, lt_eq]
    -- behind each act
    have rest : ∀ (w' : ref09_Tokens) (k' : token_Tokens), RT k' w' → TT k' w' →
        (bd (law09_Same 1000 k' w') fun x64 =>
        cn ((!x64)) (some false) (
        cn ((i == (wr .i64 (Int.tdiv (l.length : Int) 2)))) (
        kk (wr .i64 (i + 1)) w' w' k' k') (
        kk (wr .i64 (i + 1)) was w' half k'))) = some true := by
      intro w' k' r' t'
      rw [bd_some (same9_eq (by omega) r'), cn_false (b := !true) rfl, w_i64 (x := i + 1) (by omega) (by omega)]
      cases (i == (wr .i64 (Int.tdiv (l.length : Int) 2))) with
      | true => rw [cn_true rfl]; exact ih _ _ _ _ _ ⟨by omega, by omega, r', t', r'⟩ (by omega)
      | false => rw [cn_false rfl]; exact ih _ _ _ _ _ ⟨by omega, by omega, r', t', rh⟩ (by omega)
    by_cases hd0 : a.Do = 0
    · obtain ⟨k', w', m, e, e1, e2, e3⟩ := ret_eq (n := 1000) (by omega) r tt v2 v3
      rw [cn_true (by simpa using hd0), w_u32 v2 (by omega), bd_some e1, bd_some e2]
      have hrn := e3.ran r
      dsimp only
      rw [cl_some (row9_eq (by omega) (by omega) hrn.1), cn_false (by simp)]
      obtain ⟨n1, n2⟩ := e3.next r tt
      exact rest _ _ n1 n2
    · rw [cn_false (by simpa using hd0)]
      by_cases hd1 : a.Do = 1
      · obtain ⟨k', e1, e2, e3, e4⟩ := clear_eq (n := 1000) (by omega) r b0
        rw [cn_true (by simpa using hd1), bd_some e1, w_i64 (by omega) (by omega), bd_some e2]
        exact rest _ _ e3 (tt.voids _ e4)
      · rw [cn_false (by simpa using hd1)]
        obtain ⟨u, u1, u2, u3⟩ := name9_eq (n := 1000) r b6 (by omega)
        rw [bd_some u1, lt_eq, w_u32 u2 (by omega)]
        have hX : TokR { a.X with Above := u } := ⟨⟨b0, by show a.X.Region < _; omega⟩, ⟨b2, by show a.X.By < _; omega⟩, ⟨b4, by show a.X.To < _; omega⟩, u2, u3⟩
        obtain ⟨k', w', m, e, e1, e2, e3⟩ := lend_eq (n := 1000) (by omega) r hX
        rw [bd_some e1, bd_some (of09_eq hX), bd_some e2]
        have hmr : 0 ≤ m ∧ m < 4294967296 := by
          by_cases he : e = 0
          · obtain ⟨f, h1, h2, _, _, _, h6, _⟩ := e3.good he
            have hr := r.book.ran f (by omega)
            obtain ⟨q1, q2, q3, q4, q5⟩ := sl_hof (i := f) (g := w.B.Gen f) (by omega) (by omega) hr.1 hr.2
            omega
          · have := (e3.bad he).2.2; omega
        rw [cn_false (by rw [w_i64 (x := m) (by omega) (by omega)]; simp)]
        exact rest _ _ (e3.rt r hX) (tt.lend r hX e3)
  · rw [cn_false (by simpa using hx)]
    have hof := ofk_eq (n := 1000) (by omega) r t
    by_cases h0 : t < 0
    · rw [cn_true (by simpa using h0), bd_some hof]
      have : thoseL w.B (fun i => (k.slots i).To == t) 32 = [] := thoseL_false (fun i hi h1 => by
        have := ((r.tok i (r.lt16 hi h1) h1).2).to
        simp; omega) 32 (Nat.le_refl _)
      rw [this]
      exact (cl_true (by rfl) wakes09).trans rfl
    · rw [cn_false (by simpa using h0), bd_some (same9_eq (by omega) rh), w_i64 (x := g) (by omega) (by omega)]
      have t1 : ref09_Tokens_Those 1000 w g (-1) = some (thoseL w.B (fun i => (k.slots i).Region == g) 32) := by
        refine (refthose_eq (by omega) r g (-1)).trans (congrArg some (thoseL_congr (fun i _ _ => ?_) 32 (Nat.le_refl _)))
        have : decide (g < 0) = false := by simpa using hg.1
        simp [this]
      have t2 : ref09_Tokens_Those 1000 w (-1) t = some (thoseL w.B (fun i => (k.slots i).To == t) 32) := by
        refine (refthose_eq (by omega) r (-1) t).trans (congrArg some (thoseL_congr (fun i _ _ => ?_) 32 (Nat.le_refl _)))
        have : decide (t < 0) = false := by simpa using h0
        simp [this]
      have l1 := thoseL_len w.B (fun i => (k.slots i).Region == g) 32
      have l2 := thoseL_len w.B (fun i => (k.slots i).To == t) 32
      refine (cl_true (by rfl) (on_eq (by omega) r g)).trans ((cl_true (by rfl) t1).trans ((cl_true (by rfl) (row9_eq (by omega) (by omega) (those_ran r.book))).trans ?_))
      refine (cl_true (by rfl) hof).trans ((cl_true (by rfl) t2).trans ((cl_true (by rfl) (row9_eq (by omega) (by omega) (those_ran r.book))).trans ?_))
      refine (cl_true (by rfl) (reads_eq (by omega) r g (a := 0) (by omega) (by omega))).trans ((cl_true (by rfl) (refreads_eq (by omega) r g (a := 0) (by omega))).trans ?_)
      refine (cl_true (by simp) (writes_eq (by omega) r g (a := 0) (by omega) (by omega))).trans ((cl_true (by simp) (refwrites_eq (by omega) r g (a := 0) (by omega))).trans ?_)
      refine (cl_true (by simp) wakes09).trans ?_
      simp
end Go.Proofs.Ytcdnmiianjaglaa
