/- Tables, as plain laws: New, Set, Raise. -/
import Derived.Test.YtmdpbdhkmfjlhaaL05
namespace Go.Proofs.Ytmdpbdhkmfjlhaa
open Go Go.Bw

theorem upV_is {b : handle_Book} {w : ref03_Book} (r : RB b w) {f : Nat} (hf : First w f) (hl : f < 32) {u : Int} (hu : u = 0 ∨ pastS w u) : upV (issueW w f) u = upV w u := by
  rcases hu with h | h
  · subst h; rfl
  · have hv := good_issue r hf hl u
    have hne : u ≠ hofI f (w.Gen f) := fun e => by rw [e] at h; exact past_not r hf hl h
    unfold upV
    by_cases h1 : goodW w u = true
    · rw [if_pos h1, if_pos (hv.2 (.inl ⟨h.1, h1⟩)).2]
    · rw [if_neg h1, if_neg (fun h2 => (hv.1 ⟨h.1, h2⟩).elim (fun h3 => h1 h3.2) hne)]
/-- nothing, or good -/
def ok0 (B : ref03_Book) (a : Int) : Bool := (a == 0) || goodW B a
theorem good0_eq {n : Nat} {t : table_Table} {w : ref05_Table} (r : RTb t w) {a : Int} (h0 : 0 ≤ a) (h1 : a < 4294967296) {ρ : Type} {f : Bool → Option ρ} {g : Bool} :
    cl g (handle_Book_Good n t.book.Book a) default f = f (bif g then goodW w.B a else default) := cl_some (goodB r.book h0 h1)
theorem ok0_not (B : ref03_Book) (a : Int) : ((a != 0) && (!(bif ((a != 0) == true) then goodW B a else default))) = !ok0 B a := by
  unfold ok0
  by_cases h0 : a = 0
  · subst h0; rfl
  · have h1 : (a != 0) = true := by simpa using h0
    have h2 : (a == 0) = false := by simpa using h0
    rw [h1, h2]; rfl
theorem ok0_or {B : ref03_Book} {a : Int} (h0 : 0 ≤ a) (h : ok0 B a = true) : a = 0 ∨ goodS B a := by
  unfold ok0 at h
  rw [Bool.or_eq_true, beq_iff_eq] at h
  exact h.imp _root_.id fun hg => ⟨h0, hg⟩
theorem new5 {n : Nat} (hn : 40 ≤ n) {t : table_Table} {w : ref05_Table} (r : RTb t w) (tt : TTb w) {a q : Int} (a0 : 0 ≤ a) (a1 : a < 4294967296) :
    ∃ t' w' m e, table_Table_New n t a q = some (t', m, e) ∧ ref05_Table_New n w a q = some (w', m, e) ∧ 0 ≤ m ∧ m < 4294967296 ∧ Kp5 t w t' w' m e false := by
  cases ha : ok0 w.B a with
  | false =>
    refine ⟨t, w, 0, 4, ?_, ?_, by decide, by decide, .same r tt _ _ _⟩
    · unfold table_Table_New; rw [good0_eq r a0 a1, ok0_not, ha]; rfl
    · unfold ref05_Table_New; rw [cl_some (refgood5_eq hn r a0), ok0_not, ha]; rfl
  | true =>
  rcases Decidable.em (¬(0 ≤ q ∧ q ≤ 64)) with hq | hq
  · refine ⟨t, w, 0, 2, ?_, ?_, by decide, by decide, .same r tt _ _ _⟩
    · unfold table_Table_New; rw [good0_eq r a0 a1, ok0_not, ha, cn_false (b := !true) rfl]; unfold table_quota; rw [bd_some rfl, cn_true (by simp; omega)]
    · unfold ref05_Table_New; rw [cl_some (refgood5_eq hn r a0), ok0_not, ha, cn_false (b := !true) rfl, cn_true (by simp; omega)]
  have hq := Decidable.not_not.1 hq
  obtain ⟨f, hf⟩ := first_ex w.B
  obtain ⟨b', i1, i2⟩ := issue_eq (n := n) hn r.book hf
  have i3 := refissue_eq (n := n) hn r.book hf
  have hP : table_Table_New n t a q = (bd (handle_Book_Issue n t.book.Book) fun x29 =>
  cn ((!x29.2.2)) (
  some (t, 0, 7)) (
  bd (handle_Handle_Slot n x29.2.1) fun x36 =>
  gu (inb x36.1 32) <|
  some (⟨⟨x29.1⟩, upd t.regions (Int.toNat x36.1) ⟨a, q, Z_extent_Extent, fun _ => 0⟩⟩, x29.2.1, 0))) := by
    unfold table_Table_New; rw [good0_eq r a0 a1, ok0_not, ha, cn_false (b := !true) rfl]; unfold table_quota; rw [bd_some rfl, cn_false (by simpa using hq)]; rfl
  have hR : ref05_Table_New n w a q = (bd (ref03_Book_Issue n w.B) fun x28 =>
  cn ((x28.2 == 0)) (
  some (w, 0, 7)) (
  bd (ref03_Book_Slot n x28.1 x28.2) fun x35 =>
  gu (inb x35 32) <|
  some (⟨x28.1, upd w.R (Int.toNat x35) ⟨a, q, Z_ref04_Extent, fun _ => 0⟩⟩, x28.2, 0))) := by
    unfold ref05_Table_New; rw [cl_some (refgood5_eq hn r a0), ok0_not, ha, cn_false (b := !true) rfl, cn_false (by simp; omega)]; rfl
  rcases Decidable.em (¬ f < 32) with hl | hl
  · refine ⟨t, w, 0, 7, ?_, ?_, by decide, by decide, .same r tt _ _ _⟩
    · rw [hP, bd_some i1, cn_true (by simpa using hl)]
    · rw [hR, bd_some i3, if_neg hl]; rfl
  have hl := Decidable.not_not.1 hl
  simp only [hl, if_true, decide_true] at i1 i2 i3
  have hr := r.book.ran f hl
  obtain ⟨q1, q2, q3, q4, q5⟩ := sl_hof (i := f) (g := w.B.Gen f) (by omega) (by omega) hr.1 hr.2
  have hnew : goodS (issueW w.B f) (hofI f (w.B.Gen f)) := (good_issue r.book hf hl _).2 (.inr rfl)
  have hfn : (slI (hofI f (w.B.Gen f))).toNat = f := by rw [q2]; omega
  have hfi : inb (slI (hofI f (w.B.Gen f))) 32 = true := sl_inb _
  refine ⟨⟨⟨b'⟩, upd t.regions f ⟨a, q, Z_extent_Extent, fun _ => 0⟩⟩, ⟨issueW w.B f, upd w.R f ⟨a, q, Z_ref04_Extent, fun _ => 0⟩⟩, hofI f (w.B.Gen f), 0, ?_, ?_, by omega, q5, ?_⟩
  · rw [hP, bd_some i1, cn_false (b := !true) rfl]
    dsimp only
    rw [bd_some (slot_eq (by omega) q5), gu_true hfi, hfn]
  · rw [hR, bd_some i3, cn_false (by simp; omega), bd_some (refslot_eq hn i2 (by omega)), hnew.2, if_pos rfl, gu_true hfi, hfn]
  have hax := ok0_or a0 ha
  have hfree := hf.2.2 hl
  have hold : ∀ i, i ≠ f → (issueW w.B f).Is i = 1 → w.B.Is i = 1 := fun i hi hs => by
    have : upd w.B.Is f 1 i = 1 := hs
    rwa [upd_ne _ _ hi] at this
  have hne : ∀ x, goodS w.B x → slN x ≠ f := fun x hx e => by
    have := (good_live hx).2; rw [e, hfree] at this; cases this
  refine ⟨⟨i2, fun i hi hs => ?_, fun i hi hs => ?_, fun i hi hs => ?_⟩, ?_, fun g hg _ => ?_⟩
  · dsimp only
    rw [upd_ite, upd_ite]
    by_cases e : i = f
    · rw [if_pos e, if_pos e]
      exact ⟨rfl, rfl, (by show (0 : Nat) ≤ 80; omega), (fun y hy => by cases hy), fun _ _ => rfl, fun _ _ => by show (0 : Int) ≤ 0 ∧ (0 : Int) ≤ 4294967295; decide⟩
    · rw [if_neg e, if_neg e]; exact r.reg i hi (hold i e hs)
  · dsimp only
    simp only [upd_ite]
    by_cases e : i = f
    · rw [if_pos e, if_pos e]
      show a = upV (issueW w.B f) a
      rcases hax with h | h
      · subst h; rfl
      · unfold upV; rw [if_pos ((good_issue r.book hf hl a).2 (.inl h)).2]
    · rw [if_neg e, if_neg e]
      have h1 := hold i e hs
      rw [upV_is r.book hf hl (r.old i hi h1)]; exact r.up i hi h1
  · dsimp only
    simp only [upd_ite]
    by_cases e : i = f
    · rw [if_pos e]
      exact hax.imp _root_.id fun h => past_issue _ (good_past h)
    · rw [if_neg e]
      exact (r.old i hi (hold i e hs)).imp _root_.id (past_issue _)
  · obtain ⟨ρ, hρ⟩ := tt
    refine ⟨upd ρ f (1 + sumR ρ 32), fun i hi hs hu => ?_⟩
    dsimp only at hu ⊢
    simp only [upd_ite] at hu ⊢
    by_cases e : i = f
    · rw [if_pos e] at hu
      rw [if_pos e, if_pos e]
      change a ≠ 0 at hu
      show (if slN a = f then _ else ρ (slN a)) < _
      have hag := hax.resolve_left hu
      rw [if_neg (hne a hag)]
      have := sumR_le ρ (j := slN a) 32 (slN_lt a)
      omega
    · rw [if_neg e] at hu
      rw [if_neg e, if_neg e]
      have h1 := hold i e hs
      rw [if_neg (hne _ ((r.up0 hi h1).resolve_left hu))]
      exact hρ i hi h1 hu
  · have := hne g hg
    refine ⟨(good_issue r.book hf hl g).2 (.inl hg), ?_, ?_, ?_, .inl ?_⟩
    all_goals (dsimp only; rw [upd_ne _ _ this])

/-! Set -/
theorem may5 {n : Nat} (hn : 110 ≤ n) {p : table_Region} {x : ref05_Region} (h : RegR p x) : ∃ b, extent_Extent_May n p.E = some b ∧ ref04_Extent_May n x.E = some b := by
  have hl : (x.E.Runs.map toR).length ≤ 80 := by rw [List.length_map]; exact h.n
  obtain ⟨b, b1, b2⟩ := may04_eq (n := n) hn (e := p.E) (by rw [h.e]; exact hl) (by rw [h.e]; exact h.r)
  obtain ⟨c, c1, c2⟩ := refmay_eq (n := n) hn h.n h.r
  refine ⟨b, b1, ?_⟩
  rw [c1]
  rw [h.e] at b2
  dsimp only at b2
  have : b = true ↔ c = true := b2.trans ⟨fun ⟨q1, _, q3⟩ => c2.2 ⟨q1, q3⟩, fun h => by
    obtain ⟨q1, q3⟩ := c2.1 h
    exact ⟨q1, gd4_sum q1, q3⟩⟩
  cases b <;> cases c <;> simp_all
theorem set5 {n : Nat} (hn : 110 ≤ n) {t : table_Table} {w : ref05_Table} (r : RTb t w) (tt : TTb w) {h : Int} (h0 : 0 ≤ h) (h1 : h < 4294967296) {p : table_Region} {x : ref05_Region} (hx : RegR p x) :
    ∃ t' w' e, table_Table_Set n t h p = some (t', e) ∧ ref05_Table_Set n w h x = some (w', e) ∧ Kp5 t w t' w' h e false := by
  obtain ⟨b, b1, b2⟩ := may5 hn hx
  have hsr := slI_ran h
  unfold table_Table_Set ref05_Table_Set
  rw [bd_some (goodB r.book h0 h1), bd_some (refslot_eq (by omega) r.book h0)]
  cases hg : goodW w.B h with
  | false => exact ⟨t, w, 4, rfl, rfl, .same r tt _ _ _⟩
  | true =>
  have hgs : goodS w.B h := ⟨h0, hg⟩
  obtain ⟨l1, l2⟩ := good_live hgs
  unfold table_quota
  rw [if_pos rfl, cn_false (b := !true) rfl, cn_false (by simp; omega), bd_some rfl, cl_some b1, cl_some b2, hx.q]
  rcases Decidable.em (¬((0 ≤ x.Quota ∧ x.Quota ≤ 64) ∧ b = true)) with hq | hq
  · refine ⟨t, w, 2, ?_, ?_, .same r tt _ _ _⟩
    · rw [cn_true]
      by_cases h3 : 0 ≤ x.Quota ∧ x.Quota ≤ 64
      · have : b = false := by cases b with
          | false => rfl
          | true => exact absurd ⟨h3, rfl⟩ hq
        rw [this]; simp
      · have : (decide (0 ≤ x.Quota) && decide (x.Quota ≤ 64)) = false := by rw [Bool.and_eq_false_iff, decide_eq_false_iff_not, decide_eq_false_iff_not]; omega
        rw [this]; rfl
    · rw [cn_true]
      by_cases h3 : 0 ≤ x.Quota ∧ x.Quota ≤ 64
      · have : b = false := by cases b with
          | false => rfl
          | true => exact absurd ⟨h3, rfl⟩ hq
        rw [this]; simp
      · have : (decide (x.Quota < 0) || decide (64 < x.Quota)) = true := by rw [Bool.or_eq_true, decide_eq_true_eq, decide_eq_true_eq]; omega
        rw [this]; rfl
  obtain ⟨⟨q1, q2⟩, rfl⟩ := Decidable.not_not.1 hq
  have e1 : (decide (0 ≤ x.Quota) && decide (x.Quota ≤ 64)) = true := by simp [q1, q2]
  have e2 : (decide (x.Quota < 0) || decide (64 < x.Quota)) = false := by rw [Bool.or_eq_false_iff, decide_eq_false_iff_not, decide_eq_false_iff_not]; omega
  rw [e1, e2, cn_false (by rfl), cn_false (by rfl), bd_some (slot_eq h0 h1), gu_true (sl_inb h), gu_true (sl_inb h), lt_eq, gu_true (sl_inb h), lt_eq, lt_eq, gu_true (sl_inb h), lt_eq]
  refine ⟨_, _, 0, rfl, rfl, ?_⟩
  show Kp5 t w ⟨t.book, upd t.regions (slN h) { p with Up := (t.regions (slN h)).Up, Quota := x.Quota }⟩ ⟨w.B, upd w.R (slN h) { x with Up := (w.R (slN h)).Up }⟩ h 0 false
  have hT : ∀ i, (upd t.regions (slN h) { p with Up := (t.regions (slN h)).Up, Quota := x.Quota } i).Up = (t.regions i).Up := fun i => by
    rw [upd_ite]; split
    · rename_i e; rw [e]
    · rfl
  have hW : ∀ i, (upd w.R (slN h) { x with Up := (w.R (slN h)).Up } i).Up = (w.R i).Up := fun i => by
    rw [upd_ite]; split
    · rename_i e; rw [e]
    · rfl
  refine ⟨⟨r.book, fun i hi hs => ?_, fun i hi hs => ?_, fun i hi hs => ?_⟩, ?_, fun g hgg hne => ?_⟩
  · dsimp only
    rw [upd_ite, upd_ite]
    by_cases e : i = slN h
    · rw [if_pos e, if_pos e]; exact ⟨rfl, hx.e, hx.n, hx.r, hx.c, hx.c0⟩
    · rw [if_neg e, if_neg e]; exact r.reg i hi hs
  · dsimp only; rw [hT, hW]; exact r.up i hi hs
  · dsimp only; rw [hT]; exact r.old i hi hs
  · obtain ⟨ρ, hρ⟩ := tt
    refine ⟨ρ, fun i hi hs hu => ?_⟩
    dsimp only at hu ⊢; rw [hW] at hu ⊢; exact hρ i hi hs hu
  · have hne2 : slN g ≠ slN h := fun e => hne ⟨by rw [← good_hof hgg, ← good_hof hgs, e], rfl⟩
    refine ⟨hgg, ?_, ?_, ?_, .inl ?_⟩
    all_goals (dsimp only; rw [upd_ne _ _ hne2])
end Go.Proofs.Ytmdpbdhkmfjlhaa
