/- Tables, as plain laws: Raise. -/
import Derived.Test.YtmdpbdhkmfjlhaaL05b
namespace Go.Proofs.Ytmdpbdhkmfjlhaa
open Go Go.Bw

/-- below the slot s, or that -/
inductive Sub5 (w : ref05_Table) (s : Nat) : Nat → Prop
  | self : Sub5 w s s
  | down {i : Nat} : i < 32 → w.B.Is i = 1 → (w.R i).Up ≠ 0 → Sub5 w s (slN (w.R i).Up) → Sub5 w s i
theorem Sub5.iff {w : ref05_Table} {s i : Nat} (hi : i < 32) (h1 : w.B.Is i = 1) : Sub5 w s i ↔ i = s ∨ ((w.R i).Up ≠ 0 ∧ Sub5 w s (slN (w.R i).Up)) := by
  constructor
  · intro h
    cases h with
    | self => exact .inl rfl
    | down _ _ a b => exact .inr ⟨a, b⟩
  · rintro (h | ⟨a, b⟩)
    · subst h; exact .self
    · exact .down hi h1 a b
def chain5 (w : ref05_Table) (ρ : Nat → Nat) (x : Int) : Nat := if x = 0 then 0 else cntP (fun j => decide (ρ j < ρ (slN x))) 32 + 1
theorem chain5_lt {t : table_Table} {w : ref05_Table} (r : RTb t w) {ρ : Nat → Nat} (hρ : Rk5 w ρ) {x : Int} (hx : goodS w.B x) : chain5 w ρ (w.R (slN x)).Up < chain5 w ρ x := by
  have hp := goodS_pos hx
  obtain ⟨l1, l2⟩ := good_live hx
  unfold chain5
  rw [if_neg (show ¬ x = 0 by omega)]
  split
  · omega
  · rename_i hu
    have h2 := hρ _ l1 l2 hu
    have := cntP_lt (p := fun j => decide (ρ j < ρ (slN (w.R (slN x)).Up))) (q := fun j => decide (ρ j < ρ (slN x))) (fun j hj => by simp at hj ⊢; omega) (c := slN (w.R (slN x)).Up) (by simp) (by simpa using h2) 32 (slN_lt _)
    omega
theorem chain5_le (w : ref05_Table) (ρ : Nat → Nat) (x : Int) : chain5 w ρ x ≤ 32 := by
  unfold chain5
  split
  · omega
  · have := cntP_lt (p := fun j => decide (ρ j < ρ (slN x))) (q := fun _ => true) (fun _ _ => rfl) (c := slN x) (by simp) rfl 32 (slN_lt _)
    have := cntP_le (fun _ => true) 32
    omega
theorem refabove5 {n : Nat} (hn : 40 ≤ n) {t : table_Table} {w : ref05_Table} (r : RTb t w) (tt : TTb w) {h : Int} (hh : goodS w.B h) {x0 : Int} (hx0 : goodS w.B x0) :
    ∃ b, ref05_Table_Above n w h x0 = some b ∧ (b = true ↔ (w.R (slN x0)).Up ≠ 0 ∧ Sub5 w (slN h) (slN (w.R (slN x0)).Up)) := by
  obtain ⟨ρ, hρ⟩ := tt
  unfold ref05_Table_Above
  have hhp := goodS_pos hh
  refine loop1_ind (fun (x : Int) => (x = 0 ∨ goodS w.B x) ∧ (((w.R (slN x0)).Up ≠ 0 ∧ Sub5 w (slN h) (slN (w.R (slN x0)).Up)) ↔ (x ≠ 0 ∧ (w.R (slN x)).Up ≠ 0 ∧ Sub5 w (slN h) (slN (w.R (slN x)).Up)))) (fun x => chain5 w ρ x)
    (fun o => ∃ b, o = some b ∧ (b = true ↔ (w.R (slN x0)).Up ≠ 0 ∧ Sub5 w (slN h) (slN (w.R (slN x0)).Up))) ?_ n x0 ⟨.inr hx0, ?_⟩ (by have := chain5_le w ρ x0; omega)
  · rintro kk x ⟨hx, hw⟩ ih
    by_cases h0 : x = 0
    · subst h0
      rw [cn_false (by rfl)]
      exact ⟨false, rfl, by rw [hw]; simp⟩
    · have hg := hx.resolve_left h0
      have hsr := slI_ran x
      obtain ⟨l1, l2⟩ := good_live hg
      rw [cn_true (by simpa using h0), bd_some (refslot_eq hn r.book hg.1), hg.2, if_pos rfl, gu_true (sl_inb x)]
      show ∃ b, cn ((w.R (slN x)).Up == h) (some (h != 0)) (kk (w.R (slN x)).Up) = some b ∧ _
      by_cases hu : (w.R (slN x)).Up = h
      · rw [cn_true (by simpa using hu)]
        refine ⟨_, rfl, ?_⟩
        rw [hw, hu]
        exact ⟨fun _ => ⟨h0, by omega, .self⟩, fun _ => by simp; omega⟩
      · rw [cn_false (by simpa using hu)]
        refine ih _ ⟨r.ups hg, hw.trans ?_⟩ (chain5_lt r hρ hg)
        constructor
        · rintro ⟨_, a, b⟩
          have hgu := (r.ups hg).resolve_left a
          obtain ⟨m1, m2⟩ := good_live hgu
          refine ⟨a, ?_⟩
          rcases (Sub5.iff m1 m2).1 b with e | e
          · exact absurd (by rw [← good_hof hgu, ← good_hof hh, e]) hu
          · exact e
        · rintro ⟨a, b, c⟩
          have hgu := (r.ups hg).resolve_left a
          obtain ⟨m1, m2⟩ := good_live hgu
          exact ⟨h0, a, .down m1 m2 b c⟩
  · have := goodS_pos hx0
    exact ⟨fun a => ⟨by omega, a⟩, fun a => a.2⟩
theorem above5 {n : Nat} (hn : 40 ≤ n) {t : table_Table} {w : ref05_Table} (r : RTb t w) (tt : TTb w) {h : Int} (hh : goodS w.B h) {x0 : Int} (hx0 : x0 = 0 ∨ goodS w.B x0) (z : Option (table_Table × Int)) :
    (x0 ≠ 0 ∧ Sub5 w (slN h) (slN x0) → loop1 (fun k30 (x27 : Int) =>
  cn ((x27 != 0)) (
  cn ((x27 == h)) (
  some (t, 12)) (
  bd (table_Table_up n t x27) fun x34 =>
  k30 x34)) z) n x0 = some (t, 12)) ∧ (¬ (x0 ≠ 0 ∧ Sub5 w (slN h) (slN x0)) → loop1 (fun k30 (x27 : Int) =>
  cn ((x27 != 0)) (
  cn ((x27 == h)) (
  some (t, 12)) (
  bd (table_Table_up n t x27) fun x34 =>
  k30 x34)) z) n x0 = z) := by
  obtain ⟨ρ, hρ⟩ := tt
  have hhp := goodS_pos hh
  refine loop1_ind (fun (x : Int) => (x = 0 ∨ goodS w.B x) ∧ ((x0 ≠ 0 ∧ Sub5 w (slN h) (slN x0)) ↔ (x ≠ 0 ∧ Sub5 w (slN h) (slN x)))) (fun x => chain5 w ρ x)
    (fun o => (x0 ≠ 0 ∧ Sub5 w (slN h) (slN x0) → o = some (t, 12)) ∧ (¬ (x0 ≠ 0 ∧ Sub5 w (slN h) (slN x0)) → o = z)) ?_ n x0 ⟨hx0, Iff.rfl⟩ (by have := chain5_le w ρ x0; omega)
  rintro kk x ⟨hx, hw⟩ ih
  by_cases h0 : x = 0
  · subst h0
    rw [cn_false (by rfl)]
    exact ⟨fun hq => absurd rfl (hw.1 hq).1, fun _ => rfl⟩
  · have hg := hx.resolve_left h0
    obtain ⟨l1, l2⟩ := good_live hg
    rw [cn_true (by simpa using h0)]
    by_cases hu : x = h
    · rw [cn_true (by simpa using hu)]
      exact ⟨fun _ => rfl, fun hq => absurd (hw.2 ⟨h0, by rw [hu]; exact .self⟩) hq⟩
    · rw [cn_false (by simpa using hu), bd_some (up5_eq r hg)]
      refine ih _ ⟨r.ups hg, hw.trans ?_⟩ (chain5_lt r hρ hg)
      constructor
      · rintro ⟨_, b⟩
        rcases (Sub5.iff l1 l2).1 b with e | e
        · exact absurd (by rw [← good_hof hg, ← good_hof hh, e]) hu
        · exact e
      · rintro ⟨a, b⟩
        exact ⟨h0, .down l1 l2 a b⟩
theorem raise5 {n : Nat} (hn : 40 ≤ n) {t : table_Table} {w : ref05_Table} (r : RTb t w) (tt : TTb w) {h a : Int} (h0 : 0 ≤ h) (h1 : h < 4294967296) (a0 : 0 ≤ a) (a1 : a < 4294967296) :
    ∃ t' w' e, table_Table_Raise n t h a = some (t', e) ∧ ref05_Table_Raise n w h a = some (w', e) ∧ Kp5 t w t' w' h e false := by
  unfold table_Table_Raise ref05_Table_Raise
  rw [bd_some (goodB r.book h0 h1), bd_some (refgood5_eq hn r h0), good0_eq r a0 a1, cl_some (refgood5_eq hn r a0)]
  cases hg : goodW w.B h with
  | false => exact ⟨t, w, 4, rfl, rfl, .same r tt _ _ _⟩
  | true =>
  have hgs : goodS w.B h := ⟨h0, hg⟩
  obtain ⟨l1, l2⟩ := good_live hgs
  have hpos := goodS_pos hgs
  have e0 : ∀ v : Bool, (((!true) == false) && v) = v := fun v => by cases v <;> rfl
  rw [e0, ok0_not]
  cases ha : ok0 w.B a with
  | false => exact ⟨t, w, 4, rfl, rfl, .same r tt _ _ _⟩
  | true =>
  rw [cn_false (by rfl), cn_false (by rfl)]
  have hax := ok0_or a0 ha
  obtain ⟨p1, p2⟩ := above5 (n := n) hn r tt hgs hax (bd (handle_Handle_Slot n h) fun x35 =>
  gu (inb x35.1 32) <|
  lt ({ t with regions := (upd t.regions (Int.toNat x35.1) ({ (t.regions (Int.toNat x35.1)) with Up := a })) } : table_Table) fun x37 =>
  some (x37, 0))
  -- the document's
  have hR : ∃ b, (b = true ↔ a ≠ 0 ∧ Sub5 w (slN h) (slN a)) ∧ ∀ (F : Bool → Option (ref05_Table × Int)), (cl (((a != 0) == true) && ((a == h) == false)) (ref05_Table_Above n w h a) default fun x26 => F ((a != 0) && ((a == h) || x26))) = F b := by
    rcases hax with e | e
    · subst e
      exact ⟨false, by simp, fun F => rfl⟩
    · have hp := goodS_pos e
      obtain ⟨b, b1, b2⟩ := refabove5 (n := n) hn r tt hgs e
      obtain ⟨m1, m2⟩ := good_live e
      refine ⟨(a == h) || b, ?_, fun F => ?_⟩
      · rw [Bool.or_eq_true, beq_iff_eq, b2, Sub5.iff m1 m2]
        constructor
        · rintro (q | q)
          · exact ⟨by omega, .inl (by rw [q])⟩
          · exact ⟨by omega, .inr q⟩
        · rintro ⟨_, q | q⟩
          · exact .inl (by rw [← good_hof e, ← good_hof hgs, q])
          · exact .inr q
      · have e1 : (a != 0) = true := by simp; omega
        rw [cl_some b1, e1]
        cases a == h <;> rfl
  obtain ⟨b, b1, b2⟩ := hR
  rw [b2 (fun v => cn v (some (w, 12)) (bd (ref03_Book_Slot n w.B h) fun x30 =>
  gu (inb x30 32) <|
  lt ({ w with R := (upd w.R (Int.toNat x30) ({ (w.R (Int.toNat x30)) with Up := a })) } : ref05_Table) fun x32 =>
  some (x32, 0)))]
  cases b with
  | true => exact ⟨t, w, 12, p1 (b1.1 rfl), rfl, .same r tt _ _ _⟩
  | false =>
  have hns : ¬ (a ≠ 0 ∧ Sub5 w (slN h) (slN a)) := fun q => by have := b1.2 q; cases this
  rw [p2 hns]
  rw [bd_some (slot_eq h0 h1), cn_false rfl, bd_some (refslot_eq hn r.book h0), hg, if_pos rfl]
  refine ⟨⟨t.book, upd t.regions (slN h) { t.regions (slN h) with Up := a }⟩, ⟨w.B, upd w.R (slN h) { w.R (slN h) with Up := a }⟩, 0, ?_, ?_, ?_⟩
  · rw [gu_true (sl_inb h)]; rfl
  · rw [gu_true (sl_inb h)]; rfl
  refine ⟨⟨r.book, fun i hi hs => ?_, fun i hi hs => ?_, fun i hi hs => ?_⟩, ?_, fun g hgg hne => ?_⟩
  · dsimp only
    rw [upd_ite, upd_ite]
    by_cases e : i = slN h
    · rw [if_pos e, if_pos e]; exact (r.reg _ l1 l2).setUp _ _
    · rw [if_neg e, if_neg e]; exact r.reg i hi hs
  · dsimp only
    simp only [upd_ite]
    by_cases e : i = slN h
    · rw [if_pos e, if_pos e]
      show a = upV w.B a
      rcases hax with q | q
      · subst q; rfl
      · unfold upV; rw [if_pos q.2]
    · rw [if_neg e, if_neg e]; exact r.up i hi hs
  · dsimp only
    simp only [upd_ite]
    by_cases e : i = slN h
    · rw [if_pos e]; exact hax.imp _root_.id good_past
    · rw [if_neg e]; exact r.old i hi hs
  · obtain ⟨ρ, hρ⟩ := tt
    obtain ⟨f, f1, f2⟩ : ∃ f : Nat → Nat, (∀ i, Sub5 w (slN h) i → f i = ρ i + ρ (slN a) + 1) ∧ ∀ i, ¬ Sub5 w (slN h) i → f i = ρ i := by
      classical
      exact ⟨fun i => if Sub5 w (slN h) i then ρ i + ρ (slN a) + 1 else ρ i, fun i q => if_pos q, fun i q => if_neg q⟩
    refine ⟨f, fun i hi hs hu => ?_⟩
    have hU : (upd w.R (slN h) { w.R (slN h) with Up := a } i).Up = if i = slN h then a else (w.R i).Up := by
      rw [upd_ite]; split <;> rfl
    dsimp only at hu hs ⊢
    rw [hU] at hu ⊢
    by_cases e : i = slN h
    · rw [if_pos e] at hu ⊢
      rw [f2 _ (fun q => hns ⟨hu, q⟩), e, f1 _ .self]
      omega
    · rw [if_neg e] at hu ⊢
      have h2 := hρ i hi hs hu
      have h3 := Sub5.iff (s := slN h) hi hs
      by_cases q : Sub5 w (slN h) (slN (w.R i).Up)
      · rw [f1 _ q, f1 _ (h3.2 (.inr ⟨hu, q⟩))]; omega
      · rw [f2 _ q, f2 _ (fun c => (h3.1 c).elim e fun c => q c.2)]; exact h2
  · have hne2 : slN g ≠ slN h := fun e => hne ⟨by rw [← good_hof hgg, ← good_hof hgs, e], rfl⟩
    refine ⟨hgg, ?_, ?_, ?_, .inl ?_⟩
    all_goals (dsimp only; rw [upd_ne _ _ hne2])
end Go.Proofs.Ytmdpbdhkmfjlhaa
