/- Good handles, issued ones, what was issued ahead. -/
import Derived.Test.YtmdpbdhkmfjlhaaL03
namespace Go.Proofs.Ytmdpbdhkmfjlhaa
open Go Go.Bw

/-- the good handles of a book -/
def goodS (w : ref03_Book) (h : Int) : Prop := 0 ≤ h ∧ goodW w h = true
theorem goodW_iff {w : ref03_Book} {h : Int} : goodW w h = true ↔ slB h = true ∧ w.Is (slI h).toNat = 1 ∧ w.Gen (slI h).toNat = h / 256 := by
  unfold goodW
  rw [Bool.and_eq_true, Bool.and_eq_true, beq_iff_eq, beq_iff_eq, and_assoc]
theorem slB_lt {h : Int} (hb : slB h = true) : h < 4294967296 := by
  unfold slB at hb
  simp only [decide_eq_true_eq] at hb; omega
theorem issuedL_mem {b : handle_Book} {w : ref03_Book} (r : RB b w) : ∀ (k : Nat), k ≤ 32 → ∀ x, x ∈ issuedL w k ↔ goodS w x ∧ slI x < k
  | 0, _, x => ⟨fun h => (by cases h), fun h => absurd h.2 (by have := (slI_ran x).1; omega)⟩
  | k + 1, hk, x => by
    have ih := issuedL_mem r k (by omega) x
    have hr := r.ran k (by omega)
    obtain ⟨q1, q2, q3, q4, q5⟩ := sl_hof (i := k) (g := w.Gen k) (by omega) (by omega) hr.1 hr.2
    have hx := slI_ran x
    rw [issuedL, List.mem_append, ih]
    constructor
    · rintro (h | h)
      · exact ⟨h.1, by omega⟩
      · split at h
        · rename_i hi
          have e := List.mem_singleton.1 h
          subst e
          exact ⟨⟨by omega, goodW_iff.2 ⟨q1, by rw [q2]; exact hi, by rw [q2, q3]; rfl⟩⟩, by omega⟩
        · cases h
    · rintro ⟨h1, h2⟩
      by_cases e : slI x < k
      · exact .inl ⟨h1, e⟩
      · have e1 : slI x = k := by omega
        obtain ⟨g1, g2, g3⟩ := goodW_iff.1 h1.2
        have e2 : (slI x).toNat = k := by omega
        rw [e2] at g2 g3
        refine .inr ?_
        rw [if_pos g2, List.mem_singleton, g3, ← e1, hof_sl h1.1 g1]
theorem issuedL_nd {b : handle_Book} {w : ref03_Book} (r : RB b w) : ∀ (k : Nat), k ≤ 32 → (issuedL w k).Nodup
  | 0, _ => List.nodup_nil
  | k + 1, hk => by
    rw [issuedL, List.nodup_append]
    refine ⟨issuedL_nd r k (by omega), by split <;> simp, fun a ha c hc e => ?_⟩
    split at hc
    · have e1 := List.mem_singleton.1 hc
      have hr := r.ran k (by omega)
      obtain ⟨q1, q2, q3, q4, q5⟩ := sl_hof (i := k) (g := w.Gen k) (by omega) (by omega) hr.1 hr.2
      have := ((issuedL_mem r k (by omega) a).1 ha).2
      rw [e, e1, q2] at this
      omega
    · cases hc
theorem goodS_all {b : handle_Book} {w : ref03_Book} (r : RB b w) (x : Int) : x ∈ issuedL w 32 ↔ goodS w x := by
  rw [issuedL_mem r 32 (Nat.le_refl _)]
  have := slI_ran x
  exact ⟨fun h => h.1, fun h => ⟨h, by omega⟩⟩

/-- what was issued ahead: it is good, or gone for ever -/
def pastS (w : ref03_Book) (h : Int) : Prop := 0 ≤ h ∧ slB h = true ∧ (h / 256 < w.Gen (slI h).toNat ∨ (h / 256 = w.Gen (slI h).toNat ∧ w.Is (slI h).toNat ≠ 0))
theorem good_issue {b : handle_Book} {w : ref03_Book} (r : RB b w) {f : Nat} (hf : First w f) (hl : f < 32) (x : Int) : goodS (issueW w f) x ↔ goodS w x ∨ x = hofI f (w.Gen f) := by
  have hr := r.ran f hl
  obtain ⟨q1, q2, q3, q4, q5⟩ := sl_hof (i := f) (g := w.Gen f) (by omega) (by omega) hr.1 hr.2
  have hx := slI_ran x
  unfold goodS
  rw [goodW_iff, goodW_iff]
  show 0 ≤ x ∧ slB x = true ∧ upd w.Is f 1 (slI x).toNat = 1 ∧ w.Gen (slI x).toNat = x / 256 ↔ _
  rw [upd_ite]
  by_cases e : (slI x).toNat = f
  · rw [if_pos e, e]
    constructor
    · rintro ⟨h1, h2, _, h4⟩
      refine .inr ?_
      have := hof_sl h1 h2
      rw [← this, h4]
      congr 1; omega
    · rintro (⟨h1, h2, h3, h4⟩ | h)
      · exact absurd (hf.2.2 hl) (by omega)
      · subst h; exact ⟨by omega, q1, rfl, by rw [q3]⟩
  · rw [if_neg e]
    refine ⟨fun h => .inl h, fun h => h.elim _root_.id fun h => ?_⟩
    subst h
    exact absurd (by rw [q2]; rfl) e
theorem past_issue {w : ref03_Book} {f : Nat} (x : Int) (h : pastS w x) : pastS (issueW w f) x := by
  obtain ⟨h1, h2, h3⟩ := h
  refine ⟨h1, h2, ?_⟩
  show x / 256 < w.Gen (slI x).toNat ∨ (x / 256 = w.Gen (slI x).toNat ∧ upd w.Is f 1 (slI x).toNat ≠ 0)
  rw [upd_ite]
  split
  · exact h3.imp _root_.id fun h => ⟨h.1, by omega⟩
  · exact h3
theorem past_new {b : handle_Book} {w : ref03_Book} (r : RB b w) {f : Nat} (hl : f < 32) : pastS (issueW w f) (hofI f (w.Gen f)) := by
  have hr := r.ran f hl
  obtain ⟨q1, q2, q3, q4, q5⟩ := sl_hof (i := f) (g := w.Gen f) (by omega) (by omega) hr.1 hr.2
  refine ⟨by omega, q1, .inr ?_⟩
  show hofI f (w.Gen f) / 256 = w.Gen (slI (hofI f (w.Gen f))).toNat ∧ upd w.Is f 1 (slI (hofI f (w.Gen f))).toNat ≠ 0
  rw [q2, q3, upd_ite]
  simp
theorem past_not {b : handle_Book} {w : ref03_Book} (r : RB b w) {f : Nat} (hf : First w f) (hl : f < 32) : ¬ pastS w (hofI f (w.Gen f)) := by
  have hr := r.ran f hl
  obtain ⟨q1, q2, q3, q4, q5⟩ := sl_hof (i := f) (g := w.Gen f) (by omega) (by omega) hr.1 hr.2
  rintro ⟨_, _, h⟩
  rw [q2, q3] at h
  have := hf.2.2 hl
  rcases h with h | h
  · exact absurd h (by simp)
  · exact h.2 this
theorem good_void {b : handle_Book} {w : ref03_Book} (r : RB b w) {h : Int} (h0 : 0 ≤ h) (x : Int) : goodS (if goodW w h then voidW w h else w) x ↔ goodS w x ∧ x ≠ h := by
  cases hg : goodW w h with
  | false =>
    refine ⟨fun hx => ⟨hx, fun e => ?_⟩, fun hx => hx.1⟩
    subst e
    have h2 : goodW w x = true := hx.2
    rw [h2] at hg; cases hg
  | true =>
    rw [if_pos rfl]
    obtain ⟨g1, g2, g3⟩ := goodW_iff.1 hg
    have hr := r.ran (slI h).toNat (by have := slI_ran h; omega)
    have hx := slI_ran x
    have hh := slI_ran h
    have key : ∀ w', voidW w h = w' → (∀ j, j ≠ (slI h).toNat → w'.Is j = w.Is j ∧ w'.Gen j = w.Gen j) → w'.Is (slI h).toNat ≠ 1 → (goodS w' x ↔ goodS w x ∧ x ≠ h) := by
      intro w' _ k1 k2
      unfold goodS
      rw [goodW_iff, goodW_iff]
      by_cases e : (slI x).toNat = (slI h).toNat
      · constructor
        · rintro ⟨_, _, h3, _⟩; rw [e] at h3; exact absurd h3 k2
        · rintro ⟨⟨h1, h2, h3, h4⟩, h5⟩
          refine absurd ?_ h5
          rw [← hof_sl h1 h2, ← hof_sl h0 g1, ← h4, ← g3, e]
          congr 1; omega
      · rw [(k1 _ e).1, (k1 _ e).2]
        exact ⟨fun hx => ⟨hx, fun e2 => e (by rw [e2])⟩, fun hx => hx.1⟩
    refine key _ rfl (fun j hj => ?_) ?_
    · unfold voidW
      split
      · exact ⟨upd_ne _ _ hj, rfl⟩
      · exact ⟨upd_ne _ _ hj, upd_ne _ _ hj⟩
    · unfold voidW
      split
      · show upd w.Is _ 2 _ ≠ 1; rw [upd_at]; decide
      · show upd w.Is _ 0 _ ≠ 1; rw [upd_at]; decide
theorem past_void {w : ref03_Book} {h : Int} (x : Int) (hp : pastS w x) : pastS (if goodW w h then voidW w h else w) x := by
  cases hg : goodW w h with
  | false => exact hp
  | true =>
    rw [if_pos rfl]
    obtain ⟨h1, h2, h3⟩ := hp
    refine ⟨h1, h2, ?_⟩
    unfold voidW
    split
    · show x / 256 < w.Gen (slI x).toNat ∨ (x / 256 = w.Gen (slI x).toNat ∧ upd w.Is (slI h).toNat 2 (slI x).toNat ≠ 0)
      rw [upd_ite]
      split
      · exact h3.imp _root_.id fun h => ⟨h.1, by decide⟩
      · exact h3
    · show x / 256 < upd w.Gen (slI h).toNat _ (slI x).toNat ∨ (x / 256 = upd w.Gen (slI h).toNat _ (slI x).toNat ∧ upd w.Is (slI h).toNat 0 (slI x).toNat ≠ 0)
      rw [upd_ite, upd_ite]
      split
      · rename_i e
        rw [e] at h3
        left; omega
      · exact h3

end Go.Proofs.Ytmdpbdhkmfjlhaa
