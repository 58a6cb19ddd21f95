/- Lend: the program's and the document's. -/
import Derived.Test.YtmdpbdhkmfjlhaaL09
namespace Go.Proofs.Ytmdpbdhkmfjlhaa
open Go Go.Bw

theorem ex_slot {b : handle_Book} {w : ref03_Book} (r : RB b w) {p : Nat → Prop} : (∃ x, goodS w x ∧ p (slN x)) ↔ ∃ i, i < 32 ∧ w.Is i = 1 ∧ p i := by
  constructor
  · rintro ⟨x, hx, hp⟩
    exact ⟨slN x, slN_lt x, (good_slot hx.2).2.1, hp⟩
  · rintro ⟨i, hi, h1, hp⟩
    have hr := r.ran i hi
    obtain ⟨q1, q2, q3, q4, q5⟩ := sl_hof (i := i) (g := w.Gen i) (by omega) (by omega) hr.1 hr.2
    have hs : slN (hofI i (w.Gen i)) = i := by unfold slN; rw [q2]; rfl
    have hs' : (slI (hofI i (w.Gen i))).toNat = i := hs
    exact ⟨hofI i (w.Gen i), ⟨by omega, goodW_iff.2 ⟨q1, by rw [hs']; exact h1, by rw [hs', q3]⟩⟩, by rw [hs]; exact hp⟩
/-- the good handle of a slot -/
theorem hof_good {b : handle_Book} {w : ref03_Book} (r : RB b w) {i : Nat} (hi : i < 32) (h1 : w.Is i = 1) : goodS w (hofI i (w.Gen i)) ∧ slN (hofI i (w.Gen i)) = i ∧ 0 < hofI i (w.Gen i) ∧ hofI i (w.Gen i) < 4294967296 := by
  have hr := r.ran i hi
  obtain ⟨q1, q2, q3, q4, q5⟩ := sl_hof (i := i) (g := w.Gen i) (by omega) (by omega) hr.1 hr.2
  have hs : slN (hofI i (w.Gen i)) = i := by unfold slN; rw [q2]; rfl
  have hs' : (slI (hofI i (w.Gen i))).toNat = i := hs
  exact ⟨⟨by omega, goodW_iff.2 ⟨q1, by rw [hs']; exact h1, by rw [hs', q3]⟩⟩, hs, q4, q5⟩
theorem good_hof {w : ref03_Book} {x : Int} (h : goodS w x) : hofI (slN x) (w.Gen (slN x)) = x := by
  obtain ⟨g1, g2, g3⟩ := good_slot h.2
  rw [g3, slN_int, hof_sl h.1 g1]
theorem issueW_gen (w : ref03_Book) (f : Nat) : (issueW w f).Gen = w.Gen := rfl
end Go.Proofs.Ytmdpbdhkmfjlhaa
