/- TokenOneWriter, as a plain law. -/
import Derived.Test.YtmdpbdhkmfjlhaaL09e
namespace Go.Proofs.Ytmdpbdhkmfjlhaa
open Go Go.Bw

theorem live_iff {b : handle_Book} {w : ref03_Book} (r : RB b w) {l : List Int} (hl : ∀ h ∈ l, 0 ≤ h ∧ h < 4294967296) {i : Nat} (hi : i < 32) : (l.foldl vdW w).Is i = 1 ↔ w.Is i = 1 ∧ hofI i (w.Gen i) ∉ l := by
  constructor
  · intro h
    obtain ⟨h1, h2⟩ := vds_live l h
    obtain ⟨⟨b', r'⟩, h3⟩ := vds_good l r hl (hofI i (w.Gen i))
    have := (hof_good r' hi h).1
    rw [h2] at this
    exact ⟨h1, (h3.1 this).2⟩
  · rintro ⟨h1, h2⟩
    obtain ⟨_, h3⟩ := vds_good l r hl (hofI i (w.Gen i))
    have hg := hof_good r hi h1
    have := (good_slot (h3.2 ⟨hg.1, h2⟩).2).2.1
    rwa [hg.2.1] at this
theorem mem_hof {b : handle_Book} {w : ref03_Book} (r : RB b w) {p : Nat → Bool} {i : Nat} (hi : i < 32) (h1 : w.Is i = 1) : hofI i (w.Gen i) ∈ thoseL w p 32 ↔ p i = true := by
  have hg := hof_good r hi h1
  rw [mem_those r, hg.2.1]
  exact ⟨fun h => h.2, fun h => ⟨hg.1, h⟩⟩
theorem hof_inj {b : handle_Book} {w : ref03_Book} (r : RB b w) {i j : Nat} (hi : i < 32) (hj : j < 32) (h1 : w.Is i = 1) (h2 : w.Is j = 1) (e : hofI i (w.Gen i) = hofI j (w.Gen j)) : i = j := by
  have a := (hof_good r hi h1).2.1
  have b := (hof_good r hj h2).2.1
  rw [e] at a
  exact a.symm.trans b

section
end

theorem len_one : ∀ (l : List Int), l.Nodup → (∀ a ∈ l, ∀ b ∈ l, a = b) → l.length ≤ 1
  | [], _, _ => Nat.zero_le _
  | [_], _, _ => Nat.le_refl _
  | a :: b :: t, hn, h => by
    have := h a (by simp) b (by simp)
    subst this
    rw [List.nodup_cons] at hn
    exact absurd (by simp) hn.1
end Go.Proofs.Ytmdpbdhkmfjlhaa
