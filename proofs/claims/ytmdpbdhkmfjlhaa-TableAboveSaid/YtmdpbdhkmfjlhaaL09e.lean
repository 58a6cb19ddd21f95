/- TokenPlays, as a plain law. -/
import Derived.Test.YtmdpbdhkmfjlhaaL09d
namespace Go.Proofs.Ytmdpbdhkmfjlhaa
open Go Go.Bw

def sumR (ρ : Nat → Nat) : Nat → Nat
  | 0 => 0
  | k + 1 => sumR ρ k + ρ k
theorem sumR_le (ρ : Nat → Nat) {j : Nat} : ∀ k, j < k → ρ j ≤ sumR ρ k
  | 0, h => absurd h (Nat.not_lt_zero _)
  | k + 1, h => by
    simp only [sumR]
    by_cases e : j = k
    · subst e; omega
    · have := sumR_le ρ (j := j) k (by omega); omega
theorem good_past {w : ref03_Book} {x : Int} (h : goodS w x) : pastS w x := by
  obtain ⟨g1, g2, g3⟩ := good_slot h.2
  exact ⟨h.1, g1, .inr ⟨g3.symm, by show w.Is (slN x) ≠ 0; omega⟩⟩
theorem thoseL_false {w : ref03_Book} {p : Nat → Bool} (h : ∀ i, i < 32 → w.Is i = 1 → p i = false) : ∀ k, k ≤ 32 → thoseL w p k = []
  | 0, _ => rfl
  | k + 1, hk => by
    rw [thoseL, thoseL_false h k (by omega), if_neg (fun hh => by rw [h k (by omega) hh.1] at hh; cases hh.2)]; rfl
end Go.Proofs.Ytmdpbdhkmfjlhaa
