/- What package token and its document's answer compute. -/
import Derived.Test.YtmdpbdhkmfjlhaaDToken
import Derived.Test.YtmdpbdhkmfjlhaaL03p
import Derived.Test.YtmdpbdhkmfjlhaaPMap
namespace Go.Proofs.Ytmdpbdhkmfjlhaa
open Go Go.Bw

def slN (h : Int) : Nat := (slI h).toNat
theorem slN_lt (h : Int) : slN h < 32 := by have := slI_ran h; unfold slN; omega
theorem slN_int (h : Int) : (slN h : Int) = slI h := by have := slI_ran h; unfold slN; omega
theorem good_slot {w : ref03_Book} {h : Int} (hg : goodW w h = true) : slB h = true ∧ w.Is (slN h) = 1 ∧ w.Gen (slN h) = h / 256 := goodW_iff.1 hg
theorem goodB {n : Nat} {b : handle_Book} {w : ref03_Book} (r : RB b w) {h : Int} (h0 : 0 ≤ h) (h1 : h < 4294967296) : handle_Book_Good n b h = some (goodW w h) := good_eq r h0 h1
/-! those tokens of which something is so -/
def thoseL (w : ref03_Book) (p : Nat → Bool) : Nat → List Int
  | 0 => []
  | k + 1 => thoseL w p k ++ (if w.Is k = 1 ∧ p k = true then [hofI k (w.Gen k)] else [])
theorem those_filter {b : handle_Book} {w : ref03_Book} (r : RB b w) (p : Nat → Bool) : ∀ k, k ≤ 32 → (issuedL w k).filter (fun h => p (slN h)) = thoseL w p k
  | 0, _ => rfl
  | k + 1, hk => by
    have hr := r.ran k (by omega)
    obtain ⟨q1, q2, q3, q4, q5⟩ := sl_hof (i := k) (g := w.Gen k) (by omega) (by omega) hr.1 hr.2
    have hs : slN (hofI k (w.Gen k)) = k := by unfold slN; rw [q2]; rfl
    rw [issuedL, thoseL, List.filter_append, those_filter r p k (by omega)]
    congr 1
    by_cases h1 : w.Is k = 1
    · by_cases h2 : p k = true
      · rw [if_pos h1, if_pos ⟨h1, h2⟩]; simp [hs, h2]
      · rw [if_pos h1, if_neg (fun h => h2 h.2)]; simp [hs, h2]
    · rw [if_neg h1, if_neg (fun h => h1 h.1)]; rfl
theorem thoseL_len (w : ref03_Book) (p : Nat → Bool) : ∀ k, (thoseL w p k).length ≤ k
  | 0 => Nat.le_refl _
  | k + 1 => by
    have := thoseL_len w p k
    simp only [thoseL, List.length_append]; split <;> simp <;> omega
theorem thoseL_congr {w : ref03_Book} {p q : Nat → Bool} (h : ∀ i, i < 32 → w.Is i = 1 → p i = q i) : ∀ k, k ≤ 32 → thoseL w p k = thoseL w q k
  | 0, _ => rfl
  | k + 1, hk => by
    rw [thoseL, thoseL, thoseL_congr h k (by omega)]
    congr 1
    by_cases h1 : w.Is k = 1
    · rw [h k (by omega) h1]
    · rw [if_neg (fun h => h1 h.1), if_neg (fun h => h1 h.1)]
theorem mem_those {b : handle_Book} {w : ref03_Book} (r : RB b w) {p : Nat → Bool} {x : Int} : x ∈ thoseL w p 32 ↔ goodS w x ∧ p (slN x) = true := by
  rw [← those_filter r p 32 (Nat.le_refl _), List.mem_filter, goodS_all r]
theorem those_nd {b : handle_Book} {w : ref03_Book} (r : RB b w) (p : Nat → Bool) : (thoseL w p 32).Nodup := by
  rw [← those_filter r p 32 (Nat.le_refl _)]
  exact (issuedL_nd r 32 (Nat.le_refl _)).filter _
end Go.Proofs.Ytmdpbdhkmfjlhaa
