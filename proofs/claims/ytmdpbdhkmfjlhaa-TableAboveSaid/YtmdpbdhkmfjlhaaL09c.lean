/- Voids, Clear, and Return. -/
import Derived.Test.YtmdpbdhkmfjlhaaL09b
namespace Go.Proofs.Ytmdpbdhkmfjlhaa
open Go Go.Bw

def vdW (w : ref03_Book) (h : Int) : ref03_Book := if goodW w h = true then voidW w h else w
theorem voidW_other {w : ref03_Book} {h : Int} {i : Nat} (hi : i ≠ slN h) : (voidW w h).Is i = w.Is i ∧ (voidW w h).Gen i = w.Gen i := by
  unfold voidW
  split
  · exact ⟨upd_ne _ _ hi, rfl⟩
  · exact ⟨upd_ne _ _ hi, upd_ne _ _ hi⟩
theorem voidW_self (w : ref03_Book) (h : Int) : (voidW w h).Is (slN h) ≠ 1 := by
  unfold voidW
  split
  · show upd w.Is (slN h) 2 (slN h) ≠ 1; rw [upd_at]; decide
  · show upd w.Is (slN h) 0 (slN h) ≠ 1; rw [upd_at]; decide
theorem vd_live {w : ref03_Book} {h : Int} {i : Nat} (hi : (vdW w h).Is i = 1) : w.Is i = 1 ∧ (vdW w h).Gen i = w.Gen i := by
  unfold vdW at *
  cases hg : goodW w h with
  | false => rw [hg] at hi; exact ⟨hi, by simp⟩
  | true =>
    rw [hg, if_pos rfl] at hi
    rw [if_pos rfl]
    by_cases e : i = slN h
    · subst e; exact absurd hi (voidW_self w h)
    · have := voidW_other (w := w) (h := h) e
      exact ⟨by rw [← this.1]; exact hi, this.2⟩
theorem vds_live : ∀ (l : List Int) {w : ref03_Book} {i : Nat}, (l.foldl vdW w).Is i = 1 → w.Is i = 1 ∧ (l.foldl vdW w).Gen i = w.Gen i
  | [], _, _, h => ⟨h, rfl⟩
  | x :: l, w, i, h => by
    obtain ⟨h1, h2⟩ := vds_live l (w := vdW w x) h
    obtain ⟨h3, h4⟩ := vd_live h1
    exact ⟨h3, h2.trans h4⟩
theorem vds_past : ∀ (l : List Int) {w : ref03_Book} {x : Int}, pastS w x → pastS (l.foldl vdW w) x
  | [], _, _, h => h
  | y :: l, w, x, h => vds_past l (past_void (h := y) x h)
/-- whom voids leave -/
theorem vds_good : ∀ (l : List Int) {b : handle_Book} {w : ref03_Book}, RB b w → (∀ h ∈ l, 0 ≤ h ∧ h < 4294967296) → ∀ x, (∃ b', RB b' (l.foldl vdW w)) ∧ (goodS (l.foldl vdW w) x ↔ goodS w x ∧ x ∉ l)
  | [], b, w, r, _, x => ⟨⟨b, r⟩, by simp⟩
  | y :: l, b, w, r, hl, x => by
    have hy := hl y (by simp)
    obtain ⟨b', e, r'⟩ := void_eq (n := 1) r hy.1 hy.2
    have ih := vds_good l (b := b') (w := vdW w y) r' (fun h hh => hl h (by simp [hh])) x
    refine ⟨ih.1, ?_⟩
    rw [List.foldl_cons, ih.2]
    have := good_void r hy.1 x
    unfold vdW
    rw [this, List.mem_cons, not_or, and_assoc]
theorem refvoid9 {n : Nat} (hn : 40 ≤ n) {b : handle_Book} {w : ref03_Book} (r : RB b w) {h : Int} (h0 : 0 ≤ h) : ref03_Book_Void n w h = some (vdW w h, goodW w h) := refvoid_eq hn r h0
theorem those_ran {b : handle_Book} {w : ref03_Book} (r : RB b w) {p : Nat → Bool} : ∀ h ∈ thoseL w p 32, 0 ≤ h ∧ h < 4294967296 := fun h hh => by
  have := ((mem_those r).1 hh).1
  exact ⟨this.1, slB_lt (good_slot this.2).1⟩
/-! Return -/
/-- how many of the first numbers a word is true of -/
def cntP (p : Nat → Bool) : Nat → Nat
  | 0 => 0
  | k + 1 => cntP p k + (if p k = true then 1 else 0)
theorem cntP_le (p : Nat → Bool) : ∀ k, cntP p k ≤ k
  | 0 => Nat.le_refl _
  | k + 1 => by have := cntP_le p k; simp only [cntP]; split <;> omega
theorem cntP_mono {p q : Nat → Bool} (h : ∀ i, p i = true → q i = true) : ∀ k, cntP p k ≤ cntP q k
  | 0 => Nat.le_refl _
  | k + 1 => by
    have := cntP_mono h k
    simp only [cntP]
    by_cases e : p k = true
    · rw [if_pos e, if_pos (h k e)]; omega
    · rw [if_neg e]; omega
theorem cntP_lt {p q : Nat → Bool} (h : ∀ i, p i = true → q i = true) {c : Nat} (hp : p c = false) (hq : q c = true) : ∀ k, c < k → cntP p k < cntP q k
  | 0, hc => absurd hc (Nat.not_lt_zero _)
  | k + 1, hc => by
    simp only [cntP]
    by_cases e : c = k
    · subst e
      have := cntP_mono h c
      rw [hp, hq]; simp; omega
    · have := cntP_lt h hp hq k (by omega)
      by_cases e2 : p k = true
      · rw [if_pos e2, if_pos (h k e2)]; omega
      · rw [if_neg e2]; omega
end Go.Proofs.Ytmdpbdhkmfjlhaa
