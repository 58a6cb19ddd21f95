/- The stage's theorem of runs: sets of the same pages have the same runs. -/
import Derived.Test.YtmdpbdhkmfjlhaaL01c
namespace Go.Proofs.Ytmdpbdhkmfjlhaa
open Go Go.Bw

theorem sum_split {l m x : List Rn} (hl : Can l) (hm : Can m) (hx : Can x) (h1 : ∀ p, memI l p ↔ memI m p ∨ memI x p) (h2 : ∀ p, memI m p → ¬ memI x p) : sumN l = sumN m + sumN x := by
  have key : ∀ i : Nat, sumov l i = sumov m i + sumov x i := by
    intro i
    induction i with
    | zero => rw [Int.natCast_zero, sumov_zero hl, sumov_zero hm, sumov_zero hx]; rfl
    | succ i ih =>
      have e : ((i + 1 : Nat) : Int) = (i : Int) + 1 := by omega
      rw [e]
      obtain ⟨a1, a2⟩ := sumov_step hl i
      obtain ⟨b1, b2⟩ := sumov_step hm i
      obtain ⟨c1, c2⟩ := sumov_step hx i
      by_cases c : memI m i
      · rw [a1 ((h1 _).2 (.inl c)), b1 c, c2 (h2 _ c), ih]; omega
      · by_cases d : memI x i
        · rw [a1 ((h1 _).2 (.inr d)), b2 c, c1 d, ih]; omega
        · rw [a2 (fun h => ((h1 _).1 h).elim c d), b2 c, c2 d, ih]
  have := key 64
  rw [show ((64 : Nat) : Int) = 64 from rfl, sumov_all hl, sumov_all hm, sumov_all hx] at this
  exact this
theorem can_one {a k : Int} (h : okR a k) : Can [(⟨a, k⟩ : Rn)] := can_snoc (l := []) Can.nil (by unfold okR at h; exact ⟨h.2.1, h.1, h.2.2⟩) (by simp)
theorem sum_one (a k : Int) : sumN [(⟨a, k⟩ : Rn)] = k := by simp [sumN]
theorem mask_lt {l : List Rn} (hl : Can l) {m : Nat} (h : ∀ p : Nat, m.testBit p = true ↔ memI l p) : m < 2 ^ 64 := by
  refine Nat.lt_pow_two_of_testBit m fun i hi => ?_
  cases hb : m.testBit i with
  | false => rfl
  | true => have := memI_ran hl ((h i).1 hb); omega
/-- pages that were taken -/
structure OW (first r : List Rn) (t : List Int) : Prop where
  can : Can r
  nd : t.Nodup
  mem : ∀ p, memI first p ↔ memI r p ∨ p ∈ t
  apart : ∀ p, p ∈ t → ¬ memI r p
theorem nodup_len : ∀ (k : Nat) {t : List Int}, t.Nodup → (∀ p ∈ t, 0 ≤ p ∧ p < (k : Int)) → t.length ≤ k
  | 0, [], _, _ => Nat.le_refl _
  | 0, x :: t, _, h => by have := h x (by simp); omega
  | k + 1, t, hn, h => by
    by_cases hk : (k : Int) ∈ t
    · have h1 := nodup_len k (hn.erase (k : Int)) fun x hx => by
        have h2 := h x (List.mem_of_mem_erase hx)
        have h3 : x ≠ k := fun e => by subst e; exact (List.Nodup.not_mem_erase hn) hx
        omega
      rw [List.length_erase_of_mem hk] at h1
      omega
    · have h1 := nodup_len k hn fun x hx => by
        have h2 := h x hx
        have h3 : x ≠ k := fun e => hk (e ▸ hx)
        omega
      omega
theorem OW.ran {first r : List Rn} {t : List Int} (hf : Can first) (h : OW first r t) {p : Int} (hp : p ∈ t) : 0 ≤ p ∧ p < 64 := memI_ran hf ((h.mem p).2 (.inr hp))
theorem OW.len {first r : List Rn} {t : List Int} (hf : Can first) (h : OW first r t) : t.length ≤ 64 := nodup_len 64 h.nd fun p hp => h.ran hf hp
theorem nd_snoc {t : List Int} {p : Int} (h : t.Nodup) (hp : p ∉ t) : (t ++ [p]).Nodup := by
  rw [List.nodup_append]
  refine ⟨h, by simp, fun a ha b hb => ?_⟩
  rw [List.mem_singleton.1 hb]
  rintro rfl
  exact hp ha

end Go.Proofs.Ytmdpbdhkmfjlhaa
