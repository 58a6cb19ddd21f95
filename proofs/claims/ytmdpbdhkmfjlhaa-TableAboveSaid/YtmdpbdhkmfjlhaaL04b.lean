/- Whether an extent may be. -/
import Derived.Test.YtmdpbdhkmfjlhaaL04
namespace Go.Proofs.Ytmdpbdhkmfjlhaa
open Go Go.Bw

/-- runs that lie apart, each one within the pool -/
structure Gd4 (l : List Rn) : Prop where
  ran : ∀ y ∈ l, okR y.At y.N
  pw : l.Pairwise fun y z => ∀ p, y.At ≤ p → p < y.At + y.N → ¬ (z.At ≤ p ∧ p < z.At + z.N)
theorem Gd4.nil : Gd4 [] := ⟨by simp, .nil⟩
theorem gd4_snoc {l : List Rn} {y : Rn} : Gd4 (l ++ [y]) ↔ Gd4 l ∧ okR y.At y.N ∧ ∀ p, y.At ≤ p → p < y.At + y.N → ¬ memI l p := by
  constructor
  · rintro ⟨h1, h2⟩
    obtain ⟨p1, p2, p3⟩ := List.pairwise_append.1 h2
    exact ⟨⟨fun z hz => h1 z (by simp [hz]), p1⟩, h1 y (by simp), fun p q1 q2 ⟨z, hz, q3, q4⟩ => p3 z hz y (by simp) p q3 q4 ⟨q1, q2⟩⟩
  · rintro ⟨⟨h1, h2⟩, h3, h4⟩
    refine ⟨fun z hz => ?_, List.pairwise_append.2 ⟨h2, List.pairwise_singleton _ _, fun a ha b hb p q1 q2 q3 => ?_⟩⟩
    · rcases List.mem_append.1 hz with hz | hz
      · exact h1 z hz
      · rw [List.mem_singleton.1 hz]; exact h3
    · rw [List.mem_singleton.1 hb] at q3
      exact h4 p q3.1 q3.2 ⟨a, ha, q1, q2⟩

theorem Gd4.nat {l : List Rn} (h : Gd4 l) : sumNat l := fun y hy => (h.ran y hy).1
theorem sumN_app : ∀ (l m : List Rn), sumN (l ++ m) = sumN l + sumN m
  | [], m => by simp [sumN]
  | y :: r, m => by rw [List.cons_append, sumN_cons, sumN_cons, sumN_app r m]; omega

theorem sumov_le {l : List Rn} (h : Can l) : ∀ i : Nat, sumov l i ≤ i
  | 0 => by rw [Int.natCast_zero, sumov_zero h]; exact Int.le_refl _
  | i + 1 => by
    have := sumov_le h i
    obtain ⟨a, b⟩ := sumov_step h i
    have e : ((i + 1 : Nat) : Int) = (i : Int) + 1 := by omega
    rw [e]
    by_cases c : memI l i
    · rw [a c]; omega
    · rw [b c]; omega
theorem may04_eq {n : Nat} (hn : 110 ≤ n) {e : extent_Extent} (hl : e.Runs.length ≤ 80) (hr : ∀ y ∈ e.Runs, I64 y.At ∧ I64 y.N) : ∃ b, extent_Extent_May n e = some b ∧ (b = true ↔ Gd4 e.Runs ∧ sumN e.Runs ≤ 64 ∧ 0 ≤ e.Len ∧ e.Len ≤ 32 * sumN e.Runs) := by
  unfold extent_Extent_May
  refine loop2_ind (fun (i : Int) (r : runs_Runs) => 0 ≤ i ∧ i ≤ e.Runs.length ∧ Can r.l ∧ Gd4 (e.Runs.take i.toNat) ∧ (∀ p, memI r.l p ↔ memI (e.Runs.take i.toNat) p) ∧ sumN r.l = sumN (e.Runs.take i.toNat)) (fun i _ => ((e.Runs.length : Int) - i).toNat)
    (fun o => ∃ b, o = some b ∧ (b = true ↔ Gd4 e.Runs ∧ sumN e.Runs ≤ 64 ∧ 0 ≤ e.Len ∧ e.Len ≤ 32 * sumN e.Runs)) ?_ n 0 Z_runs_Runs ⟨by omega, by omega, Can.nil, Gd4.nil, fun p => Iff.rfl, rfl⟩ (by omega)
  rintro kk i r ⟨i0, i1, hc, hg, hm, hs⟩ ih
  obtain ⟨i, rfl⟩ := Int.eq_ofNat_of_zero_le i0
  rw [Int.toNat_natCast] at hg hm hs
  by_cases c : i < e.Runs.length
  · have hgd : e.Runs.getD (Int.toNat (i : Int)) default = e.Runs[i] := by rw [Int.toNat_natCast, List.getD, List.getElem?_eq_getElem c]; rfl
    have hy := hr _ (List.getElem_mem c)
    have ht : e.Runs.take (i + 1) = e.Runs.take i ++ [e.Runs[i]] := List.take_succ_eq_append_getElem c
    rw [cn_true (by simpa using c), gu_true (inb_t (by omega) (by omega)), lt_eq, hgd]
    obtain ⟨r', g, g1, g2, g3, g4⟩ := give_eq (n := n) hn hc (at_ := e.Runs[i].At) (k := e.Runs[i].N) hy.1 hy.2
    rw [bd_some g1]
    have hiff : g = true ↔ Gd4 (e.Runs.take (i + 1)) := by
      rw [g2, ht, gd4_snoc]
      exact ⟨fun ⟨a, b⟩ => ⟨hg, a, fun p q1 q2 q3 => b p q1 q2 ((hm p).2 q3)⟩, fun ⟨_, a, b⟩ => ⟨a, fun p q1 q2 q3 => b p q1 q2 ((hm p).1 q3)⟩⟩
    cases g with
    | false =>
      refine ⟨false, rfl, fun h => (by cases h), fun ⟨h, _⟩ => ?_⟩
      rw [← List.take_append_drop (i + 1) e.Runs] at h
      exact hiff.2 ⟨fun y hy => h.ran y (List.mem_append_left _ hy), (List.pairwise_append.1 h.pw).1⟩
    | true =>
      obtain ⟨c1, c2⟩ := g4 rfl
      have ho := (g2.1 rfl).1
      rw [cn_false (b := !true) rfl, w_i64 (by omega) (by omega)]
      have e1 : ((i : Int) + 1).toNat = i + 1 := by omega
      refine ih _ _ ⟨by omega, by omega, c1, by rw [e1]; exact hiff.1 rfl, fun p => ?_, ?_⟩ (by omega)
      · rw [e1, ht, memI_app, memI_one, c2 p, hm p]
      · rw [e1, ht, sumN_app, ← hs]
        rw [sum_split c1 hc (can_one ho) (fun p => by rw [c2 p, memI_one]) (fun p hp hq => (g2.1 rfl).2 p (memI_one.1 hq).1 (memI_one.1 hq).2 hp)]
  · rw [cn_false (by simpa using c)]
    obtain rfl : i = e.Runs.length := by omega
    rw [List.take_length] at hg hm hs
    have hs2 := sumN_ran (lo := 0) hc (fun y hy => (hc.ran y hy).1) (by omega)
    have h64 : sumN r.l ≤ 64 := by rw [← sumov_all hc]; exact sumov_le hc 64
    rw [cl_some (pages_eq (n := n) (by omega) (by omega) hg.nat (by rw [← hs]; omega))]
    refine ⟨_, rfl, ?_⟩
    by_cases c0 : 0 ≤ e.Len
    · have e1 : (bif decide (0 ≤ e.Len) == true then sumN e.Runs else default) = sumN e.Runs := by simp [c0]
      rw [e1, w_i64 (by omega) (by omega)]
      simp only [c0, decide_true, Bool.true_and, decide_eq_true_eq, true_and, ← hs]
      exact ⟨fun h => ⟨hg, h64, by omega⟩, fun h => by omega⟩
    · simp [c0]
end Go.Proofs.Ytmdpbdhkmfjlhaa
