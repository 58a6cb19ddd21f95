/- Bytes, places and fits of an extent. -/
import Derived.Test.YtmdpbdhkmfjlhaaL04b
namespace Go.Proofs.Ytmdpbdhkmfjlhaa
open Go Go.Bw

def bytesR (y : Rn) : List Int := (List.range (32 * y.N).toNat).map fun (k : Nat) => 32 * y.At + (k : Int)
def bytesL (l : List Rn) : List Int := l.flatMap bytesR
theorem bytesR_len (y : Rn) : (bytesR y).length = (32 * y.N).toNat := by simp [bytesR]
theorem bytesL_cons (y : Rn) (l : List Rn) : bytesL (y :: l) = bytesR y ++ bytesL l := by simp [bytesL]
theorem bytesL_app (l m : List Rn) : bytesL (l ++ m) = bytesL l ++ bytesL m := by simp [bytesL]
theorem bytesL_one (y : Rn) : bytesL [y] = bytesR y := by simp [bytesL]
theorem bytesL_len : ∀ {l : List Rn}, sumNat l → ((bytesL l).length : Int) = 32 * sumN l
  | [], _ => by simp [bytesL, sumN]
  | y :: r, h => by
    have h1 := h y (by simp)
    have h2 := bytesL_len (l := r) fun z hz => h z (by simp [hz])
    rw [bytesL_cons, List.length_append, bytesR_len, sumN_cons]; omega
theorem sumN_take {l : List Rn} (h : sumNat l) (i : Nat) : sumN (l.take i) ≤ sumN l ∧ 0 ≤ sumN (l.take i) := by
  have h1 : sumN (l.take i) + sumN (l.drop i) = sumN l := by rw [← sumN_app, List.take_append_drop]
  have h2 : 0 ≤ sumN (l.drop i) := sumN_pos fun z hz => h z (List.mem_of_mem_drop hz)
  have h3 : 0 ≤ sumN (l.take i) := sumN_pos fun z hz => h z (List.mem_of_mem_take hz)
  omega
theorem range_snoc (k : Nat) (f : Nat → Int) : (List.range (k + 1)).map f = (List.range k).map f ++ [f k] := by rw [List.range_succ, List.map_append]; rfl

/-- what an extent that may be is -/
structure Gx (l : List Rn) : Prop where
  gd : Gd4 l
  sum : sumN l ≤ 64
theorem len_le : ∀ {l : List Rn}, sumNat l → (l.length : Int) ≤ sumN l
  | [], _ => by simp [sumN]
  | y :: r, h => by
    have h1 := h y (by simp)
    have h2 := len_le (l := r) fun z hz => h z (by simp [hz])
    rw [sumN_cons, List.length_cons]; omega
theorem Gx.len {l : List Rn} (h : Gx l) : l.length ≤ 64 := by have := len_le h.gd.nat; have := h.sum; omega
theorem Gx.pos {l : List Rn} (h : Gx l) : 0 ≤ sumN l := sumN_pos h.gd.nat

theorem toR_at {l : List (Nat → Int)} {i : Nat} : (l.getD i default) 0 = (toR (l.getD i default)).At := rfl
theorem toR_n {l : List (Nat → Int)} {i : Nat} : (l.getD i default) 1 = (toR (l.getD i default)).N := rfl

theorem memI_snoc {l : List Rn} {y : Rn} {p : Int} : memI (l ++ [y]) p ↔ memI l p ∨ (y.At ≤ p ∧ p < y.At + y.N) := by rw [memI_app, memI_one]
theorem refmay_eq {n : Nat} (hn : 110 ≤ n) {x : ref04_Extent} (hl : x.Runs.length ≤ 80) (hr : ∀ y ∈ x.Runs.map toR, I64 y.At ∧ I64 y.N) : ∃ b, ref04_Extent_May n x = some b ∧ (b = true ↔ Gd4 (x.Runs.map toR) ∧ 0 ≤ x.Len ∧ x.Len ≤ 32 * sumN (x.Runs.map toR)) := by
  unfold ref04_Extent_May
  refine loop3_ind (fun (s i : Int) (t : Nat → Bool) => 0 ≤ i ∧ i ≤ x.Runs.length ∧ Gd4 ((x.Runs.map toR).take i.toNat) ∧ s = sumN ((x.Runs.map toR).take i.toNat) ∧ ∀ p : Nat, p < 64 → (t p = true ↔ memI ((x.Runs.map toR).take i.toNat) p)) (fun _ i _ => ((x.Runs.length : Int) - i).toNat)
    (fun o => ∃ b, o = some b ∧ (b = true ↔ Gd4 (x.Runs.map toR) ∧ 0 ≤ x.Len ∧ x.Len ≤ 32 * sumN (x.Runs.map toR))) ?_ n 0 0 _ ⟨by omega, by omega, Gd4.nil, rfl, fun p _ => ⟨fun h => by simp at h, fun h => by simp [memI] at h⟩⟩ (by omega)
  rintro kk s i t ⟨i0, i1, hg, rfl, ht⟩ ih
  obtain ⟨i, rfl⟩ := Int.eq_ofNat_of_zero_le i0
  rw [Int.toNat_natCast] at *
  by_cases c : i < x.Runs.length
  · have g1 : inb (i : Int) x.Runs.length = true := inb_t (by omega) (by omega)
    have hi : i < (x.Runs.map toR).length := by rw [List.length_map]; exact c
    have hy := hr _ (List.getElem_mem hi)
    have hgt := toR_get c
    have htk : (x.Runs.map toR).take (i + 1) = (x.Runs.map toR).take i ++ [(x.Runs.map toR)[i]] := List.take_succ_eq_append_getElem hi
    have hall : Gd4 (x.Runs.map toR) → Gd4 ((x.Runs.map toR).take (i + 1)) := fun h => by
      rw [← List.take_append_drop (i + 1) (x.Runs.map toR)] at h
      exact ⟨fun y hy => h.ran y (List.mem_append_left _ hy), (List.pairwise_append.1 h.pw).1⟩
    have hsl : sumN ((x.Runs.map toR).take i) ≤ 80 * 64 := by
      have : ∀ (l : List Rn), (∀ y ∈ l, okR y.At y.N) → sumN l ≤ l.length * 64 := by
        intro l
        induction l with
        | nil => intro _; simp [sumN]
        | cons y r ih => intro h; have h1 := h y (by simp); have := ih fun z hz => h z (by simp [hz]); unfold okR at h1; rw [sumN_cons, List.length_cons]; omega
      have h2 := this _ hg.ran
      have h3 : ((x.Runs.map toR).take i).length ≤ 80 := by rw [List.length_take, List.length_map]; omega
      omega
    have hsl0 : 0 ≤ sumN ((x.Runs.map toR).take i) := sumN_pos hg.nat
    rw [htk] at hall
    generalize (x.Runs.map toR)[i] = y at *
    rw [cn_true (by simpa using c)]
    simp only [toR_at, toR_n, Int.toNat_natCast, hgt, gu_true g1]
    obtain ⟨⟨a1, a2⟩, n1, n2⟩ := hy
    by_cases hk : okR y.At y.N
    · obtain ⟨k1, k2, k3⟩ := hk
      rw [w_i64 (x := y.At + y.N) (by omega) (by omega), cn_false (by simp; omega)]
      refine loop2_ind (fun (p : Int) (t : Nat → Bool) => y.At ≤ p ∧ p ≤ y.At + y.N ∧ (∀ q, y.At ≤ q → q < p → ¬ memI ((x.Runs.map toR).take i) q) ∧ ∀ q : Nat, q < 64 → (t q = true ↔ memI ((x.Runs.map toR).take i) q ∨ (y.At ≤ (q : Int) ∧ (q : Int) < p))) (fun p _ => (y.At + y.N - p).toNat)
        (fun o => ∃ b, o = some b ∧ (b = true ↔ Gd4 (x.Runs.map toR) ∧ 0 ≤ x.Len ∧ x.Len ≤ 32 * sumN (x.Runs.map toR))) ?_ n _ t ⟨by omega, by omega, fun q _ _ => by omega, fun q hq => by rw [ht q hq]; exact ⟨.inl, fun h => h.elim id fun h => by omega⟩⟩ (by omega)
      rintro k4 p t2 ⟨p0, p1, p2, p3⟩ ih2
      obtain ⟨p, rfl⟩ := Int.eq_ofNat_of_zero_le (show 0 ≤ p by omega)
      by_cases d : (p : Int) < y.At + y.N
      · have e1 : inb (p : Int) 64 = true := inb_t (by omega) (by omega)
        rw [cn_true (by simpa using d), gu_true e1, Int.toNat_natCast]
        have hp := p3 p (by omega)
        by_cases m : memI ((x.Runs.map toR).take i) p
        · rw [cn_true (hp.2 (.inl m))]
          exact ⟨false, rfl, fun h => (by cases h), fun ⟨h, _⟩ => absurd m ((gd4_snoc.1 (hall h)).2.2 p p0 d)⟩
        · have : t2 p = false := by
            cases hh : t2 p with
            | false => rfl
            | true => rcases hp.1 hh with h | h
                      · exact absurd h m
                      · omega
          rw [cn_false this, gu_true e1, lt_eq, w_i64 (by omega) (by omega)]
          refine ih2 _ _ ⟨by omega, by omega, fun q q1 q2 => ?_, fun q hq => ?_⟩ (by omega)
          · by_cases e : q = p
            · subst e; exact m
            · exact p2 q q1 (by omega)
          · rw [upd_ite]
            by_cases e : q = p
            · subst e; simp; exact .inr ⟨p0, by omega⟩
            · rw [if_neg e, p3 q hq]
              exact ⟨fun h => h.imp id fun h => ⟨h.1, by omega⟩, fun h => h.imp id fun h => ⟨h.1, by omega⟩⟩
      · rw [cn_false (by simpa using d), w_i64 (by omega) (by omega), w_i64 (by omega) (by omega)]
        have e1 : ((i : Int) + 1).toNat = i + 1 := by omega
        refine ih _ _ _ ⟨by omega, by omega, ?_, ?_, fun q hq => ?_⟩ (by omega)
        · rw [e1, htk]
          exact gd4_snoc.2 ⟨hg, ⟨k1, k2, k3⟩, fun q q1 q2 => p2 q q1 (by omega)⟩
        · rw [e1, htk, sumN_app]; simp [sumN]
        · rw [e1, htk, memI_snoc, p3 q hq]
          exact ⟨fun h => h.imp id fun h => ⟨h.1, by omega⟩, fun h => h.imp id fun h => ⟨h.1, by omega⟩⟩
    · have hb : (((((decide (y.N < 1) || decide (64 < y.N)) || decide (y.At < 0)) || decide (63 < y.At)) || decide (64 < (wr .i64 (y.At + y.N)))) : Bool) = true := by
        unfold okR at hk
        by_cases h1 : y.N < 1
        · simp [h1]
        by_cases h2 : 64 < y.N
        · simp [h2]
        by_cases h3 : y.At < 0
        · simp [h3]
        by_cases h4 : 63 < y.At
        · simp [h4]
        rw [w_i64 (x := y.At + y.N) (by omega) (by omega)]
        have : 64 < y.At + y.N := by omega
        simp [this]
      rw [cn_true hb]
      exact ⟨false, rfl, fun h => (by cases h), fun ⟨h, _⟩ => absurd (gd4_snoc.1 (hall h)).2.1 hk⟩
  · rw [cn_false (by simpa using c)]
    have e : (x.Runs.map toR).take i = x.Runs.map toR := List.take_of_length_le (by rw [List.length_map]; omega)
    rw [e] at hg ht ⊢
    have h2 : sumN (x.Runs.map toR) ≤ 80 * 64 ∧ 0 ≤ sumN (x.Runs.map toR) := by
      have : ∀ (l : List Rn), (∀ y ∈ l, okR y.At y.N) → sumN l ≤ l.length * 64 := by
        intro l
        induction l with
        | nil => intro _; simp [sumN]
        | cons y r ih => intro h; have h1 := h y (by simp); have := ih fun z hz => h z (by simp [hz]); unfold okR at h1; rw [sumN_cons, List.length_cons]; omega
      have h2 := this _ hg.ran
      rw [List.length_map] at h2
      exact ⟨by omega, sumN_pos hg.nat⟩
    rw [w_i64 (by omega) (by omega)]
    refine ⟨_, rfl, ?_⟩
    rw [Bool.and_eq_true, decide_eq_true_iff, decide_eq_true_iff]
    exact ⟨fun h => ⟨hg, h⟩, fun h => h.2⟩

/-- the pages of runs -/
def ptsR (y : Rn) : List Int := (List.range y.N.toNat).map fun (k : Nat) => y.At + (k : Int)
theorem mem_ptsR {y : Rn} {p : Int} : p ∈ ptsR y ↔ y.At ≤ p ∧ p < y.At + y.N := by
  unfold ptsR
  rw [List.mem_map]
  constructor
  · rintro ⟨k, hk, rfl⟩
    rw [List.mem_range] at hk; omega
  · intro h
    exact ⟨(p - y.At).toNat, by rw [List.mem_range]; omega, by omega⟩
theorem nd_ptsR (y : Rn) : (ptsR y).Nodup := by
  unfold ptsR
  rw [List.Nodup, List.pairwise_map]
  exact List.nodup_range.imp fun h e => h (by omega)
theorem snoc_ind {α : Type} {P : List α → Prop} (h0 : P []) (h1 : ∀ l y, P l → P (l ++ [y])) (l : List α) : P l := by
  have key : ∀ (r : List α), P r.reverse := by
    intro r
    induction r with
    | nil => exact h0
    | cons y r ih => rw [List.reverse_cons]; exact h1 _ _ ih
  have := key l.reverse
  rwa [List.reverse_reverse] at this
theorem pts_all : ∀ (l : List Rn), Gd4 l → ∃ t : List Int, t.Nodup ∧ (∀ p, p ∈ t ↔ memI l p) ∧ (t.length : Int) = sumN l := by
  intro l
  induction l using snoc_ind with
  | h0 => intro _; exact ⟨[], List.nodup_nil, by simp [memI], by simp [sumN]⟩
  | h1 l y ih =>
    intro h
    obtain ⟨h1, h2, h3⟩ := gd4_snoc.1 h
    obtain ⟨t, t1, t2, t3⟩ := ih h1
    refine ⟨t ++ ptsR y, List.nodup_append.2 ⟨t1, nd_ptsR y, fun a ha b hb e => ?_⟩, fun p => ?_, ?_⟩
    · subst e
      have := mem_ptsR.1 hb
      exact h3 _ this.1 this.2 ((t2 _).1 ha)
    · rw [List.mem_append, t2, mem_ptsR, memI_snoc]
    · have := h2.1
      rw [List.length_append, sumN_app]
      simp only [ptsR, List.length_map, List.length_range, sumN, List.map_cons, List.map_nil, List.sum_cons, List.sum_nil] at *
      omega
theorem gd4_sum {l : List Rn} (h : Gd4 l) : sumN l ≤ 64 := by
  obtain ⟨t, t1, t2, t3⟩ := pts_all l h
  have := nodup_len 64 t1 fun p hp => by
    obtain ⟨y, hy, h1, h2⟩ := (t2 p).1 hp
    obtain ⟨a, b, c⟩ := h.ran y hy
    exact ⟨by omega, by omega⟩
  omega
theorem gx_of {l : List Rn} (h : Gd4 l) : Gx l := ⟨h, gd4_sum h⟩
end Go.Proofs.Ytmdpbdhkmfjlhaa
