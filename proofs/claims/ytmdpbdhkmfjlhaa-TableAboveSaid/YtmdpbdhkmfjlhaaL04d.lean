/- ExtentTells, as a plain law. -/
import Derived.Test.YtmdpbdhkmfjlhaaL04c
namespace Go.Proofs.Ytmdpbdhkmfjlhaa
open Go Go.Bw

def up4 (x a : Int) : Int := (x + a - 1) / a * a
def al4 (a : Int) : Prop := a = 1 ∨ a = 2 ∨ a = 4 ∨ a = 8
theorem objB_iff {s a : Int} : objB s a = true ↔ (1 ≤ s ∧ s ≤ 128) ∧ al4 a := by
  unfold objB al4
  simp [or_assoc]
theorem up4_ran {x a : Int} (ha : al4 a) : x ≤ up4 x a ∧ up4 x a ≤ x + a - 1 ∧ up4 x a % a = 0 ∧ ∀ y, x ≤ y → y ≤ up4 x a → y % a = 0 → y = up4 x a := by
  unfold up4
  rcases ha with rfl | rfl | rfl | rfl <;> exact ⟨by omega, by omega, by omega, fun y _ _ _ => by omega⟩
/-- an extent that may be -/
structure May4 (e : extent_Extent) : Prop where
  gx : Gx e.Runs
  lo : 0 ≤ e.Len
  hi : e.Len ≤ 32 * sumN e.Runs
/-- does an object fit? -/
def fitB4 (e : extent_Extent) (s a : Int) : Bool := objB s a && decide (up4 e.Len a + s ≤ 32 * sumN e.Runs)
def fitV4 (e : extent_Extent) (s a : Int) : Int × Bool := if fitB4 e s a = true then (up4 e.Len a, true) else (0, false)
theorem pages4 {n : Nat} (hn : 110 ≤ n) {e : extent_Extent} (h : May4 e) : extent_Extent_Pages n e = some (sumN e.Runs) := by
  have := h.gx.len; have := h.gx.sum
  exact pages_eq (by omega) (by omega) h.gx.gd.nat (by omega)
/-- where an address lies -/
def plV (l : List Rn) (b at_ : Int) : Int × Bool := if b ≤ at_ ∧ at_ < b + 32 * sumN l then ((bytesL l).getD (at_ - b).toNat 0, true) else (0, false)
theorem getD_app_l {α : Type} (l m : List α) (i : Nat) (d : α) (h : i < l.length) : (l ++ m).getD i d = l.getD i d := by
  rw [List.getD, List.getD, List.getElem?_append_left h]
theorem getD_app_r {α : Type} (l m : List α) (i : Nat) (d : α) (h : l.length ≤ i) : (l ++ m).getD i d = m.getD (i - l.length) d := by
  rw [List.getD, List.getD, List.getElem?_append_right h]
theorem bytesR_get (y : Rn) {i : Nat} (h : i < (32 * y.N).toNat) : (bytesR y).getD i 0 = 32 * y.At + i := by
  unfold bytesR
  rw [List.getD, List.getElem?_map, List.getElem?_range h]; rfl
theorem place_it {at_ : Int} (ha : I64 at_) : ∀ (l : List Rn) (b : Int), (∀ y ∈ l, okR y.At y.N) → 0 ≤ b → b + 32 * sumN l ≤ 100000 →
    itr1 (fun (e36 : Int × runs_Run) k28 (u27 : Unit) =>
      lt (e36.1 : Int) fun x34 =>
      lt (e36.2 : runs_Run) fun x35 =>
      cn ((decide (x34 ≤ at_) && decide (at_ < (wr .i64 (x34 + (wr .i64 (x35.N * 32))))))) (
      lt (wr .i64 ((wr .i64 ((wr .i64 (x35.At * 32)) + at_)) - x34) : Int) fun x37 =>
      some (x37, true)) (
      k28 ())) (fun (u27 : Unit) =>
      some (0, false)) (chk b l) () = some (plV l b at_) := by
  intro l
  induction l with
  | nil =>
    intro b _ _ _
    show some ((0 : Int), false) = _
    unfold plV
    rw [if_neg]
    simp only [sumN, List.map_nil, List.sum_nil]; omega
  | cons y r ih =>
    intro b h0 h1 h2
    have hy := h0 y (by simp)
    have hr : sumNat r := fun z hz => (h0 z (by simp [hz])).1
    have hr0 := sumN_pos hr
    have hbl := bytesR_len y
    rw [sumN_cons] at h2
    obtain ⟨y1, y2, y3⟩ := hy
    rw [chk]
    simp only [itr1, lt_eq]
    rw [w_i64 (x := y.N * 32) (by omega) (by omega), w_i64 (x := b + y.N * 32) (by omega) (by omega)]
    by_cases c : b ≤ at_ ∧ at_ < b + y.N * 32
    · rw [cn_true (by simpa using c), w_i64 (x := y.At * 32) (by omega) (by omega), w_i64 (x := y.At * 32 + at_) (by omega) (by omega), w_i64 (by omega) (by omega)]
      unfold plV
      rw [if_pos (by rw [sumN_cons]; omega), bytesL_cons, getD_app_l _ _ _ _ (by rw [bytesR_len]; omega), bytesR_get y (by omega)]
      congr 2; omega
    · rw [cn_false (by simpa using c)]
      refine (ih (b + 32 * y.N) (fun z hz => h0 z (by simp [hz])) (by omega) (by omega)).trans ?_
      unfold plV
      by_cases d : b + 32 * y.N ≤ at_ ∧ at_ < b + 32 * y.N + 32 * sumN r
      · rw [if_pos d, if_pos (by rw [sumN_cons]; omega), bytesL_cons, getD_app_r _ _ _ _ (by rw [bytesR_len]; omega), bytesR_len]
        congr 3; omega
      · rw [if_neg d, if_neg (by rw [sumN_cons]; omega)]
theorem toR_upd (a b : Int) : toR (upd (upd (fun _ => 0) 0 a) 1 b) = ⟨a, b⟩ := rfl
end Go.Proofs.Ytmdpbdhkmfjlhaa
