/- What package extent and its document's answer compute. -/
import Derived.Test.YtmdpbdhkmfjlhaaDExtent
import Derived.Test.YtmdpbdhkmfjlhaaL01d
namespace Go.Proofs.Ytmdpbdhkmfjlhaa
open Go Go.Bw

def objB (s a : Int) : Bool := (decide (1 ≤ s) && decide (s ≤ 128)) && ((((a == 1) || (a == 2)) || (a == 4)) || (a == 8))
theorem andNot_eq {x : Nat} {m : Nat} (hm : m ≤ 3) (hx : x < 2 ^ 62) : andNotI .i64 (x : Int) ((2 ^ m - 1 : Nat) : Int) = ((x / 2 ^ m * 2 ^ m : Nat) : Int) := by
  unfold andNotI
  have e1 : (BitVec.ofInt 64 (x : Int) &&& ~~~BitVec.ofInt 64 ((2 ^ m - 1 : Nat) : Int)).toNat = x / 2 ^ m * 2 ^ m := by
    refine Nat.eq_of_testBit_eq fun i => ?_
    have hb : (BitVec.ofInt 64 (x : Int)).toNat = x := bv_toNat (k := .i64) (by show x < 2 ^ 64; omega)
    have hc : (BitVec.ofInt 64 ((2 ^ m - 1 : Nat) : Int)).toNat = 2 ^ m - 1 := bv_toNat (k := .i64) (by show 2 ^ m - 1 < 2 ^ 64; have : 2 ^ m ≤ 2 ^ 3 := Nat.pow_le_pow_right (by decide) hm; omega)
    rw [BitVec.toNat_and, Nat.testBit_and, hb, Nat.testBit_mul_two_pow, Nat.testBit_div_two_pow, BitVec.testBit_toNat, BitVec.getLsbD_not, ← BitVec.testBit_toNat, hc, Nat.testBit_two_pow_sub_one]
    by_cases h1 : m ≤ i
    · have h2 : ¬ i < m := by omega
      rw [show i - m + m = i by omega]
      by_cases h3 : i < 64
      · simp [h1, h2, h3]
      · have : x.testBit i = false := Nat.testBit_lt_two_pow (Nat.lt_of_lt_of_le hx (Nat.pow_le_pow_right (by decide) (by omega)))
        simp [h1, h2, this]
    · have h2 : i < m := by omega
      simp [h1, h2]
  show IntKind.i64.wrap ((BitVec.ofInt 64 (x : Int) &&& ~~~BitVec.ofInt 64 ((2 ^ m - 1 : Nat) : Int)).toNat : Int) = _
  rw [e1]
  have : x / 2 ^ m * 2 ^ m ≤ x := Nat.div_mul_le_self _ _
  exact w_i64 (by omega) (by omega)

theorem toR_get {l : List (Nat → Int)} {i : Nat} (h : i < l.length) : toR (l.getD i default) = (l.map toR)[i]'(by rw [List.length_map]; exact h) := by
  rw [List.getD, List.getElem?_eq_getElem h, List.getElem_map]; rfl
theorem of04_eq {n : Nat} (hn : 90 ≤ n) {x : ref04_Extent} (hl : x.Runs.length ≤ 80) : law04_Of n x = some ⟨x.Runs.map toR, x.Len⟩ := by
  unfold law04_Of
  rw [lt_eq]
  refine loop2_ind (fun (i : Int) (o : extent_Extent) => 0 ≤ i ∧ i ≤ x.Runs.length ∧ o = ⟨(x.Runs.map toR).take i.toNat, x.Len⟩) (fun i _ => ((x.Runs.length : Int) - i).toNat) (fun o => o = some (⟨x.Runs.map toR, x.Len⟩ : extent_Extent)) ?_ n 0 ⟨[], x.Len⟩ ⟨by omega, by omega, by simp⟩ (by omega)
  rintro kk i o ⟨i0, i1, rfl⟩ ih
  obtain ⟨i, rfl⟩ := Int.eq_ofNat_of_zero_le i0
  by_cases c : i < x.Runs.length
  · have g1 : inb (i : Int) x.Runs.length = true := inb_t (by omega) (by omega)
    have g2 : ((x.Runs.map toR).take i).length ≤ 80 := by rw [List.length_take, List.length_map]; omega
    rw [cn_true (by simpa using c), gu_true g1, gu_true g1, lt_eq]
    dsimp only
    rw [Int.toNat_natCast, gu_true (apok_t (by omega) (by omega)), lt_eq, lt_eq, w_i64 (by omega) (by omega)]
    refine ih _ _ ⟨by omega, by omega, ?_⟩ (by omega)
    have e : ((i : Int) + 1).toNat = i + 1 := by omega
    have h := toR_get c
    have hi : i < (x.Runs.map toR).length := by rw [List.length_map]; exact c
    rw [e, List.take_succ_eq_append_getElem hi, ← h]
    rfl
  · rw [cn_false (by simpa using c)]
    rw [List.take_of_length_le (by rw [List.length_map]; omega)]

/-- is an extent the document's? -/
theorem same04_eq {n : Nat} (hn : 100 ≤ n) {e : extent_Extent} {x : ref04_Extent} (hl : x.Runs.length ≤ 90) (h1 : e.Runs = x.Runs.map toR) (h2 : e.Len = x.Len) : law04_Same n e x = some true := by
  unfold law04_Same
  have hlen : e.Runs.length = x.Runs.length := by rw [h1, List.length_map]
  rw [cn_false (by simp [hlen, h2])]
  refine loop1_ind (fun (i : Int) => 0 ≤ i ∧ i ≤ e.Runs.length) (fun i => ((e.Runs.length : Int) - i).toNat) (fun o => o = some true) ?_ n 0 ⟨by omega, by omega⟩ (by omega)
  rintro kk i ⟨i0, i1⟩ ih
  obtain ⟨i, rfl⟩ := Int.eq_ofNat_of_zero_le i0
  by_cases c : i < e.Runs.length
  · have hg : e.Runs.getD (Int.toNat (i : Int)) default = toR (x.Runs.getD (Int.toNat (i : Int)) default) := by
      rw [Int.toNat_natCast, toR_get (show i < x.Runs.length by omega), List.getD, List.getElem?_eq_getElem c]
      simp [h1]
    have b1 : inb (i : Int) e.Runs.length = true := inb_t (by omega) (by omega)
    have b2 : inb (i : Int) x.Runs.length = true := inb_t (by omega) (by omega)
    rw [cn_true (by simpa using c), gu_true b1, gu_true b2, b1, b2, gu_true (by simp), gu_true (by simp), hg, cn_false (by simp [toR]), w_i64 (by omega) (by omega)]
    exact ih _ ⟨by omega, by omega⟩ (by omega)
  · rw [cn_false (by simpa using c)]

/-- chunks, with where each one begins -/
def chk : Int → List Rn → List (Int × Rn)
  | _, [] => []
  | b, y :: r => (b, y) :: chk (b + 32 * y.N) r
def sumNat (l : List Rn) : Prop := ∀ y ∈ l, 1 ≤ y.N
theorem sumN_pos : ∀ {l : List Rn}, sumNat l → 0 ≤ sumN l
  | [], _ => by simp [sumN]
  | y :: r, h => by
    have := h y (by simp)
    have := sumN_pos (l := r) fun z hz => h z (by simp [hz])
    rw [sumN_cons]; omega
theorem chunks_eq {n : Nat} {e : extent_Extent} (hn : e.Runs.length < n) (hl : e.Runs.length ≤ 1000) (hp : sumNat e.Runs) (hs : sumN e.Runs ≤ 1000) : extent_Extent_chunks_1 n e = some (chk 0 e.Runs) := by
  unfold extent_Extent_chunks_1
  have key : ∀ (m i : Nat) (b : Int), i ≤ e.Runs.length → e.Runs.length - i < m → 0 ≤ b → b + 32 * sumN (e.Runs.drop i) ≤ 100000 → loop2 (fun k39 (x30 : Int) (x31 : Int) =>
      cn (decide (x31 < (e.Runs.length : Int))) (
      gu (inb x31 e.Runs.length) <|
      lt ((e.Runs.getD (Int.toNat x31) default) : runs_Run) fun x41 =>
      yl (x30, x41) <|
      k39 (wr .i64 (x30 + (wr .i64 (x41.N * 32)))) (wr .i64 (x31 + 1))) (
      some [])) m b (i : Int) = some (chk b (e.Runs.drop i)) := by
    intro m
    induction m with
    | zero => intro i b _ h; omega
    | succ m ih =>
      intro i b hi hm hb hsum
      simp only [loop2]
      by_cases c : i < e.Runs.length
      · have hg : e.Runs.getD (Int.toNat (i : Int)) default = e.Runs[i] := by rw [Int.toNat_natCast, List.getD, List.getElem?_eq_getElem c]; rfl
        have hy := hp _ (List.getElem_mem c)
        have hd : e.Runs.drop i = e.Runs[i] :: e.Runs.drop (i + 1) := List.drop_eq_getElem_cons c
        rw [hd, sumN_cons] at hsum
        have hr : 0 ≤ sumN (e.Runs.drop (i + 1)) := sumN_pos fun z hz => hp z (List.mem_of_mem_drop hz)
        rw [cn_true (by simpa using c), gu_true (inb_t (by omega) (by omega)), lt_eq, hg, hd]
        rw [w_i64 (x := e.Runs[i].N * 32) (by omega) (by omega), w_i64 (x := b + e.Runs[i].N * 32) (by omega) (by omega), w_i64 (x := (i : Int) + 1) (by omega) (by omega)]
        have e1 : ((i : Int) + 1) = ((i + 1 : Nat) : Int) := by omega
        rw [e1, ih (i + 1) (b + e.Runs[i].N * 32) (by omega) (by omega) (by omega) (by omega)]
        show some ((b, e.Runs[i]) :: chk (b + e.Runs[i].N * 32) (e.Runs.drop (i + 1))) = some ((b, e.Runs[i]) :: chk (b + 32 * e.Runs[i].N) (e.Runs.drop (i + 1)))
        rw [Int.mul_comm]
      · rw [cn_false (by simpa using c), List.drop_eq_nil_of_le (by omega)]; rfl
  have := key n 0 0 (by omega) (by omega) (by omega) (by rw [List.drop_zero]; omega)
  simpa using this

theorem chk_snd : ∀ (l : List Rn) (b : Int), (chk b l).map Prod.snd = l
  | [], _ => rfl
  | y :: r, b => by rw [chk, List.map_cons, chk_snd r]
theorem pages_eq {n : Nat} {e : extent_Extent} (hn : e.Runs.length < n) (hl : e.Runs.length ≤ 1000) (hp : sumNat e.Runs) (hs : sumN e.Runs ≤ 1000) : extent_Extent_Pages n e = some (sumN e.Runs) := by
  unfold extent_Extent_Pages
  rw [bd_some (show extent_Extent_chunks n e = some e from rfl), bd_some (chunks_eq hn hl hp hs)]
  have h0 := sumN_pos hp
  refine (count_it (n := n) (chk 0 e.Runs) 0 (by omega) (by rw [chk_snd]; omega) fun q hq => hp q.2 (by rw [← chk_snd e.Runs 0]; exact List.mem_map_of_mem hq)).trans ?_
  rw [chk_snd]; congr 1; omega

end Go.Proofs.Ytmdpbdhkmfjlhaa
