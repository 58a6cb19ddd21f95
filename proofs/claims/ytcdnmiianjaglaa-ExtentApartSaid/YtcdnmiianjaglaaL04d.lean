/- ExtentTells, as a plain law. -/
import Derived.Test.YtcdnmiianjaglaaL04c
namespace Go.Proofs.Ytcdnmiianjaglaa
open Go Go.Bw

def up4 (x a : Int) : Int := (x + a - 1) / a * a
def al4 (a : Int) : Prop := a = 1 ∨ a = 2 ∨ a = 4 ∨ a = 8
theorem objB_iff {s a : Int} : objB s a = true ↔ (1 ≤ s ∧ s ≤ 128) ∧ al4 a := by
  unfold objB al4
  simp [or_assoc]
theorem up4_ran {x a : Int} (ha : al4 a) : x ≤ up4 x a ∧ up4 x a ≤ x + a - 1 ∧ up4 x a % a = 0 ∧ ∀ y, x ≤ y → y ≤ up4 x a → y % a = 0 → y = up4 x a := by
  unfold up4
  rcases ha with rfl | rfl | rfl | rfl <;> exact ⟨by omega, by omega, by omega, fun y _ _ _ => by omega⟩
theorem up_eq {n : Nat} {x a : Int} (h0 : 0 ≤ x) (h1 : x ≤ 100000) (ha : al4 a) : extent_Extent_Fits_1 n x a = some (up4 x a) := by
  unfold extent_Extent_Fits_1 up4
  obtain ⟨x, rfl⟩ := Int.eq_ofNat_of_zero_le h0
  rcases ha with rfl | rfl | rfl | rfl
  · have := andNot_eq (x := x) (m := 0) (by omega) (by omega)
    rw [w_i64 (x := (x : Int) + 1) (by omega) (by omega), w_i64 (x := (x : Int) + 1 - 1) (by omega) (by omega), show wr .i64 (1 - 1) = ((2 ^ 0 - 1 : Nat) : Int) by decide, show (x : Int) + 1 - 1 = ((x : Nat) : Int) by omega, this]
    congr 1
  · have := andNot_eq (x := x + 1) (m := 1) (by omega) (by omega)
    rw [w_i64 (x := (x : Int) + 2) (by omega) (by omega), w_i64 (x := (x : Int) + 2 - 1) (by omega) (by omega), show wr .i64 (2 - 1) = ((2 ^ 1 - 1 : Nat) : Int) by decide, show (x : Int) + 2 - 1 = ((x + 1 : Nat) : Int) by omega, this]
    congr 1
  · have := andNot_eq (x := x + 3) (m := 2) (by omega) (by omega)
    rw [w_i64 (x := (x : Int) + 4) (by omega) (by omega), w_i64 (x := (x : Int) + 4 - 1) (by omega) (by omega), show wr .i64 (4 - 1) = ((2 ^ 2 - 1 : Nat) : Int) by decide, show (x : Int) + 4 - 1 = ((x + 3 : Nat) : Int) by omega, this]
    congr 1
  · have := andNot_eq (x := x + 7) (m := 3) (by omega) (by omega)
    rw [w_i64 (x := (x : Int) + 8) (by omega) (by omega), w_i64 (x := (x : Int) + 8 - 1) (by omega) (by omega), show wr .i64 (8 - 1) = ((2 ^ 3 - 1 : Nat) : Int) by decide, show (x : Int) + 8 - 1 = ((x + 7 : Nat) : Int) by omega, this]
    congr 1

/-- an extent that may be -/
structure May4 (e : extent_Extent) : Prop where
  gx : Gx e.Runs
  lo : 0 ≤ e.Len
  hi : e.Len ≤ 32 * sumN e.Runs
/-- does an object fit? -/
def fitB4 (e : extent_Extent) (s a : Int) : Bool := objB s a && decide (up4 e.Len a + s ≤ 32 * sumN e.Runs)
def fitV4 (e : extent_Extent) (s a : Int) : Int × Bool := if fitB4 e s a = true then (up4 e.Len a, true) else (0, false)
theorem pages4 {n : Nat} (hn : 110 ≤ n) {e : extent_Extent} (h : May4 e) : extent_Extent_Pages n e = some (sumN e.Runs) := by
  have := h.gx.len; have := h.gx.sum
  exact pages_eq (by omega) (by omega) h.gx.gd.nat (by omega)
theorem fits_eq {n : Nat} (hn : 110 ≤ n) {e : extent_Extent} (h : May4 e) (s a : Int) : extent_Extent_Fits n e s a = some (fitV4 e s a) := by
  unfold extent_Extent_Fits
  have h1 := h.lo; have h2 := h.hi; have h3 := h.gx.sum; have h4 := h.gx.pos
  rw [bd_some (object_eq (by omega) s a)]
  unfold fitV4 fitB4
  cases ho : objB s a with
  | false => rfl
  | true =>
    obtain ⟨⟨o1, o2⟩, o3⟩ := objB_iff.1 ho
    obtain ⟨u1, u2, _⟩ := up4_ran (x := e.Len) o3
    have ha : a ≤ 8 := by rcases o3 with rfl | rfl | rfl | rfl <;> omega
    rw [cn_false (b := !true) rfl, bd_some (up_eq h1 (by omega) o3), bd_some (pages4 hn h), w_i64 (by omega) (by omega), w_i64 (by omega) (by omega)]
    by_cases c : sumN e.Runs * 32 < up4 e.Len a + s
    · rw [cn_true (by simpa using c), if_neg (by simp; omega)]
    · rw [cn_false (by simpa using c), if_pos (by simp; omega)]
theorem put4_eq {n : Nat} (hn : 110 ≤ n) {e : extent_Extent} (h : May4 e) (s a : Int) : extent_Extent_Put n e s a = some (if fitB4 e s a = true then (⟨e.Runs, up4 e.Len a + s⟩, up4 e.Len a, true) else (e, 0, false)) := by
  unfold extent_Extent_Put
  rw [bd_some (fits_eq hn h s a)]
  unfold fitV4
  have h1 := h.lo; have h2 := h.hi; have h3 := h.gx.sum; have h4 := h.gx.pos
  cases hf : fitB4 e s a with
  | false => rfl
  | true =>
    have hf' := hf
    unfold fitB4 at hf
    rw [Bool.and_eq_true, decide_eq_true_iff, objB_iff] at hf
    obtain ⟨⟨⟨o1, o2⟩, o3⟩, o4⟩ := hf
    obtain ⟨u1, u2, _⟩ := up4_ran (x := e.Len) o3
    rw [if_pos rfl, if_pos rfl, cn_true rfl, lt_eq]
    dsimp only
    rw [w_i64 (by omega) (by omega)]
theorem reffits_eq {n : Nat} (hn : 2100 ≤ n) {x : ref04_Extent} {e : extent_Extent} (h : May4 e) (he : e.Runs = x.Runs.map toR) (hl : e.Len = x.Len) (s a : Int) : ref04_Extent_Fits n x s a = some (if fitB4 e s a = true then up4 e.Len a else -1) := by
  unfold ref04_Extent_Fits
  have h1 := h.lo; have h2 := h.hi; have h3 := h.gx.sum; have h4 := h.gx.pos
  rw [bd_some (bytes04_eq hn (by rw [← he]; exact h.gx)), ← he]
  have hb := bytesL_len h.gx.gd.nat
  cases ho : objB s a with
  | false =>
    obtain ⟨m, rfl⟩ : ∃ m, n = m + 1 := ⟨n - 1, by omega⟩
    simp only [loop1]
    rw [bd_some (refobject_eq _ s a), ho]
    unfold fitB4
    rw [ho]; rfl
  | true =>
    obtain ⟨⟨o1, o2⟩, o3⟩ := objB_iff.1 ho
    obtain ⟨u1, u2, u3, u4⟩ := up4_ran (x := e.Len) o3
    have ha : 1 ≤ a ∧ a ≤ 8 := by rcases o3 with rfl | rfl | rfl | rfl <;> omega
    rw [← hl]
    refine loop1_ind (fun (p : Int) => e.Len ≤ p ∧ p ≤ up4 e.Len a) (fun p => (up4 e.Len a - p).toNat) (fun o => o = some (if fitB4 e s a = true then up4 e.Len a else -1)) ?_ n e.Len ⟨by omega, by omega⟩ (by omega)
    rintro kk p ⟨p0, p1⟩ ih
    rw [bd_some (refobject_eq _ s a), ho, w_i64 (x := p + s) (by omega) (by omega), hb, Bool.true_and]
    unfold fitB4
    rw [ho, Bool.true_and]
    by_cases c : p + s ≤ 32 * sumN e.Runs
    · rw [cn_true (by simpa using c), gu_true (by simp; omega), tmod_pos (by omega)]
      by_cases d : p % a = 0
      · obtain rfl := u4 p p0 p1 d
        rw [cn_true (by simpa using d), if_pos (by simpa using c)]
      · rw [cn_false (by simpa using d), w_i64 (by omega) (by omega)]
        have : p ≠ up4 e.Len a := fun hp => d (hp ▸ u3)
        have := ih (p + 1) ⟨by omega, by omega⟩ (by omega)
        unfold fitB4 at this
        rw [ho, Bool.true_and] at this
        exact this
    · rw [cn_false (by simpa using c), if_neg (by simp; omega)]

/-- where an address lies -/
def plV (l : List Rn) (b at_ : Int) : Int × Bool := if b ≤ at_ ∧ at_ < b + 32 * sumN l then ((bytesL l).getD (at_ - b).toNat 0, true) else (0, false)
theorem getD_app_l {α : Type} (l m : List α) (i : Nat) (d : α) (h : i < l.length) : (l ++ m).getD i d = l.getD i d := by
  rw [List.getD, List.getD, List.getElem?_append_left h]
theorem getD_app_r {α : Type} (l m : List α) (i : Nat) (d : α) (h : l.length ≤ i) : (l ++ m).getD i d = m.getD (i - l.length) d := by
  rw [List.getD, List.getD, List.getElem?_append_right h]
theorem bytesR_get (y : Rn) {i : Nat} (h : i < (32 * y.N).toNat) : (bytesR y).getD i 0 = 32 * y.At + i := by
  unfold bytesR
  rw [List.getD, List.getElem?_map, List.getElem?_range h]; rfl
theorem place_it {at_ : Int} (ha : I64 at_) : ∀ (l : List Rn) (b : Int), (∀ y ∈ l, okR y.At y.N) → 0 ≤ b → b + 32 * sumN l ≤ 100000 →
    itr1 (fun (e36 : Int × runs_Run) k28 (u27 : Unit) =>
      lt (e36.1 : Int) fun x34 =>
      lt (e36.2 : runs_Run) fun x35 =>
      cn ((decide (x34 ≤ at_) && decide (at_ < (wr .i64 (x34 + (wr .i64 (x35.N * 32))))))) (
      lt (wr .i64 ((wr .i64 ((wr .i64 (x35.At * 32)) + at_)) - x34) : Int) fun x37 =>
      some (x37, true)) (
      k28 ())) (fun (u27 : Unit) =>
      some (0, false)) (chk b l) () = some (plV l b at_) := by
  intro l
  induction l with
  | nil =>
    intro b _ _ _
    show some ((0 : Int), false) = _
    unfold plV
    rw [if_neg]
    simp only [sumN, List.map_nil, List.sum_nil]; omega
  | cons y r ih =>
    intro b h0 h1 h2
    have hy := h0 y (by simp)
    have hr : sumNat r := fun z hz => (h0 z (by simp [hz])).1
    have hr0 := sumN_pos hr
    have hbl := bytesR_len y
    rw [sumN_cons] at h2
    obtain ⟨y1, y2, y3⟩ := hy
    rw [chk]
    simp only [itr1, lt_eq]
    rw [w_i64 (x := y.N * 32) (by omega) (by omega), w_i64 (x := b + y.N * 32) (by omega) (by omega)]
    by_cases c : b ≤ at_ ∧ at_ < b + y.N * 32
    · rw [cn_true (by simpa using c), w_i64 (x := y.At * 32) (by omega) (by omega), w_i64 (x := y.At * 32 + at_) (by omega) (by omega), w_i64 (by omega) (by omega)]
      unfold plV
      rw [if_pos (by rw [sumN_cons]; omega), bytesL_cons, getD_app_l _ _ _ _ (by rw [bytesR_len]; omega), bytesR_get y (by omega)]
      congr 2; omega
    · rw [cn_false (by simpa using c)]
      refine (ih (b + 32 * y.N) (fun z hz => h0 z (by simp [hz])) (by omega) (by omega)).trans ?_
      unfold plV
      by_cases d : b + 32 * y.N ≤ at_ ∧ at_ < b + 32 * y.N + 32 * sumN r
      · rw [if_pos d, if_pos (by rw [sumN_cons]; omega), bytesL_cons, getD_app_r _ _ _ _ (by rw [bytesR_len]; omega), bytesR_len]
        congr 3; omega
      · rw [if_neg d, if_neg (by rw [sumN_cons]; omega)]
theorem place_eq {n : Nat} (hn : 110 ≤ n) {e : extent_Extent} (h : May4 e) {at_ : Int} (ha : I64 at_) : extent_Extent_Place n e at_ = some (plV e.Runs 0 at_) := by
  unfold extent_Extent_Place
  have := h.gx.len; have := h.gx.sum
  rw [bd_some (show extent_Extent_chunks n e = some e from rfl), bd_some (chunks_eq (by omega) (by omega) h.gx.gd.nat (by omega))]
  exact place_it ha e.Runs 0 h.gx.gd.ran (by omega) (by omega)
theorem grow_eq {n : Nat} (hn : 110 ≤ n) {e : extent_Extent} (h : May4 e) (r : Rn) : extent_Extent_Grow n e r = some ⟨e.Runs ++ [r], 32 * sumN e.Runs⟩ := by
  unfold extent_Extent_Grow
  have := h.gx.len; have := h.gx.sum; have := h.gx.pos
  rw [gu_true (apok_t (by omega) (by omega)), lt_eq, bd_some (pages4 hn h), lt_eq, w_i64 (by omega) (by omega), Int.mul_comm]
theorem wakes04 : law04_wakes 5000 = some true := by kernel_rfl

theorem toR_upd (a b : Int) : toR (upd (upd (fun _ => 0) 0 a) 1 b) = ⟨a, b⟩ := rfl
theorem tells_true {a0 : ref04_Extent} (h0 : (∀ y ∈ a0.Runs, ∀ i, i < 2 → -9223372036854775808 ≤ y i ∧ y i ≤ 9223372036854775807) ∧ (-9223372036854775808 ≤ a0.Len ∧ a0.Len ≤ 9223372036854775807)) {a1 : Int} (_ : -9223372036854775808 ≤ a1 ∧ a1 ≤ 9223372036854775807) {a2 : Int} (_ : -9223372036854775808 ≤ a2 ∧ a2 ≤ 9223372036854775807) {a3 : Int} (h3 : -9223372036854775808 ≤ a3 ∧ a3 ≤ 9223372036854775807) {a4 : Int} (_ : -9223372036854775808 ≤ a4 ∧ a4 ≤ 9223372036854775807) {a5 : Int} (_ : -9223372036854775808 ≤ a5 ∧ a5 ≤ 9223372036854775807) :
    law04_ExtentTells 5000 a0 a1 a2 a3 a4 a5 = some true := by
  unfold law04_ExtentTells
  by_cases hg : 80 < a0.Runs.length
  · rw [cn_true (decide_eq_true (by omega)), bd_some wakes04]
  rw [cn_false (decide_eq_false (by omega)), bd_some (of04_eq (by omega) (by omega)), bd_some (needs_eq (by omega) a1 a2), bd_some (refneeds_eq (by omega) a1 a2)]
  have hran : ∀ y ∈ a0.Runs.map toR, I64 y.At ∧ I64 y.N := fun y hy => by
    obtain ⟨z, hz, rfl⟩ := List.mem_map.1 hy
    exact ⟨h0.1 z hz 0 (by omega), h0.1 z hz 1 (by omega)⟩
  have hc0 : (((if objB a1 a2 = true then ((a1 + 31) / 32, true) else ((0 : Int), false)).1 != (if objB a1 a2 = true then (a1 + 31) / 32 else 0)) || ((if objB a1 a2 = true then ((a1 + 31) / 32, true) else ((0 : Int), false)).2 != (decide (0 < (if objB a1 a2 = true then (a1 + 31) / 32 else 0))))) = false := by
    cases ho : objB a1 a2 with
    | false => simp
    | true =>
      obtain ⟨⟨o1, o2⟩, o3⟩ := objB_iff.1 ho
      simp; omega
  rw [hc0]
  obtain ⟨b1, m1, m2⟩ := may04_eq (n := 5000) (by omega) (e := ⟨a0.Runs.map toR, a0.Len⟩) (by simp; omega) hran
  obtain ⟨b2, r1, r2⟩ := refmay_eq (n := 5000) (by omega) (x := a0) (by omega) hran
  have hb : b1 = b2 := by
    rw [Bool.eq_iff_iff, m2, r2]
    exact ⟨fun h => ⟨h.1, h.2.2⟩, fun h => ⟨h.1, gd4_sum h.1, h.2⟩⟩
  subst hb
  rw [cl_true (g := (false == false)) rfl m1, cl_true (g := (false == false)) rfl r1, cn_false (by simp), bd_some r1]
  cases b1 with
  | false => rw [cn_true (b := !false) rfl, bd_some wakes04]
  | true =>
    rw [cn_false (b := !true) rfl]
    obtain ⟨q1, q2, q3, q4⟩ := m2.1 rfl
    have hm : May4 ⟨a0.Runs.map toR, a0.Len⟩ := ⟨⟨q1, q2⟩, q3, q4⟩
    have hbl := bytesL_len hm.gx.gd.nat
    have hlen := hm.gx.len
    simp only [List.length_map] at hlen
    have h1 := hm.lo; have h2 := hm.hi; have h5 := hm.gx.sum; have h6 := hm.gx.pos
    have hlen04 : (bytesL (a0.Runs.map toR)).length = (32 * sumN (a0.Runs.map toR)).toNat := by dsimp only at hbl h6; omega
    rw [bd_some (bytes04_eq (by omega) hm.gx), bd_some (fits_eq (by omega) hm a1 a2), bd_some (reffits_eq (by omega) hm rfl rfl a1 a2), bd_some (put4_eq (by omega) hm a1 a2), lt_eq]
    have hpl := place_eq (n := 5000) (by omega) hm h3
    have hgr := grow_eq (n := 5000) (by omega) hm ⟨a4, a5⟩
    have hsame0 : law04_Same 5000 ⟨a0.Runs.map toR, a0.Len⟩ a0 = some true := same04_eq (by omega) (by omega) rfl rfl
    have hrest : ∀ (x61 : ref04_Extent) (x68 : Bool), x68 = true →
        cn (!x68 || (sumN (a0.Runs.map toR) != (wr .i64 (Int.tdiv ((bytesL (a0.Runs.map toR)).length : Int) 32)))) (some false) (
        bd (extent_Extent_Place 5000 ⟨a0.Runs.map toR, a0.Len⟩ a3) fun x70 =>
        gu (!(((x70.2 != (decide (0 ≤ a3) && decide (a3 < ((bytesL (a0.Runs.map toR)).length : Int)))) == false) && ((decide (0 ≤ a3) && decide (a3 < ((bytesL (a0.Runs.map toR)).length : Int))) == true)) || inb a3 (bytesL (a0.Runs.map toR)).length) <|
        cn ((((x70.2 != (decide (0 ≤ a3) && decide (a3 < ((bytesL (a0.Runs.map toR)).length : Int)))) || ((decide (0 ≤ a3) && decide (a3 < ((bytesL (a0.Runs.map toR)).length : Int))) && (x70.1 != ((bytesL (a0.Runs.map toR)).getD (Int.toNat a3) default)))) || ((!(decide (0 ≤ a3) && decide (a3 < ((bytesL (a0.Runs.map toR)).length : Int)))) && (x70.1 != 0)))) (
        some false) (
        lt ({ At := a4, N := a5 } : runs_Run) fun x72 =>
        bd (extent_Extent_Grow 5000 ⟨a0.Runs.map toR, a0.Len⟩ x72) fun x73 =>
        gu (apok ([] : List (Nat → Int)).length a0.Runs.length 16) <|
        lt (([] : List (Nat → Int)) ++ a0.Runs : List (Nat → Int)) fun x86 =>
        lt ((upd (upd (fun _ => 0) 0 a4) 1 a5) : (Nat → Int)) fun x89 =>
        gu (apok x86.length 1 16) <|
        lt (x86 ++ ([x89]) : List (Nat → Int)) fun x91 =>
        lt ({ Runs := x91, Len := ((bytesL (a0.Runs.map toR)).length : Int) } : ref04_Extent) fun x94 =>
        bd (law04_Same 5000 x73 x94) fun x99 =>
        cl (x99 == true) (law04_Same 5000 ⟨a0.Runs.map toR, a0.Len⟩ a0) default fun x100 =>
        cl ((x99 && x100) == true) (law04_wakes 5000 ) default fun x101 =>
        some ((x99 && x100) && x101))) = some true := by
      rintro x61 _ rfl
      dsimp only at h5 h6 hbl
      rw [cn_false (by rw [tdiv_pos (by omega), w_i64 (by omega) (by omega), hbl]; simp), bd_some hpl, hlen04]
      have e1 : ((32 * sumN (a0.Runs.map toR)).toNat : Int) = 32 * sumN (a0.Runs.map toR) := by omega
      unfold plV
      dsimp only
      rw [e1]
      have hgood : ∀ (k : Option Bool), k = some true → (gu (!((((if 0 ≤ a3 ∧ a3 < 0 + 32 * sumN (a0.Runs.map toR) then ((bytesL (a0.Runs.map toR)).getD (a3 - 0).toNat 0, true) else ((0 : Int), false)).2 != (decide (0 ≤ a3) && decide (a3 < 32 * sumN (a0.Runs.map toR)))) == false) && ((decide (0 ≤ a3) && decide (a3 < 32 * sumN (a0.Runs.map toR))) == true)) || inb a3 (32 * sumN (a0.Runs.map toR)).toNat) <|
          cn (((((if 0 ≤ a3 ∧ a3 < 0 + 32 * sumN (a0.Runs.map toR) then ((bytesL (a0.Runs.map toR)).getD (a3 - 0).toNat 0, true) else ((0 : Int), false)).2 != (decide (0 ≤ a3) && decide (a3 < 32 * sumN (a0.Runs.map toR)))) || ((decide (0 ≤ a3) && decide (a3 < 32 * sumN (a0.Runs.map toR))) && ((if 0 ≤ a3 ∧ a3 < 0 + 32 * sumN (a0.Runs.map toR) then ((bytesL (a0.Runs.map toR)).getD (a3 - 0).toNat 0, true) else ((0 : Int), false)).1 != ((bytesL (a0.Runs.map toR)).getD (Int.toNat a3) default)))) || ((!(decide (0 ≤ a3) && decide (a3 < 32 * sumN (a0.Runs.map toR)))) && ((if 0 ≤ a3 ∧ a3 < 0 + 32 * sumN (a0.Runs.map toR) then ((bytesL (a0.Runs.map toR)).getD (a3 - 0).toNat 0, true) else ((0 : Int), false)).1 != 0))))
          (some false) k) = some true := fun k hk => by
        by_cases c : 0 ≤ a3 ∧ a3 < 32 * sumN (a0.Runs.map toR)
        · rw [if_pos (by omega)]
          have c1 := c.1; have c2 := c.2
          rw [gu_true (by simp [c1, c2, inb]; omega), cn_false (by simp [c1, c2]), hk]
        · rw [if_neg (by omega)]
          have : (decide (0 ≤ a3) && decide (a3 < 32 * sumN (a0.Runs.map toR))) = false := by
            rw [Bool.and_eq_false_iff, decide_eq_false_iff_not, decide_eq_false_iff_not]; omega
          rw [this, gu_true (by simp), cn_false (by simp), hk]
      refine hgood _ ?_
      rw [lt_eq, bd_some hgr, gu_true (apok_t (by simp; omega) (by simp; omega)), lt_eq, lt_eq, gu_true (apok_t (by simp; omega) (by simp; omega)), lt_eq, lt_eq]
      have hs2 : law04_Same 5000 ⟨a0.Runs.map toR ++ [⟨a4, a5⟩], 32 * sumN (a0.Runs.map toR)⟩ ⟨[] ++ a0.Runs ++ [upd (upd (fun _ => 0) 0 a4) 1 a5], 32 * sumN (a0.Runs.map toR)⟩ = some true :=
        same04_eq (by omega) (by simp; omega) (by simp [toR_upd]) rfl
      rw [bd_some hs2, cl_tt hsame0]
      exact (cl_tt (m := law04_wakes 5000) wakes04).trans rfl
    unfold fitV4
    cases hf : fitB4 ⟨a0.Runs.map toR, a0.Len⟩ a1 a2 with
    | false =>
      simp only [Bool.false_eq_true, if_false]
      rw [cn_false (by decide)]
      rw [show (((((false != decide ((0 : Int) ≤ -1)) || (false != false)) || ((0 : Int) != 0)) || (false && ((0 : Int) != -1))) || ((!false) && ((0 : Int) != 0))) = false by decide]
      refine (cl_true (by rfl) hsame0).trans ((cl_true (by rfl) (pages4 (by omega) hm)).trans ?_)
      exact hrest a0 true rfl
    | true =>
      simp only [if_true]
      have hf' := hf
      unfold fitB4 at hf
      rw [Bool.and_eq_true, decide_eq_true_iff, objB_iff] at hf
      obtain ⟨⟨⟨o1, o2⟩, o3⟩, o4⟩ := hf
      obtain ⟨u1, u2, _⟩ := up4_ran (x := a0.Len) o3
      dsimp only at h1 h2 h5 o4 u1 u2 ⊢
      have hu : (0 : Int) ≤ up4 a0.Len a1 ∨ True := .inr trivial
      rw [cn_true (by simp; omega), lt_eq, w_i64 (by omega) (by omega)]
      have hs3 : law04_Same 5000 ⟨a0.Runs.map toR, up4 a0.Len a2 + a1⟩ ⟨a0.Runs, up4 a0.Len a2 + a1⟩ = some true := same04_eq (by omega) (by dsimp only; omega) rfl rfl
      have hd : decide (0 ≤ up4 a0.Len a2) = true := by simp; omega
      simp only [hd, bne_self_eq_false, Bool.or_false, Bool.and_false, Bool.not_true, Bool.false_and]
      refine (cl_true (by rfl) hs3).trans ((cl_true (by rfl) (pages4 (by omega) hm)).trans ?_)
      exact hrest ⟨a0.Runs, up4 a0.Len a2 + a1⟩ true rfl
end Go.Proofs.Ytcdnmiianjaglaa
