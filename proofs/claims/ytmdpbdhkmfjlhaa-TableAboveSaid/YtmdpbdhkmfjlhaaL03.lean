/- What package handle and its document's answer compute. -/
import Derived.Test.YtmdpbdhkmfjlhaaDLaw03
import Derived.Test.YtmdpbdhkmfjlhaaPure
namespace Go.Proofs.Ytmdpbdhkmfjlhaa
open Go Go.Bw

/-! handles -/
def hofI (i g : Int) : Int := i + 256 * g + 1
theorem handle_of_eq {n : Nat} {i g : Int} (h0 : 0 ≤ i) (h1 : i < 32) (g0 : 0 ≤ g) (g1 : g ≤ 8388607) : handle_of n i g = some (hofI i g) := by
  unfold handle_of hofI
  rw [shlI_mul (b := 8) 8 rfl (by decide), w_u32 (x := g * _) (by omega) (by omega), w_u32 (x := i) (by omega) (by omega), w_u32 (x := g * _ + i) (by omega) (by omega), w_u32 (by omega) (by omega)]
  congr 1; omega
theorem ref_of_eq {n : Nat} {w : ref03_Book} {i : Int} (h0 : 0 ≤ i) (h1 : i < 32) (g0 : 0 ≤ w.Gen i.toNat) (g1 : w.Gen i.toNat ≤ 8388607) : ref03_Book_Of n w i = some (hofI i (w.Gen i.toNat)) := by
  unfold ref03_Book_Of hofI
  rw [gu_true (inb_t h0 (by omega)), w_i64 (x := 256 * _) (by omega) (by omega), w_i64 (x := i + _) (by omega) (by omega), w_i64 (by omega) (by omega)]

def slB (h : Int) : Bool := decide (1 ≤ h % 256 ∧ h % 256 ≤ 32 ∧ h / 256 ≤ 8388607)
def slI (h : Int) : Int := if slB h then h % 256 - 1 else 0
theorem slI_ran (h : Int) : 0 ≤ slI h ∧ slI h < 32 := by
  unfold slI slB
  split
  · rename_i h1; simp at h1; omega
  · omega
theorem slot_eq {n : Nat} {h : Int} (h0 : 0 ≤ h) (h1 : h < 4294967296) : handle_Handle_Slot n h = some (slI h, slB h) := by
  unfold handle_Handle_Slot
  have e1 : andI .u32 h 255 = h % 256 := andI_mod 8 h0 (by simpa [IntKind.up, IntKind.signed, IntKind.bits] using h1) rfl (by decide)
  have e2 : shrI .u32 h 8 = h / 256 := shrI_div 8 rfl (by decide)
  rw [e1, e2, w_i64 (x := h % 256) (by omega) (by omega), w_i64 (x := h % 256 - 1) (by omega) (by omega)]
  by_cases hb : slB h = true
  · have hb' := hb
    simp only [slB, decide_eq_true_eq] at hb'
    rw [cn_false (by simp; omega)]
    simp [slI, hb]
  · have hb' := hb
    simp only [slB, decide_eq_true_eq] at hb'
    rw [cn_true (by simp; omega)]
    simp [slI, hb]

/-! books: the program's and the document's -/
structure RB (b : handle_Book) (w : ref03_Book) : Prop where
  gen : ∀ i, i < 32 → (b.slots i).gen = w.Gen i
  iss : ∀ i, i < 32 → (b.slots i).issued = (w.Is i == 1)
  ret : ∀ i, i < 32 → (b.slots i).retired = (w.Is i == 2)
  kin : ∀ i, i < 32 → w.Is i = 0 ∨ w.Is i = 1 ∨ w.Is i = 2
  ran : ∀ i, i < 32 → 0 ≤ w.Gen i ∧ w.Gen i ≤ 8388607

theorem good_eq {n : Nat} {b : handle_Book} {w : ref03_Book} (r : RB b w) {h : Int} (h0 : 0 ≤ h) (h1 : h < 4294967296) :
    handle_Book_Good n b h = some (slB h && (w.Is (slI h).toNat == 1) && (w.Gen (slI h).toNat == h / 256)) := by
  unfold handle_Book_Good
  obtain ⟨hs0, hs1⟩ := slI_ran h
  rw [bd_some (slot_eq h0 h1), gu_true (by rw [inb_t hs0 (by simpa using hs1)]; simp)]
  simp only [lt]
  have hi : (slI h).toNat < 32 := by omega
  have e2 : shrI .u32 h 8 = h / 256 := shrI_div 8 rfl (by decide)
  rw [e2]
  simp only [EQ_handle_slot, r.gen _ hi, r.iss _ hi, r.ret _ hi]
  have hk := r.kin _ hi
  congr 1
  rcases hk with hk | hk | hk <;> simp [hk, Bool.and_comm, Bool.and_left_comm, Bool.and_assoc]

/-- the handle is the good one of its slot -/
theorem hof_sl {h : Int} (h0 : 0 ≤ h) (hb : slB h = true) : hofI (slI h) (h / 256) = h := by
  have hb' := hb
  simp only [slB, decide_eq_true_eq] at hb'
  simp only [slI, hb, if_true, hofI]; omega
theorem sl_hof {i g : Int} (h0 : 0 ≤ i) (h1 : i < 32) (g0 : 0 ≤ g) (g1 : g ≤ 8388607) : slB (hofI i g) = true ∧ slI (hofI i g) = i ∧ hofI i g / 256 = g ∧ 0 < hofI i g ∧ hofI i g < 4294967296 := by
  have e : slB (hofI i g) = true := decide_eq_true (by unfold hofI; omega)
  refine ⟨e, ?_, ?_, ?_, ?_⟩
  · unfold slI; rw [if_pos e]; unfold hofI; omega
  all_goals (unfold hofI; omega)

/-- whether a number is a good handle, and its slot -/
def goodW (w : ref03_Book) (h : Int) : Bool := slB h && (w.Is (slI h).toNat == 1) && (w.Gen (slI h).toNat == h / 256)
theorem refslot_eq {n : Nat} (hn : 40 ≤ n) {b : handle_Book} {w : ref03_Book} (r : RB b w) {h : Int} (h0 : 0 ≤ h) : ref03_Book_Slot n w h = some (if goodW w h then slI h else -1) := by
  unfold ref03_Book_Slot
  refine loop1_ind (fun x => 0 ≤ x ∧ x ≤ 32 ∧ (goodW w h = true → x ≤ slI h)) (fun x => (32 - x).toNat) (fun o => o = some (if goodW w h then slI h else -1)) ?_ n 0 ⟨by omega, by omega, fun _ => (slI_ran h).1⟩ (by omega)
  rintro k x ⟨x0, x1, hx⟩ ih
  obtain ⟨s0, s1⟩ := slI_ran h
  by_cases hc : x < 32
  · rw [cn_true (by simpa using hc), gu_true (inb_t x0 (by omega))]
    have hg := r.ran x.toNat (by omega)
    rw [cl_some (ref_of_eq x0 hc hg.1 hg.2)]
    by_cases he : (w.Is x.toNat == 1 && hofI x (w.Gen x.toNat) == h) = true
    · have he' := he
      simp only [Bool.and_eq_true, beq_iff_eq] at he'
      obtain ⟨e1, e2⟩ := he'
      rw [cn_true (by simp [e1, e2])]
      obtain ⟨q1, q2, q3, q4, q5⟩ := sl_hof x0 hc hg.1 hg.2
      rw [e2] at q1 q2 q3
      have : goodW w h = true := by simp [goodW, q1, q2, q3, e1]
      simp [this, q2]
    · rw [cn_false (by
        cases h1 : (w.Is x.toNat == 1) with
        | false => simp
        | true => simpa [h1] using he), w_i64 (by omega) (by omega)]
      refine ih _ ⟨by omega, by omega, fun hg' => ?_⟩ (by omega)
      have h2 := hx hg'
      have : x ≠ slI h := by
        rintro rfl
        refine he ?_
        simp only [goodW, Bool.and_eq_true, beq_iff_eq] at hg'
        simp [hg'.1.2, hg'.2, hof_sl h0 hg'.1.1]
      omega
  · rw [cn_false (by simpa using hc)]
    have : goodW w h = false := by
      cases hgw : goodW w h with
      | false => rfl
      | true => have := hx hgw; omega
    simp [this]

/-! Void -/
def voidW (w : ref03_Book) (h : Int) : ref03_Book :=
  if w.Gen (slI h).toNat = 8388607 then { w with Is := upd w.Is (slI h).toNat 2 } else { Gen := upd w.Gen (slI h).toNat (w.Gen (slI h).toNat + 1), Is := upd w.Is (slI h).toNat 0 }
theorem upd_upd {α : Type} (G : Nat → α) (i : Nat) (a b : α) : upd (upd G i a) i b = upd G i b := by
  funext q; unfold upd; split <;> rfl
theorem refvoid_eq {n : Nat} (hn : 40 ≤ n) {b : handle_Book} {w : ref03_Book} (r : RB b w) {h : Int} (h0 : 0 ≤ h) : ref03_Book_Void n w h = some (if goodW w h then voidW w h else w, goodW w h) := by
  unfold ref03_Book_Void
  obtain ⟨s0, s1⟩ := slI_ran h
  rw [bd_some (refslot_eq hn r h0)]
  cases hg : goodW w h with
  | false => rfl
  | true =>
    have hr := r.ran (slI h).toNat (by omega)
    simp only [if_true]
    rw [cn_false (by simpa using s0), gu_true (inb_t s0 (by simpa using s1))]
    simp only [lt, gu_true (inb_t s0 (show slI h < ((32 : Nat) : Int) by simpa using s1))]
    unfold voidW
    by_cases hl : w.Gen (slI h).toNat = 8388607
    · rw [cn_true (by simpa using hl)]; simp [hl, upd_upd]
    · rw [cn_false (by simpa using hl), w_i64 (by omega) (by omega)]; simp [hl]
theorem void_eq {n : Nat} {b : handle_Book} {w : ref03_Book} (r : RB b w) {h : Int} (h0 : 0 ≤ h) (h1 : h < 4294967296) :
    ∃ b', handle_Book_Void n b h = some (b', goodW w h) ∧ RB b' (if goodW w h then voidW w h else w) := by
  unfold handle_Book_Void
  obtain ⟨s0, s1⟩ := slI_ran h
  have hi : (slI h).toNat < 32 := by omega
  rw [bd_some (good_eq r h0 h1)]
  show ∃ b', cn (!goodW w h) _ _ = _ ∧ _
  cases hg : goodW w h with
  | false => exact ⟨b, rfl, r⟩
  | true =>
    rw [cn_false (b := !true) rfl, bd_some (slot_eq h0 h1), gu_true (inb_t s0 (by simpa using s1))]
    simp only [lt]
    have hgen := r.gen _ hi
    have hr := r.ran _ hi
    have hiss : w.Is (slI h).toNat = 1 := by simp only [goodW, Bool.and_eq_true, beq_iff_eq] at hg; exact hg.1.2
    have hret : (b.slots (slI h).toNat).retired = false := by rw [r.ret _ hi, hiss]; rfl
    simp only [upd_at, hgen, upd_upd]
    unfold voidW
    by_cases hl : w.Gen (slI h).toNat = 8388607
    · rw [cn_true (by simpa using hl)]
      refine ⟨_, rfl, ?_⟩
      simp only [if_true, hl]
      refine ⟨?_, ?_, ?_, ?_, ?_⟩ <;> intro i hi2 <;> by_cases e : i = (slI h).toNat
      all_goals (try subst e)
      all_goals simp [upd_ite, *, r.gen, r.iss, r.ret, r.kin, r.ran]
      all_goals (first | exact (r.kin i hi2) | exact r.ran i hi2)
    · rw [cn_false (by simpa using hl), w_u32 (by omega) (by omega)]
      refine ⟨_, rfl, ?_⟩
      simp only [if_true, if_neg hl]
      refine ⟨?_, ?_, ?_, ?_, ?_⟩ <;> intro i hi2 <;> by_cases e : i = (slI h).toNat
      all_goals (try subst e)
      all_goals simp [upd_ite, *, r.gen, r.iss, r.ret, r.kin, r.ran]
      all_goals (first | exact (r.kin i hi2) | exact r.ran i hi2 | omega)

/-! Issue -/
/-- the first free slot -/
def First (w : ref03_Book) (f : Nat) : Prop := f ≤ 32 ∧ (∀ j, j < f → w.Is j ≠ 0) ∧ (f < 32 → w.Is f = 0)
theorem first_ex (w : ref03_Book) : ∃ f, First w f := by
  have key : ∀ k, k ≤ 32 → (∃ f, First w f) ∨ (∀ j, j < k → w.Is j ≠ 0) := by
    intro k
    induction k with
    | zero => intro _; exact .inr (fun j hj => absurd hj (Nat.not_lt_zero _))
    | succ k ih =>
      intro hk
      rcases ih (by omega) with h | h
      · exact .inl h
      · by_cases e : w.Is k = 0
        · exact .inl ⟨k, by omega, h, fun _ => e⟩
        · exact .inr (fun j hj => by by_cases e2 : j = k; · subst e2; exact e
                                     · exact h j (by omega))
  rcases key 32 (Nat.le_refl _) with h | h
  · exact h
  · exact ⟨32, Nat.le_refl _, h, fun h => absurd h (Nat.lt_irrefl _)⟩
def issueW (w : ref03_Book) (f : Nat) : ref03_Book := { w with Is := upd w.Is f 1 }
theorem refissue_eq {n : Nat} (hn : 40 ≤ n) {b : handle_Book} {w : ref03_Book} (r : RB b w) {f : Nat} (hf : First w f) :
    ref03_Book_Issue n w = some (if f < 32 then (issueW w f, hofI f (w.Gen f)) else (w, 0)) := by
  unfold ref03_Book_Issue
  obtain ⟨f1, f2, f3⟩ := hf
  refine loop1_ind (fun x => 0 ≤ x ∧ x ≤ (f : Int)) (fun x => (32 - x).toNat) (fun o => o = some (if f < 32 then (issueW w f, hofI f (w.Gen f)) else (w, 0))) ?_ n 0 ⟨by omega, by omega⟩ (by omega)
  rintro k x ⟨x0, x1⟩ ih
  by_cases hc : x < 32
  · rw [cn_true (by simpa using hc), gu_true (inb_t x0 (by omega))]
    by_cases he : w.Is x.toNat = 0
    · have e : x = (f : Int) := by
        rcases Int.lt_or_lt_of_ne (a := x) (b := f) |> fun h => (Decidable.em (x = f)) with h | h
        · exact h
        · exact absurd he (f2 x.toNat (by omega))
      subst e
      simp only [Int.toNat_natCast] at he ⊢
      rw [cn_true (by simpa using he), gu_true (inb_t x0 (by omega)), lt_eq, bd_some (ref_of_eq (w := { w with Is := upd w.Is f 1 }) x0 hc (r.ran f (by omega)).1 (r.ran f (by omega)).2), if_pos (by omega)]
      rfl
    · rw [cn_false (by simpa using he), w_i64 (by omega) (by omega)]
      refine ih _ ⟨by omega, ?_⟩ (by omega)
      rcases Decidable.em (x = f) with h | h
      · subst h; exact absurd (f3 (by omega)) (by simpa using he)
      · omega
  · rw [cn_false (by simpa using hc), if_neg (by omega)]
theorem issue_eq {n : Nat} (hn : 40 ≤ n) {b : handle_Book} {w : ref03_Book} (r : RB b w) {f : Nat} (hf : First w f) :
    ∃ b', handle_Book_Issue n b = some (b', if f < 32 then hofI f (w.Gen f) else 0, decide (f < 32)) ∧ RB b' (if f < 32 then issueW w f else w) := by
  unfold handle_Book_Issue
  obtain ⟨f1, f2, f3⟩ := hf
  refine loop1_ind (fun x => 0 ≤ x ∧ x ≤ (f : Int)) (fun x => (32 - x).toNat) (fun o => ∃ b', o = some (b', if f < 32 then hofI f (w.Gen f) else 0, decide (f < 32)) ∧ RB b' (if f < 32 then issueW w f else w)) ?_ n 0 ⟨by omega, by omega⟩ (by omega)
  rintro k x ⟨x0, x1⟩ ih
  by_cases hc : x < 32
  · have hi : x.toNat < 32 := by omega
    rw [cn_true (by simpa using hc), gu_true (inb_t x0 (by omega)), lt_eq]
    by_cases he : w.Is x.toNat = 0
    · have e : x = (f : Int) := by
        rcases Decidable.em (x = f) with h | h
        · exact h
        · exact absurd he (f2 x.toNat (by omega))
      subst e
      simp only [Int.toNat_natCast] at he hi ⊢
      rw [cn_false (by simp [r.iss f hi, r.ret f hi, he]), gu_true (inb_t x0 (by omega)), lt_eq, bd_some (handle_of_eq x0 hc (by rw [r.gen f hi]; exact (r.ran f hi).1) (by rw [r.gen f hi]; exact (r.ran f hi).2)), if_pos hi, if_pos hi]
      refine ⟨_, by rw [r.gen f hi, decide_eq_true hi], ?_⟩
      refine ⟨?_, ?_, ?_, ?_, ?_⟩ <;> intro i hi2 <;> by_cases e : i = f
      all_goals (try subst e)
      all_goals simp [issueW, upd_ite, *, r.gen, r.iss, r.ret, r.kin, r.ran]
      all_goals (first | exact (r.kin i hi2) | exact r.ran i hi2 | (rw [r.ret _ hi2, he]; rfl))
    · rw [cn_true (by
        rcases r.kin _ hi with h | h | h
        · exact absurd h he
        · simp [r.iss _ hi, h]
        · simp [r.ret _ hi, h]), w_i64 (by omega) (by omega)]
      refine ih _ ⟨by omega, ?_⟩ (by omega)
      rcases Decidable.em (x = f) with h | h
      · subst h; exact absurd (f3 (by omega)) (by simpa using he)
      · omega
  · rw [cn_false (by simpa using hc), if_neg (by omega), if_neg (by omega)]
    exact ⟨b, by rw [decide_eq_false (by omega)], r⟩

/-! At, Issued, Aged -/
theorem at_eq {n : Nat} {b : handle_Book} {w : ref03_Book} (r : RB b w) {i : Int} (h0 : 0 ≤ i) (h1 : i < 32) : handle_Book_At n b i = some (if w.Is i.toNat = 1 then hofI i (w.Gen i.toNat) else 0, w.Is i.toNat == 1) := by
  have hi : i.toNat < 32 := by omega
  unfold handle_Book_At
  rw [gu_true (by rw [inb_t h0 (by omega)]; simp)]
  by_cases e : w.Is i.toNat = 1
  · rw [cn_false (by simp [r.iss _ hi, e]; omega), gu_true (inb_t h0 (by omega)), bd_some (handle_of_eq h0 h1 (by rw [r.gen _ hi]; exact (r.ran _ hi).1) (by rw [r.gen _ hi]; exact (r.ran _ hi).2)), r.gen _ hi]
    simp [e]
  · rw [cn_true (by simp [r.iss _ hi, e])]
    simp [e]
theorem at_out {n : Nat} {b : handle_Book} {i : Int} (h : i < 0 ∨ 32 ≤ i) : handle_Book_At n b i = some (0, false) := by
  unfold handle_Book_At
  have e : (decide (i < 0) || decide (32 ≤ i)) = true := by simpa using h
  rw [e, gu_true (by simp), cn_true (by simp)]

def issuedL (w : ref03_Book) : Nat → List Int
  | 0 => []
  | k + 1 => issuedL w k ++ (if w.Is k = 1 then [hofI k (w.Gen k)] else [])
theorem issuedL_len (w : ref03_Book) (k : Nat) : (issuedL w k).length ≤ k := by
  induction k with
  | zero => simp [issuedL]
  | succ k ih => simp only [issuedL, List.length_append]; split <;> simp <;> omega
theorem issuedL_pre (w : ref03_Book) {k m : Nat} (h : k ≤ m) : ∃ t, issuedL w m = issuedL w k ++ t := by
  induction m with
  | zero => obtain rfl : k = 0 := by omega
            exact ⟨[], rfl⟩
  | succ m ih =>
    by_cases e : k = m + 1
    · subst e; exact ⟨[], by simp⟩
    · obtain ⟨t, ht⟩ := ih (by omega)
      exact ⟨_, by rw [issuedL, ht, List.append_assoc]⟩
theorem issued_eq {n : Nat} (hn : 40 ≤ n) {b : handle_Book} {w : ref03_Book} (r : RB b w) : handle_Book_Issued n b = some (issuedL w 32) := by
  unfold handle_Book_Issued
  refine loop2_ind (fun (l : List Int) (x : Int) => ∃ k : Nat, x = k ∧ k ≤ 32 ∧ l = issuedL w k) (fun _ (x : Int) => (32 - x).toNat) (fun o => o = some (issuedL w 32)) ?_ n [] 0 ⟨0, rfl, by omega, rfl⟩ (by omega)
  rintro kk l x ⟨k, rfl, hk, rfl⟩ ih
  by_cases hc : k < 32
  · rw [cn_true (by simp; omega), bd_some (at_eq r (by omega) (by omega))]
    simp only [Int.toNat_natCast]
    by_cases e : w.Is k = 1
    · rw [cn_true (by simpa using e), gu_true (apok_t (by have := issuedL_len w k; omega) (by have := issuedL_len w k; omega)), lt_eq, w_i64 (by omega) (by omega)]
      exact ih _ _ ⟨k + 1, by omega, by omega, by simp [issuedL, e]⟩ (by omega)
    · rw [cn_false (by simpa using e), w_i64 (by omega) (by omega)]
      exact ih _ _ ⟨k + 1, by omega, by omega, by simp [issuedL, e]⟩ (by omega)
  · rw [cn_false (by simp; omega)]
    obtain rfl : k = 32 := by omega
    rfl

/-- the generations that are given -/
def agedG (g : List Int) (i : Nat) : Int := if i < g.length then (if 8388607 < g.getD i default then 8388607 else g.getD i default) else 0
theorem aged_eq {n : Nat} (hn : 40 ≤ n) {g : List Int} (hg : g.length ≤ 100) (hr : ∀ x ∈ g, 0 ≤ x ∧ x < 4294967296) : ∃ b, handle_Aged n g = some b ∧ ∀ i, i < 32 → b.slots i = ⟨agedG g i, false, false⟩ := by
  unfold handle_Aged
  refine loop2_ind (fun (x : Int) (b : handle_Book) => ∃ k : Nat, x = k ∧ k ≤ 32 ∧ k ≤ g.length ∧ ∀ i, i < 32 → b.slots i = ⟨if i < k then agedG g i else 0, false, false⟩) (fun (x : Int) _ => (32 - x).toNat) (fun o => ∃ b : handle_Book, o = some b ∧ ∀ i, i < 32 → b.slots i = ⟨agedG g i, false, false⟩) ?_ n 0 _ ⟨0, rfl, by omega, by omega, fun i _ => rfl⟩ (by omega)
  rintro kk x b ⟨k, rfl, hk, hkl, hb⟩ ih
  by_cases hc : k < 32 ∧ k < g.length
  · rw [cn_true (by simp; split <;> omega), gu_true (inb_t (by omega) (by omega)), gu_true (inb_t (by omega) (by omega)), lt_eq, w_i64 (by omega) (by omega)]
    refine ih _ _ ⟨k + 1, by omega, by omega, by omega, fun i hi => ?_⟩ (by omega)
    simp only [Int.toNat_natCast, upd_ite]
    by_cases e : i = k
    · subst e
      simp only [if_true, hb i hi, Nat.lt_succ_self, agedG, hc.2]
    · rw [if_neg e, hb i hi]
      by_cases e2 : i < k
      · rw [if_pos e2, if_pos (by omega)]
      · rw [if_neg e2, if_neg (by omega)]
  · rw [cn_false (by simp; split <;> omega)]
    refine ⟨b, rfl, fun i hi => ?_⟩
    rw [hb i hi]
    by_cases e : i < k
    · rw [if_pos e]
    · rw [if_neg e]
      have : ¬ i < g.length := by omega
      simp [agedG, this]
theorem refaged_eq {n : Nat} (hn : 40 ≤ n) {g : List Int} (hg : g.length ≤ 100) (hr : ∀ x ∈ g, 0 ≤ x ∧ x < 4294967296) : ∃ w, ref03_Aged n g = some w ∧ ∀ i, i < 32 → w.Gen i = agedG g i ∧ w.Is i = 0 := by
  unfold ref03_Aged
  refine loop2_ind (fun (x : Int) (w : ref03_Book) => ∃ k : Nat, x = k ∧ k ≤ 32 ∧ k ≤ g.length ∧ ∀ i, i < 32 → w.Gen i = (if i < k then agedG g i else 0) ∧ w.Is i = 0) (fun (x : Int) _ => (32 - x).toNat) (fun o => ∃ w : ref03_Book, o = some w ∧ ∀ i, i < 32 → w.Gen i = agedG g i ∧ w.Is i = 0) ?_ n 0 _ ⟨0, rfl, by omega, by omega, fun i _ => ⟨rfl, rfl⟩⟩ (by omega)
  rintro kk x w ⟨k, rfl, hk, hkl, hb⟩ ih
  by_cases hc : k < 32 ∧ k < g.length
  · rw [cn_true (by simp; omega), gu_true (inb_t (by omega) (by omega)), gu_true (inb_t (by omega) (by omega)), lt_eq, w_i64 (x := (k : Int) + 1) (by omega) (by omega)]
    refine ih _ _ ⟨k + 1, by omega, by omega, by omega, fun i hi => ?_⟩ (by omega)
    simp only [Int.toNat_natCast, upd_ite]
    by_cases e : i = k
    · subst e
      have hm : g.getD i default ∈ g := by
        rw [List.getD, List.getElem?_eq_getElem hc.2]; exact List.getElem_mem _
      have := hr _ hm
      rw [w_i64 (x := g.getD i default) (by omega) (by omega)]
      simp only [if_true, Nat.lt_succ_self, agedG, hc.2, (hb i hi).2, and_self]
    · rw [if_neg e, (hb i hi).1]
      refine ⟨?_, (hb i hi).2⟩
      by_cases e2 : i < k
      · rw [if_pos e2, if_pos (by omega)]
      · rw [if_neg e2, if_neg (by omega)]
  · rw [cn_false (by simp; omega)]
    refine ⟨w, rfl, fun i hi => ⟨?_, (hb i hi).2⟩⟩
    rw [(hb i hi).1]
    by_cases e : i < k
    · rw [if_pos e]
    · rw [if_neg e]
      have : ¬ i < g.length := by omega
      simp [agedG, this]
theorem aged_RB {g : List Int} {b : handle_Book} {w : ref03_Book} (hr : ∀ x ∈ g, 0 ≤ x ∧ x < 4294967296) (hb : ∀ i, i < 32 → b.slots i = ⟨agedG g i, false, false⟩) (hw : ∀ i, i < 32 → w.Gen i = agedG g i ∧ w.Is i = 0) : RB b w := by
  refine ⟨fun i hi => ?_, fun i hi => ?_, fun i hi => ?_, fun i hi => .inl (hw i hi).2, fun i hi => ?_⟩
  · rw [hb i hi, (hw i hi).1]
  · rw [hb i hi, (hw i hi).2]; rfl
  · rw [hb i hi, (hw i hi).2]; rfl
  · rw [(hw i hi).1]
    unfold agedG
    split
    · rename_i h
      have hm : g.getD i default ∈ g := by
        rw [List.getD, List.getElem?_eq_getElem h]; exact List.getElem_mem _
      have := hr _ hm
      split <;> omega
    · omega

/-! the statement's parts -/
end Go.Proofs.Ytmdpbdhkmfjlhaa
