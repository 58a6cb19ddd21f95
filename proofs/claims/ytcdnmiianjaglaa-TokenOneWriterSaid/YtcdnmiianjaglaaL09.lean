/- What package token and its document's answer compute. -/
import Derived.Test.YtcdnmiianjaglaaDToken
import Derived.Test.YtcdnmiianjaglaaL03o
namespace Go.Proofs.Ytcdnmiianjaglaa
open Go Go.Bw

theorem wakes09 : law09_wakes 1000 = some true := by kernel_rfl

/-- a token, in its ranges -/
structure TokR (x : token_Token) : Prop where
  region : 0 ≤ x.Region ∧ x.Region < 4294967296
  by_ : 0 ≤ x.By ∧ x.By < 256
  to : 0 ≤ x.To ∧ x.To < 256
  above : 0 ≤ x.Above ∧ x.Above < 4294967296
def ofT (x : token_Token) : ref09_Token := ⟨x.Region, x.By, x.To, x.Mutable, x.Above⟩
theorem of09_eq {n : Nat} {x : token_Token} (h : TokR x) : law09_Of n x = some (ofT x) := by
  unfold law09_Of ofT
  have h1 := h.region; have h2 := h.by_; have h3 := h.to; have h4 := h.above
  rw [w_i64 (by omega) (by omega), w_i64 (by omega) (by omega), w_i64 (by omega) (by omega), w_i64 (by omega) (by omega)]; rfl
/-- tokens: the program's and the document's -/
structure RT (k : token_Tokens) (w : ref09_Tokens) : Prop where
  book : RB k.book w.B
  tok : ∀ i, i < 16 → w.B.Is i = 1 → w.T i = ofT (k.slots i) ∧ TokR (k.slots i)
  hi : ∀ i, 16 ≤ i → i < 32 → w.B.Is i = 0
  ab : ∀ i, i < 32 → 0 ≤ (w.T i).Above

def slN (h : Int) : Nat := (slI h).toNat
theorem slN_lt (h : Int) : slN h < 32 := by have := slI_ran h; unfold slN; omega
theorem slN_int (h : Int) : (slN h : Int) = slI h := by have := slI_ran h; unfold slN; omega
theorem good_slot {w : ref03_Book} {h : Int} (hg : goodW w h = true) : slB h = true ∧ w.Is (slN h) = 1 ∧ w.Gen (slN h) = h / 256 := goodW_iff.1 hg
theorem RT.lt16 {k : token_Tokens} {w : ref09_Tokens} (r : RT k w) {i : Nat} (hi : i < 32) (h : w.B.Is i = 1) : i < 16 := by
  rcases Nat.lt_or_ge i 16 with h1 | h1
  · exact h1
  · have := r.hi i h1 hi; omega
theorem goodB {n : Nat} {b : handle_Book} {w : ref03_Book} (r : RB b w) {h : Int} (h0 : 0 ≤ h) (h1 : h < 4294967296) : handle_Book_Good n b h = some (goodW w h) := good_eq r h0 h1
/-- the token that a good handle names -/
theorem get_eq {n : Nat} {k : token_Tokens} {w : ref09_Tokens} (r : RT k w) {h : Int} (h0 : 0 ≤ h) (h1 : h < 4294967296) : token_Tokens_Get n k h = some (if goodW w.B h = true then (k.slots (slN h), 0) else (⟨0, 0, 0, false, 0⟩, 4)) := by
  unfold token_Tokens_Get
  rw [bd_some (goodB r.book h0 h1)]
  cases hg : goodW w.B h with
  | false => rfl
  | true =>
    obtain ⟨g1, g2, g3⟩ := good_slot hg
    have h16 := r.lt16 (slN_lt h) g2
    have hr := slI_ran h
    have hn := slN_int h
    rw [cn_false (b := !true) rfl, bd_some (slot_eq h0 h1), gu_true (inb_t hr.1 (by omega)), lt_eq, if_pos rfl]; rfl
theorem refget_eq {n : Nat} (hn : 40 ≤ n) {k : token_Tokens} {w : ref09_Tokens} (r : RT k w) {h : Int} (h0 : 0 ≤ h) : ref09_Tokens_Get n w h = some (if goodW w.B h = true then (ofT (k.slots (slN h)), 0) else (⟨0, 0, 0, false, 0⟩, 4)) := by
  unfold ref09_Tokens_Get
  have hr := slI_ran h
  rw [bd_some (refslot_eq hn r.book h0)]
  cases hg : goodW w.B h with
  | false => rfl
  | true =>
    obtain ⟨g1, g2, g3⟩ := good_slot hg
    rw [if_pos rfl, cn_false (by simp; omega), gu_true (inb_t hr.1 (by omega)), lt_eq, if_pos rfl]
    have := (r.tok (slN h) (r.lt16 (slN_lt h) g2) g2).1
    unfold slN at this ⊢
    rw [this]

/-! those tokens of which something is so -/
def thoseL (w : ref03_Book) (p : Nat → Bool) : Nat → List Int
  | 0 => []
  | k + 1 => thoseL w p k ++ (if w.Is k = 1 ∧ p k = true then [hofI k (w.Gen k)] else [])
theorem those_filter {b : handle_Book} {w : ref03_Book} (r : RB b w) (p : Nat → Bool) : ∀ k, k ≤ 32 → (issuedL w k).filter (fun h => p (slN h)) = thoseL w p k
  | 0, _ => rfl
  | k + 1, hk => by
    have hr := r.ran k (by omega)
    obtain ⟨q1, q2, q3, q4, q5⟩ := sl_hof (i := k) (g := w.Gen k) (by omega) (by omega) hr.1 hr.2
    have hs : slN (hofI k (w.Gen k)) = k := by unfold slN; rw [q2]; rfl
    rw [issuedL, thoseL, List.filter_append, those_filter r p k (by omega)]
    congr 1
    by_cases h1 : w.Is k = 1
    · by_cases h2 : p k = true
      · rw [if_pos h1, if_pos ⟨h1, h2⟩]; simp [hs, h2]
      · rw [if_pos h1, if_neg (fun h => h2 h.2)]; simp [hs, h2]
    · rw [if_neg h1, if_neg (fun h => h1 h.1)]; rfl
theorem thoseL_len (w : ref03_Book) (p : Nat → Bool) : ∀ k, (thoseL w p k).length ≤ k
  | 0 => Nat.le_refl _
  | k + 1 => by
    have := thoseL_len w p k
    simp only [thoseL, List.length_append]; split <;> simp <;> omega
theorem thoseL_congr {w : ref03_Book} {p q : Nat → Bool} (h : ∀ i, i < 32 → w.Is i = 1 → p i = q i) : ∀ k, k ≤ 32 → thoseL w p k = thoseL w q k
  | 0, _ => rfl
  | k + 1, hk => by
    rw [thoseL, thoseL, thoseL_congr h k (by omega)]
    congr 1
    by_cases h1 : w.Is k = 1
    · rw [h k (by omega) h1]
    · rw [if_neg (fun h => h1 h.1), if_neg (fun h => h1 h.1)]
theorem mem_those {b : handle_Book} {w : ref03_Book} (r : RB b w) {p : Nat → Bool} {x : Int} : x ∈ thoseL w p 32 ↔ goodS w x ∧ p (slN x) = true := by
  rw [← those_filter r p 32 (Nat.le_refl _), List.mem_filter, goodS_all r]
theorem those_nd {b : handle_Book} {w : ref03_Book} (r : RB b w) (p : Nat → Bool) : (thoseL w p 32).Nodup := by
  rw [← those_filter r p 32 (Nat.le_refl _)]
  exact (issuedL_nd r 32 (Nat.le_refl _)).filter _
/-- the program's loop over issued handles -/
theorem those_loop {n : Nat} (hn : 40 ≤ n) {k : token_Tokens} {w : ref09_Tokens} (r : RT k w) (P : token_Token → Option Bool) (Q : token_Token → Bool) (hP : ∀ x, TokR x → P x = some (Q x)) :
    loop2 (fun k40 (x34 : (List Int)) (x37 : Int) =>
      cn (decide (x37 < ((issuedL w.B 32).length : Int))) (
      gu (inb x37 (issuedL w.B 32).length) <|
      bd (token_Tokens_Get n k ((issuedL w.B 32).getD (Int.toNat x37) default)) fun x42 =>
      bd (P x42.1) fun x43 =>
      cn (x43) (
      gu (apok x34.length 1 4) <|
      lt (x34 ++ ([((issuedL w.B 32).getD (Int.toNat x37) default)]) : List Int) fun x45 =>
      k40 x45 (wr .i64 (x37 + 1))) (
      k40 x34 (wr .i64 (x37 + 1)))) (
      some x34)) n ([]) 0 = some (thoseL w.B (fun i => Q (k.slots i)) 32) := by
  have hlen := issuedL_len w.B 32
  rw [← those_filter r.book _ 32 (Nat.le_refl _)]
  refine loop2_ind (fun (o : List Int) (i : Int) => 0 ≤ i ∧ i ≤ (issuedL w.B 32).length ∧ o = ((issuedL w.B 32).take i.toNat).filter (fun h => Q (k.slots (slN h)))) (fun _ i => (((issuedL w.B 32).length : Int) - i).toNat) (fun o => o = some ((issuedL w.B 32).filter (fun h => Q (k.slots (slN h))))) ?_ n [] 0 ⟨by omega, by omega, rfl⟩ (by omega)
  rintro kk o i ⟨i0, i1, rfl⟩ ih
  obtain ⟨i, rfl⟩ := Int.eq_ofNat_of_zero_le i0
  rw [Int.toNat_natCast]
  by_cases c : i < (issuedL w.B 32).length
  · have hgd : (issuedL w.B 32).getD i default = (issuedL w.B 32)[i] := by rw [List.getD, List.getElem?_eq_getElem c]; rfl
    have hm := (goodS_all r.book _).1 (List.getElem_mem c)
    have ht : (issuedL w.B 32).take (i + 1) = (issuedL w.B 32).take i ++ [(issuedL w.B 32)[i]] := List.take_succ_eq_append_getElem c
    have hfl : (((issuedL w.B 32).take i).filter (fun h => Q (k.slots (slN h)))).length ≤ 32 := Nat.le_trans (List.length_filter_le _ _) (by rw [List.length_take]; omega)
    generalize (issuedL w.B 32)[i] = z at *
    obtain ⟨g1, g2, g3⟩ := good_slot hm.2
    have htr := (r.tok (slN z) (r.lt16 (slN_lt z) g2) g2).2
    rw [cn_true (by simpa using c), gu_true (inb_t (by omega) (by omega)), hgd, bd_some (get_eq r hm.1 (slB_lt g1)), if_pos hm.2]
    dsimp only
    rw [bd_some (hP _ htr), w_i64 (by omega) (by omega)]
    have e1 : ((i : Int) + 1).toNat = i + 1 := by omega
    cases hq : Q (k.slots (slN z)) with
    | true =>
      rw [cn_true rfl, gu_true (apok_t (by omega) (by omega)), lt_eq]
      refine ih _ _ ⟨by omega, by omega, ?_⟩ (by omega)
      rw [e1, ht, List.filter_append]; simp [hq]
    | false =>
      rw [cn_false rfl]
      refine ih _ _ ⟨by omega, by omega, ?_⟩ (by omega)
      rw [e1, ht, List.filter_append]; simp [hq]
  · rw [cn_false (by simpa using c), List.take_of_length_le (by omega)]
theorem on_eq {n : Nat} (hn : 40 ≤ n) {k : token_Tokens} {w : ref09_Tokens} (r : RT k w) (g : Int) : token_Tokens_On n k g = some (thoseL w.B (fun i => (k.slots i).Region == g) 32) := by
  unfold token_Tokens_On token_Tokens_those__token_Tokens_On_1
  rw [bd_some (issued_eq (by omega) r.book)]
  exact (bd_some (those_loop hn r (fun x => token_Tokens_On_1 n x g) (fun x => x.Region == g) fun _ _ => rfl)).trans rfl
theorem ofk_eq {n : Nat} (hn : 40 ≤ n) {k : token_Tokens} {w : ref09_Tokens} (r : RT k w) (t : Int) : token_Tokens_Of n k t = some (thoseL w.B (fun i => (k.slots i).To == t) 32) := by
  unfold token_Tokens_Of token_Tokens_those__token_Tokens_Of_1
  rw [bd_some (issued_eq (by omega) r.book)]
  exact (bd_some (those_loop hn r (fun x => token_Tokens_Of_1 n x t) (fun x => x.To == t) fun x hx => by
    have := hx.to
    unfold token_Tokens_Of_1
    rw [w_i64 (by omega) (by omega)])).trans rfl
theorem kidsk_eq {n : Nat} (hn : 40 ≤ n) {k : token_Tokens} {w : ref09_Tokens} (r : RT k w) (h : Int) : token_Tokens_those__token_Tokens_Return_1_1 n k h = some (thoseL w.B (fun i => (k.slots i).Above == h) 32) := by
  unfold token_Tokens_those__token_Tokens_Return_1_1
  rw [bd_some (issued_eq (by omega) r.book)]
  exact those_loop hn r (fun x => token_Tokens_Return_1_1 n x h) (fun x => x.Above == h) fun _ _ => rfl
/-- lent right by a token, or an owner -/
def rightB (k : token_Tokens) (g a : Int) (i : Nat) : Bool := (k.slots i).Region == g && (k.slots i).Above == a
def anyMut (k : token_Tokens) (g a : Int) (l : List Int) : Bool := l.any fun h => rightB k g a (slN h) && (k.slots (slN h)).Mutable
theorem right_eq {n : Nat} (hn : 40 ≤ n) {k : token_Tokens} {w : ref09_Tokens} (r : RT k w) (g a : Int) : token_Tokens_right n k g a = some (((thoseL w.B (rightB k g a) 32).length : Int), anyMut k g a (issuedL w.B 32)) := by
  suffices hk : token_Tokens_those__token_Tokens_right_1 n k g a false = some ((issuedL w.B 32).filter (fun h => rightB k g a (slN h)), anyMut k g a (issuedL w.B 32)) by
    unfold token_Tokens_right
    rw [bd_some hk, ← those_filter r.book _ 32 (Nat.le_refl _)]
  unfold token_Tokens_those__token_Tokens_right_1
  have hlen := issuedL_len w.B 32
  rw [bd_some (issued_eq (by omega) r.book)]
  refine loop3_ind (fun (o : List Int) (i : Int) (m : Bool) => 0 ≤ i ∧ i ≤ (issuedL w.B 32).length ∧ o = ((issuedL w.B 32).take i.toNat).filter (fun h => rightB k g a (slN h)) ∧ m = anyMut k g a ((issuedL w.B 32).take i.toNat)) (fun _ i _ => (((issuedL w.B 32).length : Int) - i).toNat) (fun o => o = some ((issuedL w.B 32).filter (fun h => rightB k g a (slN h)), anyMut k g a (issuedL w.B 32))) ?_ n [] 0 false ⟨by omega, by omega, rfl, rfl⟩ (by omega)
  rintro kk o i m ⟨i0, i1, rfl, rfl⟩ ih
  obtain ⟨i, rfl⟩ := Int.eq_ofNat_of_zero_le i0
  rw [Int.toNat_natCast]
  by_cases c : i < (issuedL w.B 32).length
  · have hgd : (issuedL w.B 32).getD i default = (issuedL w.B 32)[i] := by rw [List.getD, List.getElem?_eq_getElem c]; rfl
    have hm := (goodS_all r.book _).1 (List.getElem_mem c)
    have ht : (issuedL w.B 32).take (i + 1) = (issuedL w.B 32).take i ++ [(issuedL w.B 32)[i]] := List.take_succ_eq_append_getElem c
    have hfl : (((issuedL w.B 32).take i).filter (fun h => rightB k g a (slN h))).length ≤ 32 := Nat.le_trans (List.length_filter_le _ _) (by rw [List.length_take]; omega)
    generalize (issuedL w.B 32)[i] = z at *
    obtain ⟨g1, g2, g3⟩ := good_slot hm.2
    rw [cn_true (by simpa using c), gu_true (inb_t (by omega) (by omega)), hgd, bd_some (get_eq r hm.1 (slB_lt g1)), if_pos hm.2]
    dsimp only
    have h1 : token_Tokens_right_1 n (k.slots (slN z)) g a (anyMut k g a ((issuedL w.B 32).take i)) = some (rightB k g a (slN z), anyMut k g a ((issuedL w.B 32).take (i + 1))) := by
      unfold token_Tokens_right_1
      rw [lt_eq, ht]
      simp [anyMut, rightB]
    rw [bd_some h1, w_i64 (by omega) (by omega)]
    have e1 : ((i : Int) + 1).toNat = i + 1 := by omega
    cases hq : rightB k g a (slN z) with
    | true =>
      rw [cn_true rfl, gu_true (apok_t (by omega) (by omega)), lt_eq]
      refine ih _ _ _ ⟨by omega, by omega, ?_, by rw [e1]⟩ (by omega)
      rw [e1, ht, List.filter_append]; simp [hq]
    | false =>
      rw [cn_false rfl]
      refine ih _ _ _ ⟨by omega, by omega, ?_, by rw [e1]⟩ (by omega)
      rw [e1, ht, List.filter_append]; simp [hq]
  · rw [cn_false (by simpa using c), List.take_of_length_le (by omega)]
theorem anyMut_iff {k : token_Tokens} {w : ref09_Tokens} (r : RT k w) {g a : Int} : anyMut k g a (issuedL w.B 32) = true ↔ ∃ x, goodS w.B x ∧ rightB k g a (slN x) = true ∧ (k.slots (slN x)).Mutable = true := by
  unfold anyMut
  rw [List.any_eq_true]
  refine exists_congr fun x => ?_
  rw [goodS_all r.book, Bool.and_eq_true]
/-- is something lent right? -/
def someR (k : token_Tokens) (w : ref09_Tokens) (g a : Int) : Bool := !(thoseL w.B (rightB k g a) 32).isEmpty
theorem someR_iff {k : token_Tokens} {w : ref09_Tokens} (r : RT k w) {g a : Int} : someR k w g a = true ↔ ∃ x, goodS w.B x ∧ rightB k g a (slN x) = true := by
  unfold someR
  rw [Bool.not_eq_true', ← Bool.not_eq_true, List.isEmpty_iff]
  constructor
  · intro h
    cases hl : thoseL w.B (rightB k g a) 32 with
    | nil => exact absurd hl h
    | cons x t => exact ⟨x, (mem_those r.book).1 (by rw [hl]; simp)⟩
  · rintro ⟨x, hx⟩ h
    have := (mem_those r.book (p := rightB k g a)).2 hx
    rw [h] at this; cases this
def okA (w : ref09_Tokens) (a : Int) : Bool := (a == 0) || goodW w.B a
theorem good9_eq {n : Nat} {k : token_Tokens} {w : ref09_Tokens} (r : RT k w) {a : Int} (h0 : 0 ≤ a) (h1 : a < 4294967296) : token_Tokens_good n k a = some (okA w a) := by
  unfold token_Tokens_good okA
  rw [cl_some (goodB r.book h0 h1)]
  cases a == 0 <;> rfl
def readsV (k : token_Tokens) (w : ref09_Tokens) (g a : Int) : Bool := okA w a && !anyMut k g a (issuedL w.B 32)
def writesV (k : token_Tokens) (w : ref09_Tokens) (g a : Int) : Bool := okA w a && !someR k w g a
theorem reads_eq {n : Nat} (hn : 40 ≤ n) {k : token_Tokens} {w : ref09_Tokens} (r : RT k w) (g : Int) {a : Int} (h0 : 0 ≤ a) (h1 : a < 4294967296) : token_Tokens_Reads n k g a = some (readsV k w g a) := by
  unfold token_Tokens_Reads readsV
  rw [bd_some (right_eq hn r g a), bd_some (good9_eq r h0 h1)]
theorem writes_eq {n : Nat} (hn : 40 ≤ n) {k : token_Tokens} {w : ref09_Tokens} (r : RT k w) (g : Int) {a : Int} (h0 : 0 ≤ a) (h1 : a < 4294967296) : token_Tokens_Writes n k g a = some (writesV k w g a) := by
  unfold token_Tokens_Writes
  rw [bd_some (right_eq hn r g a), bd_some (good9_eq r h0 h1)]
  unfold writesV someR
  cases thoseL w.B (rightB k g a) 32 <;> simp
  omega
end Go.Proofs.Ytcdnmiianjaglaa
