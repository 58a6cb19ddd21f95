/- Voids, Clear, and Return. -/
import Derived.Test.YtcdnmiianjaglaaL09b
namespace Go.Proofs.Ytcdnmiianjaglaa
open Go Go.Bw

def vdW (w : ref03_Book) (h : Int) : ref03_Book := if goodW w h = true then voidW w h else w
theorem voidW_other {w : ref03_Book} {h : Int} {i : Nat} (hi : i ≠ slN h) : (voidW w h).Is i = w.Is i ∧ (voidW w h).Gen i = w.Gen i := by
  unfold voidW
  split
  · exact ⟨upd_ne _ _ hi, rfl⟩
  · exact ⟨upd_ne _ _ hi, upd_ne _ _ hi⟩
theorem voidW_self (w : ref03_Book) (h : Int) : (voidW w h).Is (slN h) ≠ 1 := by
  unfold voidW
  split
  · show upd w.Is (slN h) 2 (slN h) ≠ 1; rw [upd_at]; decide
  · show upd w.Is (slN h) 0 (slN h) ≠ 1; rw [upd_at]; decide
theorem vd_live {w : ref03_Book} {h : Int} {i : Nat} (hi : (vdW w h).Is i = 1) : w.Is i = 1 ∧ (vdW w h).Gen i = w.Gen i := by
  unfold vdW at *
  cases hg : goodW w h with
  | false => rw [hg] at hi; exact ⟨hi, by simp⟩
  | true =>
    rw [hg, if_pos rfl] at hi
    rw [if_pos rfl]
    by_cases e : i = slN h
    · subst e; exact absurd hi (voidW_self w h)
    · have := voidW_other (w := w) (h := h) e
      exact ⟨by rw [← this.1]; exact hi, this.2⟩
theorem vds_live : ∀ (l : List Int) {w : ref03_Book} {i : Nat}, (l.foldl vdW w).Is i = 1 → w.Is i = 1 ∧ (l.foldl vdW w).Gen i = w.Gen i
  | [], _, _, h => ⟨h, rfl⟩
  | x :: l, w, i, h => by
    obtain ⟨h1, h2⟩ := vds_live l (w := vdW w x) h
    obtain ⟨h3, h4⟩ := vd_live h1
    exact ⟨h3, h2.trans h4⟩
theorem vds_past : ∀ (l : List Int) {w : ref03_Book} {x : Int}, pastS w x → pastS (l.foldl vdW w) x
  | [], _, _, h => h
  | y :: l, w, x, h => vds_past l (past_void (h := y) x h)
/-- whom voids leave -/
theorem vds_good : ∀ (l : List Int) {b : handle_Book} {w : ref03_Book}, RB b w → (∀ h ∈ l, 0 ≤ h ∧ h < 4294967296) → ∀ x, (∃ b', RB b' (l.foldl vdW w)) ∧ (goodS (l.foldl vdW w) x ↔ goodS w x ∧ x ∉ l)
  | [], b, w, r, _, x => ⟨⟨b, r⟩, by simp⟩
  | y :: l, b, w, r, hl, x => by
    have hy := hl y (by simp)
    obtain ⟨b', e, r'⟩ := void_eq (n := 1) r hy.1 hy.2
    have ih := vds_good l (b := b') (w := vdW w y) r' (fun h hh => hl h (by simp [hh])) x
    refine ⟨ih.1, ?_⟩
    rw [List.foldl_cons, ih.2]
    have := good_void r hy.1 x
    unfold vdW
    rw [this, List.mem_cons, not_or, and_assoc]
theorem RT.void {n : Nat} {k : token_Tokens} {w : ref09_Tokens} (r : RT k w) {h : Int} (h0 : 0 ≤ h) (h1 : h < 4294967296) :
    ∃ b', handle_Book_Void n k.book h = some (b', goodW w.B h) ∧ RT { k with book := b' } { w with B := vdW w.B h } := by
  obtain ⟨b', e, r'⟩ := void_eq (n := n) r.book h0 h1
  refine ⟨b', e, r', fun i hi hs => ?_, fun i hi hl => ?_, r.ab⟩
  · exact r.tok i hi (vd_live hs).1
  · show (vdW w.B h).Is i = 0
    unfold vdW
    cases hg : goodW w.B h with
    | false => exact r.hi i hi hl
    | true =>
      obtain ⟨g1, g2, g3⟩ := good_slot hg
      have := r.lt16 (slN_lt h) g2
      rw [if_pos rfl, (voidW_other (w := w.B) (h := h) (by omega)).1]
      exact r.hi i hi hl
theorem without_eq {n : Nat} : ∀ (l : List Int) {k : token_Tokens} {w : ref09_Tokens}, RT k w → (∀ h ∈ l, 0 ≤ h ∧ h < 4294967296) → l.length ≤ 100 → 200 ≤ n →
    ∃ k', token_Tokens_without n k l = some k' ∧ RT k' { w with B := l.foldl vdW w.B } ∧ k'.slots = k.slots := by
  intro l k w r hl hlen hn
  unfold token_Tokens_without
  refine loop2_ind (fun (i : Int) (k' : token_Tokens) => 0 ≤ i ∧ i ≤ l.length ∧ RT k' { w with B := (l.take i.toNat).foldl vdW w.B } ∧ k'.slots = k.slots) (fun i _ => ((l.length : Int) - i).toNat) (fun o => ∃ k', o = some k' ∧ RT k' { w with B := l.foldl vdW w.B } ∧ k'.slots = k.slots) ?_ n 0 k ⟨by omega, by omega, r, rfl⟩ (by omega)
  rintro kk i k' ⟨i0, i1, r', hs⟩ ih
  obtain ⟨i, rfl⟩ := Int.eq_ofNat_of_zero_le i0
  rw [Int.toNat_natCast] at r'
  by_cases c : i < l.length
  · have hgd : l.getD i default = l[i] := by rw [List.getD, List.getElem?_eq_getElem c]; rfl
    have hh := hl _ (List.getElem_mem c)
    have ht : l.take (i + 1) = l.take i ++ [l[i]] := List.take_succ_eq_append_getElem c
    obtain ⟨b', e, r2⟩ := r'.void (n := n) hh.1 hh.2
    rw [cn_true (by simpa using c), gu_true (inb_t (by omega) (by omega)), Int.toNat_natCast, hgd, bd_some e, lt_eq, w_i64 (by omega) (by omega)]
    have e1 : ((i : Int) + 1).toNat = i + 1 := by omega
    refine ih _ _ ⟨by omega, by omega, ?_, hs⟩ (by omega)
    rw [e1, ht, List.foldl_append]
    exact r2
  · rw [cn_false (by simpa using c)]
    rw [List.take_of_length_le (by omega)] at r'
    exact ⟨k', rfl, r', hs⟩
theorem refvoid9 {n : Nat} (hn : 40 ≤ n) {b : handle_Book} {w : ref03_Book} (r : RB b w) {h : Int} (h0 : 0 ≤ h) : ref03_Book_Void n w h = some (vdW w h, goodW w h) := refvoid_eq hn r h0
theorem refthose_eq {n : Nat} (hn : 40 ≤ n) {k : token_Tokens} {w : ref09_Tokens} (r : RT k w) (g t : Int) :
    ref09_Tokens_Those n w g t = some (thoseL w.B (fun i => (decide (g < 0) || (k.slots i).Region == g) && (decide (t < 0) || (k.slots i).To == t)) 32) := by
  unfold ref09_Tokens_Those
  refine loop2_ind (fun (o : List Int) (i : Int) => 0 ≤ i ∧ i ≤ 32 ∧ o = thoseL w.B (fun i => (decide (g < 0) || (k.slots i).Region == g) && (decide (t < 0) || (k.slots i).To == t)) i.toNat) (fun _ i => (32 - i).toNat) (fun o => o = some (thoseL w.B (fun i => (decide (g < 0) || (k.slots i).Region == g) && (decide (t < 0) || (k.slots i).To == t)) 32)) ?_ n [] 0 ⟨by omega, by omega, rfl⟩ (by omega)
  rintro kk o i ⟨i0, i1, rfl⟩ ih
  obtain ⟨i, rfl⟩ := Int.eq_ofNat_of_zero_le i0
  rw [Int.toNat_natCast]
  by_cases c : i < 32
  · have hr := r.book.ran i c
    have hlen := thoseL_len w.B (fun i => (decide (g < 0) || (k.slots i).Region == g) && (decide (t < 0) || (k.slots i).To == t)) i
    have e1 : ((i : Int) + 1).toNat = i + 1 := by omega
    have hin : inb (i : Int) 32 = true := inb_t (by omega) (by omega)
    rw [cn_true (by simp; omega), hin, gu_true rfl, gu_true (by simp), gu_true (by simp), w_i64 (by omega) (by omega)]
    by_cases h1 : w.B.Is i = 1
    · rw [(r.tok i (r.lt16 c h1) h1).1]
      by_cases h2 : ((decide (g < 0) || (k.slots i).Region == g) && (decide (t < 0) || (k.slots i).To == t)) = true
      · rw [cn_true (by simp only [h1, ofT, beq_self_eq_true, Bool.true_and]; exact h2), bd_some (ref_of_eq (by omega) (by omega) hr.1 hr.2), gu_true (apok_t (by omega) (by omega)), lt_eq]
        refine ih _ _ ⟨by omega, by omega, ?_⟩ (by omega)
        rw [e1, thoseL, if_pos ⟨h1, h2⟩]; rfl
      · rw [cn_false (by simp only [h1, ofT, beq_self_eq_true, Bool.true_and]; simpa using h2)]
        refine ih _ _ ⟨by omega, by omega, ?_⟩ (by omega)
        rw [e1, thoseL, if_neg (fun h => h2 h.2), List.append_nil]
    · have : (w.B.Is i == 1) = false := by simpa using h1
      rw [cn_false (by simp [this])]
      refine ih _ _ ⟨by omega, by omega, ?_⟩ (by omega)
      rw [e1, thoseL, if_neg (fun h => h1 h.1), List.append_nil]
  · obtain rfl : i = 32 := by omega
    rw [cn_false (by simp)]
theorem those_ran {b : handle_Book} {w : ref03_Book} (r : RB b w) {p : Nat → Bool} : ∀ h ∈ thoseL w p 32, 0 ≤ h ∧ h < 4294967296 := fun h hh => by
  have := ((mem_those r).1 hh).1
  exact ⟨this.1, slB_lt (good_slot this.2).1⟩
theorem clear_eq {n : Nat} (hn : 200 ≤ n) {k : token_Tokens} {w : ref09_Tokens} (r : RT k w) {g : Int} (hg : 0 ≤ g) :
    ∃ k', token_Tokens_Clear n k g = some k' ∧ ref09_Tokens_Clear n w g = some { w with B := (thoseL w.B (fun i => (k.slots i).Region == g) 32).foldl vdW w.B } ∧
      RT k' { w with B := (thoseL w.B (fun i => (k.slots i).Region == g) 32).foldl vdW w.B } ∧ k'.slots = k.slots := by
  have hran := those_ran r.book (p := fun i => (k.slots i).Region == g)
  have hlen := thoseL_len w.B (fun i => (k.slots i).Region == g) 32
  obtain ⟨k', e1, e2, e3⟩ := without_eq (n := n) _ r hran (by omega) hn
  refine ⟨k', ?_, ?_, e2, e3⟩
  · unfold token_Tokens_Clear
    rw [bd_some (on_eq (by omega) r g), bd_some e1]
  · have hl : ref09_Tokens_Those n w g (-1) = some (thoseL w.B (fun i => (k.slots i).Region == g) 32) := by
      refine (refthose_eq (by omega) r g (-1)).trans (congrArg some (thoseL_congr (fun i _ _ => ?_) 32 (Nat.le_refl _)))
      have : decide (g < 0) = false := by simpa using hg
      simp [this]
    unfold ref09_Tokens_Clear
    rw [bd_some hl]
    generalize thoseL w.B (fun i => (k.slots i).Region == g) 32 = l at *
    refine loop2_ind (fun (i : Int) (w' : ref09_Tokens) => 0 ≤ i ∧ i ≤ l.length ∧ w' = { w with B := (l.take i.toNat).foldl vdW w.B } ∧ ∃ k', RT k' w') (fun i _ => ((l.length : Int) - i).toNat) (fun o => o = some ({ w with B := l.foldl vdW w.B } : ref09_Tokens)) ?_ n 0 w ⟨by omega, by omega, rfl, k, r⟩ (by omega)
    rintro kk i w' ⟨i0, i1, rfl, k2, r'⟩ ih
    obtain ⟨i, rfl⟩ := Int.eq_ofNat_of_zero_le i0
    rw [Int.toNat_natCast] at *
    by_cases c : i < l.length
    · have hgd : l.getD i default = l[i] := by rw [List.getD, List.getElem?_eq_getElem c]; rfl
      have hh := hran _ (List.getElem_mem c)
      have ht : l.take (i + 1) = l.take i ++ [l[i]] := List.take_succ_eq_append_getElem c
      obtain ⟨b', _, r2⟩ := r'.void (n := n) hh.1 hh.2
      rw [cn_true (by simpa using c), gu_true (inb_t (by omega) (by omega)), hgd, bd_some (refvoid9 (by omega) r'.book hh.1), lt_eq, w_i64 (by omega) (by omega)]
      have e1 : ((i : Int) + 1).toNat = i + 1 := by omega
      refine ih _ _ ⟨by omega, by omega, ?_, _, r2⟩ (by omega)
      rw [e1, ht, List.foldl_append]; rfl
    · rw [cn_false (by simpa using c), List.take_of_length_le (by omega)]

/-! Return -/
def kidT (k : token_Tokens) (w : ref09_Tokens) (i j : Nat) : Prop := j < 32 ∧ w.B.Is j = 1 ∧ (k.slots j).Above = hofI i (w.B.Gen i)
inductive Dsc (k : token_Tokens) (w : ref09_Tokens) (i0 : Nat) : Nat → Prop where
  | self : Dsc k w i0 i0
  | kid {i j : Nat} : Dsc k w i0 i → kidT k w i j → Dsc k w i0 j
theorem Dsc.live {k : token_Tokens} {w : ref09_Tokens} {i0 j : Nat} (h : Dsc k w i0 j) (h0 : i0 < 32) (h1 : w.B.Is i0 = 1) : j < 32 ∧ w.B.Is j = 1 := by
  cases h with
  | self => exact ⟨h0, h1⟩
  | kid _ hk => exact ⟨hk.1, hk.2.1⟩
theorem Dsc.head {k : token_Tokens} {w : ref09_Tokens} {i0 c j : Nat} (hc : kidT k w i0 c) (h : Dsc k w c j) : Dsc k w i0 j := by
  induction h with
  | self => exact .kid .self hc
  | kid _ hk ih => exact .kid ih hk
theorem Dsc.cases_head {k : token_Tokens} {w : ref09_Tokens} {i0 j : Nat} (h : Dsc k w i0 j) : j = i0 ∨ ∃ c, kidT k w i0 c ∧ Dsc k w c j := by
  induction h with
  | self => exact .inl rfl
  | kid _ hk ih =>
    rcases ih with rfl | ⟨c, h1, h2⟩
    · exact .inr ⟨_, hk, .self⟩
    · exact .inr ⟨c, h1, .kid h2 hk⟩
/-- tokens lie in a forest -/
structure TT (k : token_Tokens) (w : ref09_Tokens) : Prop where
  past : ∀ i, i < 32 → w.B.Is i = 1 → (k.slots i).Above = 0 ∨ pastS w.B (k.slots i).Above
  rank : ∃ ρ : Nat → Nat, ∀ i j, i < 32 → w.B.Is i = 1 → kidT k w i j → ρ i < ρ j

/-- how many of the first numbers a word is true of -/
def cntP (p : Nat → Bool) : Nat → Nat
  | 0 => 0
  | k + 1 => cntP p k + (if p k = true then 1 else 0)
theorem cntP_le (p : Nat → Bool) : ∀ k, cntP p k ≤ k
  | 0 => Nat.le_refl _
  | k + 1 => by have := cntP_le p k; simp only [cntP]; split <;> omega
theorem cntP_mono {p q : Nat → Bool} (h : ∀ i, p i = true → q i = true) : ∀ k, cntP p k ≤ cntP q k
  | 0 => Nat.le_refl _
  | k + 1 => by
    have := cntP_mono h k
    simp only [cntP]
    by_cases e : p k = true
    · rw [if_pos e, if_pos (h k e)]; omega
    · rw [if_neg e]; omega
theorem cntP_lt {p q : Nat → Bool} (h : ∀ i, p i = true → q i = true) {c : Nat} (hp : p c = false) (hq : q c = true) : ∀ k, c < k → cntP p k < cntP q k
  | 0, hc => absurd hc (Nat.not_lt_zero _)
  | k + 1, hc => by
    simp only [cntP]
    by_cases e : c = k
    · subst e
      have := cntP_mono h c
      rw [hp, hq]; simp; omega
    · have := cntP_lt h hp hq k (by omega)
      by_cases e2 : p k = true
      · rw [if_pos e2, if_pos (h k e2)]; omega
      · rw [if_neg e2]; omega
theorem kid_mem {k : token_Tokens} {w : ref09_Tokens} (r : RT k w) {i : Nat} {x : Int} : x ∈ thoseL w.B (fun j => (k.slots j).Above == hofI i (w.B.Gen i)) 32 ↔ goodS w.B x ∧ kidT k w i (slN x) := by
  rw [mem_those r.book, beq_iff_eq]
  exact ⟨fun h => ⟨h.1, slN_lt x, (good_slot h.1.2).2.1, h.2⟩, fun h => ⟨h.1, h.2.2.2⟩⟩
/-- the program's search -/
theorem find9_eq {k : token_Tokens} {w : ref09_Tokens} (r : RT k w) {ρ : Nat → Nat} (hρ : ∀ i j, i < 32 → w.B.Is i = 1 → kidT k w i j → ρ i < ρ j) :
    ∀ (d i n : Nat), i < 32 → w.B.Is i = 1 → cntP (fun j => decide (ρ i < ρ j)) 32 ≤ d → 50 + d < n → ∀ (goes : List (Int × Bool)) (S : Int → Prop), SetL goes S →
      ∃ goes', token_Tokens_Return_1 n (hofI i (w.B.Gen i)) goes k = some goes' ∧ SetL goes' (fun x => S x ∨ ∃ j, Dsc k w i j ∧ x = hofI j (w.B.Gen j)) := by
  intro d
  induction d with
  | zero =>
    intro i n hi h1 hd hn goes S hS
    obtain ⟨n, rfl⟩ : ∃ m, n = m + 1 := ⟨n - 1, by omega⟩
    rw [token_Tokens_Return_1, lt_eq, bd_some (kidsk_eq (by omega) r _)]
    have hno : thoseL w.B (fun j => (k.slots j).Above == hofI i (w.B.Gen i)) 32 = [] := by
      cases hl : thoseL w.B (fun j => (k.slots j).Above == hofI i (w.B.Gen i)) 32 with
      | nil => rfl
      | cons x t =>
        have := (kid_mem r (i := i) (x := x)).1 (by rw [hl]; simp)
        have h2 := hρ i (slN x) hi h1 this.2
        have h3 := cntP_lt (p := fun _ => false) (q := fun j => decide (ρ i < ρ j)) (fun _ h => by cases h) (c := slN x) rfl (by simpa using h2) 32 (slN_lt x)
        omega
    rw [hno]
    obtain ⟨n, rfl⟩ : ∃ m, n = m + 1 := ⟨n - 1, by omega⟩
    refine ⟨_, rfl, hS.set fun x => ?_⟩
    refine or_congr_right ⟨fun ⟨j, hj, e⟩ => ?_, fun e => ⟨i, .self, e⟩⟩
    rcases hj.cases_head with rfl | ⟨c, hc, _⟩
    · exact e
    · have hcl := hof_good r.book hc.1 hc.2.1
      have := (kid_mem r (i := i) (x := hofI c (w.B.Gen c))).2 ⟨hcl.1, by rw [hcl.2.1]; exact hc⟩
      rw [hno] at this; cases this
  | succ d ihd =>
    intro i n hi h1 hd hn goes S hS
    obtain ⟨n, rfl⟩ : ∃ m, n = m + 1 := ⟨n - 1, by omega⟩
    rw [token_Tokens_Return_1, lt_eq, bd_some (kidsk_eq (by omega) r _)]
    have hmem := fun x => kid_mem r (i := i) (x := x)
    have hlen := thoseL_len w.B (fun j => (k.slots j).Above == hofI i (w.B.Gen i)) 32
    generalize thoseL w.B (fun j => (k.slots j).Above == hofI i (w.B.Gen i)) 32 = t at *
    have hS1 : SetL (mset goes (hofI i (w.B.Gen i)) true) (fun x => S x ∨ x = hofI i (w.B.Gen i)) := hS.set fun x => Iff.rfl
    refine loop2_ind (fun (m : Int) (g : List (Int × Bool)) => 0 ≤ m ∧ m ≤ t.length ∧ SetL g (fun x => (S x ∨ x = hofI i (w.B.Gen i)) ∨ ∃ c ∈ t.take m.toNat, ∃ j, Dsc k w (slN c) j ∧ x = hofI j (w.B.Gen j))) (fun m _ => ((t.length : Int) - m).toNat)
      (fun o => ∃ g', o = some g' ∧ SetL g' (fun x => S x ∨ ∃ j, Dsc k w i j ∧ x = hofI j (w.B.Gen j))) ?_ n 0 _ ⟨by omega, by omega, hS1.congr fun x => by simp⟩ (by omega)
    rintro kk m g ⟨m0, m1, hg⟩ ih
    obtain ⟨m, rfl⟩ := Int.eq_ofNat_of_zero_le m0
    rw [Int.toNat_natCast] at hg
    by_cases c : m < t.length
    · have hgd : t.getD m default = t[m] := by rw [List.getD, List.getElem?_eq_getElem c]; rfl
      have hh := (hmem _).1 (List.getElem_mem c)
      have ht : t.take (m + 1) = t.take m ++ [t[m]] := List.take_succ_eq_append_getElem c
      have hk := hρ i _ hi h1 hh.2
      have hcl := (good_slot hh.1.2).2.1
      have hcnt : cntP (fun j => decide (ρ (slN t[m]) < ρ j)) 32 ≤ d := by
        have := cntP_lt (p := fun j => decide (ρ (slN t[m]) < ρ j)) (q := fun j => decide (ρ i < ρ j)) (fun j hj => by simp at hj ⊢; omega) (c := slN t[m]) (by simp) (by simpa using hk) 32 (slN_lt _)
        omega
      obtain ⟨g', e1, e2⟩ := ihd (slN t[m]) n (slN_lt _) hcl hcnt (by omega) g _ hg
      rw [good_hof hh.1] at e1
      rw [cn_true (by simpa using c), gu_true (inb_t (by omega) (by omega)), Int.toNat_natCast, hgd, bd_some e1, w_i64 (by omega) (by omega)]
      have e3 : ((m : Int) + 1).toNat = m + 1 := by omega
      refine ih _ _ ⟨by omega, by omega, e2.congr fun x => ?_⟩ (by omega)
      rw [e3, ht]
      constructor
      · rintro (h | ⟨c', hc', h⟩)
        · exact .inl (.inl h)
        · rcases List.mem_append.1 hc' with h2 | h2
          · exact .inl (.inr ⟨c', h2, h⟩)
          · rw [List.mem_singleton.1 h2] at h; exact .inr h
      · rintro ((h | ⟨c', hc', h⟩) | h)
        · exact .inl h
        · exact .inr ⟨c', List.mem_append_left _ hc', h⟩
        · exact .inr ⟨_, List.mem_append_right _ (by simp), h⟩
    · rw [cn_false (by simpa using c)]
      rw [List.take_of_length_le (by omega)] at hg
      refine ⟨g, rfl, hg.congr fun x => ?_⟩
      constructor
      · rintro (h | ⟨j, hj, rfl⟩)
        · exact .inl (.inl h)
        · rcases hj.cases_head with rfl | ⟨c', h3, h4⟩
          · exact .inl (.inr rfl)
          · have hcl := hof_good r.book h3.1 h3.2.1
            exact .inr ⟨_, (hmem (hofI c' (w.B.Gen c'))).2 ⟨hcl.1, by rw [hcl.2.1]; exact h3⟩, j, by rw [hcl.2.1]; exact h4, rfl⟩
      · rintro ((h | h) | ⟨c', hc', j, hj, h⟩)
        · exact .inl h
        · exact .inr ⟨i, .self, h⟩
        · exact .inr ⟨j, hj.head ((hmem _).1 hc').2, h⟩
end Go.Proofs.Ytcdnmiianjaglaa
