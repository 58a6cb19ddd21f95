/- Return, in both. -/
import Derived.Test.YtcdnmiianjaglaaL09c
namespace Go.Proofs.Ytcdnmiianjaglaa
open Go Go.Bw

/-- what Return answers -/
structure RetP (k : token_Tokens) (w : ref09_Tokens) (h : Int) (k' : token_Tokens) (w' : ref09_Tokens) (l : List Int) (e : Int) : Prop where
  no : goodW w.B h = false → k' = k ∧ w' = w ∧ l = [] ∧ e = 4
  yes : goodW w.B h = true → e = 0 ∧ RT k' w' ∧ k'.slots = k.slots ∧ w' = { w with B := l.foldl vdW w.B } ∧ ∃ g : Nat → Bool, (∀ i, i < 32 → (g i = true ↔ Dsc k w (slN h) i)) ∧ l = thoseL w.B g 32
theorem refret_eq {n : Nat} (hn : 300 ≤ n) {k : token_Tokens} {w : ref09_Tokens} (r : RT k w) {h : Int} (h0 : 0 ≤ h) (hg : goodW w.B h = true) :
    ∃ g : Nat → Bool, (∀ i, i < 32 → (g i = true ↔ Dsc k w (slN h) i)) ∧ ref09_Tokens_Return n w h = some ({ w with B := (thoseL w.B g 32).foldl vdW w.B }, thoseL w.B g 32, 0) := by
  obtain ⟨g1, g2, g3⟩ := good_slot hg
  have hsl := slI_ran h
  have hs := refslot_eq (n := n) (by omega) r.book h0
  rw [hg, if_pos rfl] at hs
  unfold ref09_Tokens_Return
  rw [bd_some hs, cn_false (by simp; omega), bd_some hs, gu_true (inb_t hsl.1 (by omega)), lt_eq]
  have hi0 : (slI h).toNat = slN h := rfl
  rw [hi0]
  have hl0 := slN_lt h
  generalize slN h = i0 at *
  have hbeg : (∀ i, upd (fun _ => false) i0 true i = true → Dsc k w i0 i) := fun i hi => by
    rw [upd_ite] at hi
    split at hi
    · rename_i e; rw [e]; exact .self
    · cases hi
  refine loop2_ind (fun (more : Bool) (goes : Nat → Bool) => (∀ i, goes i = true → Dsc k w i0 i) ∧ goes i0 = true ∧ (more = false → ∀ j, j < 32 → w.B.Is j = 1 → goes j = false → goodW w.B (k.slots j).Above = true → goes (slN (k.slots j).Above) = false))
    (fun more goes => (if more = true then 1 else 0) + 2 * cntP (fun j => !goes j) 32)
    (fun o => ∃ g : Nat → Bool, (∀ i, i < 32 → (g i = true ↔ Dsc k w i0 i)) ∧ o = some (({ w with B := (thoseL w.B g 32).foldl vdW w.B } : ref09_Tokens), thoseL w.B g 32, (0 : Int))) ?_ n true _
    ⟨hbeg, upd_at _ _ _, fun h => (by cases h)⟩ (by have := cntP_le (fun j => !(upd (fun _ => false) i0 true j)) 32; simp only [if_true]; omega)
  rintro kk more goes ⟨q1, q2, q3⟩ ih
  cases more with
  | true =>
    rw [cn_true rfl]
    refine loop3_ind (fun (m2 : Bool) (i : Int) (gg : Nat → Bool) => 0 ≤ i ∧ i ≤ 32 ∧ (∀ i, gg i = true → Dsc k w i0 i) ∧ gg i0 = true ∧
        (m2 = false → gg = goes ∧ ∀ j : Nat, (j : Int) < i → w.B.Is j = 1 → goes j = false → goodW w.B (k.slots j).Above = true → goes (slN (k.slots j).Above) = false) ∧
        (m2 = true → cntP (fun j => !gg j) 32 < cntP (fun j => !goes j) 32)) (fun _ i _ => (32 - i).toNat)
      (fun o => ∃ g : Nat → Bool, (∀ i, i < 32 → (g i = true ↔ Dsc k w i0 i)) ∧ o = some (({ w with B := (thoseL w.B g 32).foldl vdW w.B } : ref09_Tokens), thoseL w.B g 32, (0 : Int))) ?_ n false 0 goes
      ⟨by omega, by omega, q1, q2, fun _ => ⟨rfl, fun j hj => by omega⟩, fun h => by cases h⟩ (by omega)
    rintro k2 m2 i gg ⟨i0', i1, p1, p2, p3, p4⟩ ih2
    obtain ⟨i, rfl⟩ := Int.eq_ofNat_of_zero_le i0'
    by_cases c : i < 32
    · have hin : inb (i : Int) 32 = true := inb_t (by omega) (by omega)
      have ha := r.ab i c
      rw [cn_true (by simp; omega), hin, gu_true rfl, Int.toNat_natCast, bd_some (refslot_eq (by omega) r.book ha), gu_true rfl, gu_true (by simp)]
      have hsr := slI_ran (w.T i).Above
      have hgu : ∀ b : Bool, (!((b && decide (0 ≤ (if goodW w.B (w.T i).Above = true then slI (w.T i).Above else -1))) == true) || inb (if goodW w.B (w.T i).Above = true then slI (w.T i).Above else -1) 32) = true := fun b => by
        cases hq : goodW w.B (w.T i).Above with
        | true =>
          have : inb (slI (w.T i).Above) 32 = true := inb_t hsr.1 (by omega)
          simp [this]
        | false => simp
      rw [gu_true (hgu _)]
      have hcond : ((((w.B.Is i == 1) && (!(gg i))) && decide (0 ≤ (if goodW w.B (w.T i).Above = true then slI (w.T i).Above else -1))) && (gg (Int.toNat (if goodW w.B (w.T i).Above = true then slI (w.T i).Above else -1)))) = true ↔
          w.B.Is i = 1 ∧ gg i = false ∧ goodW w.B (k.slots i).Above = true ∧ gg (slN (k.slots i).Above) = true := by
        by_cases h1 : w.B.Is i = 1
        · have ht : (w.T i).Above = (k.slots i).Above := by rw [(r.tok i (r.lt16 c h1) h1).1]; rfl
          rw [ht] at hsr ⊢
          cases hq : goodW w.B (k.slots i).Above with
          | true => simp [h1, hsr.1, slN]
          | false => simp
        · have : (w.B.Is i == 1) = false := by simpa using h1
          simp [h1]
      by_cases hc : w.B.Is i = 1 ∧ gg i = false ∧ goodW w.B (k.slots i).Above = true ∧ gg (slN (k.slots i).Above) = true
      · rw [cn_true (hcond.2 hc), gu_true rfl, lt_eq, w_i64 (by omega) (by omega)]
        obtain ⟨c1, c2, c3, c4⟩ := hc
        have htok := (r.tok i (r.lt16 c c1) c1).2
        have hup := good_hof ⟨htok.above.1, c3⟩
        have hcnt := cntP_lt (p := fun j => !(upd gg i true j)) (q := fun j => !gg j) (fun j hj => by
          rw [upd_ite] at hj
          split at hj
          · cases hj
          · exact hj) (c := i) (by rw [upd_at]; rfl) (by rw [c2]; rfl) 32 c
        refine ih2 _ _ _ ⟨by omega, by omega, fun j hj => ?_, ?_, fun h => (by cases h), fun _ => ?_⟩ (by omega)
        · rw [upd_ite] at hj
          split at hj
          · rename_i e; rw [e]
            exact .kid (p1 _ c4) ⟨c, c1, hup.symm⟩
          · exact p1 j hj
        · rw [upd_ite]; split
          · rfl
          · exact p2
        · cases m2 with
          | true => exact Nat.lt_trans hcnt (p4 rfl)
          | false => rw [← (p3 rfl).1]; exact hcnt
      · rw [cn_false (by rw [← Bool.not_eq_true]; exact fun h => hc (hcond.1 h)), w_i64 (by omega) (by omega)]
        refine ih2 _ _ _ ⟨by omega, by omega, p1, p2, fun h => ⟨(p3 h).1, fun j hj h1 h2 h3 => ?_⟩, p4⟩ (by omega)
        by_cases e : j = i
        · subst e
          rw [(p3 h).1] at hc
          cases hq : goes (slN (k.slots j).Above) with
          | false => rfl
          | true => exact absurd ⟨h1, h2, h3, hq⟩ hc
        · exact (p3 h).2 j (by omega) h1 h2 h3
    · rw [cn_false (by simp; omega)]
      refine ih _ _ ⟨p1, p2, fun h j hj h1 h2 h3 => ?_⟩ ?_
      · rw [(p3 h).1] at h2 ⊢
        exact (p3 h).2 j (by omega) h1 h2 h3
      · cases m2 with
        | true => have := p4 rfl; simp only [if_true]; omega
        | false => rw [(p3 rfl).1]; simp
  | false =>
    rw [cn_false rfl]
    have hD : ∀ i, i < 32 → (goes i = true ↔ Dsc k w i0 i) := fun i _ => ⟨q1 i, fun hd => by
      induction hd with
      | self => exact q2
      | @kid a j hd hk ihd =>
        have hla := hd.live hl0 g2
        have iha := ihd hla.1
        cases hq : goes j with
        | true => rfl
        | false =>
          have hh := hof_good r.book hla.1 hla.2
          have := q3 rfl j hk.1 hk.2.1 hq (by rw [hk.2.2]; exact hh.1.2)
          rw [hk.2.2, hh.2.1, iha] at this; cases this⟩
    refine ⟨goes, hD, ?_⟩
    refine loop3_ind (fun (l : List Int) (i : Int) (w' : ref09_Tokens) => 0 ≤ i ∧ i ≤ 32 ∧ l = thoseL w.B goes i.toNat ∧ w' = { w with B := (thoseL w.B goes i.toNat).foldl vdW w.B } ∧ ∃ k', RT k' w') (fun _ i _ => (32 - i).toNat)
      (fun o => o = some (({ w with B := (thoseL w.B goes 32).foldl vdW w.B } : ref09_Tokens), thoseL w.B goes 32, (0 : Int))) ?_ n [] 0 w ⟨by omega, by omega, rfl, rfl, k, r⟩ (by omega)
    rintro k2 l i w' ⟨i0', i1, rfl, rfl, k', r'⟩ ih2
    obtain ⟨i, rfl⟩ := Int.eq_ofNat_of_zero_le i0'
    rw [Int.toNat_natCast] at *
    by_cases c : i < 32
    · have hr := r.book.ran i c
      have hlen := thoseL_len w.B goes i
      have e1 : ((i : Int) + 1).toNat = i + 1 := by omega
      rw [cn_true (by simp; omega), gu_true (inb_t (by omega) (by omega))]
      cases hq : goes i with
      | true =>
        have hlv := ((hD i c).1 hq).live hl0 g2
        have hof := ref_of_eq (n := n) (w := w.B) (i := i) (by omega) (by omega) hr.1 hr.2
        have hh := hof_good r.book c hlv.2
        obtain ⟨b', _, r2⟩ := r'.void (n := n) (h := hofI i (w.B.Gen i)) (by omega) hh.2.2.2
        rw [cn_true rfl, bd_some hof, gu_true (apok_t (by omega) (by omega)), lt_eq, bd_some hof, bd_some (refvoid9 (by omega) r'.book (by show (0 : Int) ≤ hofI i (w.B.Gen i); omega)), lt_eq, w_i64 (by omega) (by omega)]
        have et : thoseL w.B goes (i + 1) = thoseL w.B goes i ++ [hofI i (w.B.Gen i)] := by rw [thoseL, if_pos ⟨hlv.2, hq⟩]
        refine ih2 _ _ _ ⟨by omega, by omega, by rw [e1, et]; rfl, ?_, _, r2⟩ (by omega)
        rw [e1, et, List.foldl_append]; rfl
      | false =>
        have et : thoseL w.B goes (i + 1) = thoseL w.B goes i := by rw [thoseL, if_neg (fun h => by rw [hq] at h; cases h.2), List.append_nil]
        rw [cn_false rfl, w_i64 (by omega) (by omega)]
        exact ih2 _ _ _ ⟨by omega, by omega, by rw [e1, et], by rw [e1, et], _, r'⟩ (by omega)
    · obtain rfl : i = 32 := by omega
      rw [cn_false (by simp)]
theorem ret_eq {n : Nat} (hn : 300 ≤ n) {k : token_Tokens} {w : ref09_Tokens} (r : RT k w) (t : TT k w) {h : Int} (h0 : 0 ≤ h) (h1 : h < 4294967296) :
    ∃ k' w' l e, token_Tokens_Return n k h = some (k', l, e) ∧ ref09_Tokens_Return n w h = some (w', l, e) ∧ RetP k w h k' w' l e := by
  cases hg : goodW w.B h with
  | false =>
    refine ⟨k, w, [], 4, ?_, ?_, fun _ => ⟨rfl, rfl, rfl, rfl⟩, fun h => (by rw [hg] at h; cases h)⟩
    · unfold token_Tokens_Return
      rw [bd_some (goodB r.book h0 h1), hg]; rfl
    · unfold ref09_Tokens_Return
      have hs := refslot_eq (n := n) (by omega) r.book h0
      rw [hg, if_neg (by decide)] at hs
      rw [bd_some hs]; rfl
  | true =>
    obtain ⟨g, hD, hR⟩ := refret_eq hn r h0 hg
    obtain ⟨g1, g2, g3⟩ := good_slot hg
    obtain ⟨ρ, hρ⟩ := t.rank
    have hc := cntP_le (fun j => decide (ρ (slN h) < ρ j)) 32
    obtain ⟨goes, e1, e2⟩ := find9_eq r hρ 32 (slN h) n (slN_lt h) g2 hc (by omega) [] _ SetL.nil
    rw [good_hof ⟨h0, hg⟩] at e1
    have hfil : (issuedL w.B 32).filter (fun x => mget goes x false) = thoseL w.B g 32 := by
      rw [← those_filter r.book g 32 (Nat.le_refl _)]
      refine List.filter_congr fun x hx => ?_
      have hgs := (goodS_all r.book x).1 hx
      rw [Bool.eq_iff_iff, e2.get, hD _ (slN_lt x)]
      constructor
      · rintro (h | ⟨j, hj, rfl⟩)
        · exact h.elim
        · have hl := hj.live (slN_lt h) g2
          rw [(hof_good r.book hl.1 hl.2).2.1]; exact hj
      · intro hd
        exact .inr ⟨slN x, hd, (good_hof hgs).symm⟩
    have hran := those_ran r.book (p := g)
    have hlen := thoseL_len w.B g 32
    obtain ⟨k', w1, w2, w3⟩ := without_eq (n := n) _ r hran (by omega) (by omega)
    refine ⟨k', _, _, _, ?_, hR, fun h => (by rw [hg] at h; cases h), fun _ => ⟨rfl, w2, w3, rfl, g, hD, rfl⟩⟩
    unfold token_Tokens_Return
    have hil := issuedL_len w.B 32
    rw [bd_some (goodB r.book h0 h1), hg, cn_false (b := !true) rfl, bd_some e1, bd_some (issued_eq (by omega) r.book)]
    refine loop2_ind (fun (o : List Int) (i : Int) => 0 ≤ i ∧ i ≤ (issuedL w.B 32).length ∧ o = ((issuedL w.B 32).take i.toNat).filter (fun x => mget goes x false)) (fun _ i => (((issuedL w.B 32).length : Int) - i).toNat) (fun o => o = some (k', thoseL w.B g 32, 0)) ?_ n [] 0 ⟨by omega, by omega, rfl⟩ (by omega)
    rintro kk o i ⟨i0, i1, rfl⟩ ih
    obtain ⟨i, rfl⟩ := Int.eq_ofNat_of_zero_le i0
    rw [Int.toNat_natCast]
    by_cases c : i < (issuedL w.B 32).length
    · have hgd : (issuedL w.B 32).getD i default = (issuedL w.B 32)[i] := by rw [List.getD, List.getElem?_eq_getElem c]; rfl
      have ht : (issuedL w.B 32).take (i + 1) = (issuedL w.B 32).take i ++ [(issuedL w.B 32)[i]] := List.take_succ_eq_append_getElem c
      have hfl : (((issuedL w.B 32).take i).filter (fun x => mget goes x false)).length ≤ 32 := Nat.le_trans (List.length_filter_le _ _) (by rw [List.length_take]; omega)
      have e3 : ((i : Int) + 1).toNat = i + 1 := by omega
      rw [cn_true (by simpa using c), gu_true (inb_t (by omega) (by omega)), hgd, w_i64 (by omega) (by omega)]
      generalize (issuedL w.B 32)[i] = z at *
      cases hq : mget goes z false with
      | true =>
        rw [cn_true rfl, gu_true (apok_t (by omega) (by omega)), lt_eq]
        refine ih _ _ ⟨by omega, by omega, ?_⟩ (by omega)
        rw [e3, ht, List.filter_append]; simp [hq]
      | false =>
        rw [cn_false rfl]
        refine ih _ _ ⟨by omega, by omega, ?_⟩ (by omega)
        rw [e3, ht, List.filter_append]; simp [hq]
    · rw [cn_false (by simpa using c), List.take_of_length_le (by omega), hfil, bd_some w1]
end Go.Proofs.Ytcdnmiianjaglaa
