/- TokenOneWriter: the statement's function. -/
import Derived.Test.YtcdnmiianjaglaaL09f
namespace Go.Proofs.Ytcdnmiianjaglaa
open Go Go.Bw

theorem region9 {k : token_Tokens} {w : ref09_Tokens} (r : RT k w) (tt : TT k w) (o : OW9 k w) (g : Int) (hg : 0 ≤ g) (after : Option Bool) (ha : after = some true) (W0 R0 : Int) (hW : W0 = if writesV k w g 0 = true then 1 else 0) (hR : R0 = if readsV k w g 0 = true then 1 else 0) :
    loop3 (fun k70 (x65 : Int) (x66 : Int) (x67 : Int) =>
    cn (decide (x67 < ((thoseL w.B (fun i => (k.slots i).Region == g) 32).length : Int))) (
    gu (inb x67 (thoseL w.B (fun i => (k.slots i).Region == g) 32).length) <|
    bd (token_Tokens_Get 1000 k ((thoseL w.B (fun i => (k.slots i).Region == g) 32).getD (Int.toNat x67) default)) fun x72 =>
    cn ((((x72.2 != 0) || (x72.1.Region != g)) || (x72.1.By == x72.1.To))) (
    some false) (
    lt (fun (x73 : Int) =>
    gu (inb x67 (thoseL w.B (fun i => (k.slots i).Region == g) 32).length) <|
    bd (token_Tokens_Reads 1000 k g ((thoseL w.B (fun i => (k.slots i).Region == g) 32).getD (Int.toNat x67) default)) fun x78 =>
    cn (x78) (
    k70 x73 (wr .i64 (x66 + 1)) (wr .i64 (x67 + 1))) (
    k70 x73 x66 (wr .i64 (x67 + 1)))) fun j74 =>
    gu (!(x72.1.Mutable == true) || inb x67 (thoseL w.B (fun i => (k.slots i).Region == g) 32).length) <|
    cl (x72.1.Mutable == true) (token_Tokens_Writes 1000 k g ((thoseL w.B (fun i => (k.slots i).Region == g) 32).getD (Int.toNat x67) default)) default fun x76 =>
    cn ((x72.1.Mutable && x76)) (
    j74 (wr .i64 (x65 + 1))) (
    j74 x65))) (
    cn (((decide (1 < x65) || ((x65 == 1) && decide (1 < x66))) || (x66 == 0))) (
    some false) (
    after))) 1000 W0 R0 0 = some true := by
  obtain ⟨c1, c2, c3⟩ := count9 r tt o g
  have hon : ∀ h, h ∈ thoseL w.B (fun i => (k.slots i).Region == g) 32 → goodS w.B h ∧ (k.slots (slN h)).Region = g := fun h hh => by
    have := (mem_those r.book).1 hh
    rw [beq_iff_eq] at this; exact this
  have hlen := thoseL_len w.B (fun i => (k.slots i).Region == g) 32
  generalize thoseL w.B (fun i => (k.slots i).Region == g) 32 = on at *
  refine loop3_ind (fun (W R m : Int) => 0 ≤ m ∧ m ≤ on.length ∧ W = W0 + (((on.take m.toNat).filter fun h => (k.slots (slN h)).Mutable && writesV k w g h).length : Int) ∧ R = R0 + (((on.take m.toNat).filter fun h => readsV k w g h).length : Int)) (fun _ _ m => ((on.length : Int) - m).toNat) (fun o => o = some true) ?_ 1000 W0 R0 0 ⟨by omega, by omega, by simp, by simp⟩ (by omega)
  rintro kk W R m ⟨m0, m1, rfl, rfl⟩ ih
  obtain ⟨m, rfl⟩ := Int.eq_ofNat_of_zero_le m0
  rw [Int.toNat_natCast]
  have hw01 : 0 ≤ W0 ∧ W0 ≤ 1 := by rw [hW]; split <;> omega
  have hr01 : 0 ≤ R0 ∧ R0 ≤ 1 := by rw [hR]; split <;> omega
  by_cases c : m < on.length
  · have hgd : on.getD m default = on[m] := by rw [List.getD, List.getElem?_eq_getElem c]; rfl
    have ht : on.take (m + 1) = on.take m ++ [on[m]] := List.take_succ_eq_append_getElem c
    obtain ⟨h1, h2⟩ := hon _ (List.getElem_mem c)
    have hf1 : ((on.take m).filter fun h => (k.slots (slN h)).Mutable && writesV k w g h).length ≤ 32 := Nat.le_trans (List.length_filter_le _ _) (by rw [List.length_take]; omega)
    have hf2 : ((on.take m).filter fun h => readsV k w g h).length ≤ 32 := Nat.le_trans (List.length_filter_le _ _) (by rw [List.length_take]; omega)
    have e1 : ((m : Int) + 1).toNat = m + 1 := by omega
    have hin : inb (m : Int) on.length = true := inb_t (by omega) (by omega)
    generalize on[m] = z at *
    obtain ⟨g1, g2, g3⟩ := good_slot h1.2
    have hz := slB_lt g1
    rw [cn_true (by simpa using c), hin, gu_true rfl, hgd, bd_some (get_eq r h1.1 hz), if_pos h1.2]
    dsimp only
    rw [h2, cn_false (by simpa using o.bt _ (slN_lt z) g2), lt_eq, gu_true (by simp), cl_some (writes_eq (by omega) r g h1.1 hz)]
    have hb : ((k.slots (slN z)).Mutable && (bif ((k.slots (slN z)).Mutable == true) then writesV k w g z else default)) = ((k.slots (slN z)).Mutable && writesV k w g z) := by cases (k.slots (slN z)).Mutable <;> rfl
    rw [hb]
    dsimp only
    simp only [gu_true]
    rw [w_i64 (x := (m : Int) + 1) (by omega) (by omega)]
    cases hq1 : ((k.slots (slN z)).Mutable && writesV k w g z) with
    | true =>
      rw [cn_true rfl, bd_some (reads_eq (by omega) r g h1.1 hz), w_i64 (x := W0 + _ + 1) (by omega) (by omega)]
      cases hq2 : readsV k w g z with
      | true =>
        rw [cn_true rfl, w_i64 (x := R0 + _ + 1) (by omega) (by omega)]
        refine ih _ _ _ ⟨by omega, by omega, ?_, ?_⟩ (by omega)
        · rw [e1, ht, List.filter_append]; simp only [List.filter_cons, hq1, List.filter_nil, if_true, List.length_append, List.length_cons, List.length_nil]; omega
        · rw [e1, ht, List.filter_append]; simp only [List.filter_cons, hq2, List.filter_nil, if_true, List.length_append, List.length_cons, List.length_nil]; omega
      | false =>
        rw [cn_false rfl]
        refine ih _ _ _ ⟨by omega, by omega, ?_, ?_⟩ (by omega)
        · rw [e1, ht, List.filter_append]; simp only [List.filter_cons, hq1, List.filter_nil, if_true, List.length_append, List.length_cons, List.length_nil]; omega
        · rw [e1, ht, List.filter_append]; simp [hq2]
    | false =>
      rw [cn_false rfl, bd_some (reads_eq (by omega) r g h1.1 hz)]
      cases hq2 : readsV k w g z with
      | true =>
        rw [cn_true rfl, w_i64 (x := R0 + _ + 1) (by omega) (by omega)]
        refine ih _ _ _ ⟨by omega, by omega, ?_, ?_⟩ (by omega)
        · rw [e1, ht, List.filter_append, List.filter_cons, hq1]; simp
        · rw [e1, ht, List.filter_append]; simp only [List.filter_cons, hq2, List.filter_nil, if_true, List.length_append, List.length_cons, List.length_nil]; omega
      | false =>
        rw [cn_false rfl]
        refine ih _ _ _ ⟨by omega, by omega, ?_, ?_⟩ (by omega)
        · rw [e1, ht, List.filter_append, List.filter_cons, hq1]; simp
        · rw [e1, ht, List.filter_append]; simp [hq2]
  · rw [cn_false (by simpa using c), List.take_of_length_le (by omega)]
    have hW2 : W0 + (((on.filter fun h => (k.slots (slN h)).Mutable && writesV k w g h).length : Nat) : Int) = (((if writesV k w g 0 = true then 1 else 0) + (on.filter fun h => (k.slots (slN h)).Mutable && writesV k w g h).length : Nat) : Int) := by
      rw [hW]; split <;> simp
    have hR2 : R0 + (((on.filter fun h => readsV k w g h).length : Nat) : Int) = (((if readsV k w g 0 = true then 1 else 0) + (on.filter fun h => readsV k w g h).length : Nat) : Int) := by
      rw [hR]; split <;> simp
    rw [hW2, hR2]
    generalize (if writesV k w g 0 = true then 1 else 0) + (on.filter fun h => (k.slots (slN h)).Mutable && writesV k w g h).length = NW at *
    generalize (if readsV k w g 0 = true then 1 else 0) + (on.filter fun h => readsV k w g h).length = NR at *
    rw [cn_false ?_, ha]
    rw [Bool.or_eq_false_iff, Bool.or_eq_false_iff, Bool.and_eq_false_iff, decide_eq_false_iff_not, decide_eq_false_iff_not, beq_eq_false_iff_ne, beq_eq_false_iff_ne]
    have : NW = 1 ∨ NW ≠ 1 := by omega
    rcases this with h | h
    · have := c2 h; exact ⟨⟨by omega, .inr (by omega)⟩, by omega⟩
    · exact ⟨⟨by omega, .inl (by omega)⟩, by omega⟩
theorem onew_true {l : List law09_Act} (hl : ∀ a ∈ l, ((0 ≤ a.Do ∧ a.Do ≤ 255) ∧ (0 ≤ a.H ∧ a.H ≤ 4294967295) ∧ ((0 ≤ a.X.Region ∧ a.X.Region ≤ 4294967295) ∧ (0 ≤ a.X.By ∧ a.X.By ≤ 255) ∧ (0 ≤ a.X.To ∧ a.X.To ≤ 255) ∧ (0 ≤ a.X.Above ∧ a.X.Above ≤ 4294967295)))) :
    law09_TokenOneWriter 1000 l = some true := by
  unfold law09_TokenOneWriter
  by_cases hc : 150 < l.length
  · rw [cn_true (decide_eq_true (by omega)), bd_some wakes09]
  rw [cn_false (decide_eq_false (by omega))]
  have hO0 : OW9 Z_token_Tokens Z_ref09_Tokens := ⟨fun i _ h => (none9 h).elim, fun i j _ _ h => (none9 h).elim, fun i _ h => (none9 h).elim⟩
  refine loop2_ind (fun (i : Int) (k : token_Tokens) => 0 ≤ i ∧ i ≤ l.length ∧ ∃ w, RT k w ∧ TT k w ∧ OW9 k w) (fun i _ => ((l.length : Int) - i).toNat) (fun o => o = some true) ?_ 1000 0 _ ⟨by omega, by omega, _, init9.1, init9.2, hO0⟩ (by omega)
  rintro kk i k ⟨i0, i1, w, r, tt, o⟩ ih
  by_cases hx : i < l.length
  · rw [cn_true (by simpa using hx), gu_true (inb_t i0 (by omega)), lt_eq]
    have hm : l.getD i.toNat default ∈ l := by
      rw [List.getD, List.getElem?_eq_getElem (show i.toNat < l.length by omega)]; exact List.getElem_mem _
    obtain ⟨⟨a0, a1⟩, ⟨a2, a3⟩, ⟨b0, b1⟩, ⟨b2, b3⟩, ⟨b4, b5⟩, b6, b7⟩ := hl _ hm
    generalize l.getD i.toNat default = a at *
    rw [lt_eq, w_i64 (x := i + 1) (by omega) (by omega)]
    -- behind each act
    have rest : ∀ (k' : token_Tokens) (w' : ref09_Tokens), RT k' w' → TT k' w' → OW9 k' w' → ∀ (res : Option Bool),
        res = loop1 (fun k48 (x45 : Int) =>
        cn (decide (x45 ≤ 3)) (
        bd (token_Tokens_On 1000 k' x45) fun x49 =>
        lt (fun (x56 : Int) =>
        lt (fun (x59 : Int) =>
        loop3 (fun k70 (x65 : Int) (x66 : Int) (x67 : Int) =>
        cn (decide (x67 < (x49.length : Int))) (
        gu (inb x67 x49.length) <|
        bd (token_Tokens_Get 1000 k' (x49.getD (Int.toNat x67) default)) fun x72 =>
        cn ((((x72.2 != 0) || (x72.1.Region != x45)) || (x72.1.By == x72.1.To))) (
        some false) (
        lt (fun (x73 : Int) =>
        gu (inb x67 x49.length) <|
        bd (token_Tokens_Reads 1000 k' x45 (x49.getD (Int.toNat x67) default)) fun x78 =>
        cn (x78) (
        k70 x73 (wr .i64 (x66 + 1)) (wr .i64 (x67 + 1))) (
        k70 x73 x66 (wr .i64 (x67 + 1)))) fun j74 =>
        gu (!(x72.1.Mutable == true) || inb x67 x49.length) <|
        cl (x72.1.Mutable == true) (token_Tokens_Writes 1000 k' x45 (x49.getD (Int.toNat x67) default)) default fun x76 =>
        cn ((x72.1.Mutable && x76)) (
        j74 (wr .i64 (x65 + 1))) (
        j74 x65))) (
        cn (((decide (1 < x65) || ((x65 == 1) && decide (1 < x66))) || (x66 == 0))) (
        some false) (
        k48 (wr .u32 (x45 + 1))))) 1000 x56 x59 0) fun j60 =>
        bd (token_Tokens_Reads 1000 k' x45 0) fun x61 =>
        cn (x61) (
        j60 (wr .i64 (0 + 1))) (
        j60 0)) fun j57 =>
        bd (token_Tokens_Writes 1000 k' x45 0) fun x58 =>
        cn (x58) (
        j57 (wr .i64 (0 + 1))) (
        j57 0)) (
        kk (i + 1) k')) 1000 1 → res = some true := by
      intro k' w' r' t' o' res hres
      rw [hres]
      refine loop1_ind (fun (g : Int) => 1 ≤ g ∧ g ≤ 4) (fun g => (4 - g).toNat) (fun o => o = some true) ?_ 1000 1 ⟨by omega, by omega⟩ (by omega)
      rintro k2 g ⟨g0, g1⟩ ih2
      by_cases hg : g ≤ 3
      · rw [cn_true (by simpa using hg), bd_some (on_eq (by omega) r' g), lt_eq, bd_some (writes_eq (by omega) r' g (a := 0) (by omega) (by omega))]
        have hwr : wr .i64 (0 + 1) = 1 := by decide
        have hnext : k2 (wr .u32 (g + 1)) = some true := by
          rw [w_u32 (by omega) (by omega)]
          exact ih2 _ ⟨by omega, by omega⟩ (by omega)
        have h2 : ∀ (W0 : Int), W0 = (if writesV k' w' g 0 = true then 1 else 0) → _ := fun W0 hW0 (R0 : Int) (hR0 : R0 = if readsV k' w' g 0 = true then 1 else 0) => region9 r' t' o' g (by omega) _ hnext W0 R0 hW0 hR0
        cases hq1 : writesV k' w' g 0 with
        | true =>
          rw [cn_true rfl, hwr]
          dsimp only
          rw [lt_eq, bd_some (reads_eq (by omega) r' g (a := 0) (by omega) (by omega))]
          cases hq2 : readsV k' w' g 0 with
          | true => rw [cn_true rfl]; exact h2 1 (by rw [hq1]; rfl) 1 (by rw [hq2]; rfl)
          | false => rw [cn_false rfl]; exact h2 1 (by rw [hq1]; rfl) 0 (by rw [hq2]; rfl)
        | false =>
          rw [cn_false rfl]
          dsimp only
          rw [lt_eq, bd_some (reads_eq (by omega) r' g (a := 0) (by omega) (by omega))]
          cases hq2 : readsV k' w' g 0 with
          | true => rw [cn_true rfl, hwr]; exact h2 0 (by rw [hq1]; rfl) 1 (by rw [hq2]; rfl)
          | false => rw [cn_false rfl]; exact h2 0 (by rw [hq1]; rfl) 0 (by rw [hq2]; rfl)
      · rw [cn_false (by simpa using hg)]
        exact ih _ _ ⟨by omega, by omega, w', r', t', o'⟩ (by omega)
    by_cases hd0 : a.Do = 0
    · obtain ⟨k', w', m, e, e1, e2, e3⟩ := ret_eq (n := 1000) (by omega) r tt a2 (by omega)
      rw [cn_true (by simpa using hd0), bd_some e1]
      obtain ⟨n1, n2⟩ := e3.next r tt
      exact rest _ _ n1 n2 (e3.ow r o) _ rfl
    · rw [cn_false (by simpa using hd0)]
      have hre : wr .u32 (1 + Int.tmod a.X.Region 3) = 1 + a.X.Region % 3 := by rw [tmod_pos b0, w_u32 (by omega) (by omega)]
      rw [hre]
      by_cases hd1 : a.Do = 1
      · obtain ⟨k', e1, e2, e3, e4⟩ := clear_eq (n := 1000) (by omega) r (g := 1 + a.X.Region % 3) (by omega)
        rw [cn_true (by simpa using hd1), bd_some e1]
        refine rest _ _ e3 (tt.voids _ e4) (o.voids r (those_ran r.book) e4 fun i j hi hj l1 l2 ha hr hm => ?_) _ rfl
        rw [mem_hof r.book hj l2, beq_iff_eq] at hm
        rw [mem_hof r.book hi l1, beq_iff_eq, ← hr, hm]
      · rw [cn_false (by simpa using hd1), lt_eq]
        have hX : TokR { a.X with Region := 1 + a.X.Region % 3 } := ⟨⟨by show 0 ≤ 1 + a.X.Region % 3; omega, by show 1 + a.X.Region % 3 < _; omega⟩, ⟨b2, by show a.X.By < _; omega⟩, ⟨b4, by show a.X.To < _; omega⟩, b6, by show a.X.Above < _; omega⟩
        obtain ⟨k', w', m, e, e1, e2, e3⟩ := lend_eq (n := 1000) (by omega) r hX
        rw [bd_some e1]
        exact rest _ _ (e3.rt r hX) (tt.lend r hX e3) (o.lend r hX e3) _ rfl
  · rw [cn_false (by simpa using hx), bd_some wakes09]
end Go.Proofs.Ytcdnmiianjaglaa
