/- Whoever waits has it in turn. -/
import Derived.Test.YtcdnmiianjaglaaL15
namespace Go.Proofs.Ytcdnmiianjaglaa
open Go Go.Bw

def NoBoth (w : ref15_Marks) : Prop := ∀ i, i < 32 → w.Has i ∉ w.Wait i
theorem nb_free {m : mark_Marks} {w : ref15_Marks} (r : RM m w) (h : NoBoth w) (s t : Int) : NoBoth (wFree w s t) := fun i hi => by
  unfold wFree
  split
  · simp only [upd_ite]
    split
    · intro hm; have := (r i hi).tasks _ hm; omega
    · exact h i hi
  · exact h i hi
theorem nb_gone {m : mark_Marks} {w : ref15_Marks} (r : RM m w) (h : NoBoth w) (t : Int) : NoBoth (wGone w t) := fun i hi => by
  unfold wGone
  split
  · simp only [hi, true_and, if_true]
    split
    · intro hm; have := (r i hi).tasks _ (List.mem_filter.1 hm).1; omega
    · intro hm; exact h i hi (List.mem_filter.1 hm).1
  · exact h i hi
theorem nb_try {w : ref15_Marks} (h : NoBoth w) (s t : Int) : NoBoth (wTry w s t).1 := fun i hi => by
  unfold wTry
  split
  · split
    · exact h i hi
    · rename_i hne
      split
      · simp only [upd_ite]
        split
        · intro hm; have := (List.mem_filter.1 hm).2; simp at this
        · exact h i hi
      · split
        · exact h i hi
        · simp only [upd_ite]
          split
          · rename_i e; subst e
            intro hm
            rcases List.mem_append.1 hm with hm | hm
            · exact h _ hi hm
            · exact hne (List.mem_singleton.1 hm)
          · exact h i hi
  · exact h i hi

theorem turns_true {l : List law15_Act} {slot : Int} (hl : ∀ a ∈ l, (0 ≤ a.Do ∧ a.Do ≤ 255) ∧ (-9223372036854775808 ≤ a.Slot ∧ a.Slot ≤ 9223372036854775807) ∧ (-9223372036854775808 ≤ a.Task ∧ a.Task ≤ 9223372036854775807)) (hs : -9223372036854775808 ≤ slot ∧ slot ≤ 9223372036854775807) : law15_MarkTurns 1000 l slot = some true := by
  unfold law15_MarkTurns
  by_cases hc : ((decide (200 < (l.length : Int)) || decide (slot < 0)) || decide (31 < slot)) = true
  · rw [cn_true hc, bd_some wakes15]
  rw [cn_false (by simpa using hc)]
  simp only [Bool.or_eq_true, decide_eq_true_eq, not_or] at hc
  obtain ⟨⟨c1, c2⟩, c3⟩ := hc
  have s0 : 0 ≤ slot := by omega
  have s1 : slot < 32 := by omega
  have hsl : slot.toNat < 32 := by omega
  refine loop2_ind (fun (x : Int) (m : mark_Marks) => 0 ≤ x ∧ x ≤ l.length ∧ ∃ w, RM m w ∧ NoBoth w) (fun (x : Int) _ => ((l.length : Int) - x).toNat) (fun o => o = some true) ?_ 1000 0 _ ⟨by omega, by omega, _, zero_RM, fun i _ => by simp⟩ (by omega)
  rintro kk x m ⟨x0, x1, w, r, nb⟩ ih
  by_cases hx : x < l.length
  · rw [cn_true (by simpa using hx), gu_true (inb_t x0 hx), lt_eq, w_i64 (x := x + 1) (by omega) (by omega)]
    have hm : l.getD x.toNat default ∈ l := by
      rw [List.getD, List.getElem?_eq_getElem (show x.toNat < l.length by omega)]; exact List.getElem_mem _
    obtain ⟨⟨a0, a1⟩, ⟨b0, b1⟩, c0⟩ := hl _ hm
    generalize l.getD x.toNat default = a at *
    by_cases h0 : a.Do = 0
    · rw [cn_true (by simpa using h0)]
      obtain ⟨m', e1, r'⟩ := free_eq (n := 1000) r (s := a.Slot) c0
      rw [bd_some e1]
      exact ih _ _ ⟨by omega, by omega, _, r', nb_free r nb _ _⟩ (by omega)
    · rw [cn_false (by simpa using h0)]
      by_cases h1 : a.Do = 1
      · rw [cn_true (by simpa using h1)]
        obtain ⟨m', e1, r'⟩ := gone_eq (n := 1000) (by omega) r c0
        rw [bd_some e1]
        exact ih _ _ ⟨by omega, by omega, _, r', nb_gone r nb _⟩ (by omega)
      · rw [cn_false (by simpa using h1)]
        obtain ⟨m', e1, r'⟩ := try_eq (n := 1000) (by omega) r (s := a.Slot) (t := a.Task)
        rw [bd_some e1]
        exact ih _ _ ⟨by omega, by omega, _, r', nb_try nb _ _⟩ (by omega)
  · rw [cn_false (by simpa using hx), bd_some (holder_eq r s0 s1), bd_some (waiting_eq (by omega) r s0 s1)]
    have rl := r slot.toNat hsl
    have hws := rl.len
    have hran := rl.ran
    have hnb := nb slot.toNat hsl
    obtain ⟨ws, hwse⟩ : ∃ ws, ws = w.Wait slot.toNat := ⟨_, rfl⟩
    rw [← hwse] at hws hnb ⊢
    have hget : ∀ (k : Nat) (h : k < ws.length), ws.getD k default = ws[k] := fun k h => by rw [List.getD, List.getElem?_eq_getElem h]; rfl
    -- nobody has, and waits
    refine loop1_ind (fun (y : Int) => 0 ≤ y ∧ y ≤ ws.length) (fun (y : Int) => ((ws.length : Int) - y).toNat) (fun o => o = some true) ?_ 1000 0 ⟨by omega, by omega⟩ (by omega)
    rintro k2 y ⟨y0, y1⟩ ih2
    by_cases hy : y < ws.length
    · have hyn : y.toNat < ws.length := by omega
      rw [cn_true (by simpa using hy), gu_true (by rw [inb_t y0 hy]; simp), hget _ hyn, cn_false (by
        by_cases h2 : 0 ≤ w.Has slot.toNat
        · have : ws[y.toNat] ≠ w.Has slot.toNat := fun e => hnb (e ▸ List.getElem_mem hyn)
          simp [h2, this]
        · simp [h2]), w_i64 (by omega) (by omega)]
      exact ih2 _ ⟨by omega, by omega⟩ (by omega)
    · rw [cn_false (by simpa using hy), lt_eq]
      -- all have it, one behind the other
      have main : ∀ (m : mark_Marks), (∃ w, RM m w ∧ w.Has slot.toNat = -1 ∧ w.Wait slot.toNat = ws) → loop2 (fun k59 (x55 : Int) (x56 : mark_Marks) =>
          cn (decide (x55 < (ws.length : Int))) (
          loop2 (fun k67 (x63 : Int) (x64 : mark_Marks) =>
          cn (decide (x55 < x63)) (
          gu (inb x63 ws.length) <|
          bd (mark_Marks_Try 1000 x64 slot (ws.getD (Int.toNat x63) default)) fun x69 =>
          cl (x69.2 == false) (mark_Marks_Waiting 1000 x69.1 slot) default fun x70 =>
          cn ((x69.2 || ((x70.length : Int) != (wr .i64 ((ws.length : Int) - x55))))) (
          some false) (
          k67 (wr .i64 (x63 - 1)) x69.1)) (
          gu (inb x55 ws.length) <|
          bd (mark_Marks_Try 1000 x64 slot (ws.getD (Int.toNat x55) default)) fun x77 =>
          cn ((!x77.2)) (
          some false) (
          gu (inb x55 ws.length) <|
          bd (mark_Marks_Free 1000 x77.1 slot (ws.getD (Int.toNat x55) default)) fun x79 =>
          k59 (wr .i64 (x55 + 1)) x79))) 1000 (wr .i64 ((ws.length : Int) - 1)) x56) (
          bd (mark_Marks_Holder 1000 x56 slot) fun x80 =>
          cl ((!x80.2) == true) (mark_Marks_Waiting 1000 x56 slot) default fun x81 =>
          cl (((!x80.2) && ((x81.length : Int) == 0)) == true) (law15_wakes 1000 ) default fun x87 =>
          some (((!x80.2) && ((x81.length : Int) == 0)) && x87))) 1000 0 m = some true := by
        intro m hm
        have tasks : ∀ z ∈ ws, 0 ≤ z ∧ z < 8 := fun z hz => rl.tasks z (hwse ▸ hz)
        have nd : ws.Nodup := hwse ▸ rl.nodup
        refine loop2_ind (fun (x : Int) (m : mark_Marks) => ∃ k : Nat, x = k ∧ k ≤ ws.length ∧ ∃ w, RM m w ∧ w.Has slot.toNat = -1 ∧ w.Wait slot.toNat = ws.drop k) (fun (x : Int) _ => ((ws.length : Int) - x).toNat) (fun o => o = some true) ?_ 1000 0 m ⟨0, rfl, by omega, by simpa using hm⟩ (by omega)
        rintro k3 x m ⟨k, rfl, hk, w, r, hh, hw⟩ ih3
        by_cases hkl : k < ws.length
        · rw [cn_true (by simp; omega), w_i64 (x := (ws.length : Int) - 1) (by omega) (by omega)]
          have hmay : ∀ t, 0 ≤ t → t < 8 → mayB slot t = true := fun t t0 t1 => by simp [mayB]; omega
          refine loop2_ind (fun (y : Int) (m : mark_Marks) => (k : Int) ≤ y ∧ y < ws.length ∧ RM m w) (fun (y : Int) _ => y.toNat) (fun o => o = some true) ?_ 1000 _ m ⟨by omega, by omega, r⟩ (by omega)
          rintro k4 y m ⟨y0, y1, r⟩ ih4
          have hyn : y.toNat < ws.length := by omega
          by_cases hky : (k : Int) < y
          · have ht := tasks _ (List.getElem_mem hyn)
            rw [cn_true (by simpa using hky), gu_true (inb_t (by omega) y1), hget _ hyn]
            obtain ⟨m', e1, r'⟩ := try_eq (n := 1000) (by omega) r (s := slot) (t := ws[y.toNat])
            have hne : ws[k] ≠ ws[y.toNat] := (List.pairwise_iff_getElem.1 nd) k y.toNat hkl hyn (by omega)
            have htry : wTry w slot ws[y.toNat] = (w, false) := by
              have q1 : (ws.drop k).head? = some ws[k] := by rw [List.head?_drop, List.getElem?_eq_getElem hkl]
              have q2 : ws[y.toNat] ∈ ws.drop k := by
                rw [List.mem_iff_getElem]
                exact ⟨y.toNat - k, by rw [List.length_drop]; omega, by rw [List.getElem_drop]; congr 1; omega⟩
              have q3 : ¬ (ws.drop k = []) := fun h => by rw [h] at q2; cases q2
              unfold wTry
              rw [if_pos (hmay _ ht.1 ht.2), if_neg (by omega), if_neg (by rw [hw, q1]; rintro ⟨_, h | h⟩; exact q3 h; exact hne (by simpa using h)), if_pos (by rw [hw]; exact q2)]
            rw [htry] at e1 r'
            rw [bd_some e1, cl_some (waiting_eq (by omega) r' s0 s1)]
            rw [cn_false (by rw [w_i64 (by omega) (by omega)]; simp [hw]; omega), w_i64 (by omega) (by omega)]
            exact ih4 _ _ ⟨by omega, by omega, r'⟩ (by omega)
          · have ht := tasks _ (List.getElem_mem hkl)
            rw [cn_false (by simpa using hky), gu_true (inb_t (by omega) (by omega)), Int.toNat_natCast, hget _ hkl]
            obtain ⟨m', e1, r'⟩ := try_eq (n := 1000) (by omega) r (s := slot) (t := ws[k])
            have hdrop : ws.drop k = ws[k] :: ws.drop (k + 1) := List.drop_eq_getElem_cons hkl
            have hnd : (ws[k] :: ws.drop (k + 1)).Nodup := hdrop ▸ nd.sublist (List.drop_sublist _ _)
            have hfil : (ws.drop k).filter (· != ws[k]) = ws.drop (k + 1) := by
              rw [hdrop, List.filter_cons, if_neg (by simp)]
              refine List.filter_eq_self.2 fun z hz => ?_
              simp only [bne_iff_ne, ne_eq]
              rintro rfl
              exact (List.nodup_cons.1 hnd).1 hz
            have htry : wTry w slot ws[k] = ({ Has := upd w.Has slot.toNat ws[k], Wait := upd w.Wait slot.toNat (ws.drop (k + 1)) }, true) := by
              unfold wTry
              rw [if_pos (hmay _ ht.1 ht.2), if_neg (by omega), if_pos ⟨by omega, .inr (by rw [hw, hdrop]; rfl)⟩, hw, hfil]
            rw [htry] at e1 r'
            rw [bd_some e1, cn_false (by rfl), gu_true (inb_t (by omega) (by omega))]
            obtain ⟨m2, e2, r2⟩ := free_eq (n := 1000) r' (s := slot) (t := ws[k]) (by omega)
            rw [bd_some e2, w_i64 (by omega) (by omega)]
            refine ih3 _ _ ⟨k + 1, by omega, by omega, _, r2, ?_, ?_⟩ (by omega)
            · simp [wFree, hmay _ ht.1 ht.2, upd_at]
            · simp [wFree, hmay _ ht.1 ht.2, upd_at]
        · rw [cn_false (by simp; omega), bd_some (holder_eq r s0 s1), cl_some (waiting_eq (by omega) r s0 s1), cl_some wakes15]
          have hd : ws.drop k = [] := List.drop_eq_nil_of_le (by omega)
          simp [hh, hw, hd]
      by_cases h2 : 0 ≤ w.Has slot.toNat
      · simp only [h2, if_true, decide_true]
        rw [cn_true rfl]
        obtain ⟨m', e1, r'⟩ := free_eq (n := 1000) r (s := slot) (t := w.Has slot.toNat) (by omega)
        rw [bd_some e1]
        have hmay : mayB slot (w.Has slot.toNat) = true := by simp [mayB]; omega
        exact main m' ⟨_, r', by simp [wFree, hmay, upd_at], by simp [wFree, hmay, hwse]⟩
      · rw [cn_false (by simpa using h2)]
        exact main m ⟨w, r, by omega, hwse.symm⟩
end Go.Proofs.Ytcdnmiianjaglaa
