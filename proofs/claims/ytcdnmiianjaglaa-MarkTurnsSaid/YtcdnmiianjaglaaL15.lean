/- What package mark and its document's answer compute. -/
import Derived.Test.YtcdnmiianjaglaaDMark
import Derived.Test.YtcdnmiianjaglaaPure
namespace Go.Proofs.Ytcdnmiianjaglaa
open Go Go.Bw

theorem wakes15 : law15_wakes 1000 = some true := by kernel_rfl

/-! lists of few tasks -/
theorem few {k : Nat} : ∀ {l : List Int}, l.Nodup → (∀ x ∈ l, 0 ≤ x ∧ x < (k : Int)) → l.length ≤ k := by
  induction k with
  | zero =>
    intro l _ h
    cases l with
    | nil => exact Nat.le_refl _
    | cons x l => have := h x (by simp); omega
  | succ k ih =>
    intro l hn h
    by_cases hk : (k : Int) ∈ l
    · have h1 := ih (hn.erase (k : Int)) (fun x hx => by
        have h2 := h x (List.mem_of_mem_erase hx)
        have h3 : x ≠ k := fun e => by subst e; exact (List.Nodup.not_mem_erase hn) hx
        omega)
      rw [List.length_erase_of_mem hk] at h1
      omega
    · have h1 := ih hn (fun x hx => by
        have h2 := h x hx
        have h3 : x ≠ k := fun e => hk (e ▸ hx)
        omega)
      omega

/-- a line of the program is of these -/
structure RL (l : mark_line) (has : Int) (ws : List Int) : Prop where
  hasE : l.has = has + 1
  ran : -1 ≤ has ∧ has < 8
  nE : l.n = ws.length
  waitE : ∀ q (h : q < ws.length), l.wait q = ws[q]
  tasks : ∀ x ∈ ws, 0 ≤ x ∧ x < 8
  nodup : ws.Nodup
def RM (m : mark_Marks) (w : ref15_Marks) : Prop := ∀ i, i < 32 → RL (m.slots i) (w.Has i) (w.Wait i)
theorem RL.len {l : mark_line} {has : Int} {ws : List Int} (r : RL l has ws) : ws.length ≤ 8 := few (k := 8) r.nodup r.tasks

def mayB (s t : Int) : Bool := ((decide (0 ≤ s) && decide (s < 32)) && decide (0 ≤ t)) && decide (t < 8)
theorem mayB_t {s t : Int} (h : mayB s t = true) : 0 ≤ s ∧ s < 32 ∧ 0 ≤ t ∧ t < 8 := by simp [mayB] at h; omega

/-! the document's -/
theorem refwithout_eq {n : Nat} (hn : 40 ≤ n) {ws : List Int} {t : Int} (hl : ws.length ≤ 8) : ref15_without n ws t = some (ws.filter (· != t)) := by
  unfold ref15_without
  refine loop2_ind (fun (l : List Int) (x : Int) => ∃ k : Nat, x = k ∧ k ≤ ws.length ∧ l = (ws.take k).filter (· != t)) (fun _ (x : Int) => ((ws.length : Int) - x).toNat) (fun o => o = some (ws.filter (· != t))) ?_ n [] 0 ⟨0, rfl, by omega, by simp⟩ (by omega)
  rintro kk l x ⟨k, rfl, hk, rfl⟩ ih
  by_cases hc : k < ws.length
  · rw [cn_true (by simp; omega), gu_true (inb_t (by omega) (by omega))]
    have hg : ws.getD (Int.toNat (k : Int)) default = ws[k] := by rw [Int.toNat_natCast, List.getD, List.getElem?_eq_getElem hc]; rfl
    have ht : (ws.take (k + 1)).filter (· != t) = (ws.take k).filter (· != t) ++ (if ws[k] != t then [ws[k]] else []) := by
      rw [List.take_succ_eq_append_getElem hc, List.filter_append]
      congr 1
      cases h : (ws[k] != t) <;> simp [List.filter, h]
    have hlen : ((ws.take k).filter (· != t)).length ≤ 8 := Nat.le_trans (List.length_filter_le _ _) (by rw [List.length_take]; omega)
    rw [hg, w_i64 (by omega) (by omega)]
    by_cases he : ws[k] = t
    · rw [cn_false (by simpa using he)]
      exact ih _ _ ⟨k + 1, by omega, by omega, by rw [ht]; simp [he]⟩ (by omega)
    · rw [cn_true (by simpa using he), gu_true (inb_t (by omega) (by omega)), gu_true (apok_t (by omega) (by omega)), lt_eq]
      exact ih _ _ ⟨k + 1, by omega, by omega, by rw [ht]; simp [he]⟩ (by omega)
  · rw [cn_false (by simp; omega)]
    obtain rfl : k = ws.length := by omega
    rw [List.take_length]

def wFree (w : ref15_Marks) (s t : Int) : ref15_Marks := if mayB s t && w.Has s.toNat == t then { w with Has := upd w.Has s.toNat (-1) } else w
def wTry (w : ref15_Marks) (s t : Int) : ref15_Marks × Bool :=
  if mayB s t then
    if w.Has s.toNat = t then (w, true)
    else if w.Has s.toNat < 0 ∧ (w.Wait s.toNat = [] ∨ (w.Wait s.toNat).head? = some t) then
      ({ Has := upd w.Has s.toNat t, Wait := upd w.Wait s.toNat ((w.Wait s.toNat).filter (· != t)) }, true)
    else if t ∈ w.Wait s.toNat then (w, false)
    else ({ w with Wait := upd w.Wait s.toNat (w.Wait s.toNat ++ [t]) }, false)
  else (w, false)
def wGone (w : ref15_Marks) (t : Int) : ref15_Marks :=
  if mayB 0 t then { Has := fun i => if i < 32 ∧ w.Has i = t then -1 else w.Has i, Wait := fun i => if i < 32 then (w.Wait i).filter (· != t) else w.Wait i } else w

theorem reffree_eq {n : Nat} {w : ref15_Marks} {s t : Int} : ref15_Marks_Free n w s t = some (wFree w s t) := by
  unfold ref15_Marks_Free
  have e : ref15_may n s t = some (mayB s t) := rfl
  rw [bd_some e]
  cases hm : mayB s t with
  | false => rw [gu_true (by simp), cn_false (by simp)]; simp [wFree, hm]
  | true =>
    obtain ⟨h1, h2, h3, h4⟩ := mayB_t hm
    rw [gu_true (by rw [inb_t h1 (by omega)]; simp)]
    by_cases hh : w.Has s.toNat = t
    · rw [cn_true (by simpa using hh), gu_true (inb_t h1 (by omega)), lt_eq]; simp [wFree, hm, hh]
    · rw [cn_false (by simpa using hh)]; simp [wFree, hm, hh]

theorem filter_len_eq {ws : List Int} {t : Int} : (ws.filter (· != t)).length = ws.length ↔ t ∉ ws := by
  rw [List.length_filter_eq_length_iff]
  constructor
  · intro h ht
    have := h t ht
    simp at this
  · intro h x hx
    simp only [bne_iff_ne, ne_eq]
    rintro rfl; exact h hx
theorem reftry_eq {n : Nat} (hn : 40 ≤ n) {m : mark_Marks} {w : ref15_Marks} (r : RM m w) {s t : Int} : ref15_Marks_Try n w s t = some (wTry w s t) := by
  unfold ref15_Marks_Try
  have e : ref15_may n s t = some (mayB s t) := rfl
  rw [bd_some e]
  cases hm : mayB s t with
  | false => rw [cn_true (by simp)]; simp [wTry, hm]
  | true =>
    obtain ⟨h1, h2, h3, h4⟩ := mayB_t hm
    have rl := r s.toNat (by omega)
    have hl := rl.len
    have hin : inb s 32 = true := inb_t h1 (by omega)
    rw [cn_false (by simp), gu_true hin, gu_true hin]
    simp only [wTry, hm, if_true]
    by_cases c1 : w.Has s.toNat = t
    · rw [cn_true (by simpa using c1), if_pos c1]
    rw [cn_false (by simpa using c1), if_neg c1, gu_true hin]
    have hz : (w.Wait s.toNat).getD (Int.toNat 0) default = t ↔ (w.Wait s.toNat = [] ∧ t = 0) ∨ (w.Wait s.toNat).head? = some t := by
      cases w.Wait s.toNat with
      | nil => simp [eq_comm]
      | cons a l => simp
    rw [gu_true (by
      cases hw : w.Wait s.toNat with
      | nil => simp
      | cons a l => rw [inb_t (by omega) (by simp)]; simp)]
    by_cases c2 : w.Has s.toNat < 0 ∧ (w.Wait s.toNat = [] ∨ (w.Wait s.toNat).head? = some t)
    · rw [cn_true (by
        obtain ⟨q1, q2⟩ := c2
        cases hw : w.Wait s.toNat with
        | nil => simp [q1]
        | cons a l =>
          rw [hw] at q2
          have : a = t := by simpa using q2
          simp [q1, this]), if_pos c2, gu_true hin, lt_eq, bd_some (refwithout_eq hn hl), gu_true hin, lt_eq]
    · rw [cn_false (by
        cases hw : w.Wait s.toNat with
        | nil =>
          have : ¬ w.Has s.toNat < 0 := fun h => c2 ⟨h, .inl hw⟩
          simp [this]
        | cons a l =>
          by_cases q1 : w.Has s.toNat < 0
          · have : a ≠ t := fun h => c2 ⟨q1, .inr (by rw [hw, h]; rfl)⟩
            simp [q1, this]; omega
          · simp [q1]), if_neg c2, bd_some (refwithout_eq hn hl)]
      by_cases c3 : t ∈ w.Wait s.toNat
      · rw [cn_false (by
          have : ¬ (((w.Wait s.toNat).filter (· != t)).length = (w.Wait s.toNat).length) := fun h => (filter_len_eq.1 h) c3
          simp only [beq_eq_false_iff_ne, ne_eq]; omega), if_pos c3]
      · have := filter_len_eq.2 c3
        rw [cn_true (by simp only [beq_iff_eq]; omega), if_neg c3, gu_true (apok_t (by simp; omega) (by simp; omega)), lt_eq, gu_true (apok_t (by simp; omega) (by simp; omega)), lt_eq, gu_true hin, lt_eq]
        simp

/-! the program's -/
theorem place_eq {n : Nat} (hn : 40 ≤ n) {l : mark_line} {has : Int} {ws : List Int} (r : RL l has ws) {t : Int} (h0 : 0 ≤ t) (h8 : t < 8) : mark_line_place n l t = some (if t ∈ ws then (ws.idxOf t : Int) else -1) := by
  unfold mark_line_place
  have hl := r.len
  have hlist : (List.range (Int.toNat l.n)).map l.wait = ws := by
    rw [r.nE]
    refine List.ext_getElem (by simp) fun q h1 h2 => ?_
    simp [r.waitE q h2]
  rw [gu_true (inb_t (by rw [r.nE]; omega) (by rw [r.nE]; omega)), hlist, w_u8 h0 (by omega)]
  have key : slices_Index_1151 n ws t = some (if t ∈ ws then (ws.idxOf t : Int) else -1) := by
    unfold slices_Index_1151
    refine loop1_ind (fun (x : Int) => ∃ k : Nat, x = k ∧ k ≤ ws.length ∧ ∀ q (h : q < ws.length), q < k → ws[q] ≠ t) (fun (x : Int) => ((ws.length : Int) - x).toNat) (fun o => o = some (if t ∈ ws then (ws.idxOf t : Int) else -1)) ?_ n 0 ⟨0, rfl, by omega, fun q _ h => absurd h (Nat.not_lt_zero _)⟩ (by omega)
    rintro kk x ⟨k, rfl, hk, hb⟩ ih
    by_cases hc : k < ws.length
    · rw [cn_true (by simp; omega), gu_true (inb_t (by omega) (by omega))]
      have hg : ws.getD (Int.toNat (k : Int)) default = ws[k] := by rw [Int.toNat_natCast, List.getD, List.getElem?_eq_getElem hc]; rfl
      rw [hg]
      by_cases he : t = ws[k]
      · rw [cn_true (by simpa using he)]
        have hm : t ∈ ws := he ▸ List.getElem_mem hc
        have hi := List.getElem_idxOf (List.idxOf_lt_length_of_mem hm)
        have h1 : ¬ ws.idxOf t < k := fun h => hb _ (List.idxOf_lt_length_of_mem hm) h hi
        have h2 : ws.idxOf t = k := by
          have := List.Nodup.idxOf_getElem r.nodup k hc
          rw [← he] at this; exact this
        simp [hm, h2]
      · rw [cn_false (by simpa using he), w_i64 (by omega) (by omega)]
        refine ih _ ⟨k + 1, by omega, by omega, fun q h1 h2 => ?_⟩ (by omega)
        by_cases e : q = k
        · subst e; exact fun h => he h.symm
        · exact hb q h1 (by omega)
    · rw [cn_false (by simp; omega)]
      have hno : t ∉ ws := fun hm => by
        obtain ⟨q, hq, e⟩ := List.getElem_of_mem hm
        exact hb q hq (by omega) e
      simp [hno]
  rw [bd_some key]

theorem without_eq {n : Nat} (hn : 40 ≤ n) {l : mark_line} {has : Int} {ws : List Int} (r : RL l has ws) {t : Int} (h0 : 0 ≤ t) (h8 : t < 8) : ∃ l', mark_line_without n l t = some l' ∧ RL l' has (ws.filter (· != t)) := by
  unfold mark_line_without
  rw [bd_some (place_eq hn r h0 h8)]
  have hl := r.len
  by_cases hm : t ∈ ws
  · simp only [hm, if_true]
    have hi := List.idxOf_lt_length_of_mem hm
    have hlen : (ws.filter (· != t)).length = ws.length - 1 := by
      rw [← List.Nodup.erase_eq_filter r.nodup, List.length_erase_of_mem hm]
    rw [cn_false (by simp), gu_true (inb_t (by omega) (by omega)), w_i64 (x := (ws.idxOf t : Int) + 1) (by omega) (by omega), gu_true (inb_t (by omega) (by omega)), lt_eq, lt_eq]
    simp only [r.nE]
    rw [w_i64 (by omega) (by omega), gu_true (inb_t (by omega) (by omega)), lt_eq]
    refine ⟨_, rfl, r.hasE, r.ran, by rw [hlen]; show (ws.length : Int) - 1 = _; omega, fun q hq => ?_, fun x hx => r.tasks x ((List.mem_filter.1 hx).1), r.nodup.filter _⟩
    rw [hlen] at hq
    have hf : (ws.filter (· != t))[q]'(by rw [hlen]; exact hq) = (ws.eraseIdx (ws.idxOf t))[q]'(by rw [List.length_eraseIdx_of_lt hi]; exact hq) := by
      congr 1
      rw [← List.Nodup.erase_eq_filter r.nodup, List.erase_eq_eraseIdx_of_idxOf rfl]
    rw [hf, List.getElem_eraseIdx]
    simp only [upd_ite, cpA]
    have e1 : Int.toNat ((ws.length : Int) - 1) = ws.length - 1 := by omega
    have e2 : Int.toNat ((ws.idxOf t : Int) + 1) = ws.idxOf t + 1 := by omega
    rw [e1, e2, Int.toNat_natCast, if_neg (by omega)]
    by_cases hq2 : q < ws.idxOf t
    · rw [if_neg (by omega), dif_pos hq2, r.waitE q (by omega)]
    · rw [if_pos (by omega), dif_neg hq2, show q - ws.idxOf t + (ws.idxOf t + 1) = q + 1 by omega, r.waitE (q + 1) (by omega)]
  · simp only [hm, if_false]
    rw [cn_true (by decide)]
    refine ⟨l, rfl, ?_⟩
    have : ws.filter (· != t) = ws := List.filter_eq_self.2 fun x hx => by
      simp only [bne_iff_ne, ne_eq]; rintro rfl; exact hm hx
    rw [this]; exact r

theorem RM.upd {m : mark_Marks} {w : ref15_Marks} (r : RM m w) {i : Nat} {l : mark_line} {h : Int} {ws : List Int} (rl : RL l h ws) : RM { m with slots := upd m.slots i l } { Has := upd w.Has i h, Wait := upd w.Wait i ws } := fun j hj => by
  simp only [upd_ite]
  split
  · exact rl
  · exact r j hj
theorem upd_same {α : Type} (f : Nat → α) (i : Nat) : upd f i (f i) = f := by
  funext j; unfold upd; split
  · rename_i h; rw [h]
  · rfl
theorem free_eq {n : Nat} {m : mark_Marks} {w : ref15_Marks} (r : RM m w) {s t : Int} (ht : -9223372036854775808 ≤ t ∧ t ≤ 9223372036854775807) : ∃ m', mark_Marks_Free n m s t = some m' ∧ RM m' (wFree w s t) := by
  unfold mark_Marks_Free
  have e : mark_may n s t = some (mayB s t) := rfl
  rw [bd_some e]
  cases hm : mayB s t with
  | false => rw [gu_true (by simp), cn_false (by simp)]; exact ⟨m, rfl, by simpa [wFree, hm] using r⟩
  | true =>
    obtain ⟨h1, h2, h3, h4⟩ := mayB_t hm
    have rl := r s.toNat (by omega)
    have hran := rl.ran
    rw [gu_true (by rw [inb_t h1 (by omega)]; simp), rl.hasE, w_i64 (x := w.Has s.toNat + 1) (by omega) (by omega), w_i64 (x := t + 1) (by omega) (by omega)]
    by_cases hh : w.Has s.toNat = t
    · rw [cn_true (by simp [hh]), gu_true (inb_t h1 (by omega)), lt_eq]
      refine ⟨_, rfl, ?_⟩
      have := r.upd (i := s.toNat) (l := { m.slots s.toNat with has := 0 }) (h := -1) (ws := w.Wait s.toNat) ⟨rfl, by omega, rl.nE, rl.waitE, rl.tasks, rl.nodup⟩
      rw [upd_same] at this
      simpa [wFree, hm, hh] using this
    · rw [cn_false (by simp only [Bool.true_and, beq_eq_false_iff_ne, ne_eq]; omega)]
      exact ⟨m, rfl, by simpa [wFree, hm, hh] using r⟩
theorem try_eq {n : Nat} (hn : 40 ≤ n) {m : mark_Marks} {w : ref15_Marks} (r : RM m w) {s t : Int} : ∃ m', mark_Marks_Try n m s t = some (m', (wTry w s t).2) ∧ RM m' (wTry w s t).1 := by
  unfold mark_Marks_Try
  have e : mark_may n s t = some (mayB s t) := rfl
  rw [bd_some e]
  cases hm : mayB s t with
  | false => rw [cn_true (by simp)]; exact ⟨m, by simp [wTry, hm], by simpa [wTry, hm] using r⟩
  | true =>
    obtain ⟨h1, h2, h3, h4⟩ := mayB_t hm
    have rl := r s.toNat (by omega)
    have hran := rl.ran
    have hl := rl.len
    rw [cn_false (by simp), gu_true (inb_t h1 (by omega)), bd_some (place_eq hn rl h3 h4), rl.hasE, rl.nE, w_i64 (x := w.Has s.toNat + 1) (by omega) (by omega), w_i64 (x := t + 1) (by omega) (by omega)]
    simp only [wTry, hm, if_true]
    by_cases c1 : w.Has s.toNat = t
    · rw [cn_true (by simp [c1]), if_pos c1]; exact ⟨m, rfl, r⟩
    rw [cn_false (by simp only [beq_eq_false_iff_ne, ne_eq]; omega), if_neg c1]
    have hhead : ((if t ∈ w.Wait s.toNat then ((w.Wait s.toNat).idxOf t : Int) else -1) == 0) = true ↔ (w.Wait s.toNat).head? = some t := by
      cases hw : w.Wait s.toNat with
      | nil => simp
      | cons a l =>
        by_cases ea : a = t
        · subst ea; simp
        · have h5 : List.idxOf t (a :: l) ≠ 0 := by
            rw [List.idxOf_cons, show (a == t) = false by simpa using ea]; simp
          simp only [List.head?_cons, Option.some.injEq, ea, iff_false, beq_iff_eq]
          split <;> omega
    by_cases c2 : w.Has s.toNat < 0 ∧ (w.Wait s.toNat = [] ∨ (w.Wait s.toNat).head? = some t)
    · rw [cn_true (by
        obtain ⟨q1, q2⟩ := c2
        have e0 : (w.Has s.toNat + 1 == 0) = true := by simp only [beq_iff_eq]; omega
        rcases q2 with q2 | q2
        · rw [e0, q2]; simp
        · rw [e0, hhead.2 q2]; simp), if_pos c2]
      obtain ⟨l', e1, r1⟩ := without_eq hn rl h3 h4
      rw [bd_some e1, lt_eq, lt_eq]
      simp only [upd_at]
      refine ⟨_, rfl, ?_⟩
      have := r.upd (i := s.toNat) (l := { l' with has := wr .u8 (t + 1) }) (h := t) (ws := (w.Wait s.toNat).filter (· != t)) ⟨w_u8 (by omega) (by omega), by omega, r1.nE, r1.waitE, r1.tasks, r1.nodup⟩
      have e3 : Go.Bw.upd (Go.Bw.upd m.slots s.toNat l') s.toNat { l' with has := wr .u8 (t + 1) } = Go.Bw.upd m.slots s.toNat { l' with has := wr .u8 (t + 1) } := by
        funext q; unfold Go.Bw.upd; split <;> rfl
      rw [e3]; exact this
    · rw [cn_false (by
        by_cases q1 : w.Has s.toNat < 0
        · have e1 : ¬ (w.Wait s.toNat = []) := fun h => c2 ⟨q1, .inl h⟩
          have e2 : ((if t ∈ w.Wait s.toNat then ((w.Wait s.toNat).idxOf t : Int) else -1) == 0) = false := by
            rw [Bool.eq_false_iff]; exact fun h => c2 ⟨q1, .inr (hhead.1 h)⟩
          have e3 : (((w.Wait s.toNat).length : Int) == 0) = false := by
            cases hw : w.Wait s.toNat with
            | nil => exact absurd hw e1
            | cons a l => simp; omega
          rw [e2, e3]; simp
        · have : (w.Has s.toNat + 1 == 0) = false := by simp only [beq_eq_false_iff_ne, ne_eq]; omega
          rw [this]; simp), if_neg c2]
      by_cases c3 : t ∈ w.Wait s.toNat
      · rw [cn_false (by simp [c3]), if_pos c3]; exact ⟨m, rfl, r⟩
      · have hlt : (w.Wait s.toNat).length < 8 := by
          have : (t :: w.Wait s.toNat).length ≤ 8 := few (k := 8) (List.nodup_cons.2 ⟨c3, rl.nodup⟩) (fun x hx => by
            rcases List.mem_cons.1 hx with rfl | hx
            · exact ⟨h3, h4⟩
            · exact rl.tasks x hx)
          rw [List.length_cons] at this; omega
        rw [cn_true (by simp [c3]), if_neg c3, gu_true (inb_t (by omega) (by omega)), lt_eq, lt_eq]
        simp only [upd_at, rl.nE, Int.toNat_natCast]
        refine ⟨_, rfl, ?_⟩
        have e3 : ∀ a b : mark_line, Go.Bw.upd (Go.Bw.upd m.slots s.toNat a) s.toNat b = Go.Bw.upd m.slots s.toNat b := fun a b => by
          funext q; unfold Go.Bw.upd; split <;> rfl
        rw [e3, w_i64 (x := ((w.Wait s.toNat).length : Int) + 1) (by omega) (by omega), w_u8 (x := t) (by omega) (by omega)]
        have := r.upd (i := s.toNat) (l := { has := (m.slots s.toNat).has, n := ((w.Wait s.toNat).length : Int) + 1, wait := Go.Bw.upd (m.slots s.toNat).wait (w.Wait s.toNat).length t }) (h := w.Has s.toNat) (ws := w.Wait s.toNat ++ [t])
          ⟨rl.hasE, rl.ran, by simp, fun q hq => by
            simp only [upd_ite]
            by_cases eq : q = (w.Wait s.toNat).length
            · subst eq; simp
            · rw [if_neg eq, List.getElem_append_left (by simp at hq; omega), rl.waitE q (by simp at hq; omega)], fun x hx => by
            rcases List.mem_append.1 hx with hx | hx
            · exact rl.tasks x hx
            · rw [List.mem_singleton.1 hx]; exact ⟨h3, h4⟩, List.nodup_append.2 ⟨rl.nodup, by simp, fun a ha b hb => by
            rw [List.mem_singleton.1 hb]; rintro rfl; exact c3 ha⟩⟩
        rw [upd_same] at this
        exact this

theorem gone_ref {n : Nat} (hn : 40 ≤ n) {m : mark_Marks} {w : ref15_Marks} (r : RM m w) {t : Int} : ref15_Marks_Gone n w t = some (wGone w t) := by
  unfold ref15_Marks_Gone
  have e : ref15_may n 0 t = some (mayB 0 t) := rfl
  by_cases hm : mayB 0 t = true
  · obtain ⟨_, _, h3, h4⟩ := mayB_t hm
    refine loop2_ind (fun (x : Int) (v : ref15_Marks) => ∃ k : Nat, x = k ∧ k ≤ 32 ∧ v = { Has := fun i => if i < k ∧ w.Has i = t then -1 else w.Has i, Wait := fun i => if i < k then (w.Wait i).filter (· != t) else w.Wait i }) (fun (x : Int) _ => (32 - x).toNat) (fun o => o = some (wGone w t)) ?_ n 0 w ⟨0, rfl, by omega, by simp⟩ (by omega)
    rintro kk x v ⟨k, rfl, hk, rfl⟩ ih
    rw [cl_some e]
    by_cases hc : k < 32
    · have hc' : decide ((k : Int) < 32) = true := by simp; omega
      rw [hc', hm, cn_true (by simp), bd_some reffree_eq, gu_true (inb_t (by omega) (by omega))]
      have hmk : mayB k t = true := by simp [mayB]; omega
      have hw : (wFree { Has := fun i => if i < k ∧ w.Has i = t then -1 else w.Has i, Wait := fun i => if i < k then (w.Wait i).filter (· != t) else w.Wait i } k t) = { Has := fun i => if i < k + 1 ∧ w.Has i = t then -1 else w.Has i, Wait := fun i => if i < k then (w.Wait i).filter (· != t) else w.Wait i } := by
        unfold wFree
        simp only [hmk, Bool.true_and, Int.toNat_natCast, Nat.lt_irrefl, false_and, if_false, beq_iff_eq]
        split
        · rename_i he
          congr 1
          funext i
          simp only [upd_ite]
          by_cases ei : i = k
          · subst ei; simp [he]
          · by_cases h2 : i < k
            · simp [ei, h2, show i < k + 1 by omega]
            · simp [ei, h2, show ¬ i < k + 1 by omega]
        · rename_i he
          congr 1
          funext i
          by_cases ei : i = k
          · subst ei; simp [he]
          · by_cases h2 : i < k
            · simp [h2, show i < k + 1 by omega]
            · simp [h2, show ¬ i < k + 1 by omega]
      rw [hw]
      simp only [Int.toNat_natCast, Nat.lt_irrefl, if_false]
      rw [bd_some (refwithout_eq hn (r k hc).len), gu_true (inb_t (by omega) (by omega)), lt_eq, w_i64 (by omega) (by omega)]
      refine ih _ _ ⟨k + 1, by omega, by omega, ?_⟩ (by omega)
      congr 1
      funext i
      simp only [upd_ite]
      by_cases ei : i = k
      · subst ei; simp
      · by_cases h2 : i < k
        · simp [ei, h2, show i < k + 1 by omega]
        · simp [ei, h2, show ¬ i < k + 1 by omega]
    · have hc' : decide ((k : Int) < 32) = false := by simp; omega
      rw [hc', cn_false (by simp)]
      obtain rfl : k = 32 := by omega
      simp [wGone, hm]
  · have hm' : mayB 0 t = false := by simpa using hm
    obtain ⟨n, rfl⟩ : ∃ q, n = q + 1 := ⟨n - 1, by omega⟩
    show cl _ _ _ _ = _
    rw [cl_some e]
    have hc' : decide ((0 : Int) < 32) = true := by decide
    rw [hc', hm', cn_false (by simp)]
    simp [wGone, hm']
theorem RL.clear {l : mark_line} {h : Int} {ws : List Int} (r : RL l h ws) {h' : Int} (a : Int) (ha : a = h' + 1) (hr : -1 ≤ h' ∧ h' < 8) : RL { l with has := a } h' ws := ⟨ha, hr, r.nE, r.waitE, r.tasks, r.nodup⟩
theorem gone_eq {n : Nat} (hn : 40 ≤ n) {m : mark_Marks} {w : ref15_Marks} (r : RM m w) {t : Int} (ht : -9223372036854775808 ≤ t ∧ t ≤ 9223372036854775807) : ∃ m', mark_Marks_Gone n m t = some m' ∧ RM m' (wGone w t) := by
  unfold mark_Marks_Gone
  have hrun : ∀ i, i < 32 → RL (m.slots i) (w.Has i) (w.Wait i) := r
  let W : Nat → ref15_Marks := fun k => if mayB 0 t then { Has := fun i => if i < k ∧ w.Has i = t then -1 else w.Has i, Wait := fun i => if i < k then (w.Wait i).filter (· != t) else w.Wait i } else w
  refine loop2_ind (fun (x : Int) (v : mark_Marks) => ∃ k : Nat, x = k ∧ k ≤ 32 ∧ RM v (W k)) (fun (x : Int) _ => (32 - x).toNat) (fun o => ∃ m', o = some m' ∧ RM m' (wGone w t)) ?_ n 0 m ⟨0, rfl, by omega, by simpa [W] using r⟩ (by omega)
  rintro kk x v ⟨k, rfl, hk, rv⟩ ih
  by_cases hc : k < 32
  · rw [cn_true (by simp; omega)]
    obtain ⟨m1, e1, r1⟩ := free_eq (n := n) rv (s := k) ht
    have e : mark_may n k t = some (mayB k t) := rfl
    rw [bd_some e1, bd_some e]
    by_cases hm : mayB 0 t = true
    · obtain ⟨_, _, h3, h4⟩ := mayB_t hm
      have hmk : mayB k t = true := by simp [mayB]; omega
      rw [cn_true hmk, gu_true (inb_t (by omega) (by omega))]
      have rk := r1 k hc
      rw [Int.toNat_natCast]
      obtain ⟨l', e2, r2⟩ := without_eq hn rk h3 h4
      rw [bd_some e2, gu_true (inb_t (by omega) (by omega)), lt_eq, w_i64 (by omega) (by omega)]
      refine ih _ _ ⟨k + 1, by omega, by omega, fun i hi => ?_⟩ (by omega)
      simp only [upd_ite, Int.toNat_natCast]
      have hf : ∀ j, (wFree (W k) k t).Has j = (W (k + 1)).Has j ∧ (wFree (W k) k t).Wait j = (W k).Wait j := fun j => by
        simp only [W, hm, if_true, wFree, hmk, Bool.true_and, Int.toNat_natCast, beq_iff_eq, Nat.lt_irrefl, false_and, if_false]
        by_cases he : w.Has k = t
        · simp only [he, if_true, upd_ite, and_true]
          by_cases ej : j = k
          · subst ej; simp [he]
          · by_cases h2 : j < k
            · simp [ej, h2, show j < k + 1 by omega]
            · simp [ej, h2, show ¬ j < k + 1 by omega]
        · simp only [he, if_false, and_true]
          by_cases ej : j = k
          · subst ej; simp [he]
          · by_cases h2 : j < k
            · simp [h2, show j < k + 1 by omega]
            · simp [h2, show ¬ j < k + 1 by omega]
      by_cases ei : i = k
      · subst ei
        rw [if_pos rfl]
        have h5 : (W (i + 1)).Wait i = ((wFree (W i) i t).Wait i).filter (· != t) := by rw [(hf i).2]; simp [W, hm]
        rw [← (hf i).1, h5]; exact r2
      · rw [if_neg ei]
        have h6 : (W (k + 1)).Wait i = (W k).Wait i := by
          simp only [W, hm, if_true]
          by_cases h2 : i < k
          · simp [h2, show i < k + 1 by omega]
          · simp [h2, show ¬ i < k + 1 by omega]
        have := r1 i hi
        rw [(hf i).1, (hf i).2] at this
        rw [h6]; exact this
    · have hm' : mayB 0 t = false := by simpa using hm
      have hmk : mayB k t = false := by
        cases h : mayB k t with
        | false => rfl
        | true => have := mayB_t h; exact absurd (show mayB 0 t = true by simp [mayB]; omega) hm
      rw [cn_false hmk, w_i64 (by omega) (by omega)]
      refine ih _ _ ⟨k + 1, by omega, by omega, ?_⟩ (by omega)
      have : wFree (W k) k t = W (k + 1) := by simp [wFree, hmk, W, hm']
      rw [← this]; exact r1
  · rw [cn_false (by simp; omega)]
    obtain rfl : k = 32 := by omega
    exact ⟨v, rfl, rv⟩

/-! what is told of them -/
theorem holder_eq {n : Nat} {m : mark_Marks} {w : ref15_Marks} (r : RM m w) {i : Int} (h0 : 0 ≤ i) (h1 : i < 32) : mark_Marks_Holder n m i = some (if 0 ≤ w.Has i.toNat then w.Has i.toNat else 0, decide (0 ≤ w.Has i.toNat)) := by
  unfold mark_Marks_Holder
  have rl := r i.toNat (by omega)
  have hr := rl.ran
  have e : mark_may n i 0 = some true := by show some (mayB i 0) = _; simp [mayB, h0, h1]
  rw [bd_some e, gu_true (by rw [inb_t h0 (by omega)]; simp), rl.hasE]
  by_cases hh : 0 ≤ w.Has i.toNat
  · rw [cn_false (by simp; omega), gu_true (inb_t h0 (by omega)), w_i64 (x := w.Has i.toNat + 1) (by omega) (by omega), w_i64 (by omega) (by omega), if_pos hh, decide_eq_true hh, show w.Has i.toNat + 1 - 1 = w.Has i.toNat by omega]
  · rw [cn_true (by simp; omega), if_neg hh, decide_eq_false hh]
theorem holder_out {n : Nat} {m : mark_Marks} {i : Int} (h : i < 0 ∨ 32 ≤ i) : mark_Marks_Holder n m i = some (0, false) := by
  unfold mark_Marks_Holder
  have e : mark_may n i 0 = some false := by show some (mayB i 0) = _; simp [mayB]; omega
  rw [bd_some e, gu_true (by simp), cn_true (by simp)]
theorem waiting_eq {n : Nat} (hn : 40 ≤ n) {m : mark_Marks} {w : ref15_Marks} (r : RM m w) {i : Int} (h0 : 0 ≤ i) (h1 : i < 32) : mark_Marks_Waiting n m i = some (w.Wait i.toNat) := by
  unfold mark_Marks_Waiting
  have rl := r i.toNat (by omega)
  have hl := rl.len
  have hin : inb i 32 = true := inb_t h0 (by omega)
  have e : mark_may n i 0 = some true := by show some (mayB i 0) = _; simp [mayB, h0, h1]
  rw [bd_some e, cn_false (by simp), gu_true hin]
  refine loop2_ind (fun (l : List Int) (x : Int) => ∃ k : Nat, x = k ∧ k ≤ (w.Wait i.toNat).length ∧ l = (w.Wait i.toNat).take k) (fun _ (x : Int) => (9 - x).toNat) (fun o => o = some (w.Wait i.toNat)) ?_ n [] 0 ⟨0, rfl, by omega, by simp⟩ (by omega)
  rintro kk l x ⟨k, rfl, hk, rfl⟩ ih
  rw [rl.nE]
  by_cases hc : k < (w.Wait i.toNat).length
  · rw [cn_true (by simp; omega), gu_true hin, gu_true (inb_t (by omega) (by omega)), gu_true (apok_t (by rw [List.length_take]; omega) (by rw [List.length_take]; omega)), lt_eq, Int.toNat_natCast, rl.waitE k hc]
    have hx := rl.tasks _ (List.getElem_mem hc)
    rw [w_i64 (by omega) (by omega), w_i64 (by omega) (by omega)]
    exact ih _ _ ⟨k + 1, by omega, by omega, (List.take_succ_eq_append_getElem hc).symm⟩ (by omega)
  · rw [cn_false (by simp; omega)]
    obtain rfl : k = (w.Wait i.toNat).length := by omega
    rw [List.take_length]
theorem waiting_out {n : Nat} {m : mark_Marks} {i : Int} (h : i < 0 ∨ 32 ≤ i) : mark_Marks_Waiting n m i = some [] := by
  unfold mark_Marks_Waiting
  have e : mark_may n i 0 = some false := by show some (mayB i 0) = _; simp [mayB]; omega
  rw [bd_some e, cn_true (by simp)]
def heldL (w : ref15_Marks) (t : Int) : Nat → List Int
  | 0 => []
  | k + 1 => heldL w t k ++ (if w.Has k = t then [(k : Int)] else [])
theorem heldL_len (w : ref15_Marks) (t : Int) (k : Nat) : (heldL w t k).length ≤ k := by
  induction k with
  | zero => simp [heldL]
  | succ k ih => simp only [heldL, List.length_append]; split <;> simp <;> omega
theorem held_eq {n : Nat} (hn : 40 ≤ n) {m : mark_Marks} {w : ref15_Marks} (r : RM m w) {t : Int} (ht : 0 ≤ t) : mark_Marks_Held n m t = some (heldL w t 32) := by
  unfold mark_Marks_Held
  refine loop2_ind (fun (l : List Int) (x : Int) => ∃ k : Nat, x = k ∧ k ≤ 32 ∧ l = heldL w t k) (fun _ (x : Int) => (32 - x).toNat) (fun o => o = some (heldL w t 32)) ?_ n [] 0 ⟨0, rfl, by omega, rfl⟩ (by omega)
  rintro kk l x ⟨k, rfl, hk, rfl⟩ ih
  have hl := heldL_len w t k
  by_cases hc : k < 32
  · rw [cn_true (by simp; omega), bd_some (holder_eq r (by omega) (by omega)), Int.toNat_natCast, w_i64 (by omega) (by omega)]
    by_cases he : w.Has k = t
    · rw [cn_true (by simp [he, ht]), gu_true (apok_t (by omega) (by omega)), lt_eq]
      exact ih _ _ ⟨k + 1, by omega, by omega, by simp [heldL, he]⟩ (by omega)
    · rw [cn_false (by
        by_cases h2 : 0 ≤ w.Has k
        · simp [h2, he]
        · simp [h2])]
      exact ih _ _ ⟨k + 1, by omega, by omega, by simp [heldL, he]⟩ (by omega)
  · rw [cn_false (by simp; omega)]
    obtain rfl : k = 32 := by omega
    rfl
theorem row_same {n : Nat} (hn : 40 ≤ n) {l : List Int} (hl : l.length ≤ 32) : law15_row n l l = some true := by
  unfold law15_row
  rw [cn_false (by simp)]
  refine loop1_ind (fun (x : Int) => 0 ≤ x ∧ x ≤ l.length) (fun (x : Int) => ((l.length : Int) - x).toNat) (fun o => o = some true) ?_ n 0 ⟨by omega, by omega⟩ (by omega)
  rintro kk x ⟨x0, x1⟩ ih
  by_cases hc : x < l.length
  · rw [cn_true (by simpa using hc), gu_true (inb_t x0 hc), gu_true (inb_t x0 hc), cn_false (by simp), w_i64 (by omega) (by omega)]
    exact ih _ ⟨by omega, by omega⟩ (by omega)
  · rw [cn_false (by simpa using hc)]
theorem same15 {n : Nat} (hn : 40 ≤ n) {m : mark_Marks} {w : ref15_Marks} (r : RM m w) : law15_same n m w = some true := by
  unfold law15_same
  refine loop1_ind (fun (x : Int) => 0 ≤ x ∧ x ≤ 32) (fun (x : Int) => (32 - x).toNat) (fun o => o = some true) ?_ n 0 ⟨by omega, by omega⟩ (by omega)
  rintro kk x ⟨x0, x1⟩ ih
  by_cases hc : x < 32
  · have hin : inb x 32 = true := inb_t x0 (by omega)
    have rl := r x.toNat (by omega)
    have hl := rl.len
    rw [cn_true (by simpa using hc), bd_some (holder_eq r x0 hc), gu_true hin, gu_true (by rw [hin]; simp), cl_some (waiting_eq hn r x0 hc), gu_true (by rw [hin]; simp)]
    have hcond : (((decide (0 ≤ w.Has x.toNat) != decide (0 ≤ w.Has x.toNat)) || (decide (0 ≤ w.Has x.toNat) && ((if 0 ≤ w.Has x.toNat then w.Has x.toNat else 0) != w.Has x.toNat))) || ((!decide (0 ≤ w.Has x.toNat)) && ((if 0 ≤ w.Has x.toNat then w.Has x.toNat else 0) != 0))) = false := by
      by_cases h2 : 0 ≤ w.Has x.toNat <;> simp [h2]
    simp only [hcond, beq_self_eq_true, cond_true]
    rw [cl_some (row_same hn (by omega)), cn_false (by simp), w_i64 (by omega) (by omega)]
    exact ih _ ⟨by omega, by omega⟩ (by omega)
  · rw [cn_false (by simpa using hc)]
    refine loop1_ind (fun (x : Int) => 0 ≤ x ∧ x ≤ 8) (fun (x : Int) => (8 - x).toNat) (fun o => o = some true) ?_ n 0 ⟨by omega, by omega⟩ (by omega)
    rintro k2 t ⟨t0, t1⟩ ih2
    by_cases hc2 : t < 8
    · rw [cn_true (by simpa using hc2)]
      refine loop2_ind (fun (l : List Int) (x : Int) => ∃ k : Nat, x = k ∧ k ≤ 32 ∧ l = heldL w t k) (fun _ (x : Int) => (32 - x).toNat) (fun o => o = some true) ?_ n [] 0 ⟨0, rfl, by omega, rfl⟩ (by omega)
      rintro k3 l x ⟨k, rfl, hk, rfl⟩ ih3
      have hl := heldL_len w t k
      by_cases hc3 : k < 32
      · rw [cn_true (by simp; omega), gu_true (inb_t (by omega) (by omega)), Int.toNat_natCast, w_i64 (by omega) (by omega)]
        by_cases he : w.Has k = t
        · rw [cn_true (by simp [he]), gu_true (apok_t (by omega) (by omega)), lt_eq]
          exact ih3 _ _ ⟨k + 1, by omega, by omega, by simp [heldL, he]⟩ (by omega)
        · rw [cn_false (by simp [he])]
          exact ih3 _ _ ⟨k + 1, by omega, by omega, by simp [heldL, he]⟩ (by omega)
      · rw [cn_false (by simp; omega)]
        obtain rfl : k = 32 := by omega
        rw [bd_some (held_eq hn r t0), bd_some (row_same hn hl), cn_false (by simp), w_i64 (by omega) (by omega)]
        exact ih2 _ ⟨by omega, by omega⟩ (by omega)
    · rw [cn_false (by simpa using hc2), bd_some (holder_out (.inl (by decide))), bd_some (holder_out (.inr (by decide))), cl_some (waiting_out (.inl (by decide))), cl_some (waiting_out (.inr (by decide)))]
      simp
theorem zero_RM : RM Z_mark_Marks { Has := fun _ => -1, Wait := fun _ => [] } := fun i _ => ⟨rfl, ⟨by show (-1 : Int) ≤ -1; decide, by show (-1 : Int) < 8; decide⟩, rfl, fun q h => absurd h (Nat.not_lt_zero _), (fun x hx => by cases hx), List.nodup_nil⟩
theorem new_eq {n : Nat} (hn : 40 ≤ n) : ∃ w, ref15_New n = some w ∧ RM Z_mark_Marks w := by
  unfold ref15_New
  refine loop2_ind (fun (x : Int) (v : ref15_Marks) => ∃ k : Nat, x = k ∧ k ≤ 32 ∧ (∀ i, i < k → v.Has i = -1) ∧ ∀ i, v.Wait i = []) (fun (x : Int) _ => (32 - x).toNat) (fun o => ∃ w, o = some w ∧ RM Z_mark_Marks w) ?_ n 0 _ ⟨0, rfl, by omega, fun i h => absurd h (Nat.not_lt_zero _), fun i => rfl⟩ (by omega)
  rintro kk x v ⟨k, rfl, hk, h1, h2⟩ ih
  by_cases hc : k < 32
  · rw [cn_true (by simp; omega), gu_true (inb_t (by omega) (by omega)), lt_eq, w_i64 (by omega) (by omega)]
    refine ih _ _ ⟨k + 1, by omega, by omega, fun i hi => ?_, h2⟩ (by omega)
    simp only [upd_ite, Int.toNat_natCast]
    split
    · rfl
    · exact h1 i (by omega)
  · rw [cn_false (by simp; omega)]
    obtain rfl : k = 32 := by omega
    refine ⟨v, rfl, fun i hi => ?_⟩
    rw [h1 i hi, h2 i]
    exact zero_RM i hi

theorem marks_true {l : List law15_Act} (hl : ∀ a ∈ l, (0 ≤ a.Do ∧ a.Do ≤ 255) ∧ (-9223372036854775808 ≤ a.Slot ∧ a.Slot ≤ 9223372036854775807) ∧ (-9223372036854775808 ≤ a.Task ∧ a.Task ≤ 9223372036854775807)) : law15_MarkPlays 1000 l = some true := by
  unfold law15_MarkPlays
  by_cases hc : decide (200 < (l.length : Int)) = true
  · rw [cn_true hc, bd_some wakes15]
  rw [cn_false (by simpa using hc)]
  simp only [decide_eq_true_eq] at hc
  obtain ⟨w0, e0, r0⟩ := new_eq (n := 1000) (by omega)
  rw [bd_some e0]
  refine loop5_ind (fun (x : Int) (was w : ref15_Marks) (half m : mark_Marks) => 0 ≤ x ∧ x ≤ l.length ∧ RM half was ∧ RM m w) (fun (x : Int) _ _ _ _ => ((l.length : Int) - x).toNat) (fun o => o = some true) ?_ 1000 0 w0 w0 _ _ ⟨by omega, by omega, r0, r0⟩ (by omega)
  rintro kk x was w half m ⟨x0, x1, rh, r⟩ ih
  by_cases hx : x < l.length
  · rw [cn_true (by simpa using hx), gu_true (inb_t x0 hx), lt_eq, lt_eq]
    have hm : l.getD x.toNat default ∈ l := by
      rw [List.getD, List.getElem?_eq_getElem (show x.toNat < l.length by omega)]; exact List.getElem_mem _
    obtain ⟨⟨a0, a1⟩, ⟨b0, b1⟩, c0⟩ := hl _ hm
    generalize l.getD x.toNat default = a at *
    have next : ∀ (w' : ref15_Marks) (m' : mark_Marks), RM m' w' → cn ((x == (wr .i64 (Int.tdiv (l.length : Int) 2)))) (kk (wr .i64 (x + 1)) w' w' m' m') (kk (wr .i64 (x + 1)) was w' half m') = some true := by
      intro w' m' r'
      rw [w_i64 (x := x + 1) (by omega) (by omega)]
      cases hcc : (x == (wr .i64 (Int.tdiv (l.length : Int) 2))) with
      | true => exact ih _ _ _ _ _ ⟨by omega, by omega, r', r'⟩ (by omega)
      | false => exact ih _ _ _ _ _ ⟨by omega, by omega, rh, r'⟩ (by omega)
    by_cases h0 : a.Do = 0
    · rw [cn_true (by simpa using h0)]
      obtain ⟨m', e1, r'⟩ := free_eq (n := 1000) r (s := a.Slot) c0
      rw [bd_some e1, bd_some reffree_eq]
      exact next _ _ r'
    · rw [cn_false (by simpa using h0)]
      by_cases h1 : a.Do = 1
      · rw [cn_true (by simpa using h1)]
        obtain ⟨m', e1, r'⟩ := gone_eq (n := 1000) (by omega) r c0
        rw [bd_some e1, bd_some (gone_ref (by omega) r)]
        exact next _ _ r'
      · rw [cn_false (by simpa using h1)]
        obtain ⟨m', e1, r'⟩ := try_eq (n := 1000) (by omega) r (s := a.Slot) (t := a.Task)
        rw [bd_some e1, bd_some (reftry_eq (by omega) r), cn_false (by simp)]
        exact next _ _ r'
  · rw [cn_false (by simpa using hx), bd_some (same15 (by omega) r), cl_some (same15 (by omega) rh), cl_some wakes15]
    cases h : ((l.length : Int) == 0) <;> simp
end Go.Proofs.Ytcdnmiianjaglaa
