/- Lend: the program's and the document's. -/
import Derived.Test.YtcdnmiianjaglaaL09
namespace Go.Proofs.Ytcdnmiianjaglaa
open Go Go.Bw

theorem ex_slot {b : handle_Book} {w : ref03_Book} (r : RB b w) {p : Nat → Prop} : (∃ x, goodS w x ∧ p (slN x)) ↔ ∃ i, i < 32 ∧ w.Is i = 1 ∧ p i := by
  constructor
  · rintro ⟨x, hx, hp⟩
    exact ⟨slN x, slN_lt x, (good_slot hx.2).2.1, hp⟩
  · rintro ⟨i, hi, h1, hp⟩
    have hr := r.ran i hi
    obtain ⟨q1, q2, q3, q4, q5⟩ := sl_hof (i := i) (g := w.Gen i) (by omega) (by omega) hr.1 hr.2
    have hs : slN (hofI i (w.Gen i)) = i := by unfold slN; rw [q2]; rfl
    have hs' : (slI (hofI i (w.Gen i))).toNat = i := hs
    exact ⟨hofI i (w.Gen i), ⟨by omega, goodW_iff.2 ⟨q1, by rw [hs']; exact h1, by rw [hs', q3]⟩⟩, by rw [hs]; exact hp⟩
/-- the good handle of a slot -/
theorem hof_good {b : handle_Book} {w : ref03_Book} (r : RB b w) {i : Nat} (hi : i < 32) (h1 : w.Is i = 1) : goodS w (hofI i (w.Gen i)) ∧ slN (hofI i (w.Gen i)) = i ∧ 0 < hofI i (w.Gen i) ∧ hofI i (w.Gen i) < 4294967296 := by
  have hr := r.ran i hi
  obtain ⟨q1, q2, q3, q4, q5⟩ := sl_hof (i := i) (g := w.Gen i) (by omega) (by omega) hr.1 hr.2
  have hs : slN (hofI i (w.Gen i)) = i := by unfold slN; rw [q2]; rfl
  have hs' : (slI (hofI i (w.Gen i))).toNat = i := hs
  exact ⟨⟨by omega, goodW_iff.2 ⟨q1, by rw [hs']; exact h1, by rw [hs', q3]⟩⟩, hs, q4, q5⟩
theorem good_hof {w : ref03_Book} {x : Int} (h : goodS w x) : hofI (slN x) (w.Gen (slN x)) = x := by
  obtain ⟨g1, g2, g3⟩ := good_slot h.2
  rw [g3, slN_int, hof_sl h.1 g1]
theorem refright_eq {n : Nat} {k : token_Tokens} {w : ref09_Tokens} (r : RT k w) {i : Nat} (hi : i < 32) (g a : Int) : ref09_Tokens_right n w i g a = some ((w.B.Is i == 1) && rightB k g a i) := by
  unfold ref09_Tokens_right
  have hin : inb (i : Int) 32 = true := inb_t (by omega) (by omega)
  rw [hin, gu_true rfl, gu_true (by simp), gu_true (by simp), Int.toNat_natCast]
  by_cases h1 : w.B.Is i = 1
  · rw [(r.tok i (r.lt16 hi h1) h1).1]
    simp [h1, rightB, ofT]
  · have : (w.B.Is i == 1) = false := by simpa using h1
    simp [this]
theorem mutT {k : token_Tokens} {w : ref09_Tokens} (r : RT k w) {i : Nat} (hi : i < 32) (h1 : w.B.Is i = 1) : (w.T i).Mutable = (k.slots i).Mutable := by
  rw [(r.tok i (r.lt16 hi h1) h1).1]; rfl
theorem okA_slot {k : token_Tokens} {w : ref09_Tokens} {a : Int} : ((a == 0) || decide (0 ≤ (bif (a == 0) == false then (if goodW w.B a = true then slI a else -1) else default))) = okA w a := by
  unfold okA
  have := slI_ran a
  cases h : a == 0 with
  | true => rfl
  | false =>
    cases hg : goodW w.B a with
    | true => simp; omega
    | false => simp
theorem refreads_eq {n : Nat} (hn : 40 ≤ n) {k : token_Tokens} {w : ref09_Tokens} (r : RT k w) (g : Int) {a : Int} (h0 : 0 ≤ a) : ref09_Tokens_Reads n w g a = some (readsV k w g a) := by
  unfold ref09_Tokens_Reads
  refine loop1_ind (fun (i : Int) => 0 ≤ i ∧ i ≤ 32 ∧ ∀ j : Nat, (j : Int) < i → ¬ (w.B.Is j = 1 ∧ rightB k g a j = true ∧ (k.slots j).Mutable = true)) (fun i => (32 - i).toNat) (fun o => o = some (readsV k w g a)) ?_ n 0 ⟨by omega, by omega, fun j hj => by omega⟩ (by omega)
  rintro kk i ⟨i0, i1, hno⟩ ih
  obtain ⟨i, rfl⟩ := Int.eq_ofNat_of_zero_le i0
  have hm := anyMut_iff r (g := g) (a := a)
  rw [ex_slot r.book (p := fun i => rightB k g a i = true ∧ (k.slots i).Mutable = true)] at hm
  by_cases c : i < 32
  · rw [cn_true (by simp; omega), bd_some (refright_eq r c g a), gu_true (by rw [inb_t (by omega) (by omega)]; simp), Int.toNat_natCast]
    by_cases h1 : w.B.Is i = 1
    · rw [mutT r c h1]
      by_cases h2 : (rightB k g a i && (k.slots i).Mutable) = true
      · rw [cn_true (by simp [h1]; simpa using h2)]
        rw [Bool.and_eq_true] at h2
        unfold readsV
        rw [hm.2 ⟨i, c, h1, h2.1, h2.2⟩]; simp
      · rw [cn_false (by simpa [h1] using h2), w_i64 (by omega) (by omega)]
        refine ih _ ⟨by omega, by omega, fun j hj hh => ?_⟩ (by omega)
        by_cases e : j = i
        · subst e; exact h2 (by rw [hh.2.1, hh.2.2]; rfl)
        · exact hno j (by omega) hh
    · rw [cn_false (by simp [h1]), w_i64 (by omega) (by omega)]
      refine ih _ ⟨by omega, by omega, fun j hj hh => ?_⟩ (by omega)
      by_cases e : j = i
      · subst e; exact h1 hh.1
      · exact hno j (by omega) hh
  · rw [cn_false (by simp; omega), cl_some (refslot_eq hn r.book h0), okA_slot (k := k)]
    have : anyMut k g a (issuedL w.B 32) = false := by
      cases h : anyMut k g a (issuedL w.B 32) with
      | false => rfl
      | true => obtain ⟨j, j1, j2, j3⟩ := hm.1 h; exact absurd ⟨j2, j3⟩ (hno j (by omega))
    unfold readsV
    rw [this]; simp
theorem refwrites_eq {n : Nat} (hn : 40 ≤ n) {k : token_Tokens} {w : ref09_Tokens} (r : RT k w) (g : Int) {a : Int} (h0 : 0 ≤ a) : ref09_Tokens_Writes n w g a = some (writesV k w g a) := by
  unfold ref09_Tokens_Writes
  refine loop1_ind (fun (i : Int) => 0 ≤ i ∧ i ≤ 32 ∧ ∀ j : Nat, (j : Int) < i → ¬ (w.B.Is j = 1 ∧ rightB k g a j = true)) (fun i => (32 - i).toNat) (fun o => o = some (writesV k w g a)) ?_ n 0 ⟨by omega, by omega, fun j hj => by omega⟩ (by omega)
  rintro kk i ⟨i0, i1, hno⟩ ih
  obtain ⟨i, rfl⟩ := Int.eq_ofNat_of_zero_le i0
  have hm := someR_iff r (g := g) (a := a)
  rw [ex_slot r.book (p := fun i => rightB k g a i = true)] at hm
  by_cases c : i < 32
  · rw [cn_true (by simp; omega), bd_some (refright_eq r c g a)]
    by_cases h2 : ((w.B.Is i == 1) && rightB k g a i) = true
    · rw [cn_true h2]
      rw [Bool.and_eq_true, beq_iff_eq] at h2
      unfold writesV
      rw [hm.2 ⟨i, c, h2.1, h2.2⟩]; simp
    · rw [cn_false (by simpa using h2), w_i64 (by omega) (by omega)]
      refine ih _ ⟨by omega, by omega, fun j hj hh => ?_⟩ (by omega)
      by_cases e : j = i
      · subst e; exact h2 (by rw [hh.1, hh.2]; rfl)
      · exact hno j (by omega) hh
  · rw [cn_false (by simp; omega), cl_some (refslot_eq hn r.book h0), okA_slot (k := k)]
    have : someR k w g a = false := by
      cases h : someR k w g a with
      | false => rfl
      | true => obtain ⟨j, j1, j2⟩ := hm.1 h; exact absurd j2 (hno j (by omega))
    unfold writesV
    rw [this]; simp

/-- what is wrong with a token that is to be -/
def mayV (k : token_Tokens) (w : ref09_Tokens) (x : token_Token) : Int :=
  bif !okA w x.Above then 4
  else bif (((decide (8 ≤ x.By) || decide (8 ≤ x.To)) || (x.By == x.To)) || (x.Region == 0)) then 2
  else bif ((x.Above != 0) && ((((k.slots (slN x.Above)).Region != x.Region) || ((k.slots (slN x.Above)).To != x.By)) || (x.Mutable && (!(k.slots (slN x.Above)).Mutable)))) then 12
  else bif (anyMut k x.Region x.Above (issuedL w.B 32) || (x.Mutable && someR k w x.Region x.Above)) then 5
  else 0
theorem someR_len {k : token_Tokens} {w : ref09_Tokens} {g a : Int} : decide (0 < ((thoseL w.B (rightB k g a) 32).length : Int)) = someR k w g a := by
  unfold someR
  cases thoseL w.B (rightB k g a) 32 <;> simp
theorem may9_eq {n : Nat} (hn : 40 ≤ n) {k : token_Tokens} {w : ref09_Tokens} (r : RT k w) {x : token_Token} (hx : TokR x) : token_Tokens_may n k x = some (mayV k w x) := by
  unfold token_Tokens_may
  obtain ⟨a0, a1⟩ := hx.above
  rw [bd_some (get_eq r a0 a1), bd_some (right_eq hn r x.Region x.Above), bd_some (good9_eq r a0 a1)]
  unfold mayV
  dsimp only
  rw [someR_len]
  cases ho : okA w x.Above with
  | false => rw [cn_true (b := !false) rfl, Bool.not_false, cond_true]
  | true =>
    rw [cn_false (b := !true) rfl, Bool.not_true, cond_false]
    cases h2 : (((decide (8 ≤ x.By) || decide (8 ≤ x.To)) || (x.By == x.To)) || (x.Region == 0)) with
    | true => rw [cn_true rfl, cond_true]
    | false =>
      rw [cn_false rfl, cond_false]
      have e3 : ((x.Above != 0) && ((((if goodW w.B x.Above = true then (k.slots (slN x.Above), (0 : Int)) else ((⟨0, 0, 0, false, 0⟩ : token_Token), 4)).1.Region != x.Region) || ((if goodW w.B x.Above = true then (k.slots (slN x.Above), (0 : Int)) else ((⟨0, 0, 0, false, 0⟩ : token_Token), 4)).1.To != x.By)) || (x.Mutable && (!(if goodW w.B x.Above = true then (k.slots (slN x.Above), (0 : Int)) else ((⟨0, 0, 0, false, 0⟩ : token_Token), 4)).1.Mutable)))) =
          ((x.Above != 0) && ((((k.slots (slN x.Above)).Region != x.Region) || ((k.slots (slN x.Above)).To != x.By)) || (x.Mutable && (!(k.slots (slN x.Above)).Mutable)))) := by
        by_cases h0 : x.Above = 0
        · simp [h0]
        · have : goodW w.B x.Above = true := by
            unfold okA at ho
            rw [Bool.or_eq_true] at ho
            exact ho.resolve_left (by simpa using h0)
          rw [if_pos this]
      rw [e3]
      cases h3 : ((x.Above != 0) && ((((k.slots (slN x.Above)).Region != x.Region) || ((k.slots (slN x.Above)).To != x.By)) || (x.Mutable && (!(k.slots (slN x.Above)).Mutable)))) with
      | true => rw [cn_true rfl, cond_true]
      | false =>
        rw [cn_false rfl, cond_false]
        cases h4 : (anyMut k x.Region x.Above (issuedL w.B 32) || (x.Mutable && someR k w x.Region x.Above)) with
        | true => rw [cn_true rfl, cond_true]
        | false => rw [cn_false rfl, cond_false]

theorem RT.first {k : token_Tokens} {w : ref09_Tokens} (r : RT k w) {f : Nat} (hf : First w.B f) : f ≤ 16 := by
  rcases Nat.lt_or_ge 16 f with h | h
  · exact absurd (r.hi 16 (Nat.le_refl _) (by decide)) (hf.2.1 16 h)
  · exact h
/-- what Lend answers, and what is there then -/
structure LD (k : token_Tokens) (w : ref09_Tokens) (x : token_Token) (k' : token_Tokens) (w' : ref09_Tokens) (m e : Int) : Prop where
  bad : e ≠ 0 → k' = k ∧ w' = w ∧ m = 0
  good : e = 0 → ∃ f, First w.B f ∧ f < 16 ∧ k'.slots = upd k.slots f x ∧ w' = ⟨issueW w.B f, upd w.T f (ofT x)⟩ ∧ RB k'.book (issueW w.B f) ∧ m = hofI f (w.B.Gen f) ∧ mayV k w x = 0
theorem issueW_gen (w : ref03_Book) (f : Nat) : (issueW w f).Gen = w.Gen := rfl
theorem lend_eq {n : Nat} (hn : 40 ≤ n) {k : token_Tokens} {w : ref09_Tokens} (r : RT k w) {x : token_Token} (hx : TokR x) :
    ∃ k' w' m e, token_Tokens_Lend n k x = some (k', m, e) ∧ ref09_Tokens_Lend n w (ofT x) = some (w', m, e) ∧ LD k w x k' w' m e := by
  obtain ⟨a0, a1⟩ := hx.above
  obtain ⟨f, hf⟩ := first_ex w.B
  have hf16 := r.first hf
  have hr := r.book.ran f (by omega)
  obtain ⟨q1, q2, q3, q4, q5⟩ := sl_hof (i := f) (g := w.B.Gen f) (by omega) (by omega) hr.1 hr.2
  obtain ⟨b', i1, i2⟩ := issue_eq (n := n) hn r.book hf
  simp only [show f < 32 by omega, if_true, decide_true] at i1 i2
  -- the program
  have hP : token_Tokens_Lend n k x = some (if mayV k w x ≠ 0 then (k, 0, mayV k w x) else if f < 16 then ({ book := b', slots := upd k.slots f x }, hofI f (w.B.Gen f), 0) else (k, 0, 7)) := by
    unfold token_Tokens_Lend
    rw [bd_some (may9_eq hn r hx)]
    by_cases hm : mayV k w x = 0
    · rw [cn_false (by simp [hm]), if_neg (by simp [hm]), bd_some i1]
      dsimp only
      rw [bd_some (slot_eq (by omega) q5), q2, q1]
      by_cases h16 : f < 16
      · rw [cn_false (by simp; omega), lt_eq, gu_true (inb_t (by dsimp only; omega) (by dsimp only; omega)), lt_eq, if_pos h16]; rfl
      · rw [cn_true (by simp; omega), if_neg h16]
    · rw [cn_true (by simpa using hm), if_pos hm]
  -- the document
  have hR : ref09_Tokens_Lend n w (ofT x) = some (if mayV k w x ≠ 0 then (w, 0, mayV k w x) else if f < 16 then (⟨issueW w.B f, upd w.T f (ofT x)⟩, hofI f (w.B.Gen f), 0) else (w, 0, 7)) := by
    unfold ref09_Tokens_Lend
    show cl ((x.Above != 0) == true) (ref03_Book_Slot n w.B x.Above) default _ = _
    have hsl := slI_ran x.Above
    rw [cl_some (refslot_eq hn r.book a0)]
    have e1 : ((ofT x).Above != 0 && decide ((bif ((x.Above != 0) == true) then (if goodW w.B x.Above = true then slI x.Above else -1) else default) < 0)) = !okA w x.Above := by
      show (x.Above != 0 && _) = _
      unfold okA
      by_cases h0 : x.Above = 0
      · simp [h0]
      · have h1 : (x.Above != 0) = true := by simpa using h0
        have h2 : (x.Above == 0) = false := by simpa using h0
        rw [h1, h2]
        cases goodW w.B x.Above with
        | true => simp; omega
        | false => rfl
    rw [e1]
    unfold mayV
    cases ho : okA w x.Above with
    | false => rw [cn_true (b := !false) rfl, Bool.not_false, cond_true, if_pos (by decide)]
    | true =>
      rw [cn_false (b := !true) rfl, Bool.not_true, cond_false]
      have e2 : (((decide (7 < (ofT x).By) || decide (7 < (ofT x).To)) || ((ofT x).By == (ofT x).To)) || ((ofT x).Region == 0)) = (((decide (8 ≤ x.By) || decide (8 ≤ x.To)) || (x.By == x.To)) || (x.Region == 0)) := by
        have p1 : decide (7 < (ofT x).By) = decide (8 ≤ x.By) := decide_eq_decide.2 (by show 7 < x.By ↔ _; omega)
        have p2 : decide (7 < (ofT x).To) = decide (8 ≤ x.To) := decide_eq_decide.2 (by show 7 < x.To ↔ _; omega)
        rw [p1, p2]; rfl
      rw [e2]
      cases h2 : (((decide (8 ≤ x.By) || decide (8 ≤ x.To)) || (x.By == x.To)) || (x.Region == 0)) with
      | true => rw [cn_true rfl, cond_true, if_pos (by decide)]
      | false =>
        rw [cn_false rfl, cond_false, lt_eq]
        have hrest : (bd (ref09_Tokens_Reads n w (ofT x).Region (ofT x).Above) fun x27 =>
            cl (((!x27) == false) && ((ofT x).Mutable == true)) (ref09_Tokens_Writes n w (ofT x).Region (ofT x).Above) default fun x28 =>
            cn (((!x27) || ((ofT x).Mutable && (!x28)))) (some (w, (0 : Int), (5 : Int))) (
            bd (ref03_Book_Issue n w.B) fun x29 =>
            cl ((x29.2 == 0) == false) (ref03_Book_Slot n x29.1 x29.2) default fun x30 =>
            cn (((x29.2 == 0) || decide (15 < x30))) (some (w, 0, 7)) (
            lt ({ w with B := x29.1 } : ref09_Tokens) fun x31 =>
            bd (ref03_Book_Slot n x29.1 x29.2) fun x32 =>
            gu (inb x32 32) <|
            lt ({ x31 with T := (upd x31.T (Int.toNat x32) (ofT x)) } : ref09_Tokens) fun x34 =>
            some (x34, x29.2, 0)))) =
            some (bif (anyMut k x.Region x.Above (issuedL w.B 32) || (x.Mutable && someR k w x.Region x.Above)) then (w, 0, 5) else if f < 16 then (⟨issueW w.B f, upd w.T f (ofT x)⟩, hofI f (w.B.Gen f), 0) else (w, 0, 7)) := by
          show bd (ref09_Tokens_Reads n w x.Region x.Above) _ = _
          rw [bd_some (refreads_eq hn r x.Region a0)]
          show cl (_ && (x.Mutable == true)) (ref09_Tokens_Writes n w x.Region x.Above) default _ = _
          rw [cl_some (refwrites_eq hn r x.Region a0)]
          have e5 : ((!readsV k w x.Region x.Above) || ((ofT x).Mutable && (!(bif (((!readsV k w x.Region x.Above) == false) && (x.Mutable == true)) then writesV k w x.Region x.Above else default)))) = (anyMut k x.Region x.Above (issuedL w.B 32) || (x.Mutable && someR k w x.Region x.Above)) := by
            show (_ || (x.Mutable && _)) = _
            unfold readsV writesV
            rw [ho]
            cases anyMut k x.Region x.Above (issuedL w.B 32) <;> cases x.Mutable <;> cases someR k w x.Region x.Above <;> rfl
          rw [e5]
          cases h4 : (anyMut k x.Region x.Above (issuedL w.B 32) || (x.Mutable && someR k w x.Region x.Above)) with
          | true => rw [cn_true rfl, cond_true]
          | false =>
            have hgood : goodW (issueW w.B f) (hofI f (w.B.Gen f)) = true := ((good_issue r.book hf (by omega) _).2 (.inr rfl)).2
            have hsl2 := refslot_eq (n := n) hn i2 (h := hofI f (w.B.Gen f)) (by omega)
            rw [hgood, if_pos rfl, q2] at hsl2
            rw [cn_false rfl, cond_false, bd_some (refissue_eq hn r.book hf), if_pos (by omega)]
            dsimp only
            rw [cl_some hsl2]
            have hne : (hofI f (w.B.Gen f) == 0) = false := by simp; omega
            rw [hne]
            by_cases h16 : f < 16
            · rw [cn_false (by simp; omega), lt_eq, bd_some hsl2, gu_true (inb_t (by omega) (by omega)), lt_eq, if_pos h16]; rfl
            · rw [cn_true (by simp; omega), if_neg h16]
        have hfin : ∀ (c : Int), c ≠ 0 → True := fun _ _ => trivial
        by_cases h0 : x.Above = 0
        · have e3 : ((x.Above != 0) && ((((k.slots (slN x.Above)).Region != x.Region) || ((k.slots (slN x.Above)).To != x.By)) || (x.Mutable && (!(k.slots (slN x.Above)).Mutable)))) = false := by simp [h0]
          rw [e3, cond_false]
          refine (cn_false (by show (x.Above != 0) = false; simp [h0])).trans (hrest.trans ?_)
          cases (anyMut k x.Region x.Above (issuedL w.B 32) || (x.Mutable && someR k w x.Region x.Above)) <;> simp
        · have hg : goodW w.B x.Above = true := by
            unfold okA at ho
            rw [Bool.or_eq_true] at ho
            exact ho.resolve_left (by simpa using h0)
          obtain ⟨g1, g2, g3⟩ := good_slot hg
          have ht := (r.tok (slN x.Above) (r.lt16 (slN_lt _) g2) g2).1
          have hsl3 := refslot_eq (n := n) hn r.book (h := x.Above) a0
          rw [hg, if_pos rfl] at hsl3
          refine (cn_true (by show (x.Above != 0) = true; simpa using h0)).trans ?_
          show bd (ref03_Book_Slot n w.B x.Above) _ = _
          rw [bd_some hsl3, gu_true (inb_t hsl.1 (by omega)), lt_eq]
          show cn ((((w.T (slN x.Above)).Region != x.Region || (w.T (slN x.Above)).To != x.By) || (x.Mutable && !(w.T (slN x.Above)).Mutable))) _ _ = _
          rw [ht]
          have h1 : (x.Above != 0) = true := by simpa using h0
          rw [h1, Bool.true_and]
          show cn ((((k.slots (slN x.Above)).Region != x.Region || (k.slots (slN x.Above)).To != x.By) || (x.Mutable && !(k.slots (slN x.Above)).Mutable))) _ _ = _
          cases h3 : ((((k.slots (slN x.Above)).Region != x.Region || (k.slots (slN x.Above)).To != x.By) || (x.Mutable && !(k.slots (slN x.Above)).Mutable))) with
          | true => rw [cn_true rfl, cond_true, if_pos (by decide)]
          | false =>
            rw [cn_false rfl, cond_false]
            refine hrest.trans ?_
            cases (anyMut k x.Region x.Above (issuedL w.B 32) || (x.Mutable && someR k w x.Region x.Above)) <;> simp
  rw [hP, hR]
  by_cases hm : mayV k w x = 0
  · simp only [hm, ne_eq, not_true_eq_false, if_false]
    by_cases h16 : f < 16
    · simp only [h16, if_true]
      exact ⟨_, _, _, _, rfl, rfl, fun h => absurd rfl h, fun _ => ⟨f, hf, h16, rfl, rfl, i2, rfl, hm⟩⟩
    · simp only [h16, if_false]
      exact ⟨_, _, _, _, rfl, rfl, fun _ => ⟨rfl, rfl, rfl⟩, fun h => (by cases h)⟩
  · simp only [hm, ne_eq, not_false_eq_true, if_true]
    exact ⟨_, _, _, _, rfl, rfl, fun _ => ⟨rfl, rfl, rfl⟩, fun h => absurd h hm⟩
theorem LD.rt {k : token_Tokens} {w : ref09_Tokens} {x : token_Token} {k' : token_Tokens} {w' : ref09_Tokens} {m e : Int} (h : LD k w x k' w' m e) (r : RT k w) (hx : TokR x) : RT k' w' := by
  by_cases he : e = 0
  · obtain ⟨f, h1, h2, h3, h4, h5, h6, h7⟩ := h.good he
    subst h4
    refine ⟨h5, fun i hi hs => ?_, fun i hi hl => ?_, fun i hi => ?_⟩
    · rw [h3]
      show upd w.T f (ofT x) i = _ ∧ _
      rw [upd_ite, upd_ite]
      by_cases e1 : i = f
      · rw [if_pos e1, if_pos e1]; exact ⟨rfl, hx⟩
      · rw [if_neg e1, if_neg e1]
        exact r.tok i hi (by rw [← hs]; exact (upd_ne _ _ e1).symm)
    · show upd w.B.Is f 1 i = 0
      rw [upd_ne _ _ (by omega)]
      exact r.hi i hi hl
    · show 0 ≤ (upd w.T f (ofT x) i).Above
      rw [upd_ite]
      split
      · exact hx.above.1
      · exact r.ab i hi
  · obtain ⟨rfl, rfl, _⟩ := h.bad he
    exact r
end Go.Proofs.Ytcdnmiianjaglaa
