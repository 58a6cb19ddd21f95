/- HandleOnce, as a plain law. -/
import Derived.Test.YtcdnmiianjaglaaDOnce
import Derived.Test.YtcdnmiianjaglaaL03
import Derived.Test.YtcdnmiianjaglaaPMap
namespace Go.Proofs.Ytcdnmiianjaglaa
open Go Go.Bw

/-- the good handles of a book -/
def goodS (w : ref03_Book) (h : Int) : Prop := 0 ≤ h ∧ goodW w h = true
theorem goodW_iff {w : ref03_Book} {h : Int} : goodW w h = true ↔ slB h = true ∧ w.Is (slI h).toNat = 1 ∧ w.Gen (slI h).toNat = h / 256 := by
  unfold goodW
  rw [Bool.and_eq_true, Bool.and_eq_true, beq_iff_eq, beq_iff_eq, and_assoc]
theorem slB_lt {h : Int} (hb : slB h = true) : h < 4294967296 := by
  unfold slB at hb
  simp only [decide_eq_true_eq] at hb; omega
theorem issuedL_mem {b : handle_Book} {w : ref03_Book} (r : RB b w) : ∀ (k : Nat), k ≤ 32 → ∀ x, x ∈ issuedL w k ↔ goodS w x ∧ slI x < k
  | 0, _, x => ⟨fun h => (by cases h), fun h => absurd h.2 (by have := (slI_ran x).1; omega)⟩
  | k + 1, hk, x => by
    have ih := issuedL_mem r k (by omega) x
    have hr := r.ran k (by omega)
    obtain ⟨q1, q2, q3, q4, q5⟩ := sl_hof (i := k) (g := w.Gen k) (by omega) (by omega) hr.1 hr.2
    have hx := slI_ran x
    rw [issuedL, List.mem_append, ih]
    constructor
    · rintro (h | h)
      · exact ⟨h.1, by omega⟩
      · split at h
        · rename_i hi
          have e := List.mem_singleton.1 h
          subst e
          exact ⟨⟨by omega, goodW_iff.2 ⟨q1, by rw [q2]; exact hi, by rw [q2, q3]; rfl⟩⟩, by omega⟩
        · cases h
    · rintro ⟨h1, h2⟩
      by_cases e : slI x < k
      · exact .inl ⟨h1, e⟩
      · have e1 : slI x = k := by omega
        obtain ⟨g1, g2, g3⟩ := goodW_iff.1 h1.2
        have e2 : (slI x).toNat = k := by omega
        rw [e2] at g2 g3
        refine .inr ?_
        rw [if_pos g2, List.mem_singleton, g3, ← e1, hof_sl h1.1 g1]
theorem issuedL_nd {b : handle_Book} {w : ref03_Book} (r : RB b w) : ∀ (k : Nat), k ≤ 32 → (issuedL w k).Nodup
  | 0, _ => List.nodup_nil
  | k + 1, hk => by
    rw [issuedL, List.nodup_append]
    refine ⟨issuedL_nd r k (by omega), by split <;> simp, fun a ha c hc e => ?_⟩
    split at hc
    · have e1 := List.mem_singleton.1 hc
      have hr := r.ran k (by omega)
      obtain ⟨q1, q2, q3, q4, q5⟩ := sl_hof (i := k) (g := w.Gen k) (by omega) (by omega) hr.1 hr.2
      have := ((issuedL_mem r k (by omega) a).1 ha).2
      rw [e, e1, q2] at this
      omega
    · cases hc
theorem goodS_all {b : handle_Book} {w : ref03_Book} (r : RB b w) (x : Int) : x ∈ issuedL w 32 ↔ goodS w x := by
  rw [issuedL_mem r 32 (Nat.le_refl _)]
  have := slI_ran x
  exact ⟨fun h => h.1, fun h => ⟨h, by omega⟩⟩

/-- what was issued ahead: it is good, or gone for ever -/
def pastS (w : ref03_Book) (h : Int) : Prop := 0 ≤ h ∧ slB h = true ∧ (h / 256 < w.Gen (slI h).toNat ∨ (h / 256 = w.Gen (slI h).toNat ∧ w.Is (slI h).toNat ≠ 0))
theorem good_issue {b : handle_Book} {w : ref03_Book} (r : RB b w) {f : Nat} (hf : First w f) (hl : f < 32) (x : Int) : goodS (issueW w f) x ↔ goodS w x ∨ x = hofI f (w.Gen f) := by
  have hr := r.ran f hl
  obtain ⟨q1, q2, q3, q4, q5⟩ := sl_hof (i := f) (g := w.Gen f) (by omega) (by omega) hr.1 hr.2
  have hx := slI_ran x
  unfold goodS
  rw [goodW_iff, goodW_iff]
  show 0 ≤ x ∧ slB x = true ∧ upd w.Is f 1 (slI x).toNat = 1 ∧ w.Gen (slI x).toNat = x / 256 ↔ _
  rw [upd_ite]
  by_cases e : (slI x).toNat = f
  · rw [if_pos e, e]
    constructor
    · rintro ⟨h1, h2, _, h4⟩
      refine .inr ?_
      have := hof_sl h1 h2
      rw [← this, h4]
      congr 1; omega
    · rintro (⟨h1, h2, h3, h4⟩ | h)
      · exact absurd (hf.2.2 hl) (by omega)
      · subst h; exact ⟨by omega, q1, rfl, by rw [q3]⟩
  · rw [if_neg e]
    refine ⟨fun h => .inl h, fun h => h.elim _root_.id fun h => ?_⟩
    subst h
    exact absurd (by rw [q2]; rfl) e
theorem past_issue {w : ref03_Book} {f : Nat} (x : Int) (h : pastS w x) : pastS (issueW w f) x := by
  obtain ⟨h1, h2, h3⟩ := h
  refine ⟨h1, h2, ?_⟩
  show x / 256 < w.Gen (slI x).toNat ∨ (x / 256 = w.Gen (slI x).toNat ∧ upd w.Is f 1 (slI x).toNat ≠ 0)
  rw [upd_ite]
  split
  · exact h3.imp _root_.id fun h => ⟨h.1, by omega⟩
  · exact h3
theorem past_new {b : handle_Book} {w : ref03_Book} (r : RB b w) {f : Nat} (hl : f < 32) : pastS (issueW w f) (hofI f (w.Gen f)) := by
  have hr := r.ran f hl
  obtain ⟨q1, q2, q3, q4, q5⟩ := sl_hof (i := f) (g := w.Gen f) (by omega) (by omega) hr.1 hr.2
  refine ⟨by omega, q1, .inr ?_⟩
  show hofI f (w.Gen f) / 256 = w.Gen (slI (hofI f (w.Gen f))).toNat ∧ upd w.Is f 1 (slI (hofI f (w.Gen f))).toNat ≠ 0
  rw [q2, q3, upd_ite]
  simp
theorem past_not {b : handle_Book} {w : ref03_Book} (r : RB b w) {f : Nat} (hf : First w f) (hl : f < 32) : ¬ pastS w (hofI f (w.Gen f)) := by
  have hr := r.ran f hl
  obtain ⟨q1, q2, q3, q4, q5⟩ := sl_hof (i := f) (g := w.Gen f) (by omega) (by omega) hr.1 hr.2
  rintro ⟨_, _, h⟩
  rw [q2, q3] at h
  have := hf.2.2 hl
  rcases h with h | h
  · exact absurd h (by simp)
  · exact h.2 this
theorem good_void {b : handle_Book} {w : ref03_Book} (r : RB b w) {h : Int} (h0 : 0 ≤ h) (x : Int) : goodS (if goodW w h then voidW w h else w) x ↔ goodS w x ∧ x ≠ h := by
  cases hg : goodW w h with
  | false =>
    refine ⟨fun hx => ⟨hx, fun e => ?_⟩, fun hx => hx.1⟩
    subst e
    have h2 : goodW w x = true := hx.2
    rw [h2] at hg; cases hg
  | true =>
    rw [if_pos rfl]
    obtain ⟨g1, g2, g3⟩ := goodW_iff.1 hg
    have hr := r.ran (slI h).toNat (by have := slI_ran h; omega)
    have hx := slI_ran x
    have hh := slI_ran h
    have key : ∀ w', voidW w h = w' → (∀ j, j ≠ (slI h).toNat → w'.Is j = w.Is j ∧ w'.Gen j = w.Gen j) → w'.Is (slI h).toNat ≠ 1 → (goodS w' x ↔ goodS w x ∧ x ≠ h) := by
      intro w' _ k1 k2
      unfold goodS
      rw [goodW_iff, goodW_iff]
      by_cases e : (slI x).toNat = (slI h).toNat
      · constructor
        · rintro ⟨_, _, h3, _⟩; rw [e] at h3; exact absurd h3 k2
        · rintro ⟨⟨h1, h2, h3, h4⟩, h5⟩
          refine absurd ?_ h5
          rw [← hof_sl h1 h2, ← hof_sl h0 g1, ← h4, ← g3, e]
          congr 1; omega
      · rw [(k1 _ e).1, (k1 _ e).2]
        exact ⟨fun hx => ⟨hx, fun e2 => e (by rw [e2])⟩, fun hx => hx.1⟩
    refine key _ rfl (fun j hj => ?_) ?_
    · unfold voidW
      split
      · exact ⟨upd_ne _ _ hj, rfl⟩
      · exact ⟨upd_ne _ _ hj, upd_ne _ _ hj⟩
    · unfold voidW
      split
      · show upd w.Is _ 2 _ ≠ 1; rw [upd_at]; decide
      · show upd w.Is _ 0 _ ≠ 1; rw [upd_at]; decide
theorem past_void {w : ref03_Book} {h : Int} (x : Int) (hp : pastS w x) : pastS (if goodW w h then voidW w h else w) x := by
  cases hg : goodW w h with
  | false => exact hp
  | true =>
    rw [if_pos rfl]
    obtain ⟨h1, h2, h3⟩ := hp
    refine ⟨h1, h2, ?_⟩
    unfold voidW
    split
    · show x / 256 < w.Gen (slI x).toNat ∨ (x / 256 = w.Gen (slI x).toNat ∧ upd w.Is (slI h).toNat 2 (slI x).toNat ≠ 0)
      rw [upd_ite]
      split
      · exact h3.imp _root_.id fun h => ⟨h.1, by decide⟩
      · exact h3
    · show x / 256 < upd w.Gen (slI h).toNat _ (slI x).toNat ∨ (x / 256 = upd w.Gen (slI h).toNat _ (slI x).toNat ∧ upd w.Is (slI h).toNat 0 (slI x).toNat ≠ 0)
      rw [upd_ite, upd_ite]
      split
      · rename_i e
        rw [e] at h3
        left; omega
      · exact h3

/-- good handles, and all that were issued -/
structure HI (w : ref03_Book) (good issued : List (Int × Bool)) : Prop where
  good : SetL good (goodS w)
  past : ∃ S, SetL issued S ∧ ∀ x, S x → pastS w x
theorem getgood {b : handle_Book} {w : ref03_Book} {good issued : List (Int × Bool)} (hI : HI w good issued) {x : Int} (h0 : 0 ≤ x) : mget good x false = goodW w x :=
  hI.good.get_b x ⟨fun h => ⟨h0, h⟩, fun h => h.2⟩

theorem once_true {g : List Int} {l : List law03_Act} (hg' : ∀ x ∈ g, (0 ≤ x ∧ x ≤ 4294967295)) (hl : ∀ a ∈ l, ((0 ≤ a.Do ∧ a.Do ≤ 255) ∧ (0 ≤ a.H ∧ a.H ≤ 4294967295))) :
    law03_HandleOnce 1000 g l = some true := by
  have hg : ∀ x ∈ g, 0 ≤ x ∧ x < 4294967296 := fun x hx => by have := hg' x hx; omega
  unfold law03_HandleOnce
  by_cases hc : (decide (300 < (l.length : Int)) || decide (100 < (g.length : Int))) = true
  · rw [cn_true hc, bd_some wakes03]
  rw [cn_false (by simpa using hc)]
  simp only [Bool.or_eq_true, decide_eq_true_eq, not_or] at hc
  obtain ⟨b0, hb0, hb⟩ := aged_eq (n := 1000) (by omega) (by omega) hg
  obtain ⟨w0, hw0, hw⟩ := refaged_eq (n := 1000) (by omega) (by omega) hg
  have r0 := aged_RB hg hb hw
  have hn0 : ∀ x, ¬ goodS w0 x := fun x h => by
    obtain ⟨_, g2, _⟩ := goodW_iff.1 h.2
    rw [(hw _ (by have := slI_ran x; omega)).2] at g2; cases g2
  have i0 : HI w0 [] [] := ⟨SetL.nil.congr fun x => ⟨fun h => hn0 x h, fun h => h.elim⟩, _, SetL.nil, fun x h => h.elim⟩
  rw [bd_some hb0]
  refine loop4_ind (fun (x : Int) (good issued : List (Int × Bool)) (b : handle_Book) => 0 ≤ x ∧ x ≤ l.length ∧ ∃ w, RB b w ∧ HI w good issued) (fun (x : Int) _ _ _ => ((l.length : Int) - x).toNat) (fun o => o = some true) ?_ 1000 0 [] [] b0 ⟨by omega, by omega, w0, r0, i0⟩ (by omega)
  rintro kk x good issued b ⟨x0, x1, w, r, hI⟩ ih
  by_cases hx : x < l.length
  · rw [cn_true (by simpa using hx), lt_eq, gu_true (inb_t x0 (by omega))]
    have hm : l.getD x.toNat default ∈ l := by
      rw [List.getD, List.getElem?_eq_getElem (show x.toNat < l.length by omega)]; exact List.getElem_mem _
    obtain ⟨⟨a0, a1⟩, a2, a3⟩ := hl _ hm
    have hin : inb x l.length = true := inb_t x0 (by omega)
    generalize l.getD x.toNat default = a at *
    -- what is looked at behind each act
    have rest : ∀ (good' issued' : List (Int × Bool)) (b' : handle_Book) (w' : ref03_Book), RB b' w' → HI w' good' issued' →
        (bd (handle_Book_Issued 1000 b') fun x52 =>
        cn (((x52.length : Int) != (good'.length : Int))) (some false) (
        loop1 (fun k63 (x60 : Int) =>
        cn (decide (x60 < (x52.length : Int))) (
        gu (inb x60 x52.length) <|
        gu (!((!(mget good' (x52.getD (Int.toNat x60) default) false)) == false) || inb x60 x52.length) <|
        cl ((!(mget good' (x52.getD (Int.toNat x60) default) false)) == false) (handle_Book_Good 1000 b' (x52.getD (Int.toNat x60) default)) default fun x66 =>
        cn (((!(mget good' (x52.getD (Int.toNat x60) default) false)) || (!x66))) (some false) (
        k63 (wr .i64 (x60 + 1)))) (
        kk (wr .i64 (x + 1)) good' issued' b')) 1000 0)) = some true := by
      intro good' issued' b' w' r' hI'
      have hmem := goodS_all r'
      rw [bd_some (issued_eq (by omega) r'), cn_false (by rw [hI'.good.len (issuedL_nd r' 32 (Nat.le_refl _)) hmem]; simp)]
      have hlen := issuedL_len w' 32
      refine loop1_ind (fun (y : Int) => 0 ≤ y ∧ y ≤ (issuedL w' 32).length) (fun y => (((issuedL w' 32).length : Int) - y).toNat) (fun o => o = some true) ?_ 1000 0 ⟨by omega, by omega⟩ (by omega)
      rintro k2 y ⟨y0, y1⟩ ih2
      by_cases hy : y < (issuedL w' 32).length
      · have hin2 : inb y (issuedL w' 32).length = true := inb_t y0 hy
        have hmm : (issuedL w' 32).getD y.toNat default ∈ issuedL w' 32 := by
          rw [List.getD, List.getElem?_eq_getElem (show y.toNat < (issuedL w' 32).length by omega)]; exact List.getElem_mem _
        have hgs := (hmem _).1 hmm
        generalize (issuedL w' 32).getD y.toNat default = z at *
        have hz := (goodW_iff.1 hgs.2)
        have hge : handle_Book_Good 1000 b' z = some true := by
          rw [good_eq r' hgs.1 (slB_lt hz.1)]; simp [hz.1, hz.2.1, hz.2.2]
        rw [cn_true (by simpa using hy), gu_true hin2, getgood (b := b') hI' hgs.1, hgs.2, hin2, gu_true (by simp)]
        refine (cl_true (by rfl) hge).trans ?_
        rw [cn_false (by rfl), w_i64 (by omega) (by omega)]
        exact ih2 _ ⟨by omega, by omega⟩ (by omega)
      · rw [cn_false (by simpa using hy), w_i64 (by omega) (by omega)]
        exact ih _ _ _ _ ⟨by omega, by omega, w', r', hI'⟩ (by omega)
    by_cases hd : 1 < a.Do
    · rw [cn_true (by simpa using hd)]
      obtain ⟨f, hf⟩ := first_ex w
      obtain ⟨b', e1, r'⟩ := issue_eq (n := 1000) (by omega) r hf
      rw [bd_some e1]
      by_cases hf2 : f < 32
      · have hr := r.ran f hf2
        obtain ⟨q1, q2, q3, q4, q5⟩ := sl_hof (i := f) (g := w.Gen f) (by omega) (by omega) hr.1 hr.2
        obtain ⟨S, s1, s2⟩ := hI.past
        have hno : mget issued (hofI f (w.Gen f)) false = false := by
          cases hh : mget issued (hofI f (w.Gen f)) false with
          | false => rfl
          | true => exact absurd (s2 _ ((s1.get _).1 hh)) (past_not r hf hf2)
        have hne : (hofI f (w.Gen f) == 0) = false := by simp; omega
        simp only [hf2, if_true, decide_true] at r' ⊢
        rw [cn_false (by rw [hno, hne]; rfl), cn_true rfl, lt_eq, lt_eq]
        refine rest _ _ _ (issueW w f) r' ⟨hI.good.set (good_issue r hf hf2), _, s1.set fun x => Iff.rfl, fun y hy => ?_⟩
        rcases hy with hy | hy
        · exact past_issue y (s2 y hy)
        · subst hy; exact past_new r hf2
      · simp only [hf2, if_false, decide_false] at r' ⊢
        rw [cn_false (by rfl), cn_false (by rfl)]
        exact rest _ _ _ w r' hI
    · rw [cn_false (by simpa using hd), hin, gu_true rfl]
      have e1 : Int.tmod a.H 32 = a.H % 32 := tmod_pos a2
      rw [e1, w_i64 (by omega) (by omega)]
      have hk : (a.H % 32).toNat < 32 := by omega
      rw [bd_some (at_eq r (by omega) (by omega)), lt_eq, gu_true rfl]
      -- a handle is voided
      have void : ∀ h : Int, 0 ≤ h → h < 4294967296 → (a.Do = 1 → goodW w h = (w.Is (a.H % 32).toNat == 1)) →
          (bd (handle_Book_Void 1000 b h) fun x49 =>
          gu (!((x49.2 != (mget good h false)) == false) || true) <|
          cn (((x49.2 != (mget good h false)) || ((a.Do == 1) && (x49.2 != (w.Is (a.H % 32).toNat == 1))))) (some false) (
          lt (mdel good h : (List (Int × Bool))) fun x51 =>
          (fun (x35 : (List (Int × Bool))) (x36 : (List (Int × Bool))) (x37 : handle_Book) =>
            bd (handle_Book_Issued 1000 x37) fun x52 =>
            cn (((x52.length : Int) != (x35.length : Int))) (some false) (
            loop1 (fun k63 (x60 : Int) =>
            cn (decide (x60 < (x52.length : Int))) (
            gu (inb x60 x52.length) <|
            gu (!((!(mget x35 (x52.getD (Int.toNat x60) default) false)) == false) || inb x60 x52.length) <|
            cl ((!(mget x35 (x52.getD (Int.toNat x60) default) false)) == false) (handle_Book_Good 1000 x37 (x52.getD (Int.toNat x60) default)) default fun x66 =>
            cn (((!(mget x35 (x52.getD (Int.toNat x60) default) false)) || (!x66))) (some false) (
            k63 (wr .i64 (x60 + 1)))) (
            kk (wr .i64 (x + 1)) x35 x36 x37)) 1000 0)) x51 issued x49.1)) = some true := by
        intro h p0 p1 p2
        obtain ⟨b', e2, r'⟩ := void_eq (n := 1000) r p0 p1
        rw [bd_some e2, getgood (b := b) hI p0, gu_true (by simp), cn_false (by
          by_cases e : a.Do = 1
          · simp [p2 e]
          · simp [e]), lt_eq]
        obtain ⟨S, s1, s2⟩ := hI.past
        exact rest _ _ _ _ r' ⟨hI.good.del (good_void r p0), S, s1, fun y hy => past_void y (s2 y hy)⟩
      by_cases hd0 : a.Do = 0
      · rw [cn_true (by simpa using hd0)]
        exact void _ a2 (by omega) (fun e => by omega)
      · rw [cn_false (by simpa using hd0)]
        by_cases hi : w.Is (a.H % 32).toNat = 1
        · obtain ⟨q1, q2, q3, q4, q5⟩ := sl_hof (i := a.H % 32) (g := w.Gen (a.H % 32).toNat) (by omega) (by omega) (r.ran _ hk).1 (r.ran _ hk).2
          simp only [if_pos hi]
          refine void _ (by omega) q5 fun _ => ?_
          rw [hi, goodW_iff.2 ⟨q1, by rw [q2]; exact hi, by rw [q2, q3]⟩]; rfl
        · simp only [if_neg hi]
          refine void 0 (by omega) (by omega) fun _ => ?_
          have : goodW w 0 = false := by unfold goodW; rfl
          rw [this]; simpa using hi
  · rw [cn_false (by simpa using hx)]
    obtain ⟨S, s1, s2⟩ := hI.past
    refine itm1_ind (fun (m : List (Int × Bool)) _ => ∀ p ∈ m, pastS w p.1) (fun k m i u hm hi hk => ?_) (fun u _ => bd_some wakes03) issued.length issued () rfl (fun p hp => s2 _ ((s1.mem _).1 (List.mem_map_of_mem hp)))
    obtain ⟨p1, p2, _⟩ := hm _ (List.getElem_mem hi)
    rw [bd_some (good_eq r p1 (slB_lt p2)), getgood (b := b) hI p1, cn_false (by simp [goodW])]
    exact hk () fun p hp => hm p (List.mem_of_mem_eraseIdx hp)
end Go.Proofs.Ytcdnmiianjaglaa
