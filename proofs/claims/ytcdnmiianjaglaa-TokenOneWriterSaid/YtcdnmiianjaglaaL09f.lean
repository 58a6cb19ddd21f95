/- TokenOneWriter, as a plain law. -/
import Derived.Test.YtcdnmiianjaglaaL09e
namespace Go.Proofs.Ytcdnmiianjaglaa
open Go Go.Bw

/-- what is mutable is lent down one chain -/
structure OW9 (k : token_Tokens) (w : ref09_Tokens) : Prop where
  up : ∀ i, i < 32 → w.B.Is i = 1 → (k.slots i).Above ≠ 0 → ∃ j, j < 32 ∧ w.B.Is j = 1 ∧ (k.slots i).Above = hofI j (w.B.Gen j) ∧ (k.slots j).Region = (k.slots i).Region ∧ ((k.slots i).Mutable = true → (k.slots j).Mutable = true)
  ex : ∀ i j, i < 32 → j < 32 → w.B.Is i = 1 → w.B.Is j = 1 → i ≠ j → (k.slots i).Region = (k.slots j).Region → (k.slots i).Above = (k.slots j).Above → (k.slots i).Mutable = false
  bt : ∀ i, i < 32 → w.B.Is i = 1 → (k.slots i).By ≠ (k.slots i).To
theorem mayV_zero {k : token_Tokens} {w : ref09_Tokens} {x : token_Token} (h : mayV k w x = 0) : okA w x.Above = true ∧ x.By ≠ x.To ∧
    (x.Above ≠ 0 → (k.slots (slN x.Above)).Region = x.Region ∧ (x.Mutable = true → (k.slots (slN x.Above)).Mutable = true)) ∧ anyMut k x.Region x.Above (issuedL w.B 32) = false ∧ (x.Mutable = true → someR k w x.Region x.Above = false) := by
  unfold mayV at h
  cases h1 : okA w x.Above with
  | false => rw [h1, Bool.not_false, cond_true] at h; exact absurd h (by decide)
  | true =>
    rw [h1, Bool.not_true, cond_false] at h
    cases h2 : (((decide (8 ≤ x.By) || decide (8 ≤ x.To)) || (x.By == x.To)) || (x.Region == 0)) with
    | true => rw [h2, cond_true] at h; exact absurd h (by decide)
    | false =>
      rw [h2, cond_false] at h
      cases h3 : ((x.Above != 0) && ((((k.slots (slN x.Above)).Region != x.Region) || ((k.slots (slN x.Above)).To != x.By)) || (x.Mutable && (!(k.slots (slN x.Above)).Mutable)))) with
      | true => rw [h3, cond_true] at h; exact absurd h (by decide)
      | false =>
        rw [h3, cond_false] at h
        cases h4 : (anyMut k x.Region x.Above (issuedL w.B 32) || (x.Mutable && someR k w x.Region x.Above)) with
        | true => rw [h4, cond_true] at h; exact absurd h (by decide)
        | false =>
          rw [Bool.or_eq_false_iff] at h4
          refine ⟨rfl, fun e => ?_, fun hne => ?_, h4.1, fun hm => ?_⟩
          · rw [e] at h2; simp at h2
          · have : (x.Above != 0) = true := by simpa using hne
            rw [this, Bool.true_and, Bool.or_eq_false_iff, Bool.or_eq_false_iff] at h3
            refine ⟨by simpa using h3.1.1, fun hm => ?_⟩
            rw [hm] at h3; simpa using h3.2
          · have := h4.2; rw [hm] at this; simpa using this
theorem OW9.lend {k : token_Tokens} {w : ref09_Tokens} {x : token_Token} {k' : token_Tokens} {w' : ref09_Tokens} {m e : Int} (o : OW9 k w) (r : RT k w) (hx : TokR x) (h : LD k w x k' w' m e) : OW9 k' w' := by
  by_cases he : e = 0
  · obtain ⟨f, h1, h2, h3, h4, h5, h6, h7⟩ := h.good he
    subst h4
    obtain ⟨z1, z2, z3, z4, z5⟩ := mayV_zero h7
    have hfree := h1.2.2 (by omega)
    have hold : ∀ i, i ≠ f → (issueW w.B f).Is i = 1 → w.B.Is i = 1 := fun i hi hs => by rw [← hs]; exact (upd_ne _ _ hi).symm
    have hnew : ∀ j, w.B.Is j = 1 → (issueW w.B f).Is j = 1 ∧ j ≠ f := fun j hj => by
      have hne : j ≠ f := fun e => by subst e; omega
      exact ⟨by rw [← hj]; exact upd_ne _ _ hne, hne⟩
    have hsl : ∀ j, j ≠ f → k'.slots j = k.slots j := fun j hj => by rw [h3]; exact upd_ne _ _ hj
    have hsf : k'.slots f = x := by rw [h3]; exact upd_at _ _ _
    have hex : ∀ j, j < 32 → w.B.Is j = 1 → x.Region = (k.slots j).Region → x.Above = (k.slots j).Above → x.Mutable = false ∧ (k.slots j).Mutable = false := fun j hj hl e1 e2 => by
      have hrb : rightB k x.Region x.Above j = true := by unfold rightB; simp [e1, e2]
      constructor
      · cases hm : x.Mutable with
        | false => rfl
        | true =>
          have := z5 hm
          have h2 : someR k w x.Region x.Above = true := (someR_iff r).2 ((ex_slot r.book (p := fun i => rightB k x.Region x.Above i = true)).2 ⟨j, hj, hl, hrb⟩)
          rw [h2] at this; cases this
      · cases hm : (k.slots j).Mutable with
        | false => rfl
        | true =>
          have h2 : anyMut k x.Region x.Above (issuedL w.B 32) = true := (anyMut_iff r).2 ((ex_slot r.book (p := fun i => rightB k x.Region x.Above i = true ∧ (k.slots i).Mutable = true)).2 ⟨j, hj, hl, hrb, hm⟩)
          rw [h2] at z4; cases z4
    refine ⟨fun i hi hs ha => ?_, fun i j hi hj hs ht hne e1 e2 => ?_, fun i hi hs => ?_⟩
    · by_cases ei : i = f
      · subst ei
        rw [hsf] at ha ⊢
        have hg : goodS w.B x.Above := by
          unfold okA at z1
          rw [Bool.or_eq_true, beq_iff_eq] at z1
          exact ⟨hx.above.1, z1.resolve_left ha⟩
        have hlv := (good_slot hg.2).2.1
        obtain ⟨n1, n2⟩ := hnew _ hlv
        obtain ⟨y1, y2⟩ := z3 ha
        exact ⟨slN x.Above, slN_lt _, n1, (good_hof hg).symm, by rw [hsl _ n2]; exact y1, by rw [hsl _ n2]; exact y2⟩
      · rw [hsl i ei] at ha ⊢
        obtain ⟨j, j1, j2, j3, j4, j5⟩ := o.up i hi (hold i ei hs) ha
        obtain ⟨n1, n2⟩ := hnew _ j2
        exact ⟨j, j1, n1, j3, by rw [hsl j n2]; exact j4, by rw [hsl j n2]; exact j5⟩
    · by_cases ei : i = f
      · subst ei
        have ej : j ≠ i := fun e => hne e.symm
        rw [hsf, hsl j ej] at e1 e2
        rw [hsf]
        exact (hex j hj (hold j ej ht) e1 e2).1
      · by_cases ej : j = f
        · subst ej
          rw [hsf, hsl i ei] at e1 e2
          rw [hsl i ei]
          exact (hex i hi (hold i ei hs) e1.symm e2.symm).2
        · rw [hsl i ei, hsl j ej] at e1 e2
          rw [hsl i ei]
          exact o.ex i j hi hj (hold i ei hs) (hold j ej ht) hne e1 e2
    · by_cases ei : i = f
      · subst ei; rw [hsf]; exact z2
      · rw [hsl i ei]; exact o.bt i hi (hold i ei hs)
  · obtain ⟨rfl, rfl, _⟩ := h.bad he
    exact o
theorem live_iff {b : handle_Book} {w : ref03_Book} (r : RB b w) {l : List Int} (hl : ∀ h ∈ l, 0 ≤ h ∧ h < 4294967296) {i : Nat} (hi : i < 32) : (l.foldl vdW w).Is i = 1 ↔ w.Is i = 1 ∧ hofI i (w.Gen i) ∉ l := by
  constructor
  · intro h
    obtain ⟨h1, h2⟩ := vds_live l h
    obtain ⟨⟨b', r'⟩, h3⟩ := vds_good l r hl (hofI i (w.Gen i))
    have := (hof_good r' hi h).1
    rw [h2] at this
    exact ⟨h1, (h3.1 this).2⟩
  · rintro ⟨h1, h2⟩
    obtain ⟨_, h3⟩ := vds_good l r hl (hofI i (w.Gen i))
    have hg := hof_good r hi h1
    have := (good_slot (h3.2 ⟨hg.1, h2⟩).2).2.1
    rwa [hg.2.1] at this
theorem OW9.voids {k k' : token_Tokens} {w : ref09_Tokens} (o : OW9 k w) (r : RT k w) {l : List Int} (hl : ∀ h ∈ l, 0 ≤ h ∧ h < 4294967296) (hs : k'.slots = k.slots)
    (hup : ∀ i j, i < 32 → j < 32 → w.B.Is i = 1 → w.B.Is j = 1 → (k.slots i).Above = hofI j (w.B.Gen j) → (k.slots j).Region = (k.slots i).Region → hofI j (w.B.Gen j) ∈ l → hofI i (w.B.Gen i) ∈ l) : OW9 k' { w with B := l.foldl vdW w.B } := by
  refine ⟨fun i hi h1 ha => ?_, fun i j hi hj h1 h2 hne e1 e2 => ?_, fun i hi h1 => ?_⟩
  · rw [hs] at ha ⊢
    obtain ⟨l1, l2⟩ := (live_iff r.book hl hi).1 h1
    obtain ⟨j, j1, j2, j3, j4, j5⟩ := o.up i hi l1 ha
    have hj : (l.foldl vdW w.B).Is j = 1 := (live_iff r.book hl j1).2 ⟨j2, fun hm => l2 (hup i j hi j1 l1 j2 j3 j4 hm)⟩
    exact ⟨j, j1, hj, by rw [j3]; show _ = hofI j ((l.foldl vdW w.B).Gen j); rw [(vds_live l hj).2], j4, j5⟩
  · rw [hs] at e1 e2 ⊢
    exact o.ex i j hi hj ((live_iff r.book hl hi).1 h1).1 ((live_iff r.book hl hj).1 h2).1 hne e1 e2
  · rw [hs]
    exact o.bt i hi ((live_iff r.book hl hi).1 h1).1
theorem mem_hof {b : handle_Book} {w : ref03_Book} (r : RB b w) {p : Nat → Bool} {i : Nat} (hi : i < 32) (h1 : w.Is i = 1) : hofI i (w.Gen i) ∈ thoseL w p 32 ↔ p i = true := by
  have hg := hof_good r hi h1
  rw [mem_those r, hg.2.1]
  exact ⟨fun h => h.2, fun h => ⟨hg.1, h⟩⟩
theorem RetP.ow {k : token_Tokens} {w : ref09_Tokens} {h : Int} {k' : token_Tokens} {w' : ref09_Tokens} {l : List Int} {e : Int} (p : RetP k w h k' w' l e) (r : RT k w) (o : OW9 k w) : OW9 k' w' := by
  cases hg : goodW w.B h with
  | false => obtain ⟨rfl, rfl, _⟩ := p.no hg; exact o
  | true =>
    obtain ⟨_, _, h2, h3, g, hD, e⟩ := p.yes hg
    subst h3
    have q1 := those_ran r.book (p := g)
    rw [← e] at q1
    refine o.voids r q1 h2 fun i j hi hj l1 l2 ha _ hm => ?_
    rw [e, mem_hof r.book hj l2, hD j hj] at hm
    rw [e, mem_hof r.book hi l1, hD i hi]
    exact .kid hm ⟨hi, l1, ha⟩
theorem hof_inj {b : handle_Book} {w : ref03_Book} (r : RB b w) {i j : Nat} (hi : i < 32) (hj : j < 32) (h1 : w.Is i = 1) (h2 : w.Is j = 1) (e : hofI i (w.Gen i) = hofI j (w.Gen j)) : i = j := by
  have a := (hof_good r hi h1).2.1
  have b := (hof_good r hj h2).2.1
  rw [e] at a
  exact a.symm.trans b

theorem root9 {k : token_Tokens} {w : ref09_Tokens} (o : OW9 k w) {ρ : Nat → Nat} (hρ : ∀ i j, i < 32 → w.B.Is i = 1 → kidT k w i j → ρ i < ρ j) : ∀ (d i : Nat), ρ i ≤ d → i < 32 → w.B.Is i = 1 → ∃ t, t < 32 ∧ w.B.Is t = 1 ∧ (k.slots t).Above = 0 ∧ (k.slots t).Region = (k.slots i).Region ∧ Dsc k w t i := by
  intro d
  induction d with
  | zero =>
    intro i hd hi h1
    by_cases h0 : (k.slots i).Above = 0
    · exact ⟨i, hi, h1, h0, rfl, .self⟩
    · obtain ⟨j, j1, j2, j3, j4, _⟩ := o.up i hi h1 h0
      have := hρ j i j1 j2 ⟨hi, h1, j3⟩
      omega
  | succ d ih =>
    intro i hd hi h1
    by_cases h0 : (k.slots i).Above = 0
    · exact ⟨i, hi, h1, h0, rfl, .self⟩
    · obtain ⟨j, j1, j2, j3, j4, _⟩ := o.up i hi h1 h0
      have := hρ j i j1 j2 ⟨hi, h1, j3⟩
      obtain ⟨t, t1, t2, t3, t4, t5⟩ := ih j (by omega) j1 j2
      exact ⟨t, t1, t2, t3, t4.trans j4, .kid t5 ⟨hi, h1, j3⟩⟩

section
variable {k : token_Tokens} {w : ref09_Tokens} (r : RT k w) (o : OW9 k w) {ρ : Nat → Nat} (hρ : ∀ i j, i < 32 → w.B.Is i = 1 → kidT k w i j → ρ i < ρ j)
include r o
theorem kid_region {i c : Nat} (hi : i < 32) (h1 : w.B.Is i = 1) (hc : kidT k w i c) : (k.slots c).Region = (k.slots i).Region ∧ ((k.slots c).Mutable = true → (k.slots i).Mutable = true) := by
  obtain ⟨c1, c2, c3⟩ := hc
  have hg := hof_good r.book hi h1
  obtain ⟨j, j1, j2, j3, j4, j5⟩ := o.up c c1 c2 (by rw [c3]; omega)
  have : i = j := hof_inj r.book hi j1 h1 j2 (by rw [← c3, j3])
  subst this
  exact ⟨j4.symm, j5⟩
theorem mut_up {c i : Nat} (hc : c < 32) (h1 : w.B.Is c = 1) (h : Dsc k w c i) (hm : (k.slots i).Mutable = true) : (k.slots c).Mutable = true := by
  induction h with
  | self => exact hm
  | kid hd hk ih =>
    have hl := hd.live hc h1
    exact ih ((kid_region r o hl.1 hl.2 hk).2 hm)
include hρ
theorem comp9 : ∀ (d i j : Nat), ρ i ≤ d → i < 32 → j < 32 → w.B.Is i = 1 → w.B.Is j = 1 → (k.slots i).Region = (k.slots j).Region → (k.slots i).Mutable = true → Dsc k w i j ∨ Dsc k w j i := by
  intro d
  induction d with
  | zero =>
    intro i j hd hi hj h1 h2 hr hm
    have h0 : (k.slots i).Above = 0 := Classical.byContradiction fun h0 => by
      obtain ⟨p, p1, p2, p3, _⟩ := o.up i hi h1 h0
      have := hρ p i p1 p2 ⟨hi, h1, p3⟩
      omega
    obtain ⟨t, t1, t2, t3, t4, t5⟩ := root9 o hρ (ρ j) j (Nat.le_refl _) hj h2
    by_cases e : i = t
    · subst e; exact .inl t5
    · have := o.ex i t hi t1 h1 t2 e (hr.trans t4.symm) (h0.trans t3.symm)
      rw [hm] at this; cases this
  | succ d ih =>
    intro i j hd hi hj h1 h2 hr hm
    by_cases h0 : (k.slots i).Above = 0
    · obtain ⟨t, t1, t2, t3, t4, t5⟩ := root9 o hρ (ρ j) j (Nat.le_refl _) hj h2
      by_cases e : i = t
      · subst e; exact .inl t5
      · have := o.ex i t hi t1 h1 t2 e (hr.trans t4.symm) (h0.trans t3.symm)
        rw [hm] at this; cases this
    · obtain ⟨p, p1, p2, p3, p4, p5⟩ := o.up i hi h1 h0
      have hk : kidT k w p i := ⟨hi, h1, p3⟩
      have := hρ p i p1 p2 hk
      rcases ih p j (by omega) p1 hj p2 h2 (p4.trans hr) (p5 hm) with h | h
      · rcases h.cases_head with rfl | ⟨c, c1, c2⟩
        · exact .inr (.kid .self hk)
        · by_cases e : i = c
          · subst e; exact .inl c2
          · have hcr := (kid_region r o p1 p2 c1).1
            have := o.ex i c hi c1.1 h1 c1.2.1 e (by rw [hcr]; exact p4.symm) (by rw [c1.2.2]; exact p3)
            rw [hm] at this; cases this
      · exact .inr (.kid h hk)
end

theorem len_one : ∀ (l : List Int), l.Nodup → (∀ a ∈ l, ∀ b ∈ l, a = b) → l.length ≤ 1
  | [], _, _ => Nat.zero_le _
  | [_], _, _ => Nat.le_refl _
  | a :: b :: t, hn, h => by
    have := h a (by simp) b (by simp)
    subst this
    rw [List.nodup_cons] at hn
    exact absurd (by simp) hn.1
/-- of a region: how many write, how many read -/
theorem count9 {k : token_Tokens} {w : ref09_Tokens} (r : RT k w) (tt : TT k w) (o : OW9 k w) (g : Int) :
    let on := thoseL w.B (fun i => (k.slots i).Region == g) 32
    let W := (if writesV k w g 0 = true then 1 else 0) + (on.filter fun h => (k.slots (slN h)).Mutable && writesV k w g h).length
    let R := (if readsV k w g 0 = true then 1 else 0) + (on.filter fun h => readsV k w g h).length
    W ≤ 1 ∧ (W = 1 → R ≤ 1) ∧ 1 ≤ R := by
  intro on W R
  obtain ⟨ρ, hρ⟩ := tt.rank
  have hon : ∀ h, h ∈ on ↔ goodS w.B h ∧ (k.slots (slN h)).Region = g := fun h => by rw [mem_those r.book, beq_iff_eq]
  have hnd : on.Nodup := those_nd r.book _
  have hok : ∀ h, goodS w.B h → okA w h = true := fun h hh => by unfold okA; rw [hh.2]; simp
  have hok0 : okA w 0 = true := rfl
  -- what is lent by a token
  have hkid : ∀ h, goodS w.B h → someR k w g h = false → ∀ c, kidT k w (slN h) c → (k.slots (slN h)).Region = g → False := fun h hh hs c hc hr => by
    have h1 : someR k w g h = true := (someR_iff r).2 ((ex_slot r.book (p := fun i => rightB k g h i = true)).2 ⟨c, hc.1, hc.2.1, by
      have hcr := (kid_region r o (slN_lt h) (good_slot hh.2).2.1 hc).1
      unfold rightB
      rw [hcr, hr, hc.2.2, good_hof hh]; simp⟩)
    rw [h1] at hs; cases hs
  have hroot : ∀ h, h ∈ on → ∃ t, t < 32 ∧ w.B.Is t = 1 ∧ rightB k g 0 t = true ∧ Dsc k w t (slN h) := fun h hh => by
    obtain ⟨h1, h2⟩ := (hon h).1 hh
    obtain ⟨t, t1, t2, t3, t4, t5⟩ := root9 o hρ _ (slN h) (Nat.le_refl _) (slN_lt h) (good_slot h1.2).2.1
    exact ⟨t, t1, t2, by unfold rightB; rw [t4, h2, t3]; simp, t5⟩
  have hW : ∀ a, a ∈ on → ((k.slots (slN a)).Mutable && writesV k w g a) = true → (k.slots (slN a)).Mutable = true ∧ someR k w g a = false := fun a ha h => by
    rw [Bool.and_eq_true] at h
    refine ⟨h.1, ?_⟩
    have := h.2
    unfold writesV at this
    rw [hok a ((hon a).1 ha).1] at this
    simpa using this
  have heq : ∀ a b, goodS w.B a → goodS w.B b → slN b = slN a → b = a := fun a b ha hb e => by rw [← good_hof ha, ← good_hof hb, e]
  -- a writer's subtree is itself
  have hleaf : ∀ a b, a ∈ on → b ∈ on → someR k w g a = false → Dsc k w (slN a) (slN b) → b = a := fun a b ha hb hs hd => by
    rcases hd.cases_head with e | ⟨c, c1, _⟩
    · exact heq a b ((hon a).1 ha).1 ((hon b).1 hb).1 e
    · exact (hkid a ((hon a).1 ha).1 hs c c1 ((hon a).1 ha).2).elim
  have hA : (on.filter fun h => (k.slots (slN h)).Mutable && writesV k w g h).length ≤ 1 := by
    refine len_one _ (hnd.filter _) fun a ha b hb => ?_
    obtain ⟨a1, a2⟩ := List.mem_filter.1 ha
    obtain ⟨b1, b2⟩ := List.mem_filter.1 hb
    obtain ⟨a3, a4⟩ := hW a a1 a2
    obtain ⟨b3, b4⟩ := hW b b1 b2
    rcases comp9 r o hρ _ (slN a) (slN b) (Nat.le_refl _) (slN_lt _) (slN_lt _) (good_slot ((hon a).1 a1).1.2).2.1 (good_slot ((hon b).1 b1).1.2).2.1 (((hon a).1 a1).2.trans ((hon b).1 b1).2.symm) a3 with h | h
    · exact (hleaf a b a1 b1 a4 h).symm
    · exact hleaf b a b1 a1 b4 h
  have hB : writesV k w g 0 = true → on = [] := fun h => by
    unfold writesV at h
    rw [hok0, Bool.true_and] at h
    cases hl : on with
    | nil => rfl
    | cons x t =>
      obtain ⟨t0, t1, t2, t3, _⟩ := hroot x (by rw [hl]; simp)
      have : someR k w g 0 = true := (someR_iff r).2 ((ex_slot r.book (p := fun i => rightB k g 0 i = true)).2 ⟨t0, t1, t2, t3⟩)
      rw [this] at h; cases h
  have hC : ∀ a, a ∈ on → ((k.slots (slN a)).Mutable && writesV k w g a) = true → readsV k w g 0 = false ∧ ∀ b ∈ on, readsV k w g b = true → b = a := fun a ha hw => by
    obtain ⟨a3, a4⟩ := hW a ha hw
    refine ⟨?_, fun b hb hr => ?_⟩
    · obtain ⟨t0, t1, t2, t3, t4⟩ := hroot a ha
      have hm := mut_up r o t1 t2 t4 a3
      have : anyMut k g 0 (issuedL w.B 32) = true := (anyMut_iff r).2 ((ex_slot r.book (p := fun i => rightB k g 0 i = true ∧ (k.slots i).Mutable = true)).2 ⟨t0, t1, t2, t3, hm⟩)
      unfold readsV
      rw [this]; simp
    · rcases comp9 r o hρ _ (slN a) (slN b) (Nat.le_refl _) (slN_lt _) (slN_lt _) (good_slot ((hon a).1 ha).1.2).2.1 (good_slot ((hon b).1 hb).1.2).2.1 (((hon a).1 ha).2.trans ((hon b).1 hb).2.symm) a3 with h | h
      · exact hleaf a b ha hb a4 h
      · rcases h.cases_head with e | ⟨c, c1, c2⟩
        · exact (heq b a ((hon b).1 hb).1 ((hon a).1 ha).1 e).symm
        · have hm := mut_up r o c1.1 c1.2.1 c2 a3
          have hbg := ((hon b).1 hb).1
          have hcr := (kid_region r o (slN_lt b) (good_slot hbg.2).2.1 c1).1
          have : anyMut k g b (issuedL w.B 32) = true := (anyMut_iff r).2 ((ex_slot r.book (p := fun i => rightB k g b i = true ∧ (k.slots i).Mutable = true)).2 ⟨c, c1.1, c1.2.1, by unfold rightB; rw [hcr, ((hon b).1 hb).2, c1.2.2, good_hof hbg]; simp, hm⟩)
          unfold readsV at hr
          rw [this] at hr; simp at hr
  have hD : ∀ (d i : Nat), cntP (fun j => decide (ρ i < ρ j)) 32 ≤ d → i < 32 → w.B.Is i = 1 → (k.slots i).Region = g → (k.slots i).Mutable = true → ∃ b ∈ on, readsV k w g b = true := by
    intro d
    induction d with
    | zero =>
      intro i hd hi h1 hr hm
      have hg := hof_good r.book hi h1
      refine ⟨hofI i (w.B.Gen i), (hon _).2 ⟨hg.1, by rw [hg.2.1]; exact hr⟩, ?_⟩
      cases ha : anyMut k g (hofI i (w.B.Gen i)) (issuedL w.B 32) with
      | false => unfold readsV; rw [ha, hok _ hg.1]; rfl
      | true =>
        obtain ⟨c, c1, c2, c3, c4⟩ := (ex_slot r.book (p := fun j => rightB k g (hofI i (w.B.Gen i)) j = true ∧ (k.slots j).Mutable = true)).1 ((anyMut_iff r).1 ha)
        have hk : kidT k w i c := ⟨c1, c2, by unfold rightB at c3; rw [Bool.and_eq_true, beq_iff_eq, beq_iff_eq] at c3; exact c3.2⟩
        have h2 := hρ i c hi h1 hk
        have := cntP_lt (p := fun _ => false) (q := fun j => decide (ρ i < ρ j)) (fun _ h => by cases h) (c := c) rfl (by simpa using h2) 32 c1
        omega
    | succ d ih =>
      intro i hd hi h1 hr hm
      have hg := hof_good r.book hi h1
      cases ha : anyMut k g (hofI i (w.B.Gen i)) (issuedL w.B 32) with
      | false => exact ⟨hofI i (w.B.Gen i), (hon _).2 ⟨hg.1, by rw [hg.2.1]; exact hr⟩, by unfold readsV; rw [ha, hok _ hg.1]; rfl⟩
      | true =>
        obtain ⟨c, c1, c2, c3, c4⟩ := (ex_slot r.book (p := fun j => rightB k g (hofI i (w.B.Gen i)) j = true ∧ (k.slots j).Mutable = true)).1 ((anyMut_iff r).1 ha)
        unfold rightB at c3
        rw [Bool.and_eq_true, beq_iff_eq, beq_iff_eq] at c3
        have hk : kidT k w i c := ⟨c1, c2, c3.2⟩
        have h2 := hρ i c hi h1 hk
        have := cntP_lt (p := fun j => decide (ρ c < ρ j)) (q := fun j => decide (ρ i < ρ j)) (fun j hj => by simp at hj ⊢; omega) (c := c) (by simp) (by simpa using h2) 32 c1
        exact ih c (by omega) c1 c2 c3.1 c4
  refine ⟨?_, fun hw => ?_, ?_⟩
  · show (if writesV k w g 0 = true then 1 else 0) + _ ≤ 1
    split
    · rename_i h; rw [hB h]; simp
    · omega
  · show (if readsV k w g 0 = true then 1 else 0) + _ ≤ 1
    by_cases h0 : writesV k w g 0 = true
    · rw [hB h0]; split <;> simp
    · have hw : (if writesV k w g 0 = true then 1 else 0) + (on.filter fun h => (k.slots (slN h)).Mutable && writesV k w g h).length = 1 := hw
      rw [if_neg h0, Nat.zero_add] at hw
      obtain ⟨a, ha⟩ := List.length_pos_iff_exists_mem.1 (show 0 < (on.filter fun h => (k.slots (slN h)).Mutable && writesV k w g h).length by omega)
      obtain ⟨a1, a2⟩ := List.mem_filter.1 ha
      obtain ⟨c1, c2⟩ := hC a a1 a2
      rw [c1, if_neg (by decide), Nat.zero_add]
      refine len_one _ (hnd.filter _) fun x hx y hy => ?_
      obtain ⟨x1, x2⟩ := List.mem_filter.1 hx
      obtain ⟨y1, y2⟩ := List.mem_filter.1 hy
      rw [c2 x x1 x2, c2 y y1 y2]
  · show 1 ≤ (if readsV k w g 0 = true then 1 else 0) + _
    by_cases h0 : readsV k w g 0 = true
    · rw [if_pos h0]; omega
    · have : anyMut k g 0 (issuedL w.B 32) = true := by
        unfold readsV at h0
        rw [hok0, Bool.true_and] at h0
        simpa using h0
      obtain ⟨c, c1, c2, c3, c4⟩ := (ex_slot r.book (p := fun j => rightB k g 0 j = true ∧ (k.slots j).Mutable = true)).1 ((anyMut_iff r).1 this)
      unfold rightB at c3
      rw [Bool.and_eq_true, beq_iff_eq, beq_iff_eq] at c3
      obtain ⟨b, b1, b2⟩ := hD _ c (Nat.le_refl _) c1 c2 c3.1 c4
      have := List.length_pos_of_mem (l := on.filter fun h => readsV k w g h) (List.mem_filter.2 ⟨b1, b2⟩)
      omega
end Go.Proofs.Ytcdnmiianjaglaa
