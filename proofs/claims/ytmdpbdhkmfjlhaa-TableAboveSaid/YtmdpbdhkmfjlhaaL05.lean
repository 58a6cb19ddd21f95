/- Tables, as plain laws: the relation between the program's and the document's. -/
import Derived.Test.YtmdpbdhkmfjlhaaL09f
import Derived.Test.YtmdpbdhkmfjlhaaL04d
import Derived.Test.YtmdpbdhkmfjlhaaDAbove
namespace Go.Proofs.Ytmdpbdhkmfjlhaa
open Go Go.Bw

set_option maxRecDepth 100000 in
theorem wakes05 : law05_wakes 1000 = some true := by kernel_rfl

theorem goodW_lt {w : ref03_Book} {h : Int} (hg : goodW w h = true) : h < 4294967296 := slB_lt (goodW_iff.1 hg).1
theorem good_zero (w : ref03_Book) : goodW w 0 = false := rfl
theorem goodS_pos {w : ref03_Book} {h : Int} (hg : goodS w h) : 0 < h := by
  have := hg.1
  rcases Int.lt_or_eq_of_le this with h1 | h1
  · exact h1
  · subst h1; have := hg.2; rw [good_zero] at this; cases this
theorem and32 (x : Int) : 0 ≤ andI .i64 x 4294967295 ∧ andI .i64 x 4294967295 ≤ 4294967295 := by
  unfold andI
  have h : ((BitVec.ofInt (IntKind.bits .i64) x &&& BitVec.ofInt (IntKind.bits .i64) 4294967295).toNat) ≤ 4294967295 := by
    rw [BitVec.toNat_and]
    exact Nat.le_trans Nat.and_le_right (by decide)
  generalize ((BitVec.ofInt (IntKind.bits .i64) x &&& BitVec.ofInt (IntKind.bits .i64) 4294967295).toNat) = k at h
  have e : IntKind.wrap .i64 (k : Int) = k := w_i64 (by omega) (by omega)
  rw [e]; omega

/-- what a region is, but for what is above it -/
structure RegR (p : table_Region) (x : ref05_Region) : Prop where
  q : p.Quota = x.Quota
  e : p.E = ⟨x.E.Runs.map toR, x.E.Len⟩
  n : x.E.Runs.length ≤ 80
  r : ∀ y ∈ x.E.Runs.map toR, I64 y.At ∧ I64 y.N
  c : ∀ i, i < 8 → p.Cells i = x.Cells i
  c0 : ∀ i, i < 8 → 0 ≤ x.Cells i ∧ x.Cells i ≤ 4294967295
theorem RegR.setUp {p : table_Region} {x : ref05_Region} (h : RegR p x) (u v : Int) : RegR { p with Up := u } { x with Up := v } := ⟨h.q, h.e, h.n, h.r, h.c, h.c0⟩
def upV (B : ref03_Book) (h : Int) : Int := if goodW B h = true then h else 0
structure RTb (t : table_Table) (w : ref05_Table) : Prop where
  book : RB t.book.Book w.B
  reg : ∀ i, i < 32 → w.B.Is i = 1 → RegR (t.regions i) (w.R i)
  up : ∀ i, i < 32 → w.B.Is i = 1 → (w.R i).Up = upV w.B (t.regions i).Up
  old : ∀ i, i < 32 → w.B.Is i = 1 → (t.regions i).Up = 0 ∨ pastS w.B (t.regions i).Up
def Rk5 (w : ref05_Table) (ρ : Nat → Nat) : Prop := ∀ i, i < 32 → w.B.Is i = 1 → (w.R i).Up ≠ 0 → ρ (slN (w.R i).Up) < ρ i
def TTb (w : ref05_Table) : Prop := ∃ ρ : Nat → Nat, Rk5 w ρ
theorem RTb.up0 {t : table_Table} {w : ref05_Table} (r : RTb t w) {i : Nat} (hi : i < 32) (h1 : w.B.Is i = 1) : (w.R i).Up = 0 ∨ goodS w.B (w.R i).Up := by
  rw [r.up i hi h1]
  unfold upV
  split
  · rename_i h
    rcases r.old i hi h1 with h2 | h2
    · exact .inl h2
    · exact .inr ⟨h2.1, h⟩
  · exact .inl rfl
theorem good_live {w : ref03_Book} {x : Int} (h : goodS w x) : slN x < 32 ∧ w.Is (slN x) = 1 := ⟨slN_lt x, (good_slot h.2).2.1⟩
theorem RTb.ups {t : table_Table} {w : ref05_Table} (r : RTb t w) {x : Int} (hx : goodS w.B x) : (w.R (slN x)).Up = 0 ∨ goodS w.B (w.R (slN x)).Up := r.up0 (good_live hx).1 (good_live hx).2
theorem sl_inb (h : Int) : inb (slI h) 32 = true := inb_t (slI_ran h).1 (by have := slI_ran h; omega)

/-! what is above -/
theorem up5_eq {n : Nat} {t : table_Table} {w : ref05_Table} (r : RTb t w) {x : Int} (hx : goodS w.B x) : table_Table_up n t x = some (w.R (slN x)).Up := by
  unfold table_Table_up
  obtain ⟨l1, l2⟩ := good_live hx
  have ho := r.old _ l1 l2
  have hu : 0 ≤ (t.regions (slN x)).Up ∧ (t.regions (slN x)).Up < 4294967296 := by
    rcases ho with h | h
    · rw [h]; decide
    · exact ⟨h.1, slB_lt h.2.1⟩
  rw [bd_some (slot_eq hx.1 (goodW_lt hx.2)), gu_true (sl_inb x)]
  show bd (handle_Book_Good n t.book.Book (t.regions (slN x)).Up) _ = _
  rw [bd_some (goodB r.book hu.1 hu.2), r.up _ l1 l2]
  unfold upV
  show cn (goodW w.B (t.regions (slN x)).Up) (some (t.regions (slN x)).Up) (some 0) = _
  cases hg : goodW w.B (t.regions (slN x)).Up with
  | true => rw [cn_true rfl, if_pos rfl]
  | false => rw [cn_false rfl, if_neg (by decide)]
def vis5 (t : table_Table) (w : ref05_Table) (h : Int) : table_Region := { t.regions (slN h) with Up := (w.R (slN h)).Up }
def noR5 : table_Region := { Up := 0, Quota := 0, E := Z_extent_Extent, Cells := (fun _ => 0) }
theorem get5_eq {n : Nat} {t : table_Table} {w : ref05_Table} (r : RTb t w) {h : Int} (h0 : 0 ≤ h) (h1 : h < 4294967296) : table_Table_Get n t h = some (if goodW w.B h = true then (vis5 t w h, 0) else (noR5, 4)) := by
  unfold table_Table_Get
  rw [bd_some (goodB r.book h0 h1)]
  cases hg : goodW w.B h with
  | false => rfl
  | true =>
    rw [cn_false (b := !true) rfl, bd_some (slot_eq h0 h1), gu_true (sl_inb h), lt_eq, bd_some (up5_eq r ⟨h0, hg⟩), lt_eq, if_pos rfl]; rfl
theorem refget5_eq {n : Nat} (hn : 40 ≤ n) {t : table_Table} {w : ref05_Table} (r : RTb t w) {h : Int} (hg : goodS w.B h) : ref05_Table_Get n w h = some (w.R (slN h), 0) := by
  unfold ref05_Table_Get
  have hr := slI_ran h
  rw [bd_some (refslot_eq hn r.book hg.1), hg.2, if_pos rfl, cn_false (by simp; omega), gu_true (sl_inb h), lt_eq]
  rfl
theorem refgood5_eq {n : Nat} (hn : 40 ≤ n) {t : table_Table} {w : ref05_Table} (r : RTb t w) {h : Int} (h0 : 0 ≤ h) : ref05_Table_Good n w h = some (goodW w.B h) := by
  unfold ref05_Table_Good
  have hr := slI_ran h
  rw [bd_some (refslot_eq hn r.book h0)]
  cases goodW w.B h with
  | false => rfl
  | true => rw [if_pos rfl]; simpa using hr.1

/-- what an act does -/
structure Kp5 (t : table_Table) (w : ref05_Table) (t' : table_Table) (w' : ref05_Table) (who e : Int) (dr : Bool) : Prop where
  rt : RTb t' w'
  tt : TTb w'
  kp : ∀ g, goodS w.B g → ¬ (g = who ∧ e = 0) → goodS w'.B g ∧ (t'.regions (slN g)).Quota = (t.regions (slN g)).Quota ∧ (t'.regions (slN g)).E = (t.regions (slN g)).E ∧ (t'.regions (slN g)).Cells = (t.regions (slN g)).Cells ∧
    ((w'.R (slN g)).Up = (w.R (slN g)).Up ∨ (dr = true ∧ e = 0 ∧ (w.R (slN g)).Up = who ∧ who ≠ 0 ∧ (w'.R (slN g)).Up = 0))
theorem Kp5.same {t : table_Table} {w : ref05_Table} (r : RTb t w) (tt : TTb w) (who e : Int) (dr : Bool) : Kp5 t w t w who e dr := ⟨r, tt, fun _ hg _ => ⟨hg, rfl, rfl, rfl, .inl rfl⟩⟩

/-! Drop -/
theorem vd_good {b : handle_Book} {w : ref03_Book} (r : RB b w) {h : Int} (h0 : 0 ≤ h) (x : Int) : goodS (vdW w h) x ↔ goodS w x ∧ x ≠ h := good_void r h0 x
theorem upV_vd {b : handle_Book} {w : ref03_Book} (r : RB b w) {h u : Int} (hg : goodS w h) (hu : 0 ≤ u) : upV (vdW w h) u = if upV w u = h then 0 else upV w u := by
  have hv := vd_good r hg.1 u
  have hp := goodS_pos hg
  unfold upV
  cases h1 : goodW w u with
  | false =>
    have : goodW (vdW w h) u ≠ true := fun h2 => by
      have := (hv.1 ⟨hu, h2⟩).1.2; rw [h1] at this; cases this
    rw [if_neg this]; simp
  | true =>
    rw [if_pos rfl]
    by_cases e : u = h
    · rw [if_pos e, if_neg (fun h2 => (hv.1 ⟨hu, h2⟩).2 e)]
    · rw [if_neg e, if_pos (hv.2 ⟨⟨hu, h1⟩, e⟩).2]
theorem refclear5 {n : Nat} (hn : 40 ≤ n) (h : Int) (w : ref05_Table) : ∃ w' : ref05_Table, loop2 (fun k51 (x45 : Int) (x46 : ref05_Table) =>
  cn (decide (x45 < 32)) (
  gu (inb x45 32) <|
  cn ((((x46.R (Int.toNat x45)).Up) == h)) (
  gu (inb x45 32) <|
  lt ({ x46 with R := (upd x46.R (Int.toNat x45) ({ (x46.R (Int.toNat x45)) with Up := 0 })) } : ref05_Table) fun x54 =>
  k51 (wr .i64 (x45 + 1)) x54) (
  k51 (wr .i64 (x45 + 1)) x46)) (
  some (x46, (0 : Int)))) n 0 w = some (w', 0) ∧ w'.B = w.B ∧ ∀ i, i < 32 → w'.R i = if (w.R i).Up = h then { w.R i with Up := 0 } else w.R i := by
  refine loop2_ind (fun (i : Int) (v : ref05_Table) => 0 ≤ i ∧ i ≤ 32 ∧ v.B = w.B ∧ ∀ j, v.R j = if j < i.toNat ∧ (w.R j).Up = h then { w.R j with Up := 0 } else w.R j) (fun i _ => (32 - i).toNat)
    (fun o => ∃ w' : ref05_Table, o = some (w', 0) ∧ w'.B = w.B ∧ ∀ i, i < 32 → w'.R i = if (w.R i).Up = h then { w.R i with Up := 0 } else w.R i) ?_ n 0 w ⟨by omega, by omega, rfl, fun j => by simp⟩ (by omega)
  rintro kk i v ⟨i0, i1, hb, hv⟩ ih
  by_cases c : i < 32
  · have hi := hv i.toNat
    rw [if_neg (fun hh => absurd hh.1 (Nat.lt_irrefl _))] at hi
    rw [cn_true (by simpa using c), gu_true (inb_t i0 (by omega)), hi, w_i64 (x := i + 1) (by omega) (by omega)]
    have e1 : (i + 1).toNat = i.toNat + 1 := by omega
    by_cases hu : (w.R i.toNat).Up = h
    · rw [cn_true (by simpa using hu), gu_true (inb_t i0 (by omega)), lt_eq]
      refine ih _ _ ⟨by omega, by omega, hb, fun j => ?_⟩ (by omega)
      show upd v.R i.toNat _ j = _
      rw [upd_ite]
      by_cases ej : j = i.toNat
      · subst ej; rw [if_pos rfl, if_pos ⟨by omega, hu⟩]
      · rw [if_neg ej, hv j]
        by_cases hj : (w.R j).Up = h
        · by_cases hl : j < i.toNat
          · rw [if_pos ⟨hl, hj⟩, if_pos ⟨by omega, hj⟩]
          · rw [if_neg (fun hh => hl hh.1), if_neg (fun hh => by omega)]
        · rw [if_neg (fun hh => hj hh.2), if_neg (fun hh => hj hh.2)]
    · rw [cn_false (by simpa using hu)]
      refine ih _ _ ⟨by omega, by omega, hb, fun j => ?_⟩ (by omega)
      rw [hv j]
      by_cases ej : j = i.toNat
      · subst ej; rw [if_neg (fun hh => hu hh.2), if_neg (fun hh => hu hh.2)]
      · by_cases hj : (w.R j).Up = h
        · by_cases hl : j < i.toNat
          · rw [if_pos ⟨hl, hj⟩, if_pos ⟨by omega, hj⟩]
          · rw [if_neg (fun hh => hl hh.1), if_neg (fun hh => by omega)]
        · rw [if_neg (fun hh => hj hh.2), if_neg (fun hh => hj hh.2)]
  · rw [cn_false (by simpa using c)]
    refine ⟨v, rfl, hb, fun j hj => ?_⟩
    rw [hv j]
    by_cases hu : (w.R j).Up = h
    · rw [if_pos ⟨by omega, hu⟩, if_pos hu]
    · rw [if_neg (fun hh => hu hh.2), if_neg hu]
theorem drop5 {n : Nat} (hn : 40 ≤ n) {t : table_Table} {w : ref05_Table} (r : RTb t w) (tt : TTb w) {h : Int} (h0 : 0 ≤ h) (h1 : h < 4294967296) :
    ∃ t' w' e, table_Table_Drop n t h = some (t', e) ∧ ref05_Table_Drop n w h = some (w', e) ∧ Kp5 t w t' w' h e true := by
  obtain ⟨b', e1, r'⟩ := void_eq (n := n) r.book h0 h1
  cases hg : goodW w.B h with
  | false =>
    refine ⟨t, w, 4, ?_, ?_, .same r tt _ _ _⟩
    · unfold table_Table_Drop; rw [bd_some e1, hg]; rfl
    · unfold ref05_Table_Drop; rw [bd_some (refslot_eq hn r.book h0), hg]; rfl
  | true =>
    have hgs : goodS w.B h := ⟨h0, hg⟩
    obtain ⟨w', c1, c2, c3⟩ := refclear5 (n := n) hn h { B := vdW w.B h, R := upd w.R (slN h) { Up := 0, Quota := 0, E := Z_ref04_Extent, Cells := (fun _ => 0) } }
    have hpos := goodS_pos hgs
    refine ⟨{ book := { t.book with Book := b' }, regions := upd t.regions (slN h) noR5 }, w', 0, ?_, ?_, ?_⟩
    · unfold table_Table_Drop; rw [bd_some e1, hg, cn_false (b := !true) rfl, lt_eq, bd_some (slot_eq h0 h1), lt_eq, gu_true (sl_inb h), lt_eq]; rfl
    · unfold ref05_Table_Drop
      have hr := slI_ran h
      rw [bd_some (refslot_eq hn r.book h0), hg, if_pos rfl, cn_false (by simp; omega), bd_some (refvoid9 hn r.book h0), lt_eq, lt_eq, gu_true (sl_inb h), lt_eq]
      exact c1
    have hb : w'.B = vdW w.B h := c2
    have hlive : ∀ i, i < 32 → w'.B.Is i = 1 → w.B.Is i = 1 ∧ i ≠ slN h := fun i hi hs => by
      rw [hb] at hs
      refine ⟨(vd_live hs).1, fun e => ?_⟩
      subst e
      unfold vdW at hs
      rw [hg, if_pos rfl] at hs
      exact voidW_self w.B h hs
    have hR : ∀ i, i < 32 → i ≠ slN h → w'.R i = if (w.R i).Up = h then { w.R i with Up := 0 } else w.R i := fun i hi hne => by
      have q := c3 i hi
      simp only [upd_ne _ _ hne] at q
      exact q
    have hT : ∀ i, i ≠ slN h → upd t.regions (slN h) noR5 i = t.regions i := fun i hne => upd_ne _ _ hne
    have hU : ∀ i, i < 32 → i ≠ slN h → (w'.R i).Up = if (w.R i).Up = h then 0 else (w.R i).Up := fun i hi hne => by
      rw [hR i hi hne]; split <;> rfl
    refine ⟨⟨?_, fun i hi hs => ?_, fun i hi hs => ?_, fun i hi hs => ?_⟩, ?_, fun g hgg hne => ?_⟩
    · rw [hb]; exact r'
    · obtain ⟨l1, l2⟩ := hlive i hi hs
      have := r.reg i hi l1
      rw [hR i hi l2]
      dsimp only
      rw [hT i l2]
      split
      · exact ⟨this.q, this.e, this.n, this.r, this.c, this.c0⟩
      · exact this
    · obtain ⟨l1, l2⟩ := hlive i hi hs
      dsimp only
      rw [hT i l2, hU i hi l2, hb]
      rw [upV_vd r.book hgs, r.up i hi l1]
      rcases r.old i hi l1 with h | h
      · rw [h]; decide
      · exact h.1
    · obtain ⟨l1, l2⟩ := hlive i hi hs
      dsimp only
      rw [hT i l2, hb]
      exact (r.old i hi l1).imp _root_.id fun hp => past_void (h := h) _ hp
    · obtain ⟨ρ, hρ⟩ := tt
      refine ⟨ρ, fun i hi hs hu => ?_⟩
      obtain ⟨l1, l2⟩ := hlive i hi hs
      rw [hU i hi l2] at hu ⊢
      by_cases e : (w.R i).Up = h
      · rw [if_pos e] at hu; exact absurd rfl hu
      · rw [if_neg e] at hu ⊢; exact hρ i hi l1 hu
    · have hne2 : g ≠ h := fun e => hne ⟨e, rfl⟩
      have hg' : goodS w'.B g := by rw [hb]; exact (vd_good r.book h0 g).2 ⟨hgg, hne2⟩
      obtain ⟨l1, l2⟩ := hlive (slN g) (slN_lt g) (good_live hg').2
      refine ⟨hg', ?_, ?_, ?_, ?_⟩
      · dsimp only; rw [hT _ l2]
      · dsimp only; rw [hT _ l2]
      · dsimp only; rw [hT _ l2]
      · rw [hU _ (slN_lt g) l2]
        by_cases e : (w.R (slN g)).Up = h
        · rw [if_pos e]; exact .inr ⟨rfl, rfl, e, by omega, rfl⟩
        · rw [if_neg e]; exact .inl rfl
end Go.Proofs.Ytmdpbdhkmfjlhaa
