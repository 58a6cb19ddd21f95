/- Slices as lists: what is known of memory, slices that are read alone, rows that are owned; rules and contracts. No program is named. -/
import Derived.Test.YtmdpbdhkmfjlhaaLay
namespace Go.Bw
open Go Go.RowKit

/-! knowledge -/
def Hs (R : List Res) (w : World) : Prop := ∀ r ∈ R, r.holds w ∧ ∀ b ∈ r.blk, b < w.heap.size
class Stable (K : World → Prop) : Prop where
  ok : ∀ w w', K w → Since [] w w' → K w'
instance Stable_Hs (R : List Res) : Stable (Hs R) := ⟨fun w w' h hs r hr => ⟨Res.holds_same (h r hr).1 hs.size fun b hb => hs.block b ((h r hr).2 b hb) (by simp), fun b hb => Nat.lt_of_lt_of_le ((h r hr).2 b hb) hs.size⟩⟩
instance Stable_and (A B : World → Prop) [Stable A] [Stable B] : Stable (fun w => A w ∧ B w) := ⟨fun w w' h hs => ⟨Stable.ok w w' h.1 hs, Stable.ok w w' h.2 hs⟩⟩
instance Stable_true : Stable (fun _ => True) := ⟨fun _ _ h _ => h⟩

class HIn (A : World → Prop) (r : Res) : Prop where
  ok : ∀ w, A w → r.holds w ∧ ∀ b ∈ r.blk, b < w.heap.size
instance (priority := 100) HIn_here (r : Res) (R : List Res) : HIn (Hs (r :: R)) r := ⟨fun _ h => h r (by simp)⟩
instance (priority := 50) HIn_there (r s : Res) (R : List Res) [h : HIn (Hs R) r] : HIn (Hs (s :: R)) r := ⟨fun w hw => h.ok w fun q hq => hw q (by simp [hq])⟩
instance (priority := 40) HIn_l (A B : World → Prop) (r : Res) [h : HIn A r] : HIn (fun w => A w ∧ B w) r := ⟨fun w hw => h.ok w hw.1⟩
instance (priority := 30) HIn_r (A B : World → Prop) (r : Res) [h : HIn B r] : HIn (fun w => A w ∧ B w) r := ⟨fun w hw => h.ok w hw.2⟩
class Ent (A B : World → Prop) : Prop where
  ok : ∀ w, A w → B w
theorem ent {A B : World → Prop} [h : Ent A B] : ∀ w, A w → B w := h.ok
instance (priority := 100) Ent_refl (A : World → Prop) : Ent A A := ⟨fun _ h => h⟩
instance (priority := 90) Ent_and (A B C : World → Prop) [h : Ent A B] [k : Ent A C] : Ent A (fun w => B w ∧ C w) := ⟨fun w hw => ⟨h.ok w hw, k.ok w hw⟩⟩
instance (priority := 80) Ent_nil (A : World → Prop) : Ent A (Hs []) := ⟨fun _ _ _ h => by simp at h⟩
instance (priority := 80) Ent_true (A : World → Prop) : Ent A (fun _ => True) := ⟨fun _ _ => trivial⟩
instance (priority := 70) Ent_cons (A : World → Prop) (r : Res) (R : List Res) [h : HIn A r] [k : Ent A (Hs R)] : Ent A (Hs (r :: R)) := ⟨fun w hw q hq => by
  rcases List.mem_cons.1 hq with rfl | hq
  · exact h.ok w hw
  · exact k.ok w hw q hq⟩
instance (priority := 40) Ent_l (A B C : World → Prop) [h : Ent A C] : Ent (fun w => A w ∧ B w) C := ⟨fun w hw => h.ok w hw.1⟩
instance (priority := 30) Ent_r (A B C : World → Prop) [h : Ent B C] : Ent (fun w => A w ∧ B w) C := ⟨fun w hw => h.ok w hw.2⟩

class Kn (c : Cx) (H : List Res) (A : World → Prop) : Prop where
  ok : ∀ w, Since c.bs c.w0 w → HpOk c.bs c.w0.heap.size H w → A w
theorem kn {c : Cx} {H : List Res} {A : World → Prop} [h : Kn c H A] : ∀ w, Since c.bs c.w0 w → HpOk c.bs c.w0.heap.size H w → A w := h.ok
theorem hs_of {c : Cx} {H : List Res} {w : World} (h : HpOk c.bs c.w0.heap.size H w) : Hs H w := fun r hr => ⟨h.holds r hr, fun b hb => (h.own r hr b hb).2⟩
instance (priority := 90) Kn_and (c : Cx) (H : List Res) (A B : World → Prop) [h : Kn c H A] [k : Kn c H B] : Kn c H (fun w => A w ∧ B w) := ⟨fun w h1 h2 => ⟨h.ok w h1 h2, k.ok w h1 h2⟩⟩
instance (priority := 80) Kn_hs (c : Cx) (H R : List Res) [h : Ent (Hs H) (Hs R)] : Kn c H (Hs R) := ⟨fun w _ h2 => h.ok w (hs_of h2)⟩
instance (priority := 80) Kn_true (c : Cx) (H : List Res) : Kn c H (fun _ => True) := ⟨fun _ _ _ => trivial⟩
theorem kn_pre {c : Cx} {K : World → Prop} [hS : Stable K] (hbs : c.bs = []) (hpre : K c.w0) : ∀ H, Kn c H K := fun H => ⟨fun w hs _ => hS.ok c.w0 w hpre (by rw [hbs] at hs; exact hs)⟩

/-! lists in rows -/
section
variable {α β : Type}
def rowC (L : Lay α) [FlatL L] (xs : List α) : List Value := (xs.map L.enc).flatten
theorem rowC_len (L : Lay α) [FlatL L] (xs : List α) : (rowC L xs).length = xs.length * L.n := by
  induction xs with
  | nil => simp [rowC]
  | cons x xs ih => simp only [rowC, List.map_cons, List.flatten_cons, List.length_append, List.length_cons, enc_len] at *; rw [ih, Nat.succ_mul]; omega
theorem rowC_one (L : Lay α) [FlatL L] (xs : List α) : OneC (rowC L xs) := by
  intro v hv
  simp only [rowC, List.mem_flatten, List.mem_map] at hv
  obtain ⟨l, ⟨x, _, rfl⟩, h⟩ := hv
  exact enc_one L x v h
theorem rowC_app (L : Lay α) [FlatL L] (xs ys : List α) : rowC L (xs ++ ys) = rowC L xs ++ rowC L ys := by simp [rowC]
theorem rowC_one1 (L : Lay α) [FlatL L] (x : α) : rowC L [x] = L.enc x := by simp [rowC]
theorem flat_shift (g : Nat → List Value) : ∀ n, flat g (n + 1) = g 0 ++ flat (fun i => g (i + 1)) n := by
  intro n
  induction n with
  | zero => simp [flat]
  | succ n ih => rw [flat, ih, flat, List.append_assoc]
theorem rowC_flat (L : Lay α) [FlatL L] [Inhabited α] (xs : List α) : rowC L xs = (LA L xs.length).enc (fun i => xs.getD i default) := by
  show _ = flat (fun i => L.enc (xs.getD i default)) xs.length
  induction xs with
  | nil => rfl
  | cons x xs ih => rw [List.length_cons, flat_shift]; simp only [rowC, List.map_cons, List.flatten_cons] at *; rw [ih]; rfl
theorem rowC_cut (L : Lay α) [FlatL L] (xs : List α) (l h : Nat) (hl : l ≤ h) (hh : h ≤ xs.length) : ((rowC L xs).drop (l * L.n)).take ((h - l) * L.n) = rowC L ((xs.drop l).take (h - l)) := by
  have e1 : xs = xs.take l ++ ((xs.drop l).take (h - l) ++ (xs.drop l).drop (h - l)) := by rw [List.take_append_drop, List.take_append_drop]
  have l1 : (rowC L (xs.take l)).length = l * L.n := by rw [rowC_len, List.length_take, Nat.min_eq_left (by omega)]
  have l2 : (rowC L ((xs.drop l).take (h - l))).length = (h - l) * L.n := by rw [rowC_len]; congr 1; simp; omega
  conv => lhs; rw [e1, rowC_app, rowC_app]
  rw [← l1, List.drop_left, ← l2, List.take_left]
theorem rowC_set (L : Lay α) [FlatL L] [Inhabited α] (xs : List α) (m : Nat) (y : α) (hm : m < xs.length) : (LA L xs.length).enc (upd (fun i => xs.getD i default) m y) = rowC L (xs.set m y) := by
  rw [rowC_flat, List.length_set]
  show flat _ _ = flat _ _
  refine flat_congr fun i hi => ?_
  congr 1
  unfold upd
  simp only [List.getD, List.getElem?_set]
  by_cases e : m = i
  · subst e; simp [hm]
  · simp [e, Ne.symm e]

/-- a slice that is only read, as a list -/
structure Fz (A : World → Prop) (v : Value) (L : Lay α) [FlatL L] (xs : List α) : Prop where
  sl : SlN v xs.length
  ro : ∀ w, A w → Ro w v L.n xs.length (rowC L xs)
theorem Fz.mono {A B : World → Prop} {v : Value} {L : Lay α} [FlatL L] {xs : List α} (h : Fz A v L xs) (m : ∀ w, B w → A w) : Fz B v L xs := ⟨h.sl, fun w hw => h.ro w (m w hw)⟩
theorem Fz.nil {A : World → Prop} {L : Lay α} [FlatL L] {a : Option Addr} {cp : Nat} : Fz A (.slice a 0 cp) L ([] : List α) := ⟨⟨_, _, rfl⟩, fun _ _ => ⟨by simp [rowC], .inl ⟨⟨_, _, rfl⟩, rfl⟩⟩⟩
theorem Fz.at {c : Cx} {H : List Res} {A : World → Prop} {v : Value} {L : Lay α} [FlatL L] {xs : List α} (h : Fz A v L xs) [k : Kn c H A] : RowAt c H v L.n xs.length (rowC L xs) := ⟨fun w h1 h2 => h.ro w (k.ok w h1 h2)⟩
theorem Fz.cut {A : World → Prop} {v : Value} {L : Lay α} [FlatL L] {xs : List α} (h : Fz A v L xs) (l m sz : Nat) (hs : sz = L.n) (hl : l ≤ m) (hm : m ≤ xs.length) : Fz A (cutV l m sz v) L ((xs.drop l).take (m - l)) := by
  subst hs
  have hlen : ((xs.drop l).take (m - l)).length = m - l := by simp; omega
  refine ⟨?_, fun w hw => ?_⟩
  · obtain ⟨a, cp, rfl⟩ := h.sl
    rw [hlen]; exact ⟨_, _, rfl⟩
  · have := (h.ro w hw).cut hl hm
    rw [rowC_cut L xs l m hl hm] at this
    rw [hlen]; exact this

abbrev Row (v : Value) (e sz : Nat) (L : Lay α) [FlatL L] (xs : List α) : Res := .row v e sz xs.length (rowC L xs)
theorem Fz.row {v : Value} {e sz : Nat} {L : Lay α} [FlatL L] {xs : List α} (hs : sz = L.n) (h : SlN v xs.length) : Fz (Hs [Row v e sz L xs]) v L xs := ⟨h, fun w hw => by
  subst hs
  have h1 : (Row v e L.n L xs).holds w := (hw _ (List.mem_singleton.2 rfl)).1
  exact Ro.of_row (e := e) h1⟩
theorem Fz.cells {b T m : Nat} {L : Lay α} [FlatL L] {xs : List α} (hm : m = xs.length) : Fz (Hs [.cells b T (rowC L xs)]) (.slice (some ⟨b, 0, none⟩) m m) L xs := by
  subst hm
  refine ⟨⟨_, _, rfl⟩, fun w hw => ?_⟩
  obtain ⟨h1, h2⟩ := hw _ (List.mem_singleton.2 rfl)
  refine ⟨rowC_len _ _, .inr ⟨b, 0, _, rfl, h2 b (by simp [Res.blk]), Nat.le_refl _, fun j u hu => ?_⟩⟩
  rw [Nat.zero_add, cell_of h1]; exact hu
/-- a part of an array that lies in a block -/
theorem Fz.arr {b T o n m : Nat} {L : Lay α} {M : Lay β} [FlatL L] [FlatL M] [Inhabited β] {x : α} {g : α → Nat → β} {s : α → (Nat → β) → α} (p : Pth L (LA M n) o g s) (cap : Nat) (hm : m ≤ n) (hc : m ≤ cap) :
    Fz (Hs [.cells b T (L.enc x)]) (.slice (some ⟨b, o, none⟩) m cap) M ((List.range m).map (g x)) := by
  refine ⟨⟨some ⟨b, o, none⟩, cap, by simp⟩, fun w hw => ?_⟩
  obtain ⟨h1, h2⟩ := hw _ (List.mem_singleton.2 rfl)
  refine ⟨rowC_len _ _, .inr ⟨b, o, cap, by simp, h2 b (by simp [Res.blk]), by simpa using hc, fun j u hu => ?_⟩⟩
  rw [cell_of h1]
  have hp := p.agg x
  have hj := (List.getElem?_eq_some_iff.1 hu).1
  rw [rowC_len, List.length_map, List.length_range] at hj
  have e1 : rowC M ((List.range m).map (g x)) = flat (fun i => M.enc (g x i)) m := by
    rw [rowC_flat]
    show flat _ _ = _
    rw [List.length_map, List.length_range]
    refine flat_congr fun i hi => ?_
    simp [List.getD, hi]
  have h0 : 0 < M.n := by
    rcases Nat.eq_zero_or_pos M.n with h | h
    · rw [h] at hj; omega
    · exact h
  have hd : j = (j / M.n) * M.n + j % M.n := by rw [Nat.mul_comm]; exact (Nat.div_add_mod j _).symm
  have hq : j / M.n < m := (Nat.div_lt_iff_lt_mul h0).2 hj
  rw [e1, hd, flat_get (g := fun i => M.enc (g x i)) (fun _ _ => enc_len _ _) hq (Nat.mod_lt _ h0)] at hu
  have h5 : (((L.enc x).drop o).take (LA M n).n)[j]? = some u := by
    rw [hp]
    show (flat (fun i => M.enc (g x i)) n)[j]? = some u
    rw [hd, flat_get (g := fun i => M.enc (g x i)) (fun _ _ => enc_len _ _) (by omega) (Nat.mod_lt _ h0)]
    exact hu
  rw [List.getElem?_take] at h5
  split at h5
  · rwa [List.getElem?_drop] at h5
  · cases h5

theorem rowC_range (M : Lay β) [FlatL M] [Inhabited β] (g : Nat → β) (m : Nat) : rowC M ((List.range m).map g) = flat (fun i => M.enc (g i)) m := by
  rw [rowC_flat]
  show flat _ _ = _
  rw [List.length_map, List.length_range]
  refine flat_congr fun i hi => ?_
  simp [List.getD, hi]
theorem Fz.of_ro {W : World} {v : Value} {L : Lay α} [FlatL L] [Inhabited α] {sz len : Nat} {g : Nat → α} (hs : sz = L.n) (hv : SlN v len) (h : Ro W v sz len (flat (fun i => L.enc (g i)) len)) : Fz (fun w => Since [] W w) v L ((List.range len).map g) := by
  subst hs
  refine ⟨by simpa using hv, fun w hw => ?_⟩
  rw [rowC_range]
  have := h.since hw
  simpa using this
instance Stable_since (W : World) : Stable (fun w => Since [] W w) := ⟨fun _ _ h hs => h.ext hs⟩

/-- the layout of a slice that is read alone -/
def LSl (L : Lay α) [FlatL L] : Lay (List α) where
  n := 1
  rep A cs xs := ∃ v, cs = [v] ∧ Fz A v L xs
  len := fun ⟨v, h, _⟩ => by subst h; rfl
  one := fun ⟨v, h, hf⟩ => by subst h; intro u hu; rw [List.mem_singleton.1 hu]; exact hf.sl.one
  mono m := fun ⟨v, h, hf⟩ => ⟨v, h, hf.mono m⟩
theorem Pth.sl {L : Lay α} {M : Lay β} [FlatL M] {o : Nat} {g : α → List β} {s : α → List β → α} (p : Pth L (LSl M) o g s) {A cs x} (r : L.rep A cs x) : ∃ v, cs[o]? = some v ∧ Fz A v M (g x) := by
  obtain ⟨v, h, hf⟩ := p.get r
  refine ⟨v, ?_, hf⟩
  have h2 : ((cs.drop o).take (LSl M).n)[0]? = some v := by rw [h]; rfl
  rw [List.getElem?_take, if_pos (by show 0 < 1; decide), List.getElem?_drop] at h2
  exact h2
end

section rules
variable {P : Program} {N : Nat} {c : Cx} {D : List Deferred} {Q : Exit → Act → World → Prop} {F : Frm} {H : List Res} {d : Option Tmp} {ty : TypeId} {ps : String} {af : Array Edge} {g : Option (Nat × Bool)} {α β γ : Type}

/-! reading a slice -/
section
variable {A : World → Prop} {v : Value} {L : Lay α} [FlatL L] {xs : List α}
theorem VS_lenF {x : Operand} {t e q : Nat} [ht : TSl P t e q] (hf : Fz A v L xs) (hx : ev F x = some v) [Kn c H A] : VS P N c ⟨d, .call ⟨.builtin .len, #[x], #[t]⟩, ty, ps, af, g⟩ F H (.int .i64 (xs.length : Int)) := by
  haveI := hf.at (c := c) (H := H)
  exact VS_len hx
theorem VS_ixF {x y : Operand} {t e sz m : Nat} {k : IntKind} {i : Int} [ht : TSl P t e sz] (hf : Fz A v L xs) (hs : L.n = sz) (hx : ev F x = some v) (hy : ev F y = some (.int k i)) [Kn c H A] (hi : i = (m : Int)) (hm : m < xs.length) :
    VS P N c ⟨d, .indexAddr t x y, ty, ps, af, g⟩ F H (rowPtr v (m * sz)) := by
  haveI := hf.at (c := c) (H := H)
  subst hs
  exact VS_index_row hx hy hi hm
theorem VS_fldF {x : Operand} {s f fo k m : Nat} [TFld P s f fo] (hf : Fz A v L xs) (hx : ev F x = some (rowPtr v k)) [Kn c H A] (hm : m < xs.length) : VS P N c ⟨d, .fieldAddr s x f, ty, ps, af, g⟩ F H (rowPtr v (k + fo)) := by
  haveI := hf.at (c := c) (H := H)
  exact VS_field_row hx hm
variable [Inhabited α]
theorem VS_ldiF {k : IntKind} {o t : Nat} {y : Operand} {gg : (Nat → α) → Int} {s : (Nat → α) → Int → (Nat → α)} (hf : Fz A v L xs) (p : Pth (LA L xs.length) (LI k) o gg s) (hx : ev F y = some (rowPtr v o)) [Kn c H A] [TOne P t] : VS P N c ⟨d, .load t y, ty, ps, af, g⟩ F H (.int k (gg (fun i => xs.getD i default))) := by
  haveI := hf.at (c := c) (H := H)
  exact VS_load_row hx (by rw [rowC_flat]; exact p.int (rp _ _))
theorem VS_ldbF {o t : Nat} {y : Operand} {gg : (Nat → α) → Bool} {s : (Nat → α) → Bool → (Nat → α)} (hf : Fz A v L xs) (p : Pth (LA L xs.length) LB o gg s) (hx : ev F y = some (rowPtr v o)) [Kn c H A] [TOne P t] : VS P N c ⟨d, .load t y, ty, ps, af, g⟩ F H (.bool (gg (fun i => xs.getD i default))) := by
  haveI := hf.at (c := c) (H := H)
  exact VS_load_row hx (by rw [rowC_flat]; exact p.bool (rp _ _))
theorem VS_ldaF {M : Lay β} [FlatL M] {o t q : Nat} {y : Operand} {gg : (Nat → α) → β} {s : (Nat → α) → β → (Nat → α)} (hf : Fz A v L xs) (p : Pth (LA L xs.length) M o gg s) (hx : ev F y = some (rowPtr v o)) [Kn c H A] [TAgg P t q] (hn : M.n = q) (h0 : 0 < q) :
    VS P N c ⟨d, .load t y, ty, ps, af, g⟩ F H (.agg (M.enc (gg (fun i => xs.getD i default))).toArray) := by
  haveI := hf.at (c := c) (H := H)
  subst hn
  exact VS_loada_row hx (by rw [rowC_flat]; exact p.agg _) (enc_len _ _) h0
end

theorem ex_eq {β : Type} {p : β → Prop} {x : β} (h : p x) : ∃ y, x = y ∧ p y := ⟨x, rfl, h⟩
def apok (n m b : Nat) : Bool := decide ((n + m) * b ≤ 140737488355328 ∧ n + m ≤ 9223372036854775807)
theorem apok_e {n m b : Nat} (h : apok n m b = true) : (n + m) * b ≤ 140737488355328 ∧ n + m ≤ 9223372036854775807 := of_decide_eq_true h
theorem Fz.cell1 {b T : Nat} {L : Lay α} [FlatL L] (y : α) : Fz (Hs [.cells b T (L.enc y)]) (.slice (some ⟨b, 0, none⟩) 1 1) L [y] := by
  have := Fz.cells (b := b) (T := T) (m := 1) (L := L) (xs := [y]) rfl
  rwa [rowC_one1] at this
theorem Fz.cutlo {A : World → Prop} {v : Value} {L : Lay α} [FlatL L] {xs : List α} (h : Fz A v L xs) (l sz : Nat) (hs : sz = L.n) (hl : l ≤ xs.length) : Fz A (cutV l xs.length sz v) L (xs.drop l) := by
  have := h.cut l xs.length sz hs hl (Nat.le_refl _)
  rwa [List.take_of_length_le (by simp)] at this
theorem Fz.cuthi {A : World → Prop} {v : Value} {L : Lay α} [FlatL L] {xs : List α} (h : Fz A v L xs) (m sz : Nat) (hs : sz = L.n) (hm : m ≤ xs.length) : Fz A (cutV 0 m sz v) L (xs.take m) := by
  have := h.cut 0 m sz hs (Nat.zero_le _) hm
  rwa [List.drop_zero, Nat.sub_zero] at this
section
variable {A : World → Prop} {v : Value} {L : Lay α} [FlatL L] {xs : List α}
theorem VS_cutloF {x lo : Operand} {t e q l : Nat} {k : IntKind} {i : Int} [ht : TSl P t e q] (hf : Fz A v L xs) (hx : ev F x = some v) (hlo : ev F lo = some (.int k i)) (hi : i = (l : Int)) (hl : l ≤ xs.length) [Kn c H A] :
    VS P N c ⟨d, .slice t x (some lo) none none, ty, ps, af, g⟩ F H (cutV l xs.length q v) := by
  subst hi; haveI := hf.at (c := c) (H := H); exact VS_cut_lo l hx hlo hl
theorem VS_cuthiF {x hi : Operand} {t e q m : Nat} {k : IntKind} {i : Int} [ht : TSl P t e q] (hf : Fz A v L xs) (hx : ev F x = some v) (hhi : ev F hi = some (.int k i)) (hi' : i = (m : Int)) (hm : m ≤ xs.length) [Kn c H A] :
    VS P N c ⟨d, .slice t x none (some hi) none, ty, ps, af, g⟩ F H (cutV 0 m q v) := by
  subst hi'; haveI := hf.at (c := c) (H := H); exact VS_cut_hi m hx hhi hm
theorem VS_cutF {x lo hi : Operand} {t e q l m : Nat} {k k' : IntKind} {i i' : Int} [ht : TSl P t e q] (hf : Fz A v L xs) (hx : ev F x = some v) (hlo : ev F lo = some (.int k i)) (hhi : ev F hi = some (.int k' i')) (h1 : i = (l : Int)) (h2 : i' = (m : Int)) (hl : l ≤ m) (hm : m ≤ xs.length) [Kn c H A] :
    VS P N c ⟨d, .slice t x (some lo) (some hi) none, ty, ps, af, g⟩ F H (cutV l m q v) := by
  subst h1 h2; haveI := hf.at (c := c) (H := H); exact VS_cut l m hx hlo hhi hl hm
end
theorem RX_stN {L : Lay α} {M : Lay β} {o b t T q : Nat} {y z : Operand} {gg : α → β} {s : α → β → α} {val : Value} {cs cs' : List Value} (vs : List Value) {x : α} {v : β} {A B : World → Prop} {H' : List Res} (p : Pth L M o gg s) (r : L.rep A cs x) (rv : M.rep B vs v) (hx : ev F y = some (Ptr b o)) (hz : ev F z = some val) (hv : val.cells.toList = vs)
    [HasC H b T cs] [ht : TSz P t q] (hn : M.n = q) (hc : splice cs o vs = cs') [SetC H b cs' H'] : RX (α := Unit) P N c ⟨d, .store t y z, ty, ps, af, g⟩ F H (fun _ => True) (fun _ => undef) (fun _ => H') := by
  subst hn
  exact RX_store hx hz hv (M.len rv) (by rw [L.len r]; exact p.le) (M.one rv) hc

/-! owned rows -/
section
variable {v : Value} {L : Lay α} [FlatL L] {xs : List α} {t e sz bytes : Nat} {f : Res → List Res}
theorem RX_app1 {s x : Operand} {b T cp : Nat} {y : α} [TEl P t e sz bytes] (hs : ev F s = some v) [hr : SetRF H v e sz xs.length (rowC L xs) f] (hx : ev F x = some (.slice (some ⟨b, 0, none⟩) 1 cp)) [hc : HasC H b T (L.enc y)] (hn : L.n = sz)
    (hsm : (xs.length + 1) * bytes ≤ 140737488355328) (h63 : xs.length + 1 ≤ 9223372036854775807) :
    RX P N c ⟨d, .call ⟨.builtin .append, #[s, x], #[t, t]⟩, ty, ps, af, g⟩ F H (fun v' => SlN v' (xs ++ [y]).length) (fun v' => v') (fun v' => f (Row v' e sz L (xs ++ [y]))) := by
  have h := RX_append (P := P) (N := N) (c := c) (F := F) (H := H) (d := d) (ty := ty) (p := ps) (af := af) (g := g) (t := t) (m := 1) hs hx (by rw [enc_len, hn]; omega) (enc_one L y) hsm h63 (hr := hr) (hc := hc)
  have e1 : (xs ++ [y]).length = xs.length + 1 := by simp
  have e2 : rowC L (xs ++ [y]) = rowC L xs ++ L.enc y := by rw [rowC_app, rowC_one1]
  unfold Row
  rw [e1, e2]; exact h
theorem RX_apps {s x : Operand} {A : World → Prop} {u : Value} {ys : List α} [TEl P t e sz bytes] (hf : Fz A u L ys) (hs : ev F s = some v) [hr : SetRF H v e sz xs.length (rowC L xs) f] (hx : ev F x = some u) [Kn c H A] (hn : L.n = sz)
    (hsm : (xs.length + ys.length) * bytes ≤ 140737488355328) (h63 : xs.length + ys.length ≤ 9223372036854775807) :
    RX P N c ⟨d, .call ⟨.builtin .append, #[s, x], #[t, t]⟩, ty, ps, af, g⟩ F H (fun v' => SlN v' (xs ++ ys).length) (fun v' => v') (fun v' => f (Row v' e sz L (xs ++ ys))) := by
  subst hn
  have h := RX_append_ro (P := P) (N := N) (c := c) (F := F) (H := H) (d := d) (ty := ty) (p := ps) (af := af) (g := g) (t := t) hs hx (hr := hr) (hu := hf.at) (rowC_one L ys) hsm h63
  have e1 : (xs ++ ys).length = xs.length + ys.length := by simp
  have e2 : rowC L (xs ++ ys) = rowC L xs ++ rowC L ys := rowC_app _ _ _
  unfold Row
  rw [e1, e2]; exact h
theorem RX_bs1 {x : Operand} (L : Lay α) [FlatL L] (y : α) {zs : List Value} {val : Value} [ht : TSl P t e sz] [hz : TZero P e zs] (hx : ev F x = some val) (hc : val.cells.toList = L.enc y) (hl : L.n = sz) (hzl : zs.length = sz) (h0 : 0 < sz) (hs : sz ≤ 16777216) :
    RX P N c ⟨d, .buildSlice t 1 #[(0, x)], ty, ps, af, g⟩ F H (fun _ => True) (fun b => .slice (some ⟨b, 0, none⟩) 1 1) (fun b => .cells b e (L.enc y) :: H) := RX_buildSlice1 hx hc (by rw [enc_len]; exact hl) hzl h0 hs
end

theorem WP_rowN {x : Code} (e sz : Nat) (L : Lay α) [FlatL L] (h : WP P N c D x Q F (Row (.slice none 0 0) e sz L [] :: H)) : WP P N c D x Q F H := WP_row0 e sz h
theorem WL_rowN {ops : Array Oper} {x : List Oper} (e sz : Nat) (L : Lay α) [FlatL L] (h : WL P N c D ops Q x F (Row (.slice none 0 0) e sz L [] :: H)) : WL P N c D ops Q x F H := WL_row0 e sz h
theorem WQ_rowN {x : Exit} (e sz : Nat) (L : Lay α) [FlatL L] (h : WQ N c D Q x F (Row (.slice none 0 0) e sz L [] :: H)) : WQ N c D Q x F H := WQ_row0 e sz h
theorem hp_ext0 {bs : List Nat} {n0 : Nat} {w : World} (h : HpOk bs n0 H w) : HpOk bs n0 (.ext [] (Hs []) :: H) w :=
  h.cons (fun w' _ _ r hr => by simp at hr) (fun b hb => by simp [Res.blk] at hb) (fun s hs b hb => by simp [Res.blk] at hb)
theorem WP_ext0 {x : Code} (h : WP P N c D x Q F (.ext [] (Hs []) :: H)) : WP P N c D x Q F H := WP_res (fun _ _ _ hp => hp_ext0 hp) h

/-! contracts of functions that hand out slices: what they hand out lies in blocks of their own, or where their arguments lie -/
abbrev FnB (P : Program) (f : Nat) (args : List Value) (K : World → Prop) (p : (World → Prop) → Value → Prop) : Prop :=
  Fn (α := Value × List Nat × (World → Prop)) P f args K [] (fun x => p (Hs [.ext x.2.1 x.2.2]) x.1) (fun x => x.1) (fun x => [.ext x.2.1 x.2.2])
theorem RX_callB {args : List Operand} {ats : Array TypeId} {f : Nat} {vs : List Value} {K : World → Prop} {p : (World → Prop) → Value → Prop} (hc : FnB P f vs K p) (ha : evs F args = some vs) [k : Kn c H K] :
    RX (α := Value × List Nat × (World → Prop)) P N c ⟨d, .call ⟨.value (.func f), args.toArray, ats⟩, ty, ps, af, g⟩ F H (fun x => p (Hs [.ext x.2.1 x.2.2]) x.1) (fun x => x.1) (fun x => .ext x.2.1 x.2.2 :: H) := RX_call hc ha k.ok

/-- the same under a guard -/
theorem WL_callBg {D : List Deferred} {ops : Array Oper} {rest : List Oper} {args : List Operand} {ats : Array TypeId} {f : Nat} {vs : List Value} {K : World → Prop} {p : (World → Prop) → Value → Prop} {dd : Tmp} {gg : Option (Nat × Bool)} {b : Bool}
    (hg : Gd ops F gg b) (hd : Nat.blt dd N = true) (hc : b = true → FnB P f vs K p) (ha : b = true → evs F args = some vs) (k : b = true → Kn c H K)
    (h : ∀ x : Value × List Nat × (World → Prop), (b = true → p (Hs [.ext x.2.1 x.2.2]) x.1) → WL P N c D ops Q rest ((dd, bif b then x.1 else undef) :: F) (.ext x.2.1 x.2.2 :: H)) :
    WL P N c D ops Q (⟨some dd, .call ⟨.value (.func f), args.toArray, ats⟩, ty, ps, af, gg⟩ :: rest) F H := by
  cases b with
  | false => exact WL_skip hg hd (WL_res (fun _ _ _ hp => hp_ext0 hp) (h (undef, [], Hs []) nofun))
  | true =>
    intro a w hst
    simp only [wpListIn, hg ⟨some dd, .call ⟨.value (.func f), args.toArray, ats⟩, ty, ps, af, gg⟩ a rfl hst.fr, if_true]
    haveI := k rfl
    exact RX_callB (hc rfl) (ha rfl) D a w _ Q hst fun x w' hp hs hh => h x (fun _ => hp) _ _ (hst.put (d := some dd) hd hs hh)
theorem RG_callB {ops : Array Oper} {args : List Operand} {ats : Array TypeId} {f : Nat} {vs : List Value} {K : World → Prop} {p : (World → Prop) → Value → Prop} {gg : Option (Nat × Bool)} {b : Bool}
    (hg : Gd ops F gg b) (hc : b = true → FnB P f vs K p) (ha : b = true → evs F args = some vs) (k : b = true → Kn c H K) :
    RG (α := Value × List Nat × (World → Prop)) P N c ops ⟨d, .call ⟨.value (.func f), args.toArray, ats⟩, ty, ps, af, gg⟩ F H (fun x => b = true → p (Hs [.ext x.2.1 x.2.2]) x.1) (fun x => bif b then x.1 else undef) (fun x => .ext x.2.1 x.2.2 :: H) := fun D a w next Q hst hk => by
  rw [hg ⟨d, .call ⟨.value (.func f), args.toArray, ats⟩, ty, ps, af, gg⟩ a rfl hst.fr]
  cases b with
  | false => exact hk (undef, [], Hs []) w nofun hst.si (hp_ext0 hst.hp)
  | true =>
    haveI := k rfl
    exact RX_callB (hc rfl) (ha rfl) D a w next Q hst fun x w' hp hs hh => hk x w' (fun _ => hp) hs hh
theorem bundle {bs : List Nat} {n0 : Nat} {w : World} {R H' : List Res} (h : HpOk bs n0 (R ++ H') w) : HpOk bs n0 (.ext (blks R) (Hs R) :: H') w := by
  have hp := List.pairwise_append.1 h.apart
  refine ⟨fun r hr => ?_, fun r hr b hb => ?_, ?_⟩
  · rcases List.mem_cons.1 hr with rfl | hr
    · intro w' h1 h2 q hq
      have hq' := h.holds q (List.mem_append_left _ hq)
      exact ⟨Res.holds_same hq' h1 fun b hb => h2 b (mem_blks.2 ⟨q, hq, hb⟩), fun b hb => Nat.lt_of_lt_of_le (h.own q (List.mem_append_left _ hq) b hb).2 h1⟩
    · exact h.holds r (List.mem_append_right _ hr)
  · rcases List.mem_cons.1 hr with rfl | hr
    · obtain ⟨q, hq, hb⟩ := mem_blks.1 hb; exact h.own q (List.mem_append_left _ hq) b hb
    · exact h.own r (List.mem_append_right _ hr) b hb
  · refine List.pairwise_cons.2 ⟨fun s hs b hb hbs => ?_, hp.2.1⟩
    obtain ⟨q, hq, hb⟩ := mem_blks.1 hb
    exact hp.2.2 q hq s hs b hb hbs
theorem WQ_pick {e : Exit} {H' : List Res} {ks : List Nat} (hk : pick H ks = some H') (hn : ks.Nodup) (h : WQ N c D Q e F H') : WQ N c D Q e F H := WQ_res (fun _ _ _ hp => hp.pick hk hn) h
theorem WQ_extk {e : Exit} {J : Nat → List Nat → World → Prop} {k n : Nat} {es : List Nat} {H' : List Res} (ek : k = n) (h : WQ N c D Q e F (.ext es (J n es) :: H')) : WQ N c D Q e F (.ext es (J k es) :: H') := ek ▸ h
theorem WQ_bundle {e : Exit} {R H' : List Res} {ks : List Nat} (hk : pick H ks = some (R ++ H')) (hn : ks.Nodup) (h : WQ N c D Q e F (.ext (blks R) (Hs R) :: H')) : WQ N c D Q e F H := WQ_res (fun _ _ _ hp => bundle (hp.pick hk hn)) h
instance (priority := 60) HIn_ext (bs : List Nat) (R : List Res) (r : Res) (S : List Res) [h : HIn (Hs R) r] : HIn (Hs (.ext bs (Hs R) :: S)) r := ⟨fun w hw => h.ok w (ext_get (hw (.ext bs (Hs R)) (by simp)).1)⟩
end rules
end Go.Bw
