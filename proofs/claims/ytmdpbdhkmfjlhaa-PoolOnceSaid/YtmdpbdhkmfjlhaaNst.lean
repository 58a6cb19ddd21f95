/- Slices of what is not flat: read alone. No program is named. -/
import Derived.Test.YtmdpbdhkmfjlhaaSl2
import Derived.Test.YtmdpbdhkmfjlhaaOpn
import Derived.ChangeKeysEq
namespace Go.Bw
open Go Go.RowKit Go.ChangeShapes Go.WideShapes Go.Deep

section
variable {α β : Type}
/-- a slice that is read, whose cells are these -/
structure Fzc [Inhabited α] (A : World → Prop) (v : Value) (L : Lay α) (ws : List Value) (xs : List α) : Prop where
  sl : SlN v xs.length
  rep : (LA L xs.length).rep A ws (fun i => xs.getD i default)
  ro : ∀ w, A w → Ro w v L.n xs.length ws
theorem Fzc.mono [Inhabited α] {A B : World → Prop} {v : Value} {L : Lay α} {ws : List Value} {xs : List α} (h : Fzc A v L ws xs) (m : ∀ w, B w → A w) : Fzc B v L ws xs := ⟨h.sl, Lay.mono _ m h.rep, fun w hw => h.ro w (m w hw)⟩
theorem Fzc.at [Inhabited α] {c : Cx} {H : List Res} {A : World → Prop} {v : Value} {L : Lay α} {ws : List Value} {xs : List α} (h : Fzc A v L ws xs) [k : Kn c H A] : RowAt c H v L.n xs.length ws := ⟨fun w h1 h2 => h.ro w (k.ok w h1 h2)⟩
theorem Fzc.nil [Inhabited α] {A : World → Prop} {L : Lay α} : Fzc A (.slice none 0 0) L [] ([] : List α) := ⟨⟨_, _, rfl⟩, ⟨fun _ => [], rfl, fun i hi => absurd hi (Nat.not_lt_zero _)⟩, fun _ _ => ⟨by simp, .inl ⟨⟨_, _, rfl⟩, rfl⟩⟩⟩
/-- the layout of such a slice -/
def LSn [Inhabited α] (L : Lay α) : Lay (List α) where
  n := 1
  rep A cs xs := ∃ v ws, cs = [v] ∧ Fzc A v L ws xs
  len := fun ⟨v, ws, h, _⟩ => by subst h; rfl
  one := fun ⟨v, ws, h, hf⟩ => by subst h; intro u hu; rw [List.mem_singleton.1 hu]; exact hf.sl.one
  mono m := fun ⟨v, ws, h, hf⟩ => ⟨v, ws, h, hf.mono m⟩
end

theorem rep_ex {β : Type} {M : Lay β} {A : World → Prop} {cs : List Value} {x : β} (h : M.rep A cs x) : ∃ c, cs = c ∧ M.rep A c x := ⟨cs, rfl, h⟩
section rules
variable {P : Program} {N : Nat} {c : Cx} {D : List Deferred} {Q : Exit → Act → World → Prop} {F : Frm} {H : List Res} {d : Option Tmp} {ty : TypeId} {ps : String} {af : Array Edge} {g : Option (Nat × Bool)} {α β γ : Type}
  {A : World → Prop} {v : Value} {L : Lay α} [Inhabited α] {ws : List Value} {xs : List α}
theorem VS_lenN {x : Operand} {t e q : Nat} [ht : TSl P t e q] (hf : Fzc A v L ws xs) (hx : ev F x = some v) [Kn c H A] : VS P N c ⟨d, .call ⟨.builtin .len, #[x], #[t]⟩, ty, ps, af, g⟩ F H (.int .i64 (xs.length : Int)) := by
  haveI := hf.at (c := c) (H := H)
  exact VS_len hx
theorem VS_ixN {x y : Operand} {t e sz m : Nat} {k : IntKind} {i : Int} [ht : TSl P t e sz] (hf : Fzc A v L ws xs) (hs : L.n = sz) (hx : ev F x = some v) (hy : ev F y = some (.int k i)) [Kn c H A] (hi : i = (m : Int)) (hm : m < xs.length) :
    VS P N c ⟨d, .indexAddr t x y, ty, ps, af, g⟩ F H (rowPtr v (m * sz)) := by
  haveI := hf.at (c := c) (H := H)
  subst hs
  exact VS_index_row hx hy hi hm
theorem VS_fldN {x : Operand} {s f fo k m : Nat} [TFld P s f fo] (hf : Fzc A v L ws xs) (hx : ev F x = some (rowPtr v k)) [Kn c H A] (hm : m < xs.length) : VS P N c ⟨d, .fieldAddr s x f, ty, ps, af, g⟩ F H (rowPtr v (k + fo)) := by
  haveI := hf.at (c := c) (H := H)
  exact VS_field_row hx hm
theorem VS_ixRN {x y : Operand} {t len e sz k0 m q : Nat} {k : IntKind} {i : Int} [h : TArr P t len e sz] (hf : Fzc A v L ws xs) (hx : ev F x = some (rowPtr v k0)) (hy : ev F y = some (.int k i)) [Kn c H A] (hq : q < xs.length) (hi : i = (m : Int)) (hm : m < len) :
    VS P N c ⟨d, .indexAddr t x y, ty, ps, af, g⟩ F H (rowPtr v (k0 + m * sz)) :=
  VS_of_run (by simp) fun a w hf' hs hp => by
    haveI := hf.at (c := c) (H := H)
    obtain ⟨gb, off, cap, rfl, _, _, _⟩ := ((hf.at (c := c) (H := H)).ro w hs hp).at hq
    obtain ⟨inf, h1, h2, h3⟩ := TArr.get h.ok
    subst hi
    simp [execOp, ev_ok hf' hx, ev_ok hf' hy, rowPtr, Instr.indexAt, asIntOf, run_underlying h1, Instr.sureAddr, sizeOf, typeInfo, h2, h3, Addr.add_lit, Nat.add_assoc]
    intro hle
    exact absurd (hm) (by omega)
theorem VS_ldiN {k : IntKind} {o t : Nat} {y : Operand} {gg : (Nat → α) → Int} {s : (Nat → α) → Int → (Nat → α)} (hf : Fzc A v L ws xs) (p : Pth (LA L xs.length) (LI k) o gg s) (hx : ev F y = some (rowPtr v o)) [Kn c H A] [TOne P t] : VS P N c ⟨d, .load t y, ty, ps, af, g⟩ F H (.int k (gg (fun i => xs.getD i default))) := by
  haveI := hf.at (c := c) (H := H)
  exact VS_load_row hx (p.int hf.rep)
theorem VS_ldbN {o t : Nat} {y : Operand} {gg : (Nat → α) → Bool} {s : (Nat → α) → Bool → (Nat → α)} (hf : Fzc A v L ws xs) (p : Pth (LA L xs.length) LB o gg s) (hx : ev F y = some (rowPtr v o)) [Kn c H A] [TOne P t] : VS P N c ⟨d, .load t y, ty, ps, af, g⟩ F H (.bool (gg (fun i => xs.getD i default))) := by
  haveI := hf.at (c := c) (H := H)
  exact VS_load_row hx (p.bool hf.rep)
theorem VS_ldaN {M : Lay β} [FlatL M] {o t q : Nat} {y : Operand} {gg : (Nat → α) → β} {s : (Nat → α) → β → (Nat → α)} (hf : Fzc A v L ws xs) (p : Pth (LA L xs.length) M o gg s) (hx : ev F y = some (rowPtr v o)) [Kn c H A] [TAgg P t q] (hn : M.n = q) (h0 : 0 < q) :
    VS P N c ⟨d, .load t y, ty, ps, af, g⟩ F H (.agg (M.enc (gg (fun i => xs.getD i default))).toArray) := by
  haveI := hf.at (c := c) (H := H)
  subst hn
  exact VS_loada_row hx (FlatL.iff.1 (p.get hf.rep)) (enc_len _ _) h0
/-- a part that is not flat -/
theorem VS_ldnN {M : Lay β} {o t q : Nat} {y : Operand} {gg : (Nat → α) → β} {s : (Nat → α) → β → (Nat → α)} {cs : List Value} (hf : Fzc A v L ws xs) (p : Pth (LA L xs.length) M o gg s) (hx : ev F y = some (rowPtr v o)) [Kn c H A] [TAgg P t q] (hn : M.n = q) (h0 : 0 < q) (hc : (ws.drop o).take M.n = cs) :
    VS P N c ⟨d, .load t y, ty, ps, af, g⟩ F H (.agg cs.toArray) := by
  haveI := hf.at (c := c) (H := H)
  subst hn; subst hc
  exact VS_loada_row hx rfl (M.len (p.get hf.rep)) h0
/-- a slice in it -/
theorem VS_ldvN {o t : Nat} {u : Value} {y : Operand} (hf : Fzc A v L ws xs) (hx : ev F y = some (rowPtr v o)) [Kn c H A] [TOne P t] (hv : ws[o]? = some u) : VS P N c ⟨d, .load t y, ty, ps, af, g⟩ F H u := by
  haveI := hf.at (c := c) (H := H)
  exact VS_load_row hx hv
end rules

section
variable {P : Program} {W : World} {t e : TypeId} {α : Type}
/-- a slice of what is not flat that came in -/
theorem open_rn [Inhabited α] {H : Type} {enc : TypeId × Value → H} {base : Nat} {spare : Nat → Bool} {held : Bool} {sz fuel len cap : Nat} {a : Option Addr} {x : DataW H × List MemPlace} (L : Lay α) (R : α → Prop) (ht : P.underlying t = some (.slice e)) (hC : P.cellsOf e = sz) (h0 : 0 < sz) (hn : L.n = sz)
    (hQ : ∀ (n : Nat) (cs : List Value) y, DataW.trod enc P W base spare held n e cs = some y → ∃ z, L.rep (fun w => Since [] W w) cs z ∧ R z) (h : DataW.trod enc P W base spare held fuel t [.slice a len cap] = some x) :
    ∃ (cc : Nat → List Value) (g : Nat → α), (∀ i, i < len → L.rep (fun w => Since [] W w) (cc i) (g i) ∧ R (g i)) ∧ Ro W (.slice a len cap) sz len (flat cc len) := by
  rcases open_slice ht h with ⟨hcs, _⟩ | ⟨a', len', cap', m, n, D, Pl, hcs, _, hl, hm, hmm, _, hi⟩
  · simp at hcs
    obtain ⟨rfl, rfl, rfl⟩ := hcs
    exact ⟨fun _ => [], fun _ => default, fun i hi => by omega, ⟨by simp [flat], .inl ⟨⟨_, _, rfl⟩, rfl⟩⟩⟩
  · simp at hcs
    obtain ⟨rfl, rfl, rfl⟩ := hcs
    have hlm : len ≤ m := by rw [hmm]; split <;> omega
    have hex : ∀ i, i < len → ∃ z : List Value × α, L.rep (fun w => Since [] W w) z.1 z.2 ∧ R z.2 ∧ ∀ j, j < sz → W.cell? (a'.add (i * sz + j)) = z.1[j]? := fun i hil => by
      obtain ⟨cs', hc, ht'⟩ := hi i (by omega)
      obtain ⟨z, hz, hr⟩ := hQ _ _ _ ht'
      rw [hC] at hc
      obtain ⟨_, _, hat⟩ := World.cells?_some hc
      refine ⟨(cs', z), hz, hr, fun j hj => ?_⟩
      rw [← hat j hj, ← Go.Deep.add_add]
    let g : Nat → List Value × α := fun i => if hh : i < len then Classical.choose (hex i hh) else ([], default)
    have hg : ∀ i, i < len → L.rep (fun w => Since [] W w) (g i).1 (g i).2 ∧ R (g i).2 ∧ ∀ j, j < sz → W.cell? (a'.add (i * sz + j)) = (g i).1[j]? := fun i hil => by
      have := Classical.choose_spec (hex i hil)
      simp only [g, hil, dif_pos]
      exact this
    have hlen : ∀ i, i < len → (g i).1.length = sz := fun i hil => (L.len (hg i hil).1).trans hn
    refine ⟨fun i => (g i).1, fun i => (g i).2, fun i hil => ⟨(hg i hil).1, (hg i hil).2.1⟩, ⟨flat_len hlen, ?_⟩⟩
    have hcells : ∀ (j : Nat) u, (flat (fun i => (g i).1) len)[j]? = some u → W.cell? (a'.add j) = some u := fun j u hu => by
      have hfl : (flat (fun i => (g i).1) len).length = len * sz := flat_len hlen
      have hj : j < len * sz := by rw [← hfl]; exact (List.getElem?_eq_some_iff.1 hu).1
      have hd : j = (j / sz) * sz + j % sz := by rw [Nat.mul_comm]; exact (Nat.div_add_mod j sz).symm
      have hq : j / sz < len := (Nat.div_lt_iff_lt_mul h0).2 hj
      have hr : j % sz < sz := Nat.mod_lt _ h0
      rw [hd, flat_get (g := fun i => (g i).1) hlen hq hr] at hu
      rw [hd, (hg _ hq).2.2 _ hr, hu]
    rcases Nat.eq_zero_or_pos len with e0 | e0
    · subst e0; exact .inl ⟨⟨_, _, rfl⟩, rfl⟩
    · obtain ⟨b, off, spot⟩ := a'
      have hz : (flat (fun i => (g i).1) len)[0]? = some ((flat (fun i => (g i).1) len)[0]'(by rw [flat_len (k := sz) hlen]; exact Nat.mul_pos e0 h0)) := List.getElem?_eq_getElem _
      have h1 := hcells 0 _ hz
      have hspot : spot = none := by simpa [Addr.add] using World.cell?_spot h1
      subst hspot
      refine .inr ⟨b, off, cap, rfl, ?_, by omega, fun j u hu => ?_⟩
      · simpa [Addr.add] using cell_lt h1
      · have := hcells j u hu
        rwa [Addr.add_lit] at this
theorem Opn_sn [Inhabited α] {L : Lay α} {R : α → Prop} {sz : Nat} (hu : P.underlying t = some (.slice e)) (hc : P.cellsOf e = sz) (hn : L.n = sz) (h0 : 0 < sz) (h : Opn P W e L R) : Opn P W t (LSn L) (fun z => ∀ x ∈ z, R x) := by
  intro H enc base spare held n cs y hy
  have hcs : ∃ a len cap, cs = [.slice a len cap] := by
    rcases open_slice hu hy with ⟨hcs, _⟩ | ⟨a', len', cap', m, n, D, Pl, hcs, _⟩
    · exact ⟨_, _, _, hcs⟩
    · exact ⟨_, _, _, hcs⟩
  obtain ⟨a, len, cap, rfl⟩ := hcs
  obtain ⟨cc, g, hg, hro⟩ := open_rn (α := α) (sz := sz) L R hu hc h0 hn (fun n cs y hy => h H enc base spare held n cs y hy) hy
  have hl : ((List.range len).map g).length = len := by simp
  refine ⟨(List.range len).map g, ⟨_, flat cc len, rfl, ⟨by rw [hl]; exact ⟨_, _, rfl⟩, ?_, fun w hw => ?_⟩⟩, fun x hx => ?_⟩
  · rw [hl]
    refine ⟨cc, rfl, fun i hi => ?_⟩
    have : ((List.range len).map g).getD i default = g i := by rw [List.getD, List.getElem?_map, List.getElem?_range hi]; rfl
    show L.rep _ (cc i) (((List.range len).map g).getD i default)
    rw [this]; exact (hg i hi).1
  · rw [hl, hn]
    exact hro.since hw
  · obtain ⟨i, hi, rfl⟩ := List.mem_map.1 hx
    exact (hg i (List.mem_range.1 hi)).2
theorem sn_of {α : Type} [Inhabited α] {L : Lay α} {A : World → Prop} {a : Option Addr} {len cap : Nat} {z : List α} (h : (LSn L).rep A (Value.slice a len cap).cells.toList z) : ∃ ws, Fzc A (.slice a len cap) L ws z := by
  obtain ⟨v, ws, e, f⟩ := h
  have e : [Value.slice a len cap] = [v] := e
  cases e
  exact ⟨ws, f⟩
end

/-! arrays of integers held against one another -/
def eqA (n : Nat) (f g : Nat → Int) : Bool := (List.range n).all fun i => f i == g i
def chkEqA (P : Program) (T n : Nat) (k : IntKind) : Bool := match P.underlying T with
  | some (.array m e) => Nat.beq m n && (match P.underlying e with | some (.int q) => decide (q = k) | _ => false) && (P.info? e).isSome && Nat.beq (P.cellsOf e) 1 && !P.eqGuardType P.depth T
  | _ => false
class TEqA (P : Program) (T : TypeId) (n : outParam Nat) (k : outParam IntKind) : Prop where
  ok : chkEqA P T n k = true
theorem TEqA.get {P : Program} {T n : Nat} {k : IntKind} (h : chkEqA P T n k = true) : ∃ e i, P.underlying T = some (.array n e) ∧ P.underlying e = some (.int k) ∧ P.info? e = some i ∧ P.cellsOf e = 1 ∧ P.eqGuardType P.depth T = false := by
  unfold chkEqA at h
  split at h
  · rename_i m e hu
    simp only [Bool.and_eq_true, Bool.not_eq_true'] at h
    obtain ⟨⟨⟨⟨h1, h2⟩, h3⟩, h4⟩, h5⟩ := h
    have h1 := Nat.eq_of_beq_eq_true h1
    subst h1
    obtain ⟨i, hi⟩ := Option.isSome_iff_exists.1 h3
    split at h2
    · rename_i q hq
      have : q = k := by simpa using h2
      subst this
      exact ⟨e, i, hu, hq, hi, Nat.eq_of_beq_eq_true h4, h5⟩
    · cases h2
  · cases h
theorem encA_get {k : IntKind} {n i : Nat} {f : Nat → Int} (hi : i < n) : (((LA (LI k) n).enc f).toArray)[i]? = some (.int k (f i)) := by
  have : (flat (fun i => (LI k).enc (f i)) n)[i * 1 + 0]? = ((LI k).enc (f i))[0]? := flat_get (g := fun i => (LI k).enc (f i)) (k := 1) (fun _ _ => rfl) hi (by decide)
  rw [Nat.mul_one, Nat.add_zero] at this
  rw [List.getElem?_toArray]
  exact this
theorem run_eqItems_int {P : Program} {w : World} (d : Nat) {e n : Nat} {k : IntKind} {f g : Nat → Int} (he : P.underlying e = some (.int k)) (hc : P.cellsOf e = 1) : ∀ is : List Nat, (∀ i ∈ is, i < n) →
    (Op.eqItems (d + 1) e (P.cellsOf e) (((LA (LI k) n).enc f).toArray) (((LA (LI k) n).enc g).toArray) is).run P w = .ok (is.all fun i => f i == g i) w
  | [], _ => by simp [Op.eqItems]
  | i :: is, h => by
    have ih := run_eqItems_int (w := w) (f := f) (g := g) d he hc is fun j hj => h j (by simp [hj])
    have hi := h i (by simp)
    have p1 := run_part_one (w := w) (.inl ⟨_, he⟩) (encA_get (k := k) (f := f) hi)
    have p2 := run_part_one (w := w) (.inl ⟨_, he⟩) (encA_get (k := k) (f := g) hi)
    have p3 := run_equalIn_int (P := P) w d e k k (f i) (g i) he
    rw [hc] at ih ⊢
    simp only [Op.eqItems, Nat.mul_one, Sem.run_bind, p1, p2, p3, Result.andThen_ok]
    cases hq : f i == g i <;> simp [hq, ih]
section
variable {P : Program} {N : Nat} {c : Cx} {F : Frm} {H : List Res} {d : Option Tmp} {ty : TypeId} {ps : String} {af : Array Edge} {g : Option (Nat × Bool)}
theorem run_eqA {w : World} {T n : Nat} {k : IntKind} (hT : TEqA P T n k) (a b : Nat → Int) : (Op.equalIn 10000 T (.agg ((LA (LI k) n).enc a).toArray) (.agg ((LA (LI k) n).enc b).toArray)).run P w = .ok (eqA n a b) w := by
  obtain ⟨e, i, h1, h2, h3, h4, _⟩ := TEqA.get hT.ok
  rw [run_equalIn_array (w := w) 9999 _ _ h1 h3, run_eqItems_int 9998 h2 h4 (List.range n) fun i hi => List.mem_range.1 hi]; rfl
theorem VS_eqlA {x y : Operand} {T U n : Nat} {k : IntKind} {a b : Nat → Int} (hT : TEqA P T n k) (hx : ev F x = some (.agg ((LA (LI k) n).enc a).toArray)) (hy : ev F y = some (.agg ((LA (LI k) n).enc b).toArray)) :
    VS P N c ⟨d, .binOp .eql T x y U, ty, ps, af, g⟩ F H (.bool (eqA n a b)) :=
  VS_of_run (by simp) fun a' w hf _ _ => by
    obtain ⟨e, i, _, _, _, _, h5⟩ := TEqA.get hT.ok
    have q1 := run_eqGuard_agg (P := P) w .eql T x y ((LA (LI k) n).enc a).toArray ((LA (LI k) n).enc b).toArray h5
    have q2 := run_eql_struct (P := P) w T ((LA (LI k) n).enc a).toArray ((LA (LI k) n).enc b).toArray
    rw [run_eqA hT] at q2
    simp only [Result.andThen_ok] at q2
    simp [execOp, ev_ok hf hx, ev_ok hf hy, q1, q2]
theorem VS_neqA {x y : Operand} {T U n : Nat} {k : IntKind} {a b : Nat → Int} (hT : TEqA P T n k) (hx : ev F x = some (.agg ((LA (LI k) n).enc a).toArray)) (hy : ev F y = some (.agg ((LA (LI k) n).enc b).toArray)) :
    VS P N c ⟨d, .binOp .neq T x y U, ty, ps, af, g⟩ F H (.bool (!(eqA n a b))) :=
  VS_of_run (by simp) fun a' w hf _ _ => by
    obtain ⟨e, i, _, _, _, _, h5⟩ := TEqA.get hT.ok
    have q1 := run_eqGuard_agg (P := P) w .neq T x y ((LA (LI k) n).enc a).toArray ((LA (LI k) n).enc b).toArray h5
    have q2 := run_neq_struct (P := P) w T ((LA (LI k) n).enc a).toArray ((LA (LI k) n).enc b).toArray
    rw [run_eqA hT] at q2
    simp only [Result.andThen_ok] at q2
    simp [execOp, ev_ok hf hx, ev_ok hf hy, q1, q2]
end
end Go.Bw
