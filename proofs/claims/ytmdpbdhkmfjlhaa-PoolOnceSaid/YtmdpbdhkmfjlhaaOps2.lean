/- More rules of our own logic: slices, rows, structs, built-ins, closures. No program is named. -/
import Derived.Test.YtmdpbdhkmfjlhaaCall
import Derived.Laws.AppendOwn
namespace Go.Bw
open Go Go.RowKit

theorem evs_cons {F : Frm} {x : Operand} {r : List Operand} {v : Value} {vs : List Value} (h : ev F x = some v) (hr : evs F r = some vs) : evs F (x :: r) = some (v :: vs) := by simp [evs, h, hr]

/-- a pointer into a slice's row -/
def rowPtr (v : Value) (k : Nat) : Value := match v with
  | .slice (some a) _ _ => .pointer (some ⟨a.block, a.off + k, none⟩)
  | _ => undef

theorem Ro.since {w w' : World} {v : Value} {sz n : Nat} {xs : List Value} (h : Ro w v sz n xs) (hs : Since [] w w') : Ro w' v sz n xs := by
  refine ⟨h.1, ?_⟩
  rcases h.2 with h0 | ⟨g, off, cap, h1, h2, h3, h4⟩
  · exact .inl h0
  · exact .inr ⟨g, off, cap, h1, Nat.lt_of_lt_of_le h2 hs.size, h3, fun j u hu => (World.cell?_of_block (hs.block g h2 (by simp))).trans (h4 j u hu)⟩

theorem Ro.of_row {w : World} {v : Value} {e sz n : Nat} {xs : List Value} (h : (Res.row v e sz n xs).holds w) : Ro w v sz n xs := by
  have h' : w.ownsRow 0 e sz v n xs := h
  refine ⟨h'.1, ?_⟩
  rcases h'.2 with h0 | ⟨g, cap, cur, h1, _, h3, h4, _, h5, h6⟩
  · exact .inl ⟨⟨_, _, h0.1⟩, h0.2⟩
  · refine .inr ⟨g, 0, cap, h1, (Array.getElem?_eq_some_iff.1 h3).1, h4, fun j u hu => ?_⟩
    have := World.ownsRow.cells (g := g) h' (by rw [h1]; rfl) j u hu
    rwa [Addr.add_lit] at this

theorem Ro.of_has {c : Cx} {H : List Res} {w : World} {v : Value} {e sz n : Nat} {xs : List Value} (hp : HpOk c.bs c.w0.heap.size H w) (h : HasR H v e sz n xs) : Ro w v sz n xs := Ro.of_row (hp.holds _ h.mem)

theorem Ro.at {w : World} {v : Value} {sz n m : Nat} {xs : List Value} (h : Ro w v sz n xs) (hm : m < n) : ∃ g off cap, v = .slice (some ⟨g, off, none⟩) n cap ∧ g < w.heap.size ∧ n ≤ cap ∧ ∀ (j : Nat) u, xs[j]? = some u → w.cell? ⟨g, off + j, none⟩ = some u := by
  rcases h.2 with ⟨_, h0⟩ | h1
  · omega
  · exact h1

section
variable {P : Program} {N : Nat} {c : Cx} {F : Frm} {H : List Res} {d : Option Tmp} {ty : TypeId} {p : String} {af : Array Edge} {g : Option (Nat × Bool)}

theorem ro_here {w : World} {v : Value} {sz n : Nat} {xs : List Value} (h : Ro c.w0 v sz n xs) (hbs : c.bs = []) (hs : Since c.bs c.w0 w) : Ro w v sz n xs := by
  rw [hbs] at hs; exact h.since hs

/-- whatever world the operation is carried out in, the row reads so -/
class RowAt (c : Cx) (H : List Res) (v : Value) (sz n : outParam Nat) (xs : outParam (List Value)) : Prop where
  ro : ∀ w, Since c.bs c.w0 w → HpOk c.bs c.w0.heap.size H w → Ro w v sz n xs
instance RowAt_has (c : Cx) (H : List Res) (v : Value) (e sz n xs) [h : HasR H v e sz n xs] : RowAt c H v sz n xs := ⟨fun _ _ hp => Ro.of_has hp h⟩
class HasS (H : List Res) (v : Value) (sz n : outParam Nat) (xs : outParam (List Value)) : Prop where
  mem : Res.sl v sz n xs ∈ H
instance (priority := 100) HasS_here (v sz n xs) (H : List Res) : HasS (.sl v sz n xs :: H) v sz n xs := ⟨by simp⟩
instance (priority := 50) HasS_there (r : Res) (H : List Res) (v sz n xs) [h : HasS H v sz n xs] : HasS (r :: H) v sz n xs := ⟨by simp [h.mem]⟩
instance RowAt_sl (c : Cx) (H : List Res) (v : Value) (sz n xs) [h : HasS H v sz n xs] : RowAt c H v sz n xs := ⟨fun _ _ hp => hp.holds _ h.mem⟩
theorem rowAt_ro {c : Cx} {H : List Res} {v : Value} {sz n : Nat} {xs : List Value} (h : Ro c.w0 v sz n xs) (hbs : c.bs = []) : RowAt c H v sz n xs := ⟨fun _ hs _ => ro_here h hbs hs⟩

theorem VS_len {x : Operand} {v : Value} {t e q sz n : Nat} {xs : List Value} [ht : TSl P t e q] (hx : ev F x = some v) [h : RowAt c H v sz n xs] : VS P N c ⟨d, .call ⟨.builtin .len, #[x], #[t]⟩, ty, p, af, g⟩ F H (.int .i64 n) :=
  VS_of_run (by simp) fun a w hf hs hp => by
    have hr := h.ro w hs hp
    obtain ⟨inf, h1, _, _⟩ := TSl.get ht.ok
    rcases hr.2 with ⟨⟨a0, cp, rfl⟩, rfl⟩ | ⟨g, off, cap, rfl, _⟩ <;> simp [execOp, resolve, invoke, builtin, ev_ok hf hx, Builtin.len_, goInt, run_underlying h1]

theorem VS_index_row {x y : Operand} {t e sz n : Nat} {v : Value} {xs : List Value} {k : IntKind} {i : Int} {m : Nat} [ht : TSl P t e sz] (hx : ev F x = some v) (hy : ev F y = some (.int k i)) [h : RowAt c H v sz n xs] (hi : i = (m : Int)) (hm : m < n) :
    VS P N c ⟨d, .indexAddr t x y, ty, p, af, g⟩ F H (rowPtr v (m * sz)) :=
  VS_of_run (by simp) fun a w hf hs hp => by
    obtain ⟨g, off, cap, rfl, _, _, _⟩ := (h.ro w hs hp).at hm
    obtain ⟨inf, h1, h2, h3⟩ := TSl.get ht.ok
    subst hi
    simp [execOp, ev_ok hf hx, ev_ok hf hy, Instr.indexAt, asIntOf, run_underlying h1, sizeOf, typeInfo, h2, h3, Addr.add_lit, rowPtr]
    intro hle
    omega

theorem VS_field_row {x : Operand} {s f fo k m sz n : Nat} {v : Value} {xs : List Value} [TFld P s f fo] (hx : ev F x = some (rowPtr v k)) [h : RowAt c H v sz n xs] (hm : m < n) : VS P N c ⟨d, .fieldAddr s x f, ty, p, af, g⟩ F H (rowPtr v (k + fo)) :=
  VS_of_run (by simp) fun a w hf hs hp => by
    obtain ⟨g, off, cap, rfl, _, _, _⟩ := (h.ro w hs hp).at hm
    have := run_fieldAt (P := P) (s := s) (f := f) (b := g) (off := off + k) w
    simp only [execOp, ev_ok hf hx, rowPtr]
    simp [this, Nat.add_assoc]

theorem VS_load_row {x : Operand} {t k sz n : Nat} {v u : Value} {xs : List Value} (hx : ev F x = some (rowPtr v k)) [h : RowAt c H v sz n xs] [TOne P t] (hv : xs[k]? = some u) : VS P N c ⟨d, .load t x, ty, p, af, g⟩ F H u :=
  VS_of_run (by simp) fun a w hf hs hp => by
    have hr := h.ro w hs hp
    have hl := (List.getElem?_eq_some_iff.1 hv).1
    have hn : 0 < n := by
      rcases Nat.eq_zero_or_pos n with h0 | h0
      · subst h0; have := hr.1; omega
      · exact h0
    obtain ⟨g, off, cap, rfl, _, _, h4⟩ := hr.at hn
    have := run_loadVar_one (P := P) (t := t) (a := ⟨g, off + k, none⟩) (h4 k u hv)
    simp [execOp, ev_ok hf hx, rowPtr, Instr.loadAt, Instr.sureAddr, this]
theorem VS_loada_row {x : Operand} {t k sz n q : Nat} {v : Value} {xs us : List Value} (hx : ev F x = some (rowPtr v k)) [h : RowAt c H v sz n xs] [TAgg P t q] (hv : (xs.drop k).take q = us) (hq : us.length = q) (h0 : 0 < q) : VS P N c ⟨d, .load t x, ty, p, af, g⟩ F H (.agg us.toArray) :=
  VS_of_run (by simp) fun a w hf hs hp => by
    have hr := h.ro w hs hp
    have hl : 0 < xs.length := by
      have : us.length ≤ xs.length := by rw [← hv]; simp; omega
      omega
    have hn : 0 < n := by
      rcases Nat.eq_zero_or_pos n with h0 | h0
      · subst h0; have := hr.1; omega
      · exact h0
    obtain ⟨g, off, cap, rfl, _, _, h4⟩ := hr.at hn
    have := run_loadVar_agg (P := P) (t := t) (b := g) (off := off + k) (w := w) hq (fun j u hj => by
      rw [← hv, List.getElem?_take] at hj
      split at hj
      · rw [List.getElem?_drop] at hj; rw [Nat.add_assoc]; exact h4 _ u hj
      · cases hj)
    simp [execOp, ev_ok hf hx, rowPtr, Instr.loadAt, Instr.sureAddr, this]

/-! built-ins on numbers -/
theorem VS_min {x y : Operand} {k : IntKind} {a b : Int} {ats : Array TypeId} (hx : ev F x = some (.int k a)) (hy : ev F y = some (.int k b)) : VS P N c ⟨d, .call ⟨.builtin .min, #[x, y], ats⟩, ty, p, af, g⟩ F H (.int k (if b < a then b else a)) :=
  VS_of_run (by simp) fun a' w hf _ _ => by simp [execOp, resolve, invoke, builtin, ev_ok hf hx, ev_ok hf hy, Builtin.min_, Builtin.min2]
theorem VS_max {x y : Operand} {k : IntKind} {a b : Int} {ats : Array TypeId} (hx : ev F x = some (.int k a)) (hy : ev F y = some (.int k b)) : VS P N c ⟨d, .call ⟨.builtin .max, #[x, y], ats⟩, ty, p, af, g⟩ F H (.int k (if a < b then b else a)) :=
  VS_of_run (by simp) fun a' w hf _ _ => by simp [execOp, resolve, invoke, builtin, ev_ok hf hx, ev_ok hf hy, Builtin.max_, Builtin.max2]

/-! structs that are built -/
/-- the places of a struct's fields, and of an array's elements -/
def placesOf (P : Program) (t : Nat) : Option (List (Nat × Nat)) := match P.underlying t with
  | some (.struct fs) => fs.toList.mapM fun f => (P.info? f.type).map fun i => (f.offset, i.size)
  | _ => none
def fillL (pl : List (Nat × Nat)) : List Value → List (Nat × Value) → Option (List Value)
  | cs, [] => some cs
  | cs, (i, v) :: r => match pl[i]? with
    | none => none
    | some (off, sz) => if v.cells.size ≠ sz || decide (off + v.cells.size > cs.length) then none else fillL pl (splice cs off v.cells.toList) r
class TPl (P : Program) (t : TypeId) (pl : outParam (List (Nat × Nat))) : Prop where
  ok : placesOf P t = some pl

theorem foldl_set (vs : List Value) : ∀ (cs : Array Value) (off j : Nat), off + j + vs.length ≤ cs.size → ((vs.zipIdx j).foldl (fun (cs : Array Value) (q : Value × Nat) => cs.setIfInBounds (off + q.2) q.1) cs).toList = splice cs.toList (off + j) vs := by
  induction vs with
  | nil => intro cs off j h; simp [splice]
  | cons v r ih =>
    intro cs off j h
    simp only [List.zipIdx_cons, List.foldl_cons]
    have hl : off + j + (r.length + 1) ≤ cs.size := h
    rw [ih (cs.setIfInBounds (off + j) v) off (j + 1) (by simp; omega)]
    refine List.ext_getElem? fun m => ?_
    have g : ∀ (as : List Value) (o : Nat) (us : List Value), o + us.length ≤ as.length → ∀ m : Nat, (splice as o us)[m]? = if o ≤ m ∧ m < o + us.length then us[m - o]? else as[m]? := by
      intro as o us h m
      unfold splice
      by_cases h1 : m < o
      · rw [if_neg (by omega), List.append_assoc, List.getElem?_append_left (by simp; omega), List.getElem?_take, if_pos h1]
      · by_cases h2 : m < o + us.length
        · rw [if_pos (by omega), List.append_assoc, List.getElem?_append_right (by simp; omega), List.getElem?_append_left (by simp; omega)]
          congr 1; simp; omega
        · rw [if_neg (by omega), List.getElem?_append_right (by simp; omega), List.getElem?_drop]
          congr 1; simp; omega
    rw [g _ _ _ (by simp; omega), g _ _ _ (by simp; omega)]
    simp only [Array.toList_setIfInBounds, List.length_cons]
    by_cases e : m = off + j
    · subst e
      rw [if_neg (by omega), if_pos (by omega)]
      have hc : off + j < cs.size := by omega
      simp [hc]
    · by_cases h1 : off + (j + 1) ≤ m ∧ m < off + (j + 1) + r.length
      · rw [if_pos h1, if_pos (by omega)]
        have : m - (off + j) = (m - (off + (j + 1))) + 1 := by omega
        rw [this, List.getElem?_cons_succ]
      · rw [if_neg h1, if_neg (by omega)]
        rw [List.getElem?_set_ne (by omega)]

theorem fill_fillL {place : Nat → Option (Nat × Nat)} {pl : List (Nat × Nat)} (hp : ∀ i, place i = pl[i]?) : ∀ (parts : List (Nat × Value)) (cs : Array Value) (out : List Value), fillL pl cs.toList parts = some out → Instr.fill place cs parts = some out.toArray := by
  intro parts
  induction parts with
  | nil => intro cs out h; simp [fillL] at h; simp [Instr.fill, ← h]
  | cons q r ih =>
    obtain ⟨i, v⟩ := q
    intro cs out h
    simp only [fillL] at h
    simp only [Instr.fill, hp i]
    split at h
    · cases h
    · rename_i off sz hpl
      rw [hpl]
      simp only
      split at h
      · cases h
      · rename_i hc
        simp only [Array.length_toList] at hc
        rw [if_neg (by simpa using hc)]
        refine ih _ out ?_
        have hle : off + v.cells.size ≤ cs.size := by
          simp only [Bool.or_eq_true, decide_eq_true_eq, not_or] at hc
          omega
        have := foldl_set v.cells.toList cs off 0 (by simpa using hle)
        rw [← h]
        congr 1
        rw [Nat.add_zero] at this
        rw [← this, ← Array.foldl_toList]
        simp only [Array.toList_zipIdx]

theorem run_places {P : Program} {t : Nat} {pl : List (Nat × Nat)} [h : TPl P t pl] (w : World) : ∃ fs, P.underlying t = some (.struct fs) ∧ ((fs.mapM (m := Sem) fun f => do pure (f.offset, ← sizeOf f.type)).run P w = .ok pl.toArray w) := by
  have := h.ok
  unfold placesOf at this
  split at this
  · rename_i fs hu
    refine ⟨fs, hu, ?_⟩
    have key : ∀ (l : List Field) (pl : List (Nat × Nat)), (l.mapM fun f => (P.info? f.type).map fun i => (f.offset, i.size)) = some pl → (l.mapM (m := Sem) fun f => do pure (f.offset, ← sizeOf f.type)).run P w = .ok pl w := by
      intro l
      induction l with
      | nil => intro pl h; simp at h; subst h; simp
      | cons f r ih =>
        intro pl h
        cases hi : P.info? f.type with
        | none => simp [hi] at h
        | some i =>
          simp only [List.mapM_cons, hi, Option.map_some, Option.pure_def, Option.bind_eq_bind, Option.bind_some] at h
          cases hr : (r.mapM fun f => (P.info? f.type).map fun i => (f.offset, i.size)) with
          | none => simp [hr] at h
          | some q =>
            simp only [hr, Option.bind_some, Option.some.injEq] at h
            subst h
            have hs : (sizeOf f.type).run P w = .ok i.size w := by simp [sizeOf, typeInfo, hi]
            simp only [List.mapM_cons, Sem.run_bind, hs, Result.andThen_ok, Sem.run_pure, ih q hr]
    have hk := key _ _ this
    have e : fs = fs.toList.toArray := by simp
    rw [e, List.mapM_toArray]
    simp only [Sem.run_map, hk, Result.andThen_ok]
  · cases this

theorem evp {F : Frm} {a : Act} (hf : FrOk F a.tmps) : ∀ {parts : List (Nat × Operand)} {vs : List Value}, evs F (parts.map (·.2)) = some vs → parts.map (fun q => (q.1, a.eval q.2)) = (parts.map (·.1)).zip vs := by
  intro parts
  induction parts with
  | nil => intro vs _; simp
  | cons q r ih =>
    intro vs h
    simp only [List.map_cons, evs] at h
    split at h
    · rename_i v us h1 h2
      rw [← Option.some.inj h]
      simp [ev_ok hf h1, ih h2]
    · cases h

theorem VS_build {t : Nat} {parts : List (Nat × Operand)} {vs zs cs : List Value} {pl : List (Nat × Nat)} [hz : TZero P t zs] [hpl : TPl P t pl] (hv : evs F (parts.map (·.2)) = some vs) (hc : fillL pl zs ((parts.map (·.1)).zip vs) = some cs) :
    VS P N c ⟨d, .build t parts.toArray, ty, p, af, g⟩ F H (.agg cs.toArray) :=
  VS_of_run (by simp) fun a w hf _ _ => by
    obtain ⟨i, z, h1, h2, h3⟩ := TZero.get hz.ok
    obtain ⟨fs, h4, h5⟩ := run_places (P := P) (t := t) w
    have h6 : (zeroValue t).run P w = .ok z w := by simp [zeroValue, typeInfo, h1, h2]
    have h7 := fill_fillL (place := fun i => (pl.toArray)[i]?) (pl := pl) (by simp) ((parts.map (·.1)).zip vs) z.cells cs (by rw [h3]; exact hc)
    have h8 := evp hf hv
    simp only [execOp, Instr.build, Sem.run_bind, h6, Result.andThen_ok, run_underlying h4, h5]
    have h9 : (Array.map (fun x => (x.fst, a.eval x.snd)) parts.toArray).toList = (parts.map (·.1)).zip vs := by simpa using h8
    simp only [h9, h7]
    rfl

/-! closures -/
theorem VS_callc {x : Operand} {args : List Operand} {ats : Array TypeId} {f : Nat} {fst cap : Array Value} {us vs : List Value} {v : Value} {pre : World → Prop} (hc : FnW P f vs pre v) (hx : ev F x = some (.func (.func f) fst cap)) (ha : evs F args = some us)
    (hv : fst.toList ++ us ++ cap.toList = vs) (hpre : ∀ w, Since c.bs c.w0 w → HpOk c.bs c.w0.heap.size H w → pre w) : VS P N c ⟨d, .call ⟨.value x, args.toArray, ats⟩, ty, p, af, g⟩ F H v := fun D a w next Q hst hk => by
  refine ⟨fun _ _ => trivial, ?_⟩
  have hs : Oper.semAt (FA c.ro).round a.eval (⟨d, .call ⟨.value x, args.toArray, ats⟩, ty, p, af, g⟩ : Oper) = execOp a.eval ⟨d, .call ⟨.value x, args.toArray, ats⟩, ty, p, af, g⟩ := Oper.semAt_eq _ _ _ (by simp)
  have hr : (execOp a.eval ⟨d, .call ⟨.value x, args.toArray, ats⟩, ty, p, af, g⟩).run P w = .ok (.enter f vs.toArray) w := by
    have e1 := ev_ok hst.fr hx
    have e2 := evs_ok hst.fr ha
    have e3 : fst ++ (args.toArray.map a.eval) ++ cap = vs.toArray := by rw [← hv, ← e2]; simp
    simp only [execOp, resolve, e1, Deferred.ofValue, Sem.run_bind, Sem.run_pure, Result.andThen_ok, invoke, e3]
    exact hc.enter _ _
  rw [hs, hr]
  refine ⟨fun h => by simp at h, callsIn_fa c.ro ?_⟩
  have hcall := hc.calls w (hpre w hst.si hst.hp) (HpOk.nil _ _ _)
  intro cs
  obtain ⟨e, w', fr, ⟨i, hp, he, hsi, hh⟩, rest⟩ := hcall cs
  refine ⟨e, w', fr, ?_, rest⟩
  subst he
  exact hk w' hsi

/-! stores in a region that draws -/
theorem RX_store1 {x y : Operand} {t b off T : Nat} {cs : List Value} {v : Value} {H' : List Res} (hx : ev F x = some (Ptr b off)) (hy : ev F y = some v) [HasC H b T cs] [TOne P t]
    (hv : v.cells.toList = [v]) (ho : off < cs.length) (h1 : v.oneCell' = true) [SetC H b (cs.set off v) H'] : RX (α := Unit) P N c ⟨d, .store t x y, ty, p, af, g⟩ F H (fun _ => True) (fun _ => undef) (fun _ => H') :=
  RX_store (cs' := cs.set off v) hx hy hv rfl (show off + 1 ≤ cs.length by omega) (by simpa [OneC] using h1) (by
    have := ho
    unfold splice
    rw [List.set_eq_take_append_cons_drop, if_pos ho]
    simp)
theorem RX_storea {x y : Operand} {t b T n : Nat} {cs vs : List Value} {H' : List Res} (hx : ev F x = some (Ptr b 0)) (hy : ev F y = some (.agg vs.toArray)) [HasC H b T cs] [TSz P t n]
    (hl : vs.length = n) (ho : cs.length = n) (h1 : OneC vs) [SetC H b vs H'] : RX (α := Unit) P N c ⟨d, .store t x y, ty, p, af, g⟩ F H (fun _ => True) (fun _ => undef) (fun _ => H') :=
  RX_store (vs := vs) (cs' := vs) hx hy rfl hl (by omega) h1 (by simp [splice, hl, ← ho])

/-! rows that grow -/
class SetRF (H : List Res) (v : Value) (e sz n : outParam Nat) (xs : outParam (List Value)) (f : outParam (Res → List Res)) : Prop where
  ok : ∃ k, H[k]? = some (.row v e sz n xs) ∧ ∀ r, f r = H.set k r
instance (priority := 100) SetRF_here (v e sz n xs) (H : List Res) : SetRF (.row v e sz n xs :: H) v e sz n xs (fun r => r :: H) := ⟨⟨0, rfl, fun _ => rfl⟩⟩
instance (priority := 50) SetRF_there (r : Res) (H : List Res) (v e sz n xs f) [h : SetRF H v e sz n xs f] : SetRF (r :: H) v e sz n xs (fun q => r :: f q) :=
  ⟨by obtain ⟨k, h1, h2⟩ := h.ok; exact ⟨k + 1, by simpa using h1, fun q => by simp [h2]⟩⟩

/-- what append asks of the element's type -/
def chkEl (P : Program) (t e sz bytes : Nat) : Bool := match P.underlying t, P.info? e with
  | some (.slice e'), some i => Nat.beq e' e && Nat.beq i.size sz && Nat.beq i.bytes bytes && (match i.zero with | some z => Nat.beq z.cells.size sz | none => false) && !Nat.beq sz 0
  | _, _ => false
class TEl (P : Program) (t : TypeId) (e sz bytes : outParam Nat) : Prop where
  ok : chkEl P t e sz bytes = true
theorem TEl.get {P : Program} {t e sz bytes : Nat} (h : chkEl P t e sz bytes = true) : ∃ i z, P.underlying t = some (.slice e) ∧ P.info? e = some i ∧ i.zero = some z ∧ i.size = sz ∧ i.bytes = bytes ∧ z.cells.size = sz ∧ 0 < sz := by
  unfold chkEl at h
  split at h
  · rename_i e' i h1 h2
    simp only [Bool.and_eq_true, Bool.not_eq_true'] at h
    obtain ⟨⟨⟨⟨a1, a2⟩, a3⟩, a4⟩, a5⟩ := h
    cases hz : i.zero with
    | none => simp [hz] at a4
    | some z =>
      simp only [hz] at a4
      rw [Nat.eq_of_beq_eq_true a1] at h1
      refine ⟨i, z, h1, h2, hz, Nat.eq_of_beq_eq_true a2, Nat.eq_of_beq_eq_true a3, Nat.eq_of_beq_eq_true a4, Nat.pos_of_ne_zero fun e0 => ?_⟩
      rw [e0] at a5; exact absurd a5 (by decide)
  · cases h

theorem run_append_row {P : Program} {t ty e sz bytes n m cp : Nat} {v : Value} {xs news : List Value} {w : World} {b off : Nat} [ht : TEl P t e sz bytes] (hown : w.ownsRow 0 e sz v n xs) (hl : news.length = m * sz)
    (hn : ∀ (j : Nat) u, news[j]? = some u → w.cell? ⟨b, off + j, none⟩ = some u) (h1 : OneC news) (hsm : (n + m) * bytes ≤ 140737488355328) (h63 : n + m ≤ 9223372036854775807) :
    ∃ v' w', (Builtin.append_ #[t, t] ty #[v, .slice (some ⟨b, off, none⟩) m cp]).run P w = .ok v' w' ∧ w'.ownsRow 0 e sz v' (n + m) (xs ++ news) ∧ Since v.ownBlock.toList w w' ∧
      (∀ k, v'.ownBlock = some k → (v.ownBlock = some k ∨ w.heap.size ≤ k) ∧ k < w'.heap.size) := by
  obtain ⟨i, z, e1, e2, e3, e4, e5, e6, e7⟩ := TEl.get ht.ok
  have hn' : ∀ (j : Nat) u, news[j]? = some u → w.cell? ((⟨b, off, none⟩ : Addr).add j) = some u := fun j u hj => by rw [Addr.add_lit]; exact hn j u hj
  have hmx : n + m ≤ maxLen := by simp only [maxLen]; omega
  obtain ⟨v', w', hr, hown', hg, _⟩ := run_append_own w 0 t ty e i z sz bytes e1 e2 e3 e4 e5 e6 e7 v n xs hown ⟨b, off, none⟩ m cp news hl hn' h1 hmx hsm (Nat.zero_le _)
  refine ⟨v', w', hr, hown', Since.of_grown hg, fun k hk => ⟨?_, (hown'.lt k hk).2⟩⟩
  subst e4; subst e5
  rcases hown.2 with ⟨rfl, rfl⟩ | ⟨gb, cap, cur, rfl, _, hgb, hnc, hcm, hcs, htake⟩
  · obtain ⟨v2, w2, hr2, hown2, _, _⟩ := run_append_own w w.heap.size t ty e i z i.size i.bytes e1 e2 e3 rfl rfl e6 e7 (.slice none 0 0) 0 xs ⟨hown.1, .inl ⟨rfl, rfl⟩⟩ ⟨b, off, none⟩ m cp news hl hn' h1 hmx hsm (Nat.le_refl _)
    rw [hr] at hr2
    cases hr2
    exact .inr (hown2.lt k hk).1
  · by_cases hroom : n + m ≤ cap
    · have hfit : n * i.size + news.length ≤ cur.size := by rw [hl, hcs, ← Nat.add_mul]; exact Nat.mul_le_mul_right _ hroom
      have hr2 := run_append_room (P := P) w t ty e i e1 e2 gb n cap cur hgb ⟨b, off, none⟩ m cp news hl hn' h1 hroom hfit
      rw [hr] at hr2
      cases hr2
      exact .inl hk
    · have hr2 := run_append_grow (P := P) w t ty e i z e1 e2 e3 ⟨gb, 0, none⟩ n cap xs hown.1 (hown.cells (g := gb) rfl) ⟨b, off, none⟩ m cp news hl hn' (by omega) (by omega) (growslice_fits (by omega) hsm)
      rw [hr] at hr2
      cases hr2
      simp [Value.ownBlock] at hk
      exact .inr (by omega)

/-- a slice cut to its length, and to no more room -/
def clipV : Value → Value
  | .slice a n _ => .slice a n n
  | v => v
/-- a slice, whatever it is -/
def SlV (v : Value) : Prop := ∃ a n cp, v = .slice a n cp
theorem SlV.cells {v : Value} (h : SlV v) : v.cells.toList = [v] := by obtain ⟨a, n, cp, rfl⟩ := h; rfl
theorem SlV.one {v : Value} (h : SlV v) : v.oneCell' = true := by obtain ⟨a, n, cp, rfl⟩ := h; cases a <;> rfl
/-- a slice of so many -/
def SlN (v : Value) (n : Nat) : Prop := ∃ a cp, v = .slice a n cp
theorem SlN.slv {v : Value} {n : Nat} (h : SlN v n) : SlV v := by obtain ⟨a, cp, rfl⟩ := h; exact ⟨_, _, _, rfl⟩
theorem SlN.cells {v : Value} {n : Nat} (h : SlN v n) : v.cells.toList = [v] := h.slv.cells
theorem SlN.one {v : Value} {n : Nat} (h : SlN v n) : v.oneCell' = true := h.slv.one
theorem SlN.of_row {w : World} {v : Value} {e sz n : Nat} {xs : List Value} (h : w.ownsRow 0 e sz v n xs) : SlN v n := by
  rcases h.2 with ⟨rfl, rfl⟩ | ⟨_, _, _, rfl, _⟩
  · exact ⟨_, _, rfl⟩
  · exact ⟨_, _, rfl⟩
theorem SlN.clip {v : Value} {n : Nat} (h : SlN v n) : SlN (clipV v) n := by obtain ⟨a, cp, rfl⟩ := h; exact ⟨_, _, rfl⟩
theorem SlV.of_row {w : World} {v : Value} {e sz n : Nat} {xs : List Value} (h : w.ownsRow 0 e sz v n xs) : SlV v := by
  rcases h.2 with ⟨rfl, _⟩ | ⟨_, _, _, rfl, _⟩
  · exact ⟨_, _, _, rfl⟩
  · exact ⟨_, _, _, rfl⟩
theorem SlV.clip {v : Value} (h : SlV v) : SlV (clipV v) := by obtain ⟨a, n, cp, rfl⟩ := h; exact ⟨_, _, _, rfl⟩
/-- append to an owned row of what another block holds -/
theorem RX_append {s x : Operand} {t e sz bytes n m b T cp : Nat} {v : Value} {xs news : List Value} {f : Res → List Res} [TEl P t e sz bytes] (hs : ev F s = some v) [hr : SetRF H v e sz n xs f] (hx : ev F x = some (.slice (some ⟨b, 0, none⟩) m cp)) [hc : HasC H b T news]
    (hl : news.length = m * sz) (h1 : OneC news) (hsm : (n + m) * bytes ≤ 140737488355328) (h63 : n + m ≤ 9223372036854775807) :
    RX P N c ⟨d, .call ⟨.builtin .append, #[s, x], #[t, t]⟩, ty, p, af, g⟩ F H (fun v' => SlN v' (n + m)) (fun v' => v') (fun v' => f (.row v' e sz (n + m) (xs ++ news))) := fun D a w next Q hst hk => by
  obtain ⟨k, k1, k2⟩ := hr.ok
  have hm : Res.row v e sz n xs ∈ H := List.mem_of_getElem? k1
  obtain ⟨v', w', q1, q2, q3, q4⟩ := run_append_row (P := P) (t := t) (ty := ty) (cp := cp) (b := b) (off := 0) (hst.hp.holds _ hm) hl (fun j u hj => by rw [Nat.zero_add, cell_of (hst.hp.holds _ hc.mem)]; exact hj) h1 hsm h63
  refine opIn_value (by simp) (v := v') (w' := w') ?_ (hk v' w' (SlN.of_row q2) (hst.si.trans q3 fun b' hb' => (hst.hp.own _ hm b' hb').1) ?_)
  · simp [execOp, resolve, invoke, builtin, ev_ok hst.fr hs, ev_ok hst.fr hx, q1]
  · show HpOk c.bs c.w0.heap.size (f (.row v' e sz (n + m) (xs ++ news))) w'
    rw [k2]
    refine hst.hp.set k1 q3.size (fun j hj hn => q3.block j hj hn) q2 hst.si.size (fun b' hb' => ?_)
    have := q4 b' (by simpa [Res.blk] using hb')
    exact ⟨this.1.imp (fun h => by simpa [Res.blk] using h) id, this.2⟩

/-- a slice of one element, laid -/
theorem RX_buildSlice1 {x : Operand} {t e sz : Nat} {v : Value} {cs zs : List Value} [ht : TSl P t e sz] [hz : TZero P e zs] (hx : ev F x = some v) (hc : v.cells.toList = cs) (hl : cs.length = sz) (hzl : zs.length = sz) (h0 : 0 < sz) (hs : sz ≤ 16777216) :
    RX P N c ⟨d, .buildSlice t 1 #[(0, x)], ty, p, af, g⟩ F H (fun _ => True) (fun b => .slice (some ⟨b, 0, none⟩) 1 1) (fun b => .cells b e cs :: H) := fun D a w next Q hst hk => by
  obtain ⟨i, h1, h2, h3⟩ := TSl.get ht.ok
  obtain ⟨i', z, h4, h5, h6⟩ := TZero.get hz.ok
  rw [h2] at h4; cases h4
  have hsz : v.cells.size = sz := by rw [← hl, ← hc]; simp
  refine opIn_value (by simp) (w' := w.alloc (.cells cs.toArray e)) ?_ (hk w.heap.size _ trivial (hst.si.ext (Since.alloc _ _)) (hst.hp.box e cs hst.si.size))
  have hfill : Instr.fill (fun i => some (i * sz, sz)) ((Array.range sz).map (z.cells[· % z.cells.size]!)) [(0, v)] = some cs.toArray := by
    have := fill_fillL (place := fun i => if i = 0 then some (0, sz) else none) (pl := [(0, sz)]) (by intro i; cases i <;> simp) [(0, v)] ((Array.range sz).map (z.cells[· % z.cells.size]!)) cs (by
      simp only [fillL, List.getElem?_cons_zero, hsz, hc, Array.length_toList, Array.size_map, Array.size_range, Nat.zero_add, ne_eq, not_true_eq_false, decide_false, Bool.false_or, gt_iff_lt, Nat.lt_irrefl, Bool.false_eq_true, if_false]
      simp [splice, hl])
    have e : ∀ cells : Array Value, Instr.fill (fun i => some (i * sz, sz)) cells [(0, v)] = Instr.fill (fun i => if i = 0 then some (0, sz) else none) cells [(0, v)] := fun cells => by simp [Instr.fill]
    rw [e]; exact this
  have hn0 : ¬ sz = 0 := by omega
  have hbig : ¬ 16777216 < sz := by omega
  simp only [execOp, Instr.buildSlice, Sem.run_bind, run_underlying h1, Result.andThen_ok, sizeOf, typeInfo]
  simp [h2, h3, hn0, hbig, ev_ok hst.fr hx, hfill, zeroValue, typeInfo, h5, newRow, newObj, Sem.run]

theorem VS_clip {x hi mx : Operand} {t e q sz n : Nat} {v : Value} {xs : List Value} {k k' : IntKind} [ht : TSl P t e q] (hx : ev F x = some v) (hh : ev F hi = some (.int k n)) (hm : ev F mx = some (.int k' n)) [h : RowAt c H v sz n xs] :
    VS P N c ⟨d, .slice t x none (some hi) (some mx), ty, p, af, g⟩ F H (clipV v) :=
  VS_of_run (by simp) fun a w hf hs hp => by
    obtain ⟨i, h1, h2, h3⟩ := TSl.get ht.ok
    have hr := h.ro w hs hp
    rcases hr.2 with ⟨⟨a0, cp, rfl⟩, rfl⟩ | ⟨gb, off, cap, rfl, _, hle, _⟩
    · cases a0 <;> simp [execOp, ev_ok hf hx, ev_ok hf hh, ev_ok hf hm, Instr.sliceAt, run_underlying h1, Instr.slice, Instr.sliceBounds, Instr.sliceBound, asIntOf, sizeOf, typeInfo, h2, clipV]
    · have h9 : (n : Int) ≤ (cap : Int) := by omega
      by_cases hn : n = 0
      · subst hn
        simp [execOp, ev_ok hf hx, ev_ok hf hh, ev_ok hf hm, Instr.sliceAt, run_underlying h1, Instr.slice, Instr.sliceBounds, Instr.sliceBound, asIntOf, sizeOf, typeInfo, h2, clipV]
      · simp [execOp, ev_ok hf hx, ev_ok hf hh, ev_ok hf hm, Instr.sliceAt, run_underlying h1, Instr.slice, Instr.sliceBounds, Instr.sliceBound, asIntOf, sizeOf, typeInfo, h2, clipV, hle, Addr.add]
theorem row_clip {w : World} {v : Value} {e sz n : Nat} {xs : List Value} (h : (Res.row v e sz n xs).holds w) : (Res.sl (clipV v) sz n xs).holds w := by
  have hr := Ro.of_row h
  refine ⟨hr.1, ?_⟩
  rcases hr.2 with ⟨⟨a0, cp, rfl⟩, h0⟩ | ⟨gb, off, cap, rfl, h2, h3, h4⟩
  · exact .inl ⟨⟨_, _, rfl⟩, h0⟩
  · exact .inr ⟨gb, off, n, rfl, h2, Nat.le_refl _, h4⟩
theorem blk_clip (v : Value) : (clipV v).ownBlock = v.ownBlock := by cases v with
  | slice a => cases a <;> rfl
  | _ => rfl

theorem pre_row {v : Value} {sz n : Nat} {xs : List Value} [h : RowAt c H v sz n xs] : ∀ w, Since c.bs c.w0 w → HpOk c.bs c.w0.heap.size H w → Ro w v sz n xs := h.ro
/-! rows that begin, and rows that are read alone from now on -/
theorem hp_row0 {bs : List Nat} {n0 e sz : Nat} {w : World} (h : HpOk bs n0 H w) : HpOk bs n0 (.row (.slice none 0 0) e sz 0 [] :: H) w :=
  h.cons ⟨by simp, .inl ⟨rfl, rfl⟩⟩ (fun b hb => by simp [Res.blk, Value.ownBlock] at hb) (fun s _ b hb => by simp [Res.blk, Value.ownBlock] at hb)
theorem WP_row0 {D : List Deferred} {Q : Exit → Act → World → Prop} {x : Code} (e sz : Nat) (h : WP P N c D x Q F (.row (.slice none 0 0) e sz 0 [] :: H)) : WP P N c D x Q F H := WP_res (fun _ _ _ hp => hp_row0 hp) h
theorem WL_row0 {D : List Deferred} {ops : Array Oper} {Q : Exit → Act → World → Prop} {l : List Oper} (e sz : Nat) (h : WL P N c D ops Q l F (.row (.slice none 0 0) e sz 0 [] :: H)) : WL P N c D ops Q l F H := WL_res (fun _ _ _ hp => hp_row0 hp) h
theorem WQ_row0 {D : List Deferred} {Q : Exit → Act → World → Prop} {x : Exit} (e sz : Nat) (h : WQ N c D Q x F (.row (.slice none 0 0) e sz 0 [] :: H)) : WQ N c D Q x F H := WQ_res (fun _ _ _ hp => hp_row0 hp) h
theorem hp_clip {bs : List Nat} {n0 : Nat} {w : World} {v : Value} {e sz n : Nat} {xs : List Value} {f : Res → List Res} [hr : SetRF H v e sz n xs f] (h : HpOk bs n0 H w) : HpOk bs n0 (f (.sl (clipV v) sz n xs)) w := by
  obtain ⟨k, k1, k2⟩ := hr.ok
  rw [k2]
  exact h.turn k1 (fun w hw => row_clip hw) (fun b hb => by simpa [Res.blk, blk_clip] using hb)
theorem hp_sl {bs : List Nat} {n0 : Nat} {w : World} {v : Value} {e sz n : Nat} {xs : List Value} {f : Res → List Res} [hr : SetRF H v e sz n xs f] (h : HpOk bs n0 H w) : HpOk bs n0 (f (.sl v sz n xs)) w := by
  obtain ⟨k, k1, k2⟩ := hr.ok
  rw [k2]
  exact h.turn k1 (fun w hw => Ro.of_row hw) (fun b hb => by simpa [Res.blk] using hb)
theorem WQ_clip {D : List Deferred} {Q : Exit → Act → World → Prop} {x : Exit} (v : Value) {e sz n : Nat} {xs : List Value} {f : Res → List Res} [SetRF H v e sz n xs f] (h : WQ N c D Q x F (f (.sl (clipV v) sz n xs))) : WQ N c D Q x F H := WQ_res (fun _ _ _ hp => hp_clip hp) h
theorem WQ_sl {D : List Deferred} {Q : Exit → Act → World → Prop} {x : Exit} (v : Value) {e sz n : Nat} {xs : List Value} {f : Res → List Res} [SetRF H v e sz n xs f] (h : WQ N c D Q x F (f (.sl v sz n xs))) : WQ N c D Q x F H := WQ_res (fun _ _ _ hp => hp_sl hp) h
theorem WP_clip {D : List Deferred} {Q : Exit → Act → World → Prop} {x : Code} (v : Value) {e sz n : Nat} {xs : List Value} {f : Res → List Res} [SetRF H v e sz n xs f] (h : WP P N c D x Q F (f (.sl (clipV v) sz n xs))) : WP P N c D x Q F H := WP_res (fun _ _ _ hp => hp_clip hp) h
theorem WP_sl {D : List Deferred} {Q : Exit → Act → World → Prop} {x : Code} (v : Value) {e sz n : Nat} {xs : List Value} {f : Res → List Res} [SetRF H v e sz n xs f] (h : WP P N c D x Q F (f (.sl v sz n xs))) : WP P N c D x Q F H := WP_res (fun _ _ _ hp => hp_sl hp) h
end
end Go.Bw
