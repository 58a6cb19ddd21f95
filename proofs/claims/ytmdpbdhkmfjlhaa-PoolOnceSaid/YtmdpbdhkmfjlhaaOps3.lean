/- More rules of our own logic: structs compared, slices cut, append of what is read alone, and pools of slices. No program is named. -/
import Derived.Test.YtmdpbdhkmfjlhaaOps2
import Derived.Laws.StructEq
import Derived.Deep.Upon
namespace Go.Bw
open Go Go.RowKit

/-! structs compared -/
def cellEq : Option Value → Option Value → Bool
  | some (.int _ a), some (.int _ b) => a == b
  | some (.bool a), some (.bool b) => a == b
  | _, _ => false
def kindAt (k : Option IntKind) : Option Value → Bool
  | some (.int k' _) => match k with | some k => decide (k = k') | none => false
  | some (.bool _) => k.isNone
  | _ => false
def eqAt : List (Nat × Option IntKind) → List Value → List Value → Bool
  | [], _, _ => true
  | (o, _) :: r, cs, ds => cellEq cs[o]? ds[o]? && eqAt r cs ds
def okAt : List (Nat × Option IntKind) → List Value → Bool
  | [], _ => true
  | (o, k) :: r, cs => kindAt k cs[o]? && okAt r cs
theorem eqAt_refl {ks : List (Nat × Option IntKind)} {cs : List Value} (h : okAt ks cs = true) : eqAt ks cs cs = true := by
  induction ks with
  | nil => rfl
  | cons q r ih =>
    obtain ⟨o, k⟩ := q
    simp only [okAt, Bool.and_eq_true] at h
    simp only [eqAt, ih h.2, Bool.and_true]
    have h1 := h.1
    match hc : cs[o]?, h1 with
    | some v, h1 => cases v <;> simp_all [kindAt, cellEq]

def fldEq (P : Program) (f : Field) (q : Nat × Option IntKind) : Bool :=
  f.name != "_" && Nat.beq f.offset q.1 && (match P.underlying f.type, q.2 with | some (.int k), some k' => decide (k = k') | some .bool, none => true | _, _ => false)
def fldsEq (P : Program) : List Field → List (Nat × Option IntKind) → Bool
  | [], [] => true
  | f :: fs, q :: qs => fldEq P f q && fldsEq P fs qs
  | _, _ => false
def chkEqs (P : Program) (t : Nat) (ks : List (Nat × Option IntKind)) : Bool := match P.underlying t with
  | some (.struct fs) => !P.stoodInHeld t && !P.eqGuardType P.depth t && fldsEq P fs.toList ks
  | _ => false
class TEqs (P : Program) (t : TypeId) (ks : outParam (List (Nat × Option IntKind))) : Prop where
  ok : chkEqs P t ks = true

theorem run_part_one {P : Program} {t off : Nat} {cs : Array Value} {v : Value} {w : World} (ht : (∃ k, P.underlying t = some (.int k)) ∨ P.underlying t = some .bool) (h : cs[off]? = some v) : (part t cs off).run P w = .ok v w := by
  rcases ht with ⟨k, hk⟩ | hk <;> simp [part, isAgg, run_underlying hk, h]

theorem run_eqFields_flat {P : Program} {w : World} (n : Nat) {cs ds : List Value} : ∀ {fs : List Field} {ks : List (Nat × Option IntKind)}, fldsEq P fs ks = true → okAt ks cs = true → okAt ks ds = true →
    (Op.eqFields (n + 1) cs.toArray ds.toArray fs).run P w = .ok (eqAt ks cs ds) w := by
  intro fs
  induction fs with
  | nil => intro ks h _ _; cases ks with
    | nil => simp [Op.eqFields, eqAt]
    | cons _ _ => simp [fldsEq] at h
  | cons f fs ih =>
    intro ks h h1 h2
    cases ks with
    | nil => simp [fldsEq] at h
    | cons q qs =>
      obtain ⟨o, k⟩ := q
      simp only [fldsEq, fldEq, Bool.and_eq_true, bne_iff_ne, ne_eq] at h
      obtain ⟨⟨⟨hn, ho⟩, hk⟩, hr⟩ := h
      have ho : f.offset = o := Nat.eq_of_beq_eq_true ho
      simp only [okAt, Bool.and_eq_true] at h1 h2
      have hrec := ih hr h1.2 h2.2
      subst ho
      have k1 := h1.1
      have k2 := h2.1
      match hu : P.underlying f.type, k, hk with
      | some (.int kk), some k', hk =>
        have e : kk = k' := by simpa using hk
        subst e
        match hc : cs[f.offset]?, k1 with
        | some (.int ka a), k1 =>
          have e1 : kk = ka := by simpa [kindAt] using k1
          subst e1
          match hd : ds[f.offset]?, k2 with
          | some (.int kb b), k2 =>
            have e2 : kk = kb := by simpa [kindAt] using k2
            subst e2
            have p1 := run_part_one (w := w) (.inl ⟨_, hu⟩) (show cs.toArray[f.offset]? = some (.int kk a) by simpa using hc)
            have p2 := run_part_one (w := w) (.inl ⟨_, hu⟩) (show ds.toArray[f.offset]? = some (.int kk b) by simpa using hd)
            have p3 := run_equalIn_int (P := P) w n f.type kk kk a b hu
            simp only [Op.eqFields, hn, ne_eq, not_false_eq_true, if_true, Sem.run_bind, p1, p2, p3, Result.andThen_ok]
            simp only [eqAt, hc, hd, cellEq]
            cases a == b <;> simp [hrec]
          | some (.bool _), k2 => simp [kindAt] at k2
        | some (.bool _), k1 => simp [kindAt] at k1
      | some .bool, none, _ =>
        match hc : cs[f.offset]?, k1 with
        | some (.bool a), _ =>
          match hd : ds[f.offset]?, k2 with
          | some (.bool b), _ =>
            have p1 := run_part_one (w := w) (.inr hu) (show cs.toArray[f.offset]? = some (.bool a) by simpa using hc)
            have p2 := run_part_one (w := w) (.inr hu) (show ds.toArray[f.offset]? = some (.bool b) by simpa using hd)
            have p3 := run_equalIn_bool' (P := P) w n f.type a b hu
            simp only [Op.eqFields, hn, ne_eq, not_false_eq_true, if_true, Sem.run_bind, p1, p2, p3, Result.andThen_ok]
            simp only [eqAt, hc, hd, cellEq]
            cases a == b <;> simp [hrec]
          | some (.int _ _), k2 => simp [kindAt] at k2
        | some (.int _ _), k1 => simp [kindAt] at k1

section
variable {P : Program} {N : Nat} {c : Cx} {F : Frm} {H : List Res} {d : Option Tmp} {ty : TypeId} {p : String} {af : Array Edge} {g : Option (Nat × Bool)}

theorem TEqs.get {t : Nat} {ks : List (Nat × Option IntKind)} (h : chkEqs P t ks = true) : P.underlying t = some (.struct (P.fieldsOf t)) ∧ P.stoodInHeld t = false ∧ P.eqGuardType P.depth t = false ∧ fldsEq P (P.fieldsOf t).toList ks = true := by
  unfold chkEqs at h
  split at h
  · rename_i fs hu
    simp only [Bool.and_eq_true, Bool.not_eq_true'] at h
    have e : P.fieldsOf t = fs := by simp [Program.fieldsOf, hu]
    rw [e]
    exact ⟨hu, h.1.1, h.1.2, h.2⟩
  · cases h
theorem VS_eqls {x y : Operand} {cs ds : List Value} {T U : TypeId} {ks : List (Nat × Option IntKind)} [hT : TEqs P T ks] (hx : ev F x = some (.agg cs.toArray)) (hy : ev F y = some (.agg ds.toArray)) (h1 : okAt ks cs = true) (h2 : okAt ks ds = true) :
    VS P N c ⟨d, .binOp .eql T x y U, ty, p, af, g⟩ F H (.bool (eqAt ks cs ds)) :=
  VS_of_run (by simp) fun a' w hf _ _ => by
    obtain ⟨e1, e2, e3, e4⟩ := TEqs.get hT.ok
    have q1 := run_eqGuard_agg (P := P) w .eql T x y cs.toArray ds.toArray e3
    have q2 := run_eql_struct (P := P) w T cs.toArray ds.toArray
    rw [run_equalIn_struct w 9999 T _ _ e1 e2, run_eqFields_flat 9998 e4 h1 h2] at q2
    simp only [Result.andThen_ok] at q2
    simp [execOp, ev_ok hf hx, ev_ok hf hy, q1, q2]
theorem VS_neqs {x y : Operand} {cs ds : List Value} {T U : TypeId} {ks : List (Nat × Option IntKind)} [hT : TEqs P T ks] (hx : ev F x = some (.agg cs.toArray)) (hy : ev F y = some (.agg ds.toArray)) (h1 : okAt ks cs = true) (h2 : okAt ks ds = true) :
    VS P N c ⟨d, .binOp .neq T x y U, ty, p, af, g⟩ F H (.bool (!eqAt ks cs ds)) :=
  VS_of_run (by simp) fun a' w hf _ _ => by
    obtain ⟨e1, e2, e3, e4⟩ := TEqs.get hT.ok
    have q1 := run_eqGuard_agg (P := P) w .neq T x y cs.toArray ds.toArray e3
    have q2 := run_neq_struct (P := P) w T cs.toArray ds.toArray
    rw [run_equalIn_struct w 9999 T _ _ e1 e2, run_eqFields_flat 9998 e4 h1 h2] at q2
    simp only [Result.andThen_ok] at q2
    simp [execOp, ev_ok hf hx, ev_ok hf hy, q1, q2]

/-! slices cut -/
def cutV (l h sz : Nat) : Value → Value
  | .slice a _ cap => .slice (if cap = l then a else a.map (·.add (l * sz))) (h - l) (cap - l)
  | v => v
theorem Ro.cut {w : World} {v : Value} {sz n l h : Nat} {xs : List Value} (hr : Ro w v sz n xs) (hl : l ≤ h) (hh : h ≤ n) : Ro w (cutV l h sz v) sz (h - l) ((xs.drop (l * sz)).take ((h - l) * sz)) := by
  have hlen : ((xs.drop (l * sz)).take ((h - l) * sz)).length = (h - l) * sz := by
    have : (h - l) * sz + l * sz ≤ n * sz := by rw [← Nat.add_mul]; exact Nat.mul_le_mul_right _ (by omega)
    simp [hr.1]; omega
  refine ⟨hlen, ?_⟩
  rcases hr.2 with ⟨⟨a, cp, rfl⟩, rfl⟩ | ⟨gb, off, cap, rfl, h2, h3, h4⟩
  · have e1 : l = 0 := by omega
    have e2 : h = 0 := by omega
    subst e1; subst e2
    exact .inl ⟨⟨_, _, rfl⟩, rfl⟩
  · by_cases e : cap = l
    · have e2 : h = l := by omega
      subst e2
      exact .inl ⟨⟨some ⟨gb, off, none⟩, cap - h, by simp [cutV, e]⟩, by omega⟩
    · refine .inr ⟨gb, off + l * sz, cap - l, by simp [cutV, e, Addr.add_lit], h2, by omega, fun j u hu => ?_⟩
      rw [List.getElem?_take] at hu
      split at hu
      · rw [List.getElem?_drop] at hu
        rw [Nat.add_assoc]
        exact h4 _ u hu
      · cases hu
theorem cutV_blk (l h sz : Nat) (v : Value) : (cutV l h sz v).ownBlock = v.ownBlock := by
  cases v with
  | slice a n cap => cases a <;> simp only [cutV] <;> split <;> simp [Value.ownBlock, Addr.add] <;> split <;> rfl
  | _ => rfl
theorem SlV.cut {l h sz : Nat} {v : Value} (hv : SlV v) : SlV (cutV l h sz v) := by obtain ⟨a, n, cp, rfl⟩ := hv; exact ⟨_, _, _, rfl⟩
theorem row_cut {c : Cx} {H : List Res} {v : Value} {sz n l h : Nat} {xs : List Value} (hr : RowAt c H v sz n xs) (hl : l ≤ h) (hh : h ≤ n) : RowAt c H (cutV l h sz v) sz (h - l) ((xs.drop (l * sz)).take ((h - l) * sz)) := ⟨fun w hs hp => (hr.ro w hs hp).cut hl hh⟩

theorem bound_nat {k : IntKind} {l n : Nat} {code : BoundsCode} {w : World} (h : l ≤ n) : (Instr.sliceBound (.int k l) n code).run P w = .ok l w := by
  have h2 : (l : Int) ≤ (n : Int) := by omega
  simp [Instr.sliceBound, asIntOf, h2]
theorem VS_cut_lo {x lo : Operand} {t e q sz n : Nat} (l : Nat) {v : Value} {xs : List Value} {k : IntKind} [ht : TSl P t e q] (hx : ev F x = some v) (hlo : ev F lo = some (.int k l)) [h : RowAt c H v sz n xs] (hl : l ≤ n) :
    VS P N c ⟨d, .slice t x (some lo) none none, ty, p, af, g⟩ F H (cutV l n q v) :=
  VS_of_run (by simp) fun a w hf hs hp => by
    obtain ⟨i, h1, h2, h3⟩ := TSl.get ht.ok
    obtain ⟨a0, cp, rfl⟩ : ∃ a0 cp, v = .slice a0 n cp := by
      rcases (h.ro w hs hp).2 with ⟨⟨a0, cp, rfl⟩, rfl⟩ | ⟨gb, off, cap, rfl, _⟩ <;> exact ⟨_, _, rfl⟩
    have b1 := bound_nat (P := P) (k := k) (w := w) (code := .sliceB) hl
    simp [execOp, ev_ok hf hx, ev_ok hf hlo, Instr.sliceAt, run_underlying h1, Instr.slice, Instr.sliceBounds, b1, sizeOf, typeInfo, h2, h3, cutV]
theorem VS_cut_hi {x hi : Operand} {t e q sz n : Nat} (m : Nat) {v : Value} {xs : List Value} {k : IntKind} [ht : TSl P t e q] (hx : ev F x = some v) (hhi : ev F hi = some (.int k m)) [h : RowAt c H v sz n xs] (hm : m ≤ n) :
    VS P N c ⟨d, .slice t x none (some hi) none, ty, p, af, g⟩ F H (cutV 0 m q v) :=
  VS_of_run (by simp) fun a w hf hs hp => by
    obtain ⟨i, h1, h2, h3⟩ := TSl.get ht.ok
    obtain ⟨a0, cp, rfl, hcp⟩ : ∃ a0 cp, v = .slice a0 n cp ∧ m ≤ cp := by
      rcases (h.ro w hs hp).2 with ⟨⟨a0, cp, rfl⟩, rfl⟩ | ⟨gb, off, cap, rfl, _, hle, _⟩
      · exact ⟨_, _, rfl, by omega⟩
      · exact ⟨_, _, rfl, by omega⟩
    have b1 := bound_nat (P := P) (k := k) (w := w) (code := .sliceAcap) hcp
    simp [execOp, ev_ok hf hx, ev_ok hf hhi, Instr.sliceAt, run_underlying h1, Instr.slice, Instr.sliceBounds, b1, sizeOf, typeInfo, h2, cutV]
theorem VS_cut {x lo hi : Operand} {t e q sz n : Nat} (l m : Nat) {v : Value} {xs : List Value} {k k' : IntKind} [ht : TSl P t e q] (hx : ev F x = some v) (hlo : ev F lo = some (.int k l)) (hhi : ev F hi = some (.int k' m)) [h : RowAt c H v sz n xs] (hl : l ≤ m) (hm : m ≤ n) :
    VS P N c ⟨d, .slice t x (some lo) (some hi) none, ty, p, af, g⟩ F H (cutV l m q v) :=
  VS_of_run (by simp) fun a w hf hs hp => by
    obtain ⟨i, h1, h2, h3⟩ := TSl.get ht.ok
    obtain ⟨a0, cp, rfl, hcp⟩ : ∃ a0 cp, v = .slice a0 n cp ∧ m ≤ cp := by
      rcases (h.ro w hs hp).2 with ⟨⟨a0, cp, rfl⟩, rfl⟩ | ⟨gb, off, cap, rfl, _, hle, _⟩
      · exact ⟨_, _, rfl, by omega⟩
      · exact ⟨_, _, rfl, by omega⟩
    have b1 := bound_nat (P := P) (k := k') (w := w) (code := .sliceAcap) hcp
    have b2 := bound_nat (P := P) (k := k) (w := w) (code := .sliceB) hl
    simp [execOp, ev_ok hf hx, ev_ok hf hlo, ev_ok hf hhi, Instr.sliceAt, run_underlying h1, Instr.slice, Instr.sliceBounds, b1, b2, sizeOf, typeInfo, h2, h3, cutV]

/-! append of what is read alone -/
theorem run_append_ro {t ty e sz bytes n m : Nat} {v x : Value} {xs news : List Value} {w : World} [ht : TEl P t e sz bytes] (hown : w.ownsRow 0 e sz v n xs) (hx : Ro w x sz m news) (h1 : OneC news) (hsm : (n + m) * bytes ≤ 140737488355328) (h63 : n + m ≤ 9223372036854775807) :
    ∃ v' w', (Builtin.append_ #[t, t] ty #[v, x]).run P w = .ok v' w' ∧ w'.ownsRow 0 e sz v' (n + m) (xs ++ news) ∧ Since v.ownBlock.toList w w' ∧
      (∀ k, v'.ownBlock = some k → (v.ownBlock = some k ∨ w.heap.size ≤ k) ∧ k < w'.heap.size) := by
  rcases hx.2 with ⟨⟨a, cp, rfl⟩, rfl⟩ | ⟨gb, off, cap, rfl, _, _, h4⟩
  · obtain ⟨i, z, e1, e2, e3, e4, e5, e6, e7⟩ := TEl.get ht.ok
    have hnil : news = [] := List.length_eq_zero_iff.1 (by rw [hx.1]; simp)
    subst hnil
    have hsrc : Src P i.size t (.slice a 0 cp) 0 [] w := by
      cases a with
      | none => exact Src.ofNil w e1 cp
      | some a => exact Src.ofSlice w e1 a 0 cp [] (by simp) (by simp) (by simp)
    obtain ⟨base, sCap, hv, hle⟩ : ∃ base sCap, v = .slice base n sCap ∧ n ≤ sCap := by
      rcases hown.2 with ⟨rfl, rfl⟩ | ⟨g, cap, cur, rfl, _, _, hc, _⟩
      · exact ⟨_, _, rfl, Nat.le_refl _⟩
      · exact ⟨_, _, rfl, hc⟩
    have hrun := run_append_nothing (P := P) w t t ty e i e1 e2 base n sCap hle _ hsrc
    rw [← hv] at hrun
    refine ⟨v, w, hrun, by simpa using hown, Since.refl _ _, fun k hk => ⟨.inl hk, ?_⟩⟩
    rcases hown.2 with ⟨rfl, _⟩ | ⟨g, cap, cur, rfl, _, hg, _⟩
    · cases hk
    · cases hk; exact (Array.getElem?_eq_some_iff.1 hg).1
  · exact run_append_row hown hx.1 h4 h1 hsm h63

theorem RX_append_ro {s x : Operand} {t e sz bytes n m : Nat} {v u : Value} {xs news : List Value} {f : Res → List Res} [TEl P t e sz bytes] (hs : ev F s = some v) [hr : SetRF H v e sz n xs f] (hx : ev F x = some u) [hu : RowAt c H u sz m news]
    (h1 : OneC news) (hsm : (n + m) * bytes ≤ 140737488355328) (h63 : n + m ≤ 9223372036854775807) :
    RX P N c ⟨d, .call ⟨.builtin .append, #[s, x], #[t, t]⟩, ty, p, af, g⟩ F H (fun v' => SlN v' (n + m)) (fun v' => v') (fun v' => f (.row v' e sz (n + m) (xs ++ news))) := fun D a w next Q hst hk => by
  obtain ⟨k, k1, k2⟩ := hr.ok
  have hm : Res.row v e sz n xs ∈ H := List.mem_of_getElem? k1
  obtain ⟨v', w', q1, q2, q3, q4⟩ := run_append_ro (P := P) (t := t) (ty := ty) (hst.hp.holds _ hm) (hu.ro w hst.si hst.hp) h1 hsm h63
  refine opIn_value (by simp) (v := v') (w' := w') ?_ (hk v' w' (SlN.of_row q2) (hst.si.trans q3 fun b' hb' => (hst.hp.own _ hm b' hb').1) ?_)
  · simp [execOp, resolve, invoke, builtin, ev_ok hst.fr hs, ev_ok hst.fr hx, q1]
  · show HpOk c.bs c.w0.heap.size (f (.row v' e sz (n + m) (xs ++ news))) w'
    rw [k2]
    refine hst.hp.set k1 q3.size (fun j hj hn => q3.block j hj hn) q2 hst.si.size (fun b' hb' => ?_)
    have := q4 b' (by simpa [Res.blk] using hb')
    exact ⟨this.1.imp (fun h => by simpa [Res.blk] using h) id, this.2⟩

/-! pools: slices that are read alone, any of which may share a row with another -/
structure Sl where
  v : Value
  sz : Nat
  n : Nat
  xs : List Value
def Sl.ok (w : World) (q : Sl) : Prop := Ro w q.v q.sz q.n q.xs
def poolBs (l : List Sl) : List Nat := l.flatMap fun q => q.v.ownBlock.toList
def pool (l : List Sl) : Res := .ext (poolBs l) fun w => ∀ q ∈ l, q.ok w
theorem pool_holds {w : World} {l : List Sl} : (pool l).holds w ↔ ∀ q ∈ l, q.ok w := by
  constructor
  · intro h; exact h w (Nat.le_refl _) fun _ _ => rfl
  · intro h w' hs hb q hq
    exact Ro.same (h q hq) hs fun b hv => hb b (List.mem_flatMap.2 ⟨q, hq, by simp [hv]⟩)

class HasP (H : List Res) (v : Value) (sz n : outParam Nat) (xs : outParam (List Value)) : Prop where
  ok : ∃ l, pool l ∈ H ∧ (⟨v, sz, n, xs⟩ : Sl) ∈ l
class MemP (l : List Sl) (v : Value) (sz n : outParam Nat) (xs : outParam (List Value)) : Prop where
  ok : (⟨v, sz, n, xs⟩ : Sl) ∈ l
instance (priority := 100) MemP_here (v sz n xs) (l : List Sl) : MemP (⟨v, sz, n, xs⟩ :: l) v sz n xs := ⟨by simp⟩
instance (priority := 50) MemP_there (q : Sl) (l : List Sl) (v sz n xs) [h : MemP l v sz n xs] : MemP (q :: l) v sz n xs := ⟨by simp [h.ok]⟩
instance (priority := 100) HasP_here (v sz n xs) (l : List Sl) (H : List Res) [h : MemP l v sz n xs] : HasP (pool l :: H) v sz n xs := ⟨⟨l, by simp, h.ok⟩⟩
instance (priority := 50) HasP_there (r : Res) (H : List Res) (v sz n xs) [h : HasP H v sz n xs] : HasP (r :: H) v sz n xs := ⟨by obtain ⟨l, h1, h2⟩ := h.ok; exact ⟨l, by simp [h1], h2⟩⟩
instance (priority := 10) RowAt_pool (c : Cx) (H : List Res) (v : Value) (sz n xs) [h : HasP H v sz n xs] : RowAt c H v sz n xs := ⟨fun w _ hp => by
  obtain ⟨l, h1, h2⟩ := h.ok
  exact pool_holds.1 (hp.holds _ h1) _ h2⟩

/-- any pool may lie about: the empty one -/
theorem hp_pool0 {bs : List Nat} {n0 : Nat} {w : World} (h : HpOk bs n0 H w) : HpOk bs n0 (pool [] :: H) w :=
  h.cons (pool_holds.2 (by simp)) (fun b hb => by simp [pool, Res.blk, poolBs] at hb) (fun s _ b hb => by simp [pool, Res.blk, poolBs] at hb)
theorem WP_pool0 {D : List Deferred} {Q : Exit → Act → World → Prop} {x : Code} (h : WP P N c D x Q F (pool [] :: H)) : WP P N c D x Q F H := WP_res (fun _ _ _ hp => hp_pool0 hp) h
theorem WL_pool0 {D : List Deferred} {ops : Array Oper} {Q : Exit → Act → World → Prop} {l : List Oper} (h : WL P N c D ops Q l F (pool [] :: H)) : WL P N c D ops Q l F H := WL_res (fun _ _ _ hp => hp_pool0 hp) h

class SetP (H : List Res) (l : outParam (List Sl)) (f : outParam (Res → List Res)) : Prop where
  ok : ∃ k, H[k]? = some (pool l) ∧ ∀ r, f r = H.set k r
instance (priority := 100) SetP_here (l : List Sl) (H : List Res) : SetP (pool l :: H) l (fun r => r :: H) := ⟨⟨0, rfl, fun _ => rfl⟩⟩
instance (priority := 50) SetP_there (r : Res) (H : List Res) (l f) [h : SetP H l f] : SetP (r :: H) l (fun q => r :: f q) :=
  ⟨by obtain ⟨k, h1, h2⟩ := h.ok; exact ⟨k + 1, by simpa using h1, fun q => by simp [h2]⟩⟩
/-- a pool turned: its slices again, or cut, or left out -/
theorem hp_pool {bs : List Nat} {n0 : Nat} {w : World} {l l' : List Sl} {f : Res → List Res} [hr : SetP H l f] (h : HpOk bs n0 H w) (h1 : ∀ w, (∀ q ∈ l, q.ok w) → ∀ q ∈ l', q.ok w) (h2 : ∀ b ∈ poolBs l', b ∈ poolBs l) : HpOk bs n0 (f (pool l')) w := by
  obtain ⟨k, k1, k2⟩ := hr.ok
  rw [k2]
  exact h.turn k1 (fun w hw => pool_holds.2 (h1 w (pool_holds.1 hw))) h2
theorem WP_pool {D : List Deferred} {Q : Exit → Act → World → Prop} {x : Code} {l : List Sl} {f : Res → List Res} [hr : SetP H l f] (l' : List Sl) (h1 : ∀ w, (∀ q ∈ l, q.ok w) → ∀ q ∈ l', q.ok w) (h2 : ∀ b ∈ poolBs l', b ∈ poolBs l) (h : WP P N c D x Q F (f (pool l'))) : WP P N c D x Q F H := WP_res (fun _ _ _ hp => hp_pool (hr := hr) hp h1 h2) h
theorem WL_pool {D : List Deferred} {ops : Array Oper} {Q : Exit → Act → World → Prop} {x : List Oper} {l : List Sl} {f : Res → List Res} [hr : SetP H l f] (l' : List Sl) (h1 : ∀ w, (∀ q ∈ l, q.ok w) → ∀ q ∈ l', q.ok w) (h2 : ∀ b ∈ poolBs l', b ∈ poolBs l) (h : WL P N c D ops Q x F (f (pool l'))) : WL P N c D ops Q x F H := WL_res (fun _ _ _ hp => hp_pool (hr := hr) hp h1 h2) h
theorem WQ_pool {D : List Deferred} {Q : Exit → Act → World → Prop} {x : Exit} {l : List Sl} {f : Res → List Res} [hr : SetP H l f] (l' : List Sl) (h1 : ∀ w, (∀ q ∈ l, q.ok w) → ∀ q ∈ l', q.ok w) (h2 : ∀ b ∈ poolBs l', b ∈ poolBs l) (h : WQ N c D Q x F (f (pool l'))) : WQ N c D Q x F H := WQ_res (fun _ _ _ hp => hp_pool (hr := hr) hp h1 h2) h
/-- two pools become one; a slice of our own goes to a pool -/
theorem hp_pools {bs : List Nat} {n0 : Nat} {w : World} {l l' : List Sl} (h : HpOk bs n0 (pool l :: pool l' :: H) w) : HpOk bs n0 (pool (l ++ l') :: H) w := by
  have hq := h.apart
  rw [List.pairwise_cons, List.pairwise_cons] at hq
  have hb : ∀ b, b ∈ (pool (l ++ l')).blk → b ∈ (pool l).blk ∨ b ∈ (pool l').blk := fun b hb => by simpa [pool, Res.blk, poolBs] using hb
  refine HpOk.cons (h.sub (by refine List.Sublist.cons _ (List.Sublist.cons _ (List.Sublist.refl _)))) ?_ ?_ ?_
  · refine pool_holds.2 fun q hq' => ?_
    rcases List.mem_append.1 hq' with h1 | h1
    · exact pool_holds.1 (h.holds (pool l) (by simp)) q h1
    · exact pool_holds.1 (h.holds (pool l') (by simp)) q h1
  · intro b hbb
    rcases hb b hbb with h1 | h1
    · exact h.own (pool l) (by simp) b h1
    · exact h.own (pool l') (by simp) b h1
  · intro s hs b hbb
    rcases hb b hbb with h1 | h1
    · exact hq.1 s (by simp [hs]) b h1
    · exact hq.2.1 s hs b h1
theorem perm_out {α : Type} {x : α} : ∀ {H : List α} {k : Nat}, H[k]? = some x → H.Perm (x :: H.eraseIdx k) := by
  intro H
  induction H with
  | nil => intro k h; simp at h
  | cons y H ih =>
    intro k h
    cases k with
    | zero => simp at h; subst h; exact List.Perm.refl _
    | succ k => exact ((ih (k := k) (by simpa using h)).cons y).trans (List.Perm.swap _ _ _)
theorem perm_set {α : Type} {r : α} : ∀ {H : List α} {k : Nat}, k < H.length → (H.set k r).Perm (r :: H.eraseIdx k) := by
  intro H
  induction H with
  | nil => intro k h; simp at h
  | cons y H ih =>
    intro k h
    cases k with
    | zero => exact List.Perm.refl _
    | succ k => exact ((ih (k := k) (by simpa using h)).cons y).trans (List.Perm.swap _ _ _)
theorem hp_merge {bs : List Nat} {n0 : Nat} {w : World} {l l' : List Sl} {f : Res → List Res} [hr : SetP H l' f] (h : HpOk bs n0 (pool l :: H) w) : HpOk bs n0 (f (pool (l ++ l'))) w := by
  obtain ⟨k, k1, k2⟩ := hr.ok
  rw [k2]
  have hlt := (List.getElem?_eq_some_iff.1 k1).1
  exact (hp_pools (h.perm ((perm_out k1).cons _))).perm (perm_set hlt).symm
theorem WQ_merge {D : List Deferred} {Q : Exit → Act → World → Prop} {x : Exit} {l l' : List Sl} {f : Res → List Res} [hr : SetP H l' f] (h : WQ N c D Q x F (f (pool (l ++ l')))) : WQ N c D Q x F (pool l :: H) := WQ_res (fun _ _ _ hp => hp_merge (hr := hr) hp) h
theorem WL_merge {D : List Deferred} {ops : Array Oper} {Q : Exit → Act → World → Prop} {x : List Oper} {l l' : List Sl} {f : Res → List Res} [hr : SetP H l' f] (h : WL P N c D ops Q x F (f (pool (l ++ l')))) : WL P N c D ops Q x F (pool l :: H) := WL_res (fun _ _ _ hp => hp_merge (hr := hr) hp) h
theorem sl_pool {v : Value} {sz n : Nat} {xs : List Value} {bs : List Nat} {n0 : Nat} {w : World} (h : HpOk bs n0 (.sl v sz n xs :: H) w) : HpOk bs n0 (pool [⟨v, sz, n, xs⟩] :: H) w :=
  h.turn (k := 0) rfl (fun w hw => pool_holds.2 fun q hq => by simp at hq; subst hq; exact hw) (fun b hb => by simpa [pool, Res.blk, poolBs] using hb)
theorem hp_rowpool {bs : List Nat} {n0 : Nat} {w : World} {v : Value} {e sz n : Nat} {xs : List Value} {f : Res → List Res} [hr : SetRF H v e sz n xs f] (h : HpOk bs n0 H w) : HpOk bs n0 (f (pool [⟨v, sz, n, xs⟩])) w := by
  obtain ⟨k, k1, k2⟩ := hr.ok
  rw [k2]
  exact h.turn k1 (fun w hw => pool_holds.2 fun q hq => by simp at hq; subst hq; exact Ro.of_row hw) (fun b hb => by simpa [pool, Res.blk, poolBs] using hb)
theorem WQ_pool0 {D : List Deferred} {Q : Exit → Act → World → Prop} {x : Exit} (h : WQ N c D Q x F (pool [] :: H)) : WQ N c D Q x F H := WQ_res (fun _ _ _ hp => hp_pool0 hp) h
theorem WQ_rowpool {D : List Deferred} {Q : Exit → Act → World → Prop} {x : Exit} (v : Value) {e sz n : Nat} {xs : List Value} {f : Res → List Res} [hr : SetRF H v e sz n xs f] (h : WQ N c D Q x F (f (pool [⟨v, sz, n, xs⟩]))) : WQ N c D Q x F H := WQ_res (fun _ _ _ hp => hp_rowpool hp) h
@[simp] theorem slice_one (a : Option Addr) (n cp : Nat) : (Value.slice a n cp).oneCell' = true := by cases a <;> rfl
end
end Go.Bw
