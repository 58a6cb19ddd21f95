/- Maps with keys of an integer kind and elements of one cell: as lists of pairs. No program is named. -/
import Derived.Test.YtmdpbdhkmfjlhaaSl3
import Derived.Maps.RangeRun
import Derived.MapKept
import Derived.Carry
namespace Go.Bw
open Go Go.RowKit Go.ChangeMaps

/-! the plain words -/
section
variable {β : Type}
def mfind : List (Int × β) → Int → Option (Nat × β)
  | [], _ => none
  | p :: r, k => bif k == p.1 then some (0, p.2) else (mfind r k).map fun q => (q.1 + 1, q.2)
def mget (l : List (Int × β)) (k : Int) (z : β) : β := ((mfind l k).map Prod.snd).getD z
def mhas (l : List (Int × β)) (k : Int) : Bool := (mfind l k).isSome
def mset : List (Int × β) → Int → β → List (Int × β)
  | [], k, v => [(k, v)]
  | p :: r, k, v => bif k == p.1 then (k, v) :: r else p :: mset r k v
def mdel : List (Int × β) → Int → List (Int × β)
  | [], _ => []
  | p :: r, k => bif k == p.1 then r else p :: mdel r k
end

/-- the cell of an element -/
class OneV {β : Type} (E : β → Value) : Prop where
  ok : True
/-- entries that are these pairs -/
structure MapOk {β : Type} (q : IntKind) (E : β → Value) (es : Array MapEntry) (clock : Nat) (l : List (Int × β)) : Prop where
  kv : es.toList.map (fun e => (e.key, e.val)) = l.map fun p => (Value.int q p.1, E p.2)
  born : ∀ e ∈ es.toList, e.born < clock
  nd : (es.toList.map (·.born)).Nodup
def MpJ {β : Type} (b : Nat) (q : IntKind) (E : β → Value) (l : List (Int × β)) (w : World) : Prop := ∃ es clock, w.heap[b]? = some (.map es clock) ∧ MapOk q E es clock l
abbrev Mp {β : Type} (b : Nat) (q : IntKind) (E : β → Value) (l : List (Int × β)) : Res := .ext [b] (MpJ b q E l)
theorem Mp_holds {β : Type} {b : Nat} {q : IntKind} {E : β → Value} {l : List (Int × β)} {w : World} (h : MpJ b q E l w) : (Mp b q E l).holds w := fun w' _ hb => by
  obtain ⟨es, clock, h1, h2⟩ := h
  exact ⟨es, clock, (hb b (by simp)).trans h1, h2⟩
theorem Mp_get {β : Type} {b : Nat} {q : IntKind} {E : β → Value} {l : List (Int × β)} {w : World} (h : (Mp b q E l).holds w) : MpJ b q E l w := ext_get h

class MpIn (H : List Res) (b : Nat) (β : outParam Type) (q : outParam IntKind) (E : outParam (β → Value)) (l : outParam (List (Int × β))) (f : outParam (Res → List Res)) : Prop where
  ok : ∃ k : Nat, H[k]? = some (Mp b q E l) ∧ ∀ r', f r' = H.set k r'
instance (priority := 100) MpIn_here {β : Type} (b : Nat) (q : IntKind) (E : β → Value) (l : List (Int × β)) (H : List Res) : MpIn (Mp b q E l :: H) b β q E l (fun r' => r' :: H) := ⟨0, rfl, fun _ => rfl⟩
instance (priority := 50) MpIn_there (r : Res) (H : List Res) (b : Nat) (β : Type) (q : IntKind) (E : β → Value) (l f) [h : MpIn H b β q E l f] : MpIn (r :: H) b β q E l (fun r' => r :: f r') :=
  ⟨by obtain ⟨k, h1, h2⟩ := h.ok; exact ⟨k + 1, by simpa using h1, fun r' => by rw [h2 r']; simp⟩⟩

/-- the types of a map -/
class TMap (P : Program) (t : TypeId) (k e : outParam TypeId) (q : outParam IntKind) : Prop where
  ok : P.underlying t = some (.map k e) ∧ P.underlying k = some (.int q)

section
variable {β : Type} {q : IntKind} {E : β → Value}
theorem findNow_kv {k : Int} : ∀ (es : List MapEntry) (l : List (Int × β)) (i : Nat), es.map (fun e => (e.key, e.val)) = l.map (fun p => (Value.int q p.1, E p.2)) →
    Instr.findNow (.int q) (.int q k) es i = some ((mfind l k).map fun p => (i + p.1, E p.2))
  | [], [], i, _ => rfl
  | [], p :: r, i, h => by simp at h
  | e :: es, [], i, h => by simp at h
  | e :: es, p :: r, i, h => by
    simp only [List.map_cons, List.cons.injEq, Prod.mk.injEq] at h
    obtain ⟨⟨h1, h2⟩, h3⟩ := h
    have ih := findNow_kv (k := k) es r (i + 1) h3
    unfold Instr.findNow mfind
    rw [h1]
    have hs : Instr.sameNow (.int q) (.int q k) (.int q p.1) = some (k == p.1) := by simp [Instr.sameNow]
    rw [hs]
    cases hk : k == p.1 with
    | true => simp [h2]
    | false =>
      simp only [ih, cond_false, Option.map_map]
      congr 1
      cases mfind r k with
      | none => rfl
      | some z => simp [Function.comp]; omega
theorem run_findKey_int {P : Program} {kt : TypeId} {k : Int} {es : Array MapEntry} {clock : Nat} {l : List (Int × β)} (w : World) (hk : P.underlying kt = some (.int q)) (h : MapOk q E es clock l) :
    (Instr.findKey kt (.int q k) es.toList).run P w = .ok ((mfind l k).map fun p => (p.1, E p.2)) w := by
  unfold Instr.findKey
  rw [Sem.run_bind, run_underlying hk w]
  simp only [Result.andThen]
  rw [findNow_kv es.toList l 0 h.kv]
  cases mfind l k with
  | none => rfl
  | some z => simp [Sem.run]

theorem mfind_get {k : Int} : ∀ {l : List (Int × β)} {j : Nat} {y : β}, mfind l k = some (j, y) → l[j]? = some (k, y)
  | [], _, _, h => by simp [mfind] at h
  | p :: r, j, y, h => by
    unfold mfind at h
    cases hk : k == p.1 with
    | true =>
      rw [hk] at h
      simp only [cond_true, Option.some.injEq, Prod.mk.injEq] at h
      obtain ⟨rfl, rfl⟩ := h
      have : k = p.1 := by simpa using hk
      subst this; rfl
    | false =>
      rw [hk] at h
      simp only [cond_false] at h
      cases hr : mfind r k with
      | none => simp [hr] at h
      | some z =>
        rw [hr] at h
        simp only [Option.map_some, Option.some.injEq, Prod.mk.injEq] at h
        obtain ⟨rfl, rfl⟩ := h
        have := mfind_get (l := r) (j := z.1) (y := z.2) hr
        simpa using this
theorem mset_none {k : Int} {v : β} : ∀ {l : List (Int × β)}, mfind l k = none → mset l k v = l ++ [(k, v)]
  | [], _ => rfl
  | p :: r, h => by
    unfold mfind at h
    cases hk : k == p.1 with
    | true => rw [hk] at h; simp at h
    | false =>
      rw [hk] at h
      simp only [cond_false, Option.map_eq_none_iff] at h
      unfold mset
      rw [hk, cond_false, mset_none h]; rfl
theorem mset_some {k : Int} {v : β} : ∀ {l : List (Int × β)} {j : Nat} {y : β}, mfind l k = some (j, y) → mset l k v = l.set j (k, v)
  | [], _, _, h => by simp [mfind] at h
  | p :: r, j, y, h => by
    unfold mfind at h
    unfold mset
    cases hk : k == p.1 with
    | true =>
      rw [hk] at h
      simp only [cond_true, Option.some.injEq, Prod.mk.injEq] at h
      obtain ⟨rfl, rfl⟩ := h
      rfl
    | false =>
      rw [hk] at h
      simp only [cond_false] at h
      cases hr : mfind r k with
      | none => simp [hr] at h
      | some z =>
        rw [hr] at h
        simp only [Option.map_some, Option.some.injEq, Prod.mk.injEq] at h
        obtain ⟨rfl, rfl⟩ := h
        rw [cond_false, mset_some (j := z.1) (y := z.2) hr]; rfl
theorem mdel_none {k : Int} : ∀ {l : List (Int × β)}, mfind l k = none → mdel l k = l
  | [], _ => rfl
  | p :: r, h => by
    unfold mfind at h
    cases hk : k == p.1 with
    | true => rw [hk] at h; simp at h
    | false =>
      rw [hk] at h
      simp only [cond_false, Option.map_eq_none_iff] at h
      unfold mdel
      rw [hk, cond_false, mdel_none h]
theorem mdel_some {k : Int} : ∀ {l : List (Int × β)} {j : Nat} {y : β}, mfind l k = some (j, y) → mdel l k = l.eraseIdx j
  | [], _, _, h => by simp [mfind] at h
  | p :: r, j, y, h => by
    unfold mfind at h
    unfold mdel
    cases hk : k == p.1 with
    | true =>
      rw [hk] at h
      simp only [cond_true, Option.some.injEq, Prod.mk.injEq] at h
      obtain ⟨rfl, rfl⟩ := h
      rfl
    | false =>
      rw [hk] at h
      simp only [cond_false] at h
      cases hr : mfind r k with
      | none => simp [hr] at h
      | some z =>
        rw [hr] at h
        simp only [Option.map_some, Option.some.injEq, Prod.mk.injEq] at h
        obtain ⟨rfl, rfl⟩ := h
        rw [cond_false, mdel_some (j := z.1) (y := z.2) hr]; rfl

theorem MapOk.len {es : Array MapEntry} {clock : Nat} {l : List (Int × β)} (h : MapOk q E es clock l) : es.size = l.length := by
  have := congrArg List.length h.kv
  simpa using this
theorem MapOk.push {es : Array MapEntry} {clock : Nat} {l : List (Int × β)} (h : MapOk q E es clock l) (k : Int) (v : β) : MapOk q E (es.push ⟨.int q k, E v, clock⟩) (clock + 1) (l ++ [(k, v)]) := by
  refine ⟨by simp [h.kv], fun e he => ?_, ?_⟩
  · rw [Array.toList_push, List.mem_append, List.mem_singleton] at he
    rcases he with he | rfl
    · exact Nat.lt_succ_of_lt (h.born e he)
    · exact Nat.lt_succ_self _
  · rw [Array.toList_push, List.map_append, List.nodup_append]
    refine ⟨h.nd, by simp, fun a ha b hb => ?_⟩
    obtain ⟨e, he, rfl⟩ := List.mem_map.1 ha
    have hb : b = clock := by simpa using hb
    subst hb
    exact fun e' => by have := h.born e he; omega
theorem list_modify_map {γ : Type} (f : MapEntry → MapEntry) (g : MapEntry → γ) (x : γ) : ∀ (es : List MapEntry) (j : Nat), (∀ e, g (f e) = x) → (es.modify j f).map g = (es.map g).set j x
  | [], j, _ => by simp
  | e :: es, 0, h => by simp [h]
  | e :: es, j + 1, h => by simp [list_modify_map f g x es j h]
theorem list_modify_same {γ : Type} (f : MapEntry → MapEntry) (g : MapEntry → γ) : ∀ (es : List MapEntry) (j : Nat), (∀ e, g (f e) = g e) → (es.modify j f).map g = es.map g
  | [], j, _ => by simp
  | e :: es, 0, h => by simp [h]
  | e :: es, j + 1, h => by simp [list_modify_same f g es j h]
theorem MapOk.modify {es : Array MapEntry} {clock : Nat} {l : List (Int × β)} (h : MapOk q E es clock l) (j : Nat) (k : Int) (v : β) : MapOk q E (es.modify j fun e => { e with key := .int q k, val := E v }) clock (l.set j (k, v)) := by
  have hb : (es.modify j fun e => { e with key := .int q k, val := E v }).toList.map (·.born) = es.toList.map (·.born) := by
    rw [Array.toList_modify]; exact list_modify_same _ _ _ _ fun _ => rfl
  refine ⟨?_, fun e he => ?_, ?_⟩
  · rw [Array.toList_modify, list_modify_map _ _ (Value.int q k, E v) _ _ (fun _ => rfl), h.kv, List.map_set]
  · have : e.born ∈ es.toList.map (·.born) := by rw [← hb]; exact List.mem_map_of_mem he
    obtain ⟨e', he', hee⟩ := List.mem_map.1 this
    rw [← hee]; exact h.born e' he'
  · rw [hb]; exact h.nd
theorem erase_map {γ δ : Type} (f : γ → δ) : ∀ (l : List γ) (j : Nat), (l.eraseIdx j).map f = (l.map f).eraseIdx j
  | [], j => by simp
  | x :: r, 0 => by simp
  | x :: r, j + 1 => by simp [erase_map f r j]
theorem MapOk.erase {es : Array MapEntry} {clock : Nat} {l : List (Int × β)} (h : MapOk q E es clock l) (j : Nat) : MapOk q E (es.eraseIdxIfInBounds j) clock (l.eraseIdx j) := by
  have ht : (es.eraseIdxIfInBounds j).toList = es.toList.eraseIdx j := by
    unfold Array.eraseIdxIfInBounds
    split
    · simp
    · rename_i hj
      rw [List.eraseIdx_of_length_le (by simpa using hj)]
  refine ⟨?_, fun e he => ?_, ?_⟩
  · rw [ht, erase_map, h.kv, ← erase_map]
  · rw [ht] at he; exact h.born e (List.mem_of_mem_eraseIdx he)
  · rw [ht, erase_map]; exact h.nd.sublist (List.eraseIdx_sublist _ _)
end

/-! the operations -/
section rules
variable {P : Program} {N : Nat} {c : Cx} {F : Frm} {H : List Res} {d : Option Tmp} {ty : TypeId} {ps : String} {af : Array Edge} {g : Option (Nat × Bool)} {β : Type} {q : IntKind} {E : β → Value} {l : List (Int × β)} {f : Res → List Res} {b : Nat}

theorem MpIn.getw {bs : List Nat} {n0 : Nat} {w : World} (h : MpIn H b β q E l f) (hp : HpOk bs n0 H w) : MpJ b q E l w := by
  obtain ⟨k, h1, _⟩ := h.ok
  exact Mp_get (hp.holds _ (List.mem_of_getElem? h1))
/-- the map is another one, in the world behind a store -/
theorem MpIn.put {N : Nat} {D : List Deferred} {a : Act} {w : World} {l' : List (Int × β)} {es es' : Array MapEntry} {clock clock' : Nat} (h : MpIn H b β q E l f) (hst : St N c D F H a w) (he : w.heap[b]? = some (.map es clock)) (hok : MapOk q E es' clock' l') :
    Since c.bs c.w0 (w.putObj b (.map es' clock')) ∧ HpOk c.bs c.w0.heap.size (f (Mp b q E l')) (w.putObj b (.map es' clock')) := by
  obtain ⟨k, h1, h2⟩ := h.ok
  have hlt := (Array.getElem?_eq_some_iff.1 he).1
  have hsin : Since [b] w (w.putObj b (.map es' clock')) := ⟨rfl, rfl, rfl, by simp [World.putObj], fun k _ hk => World.putObj_heap_other (by simpa using hk)⟩
  refine ⟨hst.si.store hst.hp (List.mem_of_getElem? h1) (by simp [Res.blk]) hsin, ?_⟩
  rw [h2]
  refine hst.hp.set h1 hsin.size (fun j hj hne => hsin.block j hj (by simpa [Res.blk] using hne)) (Mp_holds ⟨es', clock', World.putObj_heap_same hlt, hok⟩) hst.si.size (fun b' hb => ?_)
  have e : b' = b := by simpa [Res.blk] using hb
  subst e
  exact ⟨.inl (by simp [Res.blk]), by rw [World.putObj]; simpa using hlt⟩

theorem RX_eq {α : Type} {o : Oper} {p : α → Prop} {fv : α → Value} {fH fH' : α → List Res} (h : RX P N c o F H p fv fH) (e : fH = fH') : RX P N c o F H p fv fH' := e ▸ h
theorem RX_makeMap (q : IntKind) (E : β → Value) {t k e : TypeId} {q' : IntKind} [TMap P t k e q'] :
    RX P N c ⟨d, .makeMap t none, ty, ps, af, g⟩ F H (fun _ => True) (fun b => .map (some b)) (fun b => Mp b q E [] :: H) := fun D a w next Q hst hk => by
  refine opIn_value (by simp) (w' := w.alloc (.map #[] 0)) ?_ (hk w.heap.size _ trivial (hst.si.ext (Since.alloc _ _)) (hst.hp.fresh (Since.alloc _ _) (Mp_holds ⟨#[], 0, by show (w.heap.push _)[w.heap.size]? = _; simp, ⟨rfl, by simp, by simp⟩⟩) hst.si.size (fun b hb => ?_)))
  · simp [execOp, Instr.makeMap, newObj, Sem.run, Result.andThen]
  · have e : b = w.heap.size := by simpa [Res.blk] using hb
    subst e
    exact ⟨Nat.le_refl _, by simp⟩

/-- the zero of an element -/
class TZv (P : Program) (e : TypeId) (z : outParam Value) : Prop where
  ok : (P.info? e).bind (·.zero) = some z
theorem run_zv {e : TypeId} {z : Value} (h : TZv P e z) (w : World) : (zeroValue e).run P w = .ok z w := by
  have := h.ok
  cases hi : P.info? e with
  | none => simp [hi] at this
  | some i =>
    simp [hi] at this
    simp [zeroValue, typeInfo, hi, this, Sem.run_bind, Sem.run, Result.andThen]

theorem run_lookup_map {t kt e : TypeId} {k : Int} {z : β} {commaOk : Bool} (w : World) (ht : TMap P t kt e q) (hz : TZv P e (E z)) (h : MpJ b q E l w) :
    (Instr.lookup t (.map (some b)) (.int q k) commaOk).run P w = .ok (if commaOk then .tuple #[E (mget l k z), .bool (mhas l k)] else E (mget l k z)) w := by
  obtain ⟨es, clock, h1, h2⟩ := h
  obtain ⟨t1, t2⟩ := ht.ok
  have hf := run_findKey_int (k := k) w t2 h2
  have hc : ∀ em, (Instr.checkKey em 10000 kt (.int q k)).run P w = .ok () w := fun em => MapKept.run_checkKey (k := .int q k) t2 (show q = q from rfl) em 9999
  simp only [Instr.lookup, Sem.run_bind, run_underlying t1, Result.andThen, MapKept.run_getObj_map h1, Sem.run]
  rw [Sem.run_pure]
  dsimp only
  rw [hc]
  dsimp only
  rw [hf]
  dsimp only
  unfold mget mhas
  cases mfind l k with
  | none => cases commaOk <;> simp [run_zv hz, Result.andThen]
  | some p => cases commaOk <;> simp [Result.andThen]
theorem VS_lookup {x y : Operand} {t kt e : TypeId} {k : Int} (z : β) [ht : TMap P t kt e q] [hz : TZv P e (E z)] (hx : ev F x = some (.map (some b))) (hy : ev F y = some (.int q k)) [hm : MpIn H b β q E l f] :
    VS P N c ⟨d, .lookup t x y false, ty, ps, af, g⟩ F H (E (mget l k z)) := VS_of_run (by simp) fun a w hf _ hp => by
  simp [execOp, ev_ok hf hx, ev_ok hf hy, run_lookup_map w ht hz (hm.getw hp), Result.andThen]
theorem VS_lookup2 {x y : Operand} {t kt e : TypeId} {k : Int} (z : β) [ht : TMap P t kt e q] [hz : TZv P e (E z)] (hx : ev F x = some (.map (some b))) (hy : ev F y = some (.int q k)) [hm : MpIn H b β q E l f] :
    VS P N c ⟨d, .lookup t x y true, ty, ps, af, g⟩ F H (.tuple #[E (mget l k z), .bool (mhas l k)]) := VS_of_run (by simp) fun a w hf _ hp => by
  simp [execOp, ev_ok hf hx, ev_ok hf hy, run_lookup_map w ht hz (hm.getw hp), Result.andThen]
theorem VS_lenM {x : Operand} {t kt e : TypeId} [ht : TMap P t kt e q] (hx : ev F x = some (.map (some b))) [hm : MpIn H b β q E l f] :
    VS P N c ⟨d, .call ⟨.builtin .len, #[x], #[t]⟩, ty, ps, af, g⟩ F H (.int .i64 (l.length : Int)) := VS_of_run (by simp) fun a w hf _ hp => by
  obtain ⟨es, clock, h1, h2⟩ := hm.getw hp
  simp [execOp, resolve, invoke, builtin, ev_ok hf hx, Builtin.len_, Builtin.lenOf, run_underlying ht.ok.1, MapKept.run_getObj_map h1, h2.len, goInt, Result.andThen, Sem.run]
theorem RX_mapUpdate {x y z : Operand} {t kt e : TypeId} {k : Int} {v : Value} (u : β) [ht : TMap P t kt e q] (hx : ev F x = some (.map (some b))) (hy : ev F y = some (.int q k)) (hz : ev F z = some v) [hm : MpIn H b β q E l f] (hv : v = E u) :
    RX (α := Unit) P N c ⟨d, .mapUpdate t x y z, ty, ps, af, g⟩ F H (fun _ => True) (fun _ => undef) (fun _ => f (Mp b q E (mset l k u))) := fun D a w next Q hst hk => by
  subst hv
  obtain ⟨es, clock, h1, h2⟩ := hm.getw hst.hp
  obtain ⟨t1, t2⟩ := ht.ok
  have hf := run_findKey_int (k := k) w t2 h2
  have hc : ∀ em, (Instr.checkKey em 10000 kt (.int q k)).run P w = .ok () w := fun em => MapKept.run_checkKey (k := .int q k) t2 (show q = q from rfl) em 9999
  cases hm1 : mfind l k with
  | none =>
    obtain ⟨p1, p2⟩ := hm.put hst h1 (h2.push k u)
    refine opIn_skip (by simp) (w' := w.putObj b (.map (es.push ⟨.int q k, E u, clock⟩) (clock + 1))) ?_ (hk () _ trivial p1 (by rw [mset_none hm1]; exact p2))
    rw [hm1] at hf
    simp [execOp, ev_ok hst.fr hx, ev_ok hst.fr hy, ev_ok hst.fr hz, Instr.mapUpdate, run_underlying t1, MapKept.run_getObj_map h1, hc, hf, MapKept.run_setObj_map _ h1, Result.andThen, World.putObj]
  | some p =>
    have hg := mfind_get (j := p.1) (y := p.2) hm1
    obtain ⟨p1, p2⟩ := hm.put hst h1 (h2.modify p.1 k u)
    refine opIn_skip (by simp) (w' := w.putObj b (.map (es.modify p.1 fun e => { e with key := .int q k, val := E u }) clock)) ?_ (hk () _ trivial p1 (by rw [mset_some (j := p.1) (y := p.2) hm1]; exact p2))
    rw [hm1] at hf
    have hkey : ((es[p.1]?).map (·.key)) = some (.int q k) := by
      have : (es.toList.map fun e => (e.key, e.val))[p.1]? = some (Value.int q k, E p.2) := by rw [h2.kv, List.getElem?_map, hg]; rfl
      rw [List.getElem?_map, Array.getElem?_toList] at this
      cases he : es[p.1]? with
      | none => simp [he] at this
      | some e0 => simp [he] at this; simp [this.1]
    simp [execOp, ev_ok hst.fr hx, ev_ok hst.fr hy, ev_ok hst.fr hz, Instr.mapUpdate, run_underlying t1, MapKept.run_getObj_map h1, hc, hf, hkey, MapKept.run_keyThatStays (show MapKept.IsKey (.int q) (.int q k) from rfl), MapKept.run_setObj_map _ h1, Result.andThen, World.putObj]
theorem RX_delete {x y : Operand} {t kt e : TypeId} {k : Int} [ht : TMap P t kt e q] (hx : ev F x = some (.map (some b))) (hy : ev F y = some (.int q k)) [hm : MpIn H b β q E l f] :
    RX (α := Unit) P N c ⟨d, .call ⟨.builtin .delete, #[x, y], #[t, kt]⟩, ty, ps, af, g⟩ F H (fun _ => True) (fun _ => .tuple #[]) (fun _ => f (Mp b q E (mdel l k))) := fun D a w next Q hst hk => by
  obtain ⟨es, clock, h1, h2⟩ := hm.getw hst.hp
  obtain ⟨t1, t2⟩ := ht.ok
  have hf := run_findKey_int (k := k) w t2 h2
  have hc : ∀ em, (Instr.checkKey em 10000 kt (.int q k)).run P w = .ok () w := fun em => MapKept.run_checkKey (k := .int q k) t2 (show q = q from rfl) em 9999
  cases hm1 : mfind l k with
  | none =>
    obtain ⟨p1, p2⟩ := hm.put hst h1 h2
    refine opIn_value (by simp) (w' := w.putObj b (.map es clock)) ?_ (hk () _ trivial p1 (by rw [mdel_none hm1]; exact p2))
    rw [hm1] at hf
    simp [execOp, resolve, invoke, builtin, ev_ok hst.fr hx, ev_ok hst.fr hy, Builtin.delete_, run_underlying t1, MapKept.run_getObj_map h1, hc, hf, MapKept.run_setObj_map _ h1, Result.andThen, World.putObj]
  | some p =>
    obtain ⟨p1, p2⟩ := hm.put hst h1 (h2.erase p.1)
    refine opIn_value (by simp) (w' := w.putObj b (.map (es.eraseIdxIfInBounds p.1) clock)) ?_ (hk () _ trivial p1 (by rw [mdel_some (j := p.1) (y := p.2) hm1]; exact p2))
    rw [hm1] at hf
    simp [execOp, resolve, invoke, builtin, ev_ok hst.fr hx, ev_ok hst.fr hy, Builtin.delete_, run_underlying t1, MapKept.run_getObj_map h1, hc, hf, MapKept.run_setObj_map _ h1, Result.andThen, World.putObj]
end rules
end Go.Bw
