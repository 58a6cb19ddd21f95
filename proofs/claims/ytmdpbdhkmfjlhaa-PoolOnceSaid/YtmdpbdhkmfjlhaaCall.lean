/- Contracts of functions, their calls and their ends, in our own logic; no program is named. -/
import Derived.Test.YtmdpbdhkmfjlhaaOps
namespace Go.Bw
open Go Go.RowKit

def blks (H : List Res) : List Nat := H.flatMap Res.blk

/-- A CONTRACT: in whatever world meets 'pre' and has the resources 'Hin', the call returns the value, and leaves the resources, that a ghost tells; of what was there nothing else has turned. -/
structure Fn {α : Type} (P : Program) (f : Nat) (args : List Value) (pre : World → Prop) (Hin : List Res) (p : α → Prop) (fv : α → Value) (fH : α → List Res) : Prop where
  enter : ∀ args w, (callFunc f args).run P w = .ok (.enter f args) w
  calls : ∀ w, pre w → HpOk (blks Hin) w.heap.size Hin w → Calls P f args.toArray w fun e w' => ∃ x, p x ∧ e = .returned (fv x) ∧ Since (blks Hin) w w' ∧ HpOk (blks Hin) w.heap.size (fH x) w'

/-- the call just gives a value -/
abbrev FnV (P : Program) (f : Nat) (args : List Value) (v : Value) : Prop := Fn (α := Unit) P f args (fun _ => True) [] (fun _ => True) (fun _ => v) (fun _ => [])
/-- the same, where memory is read -/
abbrev FnW (P : Program) (f : Nat) (args : List Value) (pre : World → Prop) (v : Value) : Prop := Fn (α := Unit) P f args pre [] (fun _ => True) (fun _ => v) (fun _ => [])

/-! results -/
inductive ResV (P : Program) (F : Frm) (H : List Res) : List ResultVar → List Value → Prop where
  | nil : ResV P F H [] []
  | tmp {t : Nat} {v : Value} {rs : List ResultVar} {vs : List Value} (hv : lk F t = some v) (h : ResV P F H rs vs) : ResV P F H (.tmp t :: rs) (v :: vs)
  | agg {t ty b T n : Nat} {cs : List Value} {rs : List ResultVar} {vs : List Value} (hv : lk F t = some (Ptr b 0)) (hr : HasC H b T cs) (ht : TAgg P ty n) (hl : cs.length = n) (h : ResV P F H rs vs) : ResV P F H (.cell t ty :: rs) (.agg cs.toArray :: vs)
  | one {t ty b T : Nat} {v : Value} {cs : List Value} {rs : List ResultVar} {vs : List Value} (hv : lk F t = some (Ptr b 0)) (hr : HasC H b T cs) (ht : TOne P ty) (hl : cs = [v]) (h : ResV P F H rs vs) : ResV P F H (.cell t ty :: rs) (v :: vs)

def retV : List Value → Value
  | [v] => v
  | vs => .tuple vs.toArray

def resOne (t : Array Value) : ResultVar → Sem Value
  | .tmp k => pure (t.getD k undef)
  | .cell a ty => do loadVar ty (← asAddr (t.getD a undef))

theorem run_results {P : Program} {fn : Func} {F : Frm} {H : List Res} {rs : List ResultVar} {vs : List Value} {t : Array Value} {bs : List Nat} {n0 : Nat} {w : World} (hf : fn.results.toList = rs) (hF : FrOk F t) (hp : HpOk bs n0 H w) (h : ResV P F H rs vs) :
    (results fn t).run P w = .ok (retV vs) w := by
  have get : ∀ {k : Nat} {v : Value}, t[k]? = some v → t.getD k undef = v := fun h => by simp [h]
  have key : ∀ {rs vs}, ResV P F H rs vs → (rs.mapM (resOne t)).run P w = .ok vs w := by
    intro rs vs h
    induction h with
    | nil => simp
    | tmp hv h ih =>
      have h1 : resOne t (.tmp _) = pure _ := congrArg pure (get (hF _ _ hv))
      simp only [List.mapM_cons, Sem.run_bind, h1, Sem.run_pure, Result.andThen_ok, ih]
    | @agg t' ty b T n cs rs' vs' hv hr ht hl h ih =>
      have h1 := get (hF _ _ hv)
      have h2 := run_loadVar_agg (P := P) (t := ty) (off := 0) (w := w) hl (fun j v hv => by rw [Nat.zero_add, cell_of (hp.holds _ hr.mem)]; exact hv)
      simp only [List.mapM_cons, Sem.run_bind, resOne, h1, asAddr, Sem.run_pure, h2, Result.andThen_ok, ih]
    | @one t' ty b T v cs rs' vs' hv hr ht hl h ih =>
      have h1 := get (hF _ _ hv)
      subst hl
      have h2 := run_loadVar_one (P := P) (t := ty) (a := ⟨b, 0, none⟩) (v := v) ((cell_of (hp.holds _ hr.mem) 0).trans rfl)
      simp only [List.mapM_cons, Sem.run_bind, resOne, h1, asAddr, Sem.run_pure, h2, Result.andThen_ok, ih]
  have hr : fn.results = rs.toArray := by rw [← hf]
  have hk := key h
  show (do let vs ← fn.results.mapM (resOne t); pure (if h : vs.size = 1 then vs[0] else .tuple vs) : Sem Value).run P w = _
  rw [hr, List.mapM_toArray]
  simp only [Sem.run_bind, Sem.run_map, hk, Result.andThen_ok]
  match vs with
  | [] => simp [retV]
  | [v] => simp [retV]
  | u :: v :: r => simp [retV]

/-! what a body must come to -/
def PostR {α : Type} (c : Cx) (p : α → Prop) (fv : α → Value) (fH : α → List Res) : Ending → World → Prop :=
  fun e w' => ∃ x, p x ∧ e = .returned (fv x) ∧ Since c.bs c.w0 w' ∧ HpOk c.bs c.w0.heap.size (fH x) w'
def Post {α : Type} (P : Program) (c : Cx) (fn : Func) (p : α → Prop) (fv : α → Value) (fH : α → List Res) : Exit → Act → World → Prop :=
  bodyPostM (FA none) 0 P fn (PostR c p fv fH)

section
variable {α : Type} {P : Program} {N : Nat} {c : Cx} {fn : Func} {p : α → Prop} {fv : α → Value} {fH : α → List Res} {F : Frm} {H : List Res}

theorem leave_nil {a : Act} {w : World} {vs : List Value} {rs : List ResultVar} (hst : St N c [] F H a w) (x : α) (hf : fn.results.toList = rs) (hr : ResV P F H rs vs) (hp : p x) (hv : retV vs = fv x) {ks : List Nat}
    (hk : pick H ks = some (fH x)) (hn : ks.Nodup) : LeavesInM (FA none) 0 P fn a.tmps (PostR c p fv fH) [] .returning w :=
  ⟨_, run_results hf hst.fr hst.hp hr, x, hp, by rw [hv], hst.si, hst.hp.pick hk hn⟩

theorem WQ_ret (x : α) {vs : List Value} {rs : List ResultVar} (hf : fn.results.toList = rs) (hr : ResV P F H rs vs) (hp : p x) (hv : retV vs = fv x) {ks : List Nat} (hk : pick H ks = some (fH x)) (hn : ks.Nodup) :
    WQ N c [] (Post P c fn p fv fH) .ret F H := fun a w hst => by
  show LeavesInM (FA none) 0 P fn a.tmps _ a.defers .returning w
  rw [hst.df]
  exact leave_nil hst x hf hr hp hv hk hn
theorem WQ_end (x : α) {vs : List Value} {rs : List ResultVar} (hf : fn.results.toList = rs) (hr : ResV P F H rs vs) (hp : p x) (hv : retV vs = fv x) {ks : List Nat} (hk : pick H ks = some (fH x)) (hn : ks.Nodup) :
    WQ N c [] (Post P c fn p fv fH) .normal F H := fun a w hst => by
  show LeavesInM (FA none) 0 P fn a.tmps _ a.defers .returning w
  rw [hst.df]
  exact leave_nil hst x hf hr hp hv hk hn

/-- with marks of ranges over functions -/
def mark (d : Nat) : Deferred := { target := .collected d, args := #[] }

theorem St.unmark {D : List Deferred} {a : Act} {w : World} {d : Nat} {o' : Obj} {H' : List Res} (hst : St N c D F H a w) [ho : HasO H d (.deferred (some []))] (hs : SetO H d o' H') :
    St N c D F H' a (w.putObj d o') := by
  have hm := hst.hp.holds _ ho.mem
  have hd : w.heap[d]? = some (.deferred (some [])) := hm
  have hlt := (Array.getElem?_eq_some_iff.1 hd).1
  have hsin : Since [d] w (w.putObj d o') := ⟨rfl, rfl, rfl, by simp [World.putObj], fun k _ hk => World.putObj_heap_other (by simpa using hk)⟩
  refine ⟨hst.tm, hst.fr, hst.df, hst.si.store hst.hp ho.mem (by simp [Res.blk]) hsin, ?_⟩
  obtain ⟨k, o, hk, rfl⟩ := hs.ok
  refine hst.hp.set hk hsin.size (fun j hj hne => hsin.block j hj hne) (World.putObj_heap_same hlt) hst.si.size (fun b hb => ?_)
  have e : b = d := by simpa [Res.blk] using hb
  subst e
  exact ⟨.inl (by simp [Res.blk]), by rw [World.putObj]; simpa using hlt⟩

theorem leave_mark {D : List Deferred} {a : Act} {w : World} {d : Nat} {H' : List Res} (hst : St N c (mark d :: D) F H a w) [HasO H d (.deferred (some []))] [hs : SetO H d (.deferred none) H'] {R : Ending → World → Prop}
    (h : St N c (mark d :: D) F H' a (w.putObj d (.deferred none)) → LeavesInM (FA none) 0 P fn a.tmps R D .returning (w.putObj d (.deferred none))) :
    LeavesInM (FA none) 0 P fn a.tmps R (mark d :: D) .returning w := by
  have ho : HasO H d (.deferred (some [])) := inferInstance
  have hd : w.heap[d]? = some (.deferred (some [])) := hst.hp.holds _ ho.mem
  exact ⟨by simp, .inl ⟨d, _, rfl, run_takeDeferred hd, h (hst.unmark hs)⟩⟩

theorem WQ_retm (x : α) {d : Nat} {H' : List Res} [HasO H d (.deferred (some []))] [hs : SetO H d (.deferred none) H'] {vs : List Value} {rs : List ResultVar} (hf : fn.results.toList = rs) (hr : ResV P F H' rs vs) (hp : p x) (hv : retV vs = fv x) {ks : List Nat} (hk : pick H' ks = some (fH x)) (hn : ks.Nodup) :
    WQ N c [mark d] (Post P c fn p fv fH) .ret F H := fun a w hst => by
  show LeavesInM (FA none) 0 P fn a.tmps _ a.defers .returning w
  rw [hst.df]
  exact leave_mark (hs := hs) hst fun h => leave_nil (a := { a with defers := [] }) ⟨h.tm, h.fr, rfl, h.si, h.hp⟩ x hf hr hp hv hk hn
theorem WQ_endm (x : α) {d : Nat} {H' : List Res} [HasO H d (.deferred (some []))] [hs : SetO H d (.deferred none) H'] {vs : List Value} {rs : List ResultVar} (hf : fn.results.toList = rs) (hr : ResV P F H' rs vs) (hp : p x) (hv : retV vs = fv x) {ks : List Nat} (hk : pick H' ks = some (fH x)) (hn : ks.Nodup) :
    WQ N c [mark d] (Post P c fn p fv fH) .normal F H := fun a w hst => by
  show LeavesInM (FA none) 0 P fn a.tmps _ a.defers .returning w
  rw [hst.df]
  exact leave_mark (hs := hs) hst fun h => leave_nil (a := { a with defers := [] }) ⟨h.tm, h.fr, rfl, h.si, h.hp⟩ x hf hr hp hv hk hn
end

/-! entering -/
def frm0 : Nat → List Value → Frm
  | _, [] => []
  | i, v :: r => (i, v) :: frm0 (i + 1) r

theorem lk_frm0 : ∀ (args : List Value) (i d : Nat) (v : Value), lk (frm0 i args) d = some v → i ≤ d ∧ args[d - i]? = some v := by
  intro args
  induction args with
  | nil => intro i d v h; simp [frm0, lk] at h
  | cons u r ih =>
    intro i d v h
    simp only [frm0, lk] at h
    by_cases e : i = d
    · subst e; simp at h; subst h; simp
    · rw [beq_no e] at h
      obtain ⟨h1, h2⟩ := ih (i + 1) d v h
      exact ⟨by omega, by rw [show d - i = (d - (i + 1)) + 1 from by omega]; simpa using h2⟩

theorem fn_of {α : Type} {P : Program} {f : Nat} {fn : Func} {code : Code} {N : Nat} {args : List Value} {pre : World → Prop} {Hin : List Res} {p : α → Prop} {fv : α → Value} {fH : α → List Res}
    (hf : P.funcs[f]? = some fn) (hname : (fn.name == "runtime.NumGoroutine") = false) (hb : fn.body = some code) (hN : fn.ntmps = N) (ha : Nat.ble args.length N = true)
    (h : ∀ c : Cx, c.bs = blks Hin → pre c.w0 → c.ro = none → WP P N c [] code (Post P c fn p fv fH) (frm0 0 args) Hin) : Fn P f args pre Hin p fv fH := by
  refine ⟨fun args w => ?_, fun w hw hH => ?_⟩
  · have h1 : fn.name ≠ "runtime.NumGoroutine" := by simpa using hname
    simp [callFunc, hf, h1, hb, Go.mark]
  · refine (callsIn_wide (n := 0)).1 (callsIn_of_wp_marks (F := Fence.wide) hf hb trivial ?_)
    refine h ⟨none, w, blks Hin⟩ rfl hw rfl _ w ⟨?_, ?_, rfl, Since.refl _ _, hH⟩
    · have := Nat.le_of_ble_eq_true ha
      simp; omega
    · intro d v hd
      obtain ⟨_, h2⟩ := lk_frm0 args 0 d v hd
      simp only [Nat.sub_zero] at h2
      have hlt := (List.getElem?_eq_some_iff.1 h2).1
      rw [Array.getElem?_append_left (by simpa using hlt)]
      simpa using h2

/-! calls -/
section
variable {α : Type} {P : Program} {N : Nat} {c : Cx} {F : Frm} {H : List Res} {d : Option Tmp} {ty : TypeId} {ps : String} {af : Array Edge} {g : Option (Nat × Bool)}

theorem callsIn_fa {P : Program} {f : Nat} {args : Array Value} {w : World} {R : Ending → World → Prop} (ro : Option Nat) (h : Calls P f args w R) : CallsIn (FA ro) 0 P f args w R :=
  ⟨trivial, fun cs _ => by
    obtain ⟨e, w', fr, r, s, x⟩ := ((callsIn_wide (n := 0)).2 h).2 cs (room_wide _)
    exact ⟨e, w', fr, r, s, x⟩⟩

/-- the call, whatever its callee is written as -/
theorem RX_call' {x : Operand} {args : List Operand} {ats : Array TypeId} {f : Nat} {fst cap : Array Value} {us vs : List Value} {pre : World → Prop} {p : α → Prop} {fv : α → Value} {fH : α → List Res}
    (hc : Fn P f vs pre [] p fv fH) (hx : ev F x = some (.func (.func f) fst cap)) (ha : evs F args = some us) (hv : fst.toList ++ us ++ cap.toList = vs)
    (hpre : ∀ w, Since c.bs c.w0 w → HpOk c.bs c.w0.heap.size H w → pre w) :
    RX P N c ⟨d, .call ⟨.value x, args.toArray, ats⟩, ty, ps, af, g⟩ F H p fv (fun i => fH i ++ H) := fun D a w next Q hst hk => by
  refine ⟨fun _ _ => trivial, ?_⟩
  have hs : Oper.semAt (FA c.ro).round a.eval (⟨d, .call ⟨.value x, args.toArray, ats⟩, ty, ps, af, g⟩ : Oper) = execOp a.eval ⟨d, .call ⟨.value x, args.toArray, ats⟩, ty, ps, af, g⟩ := Oper.semAt_eq _ _ _ (by simp)
  have hr : (execOp a.eval ⟨d, .call ⟨.value x, args.toArray, ats⟩, ty, ps, af, g⟩).run P w = .ok (.enter f vs.toArray) w := by
    have e1 := ev_ok hst.fr hx
    have e2 := evs_ok hst.fr ha
    have e3 : fst ++ (args.toArray.map a.eval) ++ cap = vs.toArray := by
      rw [← hv, ← e2]
      simp
    simp only [execOp, resolve, e1, Deferred.ofValue, Sem.run_bind, Sem.run_pure, Result.andThen_ok, invoke, e3]
    exact hc.enter _ _
  rw [hs, hr]
  refine ⟨fun h => by simp at h, callsIn_fa c.ro ?_⟩
  have hcall := hc.calls w (hpre w hst.si hst.hp) (HpOk.nil _ _ _)
  intro cs
  obtain ⟨e, w', fr, ⟨i, hp, he, hsi, hh⟩, rest⟩ := hcall cs
  refine ⟨e, w', fr, ?_, rest⟩
  subst he
  refine hk i w' hp (hst.si.ext hsi) ?_
  have hH := hst.hp.ext hsi
  refine ⟨fun r hm => ?_, fun r hm b hb => ?_, ?_⟩
  · rcases List.mem_append.1 hm with h1 | h1
    · exact hh.holds r h1
    · exact hH.holds r h1
  · rcases List.mem_append.1 hm with h1 | h1
    · obtain ⟨o, l⟩ := hh.own r h1 b hb
      simp [blks] at o
      exact ⟨.inr (Nat.le_trans hst.si.size o), l⟩
    · exact hH.own r h1 b hb
  · refine List.pairwise_append.2 ⟨hh.apart, hH.apart, fun r h1 s h2 b hb hsb => ?_⟩
    have l := (hst.hp.own s h2 b hsb).2
    obtain ⟨o, _⟩ := hh.own r h1 b hb
    simp [blks] at o
    omega

theorem RX_call {args : List Operand} {ats : Array TypeId} {f : Nat} {vs : List Value} {pre : World → Prop} {p : α → Prop} {fv : α → Value} {fH : α → List Res}
    (hc : Fn P f vs pre [] p fv fH) (ha : evs F args = some vs) (hpre : ∀ w, Since c.bs c.w0 w → HpOk c.bs c.w0.heap.size H w → pre w) :
    RX P N c ⟨d, .call ⟨.value (.func f), args.toArray, ats⟩, ty, ps, af, g⟩ F H p fv (fun i => fH i ++ H) :=
  RX_call' (fst := #[]) (cap := #[]) (us := vs) hc rfl ha (by simp) hpre

theorem VS_call {args : List Operand} {ats : Array TypeId} {f : Nat} {vs : List Value} {v : Value} {pre : World → Prop} (hc : FnW P f vs pre v) (ha : evs F args = some vs) (hpre : ∀ w, Since c.bs c.w0 w → HpOk c.bs c.w0.heap.size H w → pre w) :
    VS P N c ⟨d, .call ⟨.value (.func f), args.toArray, ats⟩, ty, ps, af, g⟩ F H v := fun D a w next Q hst hk => by
  refine ⟨fun _ _ => trivial, ?_⟩
  have hs : Oper.semAt (FA c.ro).round a.eval (⟨d, .call ⟨.value (.func f), args.toArray, ats⟩, ty, ps, af, g⟩ : Oper) = execOp a.eval ⟨d, .call ⟨.value (.func f), args.toArray, ats⟩, ty, ps, af, g⟩ := Oper.semAt_eq _ _ _ (by simp)
  have hr : (execOp a.eval ⟨d, .call ⟨.value (.func f), args.toArray, ats⟩, ty, ps, af, g⟩).run P w = .ok (.enter f vs.toArray) w := by
    have e2 := evs_ok hst.fr ha
    have e1 : a.eval (.func f) = .func (.func f) #[] #[] := rfl
    have e3 : #[] ++ (args.toArray.map a.eval) ++ #[] = vs.toArray := by rw [← e2]; simp
    simp only [execOp, resolve, e1, Deferred.ofValue, Sem.run_bind, Sem.run_pure, Result.andThen_ok, invoke, e3]
    exact hc.enter _ _
  rw [hs, hr]
  refine ⟨fun h => by simp at h, callsIn_fa c.ro ?_⟩
  have hcall := hc.calls w (hpre w hst.si hst.hp) (HpOk.nil _ _ _)
  intro cs
  obtain ⟨e, w', fr, ⟨i, hp, he, hsi, hh⟩, rest⟩ := hcall cs
  refine ⟨e, w', fr, ?_, rest⟩
  subst he
  exact hk w' hsi
end
end Go.Bw
