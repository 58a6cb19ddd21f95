/- Ranges over functions in our own logic: an iterator's contract, the rule for the statement, the call of yield. No program is named. -/
import Derived.Test.YtmdpbdhkmfjlhaaDraw
import Derived.Test.YtmdpbdhkmfjlhaaOps2
namespace Go.Bw
open Go Go.RowKit

/-- a round, as the iterator sees it: it turns what is its own, says whether it goes on, and leaves its word -/
def Rnd (P : Program) (l : Nat) (bs0 : List Nat) (w1 : World) (J : Nat → List Nat → World → Prop) (Jx : List Nat → World → Prop) (encs : Nat → List Value) (n : Nat) : Prop :=
  ∀ k, k < n → ∀ W bs, Since bs0 w1 W → (∀ b ∈ bs, (b ∈ bs0 ∨ w1.heap.size ≤ b) ∧ b < W.heap.size) → (Res.ext bs (J k bs)).holds W →
    YieldAt (FA none) 0 P l (encs k).toArray W fun e W' => ∃ bs', (∀ b ∈ bs', (b ∈ bs ∨ W.heap.size ≤ b) ∧ b < W'.heap.size) ∧ Since bs W W' ∧
      ((e = .returned (.bool true) ∧ (Res.ext bs' (J (k + 1) bs')).holds W') ∨ (e = .returned (.bool false) ∧ (Res.ext bs' (Jx bs')).holds W'))

/-- AN ITERATOR's CONTRACT: it hands over n rows of values, one behind the other, till a round says no more; it reads 'Hc', and leaves it. -/
structure IterFn (P : Program) (gf : Nat) (caps : List Value) (Hc : List Res) (pre : World → Prop) (encs : Nat → List Value) (n : Nat) : Prop where
  fn : ∀ (l : Nat) (J : Nat → List Nat → World → Prop) (Jx : List Nat → World → Prop) (bs : List Nat),
    Fn (α := Bool × List Nat) P gf (.func (.yield l) #[] #[] :: caps) (fun w => pre w ∧ Rnd P l (bs ++ blks Hc) w J Jx encs n) (.ext bs (J 0 bs) :: Hc)
      (fun _ => True) (fun _ => .tuple #[]) (fun x => .ext x.2 (bif x.1 then J n x.2 else Jx x.2) :: Hc)

class HasE (H : List Res) (bs : List Nat) (J : World → Prop) (f : outParam (Res → List Res)) : Prop where
  ok : ∃ k, H[k]? = some (.ext bs J) ∧ ∀ r, f r = H.set k r
instance (priority := 100) HasE_here (bs J) (H : List Res) : HasE (.ext bs J :: H) bs J (fun r => r :: H) := ⟨⟨0, rfl, fun _ => rfl⟩⟩
instance (priority := 50) HasE_there (r : Res) (H : List Res) (bs J f) [h : HasE H bs J f] : HasE (r :: H) bs J (fun q => r :: f q) :=
  ⟨by obtain ⟨k, h1, h2⟩ := h.ok; exact ⟨k + 1, by simpa using h1, fun q => by simp [h2]⟩⟩

section
variable {P : Program} {N : Nat} {c : Cx} {F : Frm} {H : List Res} {d : Option Tmp} {ty : TypeId} {p : String} {af : Array Edge} {g : Option (Nat × Bool)}

theorem RX_yield {x : Operand} {args : List Operand} {ats : Array TypeId} {l n k : Nat} {encs : Nat → List Value} {J : Nat → List Nat → World → Prop} {Jx : List Nat → World → Prop} {bs : List Nat} {f : Res → List Res}
    (hR : Rnd P l c.bs c.w0 J Jx encs n) (hk : k < n) (hro : c.ro = none) (hx : ev F x = some (.func (.yield l) #[] #[])) (ha : evs F args = some (encs k)) [he : HasE H bs (J k bs) f] :
    RX (α := Bool × List Nat) P N c ⟨d, .call ⟨.value x, args.toArray, ats⟩, ty, p, af, g⟩ F H (fun _ => True) (fun x => .bool x.1) (fun x => f (.ext x.2 (bif x.1 then J (k + 1) x.2 else Jx x.2))) := fun D a w next Q hst hkk => by
  obtain ⟨kk, h1, h2⟩ := he.ok
  have hm : Res.ext bs (J k bs) ∈ H := List.mem_of_getElem? h1
  have hbs : ∀ b ∈ bs, (b ∈ c.bs ∨ c.w0.heap.size ≤ b) ∧ b < w.heap.size := fun b hb => hst.hp.own _ hm b hb
  obtain ⟨fn, tmps, assign, body, hy, hF, hr⟩ := hR k hk w bs hst.si hbs (hst.hp.holds _ hm)
  refine ⟨fun _ _ => trivial, ?_⟩
  have hs : Oper.semAt (FA c.ro).round a.eval (⟨d, .call ⟨.value x, args.toArray, ats⟩, ty, p, af, g⟩ : Oper) = execOp a.eval ⟨d, .call ⟨.value x, args.toArray, ats⟩, ty, p, af, g⟩ := Oper.semAt_eq _ _ _ (by simp)
  have hrun : (execOp a.eval ⟨d, .call ⟨.value x, args.toArray, ats⟩, ty, p, af, g⟩).run P w = .ok (.round l fn tmps assign body) w := by
    have e1 := ev_ok hst.fr hx
    have e2 := evs_ok hst.fr ha
    have e3 : #[] ++ (args.toArray.map a.eval) = (encs k).toArray := by rw [← e2]; simp
    simp only [execOp, resolve, e1, Deferred.ofValue, Sem.run_bind, Sem.run_pure, Result.andThen_ok, invoke, e3]
    exact hy
  rw [hs, hrun]
  refine ⟨fun h => by simp at h, ⟨trivial, fun cf cs hroom => ?_⟩⟩
  have hfa : FA c.ro = FA none := by rw [hro]
  rw [hfa]
  obtain ⟨e, W', hpost, hcomes⟩ := hr cf cs (by rw [← hfa]; exact hroom)
  refine ⟨e, W', ?_, hcomes⟩
  obtain ⟨bs', hb', hsi, hcase⟩ := hpost
  have fin : ∀ b : Bool, (Res.ext bs' (bif b then J (k + 1) bs' else Jx bs')).holds W' → next (a.put d (.bool b)) W' := fun b hh => by
    refine hkk (b, bs') W' trivial (hst.si.trans hsi fun b hb => (hbs b hb).1) ?_
    show HpOk c.bs c.w0.heap.size (f (Res.ext bs' (bif b then J (k + 1) bs' else Jx bs'))) W'
    rw [h2]
    exact hst.hp.set h1 hsi.size (fun j hj hn => hsi.block j hj hn) hh hst.si.size (fun b hb => hb' b hb)
  rcases hcase with ⟨rfl, hh⟩ | ⟨rfl, hh⟩
  · exact fin true hh
  · exact fin false hh
end

/-! the statement -/
def parF : List Nat → List Value → Frm → Frm
  | p :: ps, v :: vs, F => parF ps vs ((p, v) :: F)
  | _, _, F => F

theorem parF_ok : ∀ {ps : List Nat} {vs : List Value} {F : Frm} {t : Array Value} {N : Nat}, FrOk F t → t.size = N → ps.all (Nat.blt · N) = true → FrOk (parF ps vs F) ((ps.zip vs).foldl (fun t q => t.setIfInBounds q.1 q.2) t) ∧ ((ps.zip vs).foldl (fun t q => t.setIfInBounds q.1 q.2) t).size = N := by
  intro ps
  induction ps with
  | nil => intro vs F t N h hs _; cases vs <;> exact ⟨h, hs⟩
  | cons p ps ih =>
    intro vs F t N h hs ha
    cases vs with
    | nil => exact ⟨h, hs⟩
    | cons v vs =>
      simp only [List.all_cons, Bool.and_eq_true] at ha
      have h1 := FrOk.put (a := ⟨t, []⟩) (d := some p) (v := v) (N := N) h hs ha.1
      exact ih h1 (by simpa using hs) ha.2

/-- the end of the assignment: the round begins -/
def RangeQ (P : Program) (l : Nat) (body : Code) (R : Ending → World → Prop) : Exit → Act → World → Prop :=
  Exit.then (fun a₁ w₁ => ∃ w₂, (Instr.beginRound l).run P w₁ = .ok () w₂ ∧ body.wpIn (FA (some l)) 0 P (roundPost P l R) a₁ w₂) (fun _ _ _ => False)

/-- what a round must come to -/
def RndR (c' : Cx) (JT JX : List Nat → World → Prop) : Ending → World → Prop := fun e W' =>
  ∃ bs', (∀ b ∈ bs', (b ∈ c'.bs ∨ c'.w0.heap.size ≤ b) ∧ b < W'.heap.size) ∧ Since c'.bs c'.w0 W' ∧ ((e = .returned (.bool true) ∧ (Res.ext bs' (JT bs')).holds W') ∨ (e = .returned (.bool false) ∧ (Res.ext bs' (JX bs')).holds W'))

/-- the caller's word between two rounds: its resources, with a ghost -/
def JW {α : Type} (n0 : Nat) (cb : List Nat) (p : α → Prop) (I : α → List Res) : List Nat → World → Prop := fun bs W => ∃ i, p i ∧ HpOk cb n0 (I i) W ∧ bs = blks (I i)

theorem mem_blks {H : List Res} {b : Nat} : b ∈ blks H ↔ ∃ r ∈ H, b ∈ r.blk := by simp [blks]

theorem JW_ext {α : Type} {n0 : Nat} {cb : List Nat} {p : α → Prop} {I : α → List Res} {W : World} (i : α) (hp : p i) (h : HpOk cb n0 (I i) W) : (Res.ext (blks (I i)) (JW n0 cb p I (blks (I i)))).holds W :=
  fun _ hs hb => ⟨i, hp, h.same hs (fun r hr b hbr => hb b (mem_blks.2 ⟨r, hr, hbr⟩)) (fun _ o _ => o), rfl⟩
theorem ext_get {bs : List Nat} {J : World → Prop} {W : World} (h : (Res.ext bs J).holds W) : J W := h W (Nat.le_refl _) fun _ _ => rfl

section rules
variable {P : Program} {N : Nat} {c : Cx} {F : Frm} {H H' : List Res} {l : Nat} {body : Code} {R : Ending → World → Prop}

theorem St.setO {N : Nat} {D : List Deferred} {a : Act} {w : World} {b : Nat} {o o' : Obj} (hst : St N c D F H a w) (ho : HasO H b o) (hs : SetO H b o' H') : St N c D F H' a (w.putObj b o') ∧ w.heap[b]? = some o := by
  have hm := hst.hp.holds _ ho.mem
  have hd : w.heap[b]? = some o := hm
  have hlt := (Array.getElem?_eq_some_iff.1 hd).1
  have hsin : Since [b] w (w.putObj b o') := ⟨rfl, rfl, rfl, by simp [World.putObj], fun k _ hk => World.putObj_heap_other (by simpa using hk)⟩
  refine ⟨⟨hst.tm, hst.fr, hst.df, hst.si.store hst.hp ho.mem (by simp [Res.blk]) hsin, ?_⟩, hd⟩
  obtain ⟨k, o, hk, rfl⟩ := hs.ok
  refine hst.hp.set hk hsin.size (fun j hj hne => hsin.block j hj hne) (World.putObj_heap_same hlt) hst.si.size (fun b' hb => ?_)
  have e : b' = b := by simpa [Res.blk] using hb
  subst e
  exact ⟨.inl (by simp [Res.blk]), by rw [World.putObj]; simpa using hlt⟩

theorem WQ_begin {rec : Loop} (hr : rec.state = .ready) (hro : c.ro = some l) [ho : HasO H l (.loop rec)] [hs : SetO H l (.loop { rec with state := .busy }) H'] (h : WP P N c [] body (roundPost P l R) F H') :
    WQ N c [] (RangeQ P l body R) .normal F H := fun a w hst => by
  obtain ⟨h1, h2⟩ := hst.setO ho hs
  refine ⟨_, run_beginRound h2 hr, ?_⟩
  have := h _ _ h1
  rw [hro] at this
  exact this

variable {α β : Type} {n0 : Nat} {cb : List Nat} {p : α → Prop} {I : α → List Res} {px : β → Prop} {X : β → List Res}

theorem Since.owned {c' : Cx} {H : List Res} {w : World} (hp : HpOk c'.bs c'.w0.heap.size H w) {b : Nat} (hb : b ∈ blks H) : (b ∈ c'.bs ∨ c'.w0.heap.size ≤ b) ∧ b < w.heap.size := by
  obtain ⟨r, hr, hbr⟩ := mem_blks.1 hb
  exact hp.own r hr b hbr

/-- a round goes on -/
theorem WQ_next {rec : Loop} (hr : rec.state = .ready) (hrp : rec.pending = none) (hT : ∀ b, (b ∈ c.bs ∨ c.w0.heap.size ≤ b) → (b ∈ cb ∨ n0 ≤ b)) {JX : List Nat → World → Prop} [ho : HasO H l (.loop { rec with state := .busy })] [hs : SetO H l (.loop rec) H']
    (i : α) (hp : p i) {ks : List Nat} (hk : pick H' ks = some (I i)) (hn : ks.Nodup) : WQ N c [] (roundPost P l (RndR c (JW n0 cb p I) JX)) .normal F H := fun a w hst => by
  obtain ⟨h1, h2⟩ := hst.setO ho hs
  have e : ({ { rec with state := LoopState.busy } with state := if (none : Option Code).isNone then LoopState.ready else .done, pending := none } : Loop) = rec := by cases rec; simp_all
  have hrun := run_endRound (P := P) none h2
  rw [e] at hrun
  refine ⟨_, _, hrun, blks (I i), ?_, h1.si, .inl ⟨rfl, ?_⟩⟩
  · intro b hb; exact Since.owned (h1.hp.pick hk hn) hb
  · refine JW_ext i hp ?_
    have := h1.hp.pick hk hn
    exact ⟨this.holds, fun r hr b hb => ⟨hT b (this.own r hr b hb).1, (this.own r hr b hb).2⟩, this.apart⟩

/-- a round says no more, with a jump -/
theorem WQ_stop {rec : Loop} (hT : ∀ b, (b ∈ c.bs ∨ c.w0.heap.size ≤ b) → (b ∈ cb ∨ n0 ≤ b)) {JT : List Nat → World → Prop} [ho : HasO H l (.loop { rec with state := .busy })] {e : Exit} {j : Code}
    (hj : (e = .ret ∧ j = .ret) ∨ (∃ id, e = .exit id ∧ j = .exit id)) [hs : SetO H l (.loop { rec with state := .done, pending := some j }) H']
    (i : β) (hp : px i) {ks : List Nat} (hk : pick H' ks = some (X i)) (hn : ks.Nodup) : WQ N c [] (roundPost P l (RndR c JT (JW n0 cb px X))) e F H := fun a w hst => by
  obtain ⟨h1, h2⟩ := hst.setO ho hs
  have hrun := run_endRound (P := P) (some j) h2
  have fin : ∃ v w', (Instr.endRound l (some j)).run P w = .ok v w' ∧ RndR c JT (JW n0 cb px X) (.returned v) w' := by
    refine ⟨_, _, hrun, blks (X i), ?_, h1.si, .inr ⟨rfl, ?_⟩⟩
    · intro b hb; exact Since.owned (h1.hp.pick hk hn) hb
    · refine JW_ext i hp ?_
      have := h1.hp.pick hk hn
      exact ⟨this.holds, fun r hr b hb => ⟨hT b (this.own r hr b hb).1, (this.own r hr b hb).2⟩, this.apart⟩
  rcases hj with ⟨rfl, rfl⟩ | ⟨id, rfl, rfl⟩
  · exact fin
  · exact fin
end rules

/-- THE RULE, at an outermost loop -/
theorem WP_range {P : Program} {N : Nat} {c : Cx} {D : List Deferred} {Q : Exit → Act → World → Prop} {F : Frm} {H : List Res} {g : Operand} {ps : List Nat} {assign body : Code}
    {gf n : Nat} {caps : Array Value} {Hc : List Res} {pre : World → Prop} {encs : Nat → List Value} {α β : Type}
    (hro : c.ro = none) (hg : ev F g = some (.func (.func gf) #[] caps)) (hit : IterFn P gf caps.toList Hc pre encs n) (hlen : ∀ k, (encs k).length = ps.length) (hps : ps.all (Nat.blt · N) = true)
    (hpre : ∀ w, Since c.bs c.w0 w → HpOk c.bs c.w0.heap.size H w → pre w)
    (p : Nat → α → Prop) (I : Nat → α → List Res) (px : Code → β → Prop) (X : β → List Res) (i0 : α) (hp0 : p 0 i0) {ks : List Nat} (hk : pick H ks = some (Hc ++ I 0 i0)) (hn : ks.Nodup)
    (hbody : ∀ (k : Nat) (i : α) (l dd : Nat) (rec : Loop) (c' : Cx), k < n → p k i → rec.state = .ready → rec.pending = none → c'.ro = some l → (∀ w, Since c'.bs c'.w0 w → Since c.bs c.w0 w) →
      (∀ b, (b ∈ c'.bs ∨ c'.w0.heap.size ≤ b) → (b ∈ c.bs ∨ c.w0.heap.size ≤ b)) →
      WP P N c' [] assign (RangeQ P l body (RndR c' (JW c.w0.heap.size c.bs (p (k + 1)) (fun i => .obj dd (.deferred (some [])) :: .obj l (.loop rec) :: I (k + 1) i))
        (JW c.w0.heap.size c.bs (fun q : Code × β => px q.1 q.2) (fun q => .obj dd (.deferred (some [])) :: .obj l (.loop { rec with state := .done, pending := some q.1 }) :: X q.2))))
        (parF ps (encs k) F) (.obj dd (.deferred (some [])) :: .obj l (.loop rec) :: I k i))
    (hdone : ∀ dd i, p n i → WQ N c (mark dd :: D) Q .normal F (.obj dd (.deferred (some [])) :: (Hc ++ I n i)))
    (hjump : ∀ dd j i, px j i → WP P N c (mark dd :: D) j Q F (.obj dd (.deferred (some [])) :: (Hc ++ X i))) :
    WP P N c D (.rangeFunc g ps.toArray assign body) Q F H := fun a w hst => by
  refine wpIn_rangeFunc fun fn _ => ?_
  have hround : (FA c.ro).round = none := hro
  rw [hround]
  obtain ⟨rec, hrec⟩ : ∃ rec : Loop, rec = { state := .ready, pending := none, fn, tmps := a.tmps, params := ps.toArray, assign, body, defers := w.heap.size } := ⟨_, rfl⟩
  obtain ⟨W1, hW1⟩ : ∃ W1, (w.alloc (.deferred (some []))).alloc (.loop rec) = W1 := ⟨_, rfl⟩
  have hs1 : Since [] w W1 := by rw [← hW1]; exact (Since.alloc w _).ext (Since.alloc _ _)
  have hsz1 : W1.heap.size = w.heap.size + 2 := by rw [← hW1]; simp
  have hL1 : W1.heap[w.heap.size + 1]? = some (.loop rec) := by
    rw [← hW1]; have := World.alloc_heap_new (w.alloc (.deferred (some []))) (.loop rec); rwa [World.size_alloc] at this
  have hK1 : W1.heap[w.heap.size]? = some (.deferred (some [])) := by
    rw [← hW1]; exact (Below.heap_alloc _ _ _ (by simp)).trans (World.alloc_heap_new w _)
  have hev := ev_ok hst.fr hg
  have hfr := hst.fr
  -- the caller's word
  let J : Nat → List Nat → World → Prop := fun k => JW c.w0.heap.size c.bs (p k) (fun i => .obj w.heap.size (.deferred (some [])) :: .obj (w.heap.size + 1) (.loop rec) :: I k i)
  let Jx : List Nat → World → Prop := JW c.w0.heap.size c.bs (fun q : Code × β => px q.1 q.2) (fun q => .obj w.heap.size (.deferred (some [])) :: .obj (w.heap.size + 1) (.loop { rec with state := .done, pending := some q.1 }) :: X q.2)
  have hpick := (hst.hp.ext hs1).pick hk hn
  have hH1 : HpOk c.bs c.w0.heap.size (.obj w.heap.size (.deferred (some [])) :: .obj (w.heap.size + 1) (.loop rec) :: (Hc ++ I 0 i0)) W1 := by
    have hlt : ∀ s ∈ Hc ++ I 0 i0, ∀ b ∈ s.blk, b < w.heap.size := fun s hs b hb => by
      have hm : s ∈ H := by
        obtain ⟨jj, hj⟩ := List.mem_iff_getElem?.1 hs
        obtain ⟨kk, _, hh⟩ := pick_get hk jj s hj
        exact List.mem_of_getElem? hh
      exact (hst.hp.own s hm b hb).2
    have hszw := hst.si.size
    refine HpOk.cons (HpOk.cons hpick hL1 ?_ ?_) hK1 ?_ ?_
    · intro b hb; have e : b = w.heap.size + 1 := by simpa [Res.blk] using hb
      subst e; exact ⟨.inr (by omega), by omega⟩
    · intro s hs b hb hbs
      have e : b = w.heap.size + 1 := by simpa [Res.blk] using hb
      have := hlt s hs b hbs; omega
    · intro b hb; have e : b = w.heap.size := by simpa [Res.blk] using hb
      subst e; exact ⟨.inr (by omega), by omega⟩
    · intro s hs b hb hbs
      have e : b = w.heap.size := by simpa [Res.blk] using hb
      rcases List.mem_cons.1 hs with rfl | hs
      · have e2 : b = w.heap.size + 1 := by simpa [Res.blk] using hbs
        omega
      · have := hlt s hs b hbs; omega
  let I0 : List Res := .obj w.heap.size (.deferred (some [])) :: .obj (w.heap.size + 1) (.loop rec) :: I 0 i0
  have hHI : HpOk c.bs c.w0.heap.size I0 W1 := hH1.sub (by
    refine List.Sublist.cons_cons _ (List.Sublist.cons_cons _ (List.sublist_append_right _ _)))
  have hHc : HpOk c.bs c.w0.heap.size Hc W1 := hH1.sub (by
    refine List.Sublist.cons _ (List.Sublist.cons _ (List.sublist_append_left _ _)))
  have hap : ∀ r ∈ I0, ∀ s ∈ Hc, r.apart s := by
    intro r hr s hs
    have hpw := hH1.apart
    rw [List.pairwise_cons, List.pairwise_cons, List.pairwise_append] at hpw
    obtain ⟨q1, q2, _, _, q3⟩ := hpw
    rcases List.mem_cons.1 hr with rfl | hr
    · exact q1 s (by simp [hs])
    · rcases List.mem_cons.1 hr with rfl | hr
      · exact q2 s (by simp [hs])
      · exact Res.apart_comm (q3 s hs r hr)
  have hfn := hit.fn (w.heap.size + 1) J Jx (blks I0)
  have hblk : blks (Res.ext (blks I0) (J 0 (blks I0)) :: Hc) = blks I0 ++ blks Hc := by simp [blks, Res.blk]
  refine ⟨w.heap.size + 1, [mark w.heap.size], W1, { target := .fn (.func gf) caps, args := #[.func (.yield (w.heap.size + 1)) #[] #[]] }, W1, gf,
    (Value.func (.yield (w.heap.size + 1)) #[] #[] :: caps.toList).toArray, W1, ?_, ?_, fun _ _ => trivial, ?_, fun h => by simp at h, ?_⟩
  · rw [← hW1, hrec]; exact run_enterLoop_outer _ _ _ _ _
  · simp only [resolve, hev]
    simp [go_sem]
  · have := hfn.enter (#[.func (.yield (w.heap.size + 1)) #[] #[]] ++ caps) W1
    simp only [invoke]
    rw [this]
    congr 2
    simp
  · have hin : HpOk (blks I0 ++ blks Hc) W1.heap.size (Res.ext (blks I0) (J 0 (blks I0)) :: Hc) W1 := by
      refine ⟨?_, ?_, ?_⟩
      · intro r hr
        rcases List.mem_cons.1 hr with rfl | hr
        · exact JW_ext (I := fun i => .obj w.heap.size (.deferred (some [])) :: .obj (w.heap.size + 1) (.loop rec) :: I 0 i) i0 hp0 hHI
        · exact hHc.holds r hr
      · intro r hr b hb
        rcases List.mem_cons.1 hr with rfl | hr
        · obtain ⟨s, hs, hbs⟩ := mem_blks.1 hb
          exact ⟨.inl (List.mem_append_left _ hb), (hHI.own s hs b hbs).2⟩
        · exact ⟨.inl (List.mem_append_right _ (mem_blks.2 ⟨r, hr, hb⟩)), (hHc.own r hr b hb).2⟩
      · refine List.pairwise_cons.2 ⟨fun s hs b hb hbs => ?_, hHc.apart⟩
        obtain ⟨r, hr, hbr⟩ := mem_blks.1 hb
        exact hap r hr s hs b hbr hbs
    have hown0 : ∀ b ∈ blks I0 ++ blks Hc, b ∈ c.bs ∨ c.w0.heap.size ≤ b := fun b hb => by
      rcases List.mem_append.1 hb with h | h
      · obtain ⟨r, hr, hbr⟩ := mem_blks.1 h; exact (hHI.own r hr b hbr).1
      · obtain ⟨r, hr, hbr⟩ := mem_blks.1 h; exact (hHc.own r hr b hbr).1
    have hsi1 : Since c.bs c.w0 W1 := hst.si.ext hs1
    have hcalls := hfn.calls W1 ⟨hpre W1 hsi1 (hst.hp.ext hs1), ?_⟩ (by rw [hblk]; exact hin)
    · refine callsIn_fa c.ro ?_
      intro cs
      obtain ⟨e, w2, fr, ⟨x, _, he, hsi2, hh2⟩, hsteps, hrest⟩ := hcalls cs
      refine ⟨e, w2, fr, ?_, hsteps, hrest⟩
      subst he
      rw [hblk] at hsi2 hh2
      obtain ⟨go, bs'⟩ := x
      have hsi2' : Since c.bs c.w0 w2 := hsi1.trans hsi2 hown0
      have hex := hh2.holds _ (List.mem_cons_self)
      have hHc2 : ∀ r ∈ Hc, r.holds w2 := fun r hr => hh2.holds r (List.mem_cons_of_mem _ hr)
      have hapc : ∀ s ∈ Hc, ∀ b ∈ bs', b ∉ s.blk := fun s hs b hb => by
        have := hh2.apart
        rw [List.pairwise_cons] at this
        exact this.1 s hs b hb
      -- both ends, at once
      have both : ∀ (IL : List Res) (jump : Option Code) (st : LoopState), st ≠ .busy → bs' = blks (.obj w.heap.size (.deferred (some [])) :: .obj (w.heap.size + 1) (.loop { rec with state := st, pending := jump }) :: IL) →
          HpOk c.bs c.w0.heap.size (.obj w.heap.size (.deferred (some [])) :: .obj (w.heap.size + 1) (.loop { rec with state := st, pending := jump }) :: IL) w2 →
          ∃ w4, (Instr.endLoop (w.heap.size + 1)).run P w2 = .ok jump w4 ∧ St N c (mark w.heap.size :: D) F (.obj w.heap.size (.deferred (some [])) :: (Hc ++ IL)) { a with defers := mark w.heap.size :: a.defers } w4 := by
        intro IL jump st hst' hbs hI
        have hl : w2.heap[w.heap.size + 1]? = some (.loop { rec with state := st, pending := jump }) := hI.holds (.obj (w.heap.size + 1) _) (by simp)
        have hall : HpOk c.bs c.w0.heap.size (.obj w.heap.size (.deferred (some [])) :: .obj (w.heap.size + 1) (.loop { rec with state := st, pending := jump }) :: (Hc ++ IL)) w2 := by
          have hq := hI.apart
          rw [List.pairwise_cons, List.pairwise_cons] at hq
          refine ⟨?_, ?_, ?_⟩
          · intro r hr
            rcases List.mem_cons.1 hr with rfl | hr
            · exact hI.holds _ (by simp)
            · rcases List.mem_cons.1 hr with rfl | hr
              · exact hI.holds _ (by simp)
              · rcases List.mem_append.1 hr with h | h
                · exact hHc2 r h
                · exact hI.holds r (by simp [h])
          · intro r hr b hb
            rcases List.mem_cons.1 hr with rfl | hr
            · exact hI.own _ (by simp) b hb
            · rcases List.mem_cons.1 hr with rfl | hr
              · exact hI.own _ (by simp) b hb
              · rcases List.mem_append.1 hr with h | h
                · exact ⟨(hHc.own r h b hb).1, Nat.lt_of_lt_of_le (hHc.own r h b hb).2 hsi2.size⟩
                · exact hI.own r (by simp [h]) b hb
          · have hcI : ∀ r, r ∈ (Res.obj w.heap.size (.deferred (some [])) :: .obj (w.heap.size + 1) (.loop { rec with state := st, pending := jump }) :: IL) → ∀ s ∈ Hc, r.apart s := fun r hr s hs b hb hb2 =>
              hapc s hs b (by rw [hbs]; exact mem_blks.2 ⟨r, hr, hb⟩) hb2
            refine List.pairwise_cons.2 ⟨fun s hs => ?_, List.pairwise_cons.2 ⟨fun s hs => ?_, List.pairwise_append.2 ⟨hHc.apart, hq.2.2, fun s hs r hr => Res.apart_comm (hcI r (by simp [hr]) s hs)⟩⟩⟩
            · rcases List.mem_cons.1 hs with rfl | hs
              · exact hq.1 _ (by simp)
              · rcases List.mem_append.1 hs with h | h
                · exact hcI _ (by simp) s h
                · exact hq.1 s (by simp [h])
            · rcases List.mem_append.1 hs with h | h
              · exact hcI _ (by simp) s h
              · exact hq.2.1 s h
        have hst2 : St N c (mark w.heap.size :: D) F (.obj w.heap.size (.deferred (some [])) :: .obj (w.heap.size + 1) (.loop { rec with state := st, pending := jump }) :: (Hc ++ IL)) { a with defers := mark w.heap.size :: a.defers } w2 :=
          ⟨hst.tm, hfr, by simp [hst.df], hsi2', hall⟩
        have hso : SetO (.obj w.heap.size (.deferred (some [])) :: .obj (w.heap.size + 1) (.loop { rec with state := st, pending := jump }) :: (Hc ++ IL)) (w.heap.size + 1) (.loop { rec with state := .exhausted, pending := jump }) (.obj w.heap.size (.deferred (some [])) :: .obj (w.heap.size + 1) (.loop { rec with state := .exhausted, pending := jump }) :: (Hc ++ IL)) := inferInstance
        have ho : HasO (.obj w.heap.size (.deferred (some [])) :: .obj (w.heap.size + 1) (.loop { rec with state := st, pending := jump }) :: (Hc ++ IL)) (w.heap.size + 1) (.loop { rec with state := st, pending := jump }) := inferInstance
        obtain ⟨h3, _⟩ := hst2.setO ho hso
        refine ⟨_, run_endLoop hl hst', ⟨h3.tm, h3.fr, h3.df, h3.si, h3.hp.sub ?_⟩⟩
        exact List.Sublist.cons_cons _ (List.Sublist.cons _ (List.Sublist.refl _))
      cases go with
      | true =>
        obtain ⟨i, hpi, hI, hbs⟩ := ext_get hex
        have hrr : ({ rec with state := LoopState.ready, pending := none } : Loop) = rec := by rw [hrec]
        obtain ⟨w4, h4, h5⟩ := both (I n i) none .ready (by simp) (by rw [hrr]; exact hbs) (by rw [hrr]; exact hI)
        exact ⟨none, w4, h4, hdone _ i hpi _ _ h5⟩
      | false =>
        obtain ⟨⟨j, i⟩, hpi, hI, hbs⟩ := ext_get hex
        obtain ⟨w4, h4, h5⟩ := both (X i) (some j) .done (by simp) hbs hI
        exact ⟨some j, w4, h4, hjump _ j i hpi _ _ h5⟩
    · -- the rounds
      intro k hk2 W bs hsW hbsW hext
      obtain ⟨i, hpi, hI, hbs⟩ := ext_get hext
      have hl : W.heap[w.heap.size + 1]? = some (.loop rec) := hI.holds (.obj (w.heap.size + 1) _) (by simp)
      have hy := run_yield (P := P) (args := (encs k).toArray) hl (by rw [hrec]; simpa using hlen k)
      refine ⟨_, _, _, _, hy, ?_⟩
      have hsW' : Since c.bs c.w0 W := hsi1.trans hsW hown0
      have hsub : ∀ b, (b ∈ blks (Res.obj w.heap.size (.deferred (some [])) :: .obj (w.heap.size + 1) (.loop rec) :: I k i) ∨ W.heap.size ≤ b) → (b ∈ c.bs ∨ c.w0.heap.size ≤ b) := fun b hb => by
        rcases hb with hb | hb
        · obtain ⟨r, hr, hbr⟩ := mem_blks.1 hb; exact (hI.own r hr b hbr).1
        · exact .inr (Nat.le_trans hsW'.size hb)
      have hb := hbody k i (w.heap.size + 1) w.heap.size rec ⟨some (w.heap.size + 1), W, bs⟩ hk2 hpi (by rw [hrec]) (by rw [hrec]) rfl (fun w' hw' => hsW'.trans hw' fun b hb => hsub b (.inl (by rw [← hbs]; exact hb))) (fun b hb => hsub b (by rw [← hbs]; exact hb))
      have ht := parF_ok (ps := ps) (vs := encs k) hfr hst.tm hps
      have hzip : (rec.params.zip (encs k).toArray).foldl (fun tmps (t, a) => tmps.setIfInBounds t a) rec.tmps = (ps.zip (encs k)).foldl (fun t q => t.setIfInBounds q.1 q.2) a.tmps := by
        rw [hrec]; simp
      rw [hzip]
      have hrf : rec.assign = assign ∧ rec.body = body := by rw [hrec]; exact ⟨rfl, rfl⟩
      rw [hrf.1, hrf.2]
      have hI' : HpOk bs W.heap.size (.obj w.heap.size (.deferred (some [])) :: .obj (w.heap.size + 1) (.loop rec) :: I k i) W :=
        ⟨hI.holds, fun r hr b hb => ⟨.inl (by rw [hbs]; exact mem_blks.2 ⟨r, hr, hb⟩), (hI.own r hr b hb).2⟩, hI.apart⟩
      have hround := roundIn_of_wpIn (F := FA none) (n := 0) (P := P) (l := w.heap.size + 1) (f := rec.fn) (R := RndR ⟨some (w.heap.size + 1), W, bs⟩ (J (k + 1)) Jx) trivial
        (hb { tmps := (ps.zip (encs k)).foldl (fun t q => t.setIfInBounds q.1 q.2) a.tmps, defers := [] } W ⟨ht.2, ht.1, rfl, Since.refl _ _, hI'⟩)
      refine hround.mono fun e W' hr => ?_
      rw [hblk] at *
      exact hr

end Go.Bw
