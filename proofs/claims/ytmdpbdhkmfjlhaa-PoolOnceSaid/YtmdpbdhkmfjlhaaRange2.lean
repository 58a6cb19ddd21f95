/- Iterators that are told as lists, and ranges over them. No program is named. -/
import Derived.Test.YtmdpbdhkmfjlhaaSl2
import Derived.Test.YtmdpbdhkmfjlhaaRange
namespace Go.Bw
open Go Go.RowKit

/-- an iterator's contract: it hands over n rows of values, till a round says no more; it reads 'Hc', and what K tells. -/
structure IterK (P : Program) (gf : Nat) (caps : List Value) (Hc : List Res) (K : World → Prop) (encs : Nat → List Value) (n : Nat) : Prop where
  fn : ∀ (l : Nat) (J : Nat → List Nat → World → Prop) (Jx : List Nat → World → Prop) (bs : List Nat),
    Fn (α := Bool × List Nat) P gf (.func (.yield l) #[] #[] :: caps) (fun w => Fut (bs ++ blks Hc) K w ∧ Rnd P l (bs ++ blks Hc) w J Jx encs n) (.ext bs (J 0 bs) :: Hc)
      (fun _ => True) (fun _ => .tuple #[]) (fun x => .ext x.2 (bif x.1 then J n x.2 else Jx x.2) :: Hc)

/-- THE RULE, at an outermost loop -/
theorem WP_rangeK {P : Program} {N : Nat} {c : Cx} {D : List Deferred} {Q : Exit → Act → World → Prop} {F : Frm} {H : List Res} {g : Operand} {ps : List Nat} {assign body : Code}
    {gf n : Nat} {caps : Array Value} {Hc : List Res} {K : World → Prop} {encs : Nat → List Value} {α β : Type}
    (hro : c.ro = none) (hg : ev F g = some (.func (.func gf) #[] caps)) (hit : IterK P gf caps.toList Hc K encs n) (hlen : ∀ k, (encs k).length = ps.length) (hps : ps.all (Nat.blt · N) = true)
    [hKn : KnF c [] K]
    (p : Nat → α → Prop) (I : Nat → α → List Res) (px : Code → β → Prop) (X : β → List Res) (i0 : α) (hp0 : p 0 i0) {ks : List Nat} (hk : pick H ks = some (Hc ++ I 0 i0)) (hn : ks.Nodup)
    (hbody : ∀ (k : Nat) (i : α) (l dd : Nat) (rec : Loop) (c' : Cx), k < n → p k i → rec.state = .ready → rec.pending = none → c'.ro = some l → (∀ w, Since c'.bs c'.w0 w → Since c.bs c.w0 w) →
      (∀ b, (b ∈ c'.bs ∨ c'.w0.heap.size ≤ b) → (b ∈ c.bs ∨ c.w0.heap.size ≤ b)) →
      WP P N c' [] assign (RangeQ P l body (RndR c' (JW c.w0.heap.size c.bs (p (k + 1)) (fun i => .obj dd (.deferred (some [])) :: .obj l (.loop rec) :: I (k + 1) i))
        (JW c.w0.heap.size c.bs (fun q : Code × β => px q.1 q.2) (fun q => .obj dd (.deferred (some [])) :: .obj l (.loop { rec with state := .done, pending := some q.1 }) :: X q.2))))
        (parF ps (encs k) F) (.obj dd (.deferred (some [])) :: .obj l (.loop rec) :: I k i))
    (hdone : ∀ dd i, p n i → WQ N c (mark dd :: D) Q .normal F (.obj dd (.deferred (some [])) :: (Hc ++ I n i)))
    (hjump : ∀ dd j i, px j i → WP P N c (mark dd :: D) j Q F (.obj dd (.deferred (some [])) :: (Hc ++ X i))) :
    WP P N c D (.rangeFunc g ps.toArray assign body) Q F H := fun a w hst => by
  refine wpIn_rangeFunc fun fn _ => ?_
  have hround : (FA c.ro).round = none := hro
  rw [hround]
  obtain ⟨rec, hrec⟩ : ∃ rec : Loop, rec = { state := .ready, pending := none, fn, tmps := a.tmps, params := ps.toArray, assign, body, defers := w.heap.size } := ⟨_, rfl⟩
  obtain ⟨W1, hW1⟩ : ∃ W1, (w.alloc (.deferred (some []))).alloc (.loop rec) = W1 := ⟨_, rfl⟩
  have hs1 : Since [] w W1 := by rw [← hW1]; exact (Since.alloc w _).ext (Since.alloc _ _)
  have hsz1 : W1.heap.size = w.heap.size + 2 := by rw [← hW1]; simp
  have hL1 : W1.heap[w.heap.size + 1]? = some (.loop rec) := by
    rw [← hW1]; have := World.alloc_heap_new (w.alloc (.deferred (some []))) (.loop rec); rwa [World.size_alloc] at this
  have hK1 : W1.heap[w.heap.size]? = some (.deferred (some [])) := by
    rw [← hW1]; exact (Below.heap_alloc _ _ _ (by simp)).trans (World.alloc_heap_new w _)
  have hev := ev_ok hst.fr hg
  have hfr := hst.fr
  -- the caller's word
  let J : Nat → List Nat → World → Prop := fun k => JW c.w0.heap.size c.bs (p k) (fun i => .obj w.heap.size (.deferred (some [])) :: .obj (w.heap.size + 1) (.loop rec) :: I k i)
  let Jx : List Nat → World → Prop := JW c.w0.heap.size c.bs (fun q : Code × β => px q.1 q.2) (fun q => .obj w.heap.size (.deferred (some [])) :: .obj (w.heap.size + 1) (.loop { rec with state := .done, pending := some q.1 }) :: X q.2)
  have hpick := (hst.hp.ext hs1).pick hk hn
  have hH1 : HpOk c.bs c.w0.heap.size (.obj w.heap.size (.deferred (some [])) :: .obj (w.heap.size + 1) (.loop rec) :: (Hc ++ I 0 i0)) W1 := by
    have hlt : ∀ s ∈ Hc ++ I 0 i0, ∀ b ∈ s.blk, b < w.heap.size := fun s hs b hb => by
      have hm : s ∈ H := by
        obtain ⟨jj, hj⟩ := List.mem_iff_getElem?.1 hs
        obtain ⟨kk, _, hh⟩ := pick_get hk jj s hj
        exact List.mem_of_getElem? hh
      exact (hst.hp.own s hm b hb).2
    have hszw := hst.si.size
    refine HpOk.cons (HpOk.cons hpick hL1 ?_ ?_) hK1 ?_ ?_
    · intro b hb; have e : b = w.heap.size + 1 := by simpa [Res.blk] using hb
      subst e; exact ⟨.inr (by omega), by omega⟩
    · intro s hs b hb hbs
      have e : b = w.heap.size + 1 := by simpa [Res.blk] using hb
      have := hlt s hs b hbs; omega
    · intro b hb; have e : b = w.heap.size := by simpa [Res.blk] using hb
      subst e; exact ⟨.inr (by omega), by omega⟩
    · intro s hs b hb hbs
      have e : b = w.heap.size := by simpa [Res.blk] using hb
      rcases List.mem_cons.1 hs with rfl | hs
      · have e2 : b = w.heap.size + 1 := by simpa [Res.blk] using hbs
        omega
      · have := hlt s hs b hbs; omega
  let I0 : List Res := .obj w.heap.size (.deferred (some [])) :: .obj (w.heap.size + 1) (.loop rec) :: I 0 i0
  have hHI : HpOk c.bs c.w0.heap.size I0 W1 := hH1.sub (by
    refine List.Sublist.cons_cons _ (List.Sublist.cons_cons _ (List.sublist_append_right _ _)))
  have hHc : HpOk c.bs c.w0.heap.size Hc W1 := hH1.sub (by
    refine List.Sublist.cons _ (List.Sublist.cons _ (List.sublist_append_left _ _)))
  have hap : ∀ r ∈ I0, ∀ s ∈ Hc, r.apart s := by
    intro r hr s hs
    have hpw := hH1.apart
    rw [List.pairwise_cons, List.pairwise_cons, List.pairwise_append] at hpw
    obtain ⟨q1, q2, _, _, q3⟩ := hpw
    rcases List.mem_cons.1 hr with rfl | hr
    · exact q1 s (by simp [hs])
    · rcases List.mem_cons.1 hr with rfl | hr
      · exact q2 s (by simp [hs])
      · exact Res.apart_comm (q3 s hs r hr)
  have hfn := hit.fn (w.heap.size + 1) J Jx (blks I0)
  have hblk : blks (Res.ext (blks I0) (J 0 (blks I0)) :: Hc) = blks I0 ++ blks Hc := by simp [blks, Res.blk]
  refine ⟨w.heap.size + 1, [mark w.heap.size], W1, { target := .fn (.func gf) caps, args := #[.func (.yield (w.heap.size + 1)) #[] #[]] }, W1, gf,
    (Value.func (.yield (w.heap.size + 1)) #[] #[] :: caps.toList).toArray, W1, ?_, ?_, fun _ _ => trivial, ?_, fun h => by simp at h, ?_⟩
  · rw [← hW1, hrec]; exact run_enterLoop_outer _ _ _ _ _
  · simp only [resolve, hev]
    simp [go_sem]
  · have := hfn.enter (#[.func (.yield (w.heap.size + 1)) #[] #[]] ++ caps) W1
    simp only [invoke]
    rw [this]
    congr 2
    simp
  · have hin : HpOk (blks I0 ++ blks Hc) W1.heap.size (Res.ext (blks I0) (J 0 (blks I0)) :: Hc) W1 := by
      refine ⟨?_, ?_, ?_⟩
      · intro r hr
        rcases List.mem_cons.1 hr with rfl | hr
        · exact JW_ext (I := fun i => .obj w.heap.size (.deferred (some [])) :: .obj (w.heap.size + 1) (.loop rec) :: I 0 i) i0 hp0 hHI
        · exact hHc.holds r hr
      · intro r hr b hb
        rcases List.mem_cons.1 hr with rfl | hr
        · obtain ⟨s, hs, hbs⟩ := mem_blks.1 hb
          exact ⟨.inl (List.mem_append_left _ hb), (hHI.own s hs b hbs).2⟩
        · exact ⟨.inl (List.mem_append_right _ (mem_blks.2 ⟨r, hr, hb⟩)), (hHc.own r hr b hb).2⟩
      · refine List.pairwise_cons.2 ⟨fun s hs b hb hbs => ?_, hHc.apart⟩
        obtain ⟨r, hr, hbr⟩ := mem_blks.1 hb
        exact hap r hr s hs b hbr hbs
    have hown0 : ∀ b ∈ blks I0 ++ blks Hc, b ∈ c.bs ∨ c.w0.heap.size ≤ b := fun b hb => by
      rcases List.mem_append.1 hb with h | h
      · obtain ⟨r, hr, hbr⟩ := mem_blks.1 h; exact (hHI.own r hr b hbr).1
      · obtain ⟨r, hr, hbr⟩ := mem_blks.1 h; exact (hHc.own r hr b hbr).1
    have hsi1 : Since c.bs c.w0 W1 := hst.si.ext hs1
    have hcalls := hfn.calls W1 ⟨fun w' hw' => hKn.ok w' (hsi1.trans hw' hown0) (fun r hr => by cases hr), ?_⟩ (by rw [hblk]; exact hin)
    · refine callsIn_fa c.ro ?_
      intro cs
      obtain ⟨e, w2, fr, ⟨x, _, he, hsi2, hh2⟩, hsteps, hrest⟩ := hcalls cs
      refine ⟨e, w2, fr, ?_, hsteps, hrest⟩
      subst he
      rw [hblk] at hsi2 hh2
      obtain ⟨go, bs'⟩ := x
      have hsi2' : Since c.bs c.w0 w2 := hsi1.trans hsi2 hown0
      have hex := hh2.holds _ (List.mem_cons_self)
      have hHc2 : ∀ r ∈ Hc, r.holds w2 := fun r hr => hh2.holds r (List.mem_cons_of_mem _ hr)
      have hapc : ∀ s ∈ Hc, ∀ b ∈ bs', b ∉ s.blk := fun s hs b hb => by
        have := hh2.apart
        rw [List.pairwise_cons] at this
        exact this.1 s hs b hb
      -- both ends, at once
      have both : ∀ (IL : List Res) (jump : Option Code) (st : LoopState), st ≠ .busy → bs' = blks (.obj w.heap.size (.deferred (some [])) :: .obj (w.heap.size + 1) (.loop { rec with state := st, pending := jump }) :: IL) →
          HpOk c.bs c.w0.heap.size (.obj w.heap.size (.deferred (some [])) :: .obj (w.heap.size + 1) (.loop { rec with state := st, pending := jump }) :: IL) w2 →
          ∃ w4, (Instr.endLoop (w.heap.size + 1)).run P w2 = .ok jump w4 ∧ St N c (mark w.heap.size :: D) F (.obj w.heap.size (.deferred (some [])) :: (Hc ++ IL)) { a with defers := mark w.heap.size :: a.defers } w4 := by
        intro IL jump st hst' hbs hI
        have hl : w2.heap[w.heap.size + 1]? = some (.loop { rec with state := st, pending := jump }) := hI.holds (.obj (w.heap.size + 1) _) (by simp)
        have hall : HpOk c.bs c.w0.heap.size (.obj w.heap.size (.deferred (some [])) :: .obj (w.heap.size + 1) (.loop { rec with state := st, pending := jump }) :: (Hc ++ IL)) w2 := by
          have hq := hI.apart
          rw [List.pairwise_cons, List.pairwise_cons] at hq
          refine ⟨?_, ?_, ?_⟩
          · intro r hr
            rcases List.mem_cons.1 hr with rfl | hr
            · exact hI.holds _ (by simp)
            · rcases List.mem_cons.1 hr with rfl | hr
              · exact hI.holds _ (by simp)
              · rcases List.mem_append.1 hr with h | h
                · exact hHc2 r h
                · exact hI.holds r (by simp [h])
          · intro r hr b hb
            rcases List.mem_cons.1 hr with rfl | hr
            · exact hI.own _ (by simp) b hb
            · rcases List.mem_cons.1 hr with rfl | hr
              · exact hI.own _ (by simp) b hb
              · rcases List.mem_append.1 hr with h | h
                · exact ⟨(hHc.own r h b hb).1, Nat.lt_of_lt_of_le (hHc.own r h b hb).2 hsi2.size⟩
                · exact hI.own r (by simp [h]) b hb
          · have hcI : ∀ r, r ∈ (Res.obj w.heap.size (.deferred (some [])) :: .obj (w.heap.size + 1) (.loop { rec with state := st, pending := jump }) :: IL) → ∀ s ∈ Hc, r.apart s := fun r hr s hs b hb hb2 =>
              hapc s hs b (by rw [hbs]; exact mem_blks.2 ⟨r, hr, hb⟩) hb2
            refine List.pairwise_cons.2 ⟨fun s hs => ?_, List.pairwise_cons.2 ⟨fun s hs => ?_, List.pairwise_append.2 ⟨hHc.apart, hq.2.2, fun s hs r hr => Res.apart_comm (hcI r (by simp [hr]) s hs)⟩⟩⟩
            · rcases List.mem_cons.1 hs with rfl | hs
              · exact hq.1 _ (by simp)
              · rcases List.mem_append.1 hs with h | h
                · exact hcI _ (by simp) s h
                · exact hq.1 s (by simp [h])
            · rcases List.mem_append.1 hs with h | h
              · exact hcI _ (by simp) s h
              · exact hq.2.1 s h
        have hst2 : St N c (mark w.heap.size :: D) F (.obj w.heap.size (.deferred (some [])) :: .obj (w.heap.size + 1) (.loop { rec with state := st, pending := jump }) :: (Hc ++ IL)) { a with defers := mark w.heap.size :: a.defers } w2 :=
          ⟨hst.tm, hfr, by simp [hst.df], hsi2', hall⟩
        have hso : SetO (.obj w.heap.size (.deferred (some [])) :: .obj (w.heap.size + 1) (.loop { rec with state := st, pending := jump }) :: (Hc ++ IL)) (w.heap.size + 1) (.loop { rec with state := .exhausted, pending := jump }) (.obj w.heap.size (.deferred (some [])) :: .obj (w.heap.size + 1) (.loop { rec with state := .exhausted, pending := jump }) :: (Hc ++ IL)) := inferInstance
        have ho : HasO (.obj w.heap.size (.deferred (some [])) :: .obj (w.heap.size + 1) (.loop { rec with state := st, pending := jump }) :: (Hc ++ IL)) (w.heap.size + 1) (.loop { rec with state := st, pending := jump }) := inferInstance
        obtain ⟨h3, _⟩ := hst2.setO ho hso
        refine ⟨_, run_endLoop hl hst', ⟨h3.tm, h3.fr, h3.df, h3.si, h3.hp.sub ?_⟩⟩
        exact List.Sublist.cons_cons _ (List.Sublist.cons _ (List.Sublist.refl _))
      cases go with
      | true =>
        obtain ⟨i, hpi, hI, hbs⟩ := ext_get hex
        have hrr : ({ rec with state := LoopState.ready, pending := none } : Loop) = rec := by rw [hrec]
        obtain ⟨w4, h4, h5⟩ := both (I n i) none .ready (by simp) (by rw [hrr]; exact hbs) (by rw [hrr]; exact hI)
        exact ⟨none, w4, h4, hdone _ i hpi _ _ h5⟩
      | false =>
        obtain ⟨⟨j, i⟩, hpi, hI, hbs⟩ := ext_get hex
        obtain ⟨w4, h4, h5⟩ := both (X i) (some j) .done (by simp) hbs hI
        exact ⟨some j, w4, h4, hjump _ j i hpi _ _ h5⟩
    · -- the rounds
      intro k hk2 W bs hsW hbsW hext
      obtain ⟨i, hpi, hI, hbs⟩ := ext_get hext
      have hl : W.heap[w.heap.size + 1]? = some (.loop rec) := hI.holds (.obj (w.heap.size + 1) _) (by simp)
      have hy := run_yield (P := P) (args := (encs k).toArray) hl (by rw [hrec]; simpa using hlen k)
      refine ⟨_, _, _, _, hy, ?_⟩
      have hsW' : Since c.bs c.w0 W := hsi1.trans hsW hown0
      have hsub : ∀ b, (b ∈ blks (Res.obj w.heap.size (.deferred (some [])) :: .obj (w.heap.size + 1) (.loop rec) :: I k i) ∨ W.heap.size ≤ b) → (b ∈ c.bs ∨ c.w0.heap.size ≤ b) := fun b hb => by
        rcases hb with hb | hb
        · obtain ⟨r, hr, hbr⟩ := mem_blks.1 hb; exact (hI.own r hr b hbr).1
        · exact .inr (Nat.le_trans hsW'.size hb)
      have hb := hbody k i (w.heap.size + 1) w.heap.size rec ⟨some (w.heap.size + 1), W, bs⟩ hk2 hpi (by rw [hrec]) (by rw [hrec]) rfl (fun w' hw' => hsW'.trans hw' fun b hb => hsub b (.inl (by rw [← hbs]; exact hb))) (fun b hb => hsub b (by rw [← hbs]; exact hb))
      have ht := parF_ok (ps := ps) (vs := encs k) hfr hst.tm hps
      have hzip : (rec.params.zip (encs k).toArray).foldl (fun tmps (t, a) => tmps.setIfInBounds t a) rec.tmps = (ps.zip (encs k)).foldl (fun t q => t.setIfInBounds q.1 q.2) a.tmps := by
        rw [hrec]; simp
      rw [hzip]
      have hrf : rec.assign = assign ∧ rec.body = body := by rw [hrec]; exact ⟨rfl, rfl⟩
      rw [hrf.1, hrf.2]
      have hI' : HpOk bs W.heap.size (.obj w.heap.size (.deferred (some [])) :: .obj (w.heap.size + 1) (.loop rec) :: I k i) W :=
        ⟨hI.holds, fun r hr b hb => ⟨.inl (by rw [hbs]; exact mem_blks.2 ⟨r, hr, hb⟩), (hI.own r hr b hb).2⟩, hI.apart⟩
      have hround := roundIn_of_wpIn (F := FA none) (n := 0) (P := P) (l := w.heap.size + 1) (f := rec.fn) (R := RndR ⟨some (w.heap.size + 1), W, bs⟩ (J (k + 1)) Jx) trivial
        (hb { tmps := (ps.zip (encs k)).foldl (fun t q => t.setIfInBounds q.1 q.2) a.tmps, defers := [] } W ⟨ht.2, ht.1, rfl, Since.refl _ _, hI'⟩)
      refine hround.mono fun e W' hr => ?_
      rw [hblk] at *
      exact hr

theorem knf_in {c c' : Cx} {K : World → Prop} [h : KnF c [] K] (hsi : ∀ w, Since c'.bs c'.w0 w → Since c.bs c.w0 w) : ∀ R, KnF c' R K := fun R => ⟨fun w hs _ => h.ok w (hsi w hs) (fun r hr => by cases hr)⟩

def yl {β : Type} (e : β) (m : Option (List β)) : Option (List β) := m.map (e :: ·)
theorem yl_e {β : Type} {e : β} {m : Option (List β)} {r : List β} (h : yl e m = some r) : ∃ r', r = e :: r' ∧ m = some r' := by
  cases m with
  | none => cases h
  | some l => exact ⟨l, (Option.some.inj h).symm, rfl⟩
theorem drop_cons {β : Type} [Inhabited β] {l r : List β} {k : Nat} {e : β} (h : l.drop k = e :: r) : k < l.length ∧ l.getD k default = e ∧ l.drop (k + 1) = r ∧ k + 1 ≤ l.length := by
  have hlt : k < l.length := by
    rcases Nat.lt_or_ge k l.length with h1 | h1
    · exact h1
    · rw [List.drop_eq_nil_of_le h1] at h; cases h
  rw [List.drop_eq_getElem_cons hlt] at h
  obtain ⟨h1, h2⟩ := List.cons.inj h
  refine ⟨hlt, ?_, h2, hlt⟩
  rw [List.getD, List.getElem?_eq_getElem hlt]; exact h1
theorem drop_nil {β : Type} {l : List β} {k : Nat} (h : l.drop k = []) (hk : k ≤ l.length) : k = l.length := by
  have := List.drop_eq_nil_iff.1 h
  omega
section
variable {α1 β ρ : Type}
def itr1 (B : β → (α1 → Option ρ) → α1 → Option ρ) (fin : α1 → Option ρ) : List β → α1 → Option ρ
  | [], a1 => fin a1
  | x :: l, a1 => B x (itr1 B fin l) a1
theorem it1_i {B : β → (α1 → Option ρ) → α1 → Option ρ} {fin : α1 → Option ρ} {l : List β} {a1 : α1} {r : ρ} (h : itr1 B fin l a1 = some r) : ∃ ib, ib = B ∧ ∃ fi, fi = fin ∧ itr1 ib fi (l.drop 0) a1 = some r := ⟨B, rfl, fin, rfl, h⟩
theorem it1_s [Inhabited β] {ib B : β → (α1 → Option ρ) → α1 → Option ρ} {fi : α1 → Option ρ} (e : ib = B) {l : List β} {k : Nat} (hk : k < l.length) {a1 : α1} {r : ρ} (h : itr1 ib fi (l.drop k) a1 = some r) : B (l.getD k default) (itr1 ib fi (l.drop (k + 1))) a1 = some r := by
  subst e
  rw [List.drop_eq_getElem_cons hk] at h
  rw [List.getD, List.getElem?_eq_getElem hk]; exact h
theorem it1_n {ib : β → (α1 → Option ρ) → α1 → Option ρ} {fi fin : α1 → Option ρ} (e : fi = fin) {l : List β} {k : Nat} (hk : k = l.length) {a1 : α1} {r : ρ} (h : itr1 ib fi (l.drop k) a1 = some r) : fin a1 = some r := by
  subst e; subst hk
  rw [List.drop_length] at h; exact h
end
section
variable {α1 α2 β ρ : Type}
def itr2 (B : β → (α1 → α2 → Option ρ) → α1 → α2 → Option ρ) (fin : α1 → α2 → Option ρ) : List β → α1 → α2 → Option ρ
  | [], a1, a2 => fin a1 a2
  | x :: l, a1, a2 => B x (itr2 B fin l) a1 a2
theorem it2_i {B : β → (α1 → α2 → Option ρ) → α1 → α2 → Option ρ} {fin : α1 → α2 → Option ρ} {l : List β} {a1 : α1} {a2 : α2} {r : ρ} (h : itr2 B fin l a1 a2 = some r) : ∃ ib, ib = B ∧ ∃ fi, fi = fin ∧ itr2 ib fi (l.drop 0) a1 a2 = some r := ⟨B, rfl, fin, rfl, h⟩
theorem it2_s [Inhabited β] {ib B : β → (α1 → α2 → Option ρ) → α1 → α2 → Option ρ} {fi : α1 → α2 → Option ρ} (e : ib = B) {l : List β} {k : Nat} (hk : k < l.length) {a1 : α1} {a2 : α2} {r : ρ} (h : itr2 ib fi (l.drop k) a1 a2 = some r) : B (l.getD k default) (itr2 ib fi (l.drop (k + 1))) a1 a2 = some r := by
  subst e
  rw [List.drop_eq_getElem_cons hk] at h
  rw [List.getD, List.getElem?_eq_getElem hk]; exact h
theorem it2_n {ib : β → (α1 → α2 → Option ρ) → α1 → α2 → Option ρ} {fi fin : α1 → α2 → Option ρ} (e : fi = fin) {l : List β} {k : Nat} (hk : k = l.length) {a1 : α1} {a2 : α2} {r : ρ} (h : itr2 ib fi (l.drop k) a1 a2 = some r) : fin a1 a2 = some r := by
  subst e; subst hk
  rw [List.drop_length] at h; exact h
end
section
variable {α1 α2 α3 β ρ : Type}
def itr3 (B : β → (α1 → α2 → α3 → Option ρ) → α1 → α2 → α3 → Option ρ) (fin : α1 → α2 → α3 → Option ρ) : List β → α1 → α2 → α3 → Option ρ
  | [], a1, a2, a3 => fin a1 a2 a3
  | x :: l, a1, a2, a3 => B x (itr3 B fin l) a1 a2 a3
theorem it3_i {B : β → (α1 → α2 → α3 → Option ρ) → α1 → α2 → α3 → Option ρ} {fin : α1 → α2 → α3 → Option ρ} {l : List β} {a1 : α1} {a2 : α2} {a3 : α3} {r : ρ} (h : itr3 B fin l a1 a2 a3 = some r) : ∃ ib, ib = B ∧ ∃ fi, fi = fin ∧ itr3 ib fi (l.drop 0) a1 a2 a3 = some r := ⟨B, rfl, fin, rfl, h⟩
theorem it3_s [Inhabited β] {ib B : β → (α1 → α2 → α3 → Option ρ) → α1 → α2 → α3 → Option ρ} {fi : α1 → α2 → α3 → Option ρ} (e : ib = B) {l : List β} {k : Nat} (hk : k < l.length) {a1 : α1} {a2 : α2} {a3 : α3} {r : ρ} (h : itr3 ib fi (l.drop k) a1 a2 a3 = some r) : B (l.getD k default) (itr3 ib fi (l.drop (k + 1))) a1 a2 a3 = some r := by
  subst e
  rw [List.drop_eq_getElem_cons hk] at h
  rw [List.getD, List.getElem?_eq_getElem hk]; exact h
theorem it3_n {ib : β → (α1 → α2 → α3 → Option ρ) → α1 → α2 → α3 → Option ρ} {fi fin : α1 → α2 → α3 → Option ρ} (e : fi = fin) {l : List β} {k : Nat} (hk : k = l.length) {a1 : α1} {a2 : α2} {a3 : α3} {r : ρ} (h : itr3 ib fi (l.drop k) a1 a2 a3 = some r) : fin a1 a2 a3 = some r := by
  subst e; subst hk
  rw [List.drop_length] at h; exact h
end
section
variable {α1 α2 α3 α4 β ρ : Type}
def itr4 (B : β → (α1 → α2 → α3 → α4 → Option ρ) → α1 → α2 → α3 → α4 → Option ρ) (fin : α1 → α2 → α3 → α4 → Option ρ) : List β → α1 → α2 → α3 → α4 → Option ρ
  | [], a1, a2, a3, a4 => fin a1 a2 a3 a4
  | x :: l, a1, a2, a3, a4 => B x (itr4 B fin l) a1 a2 a3 a4
theorem it4_i {B : β → (α1 → α2 → α3 → α4 → Option ρ) → α1 → α2 → α3 → α4 → Option ρ} {fin : α1 → α2 → α3 → α4 → Option ρ} {l : List β} {a1 : α1} {a2 : α2} {a3 : α3} {a4 : α4} {r : ρ} (h : itr4 B fin l a1 a2 a3 a4 = some r) : ∃ ib, ib = B ∧ ∃ fi, fi = fin ∧ itr4 ib fi (l.drop 0) a1 a2 a3 a4 = some r := ⟨B, rfl, fin, rfl, h⟩
theorem it4_s [Inhabited β] {ib B : β → (α1 → α2 → α3 → α4 → Option ρ) → α1 → α2 → α3 → α4 → Option ρ} {fi : α1 → α2 → α3 → α4 → Option ρ} (e : ib = B) {l : List β} {k : Nat} (hk : k < l.length) {a1 : α1} {a2 : α2} {a3 : α3} {a4 : α4} {r : ρ} (h : itr4 ib fi (l.drop k) a1 a2 a3 a4 = some r) : B (l.getD k default) (itr4 ib fi (l.drop (k + 1))) a1 a2 a3 a4 = some r := by
  subst e
  rw [List.drop_eq_getElem_cons hk] at h
  rw [List.getD, List.getElem?_eq_getElem hk]; exact h
theorem it4_n {ib : β → (α1 → α2 → α3 → α4 → Option ρ) → α1 → α2 → α3 → α4 → Option ρ} {fi fin : α1 → α2 → α3 → α4 → Option ρ} (e : fi = fin) {l : List β} {k : Nat} (hk : k = l.length) {a1 : α1} {a2 : α2} {a3 : α3} {a4 : α4} {r : ρ} (h : itr4 ib fi (l.drop k) a1 a2 a3 a4 = some r) : fin a1 a2 a3 a4 = some r := by
  subst e; subst hk
  rw [List.drop_length] at h; exact h
end
section
variable {α1 α2 α3 α4 α5 β ρ : Type}
def itr5 (B : β → (α1 → α2 → α3 → α4 → α5 → Option ρ) → α1 → α2 → α3 → α4 → α5 → Option ρ) (fin : α1 → α2 → α3 → α4 → α5 → Option ρ) : List β → α1 → α2 → α3 → α4 → α5 → Option ρ
  | [], a1, a2, a3, a4, a5 => fin a1 a2 a3 a4 a5
  | x :: l, a1, a2, a3, a4, a5 => B x (itr5 B fin l) a1 a2 a3 a4 a5
theorem it5_i {B : β → (α1 → α2 → α3 → α4 → α5 → Option ρ) → α1 → α2 → α3 → α4 → α5 → Option ρ} {fin : α1 → α2 → α3 → α4 → α5 → Option ρ} {l : List β} {a1 : α1} {a2 : α2} {a3 : α3} {a4 : α4} {a5 : α5} {r : ρ} (h : itr5 B fin l a1 a2 a3 a4 a5 = some r) : ∃ ib, ib = B ∧ ∃ fi, fi = fin ∧ itr5 ib fi (l.drop 0) a1 a2 a3 a4 a5 = some r := ⟨B, rfl, fin, rfl, h⟩
theorem it5_s [Inhabited β] {ib B : β → (α1 → α2 → α3 → α4 → α5 → Option ρ) → α1 → α2 → α3 → α4 → α5 → Option ρ} {fi : α1 → α2 → α3 → α4 → α5 → Option ρ} (e : ib = B) {l : List β} {k : Nat} (hk : k < l.length) {a1 : α1} {a2 : α2} {a3 : α3} {a4 : α4} {a5 : α5} {r : ρ} (h : itr5 ib fi (l.drop k) a1 a2 a3 a4 a5 = some r) : B (l.getD k default) (itr5 ib fi (l.drop (k + 1))) a1 a2 a3 a4 a5 = some r := by
  subst e
  rw [List.drop_eq_getElem_cons hk] at h
  rw [List.getD, List.getElem?_eq_getElem hk]; exact h
theorem it5_n {ib : β → (α1 → α2 → α3 → α4 → α5 → Option ρ) → α1 → α2 → α3 → α4 → α5 → Option ρ} {fi fin : α1 → α2 → α3 → α4 → α5 → Option ρ} (e : fi = fin) {l : List β} {k : Nat} (hk : k = l.length) {a1 : α1} {a2 : α2} {a3 : α3} {a4 : α4} {a5 : α5} {r : ρ} (h : itr5 ib fi (l.drop k) a1 a2 a3 a4 a5 = some r) : fin a1 a2 a3 a4 a5 = some r := by
  subst e; subst hk
  rw [List.drop_length] at h; exact h
end
section
variable {α1 α2 α3 α4 α5 α6 β ρ : Type}
def itr6 (B : β → (α1 → α2 → α3 → α4 → α5 → α6 → Option ρ) → α1 → α2 → α3 → α4 → α5 → α6 → Option ρ) (fin : α1 → α2 → α3 → α4 → α5 → α6 → Option ρ) : List β → α1 → α2 → α3 → α4 → α5 → α6 → Option ρ
  | [], a1, a2, a3, a4, a5, a6 => fin a1 a2 a3 a4 a5 a6
  | x :: l, a1, a2, a3, a4, a5, a6 => B x (itr6 B fin l) a1 a2 a3 a4 a5 a6
theorem it6_i {B : β → (α1 → α2 → α3 → α4 → α5 → α6 → Option ρ) → α1 → α2 → α3 → α4 → α5 → α6 → Option ρ} {fin : α1 → α2 → α3 → α4 → α5 → α6 → Option ρ} {l : List β} {a1 : α1} {a2 : α2} {a3 : α3} {a4 : α4} {a5 : α5} {a6 : α6} {r : ρ} (h : itr6 B fin l a1 a2 a3 a4 a5 a6 = some r) : ∃ ib, ib = B ∧ ∃ fi, fi = fin ∧ itr6 ib fi (l.drop 0) a1 a2 a3 a4 a5 a6 = some r := ⟨B, rfl, fin, rfl, h⟩
theorem it6_s [Inhabited β] {ib B : β → (α1 → α2 → α3 → α4 → α5 → α6 → Option ρ) → α1 → α2 → α3 → α4 → α5 → α6 → Option ρ} {fi : α1 → α2 → α3 → α4 → α5 → α6 → Option ρ} (e : ib = B) {l : List β} {k : Nat} (hk : k < l.length) {a1 : α1} {a2 : α2} {a3 : α3} {a4 : α4} {a5 : α5} {a6 : α6} {r : ρ} (h : itr6 ib fi (l.drop k) a1 a2 a3 a4 a5 a6 = some r) : B (l.getD k default) (itr6 ib fi (l.drop (k + 1))) a1 a2 a3 a4 a5 a6 = some r := by
  subst e
  rw [List.drop_eq_getElem_cons hk] at h
  rw [List.getD, List.getElem?_eq_getElem hk]; exact h
theorem it6_n {ib : β → (α1 → α2 → α3 → α4 → α5 → α6 → Option ρ) → α1 → α2 → α3 → α4 → α5 → α6 → Option ρ} {fi fin : α1 → α2 → α3 → α4 → α5 → α6 → Option ρ} (e : fi = fin) {l : List β} {k : Nat} (hk : k = l.length) {a1 : α1} {a2 : α2} {a3 : α3} {a4 : α4} {a5 : α5} {a6 : α6} {r : ρ} (h : itr6 ib fi (l.drop k) a1 a2 a3 a4 a5 a6 = some r) : fin a1 a2 a3 a4 a5 a6 = some r := by
  subst e; subst hk
  rw [List.drop_length] at h; exact h
end
section
variable {α1 α2 α3 α4 α5 α6 α7 β ρ : Type}
def itr7 (B : β → (α1 → α2 → α3 → α4 → α5 → α6 → α7 → Option ρ) → α1 → α2 → α3 → α4 → α5 → α6 → α7 → Option ρ) (fin : α1 → α2 → α3 → α4 → α5 → α6 → α7 → Option ρ) : List β → α1 → α2 → α3 → α4 → α5 → α6 → α7 → Option ρ
  | [], a1, a2, a3, a4, a5, a6, a7 => fin a1 a2 a3 a4 a5 a6 a7
  | x :: l, a1, a2, a3, a4, a5, a6, a7 => B x (itr7 B fin l) a1 a2 a3 a4 a5 a6 a7
theorem it7_i {B : β → (α1 → α2 → α3 → α4 → α5 → α6 → α7 → Option ρ) → α1 → α2 → α3 → α4 → α5 → α6 → α7 → Option ρ} {fin : α1 → α2 → α3 → α4 → α5 → α6 → α7 → Option ρ} {l : List β} {a1 : α1} {a2 : α2} {a3 : α3} {a4 : α4} {a5 : α5} {a6 : α6} {a7 : α7} {r : ρ} (h : itr7 B fin l a1 a2 a3 a4 a5 a6 a7 = some r) : ∃ ib, ib = B ∧ ∃ fi, fi = fin ∧ itr7 ib fi (l.drop 0) a1 a2 a3 a4 a5 a6 a7 = some r := ⟨B, rfl, fin, rfl, h⟩
theorem it7_s [Inhabited β] {ib B : β → (α1 → α2 → α3 → α4 → α5 → α6 → α7 → Option ρ) → α1 → α2 → α3 → α4 → α5 → α6 → α7 → Option ρ} {fi : α1 → α2 → α3 → α4 → α5 → α6 → α7 → Option ρ} (e : ib = B) {l : List β} {k : Nat} (hk : k < l.length) {a1 : α1} {a2 : α2} {a3 : α3} {a4 : α4} {a5 : α5} {a6 : α6} {a7 : α7} {r : ρ} (h : itr7 ib fi (l.drop k) a1 a2 a3 a4 a5 a6 a7 = some r) : B (l.getD k default) (itr7 ib fi (l.drop (k + 1))) a1 a2 a3 a4 a5 a6 a7 = some r := by
  subst e
  rw [List.drop_eq_getElem_cons hk] at h
  rw [List.getD, List.getElem?_eq_getElem hk]; exact h
theorem it7_n {ib : β → (α1 → α2 → α3 → α4 → α5 → α6 → α7 → Option ρ) → α1 → α2 → α3 → α4 → α5 → α6 → α7 → Option ρ} {fi fin : α1 → α2 → α3 → α4 → α5 → α6 → α7 → Option ρ} (e : fi = fin) {l : List β} {k : Nat} (hk : k = l.length) {a1 : α1} {a2 : α2} {a3 : α3} {a4 : α4} {a5 : α5} {a6 : α6} {a7 : α7} {r : ρ} (h : itr7 ib fi (l.drop k) a1 a2 a3 a4 a5 a6 a7 = some r) : fin a1 a2 a3 a4 a5 a6 a7 = some r := by
  subst e; subst hk
  rw [List.drop_length] at h; exact h
end
section
variable {α1 α2 α3 α4 α5 α6 α7 α8 β ρ : Type}
def itr8 (B : β → (α1 → α2 → α3 → α4 → α5 → α6 → α7 → α8 → Option ρ) → α1 → α2 → α3 → α4 → α5 → α6 → α7 → α8 → Option ρ) (fin : α1 → α2 → α3 → α4 → α5 → α6 → α7 → α8 → Option ρ) : List β → α1 → α2 → α3 → α4 → α5 → α6 → α7 → α8 → Option ρ
  | [], a1, a2, a3, a4, a5, a6, a7, a8 => fin a1 a2 a3 a4 a5 a6 a7 a8
  | x :: l, a1, a2, a3, a4, a5, a6, a7, a8 => B x (itr8 B fin l) a1 a2 a3 a4 a5 a6 a7 a8
theorem it8_i {B : β → (α1 → α2 → α3 → α4 → α5 → α6 → α7 → α8 → Option ρ) → α1 → α2 → α3 → α4 → α5 → α6 → α7 → α8 → Option ρ} {fin : α1 → α2 → α3 → α4 → α5 → α6 → α7 → α8 → Option ρ} {l : List β} {a1 : α1} {a2 : α2} {a3 : α3} {a4 : α4} {a5 : α5} {a6 : α6} {a7 : α7} {a8 : α8} {r : ρ} (h : itr8 B fin l a1 a2 a3 a4 a5 a6 a7 a8 = some r) : ∃ ib, ib = B ∧ ∃ fi, fi = fin ∧ itr8 ib fi (l.drop 0) a1 a2 a3 a4 a5 a6 a7 a8 = some r := ⟨B, rfl, fin, rfl, h⟩
theorem it8_s [Inhabited β] {ib B : β → (α1 → α2 → α3 → α4 → α5 → α6 → α7 → α8 → Option ρ) → α1 → α2 → α3 → α4 → α5 → α6 → α7 → α8 → Option ρ} {fi : α1 → α2 → α3 → α4 → α5 → α6 → α7 → α8 → Option ρ} (e : ib = B) {l : List β} {k : Nat} (hk : k < l.length) {a1 : α1} {a2 : α2} {a3 : α3} {a4 : α4} {a5 : α5} {a6 : α6} {a7 : α7} {a8 : α8} {r : ρ} (h : itr8 ib fi (l.drop k) a1 a2 a3 a4 a5 a6 a7 a8 = some r) : B (l.getD k default) (itr8 ib fi (l.drop (k + 1))) a1 a2 a3 a4 a5 a6 a7 a8 = some r := by
  subst e
  rw [List.drop_eq_getElem_cons hk] at h
  rw [List.getD, List.getElem?_eq_getElem hk]; exact h
theorem it8_n {ib : β → (α1 → α2 → α3 → α4 → α5 → α6 → α7 → α8 → Option ρ) → α1 → α2 → α3 → α4 → α5 → α6 → α7 → α8 → Option ρ} {fi fin : α1 → α2 → α3 → α4 → α5 → α6 → α7 → α8 → Option ρ} (e : fi = fin) {l : List β} {k : Nat} (hk : k = l.length) {a1 : α1} {a2 : α2} {a3 : α3} {a4 : α4} {a5 : α5} {a6 : α6} {a7 : α7} {a8 : α8} {r : ρ} (h : itr8 ib fi (l.drop k) a1 a2 a3 a4 a5 a6 a7 a8 = some r) : fin a1 a2 a3 a4 a5 a6 a7 a8 = some r := by
  subst e; subst hk
  rw [List.drop_length] at h; exact h
end
section
variable {α1 α2 α3 α4 α5 α6 α7 α8 α9 β ρ : Type}
def itr9 (B : β → (α1 → α2 → α3 → α4 → α5 → α6 → α7 → α8 → α9 → Option ρ) → α1 → α2 → α3 → α4 → α5 → α6 → α7 → α8 → α9 → Option ρ) (fin : α1 → α2 → α3 → α4 → α5 → α6 → α7 → α8 → α9 → Option ρ) : List β → α1 → α2 → α3 → α4 → α5 → α6 → α7 → α8 → α9 → Option ρ
  | [], a1, a2, a3, a4, a5, a6, a7, a8, a9 => fin a1 a2 a3 a4 a5 a6 a7 a8 a9
  | x :: l, a1, a2, a3, a4, a5, a6, a7, a8, a9 => B x (itr9 B fin l) a1 a2 a3 a4 a5 a6 a7 a8 a9
theorem it9_i {B : β → (α1 → α2 → α3 → α4 → α5 → α6 → α7 → α8 → α9 → Option ρ) → α1 → α2 → α3 → α4 → α5 → α6 → α7 → α8 → α9 → Option ρ} {fin : α1 → α2 → α3 → α4 → α5 → α6 → α7 → α8 → α9 → Option ρ} {l : List β} {a1 : α1} {a2 : α2} {a3 : α3} {a4 : α4} {a5 : α5} {a6 : α6} {a7 : α7} {a8 : α8} {a9 : α9} {r : ρ} (h : itr9 B fin l a1 a2 a3 a4 a5 a6 a7 a8 a9 = some r) : ∃ ib, ib = B ∧ ∃ fi, fi = fin ∧ itr9 ib fi (l.drop 0) a1 a2 a3 a4 a5 a6 a7 a8 a9 = some r := ⟨B, rfl, fin, rfl, h⟩
theorem it9_s [Inhabited β] {ib B : β → (α1 → α2 → α3 → α4 → α5 → α6 → α7 → α8 → α9 → Option ρ) → α1 → α2 → α3 → α4 → α5 → α6 → α7 → α8 → α9 → Option ρ} {fi : α1 → α2 → α3 → α4 → α5 → α6 → α7 → α8 → α9 → Option ρ} (e : ib = B) {l : List β} {k : Nat} (hk : k < l.length) {a1 : α1} {a2 : α2} {a3 : α3} {a4 : α4} {a5 : α5} {a6 : α6} {a7 : α7} {a8 : α8} {a9 : α9} {r : ρ} (h : itr9 ib fi (l.drop k) a1 a2 a3 a4 a5 a6 a7 a8 a9 = some r) : B (l.getD k default) (itr9 ib fi (l.drop (k + 1))) a1 a2 a3 a4 a5 a6 a7 a8 a9 = some r := by
  subst e
  rw [List.drop_eq_getElem_cons hk] at h
  rw [List.getD, List.getElem?_eq_getElem hk]; exact h
theorem it9_n {ib : β → (α1 → α2 → α3 → α4 → α5 → α6 → α7 → α8 → α9 → Option ρ) → α1 → α2 → α3 → α4 → α5 → α6 → α7 → α8 → α9 → Option ρ} {fi fin : α1 → α2 → α3 → α4 → α5 → α6 → α7 → α8 → α9 → Option ρ} (e : fi = fin) {l : List β} {k : Nat} (hk : k = l.length) {a1 : α1} {a2 : α2} {a3 : α3} {a4 : α4} {a5 : α5} {a6 : α6} {a7 : α7} {a8 : α8} {a9 : α9} {r : ρ} (h : itr9 ib fi (l.drop k) a1 a2 a3 a4 a5 a6 a7 a8 a9 = some r) : fin a1 a2 a3 a4 a5 a6 a7 a8 a9 = some r := by
  subst e; subst hk
  rw [List.drop_length] at h; exact h
end
section
variable {α1 α2 α3 α4 α5 α6 α7 α8 α9 α10 β ρ : Type}
def itr10 (B : β → (α1 → α2 → α3 → α4 → α5 → α6 → α7 → α8 → α9 → α10 → Option ρ) → α1 → α2 → α3 → α4 → α5 → α6 → α7 → α8 → α9 → α10 → Option ρ) (fin : α1 → α2 → α3 → α4 → α5 → α6 → α7 → α8 → α9 → α10 → Option ρ) : List β → α1 → α2 → α3 → α4 → α5 → α6 → α7 → α8 → α9 → α10 → Option ρ
  | [], a1, a2, a3, a4, a5, a6, a7, a8, a9, a10 => fin a1 a2 a3 a4 a5 a6 a7 a8 a9 a10
  | x :: l, a1, a2, a3, a4, a5, a6, a7, a8, a9, a10 => B x (itr10 B fin l) a1 a2 a3 a4 a5 a6 a7 a8 a9 a10
theorem it10_i {B : β → (α1 → α2 → α3 → α4 → α5 → α6 → α7 → α8 → α9 → α10 → Option ρ) → α1 → α2 → α3 → α4 → α5 → α6 → α7 → α8 → α9 → α10 → Option ρ} {fin : α1 → α2 → α3 → α4 → α5 → α6 → α7 → α8 → α9 → α10 → Option ρ} {l : List β} {a1 : α1} {a2 : α2} {a3 : α3} {a4 : α4} {a5 : α5} {a6 : α6} {a7 : α7} {a8 : α8} {a9 : α9} {a10 : α10} {r : ρ} (h : itr10 B fin l a1 a2 a3 a4 a5 a6 a7 a8 a9 a10 = some r) : ∃ ib, ib = B ∧ ∃ fi, fi = fin ∧ itr10 ib fi (l.drop 0) a1 a2 a3 a4 a5 a6 a7 a8 a9 a10 = some r := ⟨B, rfl, fin, rfl, h⟩
theorem it10_s [Inhabited β] {ib B : β → (α1 → α2 → α3 → α4 → α5 → α6 → α7 → α8 → α9 → α10 → Option ρ) → α1 → α2 → α3 → α4 → α5 → α6 → α7 → α8 → α9 → α10 → Option ρ} {fi : α1 → α2 → α3 → α4 → α5 → α6 → α7 → α8 → α9 → α10 → Option ρ} (e : ib = B) {l : List β} {k : Nat} (hk : k < l.length) {a1 : α1} {a2 : α2} {a3 : α3} {a4 : α4} {a5 : α5} {a6 : α6} {a7 : α7} {a8 : α8} {a9 : α9} {a10 : α10} {r : ρ} (h : itr10 ib fi (l.drop k) a1 a2 a3 a4 a5 a6 a7 a8 a9 a10 = some r) : B (l.getD k default) (itr10 ib fi (l.drop (k + 1))) a1 a2 a3 a4 a5 a6 a7 a8 a9 a10 = some r := by
  subst e
  rw [List.drop_eq_getElem_cons hk] at h
  rw [List.getD, List.getElem?_eq_getElem hk]; exact h
theorem it10_n {ib : β → (α1 → α2 → α3 → α4 → α5 → α6 → α7 → α8 → α9 → α10 → Option ρ) → α1 → α2 → α3 → α4 → α5 → α6 → α7 → α8 → α9 → α10 → Option ρ} {fi fin : α1 → α2 → α3 → α4 → α5 → α6 → α7 → α8 → α9 → α10 → Option ρ} (e : fi = fin) {l : List β} {k : Nat} (hk : k = l.length) {a1 : α1} {a2 : α2} {a3 : α3} {a4 : α4} {a5 : α5} {a6 : α6} {a7 : α7} {a8 : α8} {a9 : α9} {a10 : α10} {r : ρ} (h : itr10 ib fi (l.drop k) a1 a2 a3 a4 a5 a6 a7 a8 a9 a10 = some r) : fin a1 a2 a3 a4 a5 a6 a7 a8 a9 a10 = some r := by
  subst e; subst hk
  rw [List.drop_length] at h; exact h
end
end Go.Bw
