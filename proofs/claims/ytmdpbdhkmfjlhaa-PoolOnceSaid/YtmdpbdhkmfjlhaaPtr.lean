/- Pointers: held against nil, handed out; rows that are cleared. No program is named. -/
import Derived.Test.YtmdpbdhkmfjlhaaSl4
import Derived.Test.YtmdpbdhkmfjlhaaMap2
import Derived.Test.YtmdpbdhkmfjlhaaNst
import Derived.Laws.Pointers
namespace Go.Bw
open Go Go.RowKit

def oc {α ρ : Type} (o : Option α) (z : Option ρ) (f : α → Option ρ) : Option ρ := match o with
  | none => z
  | some a => f a
theorem oc_n {α ρ : Type} {o : Option α} {z : Option ρ} {f : α → Option ρ} {r : ρ} (ho : o = none) (h : oc o z f = some r) : z = some r := by subst ho; exact h
theorem oc_s {α ρ : Type} {o : Option α} {z : Option ρ} {f : α → Option ρ} {a : α} {r : ρ} (ho : o = some a) (h : oc o z f = some r) : f a = some r := by subst ho; exact h
theorem oc_some {α ρ : Type} {o : Option α} {z : Option ρ} {f : α → Option ρ} {a : α} (ho : o = some a) : oc o z f = f a := by subst ho; rfl
theorem oc_none {α ρ : Type} {o : Option α} {z : Option ρ} {f : α → Option ρ} (ho : o = none) : oc o z f = z := by subst ho; rfl
theorem list_one {α : Type} {l : List α} (h : l.length = 1) : ∃ v, l = [v] := by
  match l, h with
  | [v], _ => exact ⟨v, rfl⟩

section rules
variable {P : Program} {N : Nat} {c : Cx} {D : List Deferred} {Q : Exit → Act → World → Prop} {F : Frm} {H : List Res} {d : Option Tmp} {ty : TypeId} {ps : String} {af : Array Edge} {g : Option (Nat × Bool)} {α β γ : Type}

def chkPt (P : Program) (t : Nat) : Bool := match P.underlying t with
  | some (.pointer e) => Nat.beq e (P.pointee t)
  | _ => false
theorem chkPt_get {t : Nat} (h : chkPt P t = true) : P.underlying t = some (.pointer (P.pointee t)) := by
  unfold chkPt at h
  split at h
  · rename_i e h1; rw [h1, Nat.eq_of_beq_eq_true h]
  · cases h
theorem VS_eqlP {x y : Operand} {T U b o : Nat} (ht : chkPt P T = true) (hx : ev F x = some (Ptr b o)) (hy : ev F y = some (.pointer none)) : VS P N c ⟨d, .binOp .eql T x y U, ty, ps, af, g⟩ F H (.bool false) :=
  VS_of_run (by simp) fun a w hf _ _ => by
    have := run_eql_pointer_nil (P := P) (w := w) T (some ⟨b, o, none⟩) (chkPt_get ht)
    simp [execOp, ev_ok hf hx, ev_ok hf hy, eqGuard, Ptr, this]
theorem VS_neqP {x y : Operand} {T U b o : Nat} (ht : chkPt P T = true) (hx : ev F x = some (Ptr b o)) (hy : ev F y = some (.pointer none)) : VS P N c ⟨d, .binOp .neq T x y U, ty, ps, af, g⟩ F H (.bool true) :=
  VS_of_run (by simp) fun a w hf _ _ => by
    have := run_neq_pointer_nil (P := P) (w := w) T (some ⟨b, o, none⟩) (chkPt_get ht)
    simp [execOp, ev_ok hf hx, ev_ok hf hy, eqGuard, Ptr, this]
theorem VS_eqlP0 {x y : Operand} {T U : Nat} (ht : chkPt P T = true) (hx : ev F x = some (.pointer none)) (hy : ev F y = some (.pointer none)) : VS P N c ⟨d, .binOp .eql T x y U, ty, ps, af, g⟩ F H (.bool true) :=
  VS_of_run (by simp) fun a w hf _ _ => by
    have := run_eql_pointer_nil (P := P) (w := w) T none (chkPt_get ht)
    simp [execOp, ev_ok hf hx, ev_ok hf hy, eqGuard, this]
theorem VS_neqP0 {x y : Operand} {T U : Nat} (ht : chkPt P T = true) (hx : ev F x = some (.pointer none)) (hy : ev F y = some (.pointer none)) : VS P N c ⟨d, .binOp .neq T x y U, ty, ps, af, g⟩ F H (.bool false) :=
  VS_of_run (by simp) fun a w hf _ _ => by
    have := run_neq_pointer_nil (P := P) (w := w) T none (chkPt_get ht)
    simp [execOp, ev_ok hf hx, ev_ok hf hy, eqGuard, this]

/-! clear -/
theorem zeroCells_one {z : Value} (hz : z.cells = #[z]) (n : Nat) : (Builtin.zeroCells z.cells n).toList = List.replicate n z := by
  rw [hz]
  simp [Builtin.zeroCells]
  apply List.ext_getElem
  · simp
  · intro i h1 h2
    simp [Nat.mod_one]
theorem RX_clear {x : Operand} {t e b off n cp T : Nat} {cs cs' : List Value} {z : Value} {H' : List Res} (ht : chkSl P t e 1 = true) (hz : TZv P e z) (hz1 : z.cells = #[z]) (h1 : z.oneCell' = true) (hx : ev F x = some (.slice (some ⟨b, off, none⟩) n cp)) (hn : 0 < n)
    [hr : HasC H b T cs] (ho : off + n ≤ cs.length) (hc : splice cs off (List.replicate n z) = cs') [hs : SetC H b cs' H'] :
    RX (α := Unit) P N c ⟨d, .call ⟨.builtin .clear, #[x], #[t]⟩, ty, ps, af, g⟩ F H (fun _ => True) (fun _ => .tuple #[]) (fun _ => H') := fun D a w next Q hst hk => by
  obtain ⟨inf, e1, e2, e3⟩ := TSl.get ht
  have hb : w.heap[b]? = some (.cells cs.toArray T (0, 0)) := hst.hp.holds _ hr.mem
  have hone : OneC (List.replicate n z) := fun v hv => by rw [List.eq_of_mem_replicate hv]; exact h1
  have hsc := run_storeCells_at P b off T (List.replicate n z) 0 cs.toArray w hb (by simp; omega) hone
  simp only [Nat.add_zero] at hsc
  have hsin : Since [b] w (w.setRow b cs'.toArray) := ⟨rfl, rfl, rfl, by simp, fun k _ hk => setRow_other w b k _ (by simpa using hk)⟩
  refine opIn_value (by simp) (v := .tuple #[]) (w' := w.setRow b cs'.toArray) ?_ (hk () _ trivial (hst.si.store hst.hp hr.mem (by simp [Res.blk]) hsin) (hst.hp.setC hs hsin hst.si.size ?_))
  · have hx2 := ev_ok hst.fr hx
    obtain ⟨m, rfl⟩ : ∃ m, n = m + 1 := ⟨n - 1, by omega⟩
    have hzr := run_zv hz w
    have hzc := zeroCells_one hz1 (m + 1)
    have e5 : (cs.toArray.toList.take off ++ List.replicate (m + 1) z ++ cs.toArray.toList.drop (off + (List.replicate (m + 1) z).length)).toArray = cs'.toArray := by rw [← hc]; rfl
    rw [e5] at hsc
    simp [execOp, resolve, invoke, builtin, hx2, Builtin.clear_, run_underlying e1, hzr, hzc, hsc]
  · intro T' cs'' hT
    have := setRow_heap w b cs''.toArray cs'.toArray T' (0, 0) hT
    simpa [Res.holds] using this
theorem replicate_flat {z : Value} : ∀ n : Nat, flat (fun _ => [z]) n = List.replicate n z
  | 0 => rfl
  | n + 1 => by
    have := replicate_flat (z := z) n
    rw [List.replicate_succ', ← this]; rfl
theorem RX_clearN {L : Lay α} {M : Lay β} [FlatL M] {x : Operand} {t e b off n cp T : Nat} {cs cs' : List Value} {A : World → Prop} {y : α} {z0 : β} {z : Value} {gg : α → Nat → β} {s : α → (Nat → β) → α} {H' : List Res} (p : Pth L (LA M n) off gg s) (hM : M.n = 1) (he : M.enc z0 = [z]) (hz1 : z.cells = #[z]) (h1 : z.oneCell' = true) (r : L.rep A cs y)
    (ht : chkSl P t e 1 = true) (hz : TZv P e z) (hx : ev F x = some (.slice (some ⟨b, off, none⟩) n cp)) (hn : 0 < n) [hr : HasC H b T cs] (hc : splice cs off ((LA M n).enc (fun _ => z0)) = cs') [hs : SetC H b cs' H'] :
    RX (α := Unit) P N c ⟨d, .call ⟨.builtin .clear, #[x], #[t]⟩, ty, ps, af, g⟩ F H (fun _ => True) (fun _ => .tuple #[]) (fun _ => H') := by
  refine RX_clear (cs' := cs') ht hz hz1 h1 hx hn ?_ ?_
  · rw [L.len r]; have := p.le; rw [show (LA M n).n = n * M.n from rfl, hM, Nat.mul_one] at this; exact this
  · rw [← hc, ← replicate_flat]
    have : (LA M n).enc (fun _ => z0) = flat (fun _ => [z]) n := by show flat (fun _ => M.enc z0) n = _; rw [he]
    rw [this]

/-! what hands out a pointer, or nil -/
abbrev PtrX := Option (Nat × List Value × List Nat × (World → Prop))
def ptrV : PtrX → Value
  | none => .pointer none
  | some y => Ptr y.1 0
def ptrH (T : Nat) : PtrX → List Res
  | none => []
  | some y => [.cells y.1 T y.2.1, .ext y.2.2.1 y.2.2.2]
def ptrP (L : Lay α) (o : Option α) : PtrX → Prop
  | none => o = none
  | some y => ∃ p, o = some p ∧ L.rep (Hs [.ext y.2.2.1 y.2.2.2]) y.2.1 p
theorem Fn.map {P : Program} {f : Nat} {args : List Value} {pre : World → Prop} {Hin : List Res} {p : α → Prop} {fv : α → Value} {fH : α → List Res} {q : β → Prop} {gv : β → Value} {gH : β → List Res}
    (h : Fn P f args pre Hin p fv fH) (m : ∀ x, p x → ∃ y, q y ∧ fv x = gv y ∧ fH x = gH y) : Fn P f args pre Hin q gv gH := by
  refine ⟨h.enter, fun w hw hp cs => ?_⟩
  obtain ⟨e, w', fr, ⟨x, px, he, hs, hh⟩, more⟩ := h.calls w hw hp cs
  obtain ⟨y, qy, e1, e2⟩ := m x px
  exact ⟨e, w', fr, ⟨y, qy, he.trans (by rw [e1]), hs, by rw [← e2]; exact hh⟩, more⟩
theorem FnP.nil {P : Program} {f : Nat} {args : List Value} {pre : World → Prop} {L : Lay α} {o : Option α} {T : Nat} {g : Value → Value} (h : Fn P f args pre [] (ptrP L o) (fun x => g (ptrV x)) (ptrH T)) (ho : o = none) :
    Fn (α := Unit) P f args pre [] (fun _ => True) (fun _ => g (.pointer none)) (fun _ => []) :=
  h.map fun x hx => by
    match x, hx with
    | Option.none, _ => exact ⟨(), trivial, rfl, rfl⟩
    | Option.some y, ⟨p, hp, _⟩ => rw [ho] at hp; cases hp
theorem FnP.some {P : Program} {f : Nat} {args : List Value} {pre : World → Prop} {L : Lay α} {o : Option α} {a : α} {T : Nat} {g : Value → Value} (h : Fn P f args pre [] (ptrP L o) (fun x => g (ptrV x)) (ptrH T)) (ho : o = Option.some a) :
    Fn (α := Nat × List Value × List Nat × (World → Prop)) P f args pre [] (fun y => L.rep (Hs [.ext y.2.2.1 y.2.2.2]) y.2.1 a) (fun y => g (Ptr y.1 0)) (fun y => [.cells y.1 T y.2.1, .ext y.2.2.1 y.2.2.2]) :=
  h.map fun x hx => by
    match x, hx with
    | Option.none, hx => have : o = none := hx; rw [ho] at this; cases this
    | Option.some y, ⟨p, hp, hr⟩ => rw [ho] at hp; cases hp; exact ⟨y, hr, rfl, rfl⟩

/-! guarded calls that hand out what is not flat -/
theorem WL_callBa {ops : Array Oper} {rest : List Oper} {args : List Operand} {ats : Array TypeId} {f : Nat} {vs : List Value} {K : World → Prop} {p : (World → Prop) → Value → Prop} {dd : Tmp} {gg : Option (Nat × Bool)} {b : Bool} [Inhabited γ] (fv : γ → Value) (q : (World → Prop) → γ → Prop)
    (hg : Gd ops F gg b) (hd : Nat.blt dd N = true) (hc : b = true → FnB P f vs K p) (hm : ∀ A v, p A v → ∃ y, v = fv y ∧ q A y) (ha : b = true → evs F args = some vs) (k : b = true → Kn c H K)
    (h : ∀ x : γ × List Nat × (World → Prop), (b = true → q (Hs [.ext x.2.1 x.2.2]) x.1) → WL P N c D ops Q rest ((dd, bif b then fv x.1 else undef) :: F) (.ext x.2.1 x.2.2 :: H)) :
    WL P N c D ops Q (⟨some dd, .call ⟨.value (.func f), args.toArray, ats⟩, ty, ps, af, gg⟩ :: rest) F H := by
  cases b with
  | false => exact WL_skip hg hd (WL_res (fun _ _ _ hp => hp_ext0 hp) (h (default, [], Hs []) nofun))
  | true =>
    intro a w hst
    simp only [wpListIn, hg ⟨some dd, .call ⟨.value (.func f), args.toArray, ats⟩, ty, ps, af, gg⟩ a rfl hst.fr, if_true]
    haveI := k rfl
    exact RX_callB (hc rfl) (ha rfl) D a w _ Q hst fun x w' hp hs hh => by
      obtain ⟨y, e, hq⟩ := hm _ _ hp
      have := h (y, x.2.1, x.2.2) (fun _ => hq) _ _ (hst.put (d := some dd) hd hs hh)
      dsimp only; rw [e]; exact this
theorem RG_callBa {ops : Array Oper} {args : List Operand} {ats : Array TypeId} {f : Nat} {vs : List Value} {K : World → Prop} {p : (World → Prop) → Value → Prop} {gg : Option (Nat × Bool)} {b : Bool} [Inhabited γ] (fv : γ → Value) (q : (World → Prop) → γ → Prop)
    (hg : Gd ops F gg b) (hc : b = true → FnB P f vs K p) (hm : ∀ A v, p A v → ∃ y, v = fv y ∧ q A y) (ha : b = true → evs F args = some vs) (k : b = true → Kn c H K) :
    RG (α := γ × List Nat × (World → Prop)) P N c ops ⟨d, .call ⟨.value (.func f), args.toArray, ats⟩, ty, ps, af, gg⟩ F H (fun x => b = true → q (Hs [.ext x.2.1 x.2.2]) x.1) (fun x => bif b then fv x.1 else undef) (fun x => .ext x.2.1 x.2.2 :: H) := fun D a w next Q hst hk => by
  rw [hg ⟨d, .call ⟨.value (.func f), args.toArray, ats⟩, ty, ps, af, gg⟩ a rfl hst.fr]
  cases b with
  | false => exact hk (default, [], Hs []) w nofun hst.si (hp_ext0 hst.hp)
  | true =>
    haveI := k rfl
    exact RX_callB (hc rfl) (ha rfl) D a w next Q hst fun x w' hp hs hh => by
      obtain ⟨y, e, hq⟩ := hm _ _ hp
      have := hk (y, x.2.1, x.2.2) w' (fun _ => hq) hs hh
      dsimp only; rw [e]; exact this
theorem WL_callCg {ops : Array Oper} {rest : List Oper} {x : Operand} {args : List Operand} {ats : Array TypeId} {f : Nat} {fst cap : Array Value} {us vs : List Value} {K : World → Prop} {Hin rst : List Res} {p : (World → Prop) → Value → List Res → Prop} {ks : List Nat} {dd : Tmp} {gg : Option (Nat × Bool)} {b : Bool} [Inhabited γ] (fv : γ → Value) (q : (World → Prop) → γ → Prop)
    (hg : Gd ops F gg b) (hd : Nat.blt dd N = true) (hc : b = true → FnC P f vs K Hin p) (hm : ∀ A v ho, p A v ho → ho = Hin ∧ ∃ y, v = fv y ∧ q A y) (hx : b = true → ev F x = some (.func (.func f) fst cap)) (ha : b = true → evs F args = some us)
    (hv : fst.toList ++ us ++ cap.toList = vs) (hkp : pick H ks = some (Hin ++ rst)) (hn : ks.Nodup) (hK : b = true → KnF c rst K)
    (h : ∀ x : γ × List Nat × (World → Prop), (b = true → q (Hs [.ext x.2.1 x.2.2]) x.1) → WL P N c D ops Q rest ((dd, bif b then fv x.1 else undef) :: F) (.ext x.2.1 x.2.2 :: (Hin ++ rst))) :
    WL P N c D ops Q (⟨some dd, .call ⟨.value x, args.toArray, ats⟩, ty, ps, af, gg⟩ :: rest) F H := by
  cases b with
  | false => exact WL_skip hg hd (WL_res (fun _ _ _ hp => hp_ext0 (hp.pick hkp hn)) (h (default, [], Hs []) nofun))
  | true =>
    intro a w hst
    simp only [wpListIn, hg ⟨some dd, .call ⟨.value x, args.toArray, ats⟩, ty, ps, af, gg⟩ a rfl hst.fr, if_true]
    haveI := hK rfl
    exact RX_callH (hc rfl) (hx rfl) (ha rfl) hv hkp hn D a w _ Q hst fun i w' hp hs hh => by
      obtain ⟨e0, y, e, hq⟩ := hm _ _ _ hp
      dsimp only at hh; rw [e0] at hh
      have := h (y, i.2.2.1, i.2.2.2) (fun _ => hq) _ _ (hst.put (d := some dd) hd hs hh)
      dsimp only; rw [e]; exact this
theorem RG_callCg {ops : Array Oper} {x : Operand} {args : List Operand} {ats : Array TypeId} {f : Nat} {fst cap : Array Value} {us vs : List Value} {K : World → Prop} {Hin rst : List Res} {p : (World → Prop) → Value → List Res → Prop} {ks : List Nat} {gg : Option (Nat × Bool)} {b : Bool} [Inhabited γ] (fv : γ → Value) (q : (World → Prop) → γ → Prop)
    (hg : Gd ops F gg b) (hc : b = true → FnC P f vs K Hin p) (hm : ∀ A v ho, p A v ho → ho = Hin ∧ ∃ y, v = fv y ∧ q A y) (hx : b = true → ev F x = some (.func (.func f) fst cap)) (ha : b = true → evs F args = some us)
    (hv : fst.toList ++ us ++ cap.toList = vs) (hkp : pick H ks = some (Hin ++ rst)) (hn : ks.Nodup) (hK : b = true → KnF c rst K) :
    RG (α := γ × List Nat × (World → Prop)) P N c ops ⟨d, .call ⟨.value x, args.toArray, ats⟩, ty, ps, af, gg⟩ F H (fun x => b = true → q (Hs [.ext x.2.1 x.2.2]) x.1) (fun x => bif b then fv x.1 else undef) (fun x => .ext x.2.1 x.2.2 :: (Hin ++ rst)) := fun D a w next Q hst hk => by
  rw [hg ⟨d, .call ⟨.value x, args.toArray, ats⟩, ty, ps, af, gg⟩ a rfl hst.fr]
  cases b with
  | false => exact hk (default, [], Hs []) w nofun hst.si (hp_ext0 (hst.hp.pick hkp hn))
  | true =>
    haveI := hK rfl
    exact RX_callH (hc rfl) (hx rfl) (ha rfl) hv hkp hn D a w next Q hst fun i w' hp hs hh => by
      obtain ⟨e0, y, e, hq⟩ := hm _ _ _ hp
      dsimp only at hh; rw [e0] at hh
      have := hk (y, i.2.2.1, i.2.2.2) w' (fun _ => hq) hs hh
      dsimp only; rw [e]; exact this

/-! guarded calls that turn what they are handed -/
theorem RG_callX {ops : Array Oper} {x : Operand} {args : List Operand} {ats : Array TypeId} {f : Nat} {fst cap : Array Value} {us vs : List Value} {K : World → Prop} {Hin rst : List Res} {p : α → Prop} {fv : α → Value} {fH : α → List Res} {ks : List Nat} {gg : Option (Nat × Bool)} {b : Bool} (q : β → Prop) (gv : Value) (gH : β → List Res)
    (hg : Gd ops F gg b) (hc : b = true → Fn P f vs (Fut (blks Hin) K) Hin p fv fH) (m1 : b = true → ∀ x, p x → ∃ y, q y ∧ fv x = gv ∧ fH x = gH y) (m0 : b = false → ∃ y, q y ∧ gH y = .ext [] (Hs []) :: Hin)
    (hx : b = true → ev F x = some (.func (.func f) fst cap)) (ha : b = true → evs F args = some us)
    (hv : fst.toList ++ us ++ cap.toList = vs) (hkp : pick H ks = some (Hin ++ rst)) (hn : ks.Nodup) (hK : b = true → KnF c rst K) :
    RG (α := β) P N c ops ⟨d, .call ⟨.value x, args.toArray, ats⟩, ty, ps, af, gg⟩ F H q (fun _ => bif b then gv else undef) (fun y => gH y ++ rst) := fun D a w next Q hst hk => by
  rw [hg ⟨d, .call ⟨.value x, args.toArray, ats⟩, ty, ps, af, gg⟩ a rfl hst.fr]
  cases b with
  | false =>
    obtain ⟨y, hq, e⟩ := m0 rfl
    exact hk y w hq hst.si (by dsimp only; rw [e]; exact hp_ext0 (hst.hp.pick hkp hn))
  | true =>
    haveI := hK rfl
    exact RX_callH (hc rfl) (hx rfl) (ha rfl) hv hkp hn D a w next Q hst fun i w' hp hs hh => by
      obtain ⟨y, hq, e1, e2⟩ := m1 rfl i hp
      have := hk y w' hq hs (by dsimp only; rw [← e2]; exact hh)
      rw [e1]; exact this
theorem WL_callX {ops : Array Oper} {rest : List Oper} {x : Operand} {args : List Operand} {ats : Array TypeId} {f : Nat} {fst cap : Array Value} {us vs : List Value} {K : World → Prop} {Hin rst : List Res} {p : α → Prop} {fv : α → Value} {fH : α → List Res} {ks : List Nat} {dd : Tmp} {gg : Option (Nat × Bool)} {b : Bool} (q : β → Prop) (gv : Value) (gH : β → List Res)
    (hg : Gd ops F gg b) (hd : Nat.blt dd N = true) (hc : b = true → Fn P f vs (Fut (blks Hin) K) Hin p fv fH) (m1 : b = true → ∀ x, p x → ∃ y, q y ∧ fv x = gv ∧ fH x = gH y) (m0 : b = false → ∃ y, q y ∧ gH y = .ext [] (Hs []) :: Hin)
    (hx : b = true → ev F x = some (.func (.func f) fst cap)) (ha : b = true → evs F args = some us)
    (hv : fst.toList ++ us ++ cap.toList = vs) (hkp : pick H ks = some (Hin ++ rst)) (hn : ks.Nodup) (hK : b = true → KnF c rst K)
    (h : ∀ y, q y → WL P N c D ops Q rest ((dd, bif b then gv else undef) :: F) (gH y ++ rst)) :
    WL P N c D ops Q (⟨some dd, .call ⟨.value x, args.toArray, ats⟩, ty, ps, af, gg⟩ :: rest) F H := by
  cases b with
  | false =>
    obtain ⟨y, hq, e⟩ := m0 rfl
    exact WL_skip hg hd (WL_res (fun _ _ _ hp => hp_ext0 (hp.pick hkp hn)) (by have := h y hq; rw [e] at this; exact this))
  | true =>
    intro a w hst
    simp only [wpListIn, hg ⟨some dd, .call ⟨.value x, args.toArray, ats⟩, ty, ps, af, gg⟩ a rfl hst.fr, if_true]
    haveI := hK rfl
    exact RX_callH (hc rfl) (hx rfl) (ha rfl) hv hkp hn D a w _ Q hst fun i w' hp hs hh => by
      obtain ⟨y, hq, e1, e2⟩ := m1 rfl i hp
      have := h y hq _ _ (hst.put (d := some dd) hd hs (by rw [← e2]; exact hh))
      dsimp only; rw [e1]; exact this

/-! great structs, built -/
theorem enc_via (L : Lay β) [FlatL L] (f : α → β) (x : α) : (Lay.via L f).enc x = L.enc (f x) := rfl
theorem enc_LP (L : Lay α) (M : Lay β) [FlatL L] [FlatL M] (x : α × β) : (LP L M).enc x = L.enc x.1 ++ M.enc x.2 := rfl
theorem enc_LA (L : Lay α) [FlatL L] (n : Nat) (f : Nat → α) : (LA L n).enc f = flat (fun i => L.enc (f i)) n := rfl
theorem app3 {a a' b b' : List Value} (h : a = a') (k : b = b') : a ++ b = a' ++ b' := by rw [h, k]
theorem repl_flat (v : List Value) : ∀ n : Nat, (List.replicate n v).flatten = flat (fun _ => v) n
  | 0 => rfl
  | n + 1 => by
    have := repl_flat v n
    rw [List.replicate_succ', List.flatten_append, this]; simp [flat]
theorem fillL_step {L : Lay α} {M : Lay β} [FlatL L] [FlatL M] {off i sz : Nat} {gg : α → β} {s : α → β → α} {pl : List (Nat × Nat)} {val : Value} {r : List (Nat × Value)} {cs : List Value} (p : Pth L M off gg s) (x : α) (v : β) (hv : val.cells.toList = M.enc v) (hpl : pl[i]? = some (off, sz)) (hs : M.n = sz)
    (h : fillL pl (L.enc (s x v)) r = some cs) : fillL pl (L.enc x) ((i, val) :: r) = some cs := by
  have hsz : val.cells.size = sz := by rw [← Array.length_toList, hv, enc_len, hs]
  have hle : ¬ off + val.cells.size > (L.enc x).length := by rw [enc_len, hsz, ← hs]; have := p.le; omega
  rw [fillL, hpl]
  simp only [hsz] at hle
  simp only [hsz, ne_eq, not_true_eq_false, decide_false, hle, Bool.or_self, Bool.false_eq_true, if_false, hv]
  rw [p.put x v]; exact h
theorem VS_buildF {t : Nat} {parts : List (Nat × Operand)} {vs : List Value} {L : Lay α} {z e : α} {pl : List (Nat × Nat)} [FlatL L] {zs : List Value} [hz : TZero P t zs] (hzs : zs = L.enc z) [hpl : TPl P t pl] (hv : evs F (parts.map (·.2)) = some vs) (hc : fillL pl (L.enc z) ((parts.map (·.1)).zip vs) = some (L.enc e)) :
    VS P N c ⟨d, .build t parts.toArray, ty, ps, af, g⟩ F H (.agg (L.enc e).toArray) := VS_build hv (by rw [hzs]; exact hc)
end rules
end Go.Bw
