/- Rows that a literal lays, stores into rows, slices held against nil, guarded calls that are handed what they own. No program is named. -/
import Derived.Test.YtmdpbdhkmfjlhaaRange2
import Derived.Laws.Cover3
import Derived.LoopNIn
import Derived.Great.BuildSlice
namespace Go.Bw
open Go Go.RowKit

section rules
variable {P : Program} {N : Nat} {c : Cx} {D : List Deferred} {Q : Exit → Act → World → Prop} {F : Frm} {H : List Res} {d : Option Tmp} {ty : TypeId} {ps : String} {af : Array Edge} {g : Option (Nat × Bool)} {α β γ : Type}

/-! an empty literal -/
theorem RX_bs0 {t e sz : Nat} [ht : TSl P t e sz] (L : Lay α) [FlatL L] :
    RX P N c ⟨d, .buildSlice t 0 #[], ty, ps, af, g⟩ F H (fun _ => True) (fun b => .slice (some ⟨b, 0, none⟩) 0 0) (fun b => Row (.slice (some ⟨b, 0, none⟩) 0 0) e sz L [] :: H) := fun D a w next Q hst hk => by
  obtain ⟨i, h1, h2, h3⟩ := TSl.get ht.ok
  have hs := Since.alloc w (.cells (#[] : Array Value) e)
  refine opIn_value (by simp) (w' := w.alloc (.cells #[] e)) ?_ (hk w.heap.size _ trivial (hst.si.ext hs) (hst.hp.fresh hs ?_ hst.si.size ?_))
  · simp only [execOp, Instr.buildSlice, Sem.run_bind, run_underlying h1, Result.andThen_ok, sizeOf, typeInfo]
    simp [h2, Instr.fill, newRow, newObj, Sem.run]
    congr 2
    exact Array.eq_empty_of_size_eq_zero (by simp)
  · refine ⟨by simp [rowC], .inr ⟨w.heap.size, 0, #[], rfl, Nat.zero_le _, heap_alloc_new w _, Nat.le_refl _, Nat.zero_le _, by simp, by simp [rowC]⟩⟩
  · intro b hb
    have : b = w.heap.size := by simpa [Row, Res.blk, Value.ownBlock] using hb
    subst this
    exact ⟨Nat.le_refl _, (Array.getElem?_eq_some_iff.1 (heap_alloc_new w (.cells (#[] : Array Value) e))).1⟩

/-! a store into a row -/
theorem RX_stR {L : Lay α} [FlatL L] [Inhabited α] {M : Lay β} [FlatL M] {v : Value} {xs : List α} {e sz off t q : Nat} {x y : Operand} {val : Value} {gg : (Nat → α) → β} {s : (Nat → α) → β → (Nat → α)} {f : Res → List Res} {z : α}
    (m : Nat) (p : Pth (LA L xs.length) M off gg s) (u : β) (ys : List α) (hy : ys = xs.set m z) (hx : ev F x = some (rowPtr v off)) (hz : ev F y = some val) (hv : val.cells.toList = M.enc u) (hs : s (fun i => xs.getD i default) u = upd (fun i => xs.getD i default) m z)
    (hm : m < xs.length) (hn : M.n = q) [hr : SetRF H v e sz xs.length (rowC L xs) f] (hsz : L.n = sz) [ht : TSz P t q] :
    RX (α := Unit) P N c ⟨d, .store t x y, ty, ps, af, g⟩ F H (fun _ => True) (fun _ => undef) (fun _ => f (Row v e sz L ys)) := fun D a w next Q hst hk => by
  subst hn hsz
  obtain ⟨k, k1, k2⟩ := hr.ok
  have hmm : Res.row v e L.n xs.length (rowC L xs) ∈ H := List.mem_of_getElem? k1
  have hown : w.ownsRow 0 e L.n v xs.length (rowC L xs) := hst.hp.holds _ hmm
  obtain ⟨hlen, hcase⟩ := hown
  rcases hcase with ⟨_, h0⟩ | ⟨gb, cap, cur, rfl, _, hgb, hnc, hcm, hcs, htake⟩
  · omega
  have hle : off + M.n ≤ xs.length * L.n := p.le
  have hmul : xs.length * L.n ≤ cap * L.n := Nat.mul_le_mul_right _ hnc
  obtain ⟨cs, rfl⟩ : ∃ cs : List Value, cur = cs.toArray := ⟨cur.toList, by simp⟩
  have hcl : cs.length = cap * L.n := by simpa using hcs
  have htk : cs.take (xs.length * L.n) = rowC L xs := by simpa using htake
  have hul : (M.enc u).length = M.n := enc_len M u
  obtain ⟨w', e1, e2, e3⟩ := run_storeVar_at (P := P) (t := t) (b := gb) (T := e) (off := off) (cs := cs) (w := w) hgb hv hul (by omega) (enc_one M u)
  have hlen2 : ys.length = xs.length := by rw [hy, List.length_set]
  have hnew : (splice cs off (M.enc u)).take (xs.length * L.n) = rowC L ys := by
    have h1 : splice (rowC L xs) off (M.enc u) = rowC L ys := by
      rw [rowC_flat L xs, hy, ← rowC_set L xs m z hm, ← hs]
      exact p.put _ _
    rw [← h1, ← htk]
    unfold splice
    rw [hul]
    have t1 : (cs.take (xs.length * L.n)).take off = cs.take off := by rw [List.take_take, Nat.min_eq_left (by omega)]
    have t2 : (cs.take (xs.length * L.n)).drop (off + M.n) = (cs.drop (off + M.n)).take (xs.length * L.n - (off + M.n)) := by rw [List.drop_take]
    have t3 : (cs.take off ++ M.enc u).length = off + M.n := by rw [List.length_append, List.length_take, hul, Nat.min_eq_left (by omega)]
    rw [t1, t2, List.take_append, List.take_of_length_le (by omega), t3]
  refine opIn_skip (by simp) (w' := w') ?_ (hk () w' trivial (hst.si.store hst.hp hmm (by simp [Res.blk, Value.ownBlock]) e3) ?_)
  · simp [execOp, ev_ok hst.fr hx, ev_ok hst.fr hz, rowPtr, Instr.storeAt, Instr.sureAddr, e1]
  · show HpOk c.bs c.w0.heap.size (f (Row _ e L.n L ys)) w'
    rw [Row, k2]
    refine hst.hp.set k1 e3.size (fun j hj hn => e3.block j hj (by simpa [Res.blk, Value.ownBlock] using hn)) ?_ hst.si.size (fun b' hb' => ?_)
    · refine ⟨by rw [rowC_len], .inr ⟨gb, cap, _, by rw [hlen2], Nat.zero_le _, e2, by omega, hcm, ?_, ?_⟩⟩
      · simp only [List.size_toArray, splice, List.length_append, List.length_take, List.length_drop, hul]; omega
      · rw [hlen2]; simpa using hnew
    · have h5 : b' = gb := by simpa [Res.blk, Value.ownBlock] using hb'
      subst h5
      exact ⟨.inl (by simp [Res.blk, Value.ownBlock]), Nat.lt_of_lt_of_le (Array.getElem?_eq_some_iff.1 hgb).1 e3.size⟩

/-! a slice held against nil -/
def isNilV : Value → Bool
  | .slice none _ _ => true
  | _ => false
theorem VS_eqnil {x : Operand} {y : Operand} {v : Value} {T e U sz : Nat} [ht : TSl P T e sz] (hv : SlV v) (hx : ev F x = some v) (hy : ev F y = some (.slice none 0 0)) : VS P N c ⟨d, .binOp .eql T x y U, ty, ps, af, g⟩ F H (.bool (isNilV v)) :=
  VS_of_run (by simp) fun a w hf _ _ => by
    obtain ⟨i, h1, h2, h3⟩ := TSl.get ht.ok
    obtain ⟨a0, l, cp, rfl⟩ := hv
    have := run_equal_slice_nil (P := P) w T e a0 l cp h1
    cases a0 <;> simp [execOp, ev_ok hf hx, ev_ok hf hy, eqGuard, binOp, this, isNilV]
theorem VS_neqnil {x : Operand} {y : Operand} {v : Value} {T e U sz : Nat} [ht : TSl P T e sz] (hv : SlV v) (hx : ev F x = some v) (hy : ev F y = some (.slice none 0 0)) : VS P N c ⟨d, .binOp .neq T x y U, ty, ps, af, g⟩ F H (.bool (!isNilV v)) :=
  VS_of_run (by simp) fun a w hf _ _ => by
    obtain ⟨i, h1, h2, h3⟩ := TSl.get ht.ok
    obtain ⟨a0, l, cp, rfl⟩ := hv
    have := run_neq_slice_nil (P := P) w T e a0 l cp h1
    cases a0 <;> simp [execOp, ev_ok hf hx, ev_ok hf hy, eqGuard, this, isNilV]

theorem WP_fz {x : Code} {A : World → Prop} {v : Value} {L : Lay α} [FlatL L] {xs : List α} (hf : Fz A v L xs) [k : Kn c H A] (h : (isNilV v = true → xs = []) → WP P N c D x Q F H) : WP P N c D x Q F H := fun a w hst => by
  refine h (fun hv => ?_) a w hst
  rcases (hf.ro w (k.ok w hst.si hst.hp)).2 with ⟨_, h0⟩ | ⟨gb, off, cap, rfl, _⟩
  · exact List.length_eq_zero_iff.1 h0
  · cases hv
/-! guarded calls that are handed what they own -/
theorem RG_callHg {ops : Array Oper} {x : Operand} {args : List Operand} {ats : Array TypeId} {f : Nat} {fst cap : Array Value} {us vs : List Value} {K : World → Prop} {Hin rst : List Res} {val : Value} {ks : List Nat} {gg : Option (Nat × Bool)} {b : Bool}
    (hg : Gd ops F gg b) (hc : b = true → Fn (α := Unit) P f vs (Fut (blks Hin) K) Hin (fun _ => True) (fun _ => val) (fun _ => Hin)) (hx : b = true → ev F x = some (.func (.func f) fst cap)) (ha : b = true → evs F args = some us)
    (hv : fst.toList ++ us ++ cap.toList = vs) (hkp : pick H ks = some (Hin ++ rst)) (hn : ks.Nodup) (hK : b = true → KnF c rst K) :
    RG (α := Unit) P N c ops ⟨d, .call ⟨.value x, args.toArray, ats⟩, ty, ps, af, gg⟩ F H (fun _ => True) (fun _ => bif b then val else undef) (fun _ => Hin ++ rst) := fun D a w next Q hst hk => by
  rw [hg ⟨d, .call ⟨.value x, args.toArray, ats⟩, ty, ps, af, gg⟩ a rfl hst.fr]
  cases b with
  | false => exact hk () w trivial hst.si (hst.hp.pick hkp hn)
  | true =>
    haveI := hK rfl
    exact RX_callH (hc rfl) (hx rfl) (ha rfl) hv hkp hn D a w next Q hst fun i w' hp hs hh => hk i w' hp hs hh
theorem WL_callHg {ops : Array Oper} {rest : List Oper} {x : Operand} {args : List Operand} {ats : Array TypeId} {f : Nat} {fst cap : Array Value} {us vs : List Value} {K : World → Prop} {Hin rst : List Res} {val : Value} {ks : List Nat} {gg : Option (Nat × Bool)} {b : Bool} {dd : Tmp}
    (hg : Gd ops F gg b) (hd : Nat.blt dd N = true) (hc : b = true → Fn (α := Unit) P f vs (Fut (blks Hin) K) Hin (fun _ => True) (fun _ => val) (fun _ => Hin)) (hx : b = true → ev F x = some (.func (.func f) fst cap)) (ha : b = true → evs F args = some us)
    (hv : fst.toList ++ us ++ cap.toList = vs) (hkp : pick H ks = some (Hin ++ rst)) (hn : ks.Nodup) (hK : b = true → KnF c rst K)
    (h : WL P N c D ops Q rest ((dd, bif b then val else undef) :: F) (Hin ++ rst)) :
    WL P N c D ops Q (⟨some dd, .call ⟨.value x, args.toArray, ats⟩, ty, ps, af, gg⟩ :: rest) F H := by
  cases b with
  | false => exact WL_skip hg hd (WL_res (fun _ _ _ hp => hp.pick hkp hn) h)
  | true =>
    intro a w hst
    simp only [wpListIn, hg ⟨some dd, .call ⟨.value x, args.toArray, ats⟩, ty, ps, af, gg⟩ a rfl hst.fr, if_true]
    haveI := hK rfl
    exact RX_callH (hc rfl) (hx rfl) (ha rfl) hv hkp hn D a w _ Q hst fun i w' hp hs hh => h _ _ (hst.put (d := some dd) hd hs hh)

/-! a loop of few known rounds -/
def WR (P : Program) (N : Nat) (c : Cx) (D : List Deferred) (x : Code) (Q : Exit → Act → World → Prop) (m : Nat) (F : Frm) (H : List Res) : Prop := ∀ a w, St N c D F H a w → Code.roundsIn (FA c.ro) 0 P x Q m a w
theorem WP_rounds {x : Code} (m : Nat) (h : WR P N c D x Q m F H) : WP P N c D (.loop x) Q F H := fun a w hst => wpIn_loop_rounds m (h a w hst)
theorem WR_step {x : Code} {m : Nat} (h : WP P N c D x (Exit.then (Code.roundsIn (FA c.ro) 0 P x Q m) Q) F H) : WR P N c D x Q (m + 1) F H := h
theorem WQ_round {x : Code} {m : Nat} (h : WR P N c D x Q m F H) : WQ N c D (Exit.then (Code.roundsIn (FA c.ro) 0 P x Q m) Q) .normal F H := h

/-! room for so many -/
theorem VS_cap0 {x : Operand} {t e sz n cp : Nat} {a0 : Option Addr} [ht : TSl P t e sz] (hx : ev F x = some (.slice a0 n cp)) : VS P N c ⟨d, .call ⟨.builtin .cap, #[x], #[t]⟩, ty, ps, af, g⟩ F H (.int .i64 cp) :=
  VS_of_run (by simp) fun a w hf _ _ => by
    obtain ⟨i, h1, h2, h3⟩ := TSl.get ht.ok
    simp [execOp, resolve, invoke, builtin, ev_ok hf hx, Builtin.cap_, run_underlying h1]
    rfl
theorem VS_cut00 {x hi : Operand} {t e sz n cp b : Nat} {k : IntKind} [ht : TSl P t e sz] (hx : ev F x = some (.slice (some ⟨b, 0, none⟩) n cp)) (hh : ev F hi = some (.int k 0)) :
    VS P N c ⟨d, .slice t x none (some hi) none, ty, ps, af, g⟩ F H (.slice (some ⟨b, 0, none⟩) 0 cp) :=
  VS_of_run (by simp) fun a w hf _ _ => by
    obtain ⟨i, h1, h2, h3⟩ := TSl.get ht.ok
    simp [execOp, ev_ok hf hx, ev_ok hf hh, Instr.sliceAt, run_underlying h1, Instr.slice, Instr.sliceBounds, Instr.sliceBound, asIntOf, sizeOf, typeInfo, h2, Addr.add]
theorem VS_cutnil {x hi : Operand} {t e sz : Nat} {k : IntKind} [ht : TSl P t e sz] (hx : ev F x = some (.slice none 0 0)) (hh : ev F hi = some (.int k 0)) :
    VS P N c ⟨d, .slice t x none (some hi) none, ty, ps, af, g⟩ F H (.slice none 0 0) :=
  VS_of_run (by simp) fun a w hf _ _ => by
    obtain ⟨i, h1, h2, h3⟩ := TSl.get ht.ok
    simp [execOp, ev_ok hf hx, ev_ok hf hh, Instr.sliceAt, run_underlying h1, Instr.slice, Instr.sliceBounds, Instr.sliceBound, asIntOf, sizeOf, typeInfo, h2, Addr.add]
theorem w_i64n {a : Int} (h1 : -9223372036854775808 ≤ a) (h2 : a ≤ 9223372036854775807) : wr .i64 a = a := IntWalk.i64_in a ⟨h1, h2⟩
theorem run_append_zeros (t ti ty e : TypeId) (i : TypeInfo) (z : Value) (q : IntKind) (w : World) (ht : P.underlying t = some (.slice e)) (hti : P.underlying ti = some (.int q)) (hi : P.info? e = some i) (hz : i.zero = some z)
    (n : Nat) (h0 : 0 < n) (h63 : (n : Int) ≤ 9223372036854775807) (h48 : n * i.bytes ≤ 140737488355328) (hpos : 0 < i.size) :
    (Builtin.append_ #[t, ti] ty #[.slice none 0 0, .int .i64 n]).run P w =
      .ok (.slice (some ⟨w.heap.size, 0, none⟩) n (grownCap w n 0 e)) (w.drew.alloc (.cells (Builtin.zeroCells z.cells n ++ Builtin.zeroCells z.cells (grownCap w n 0 e - n)) e)) := by
  have hn : n ≠ 0 := by omega
  have hns : n * i.size ≠ 0 := Nat.mul_ne_zero hn (by omega)
  have h63' : ¬ (9223372036854775807 < (n : Int)) := by omega
  have h48' : ¬ (281474976710656 < Builtin.nextslicecap n 0 * i.bytes) := by rw [nextslicecap_zero h0]; omega
  have hw : IntKind.i64.wrap (n : Int) = n := by rw [show IntKind.i64.wrap (n : Int) = wr .i64 (n : Int) from rfl, w_i64n (by omega) h63]
  have hneg : ¬ ((n : Int) < 0) := by omega
  have h48i : ¬ (281474976710656 < (n : Int) * (i.bytes : Int)) := by
    have h5 : ((n * i.bytes : Nat) : Int) = (n : Int) * (i.bytes : Int) := Int.natCast_mul _ _
    rw [← h5]
    omega
  simp [Builtin.append_, run_underlying ht, run_underlying hti, sizeOf, typeInfo, zeroValue, hi, hz, hn, h63', h48', Question.forced, run_firstCells_none, newRow, grownCap, asInt, asIntOf, hw, hneg, h48i, hns, Nat.pos_iff_ne_zero.1 hpos]
def growok (n : Int) (b : Nat) : Bool := decide (0 < n ∧ n * b ≤ 140737488355328 ∧ n ≤ 9223372036854775807)
theorem growok_e {n : Int} {b : Nat} (h : growok n b = true) : 0 < n ∧ n * b ≤ 140737488355328 ∧ n ≤ 9223372036854775807 := of_decide_eq_true h
class TIn (P : Program) (t : TypeId) (q : outParam IntKind) : Prop where
  ok : P.underlying t = some (.int q)
theorem RX_appZ {s x : Operand} {t ti e sz bytes : Nat} {n : Int} {q : IntKind} (L : Lay α) [FlatL L] [ht : TEl P t e sz bytes] (hti : P.underlying ti = some (.int q)) (hs : ev F s = some (.slice none 0 0)) (hx : ev F x = some (.int .i64 n)) (hok : growok n bytes = true) :
    RX (α := Nat × Nat) P N c ⟨d, .call ⟨.builtin .append, #[s, x], #[t, ti]⟩, ty, ps, af, g⟩ F H (fun _ => True) (fun v => .slice (some ⟨v.1, 0, none⟩) n.toNat v.2) (fun v => Row (.slice (some ⟨v.1, 0, none⟩) 0 v.2) e sz L [] :: H) := fun D a w next Q hst hk => by
  obtain ⟨i, z, e1, e2, e3, e4, e5, e6, e7⟩ := TEl.get ht.ok
  obtain ⟨g1, g2, g3⟩ := growok_e hok
  obtain ⟨m, rfl⟩ : ∃ m : Nat, n = m := ⟨n.toNat, by omega⟩
  subst e4 e5
  have hm0 : 0 < m := by omega
  have hb : m * i.bytes ≤ 140737488355328 := by
    have h5 : ((m * i.bytes : Nat) : Int) = (m : Int) * (i.bytes : Int) := Int.natCast_mul _ _
    rw [← h5] at g2
    omega
  have hr := run_append_zeros (P := P) t ti ty e i z q w e1 hti e2 e3 m hm0 g3 hb e7
  have hmx : m ≤ maxLen := by simp only [maxLen]; omega
  have hcm : grownCap w m 0 e ≤ maxLen := grownCap_le_maxLen w m 0 e hmx
  have hge : m ≤ grownCap w m 0 e := grownCap_ge w m 0 e
  have hsin : Since [] w (w.drew.alloc (.cells (Builtin.zeroCells z.cells m ++ Builtin.zeroCells z.cells (grownCap w m 0 e - m)) e)) := Since.of_grown (row := none) ⟨rfl, rfl, rfl, by simp, fun k hk _ => heap_alloc_old w.drew _ k hk⟩
  refine opIn_value (by simp) (v := .slice (some ⟨w.heap.size, 0, none⟩) m (grownCap w m 0 e)) ?_ (hk (w.heap.size, grownCap w m 0 e) _ trivial (hst.si.ext hsin) (hst.hp.fresh hsin ?_ hst.si.size ?_))
  · simp [execOp, resolve, invoke, builtin, ev_ok hst.fr hs, ev_ok hst.fr hx, hr]
  · refine ⟨by simp [rowC], .inr ⟨w.heap.size, grownCap w m 0 e, _, rfl, Nat.zero_le _, heap_alloc_new w.drew _, Nat.zero_le _, hcm, ?_, by simp [rowC]⟩⟩
    simp only [Array.size_append, size_zeroCells, e6, ← Nat.add_mul]
    congr 1
    omega
  · intro b hb
    have : b = w.heap.size := by simpa [Row, Res.blk, Value.ownBlock] using hb
    subst this
    exact ⟨Nat.le_refl _, (Array.getElem?_eq_some_iff.1 (heap_alloc_new w.drew (.cells (Builtin.zeroCells z.cells m ++ Builtin.zeroCells z.cells (grownCap w m 0 e - m)) e))).1⟩

theorem SlN.size {v : Value} {n : Nat} (h : SlN v n) : v.cells.size = 1 := by obtain ⟨a, cp, rfl⟩ := h; rfl
theorem VS_ixlit {x y : Operand} {t e n b m : Nat} {k : IntKind} {i : Int} [ht : TSl P t e 1] (hx : ev F x = some (.slice (some ⟨b, 0, none⟩) n n)) (hy : ev F y = some (.int k i)) (hi : i = (m : Int)) (hm : m < n) :
    VS P N c ⟨d, .indexAddr t x y, ty, ps, af, g⟩ F H (Ptr b m) :=
  VS_of_run (by simp) fun a w hf _ _ => by
    obtain ⟨j, h1, h2, h3⟩ := TSl.get ht.ok
    subst hi
    simp [execOp, ev_ok hf hx, ev_ok hf hy, Instr.indexAt, asIntOf, run_underlying h1, sizeOf, typeInfo, h2, h3, Addr.add_lit, Ptr]
    omega
theorem VS_lenlit {x : Operand} {t e sz n cp : Nat} {a0 : Option Addr} [ht : TSl P t e sz] (hx : ev F x = some (.slice a0 n cp)) : VS P N c ⟨d, .call ⟨.builtin .len, #[x], #[t]⟩, ty, ps, af, g⟩ F H (.int .i64 n) :=
  VS_of_run (by simp) fun a w hf _ _ => by
    obtain ⟨i, h1, h2, h3⟩ := TSl.get ht.ok
    simp [execOp, resolve, invoke, builtin, ev_ok hf hx, Builtin.len_, run_underlying h1, Builtin.lenOf]
    rfl
/-! literals -/
theorem fill_congr {p q : Nat → Option (Nat × Nat)} : ∀ (parts : List (Nat × Value)) (cells : Array Value), (∀ x ∈ parts, p x.1 = q x.1) → Instr.fill p cells parts = Instr.fill q cells parts
  | [], _, _ => rfl
  | (i, v) :: r, cells, h => by
    have h1 := h (i, v) (by simp)
    simp only at h1
    simp only [Instr.fill, h1]
    split
    · rfl
    · split
      · rfl
      · exact fill_congr r _ fun x hx => h x (List.mem_cons_of_mem _ hx)
def lvl (n sz : Nat) : List (Nat × Nat) := (List.range n).map fun i => (i * sz, sz)
theorem lvl_get {n sz i : Nat} (h : i < n) : (lvl n sz)[i]? = some (i * sz, sz) := by simp [lvl, h]
theorem VS_buildA {t n e sz : Nat} {parts : List (Nat × Operand)} {vs zs cs : List Value} [hz : TZero P t zs] [ht : TArr P t n e sz] (hv : evs F (parts.map (·.2)) = some vs) (hc : fillL (lvl n sz) zs ((parts.map (·.1)).zip vs) = some cs) (hi : ((parts.map (·.1)).all fun i => decide (i < n)) = true) :
    VS P N c ⟨d, .build t parts.toArray, ty, ps, af, g⟩ F H (.agg cs.toArray) :=
  VS_of_run (by simp) fun a w hf _ _ => by
    obtain ⟨i, z, h1, h2, h3⟩ := TZero.get hz.ok
    obtain ⟨inf, h4, h5, h6⟩ := TArr.get ht.ok
    have h7 : (zeroValue t).run P w = .ok z w := by simp [zeroValue, typeInfo, h1, h2]
    have h8 := fill_fillL (place := fun i => (lvl n sz)[i]?) (pl := lvl n sz) (fun _ => rfl) ((parts.map (·.1)).zip vs) z.cells cs (by rw [h3]; exact hc)
    have h9 := evp hf hv
    have h10 : (Array.map (fun x => (x.fst, a.eval x.snd)) parts.toArray).toList = (parts.map (·.1)).zip vs := by simpa using h9
    have h11 := fill_congr (p := fun i => some (i * sz, sz)) (q := fun i => (lvl n sz)[i]?) ((parts.map (·.1)).zip vs) z.cells (fun x hx => by
      have := List.all_eq_true.1 hi x.1 (List.of_mem_zip hx).1
      simp only [decide_eq_true_eq] at this
      simp [lvl_get this])
    simp only [execOp, Instr.build, Sem.run_bind, h7, Result.andThen_ok, run_underlying h4, sizeOf, typeInfo]
    simp [h5, h6, h9, h11, h8]
theorem RX_bsg {t n e sz : Nat} {parts : List (Nat × Operand)} {vs zs cs : List Value} [ht : TSl P t e sz] [hz : TZero P e zs] (hv : evs F (parts.map (·.2)) = some vs) (hc : fillL (lvl n sz) ((List.range (n * sz)).map fun j => zs[j % zs.length]!) ((parts.map (·.1)).zip vs) = some cs)
    (hi : ((parts.map (·.1)).all fun i => decide (i < n)) = true) (h0 : 0 < n * sz) (hs : n * sz ≤ 16777216) :
    RX P N c ⟨d, .buildSlice t n parts.toArray, ty, ps, af, g⟩ F H (fun _ => True) (fun b => .slice (some ⟨b, 0, none⟩) n n) (fun b => .cells b e cs :: H) := fun D a w next Q hst hk => by
  obtain ⟨i, h1, h2, h3⟩ := TSl.get ht.ok
  obtain ⟨i', z, h4, h5, h6⟩ := TZero.get hz.ok
  rw [h2] at h4; cases h4
  subst h3
  refine opIn_value (by simp) (w' := w.alloc (.cells cs.toArray e)) ?_ (hk w.heap.size _ trivial (hst.si.ext (Since.alloc _ _)) (hst.hp.box e cs hst.si.size))
  have h9 := evp hst.fr hv
  have h10 : (Array.map (fun x => (x.fst, a.eval x.snd)) parts.toArray).toList = (parts.map (·.1)).zip vs := by simpa using h9
  have h11 := fill_congr (p := fun k => some (k * i.size, i.size)) (q := fun k => ((lvl n i.size).toArray)[k]?) ((parts.map (·.1)).zip vs) ((Array.range (n * i.size)).map (z.cells[· % z.cells.size]!)) (fun x hx => by
      have := List.all_eq_true.1 hi x.1 (List.of_mem_zip hx).1
      simp only [decide_eq_true_eq] at this
      simp [lvl_get this])
  have hzc : z.cells = zs.toArray := by rw [← h6]
  have h8 := fill_fillL (place := fun k => ((lvl n i.size).toArray)[k]?) (pl := lvl n i.size) (by simp) ((parts.map (·.1)).zip vs) ((Array.range (n * i.size)).map (z.cells[· % z.cells.size]!)) cs (by
    rw [← hc]; congr 1; rw [hzc]; simp [Array.toList_range])
  have e3 : (fun x => (x.fst, a.eval x.snd)) = (fun (x : Nat × Operand) => (x.1, a.eval x.2)) := rfl
  have hb : (Instr.buildSlice t n (Array.map (fun x => (x.fst, a.eval x.snd)) parts.toArray)).run P w = .ok (.slice (some ⟨w.heap.size, 0, none⟩) n n) (w.alloc (.cells cs.toArray e)) :=
    run_buildSlice w t e n _ cs.toArray i z h1 h2 h5 (by omega) (by omega) (by rw [h10, h11, h8])
  simp only [execOp, Sem.run_bind]
  rw [hb]
  rfl
end rules
end Go.Bw
