/- PROVED HERE: Rows.MarkTurnsSaid: for every list of acts and every slot, bailiwicklaw15.MarkTurns returns true and leaves the list as it was. No condition. -/
import Derived.Test.YtcdnmiianjaglaaRows
import Derived.Test.YtcdnmiianjaglaaL15t
import Derived.Test.YtcdnmiianjaglaaFrame
namespace Go.Proofs.Ytcdnmiianjaglaa.markTurns
open Go.ChangeShapes Go.WideShapes Go.ChangeAt Go.RowKit Go.Bw
section
variable {H : Type} {enc : TypeId × Value → H} {w : World} {base : Nat} {spare : Nat → Bool} {held : Bool}
set_option maxRecDepth 100000 in
theorem shape_5 {n : Nat} {cs : List Value} {y : DataW H × List MemPlace} (h : DataW.trod enc Try.prog w base spare held n 5 cs = some y) : ∃ (a0 : Int), cs = [.int .u8 a0] ∧ (0 ≤ a0 ∧ a0 ≤ 255) := by
  obtain ⟨a, e, _, b⟩ := DataW.trod_int Try.underlying5 h
  have := bounds_u8 b
  exact ⟨a, e, by omega⟩
set_option maxRecDepth 100000 in
theorem shape_3 {n : Nat} {cs : List Value} {y : DataW H × List MemPlace} (h : DataW.trod enc Try.prog w base spare held n 3 cs = some y) : ∃ (a0 : Int), cs = [.int .i64 a0] ∧ (-9223372036854775808 ≤ a0 ∧ a0 ≤ 9223372036854775807) := by
  obtain ⟨a, e, _, b⟩ := DataW.trod_int Try.underlying3 h
  have := bounds_i64 b
  exact ⟨a, e, by omega⟩
set_option maxRecDepth 100000 in
theorem shape_103 {n : Nat} {cs : List Value} {y : DataW H × List MemPlace} (h : DataW.trod enc Try.prog w base spare held n 103 cs = some y) : ∃ (a0 : Int) (a1 : Int) (a2 : Int), cs = [.int .u8 a0, .int .i64 a1, .int .i64 a2] ∧ (0 ≤ a0 ∧ a0 ≤ 255) ∧ (-9223372036854775808 ≤ a1 ∧ a1 ≤ 9223372036854775807) ∧ (-9223372036854775808 ≤ a2 ∧ a2 ≤ 9223372036854775807) := by
  obtain ⟨hl, hp⟩ := trod_parts Try.underlying103 h
  have hl : cs.length = 3 := hl.trans (by kernel_rfl)
  match cs, hl with
  | [c0, c1, c2], _ =>
    obtain ⟨_, _, h0⟩ := hp 0 _ rfl
    obtain ⟨a0, e0, b0_0⟩ := shape_5 h0
    change List.take (Try.prog.cellsOf 5) (List.drop 0 [c0, c1, c2]) = _ at e0
    rw [show Try.prog.cellsOf 5 = 1 from by kernel_rfl] at e0
    simp at e0
    obtain ⟨_, _, h1⟩ := hp 1 _ rfl
    obtain ⟨a1, e1, b1_0⟩ := shape_3 h1
    change List.take (Try.prog.cellsOf 3) (List.drop 1 [c0, c1, c2]) = _ at e1
    rw [show Try.prog.cellsOf 3 = 1 from by kernel_rfl] at e1
    simp at e1
    obtain ⟨_, _, h2⟩ := hp 2 _ rfl
    obtain ⟨a2, e2, b2_0⟩ := shape_3 h2
    change List.take (Try.prog.cellsOf 3) (List.drop 2 [c0, c1, c2]) = _ at e2
    rw [show Try.prog.cellsOf 3 = 1 from by kernel_rfl] at e2
    simp at e2
    exact ⟨a0, a1, a2, by simp [*], b0_0, b1_0, b2_0⟩
end
theorem own : ownKnob Try.prog.godebug = none := by kernel_rfl
theorem laidOut : laidOutB Try.prog = true := by kernel_rfl
set_option maxRecDepth 100000 in
theorem lifted (os : Os) (started : os.Started) (H : Type) (enc : TypeId × Value → H) :
    ReturnsInHanded {} Try.checked os 8 .any (Rows.markTurnsSpec.pre6 enc Try.prog Try.f8 Rows.markTurnsRow.domain false) (Rows.markTurnsSpec.post enc Try.prog Try.f8 false true false false) := by
  refine returnsInHanded_of_change (C := Try.checked) own started (by kernel_rfl) Try.func8
    (ChangeSpec.witness6 (enc := enc) (C := Try.checked) false ⟨#[], #[.slice none 0 0, .int .i64 0], []⟩ 8 (by kernel_rfl) (by kernel_rfl) (by kernel_rfl) (by kernel_rfl)) ?_
  intro W base args ds gs before hval0 hW hcnd _
  have hval : ∀ (j : Nat) t v, Try.f8.params[j]? = some t → args[j]? = some v → Value.okWide Try.prog W .any base t v := hval0
  have hW' := hW
  obtain ⟨p, q, hA0, hV, rfl, hfz, hnd⟩ := hW
  have hA : DataW.TrodAll enc Try.prog W 0 (fun _ => true) true Try.f8.params.toList args.toList ds p := hA0
  rw [Try.params8] at hA hval
  obtain ⟨v0, vs0, d0, ds0, p0, q0, hargs, rfl, rfl, h0, r0⟩ := trodAll_cons hA
  obtain ⟨v1, vs1, d1, ds1, p1, q1, rfl, rfl, rfl, h1, r1⟩ := trodAll_cons r0
  obtain ⟨rfl, rfl, rfl⟩ := trodAll_nil r1
  obtain rfl : args = #[v0, v1] := by cases args; simp_all
  obtain ⟨rfl, rfl⟩ := trodVars_none hV
  obtain ⟨a0, len0, cap0, rfl⟩ := okWide_slice Try.underlying90 (hval 0 90 v0 rfl rfl)
  have k0 := h0
  have lt0 : ∀ x ∈ p0, x.block < W.heap.size := by obtain ⟨m, hm⟩ := k0; exact DataW.trod_lt m _ _ _ hm
  obtain ⟨g0, w0, q0, m0⟩ : ∃ g : Nat → law15_Act, Ro W (.slice a0 len0 cap0) 3 len0 (flat (fun i => L_law15_Act.enc (g i)) len0) ∧ (∀ i, i < len0 → (fun z => (0 ≤ z.Do ∧ z.Do ≤ 255) ∧ (-9223372036854775808 ≤ z.Slot ∧ z.Slot ≤ 9223372036854775807) ∧ (-9223372036854775808 ≤ z.Task ∧ z.Task ≤ 9223372036854775807)) (g i)) ∧ len0 ≤ maxLen := by
    obtain ⟨fuel, hf⟩ := h0
    exact open_ro (α := law15_Act) (sz := 3) L_law15_Act.enc (fun z => (0 ≤ z.Do ∧ z.Do ≤ 255) ∧ (-9223372036854775808 ≤ z.Slot ∧ z.Slot ≤ 9223372036854775807) ∧ (-9223372036854775808 ≤ z.Task ∧ z.Task ≤ 9223372036854775807)) Try.underlying90 (by kernel_rfl) (by decide) (fun _ => enc_len _ _) (fun n cs y hy => by
      obtain ⟨a0, a1, a2, hc, b0, b1, b2⟩ := shape_103 hy
      exact ⟨⟨a0, a1, a2⟩, hc, b0, b1, b2⟩) hf
  obtain ⟨a1, rfl, rfl, rfl, w1⟩ := open_int Try.underlying3 (hval 1 3 v1 rfl rfl) h1
  have b1 := bounds_i64 w1
  clear hA0 hval0
  refine ((c_law15_MarkTurns (K := fun w => Since [] W w) (Fz.of_ro (L := L_law15_Act) rfl ⟨_, _, rfl⟩ w0) (turns_true (fun x hx => by obtain ⟨i, hi, rfl⟩ := List.mem_map.1 hx; exact q0 _ (List.mem_range.1 hi)) b1)).calls W (Since.refl _ _) (HpOk.nil _ _ _)).mono fun e W' ⟨_, _, he, hsi, _⟩ => ?_
  have bel := Below.of_since hsi
  subst he
  exact ⟨_, rfl, _, _, _, [], _, [], hW', trodAll_mk1 (shut_bool Try.underlying4 _), (trodAll_cons_mk (Below.trod laidOut (by kernel_rfl) (of_decide_eq_true (by kernel_rfl)) k0 bel lt0) (trodAll_cons_mk (shut_int Try.underlying3 w1) trodAll_mk0)), rfl, bel.frame _, fun h => by cases h⟩
theorem over : Rows.markTurnsRow.holds Try.pinned (OpenSpec.ofChange Rows.markTurnsSpec) :=
  OpenClaim.holds_of_wide 8 Try.f8 rfl rfl rfl rfl rfl rfl rfl ⟨rfl, rfl, rfl, rfl, rfl⟩ rfl rfl rfl rfl rfl (by kernel_rfl) Try.func8 (by kernel_rfl)
    (of_decide_eq_true (by kernel_rfl)) (by unfold Func.isWrapper; first | (rw [if_pos (by decide +kernel)]; kernel_rfl) | (rw [if_neg (by decide +kernel)]; exact ⟨rfl, rfl⟩))
    (fun os started H enc _ => lifted os started H enc)
/-- THE STATEMENT -/
theorem proved : Rows.MarkTurnsSaid := over
#print axioms proved
end Go.Proofs.Ytcdnmiianjaglaa.markTurns
