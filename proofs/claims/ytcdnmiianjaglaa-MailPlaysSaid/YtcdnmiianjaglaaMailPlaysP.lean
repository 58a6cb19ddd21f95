/- PROVED HERE: Rows.MailPlaysSaid: for every list of acts, bailiwicklaw11.MailPlays returns true and leaves the list as it was. No condition. -/
import Derived.Test.YtcdnmiianjaglaaRows
import Derived.Test.YtcdnmiianjaglaaMailPlays
import Derived.Test.YtcdnmiianjaglaaFrame
namespace Go.Proofs.Ytcdnmiianjaglaa.mailPlays
open Go.ChangeShapes Go.WideShapes Go.ChangeAt Go.RowKit Go.Bw

instance : Inhabited MAct := ⟨⟨0, Msg.zero⟩⟩

section
variable {H : Type} {enc : TypeId × Value → H} {w : World} {base : Nat} {spare : Nat → Bool} {held : Bool}
set_option maxRecDepth 100000 in
theorem shape_5 {n : Nat} {cs : List Value} {y : DataW H × List MemPlace} (h : DataW.trod enc Try.prog w base spare held n 5 cs = some y) : ∃ (a0 : Int), cs = [.int .u8 a0] ∧ (0 ≤ a0 ∧ a0 ≤ 255) := by
  obtain ⟨a, e, _, b⟩ := DataW.trod_int Try.underlying5 h
  have := bounds_u8 b
  exact ⟨a, e, by omega⟩
set_option maxRecDepth 100000 in
theorem shape_24 {n : Nat} {cs : List Value} {y : DataW H × List MemPlace} (h : DataW.trod enc Try.prog w base spare held n 24 cs = some y) : ∃ (a0 : Int), cs = [.int .u64 a0] ∧ (0 ≤ a0 ∧ a0 ≤ 18446744073709551615) := by
  obtain ⟨a, e, _, b⟩ := DataW.trod_int Try.underlying24 h
  have := bounds_u64 b
  exact ⟨a, e, by omega⟩
set_option maxRecDepth 100000 in
theorem shape_26 {n : Nat} {cs : List Value} {y : DataW H × List MemPlace} (h : DataW.trod enc Try.prog w base spare held n 26 cs = some y) : ∃ (a0 : Int), cs = [.int .u32 a0] ∧ (0 ≤ a0 ∧ a0 ≤ 4294967295) := by
  obtain ⟨a, e, _, b⟩ := DataW.trod_int Try.underlying26 h
  have := bounds_u32 b
  exact ⟨a, e, by omega⟩
set_option maxRecDepth 100000 in
theorem shape_4 {n : Nat} {cs : List Value} {y : DataW H × List MemPlace} (h : DataW.trod enc Try.prog w base spare held n 4 cs = some y) : ∃ (a0 : Bool), cs = [.bool a0] := by
  obtain ⟨a, e, _⟩ := DataW.trod_bool Try.underlying4 h
  exact ⟨a, e⟩
set_option maxRecDepth 100000 in
theorem shape_28 {n : Nat} {cs : List Value} {y : DataW H × List MemPlace} (h : DataW.trod enc Try.prog w base spare held n 28 cs = some y) : ∃ (a0 : Int) (a1 : Int) (a2 : Int) (a3 : Bool), cs = [.int .u8 a0, .int .u64 a1, .int .u32 a2, .bool a3] ∧ (0 ≤ a0 ∧ a0 ≤ 255) ∧ (0 ≤ a1 ∧ a1 ≤ 18446744073709551615) ∧ (0 ≤ a2 ∧ a2 ≤ 4294967295) := by
  obtain ⟨hl, hp⟩ := trod_parts Try.underlying28 h
  have hl : cs.length = 4 := hl.trans (by kernel_rfl)
  match cs, hl with
  | [c0, c1, c2, c3], _ =>
    obtain ⟨_, _, h0⟩ := hp 0 _ rfl
    obtain ⟨a0, e0, b0_0⟩ := shape_5 h0
    change List.take (Try.prog.cellsOf 5) (List.drop 0 [c0, c1, c2, c3]) = _ at e0
    rw [show Try.prog.cellsOf 5 = 1 from by kernel_rfl] at e0
    simp at e0
    obtain ⟨_, _, h1⟩ := hp 1 _ rfl
    obtain ⟨a1, e1, b1_0⟩ := shape_24 h1
    change List.take (Try.prog.cellsOf 24) (List.drop 1 [c0, c1, c2, c3]) = _ at e1
    rw [show Try.prog.cellsOf 24 = 1 from by kernel_rfl] at e1
    simp at e1
    obtain ⟨_, _, h2⟩ := hp 2 _ rfl
    obtain ⟨a2, e2, b2_0⟩ := shape_26 h2
    change List.take (Try.prog.cellsOf 26) (List.drop 2 [c0, c1, c2, c3]) = _ at e2
    rw [show Try.prog.cellsOf 26 = 1 from by kernel_rfl] at e2
    simp at e2
    obtain ⟨_, _, h3⟩ := hp 3 _ rfl
    obtain ⟨a3, e3⟩ := shape_4 h3
    change List.take (Try.prog.cellsOf 4) (List.drop 3 [c0, c1, c2, c3]) = _ at e3
    rw [show Try.prog.cellsOf 4 = 1 from by kernel_rfl] at e3
    simp at e3
    exact ⟨a0, a1, a2, a3, by simp [*], b0_0, b1_0, b2_0⟩
set_option maxRecDepth 100000 in
theorem shape_33 {n : Nat} {cs : List Value} {y : DataW H × List MemPlace} (h : DataW.trod enc Try.prog w base spare held n 33 cs = some y) : ∃ (a0 : Int) (a1 : Int) (a2 : Int) (a3 : Int) (a4 : Bool), cs = [.int .u8 a0, .int .u8 a1, .int .u64 a2, .int .u32 a3, .bool a4] ∧ (0 ≤ a0 ∧ a0 ≤ 255) ∧ (0 ≤ a1 ∧ a1 ≤ 255) ∧ (0 ≤ a2 ∧ a2 ≤ 18446744073709551615) ∧ (0 ≤ a3 ∧ a3 ≤ 4294967295) := by
  obtain ⟨hl, hp⟩ := trod_parts Try.underlying33 h
  have hl : cs.length = 5 := hl.trans (by kernel_rfl)
  match cs, hl with
  | [c0, c1, c2, c3, c4], _ =>
    obtain ⟨_, _, h0⟩ := hp 0 _ rfl
    obtain ⟨a0, e0, b0_0⟩ := shape_5 h0
    change List.take (Try.prog.cellsOf 5) (List.drop 0 [c0, c1, c2, c3, c4]) = _ at e0
    rw [show Try.prog.cellsOf 5 = 1 from by kernel_rfl] at e0
    simp at e0
    obtain ⟨_, _, h1⟩ := hp 1 _ rfl
    obtain ⟨a1, a2, a3, a4, e1, b1_0, b1_1, b1_2⟩ := shape_28 h1
    change List.take (Try.prog.cellsOf 28) (List.drop 1 [c0, c1, c2, c3, c4]) = _ at e1
    rw [show Try.prog.cellsOf 28 = 4 from by kernel_rfl] at e1
    simp at e1
    exact ⟨a0, a1, a2, a3, a4, by simp [*], b0_0, b1_0, b1_1, b1_2⟩
end
theorem own : ownKnob Try.prog.godebug = none := by kernel_rfl
theorem laidOut : laidOutB Try.prog = true := by kernel_rfl
set_option maxRecDepth 100000 in
theorem lifted (os : Os) (started : os.Started) (H : Type) (enc : TypeId × Value → H) :
    ReturnsInHanded {} Try.checked os 4 .any (Rows.mailPlaysSpec.pre6 enc Try.prog Try.f4 Rows.mailPlaysRow.domain false) (Rows.mailPlaysSpec.post enc Try.prog Try.f4 false true false false) := by
  refine returnsInHanded_of_change (C := Try.checked) own started (by kernel_rfl) Try.func4
    (ChangeSpec.witness6 (enc := enc) (C := Try.checked) false ⟨#[], #[.slice none 0 0], []⟩ 8 (by kernel_rfl) (by kernel_rfl) (by kernel_rfl) (by kernel_rfl)) ?_
  intro W base args ds gs before hval0 hW hcnd _
  have hval : ∀ (j : Nat) t v, Try.f4.params[j]? = some t → args[j]? = some v → Value.okWide Try.prog W .any base t v := hval0
  have hW' := hW
  obtain ⟨p, q, hA0, hV, rfl, hfz, hnd⟩ := hW
  have hA : DataW.TrodAll enc Try.prog W 0 (fun _ => true) true Try.f4.params.toList args.toList ds p := hA0
  rw [Try.params4] at hA hval
  obtain ⟨v0, vs0, d0, ds0, p0, q0, hargs, rfl, rfl, h0, r0⟩ := trodAll_cons hA
  obtain ⟨rfl, rfl, rfl⟩ := trodAll_nil r0
  obtain rfl : args = #[v0] := by cases args; simp_all
  obtain ⟨rfl, rfl⟩ := trodVars_none hV
  obtain ⟨a0, len0, cap0, rfl⟩ := okWide_slice Try.underlying22 (hval 0 22 v0 rfl rfl)
  have k0 := h0
  have lt0 : ∀ x ∈ p0, x.block < W.heap.size := by obtain ⟨m, hm⟩ := k0; exact DataW.trod_lt m _ _ _ hm
  obtain ⟨g0, w0, q0, m0⟩ : ∃ g : Nat → MAct, Ro W (.slice a0 len0 cap0) 5 len0 (flat (fun i => (MAct.enc) (g i)) len0) ∧ (∀ i, i < len0 → (fun z => z.m.wf) (g i)) ∧ len0 ≤ maxLen := by
    obtain ⟨fuel, hf⟩ := h0
    exact open_ro (α := MAct) (sz := 5) (MAct.enc) (fun z => z.m.wf) Try.underlying22 (by kernel_rfl) (by decide) (fun _ => rfl) (fun n cs y hy => by
      obtain ⟨a, b, c, d, e, hc, h1, h2, h3, h4⟩ := shape_33 hy
      exact ⟨⟨a, ⟨b, c, d, e⟩⟩, hc, h2, h4⟩) hf
  clear hA0 hval0
  refine ((fn_plays11 g0 len0 (.slice a0 len0 cap0) q0).calls W w0 (HpOk.nil _ _ _)).mono fun e W' ⟨_, _, he, hsi, _⟩ => ?_
  have bel := Below.of_since hsi
  subst he
  exact ⟨_, rfl, _, _, _, [], _, [], hW', trodAll_mk1 (shut_bool Try.underlying4 _), (trodAll_cons_mk (Below.trod laidOut (by kernel_rfl) (of_decide_eq_true (by kernel_rfl)) k0 bel lt0) trodAll_mk0), rfl, bel.frame _, fun h => by cases h⟩
theorem over : Rows.mailPlaysRow.holds Try.pinned (OpenSpec.ofChange Rows.mailPlaysSpec) :=
  OpenClaim.holds_of_wide 4 Try.f4 rfl rfl rfl rfl rfl rfl rfl ⟨rfl, rfl, rfl, rfl, rfl⟩ rfl rfl rfl rfl rfl (by kernel_rfl) Try.func4 (by kernel_rfl)
    (of_decide_eq_true (by kernel_rfl)) (by unfold Func.isWrapper; first | (rw [if_pos (by decide +kernel)]; kernel_rfl) | (rw [if_neg (by decide +kernel)]; exact ⟨rfl, rfl⟩))
    (fun os started H enc _ => lifted os started H enc)
/-- THE STATEMENT -/
theorem proved : Rows.MailPlaysSaid := over
#print axioms proved
end Go.Proofs.Ytcdnmiianjaglaa.mailPlays
