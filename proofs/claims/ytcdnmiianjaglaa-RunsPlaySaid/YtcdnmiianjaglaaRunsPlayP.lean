/- PROVED HERE: Rows.RunsPlaySaid: for every number of pages, list of acts and ask, bailiwicklaw01.RunsPlay returns true and leaves the list as it was. No condition. -/
import Derived.Test.YtcdnmiianjaglaaRows
import Derived.Test.YtcdnmiianjaglaaL01c
import Derived.Test.YtcdnmiianjaglaaFrame
namespace Go.Proofs.Ytcdnmiianjaglaa.runsPlay
open Go.ChangeShapes Go.WideShapes Go.ChangeAt Go.RowKit Go.Bw
section
variable {H : Type} {enc : TypeId × Value → H} {w : World} {base : Nat} {spare : Nat → Bool} {held : Bool}
set_option maxRecDepth 100000 in
theorem shape_5 {n : Nat} {cs : List Value} {y : DataW H × List MemPlace} (h : DataW.trod enc Try.prog w base spare held n 5 cs = some y) : ∃ (a0 : Int), cs = [.int .u8 a0] ∧ (0 ≤ a0 ∧ a0 ≤ 255) := by
  obtain ⟨a, e, _, b⟩ := DataW.trod_int Try.underlying5 h
  have := bounds_u8 b
  exact ⟨a, e, by omega⟩
set_option maxRecDepth 100000 in
theorem shape_3 {n : Nat} {cs : List Value} {y : DataW H × List MemPlace} (h : DataW.trod enc Try.prog w base spare held n 3 cs = some y) : ∃ (a0 : Int), cs = [.int .i64 a0] ∧ (-9223372036854775808 ≤ a0 ∧ a0 ≤ 9223372036854775807) := by
  obtain ⟨a, e, _, b⟩ := DataW.trod_int Try.underlying3 h
  have := bounds_i64 b
  exact ⟨a, e, by omega⟩
set_option maxRecDepth 100000 in
theorem shape_151 {n : Nat} {cs : List Value} {y : DataW H × List MemPlace} (h : DataW.trod enc Try.prog w base spare held n 151 cs = some y) : ∃ (a0 : Int) (a1 : Int) (a2 : Int), cs = [.int .u8 a0, .int .i64 a1, .int .i64 a2] ∧ (0 ≤ a0 ∧ a0 ≤ 255) ∧ (-9223372036854775808 ≤ a1 ∧ a1 ≤ 9223372036854775807) ∧ (-9223372036854775808 ≤ a2 ∧ a2 ≤ 9223372036854775807) := by
  obtain ⟨hl, hp⟩ := trod_parts Try.underlying151 h
  have hl : cs.length = 3 := hl.trans (by kernel_rfl)
  match cs, hl with
  | [c0, c1, c2], _ =>
    obtain ⟨_, _, h0⟩ := hp 0 _ rfl
    obtain ⟨a0, e0, b0_0⟩ := shape_5 h0
    change List.take (Try.prog.cellsOf 5) (List.drop 0 [c0, c1, c2]) = _ at e0
    rw [show Try.prog.cellsOf 5 = 1 from by kernel_rfl] at e0
    simp at e0
    obtain ⟨_, _, h1⟩ := hp 1 _ rfl
    obtain ⟨a1, e1, b1_0⟩ := shape_3 h1
    change List.take (Try.prog.cellsOf 3) (List.drop 1 [c0, c1, c2]) = _ at e1
    rw [show Try.prog.cellsOf 3 = 1 from by kernel_rfl] at e1
    simp at e1
    obtain ⟨_, _, h2⟩ := hp 2 _ rfl
    obtain ⟨a2, e2, b2_0⟩ := shape_3 h2
    change List.take (Try.prog.cellsOf 3) (List.drop 2 [c0, c1, c2]) = _ at e2
    rw [show Try.prog.cellsOf 3 = 1 from by kernel_rfl] at e2
    simp at e2
    exact ⟨a0, a1, a2, by simp [*], b0_0, b1_0, b2_0⟩
end
theorem own : ownKnob Try.prog.godebug = none := by kernel_rfl
theorem laidOut : laidOutB Try.prog = true := by kernel_rfl
set_option maxRecDepth 100000 in
theorem lifted (os : Os) (started : os.Started) (H : Type) (enc : TypeId × Value → H) :
    ReturnsInHanded {} Try.checked os 11 .any (Rows.runsPlaySpec.pre6 enc Try.prog Try.f11 Rows.runsPlayRow.domain false) (Rows.runsPlaySpec.post enc Try.prog Try.f11 false true false false) := by
  refine returnsInHanded_of_change (C := Try.checked) own started (by kernel_rfl) Try.func11
    (ChangeSpec.witness6 (enc := enc) (C := Try.checked) false ⟨#[], #[.int .i64 0, .slice none 0 0, .int .i64 0], []⟩ 8 (by kernel_rfl) (by kernel_rfl) (by kernel_rfl) (by kernel_rfl)) ?_
  intro W base args ds gs before hval0 hW hcnd _
  have hval : ∀ (j : Nat) t v, Try.f11.params[j]? = some t → args[j]? = some v → Value.okWide Try.prog W .any base t v := hval0
  have hW' := hW
  obtain ⟨p, q, hA0, hV, rfl, hfz, hnd⟩ := hW
  have hA : DataW.TrodAll enc Try.prog W 0 (fun _ => true) true Try.f11.params.toList args.toList ds p := hA0
  rw [Try.params11] at hA hval
  obtain ⟨v0, vs0, d0, ds0, p0, q0, hargs, rfl, rfl, h0, r0⟩ := trodAll_cons hA
  obtain ⟨v1, vs1, d1, ds1, p1, q1, rfl, rfl, rfl, h1, r1⟩ := trodAll_cons r0
  obtain ⟨v2, vs2, d2, ds2, p2, q2, rfl, rfl, rfl, h2, r2⟩ := trodAll_cons r1
  obtain ⟨rfl, rfl, rfl⟩ := trodAll_nil r2
  obtain rfl : args = #[v0, v1, v2] := by cases args; simp_all
  obtain ⟨rfl, rfl⟩ := trodVars_none hV
  obtain ⟨a0, rfl, rfl, rfl, w0⟩ := open_int Try.underlying3 (hval 0 3 v0 rfl rfl) h0
  have b0 := bounds_i64 w0
  obtain ⟨a1, len1, cap1, rfl⟩ := okWide_slice Try.underlying146 (hval 1 146 v1 rfl rfl)
  have k1 := h1
  have lt1 : ∀ x ∈ p1, x.block < W.heap.size := by obtain ⟨m, hm⟩ := k1; exact DataW.trod_lt m _ _ _ hm
  obtain ⟨g1, w1, q1, m1⟩ : ∃ g : Nat → law01_Act, Ro W (.slice a1 len1 cap1) 3 len1 (flat (fun i => L_law01_Act.enc (g i)) len1) ∧ (∀ i, i < len1 → (fun z => (0 ≤ z.Do ∧ z.Do ≤ 255) ∧ (-9223372036854775808 ≤ z.At ∧ z.At ≤ 9223372036854775807) ∧ (-9223372036854775808 ≤ z.N ∧ z.N ≤ 9223372036854775807)) (g i)) ∧ len1 ≤ maxLen := by
    obtain ⟨fuel, hf⟩ := h1
    exact open_ro (α := law01_Act) (sz := 3) L_law01_Act.enc (fun z => (0 ≤ z.Do ∧ z.Do ≤ 255) ∧ (-9223372036854775808 ≤ z.At ∧ z.At ≤ 9223372036854775807) ∧ (-9223372036854775808 ≤ z.N ∧ z.N ≤ 9223372036854775807)) Try.underlying146 (by kernel_rfl) (by decide) (fun _ => enc_len _ _) (fun n cs y hy => by
      obtain ⟨a0, a1, a2, hc, b0, b1, b2⟩ := shape_151 hy
      exact ⟨⟨a0, a1, a2⟩, hc, b0, b1, b2⟩) hf
  obtain ⟨a2, rfl, rfl, rfl, w2⟩ := open_int Try.underlying3 (hval 2 3 v2 rfl rfl) h2
  have b2 := bounds_i64 w2
  clear hA0 hval0
  refine ((c_law01_RunsPlay (K := fun w => Since [] W w) (Fz.of_ro (L := L_law01_Act) rfl ⟨_, _, rfl⟩ w1) (play_true b0 (fun x hx => by obtain ⟨i, hi, rfl⟩ := List.mem_map.1 hx; exact q1 _ (List.mem_range.1 hi)) b2)).calls W (Since.refl _ _) (HpOk.nil _ _ _)).mono fun e W' ⟨_, _, he, hsi, _⟩ => ?_
  have bel := Below.of_since hsi
  subst he
  exact ⟨_, rfl, _, _, _, [], _, [], hW', trodAll_mk1 (shut_bool Try.underlying4 _), (trodAll_cons_mk (shut_int Try.underlying3 w0) (trodAll_cons_mk (Below.trod laidOut (by kernel_rfl) (of_decide_eq_true (by kernel_rfl)) k1 bel lt1) (trodAll_cons_mk (shut_int Try.underlying3 w2) trodAll_mk0))), rfl, bel.frame _, fun h => by cases h⟩
theorem over : Rows.runsPlayRow.holds Try.pinned (OpenSpec.ofChange Rows.runsPlaySpec) :=
  OpenClaim.holds_of_wide 11 Try.f11 rfl rfl rfl rfl rfl rfl rfl ⟨rfl, rfl, rfl, rfl, rfl⟩ rfl rfl rfl rfl rfl (by kernel_rfl) Try.func11 (by kernel_rfl)
    (of_decide_eq_true (by kernel_rfl)) (by unfold Func.isWrapper; first | (rw [if_pos (by decide +kernel)]; kernel_rfl) | (rw [if_neg (by decide +kernel)]; exact ⟨rfl, rfl⟩))
    (fun os started H enc _ => lifted os started H enc)
/-- THE STATEMENT -/
theorem proved : Rows.RunsPlaySaid := over
#print axioms proved
end Go.Proofs.Ytcdnmiianjaglaa.runsPlay
