/- PROVED HERE: Rows.RunsOneWaySaid: for every number of pages, every want and every order, bailiwicklaw01.RunsOneWay returns true and leaves the lists as they were. No condition. -/
import Derived.Test.YtcdnmiianjaglaaRows
import Derived.Test.YtcdnmiianjaglaaL01d
import Derived.Test.YtcdnmiianjaglaaFrame
namespace Go.Proofs.Ytcdnmiianjaglaa.runsOneWay
open Go.ChangeShapes Go.WideShapes Go.ChangeAt Go.RowKit Go.Bw
section
variable {H : Type} {enc : TypeId × Value → H} {w : World} {base : Nat} {spare : Nat → Bool} {held : Bool}
set_option maxRecDepth 100000 in
theorem shape_5 {n : Nat} {cs : List Value} {y : DataW H × List MemPlace} (h : DataW.trod enc Try.prog w base spare held n 5 cs = some y) : ∃ (a0 : Int), cs = [.int .u8 a0] ∧ (0 ≤ a0 ∧ a0 ≤ 255) := by
  obtain ⟨a, e, _, b⟩ := DataW.trod_int Try.underlying5 h
  have := bounds_u8 b
  exact ⟨a, e, by omega⟩
end
theorem own : ownKnob Try.prog.godebug = none := by kernel_rfl
theorem laidOut : laidOutB Try.prog = true := by kernel_rfl
set_option maxRecDepth 100000 in
theorem lifted (os : Os) (started : os.Started) (H : Type) (enc : TypeId × Value → H) :
    ReturnsInHanded {} Try.checked os 12 .any (Rows.runsOneWaySpec.pre6 enc Try.prog Try.f12 Rows.runsOneWayRow.domain false) (Rows.runsOneWaySpec.post enc Try.prog Try.f12 false true false false) := by
  refine returnsInHanded_of_change (C := Try.checked) own started (by kernel_rfl) Try.func12
    (ChangeSpec.witness6 (enc := enc) (C := Try.checked) false ⟨#[], #[.int .u8 0, .slice none 0 0, .slice none 0 0], []⟩ 8 (by kernel_rfl) (by kernel_rfl) (by kernel_rfl) (by kernel_rfl)) ?_
  intro W base args ds gs before hval0 hW hcnd _
  have hval : ∀ (j : Nat) t v, Try.f12.params[j]? = some t → args[j]? = some v → Value.okWide Try.prog W .any base t v := hval0
  have hW' := hW
  obtain ⟨p, q, hA0, hV, rfl, hfz, hnd⟩ := hW
  have hA : DataW.TrodAll enc Try.prog W 0 (fun _ => true) true Try.f12.params.toList args.toList ds p := hA0
  rw [Try.params12] at hA hval
  obtain ⟨v0, vs0, d0, ds0, p0, q0, hargs, rfl, rfl, h0, r0⟩ := trodAll_cons hA
  obtain ⟨v1, vs1, d1, ds1, p1, q1, rfl, rfl, rfl, h1, r1⟩ := trodAll_cons r0
  obtain ⟨v2, vs2, d2, ds2, p2, q2, rfl, rfl, rfl, h2, r2⟩ := trodAll_cons r1
  obtain ⟨rfl, rfl, rfl⟩ := trodAll_nil r2
  obtain rfl : args = #[v0, v1, v2] := by cases args; simp_all
  obtain ⟨rfl, rfl⟩ := trodVars_none hV
  obtain ⟨a0, rfl, rfl, rfl, w0⟩ := open_int Try.underlying5 (hval 0 5 v0 rfl rfl) h0
  have b0 := bounds_u8 w0
  obtain ⟨a1, len1, cap1, rfl⟩ := okWide_slice Try.underlying156 (hval 1 156 v1 rfl rfl)
  have k1 := h1
  have lt1 : ∀ x ∈ p1, x.block < W.heap.size := by obtain ⟨m, hm⟩ := k1; exact DataW.trod_lt m _ _ _ hm
  obtain ⟨g1, w1, q1, m1⟩ : ∃ g : Nat → Int, Ro W (.slice a1 len1 cap1) 1 len1 (flat (fun i => (LI .u8).enc (g i)) len1) ∧ (∀ i, i < len1 → (fun z => (0 ≤ z ∧ z ≤ 255)) (g i)) ∧ len1 ≤ maxLen := by
    obtain ⟨fuel, hf⟩ := h1
    exact open_ro (α := Int) (sz := 1) (LI .u8).enc (fun z => (0 ≤ z ∧ z ≤ 255)) Try.underlying156 (by kernel_rfl) (by decide) (fun _ => enc_len _ _) (fun n cs y hy => by
      obtain ⟨a0, hc, b0⟩ := shape_5 hy
      exact ⟨a0, hc, b0⟩) hf
  obtain ⟨a2, len2, cap2, rfl⟩ := okWide_slice Try.underlying156 (hval 2 156 v2 rfl rfl)
  have k2 := h2
  have lt2 : ∀ x ∈ p2, x.block < W.heap.size := by obtain ⟨m, hm⟩ := k2; exact DataW.trod_lt m _ _ _ hm
  obtain ⟨g2, w2, q2, m2⟩ : ∃ g : Nat → Int, Ro W (.slice a2 len2 cap2) 1 len2 (flat (fun i => (LI .u8).enc (g i)) len2) ∧ (∀ i, i < len2 → (fun z => (0 ≤ z ∧ z ≤ 255)) (g i)) ∧ len2 ≤ maxLen := by
    obtain ⟨fuel, hf⟩ := h2
    exact open_ro (α := Int) (sz := 1) (LI .u8).enc (fun z => (0 ≤ z ∧ z ≤ 255)) Try.underlying156 (by kernel_rfl) (by decide) (fun _ => enc_len _ _) (fun n cs y hy => by
      obtain ⟨a0, hc, b0⟩ := shape_5 hy
      exact ⟨a0, hc, b0⟩) hf
  clear hA0 hval0
  refine ((c_law01_RunsOneWay (K := fun w => Since [] W w) (Fz.of_ro (L := (LI .u8)) rfl ⟨_, _, rfl⟩ w1) (Fz.of_ro (L := (LI .u8)) rfl ⟨_, _, rfl⟩ w2) (oneway_true b0 (fun x hx => by obtain ⟨i, hi, rfl⟩ := List.mem_map.1 hx; exact q1 _ (List.mem_range.1 hi)) (fun x hx => by obtain ⟨i, hi, rfl⟩ := List.mem_map.1 hx; exact q2 _ (List.mem_range.1 hi)))).calls W (Since.refl _ _) (HpOk.nil _ _ _)).mono fun e W' ⟨_, _, he, hsi, _⟩ => ?_
  have bel := Below.of_since hsi
  subst he
  exact ⟨_, rfl, _, _, _, [], _, [], hW', trodAll_mk1 (shut_bool Try.underlying4 _), (trodAll_cons_mk (shut_int Try.underlying5 w0) (trodAll_cons_mk (Below.trod laidOut (by kernel_rfl) (of_decide_eq_true (by kernel_rfl)) k1 bel lt1) (trodAll_cons_mk (Below.trod laidOut (by kernel_rfl) (of_decide_eq_true (by kernel_rfl)) k2 bel lt2) trodAll_mk0))), rfl, bel.frame _, fun h => by cases h⟩
theorem over : Rows.runsOneWayRow.holds Try.pinned (OpenSpec.ofChange Rows.runsOneWaySpec) :=
  OpenClaim.holds_of_wide 12 Try.f12 rfl rfl rfl rfl rfl rfl rfl ⟨rfl, rfl, rfl, rfl, rfl⟩ rfl rfl rfl rfl rfl (by kernel_rfl) Try.func12 (by kernel_rfl)
    (of_decide_eq_true (by kernel_rfl)) (by unfold Func.isWrapper; first | (rw [if_pos (by decide +kernel)]; kernel_rfl) | (rw [if_neg (by decide +kernel)]; exact ⟨rfl, rfl⟩))
    (fun os started H enc _ => lifted os started H enc)
/-- THE STATEMENT -/
theorem proved : Rows.RunsOneWaySaid := over
#print axioms proved
end Go.Proofs.Ytcdnmiianjaglaa.runsOneWay
