/- PROVED HERE: Rows.ExtentApartSaid: for every list of objects, bailiwicklaw04.ExtentApart returns true and leaves the list as it was. No condition. -/
import Derived.Test.YtcdnmiianjaglaaRows
import Derived.Test.YtcdnmiianjaglaaL04e
import Derived.Test.YtcdnmiianjaglaaOpn
namespace Go.Proofs.Ytcdnmiianjaglaa.extentApart
open Go.ChangeShapes Go.WideShapes Go.ChangeAt Go.RowKit Go.Bw
set_option maxRecDepth 100000 in
theorem opn_142 {W : World} : Opn Try.prog W 142 L_law04_Object (fun z => ((0 ≤ z.Size ∧ z.Size ≤ 255) ∧ (0 ≤ z.Align ∧ z.Align ≤ 255))) := by
  intro H enc base spare held n cs y h
  obtain ⟨hl, hp⟩ := trod_parts Try.underlying142 h
  have hl : cs.length = 2 := hl.trans (by kernel_rfl)
  obtain ⟨_, _, h0⟩ := hp 0 _ rfl
  obtain ⟨z0, r0, b0⟩ := (Opn_u8 Try.underlying5) H enc base spare held _ _ _ h0
  change ((LI .u8)).rep _ (List.take (Try.prog.cellsOf 5) (List.drop 0 cs)) z0 at r0
  rw [show Try.prog.cellsOf 5 = 1 from by kernel_rfl] at r0
  obtain ⟨_, _, h1⟩ := hp 1 _ rfl
  obtain ⟨z1, r1, b1⟩ := (Opn_u8 Try.underlying5) H enc base spare held _ _ _ h1
  change ((LI .u8)).rep _ (List.take (Try.prog.cellsOf 5) (List.drop 1 cs)) z1 at r1
  rw [show Try.prog.cellsOf 5 = 1 from by kernel_rfl] at r1
  refine ⟨⟨z0, z1⟩, ?_, b0, b1⟩
  show (LP (LI .u8) (LI .u8)).rep _ (List.drop 0 cs) (z0, z1)
  exact (LP_open (by kernel_rfl) r0 (L_last hl r1))
theorem own : ownKnob Try.prog.godebug = none := by kernel_rfl
theorem laidOut : laidOutB Try.prog = true := by kernel_rfl
set_option maxRecDepth 100000 in
theorem lifted (os : Os) (started : os.Started) (H : Type) (enc : TypeId × Value → H) :
    ReturnsInHanded {} Try.checked os 10 .any (Rows.extentApartSpec.pre6 enc Try.prog Try.f10 Rows.extentApartRow.domain false) (Rows.extentApartSpec.post enc Try.prog Try.f10 false true false false) := by
  refine returnsInHanded_of_change (C := Try.checked) own started (by kernel_rfl) Try.func10
    (ChangeSpec.witness6 (enc := enc) (C := Try.checked) false ⟨#[], #[.slice none 0 0], []⟩ 8 (by kernel_rfl) (by kernel_rfl) (by kernel_rfl) (by kernel_rfl)) ?_
  intro W base args ds gs before hval0 hW hcnd _
  have hval : ∀ (j : Nat) t v, Try.f10.params[j]? = some t → args[j]? = some v → Value.okWide Try.prog W .any base t v := hval0
  have hW' := hW
  obtain ⟨p, q, hA0, hV, rfl, hfz, hnd⟩ := hW
  have hA : DataW.TrodAll enc Try.prog W 0 (fun _ => true) true Try.f10.params.toList args.toList ds p := hA0
  rw [Try.params10] at hA hval
  obtain ⟨v0, vs0, d0, ds0, p0, q0, hargs, rfl, rfl, h0, r0⟩ := trodAll_cons hA
  obtain ⟨rfl, rfl, rfl⟩ := trodAll_nil r0
  obtain rfl : args = #[v0] := by cases args; simp_all
  obtain ⟨rfl, rfl⟩ := trodVars_none hV
  obtain ⟨a0, len0, cap0, rfl⟩ := okWide_slice Try.underlying136 (hval 0 136 v0 rfl rfl)
  have k0 := h0
  have lt0 : ∀ x ∈ p0, x.block < W.heap.size := by obtain ⟨m, hm⟩ := k0; exact DataW.trod_lt m _ _ _ hm
  obtain ⟨fuel0, hf0⟩ := h0
  obtain ⟨z0, rp0, b0⟩ := (Opn_sl (L := L_law04_Object) (sz := 2) Try.underlying136 (by kernel_rfl) (by kernel_rfl) (by decide) opn_142) H enc _ _ _ _ _ _ hf0
  clear hA0 hval0
  refine ((c_law04_ExtentApart (K := fun w => Since [] W w) (sl_of rp0) (apart_true b0)).calls W (Since.refl _ _) (HpOk.nil _ _ _)).mono fun e W' ⟨_, _, he, hsi, _⟩ => ?_
  have bel := Below.of_since hsi
  subst he
  exact ⟨_, rfl, _, _, _, [], _, [], hW', trodAll_mk1 (shut_bool Try.underlying4 _), (trodAll_cons_mk (Below.trod laidOut (by kernel_rfl) (of_decide_eq_true (by kernel_rfl)) k0 bel lt0) trodAll_mk0), rfl, bel.frame _, fun h => by cases h⟩
theorem over : Rows.extentApartRow.holds Try.pinned (OpenSpec.ofChange Rows.extentApartSpec) :=
  OpenClaim.holds_of_wide 10 Try.f10 rfl rfl rfl rfl rfl rfl rfl ⟨rfl, rfl, rfl, rfl, rfl⟩ rfl rfl rfl rfl rfl (by kernel_rfl) Try.func10 (by kernel_rfl)
    (of_decide_eq_true (by kernel_rfl)) (by unfold Func.isWrapper; first | (rw [if_pos (by decide +kernel)]; kernel_rfl) | (rw [if_neg (by decide +kernel)]; exact ⟨rfl, rfl⟩))
    (fun os started H enc _ => lifted os started H enc)
/-- THE STATEMENT -/
theorem proved : Rows.ExtentApartSaid := over
#print axioms proved
end Go.Proofs.Ytcdnmiianjaglaa.extentApart
