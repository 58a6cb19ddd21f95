/- PROVED HERE: Rows.ExtentTellsSaid: for every extent, size, alignment, address, page and number of pages, bailiwicklaw04.ExtentTells returns true and leaves the extent as it was. No condition. -/
import Derived.Test.YtcdnmiianjaglaaRows
import Derived.Test.YtcdnmiianjaglaaL04d
import Derived.Test.YtcdnmiianjaglaaOpn
namespace Go.Proofs.Ytcdnmiianjaglaa.extentTells
open Go.ChangeShapes Go.WideShapes Go.ChangeAt Go.RowKit Go.Bw
set_option maxRecDepth 100000 in
theorem opn_119 {W : World} : Opn Try.prog W 119 L_ref04_Extent (fun z => ((∀ x0 ∈ z.Runs, (∀ i1, i1 < 2 → (-9223372036854775808 ≤ (x0 i1) ∧ (x0 i1) ≤ 9223372036854775807))) ∧ (-9223372036854775808 ≤ z.Len ∧ z.Len ≤ 9223372036854775807))) := by
  intro H enc base spare held n cs y h
  obtain ⟨hl, hp⟩ := trod_parts Try.underlying119 h
  have hl : cs.length = 2 := hl.trans (by kernel_rfl)
  obtain ⟨_, _, h0⟩ := hp 0 _ rfl
  obtain ⟨z0, r0, b0⟩ := (Opn_sl (L := (LA (LI .i64) 2)) (sz := 2) Try.underlying117 (by kernel_rfl) (by kernel_rfl) (by decide) (Opn_arr (L := (LI .i64)) (sz := 1) Try.underlying134 (by kernel_rfl) (by kernel_rfl) (by kernel_rfl) (Opn_i64 Try.underlying3))) H enc base spare held _ _ _ h0
  change ((LSl (LA (LI .i64) 2))).rep _ (List.take (Try.prog.cellsOf 117) (List.drop 0 cs)) z0 at r0
  rw [show Try.prog.cellsOf 117 = 1 from by kernel_rfl] at r0
  obtain ⟨_, _, h1⟩ := hp 1 _ rfl
  obtain ⟨z1, r1, b1⟩ := (Opn_i64 Try.underlying3) H enc base spare held _ _ _ h1
  change ((LI .i64)).rep _ (List.take (Try.prog.cellsOf 3) (List.drop 1 cs)) z1 at r1
  rw [show Try.prog.cellsOf 3 = 1 from by kernel_rfl] at r1
  refine ⟨⟨z0, z1⟩, ?_, b0, b1⟩
  show (LP (LSl (LA (LI .i64) 2)) (LI .i64)).rep _ (List.drop 0 cs) (z0, z1)
  exact (LP_open (by kernel_rfl) r0 (L_last hl r1))
theorem own : ownKnob Try.prog.godebug = none := by kernel_rfl
theorem laidOut : laidOutB Try.prog = true := by kernel_rfl
set_option maxRecDepth 100000 in
theorem lifted (os : Os) (started : os.Started) (H : Type) (enc : TypeId × Value → H) :
    ReturnsInHanded {} Try.checked os 9 .any (Rows.extentTellsSpec.pre6 enc Try.prog Try.f9 Rows.extentTellsRow.domain false) (Rows.extentTellsSpec.post enc Try.prog Try.f9 false true false false) := by
  refine returnsInHanded_of_change (C := Try.checked) own started (by kernel_rfl) Try.func9
    (ChangeSpec.witness6 (enc := enc) (C := Try.checked) false ⟨#[], #[.agg #[.slice none 0 0, .int .i64 0], .int .i64 0, .int .i64 0, .int .i64 0, .int .i64 0, .int .i64 0], []⟩ 8 (by kernel_rfl) (by kernel_rfl) (by kernel_rfl) (by kernel_rfl)) ?_
  intro W base args ds gs before hval0 hW hcnd _
  have hval : ∀ (j : Nat) t v, Try.f9.params[j]? = some t → args[j]? = some v → Value.okWide Try.prog W .any base t v := hval0
  have hW' := hW
  obtain ⟨p, q, hA0, hV, rfl, hfz, hnd⟩ := hW
  have hA : DataW.TrodAll enc Try.prog W 0 (fun _ => true) true Try.f9.params.toList args.toList ds p := hA0
  rw [Try.params9] at hA hval
  obtain ⟨v0, vs0, d0, ds0, p0, q0, hargs, rfl, rfl, h0, r0⟩ := trodAll_cons hA
  obtain ⟨v1, vs1, d1, ds1, p1, q1, rfl, rfl, rfl, h1, r1⟩ := trodAll_cons r0
  obtain ⟨v2, vs2, d2, ds2, p2, q2, rfl, rfl, rfl, h2, r2⟩ := trodAll_cons r1
  obtain ⟨v3, vs3, d3, ds3, p3, q3, rfl, rfl, rfl, h3, r3⟩ := trodAll_cons r2
  obtain ⟨v4, vs4, d4, ds4, p4, q4, rfl, rfl, rfl, h4, r4⟩ := trodAll_cons r3
  obtain ⟨v5, vs5, d5, ds5, p5, q5, rfl, rfl, rfl, h5, r5⟩ := trodAll_cons r4
  obtain ⟨rfl, rfl, rfl⟩ := trodAll_nil r5
  obtain rfl : args = #[v0, v1, v2, v3, v4, v5] := by cases args; simp_all
  obtain ⟨rfl, rfl⟩ := trodVars_none hV
  obtain ⟨ar0, rfl, _⟩ := okWide_struct Try.underlying119 (hval 0 119 v0 rfl rfl)
  obtain ⟨cs0⟩ := ar0
  have k0 := h0
  have lt0 : ∀ x ∈ p0, x.block < W.heap.size := by obtain ⟨m, hm⟩ := k0; exact DataW.trod_lt m _ _ _ hm
  obtain ⟨fuel0, hf0⟩ := h0
  obtain ⟨z0, rp0, b0⟩ := opn_119 H enc _ _ _ _ _ _ hf0
  obtain ⟨a1, rfl, rfl, rfl, w1⟩ := open_int Try.underlying3 (hval 1 3 v1 rfl rfl) h1
  have b1 := bounds_i64 w1
  obtain ⟨a2, rfl, rfl, rfl, w2⟩ := open_int Try.underlying3 (hval 2 3 v2 rfl rfl) h2
  have b2 := bounds_i64 w2
  obtain ⟨a3, rfl, rfl, rfl, w3⟩ := open_int Try.underlying3 (hval 3 3 v3 rfl rfl) h3
  have b3 := bounds_i64 w3
  obtain ⟨a4, rfl, rfl, rfl, w4⟩ := open_int Try.underlying3 (hval 4 3 v4 rfl rfl) h4
  have b4 := bounds_i64 w4
  obtain ⟨a5, rfl, rfl, rfl, w5⟩ := open_int Try.underlying3 (hval 5 3 v5 rfl rfl) h5
  have b5 := bounds_i64 w5
  clear hA0 hval0
  refine ((c_law04_ExtentTells (K := fun w => Since [] W w) (agg_of rp0) (tells_true b0 b1 b2 b3 b4 b5)).calls W (Since.refl _ _) (HpOk.nil _ _ _)).mono fun e W' ⟨_, _, he, hsi, _⟩ => ?_
  have bel := Below.of_since hsi
  subst he
  exact ⟨_, rfl, _, _, _, [], _, [], hW', trodAll_mk1 (shut_bool Try.underlying4 _), (trodAll_cons_mk (Below.trod laidOut (by kernel_rfl) (of_decide_eq_true (by kernel_rfl)) k0 bel lt0) (trodAll_cons_mk (shut_int Try.underlying3 w1) (trodAll_cons_mk (shut_int Try.underlying3 w2) (trodAll_cons_mk (shut_int Try.underlying3 w3) (trodAll_cons_mk (shut_int Try.underlying3 w4) (trodAll_cons_mk (shut_int Try.underlying3 w5) trodAll_mk0)))))), rfl, bel.frame _, fun h => by cases h⟩
theorem over : Rows.extentTellsRow.holds Try.pinned (OpenSpec.ofChange Rows.extentTellsSpec) :=
  OpenClaim.holds_of_wide 9 Try.f9 rfl rfl rfl rfl rfl rfl rfl ⟨rfl, rfl, rfl, rfl, rfl⟩ rfl rfl rfl rfl rfl (by kernel_rfl) Try.func9 (by kernel_rfl)
    (of_decide_eq_true (by kernel_rfl)) (by unfold Func.isWrapper; first | (rw [if_pos (by decide +kernel)]; kernel_rfl) | (rw [if_neg (by decide +kernel)]; exact ⟨rfl, rfl⟩))
    (fun os started H enc _ => lifted os started H enc)
/-- THE STATEMENT -/
theorem proved : Rows.ExtentTellsSaid := over
#print axioms proved
end Go.Proofs.Ytcdnmiianjaglaa.extentTells
