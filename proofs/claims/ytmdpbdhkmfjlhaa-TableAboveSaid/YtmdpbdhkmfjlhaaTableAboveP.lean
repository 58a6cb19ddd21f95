/- PROVED HERE: Rows.TableAboveSaid: for every list of acts, bailiwicklaw05.TableAbove returns true and leaves its arguments as they were. No condition. -/
import Derived.Test.YtmdpbdhkmfjlhaaRows
import Derived.Test.YtmdpbdhkmfjlhaaL05e
import Derived.Test.YtmdpbdhkmfjlhaaOpn
namespace Go.Proofs.Ytmdpbdhkmfjlhaa.tableAbove
open Go.ChangeShapes Go.WideShapes Go.ChangeAt Go.RowKit Go.Bw
set_option maxRecDepth 100000 in
theorem opn_80 {W : World} : Opn Try.prog W 80 L_ref04_Extent (fun z => ((∀ x0 ∈ z.Runs, (∀ i1, i1 < 2 → (-9223372036854775808 ≤ (x0 i1) ∧ (x0 i1) ≤ 9223372036854775807))) ∧ (-9223372036854775808 ≤ z.Len ∧ z.Len ≤ 9223372036854775807))) := by
  intro H enc base spare held n cs y h
  obtain ⟨hl, hp⟩ := trod_parts Try.underlying80 h
  have hl : cs.length = 2 := hl.trans (by kernel_rfl)
  obtain ⟨_, _, h0⟩ := hp 0 _ rfl
  obtain ⟨z0, r0, b0⟩ := (Opn_sl (L := (LA (LI .i64) 2)) (sz := 2) Try.underlying78 (by kernel_rfl) (by kernel_rfl) (by decide) (Opn_arr (L := (LI .i64)) (sz := 1) Try.underlying226 (by kernel_rfl) (by kernel_rfl) (by kernel_rfl) (Opn_i64 Try.underlying3))) H enc base spare held _ _ _ h0
  change ((LSl (LA (LI .i64) 2))).rep _ (List.take (Try.prog.cellsOf 78) (List.drop 0 cs)) z0 at r0
  rw [show Try.prog.cellsOf 78 = 1 from by kernel_rfl] at r0
  obtain ⟨_, _, h1⟩ := hp 1 _ rfl
  obtain ⟨z1, r1, b1⟩ := (Opn_i64 Try.underlying3) H enc base spare held _ _ _ h1
  change ((LI .i64)).rep _ (List.take (Try.prog.cellsOf 3) (List.drop 1 cs)) z1 at r1
  rw [show Try.prog.cellsOf 3 = 1 from by kernel_rfl] at r1
  refine ⟨⟨z0, z1⟩, ?_, b0, b1⟩
  show (LP (LSl (LA (LI .i64) 2)) (LI .i64)).rep _ (List.drop 0 cs) (z0, z1)
  exact (LP_open (by kernel_rfl) r0 (L_last hl r1))
set_option maxRecDepth 100000 in
theorem opn_83 {W : World} : Opn Try.prog W 83 L_ref05_Region (fun z => ((-9223372036854775808 ≤ z.Up ∧ z.Up ≤ 9223372036854775807) ∧ (-9223372036854775808 ≤ z.Quota ∧ z.Quota ≤ 9223372036854775807) ∧ ((∀ x0 ∈ z.E.Runs, (∀ i1, i1 < 2 → (-9223372036854775808 ≤ (x0 i1) ∧ (x0 i1) ≤ 9223372036854775807))) ∧ (-9223372036854775808 ≤ z.E.Len ∧ z.E.Len ≤ 9223372036854775807)) ∧ (∀ i0, i0 < 8 → (-9223372036854775808 ≤ (z.Cells i0) ∧ (z.Cells i0) ≤ 9223372036854775807)))) := by
  intro H enc base spare held n cs y h
  obtain ⟨hl, hp⟩ := trod_parts Try.underlying83 h
  have hl : cs.length = 12 := hl.trans (by kernel_rfl)
  obtain ⟨_, _, h0⟩ := hp 0 _ rfl
  obtain ⟨z0, r0, b0⟩ := (Opn_i64 Try.underlying3) H enc base spare held _ _ _ h0
  change ((LI .i64)).rep _ (List.take (Try.prog.cellsOf 3) (List.drop 0 cs)) z0 at r0
  rw [show Try.prog.cellsOf 3 = 1 from by kernel_rfl] at r0
  obtain ⟨_, _, h1⟩ := hp 1 _ rfl
  obtain ⟨z1, r1, b1⟩ := (Opn_i64 Try.underlying3) H enc base spare held _ _ _ h1
  change ((LI .i64)).rep _ (List.take (Try.prog.cellsOf 3) (List.drop 1 cs)) z1 at r1
  rw [show Try.prog.cellsOf 3 = 1 from by kernel_rfl] at r1
  obtain ⟨_, _, h2⟩ := hp 2 _ rfl
  obtain ⟨z2, r2, b2⟩ := opn_80 H enc base spare held _ _ _ h2
  change (L_ref04_Extent).rep _ (List.take (Try.prog.cellsOf 80) (List.drop 2 cs)) z2 at r2
  rw [show Try.prog.cellsOf 80 = 2 from by kernel_rfl] at r2
  obtain ⟨_, _, h3⟩ := hp 3 _ rfl
  obtain ⟨z3, r3, b3⟩ := (Opn_arr (L := (LI .i64)) (sz := 1) Try.underlying81 (by kernel_rfl) (by kernel_rfl) (by kernel_rfl) (Opn_i64 Try.underlying3)) H enc base spare held _ _ _ h3
  change ((LA (LI .i64) 8)).rep _ (List.take (Try.prog.cellsOf 81) (List.drop 4 cs)) z3 at r3
  rw [show Try.prog.cellsOf 81 = 8 from by kernel_rfl] at r3
  refine ⟨⟨z0, z1, z2, z3⟩, ?_, b0, b1, b2, b3⟩
  show (LP (LI .i64) (LP (LI .i64) (LP L_ref04_Extent (LA (LI .i64) 8)))).rep _ (List.drop 0 cs) (z0, z1, z2, z3)
  exact (LP_open (by kernel_rfl) r0 (LP_open (by kernel_rfl) r1 (LP_open (by kernel_rfl) r2 (L_last hl r3))))
set_option maxRecDepth 100000 in
theorem opn_85 {W : World} : Opn Try.prog W 85 L_law05_Act (fun z => ((0 ≤ z.Do ∧ z.Do ≤ 255) ∧ (0 ≤ z.A ∧ z.A ≤ 4294967295) ∧ (0 ≤ z.B ∧ z.B ≤ 4294967295) ∧ ((-9223372036854775808 ≤ z.R.Up ∧ z.R.Up ≤ 9223372036854775807) ∧ (-9223372036854775808 ≤ z.R.Quota ∧ z.R.Quota ≤ 9223372036854775807) ∧ ((∀ x0 ∈ z.R.E.Runs, (∀ i1, i1 < 2 → (-9223372036854775808 ≤ (x0 i1) ∧ (x0 i1) ≤ 9223372036854775807))) ∧ (-9223372036854775808 ≤ z.R.E.Len ∧ z.R.E.Len ≤ 9223372036854775807)) ∧ (∀ i0, i0 < 8 → (-9223372036854775808 ≤ (z.R.Cells i0) ∧ (z.R.Cells i0) ≤ 9223372036854775807))))) := by
  intro H enc base spare held n cs y h
  obtain ⟨hl, hp⟩ := trod_parts Try.underlying85 h
  have hl : cs.length = 15 := hl.trans (by kernel_rfl)
  obtain ⟨_, _, h0⟩ := hp 0 _ rfl
  obtain ⟨z0, r0, b0⟩ := (Opn_u8 Try.underlying5) H enc base spare held _ _ _ h0
  change ((LI .u8)).rep _ (List.take (Try.prog.cellsOf 5) (List.drop 0 cs)) z0 at r0
  rw [show Try.prog.cellsOf 5 = 1 from by kernel_rfl] at r0
  obtain ⟨_, _, h1⟩ := hp 1 _ rfl
  obtain ⟨z1, r1, b1⟩ := (Opn_u32 Try.underlying61) H enc base spare held _ _ _ h1
  change ((LI .u32)).rep _ (List.take (Try.prog.cellsOf 61) (List.drop 1 cs)) z1 at r1
  rw [show Try.prog.cellsOf 61 = 1 from by kernel_rfl] at r1
  obtain ⟨_, _, h2⟩ := hp 2 _ rfl
  obtain ⟨z2, r2, b2⟩ := (Opn_u32 Try.underlying61) H enc base spare held _ _ _ h2
  change ((LI .u32)).rep _ (List.take (Try.prog.cellsOf 61) (List.drop 2 cs)) z2 at r2
  rw [show Try.prog.cellsOf 61 = 1 from by kernel_rfl] at r2
  obtain ⟨_, _, h3⟩ := hp 3 _ rfl
  obtain ⟨z3, r3, b3⟩ := opn_83 H enc base spare held _ _ _ h3
  change (L_ref05_Region).rep _ (List.take (Try.prog.cellsOf 83) (List.drop 3 cs)) z3 at r3
  rw [show Try.prog.cellsOf 83 = 12 from by kernel_rfl] at r3
  refine ⟨⟨z0, z1, z2, z3⟩, ?_, b0, b1, b2, b3⟩
  show (LP (LI .u8) (LP (LI .u32) (LP (LI .u32) L_ref05_Region))).rep _ (List.drop 0 cs) (z0, z1, z2, z3)
  exact (LP_open (by kernel_rfl) r0 (LP_open (by kernel_rfl) r1 (LP_open (by kernel_rfl) r2 (L_last hl r3))))
theorem own : ownKnob Try.prog.godebug = none := by kernel_rfl
theorem laidOut : laidOutB Try.prog = true := by kernel_rfl
set_option maxRecDepth 100000 in
theorem lifted (os : Os) (started : os.Started) (H : Type) (enc : TypeId × Value → H) :
    ReturnsInHanded {} Try.checked os 6 .any (Rows.tableAboveSpec.pre6 enc Try.prog Try.f6 Rows.tableAboveRow.domain false) (Rows.tableAboveSpec.post enc Try.prog Try.f6 false true false false) := by
  refine returnsInHanded_of_change (C := Try.checked) own started (by kernel_rfl) Try.func6
    (ChangeSpec.witness6 (enc := enc) (C := Try.checked) false ⟨#[], #[.slice none 0 0], []⟩ 8 (by kernel_rfl) (by kernel_rfl) (by kernel_rfl) (by kernel_rfl)) ?_
  intro W base args ds gs before hval0 hW hcnd _
  have hval : ∀ (j : Nat) t v, Try.f6.params[j]? = some t → args[j]? = some v → Value.okWide Try.prog W .any base t v := hval0
  have hW' := hW
  obtain ⟨p, q, hA0, hV, rfl, hfz, hnd⟩ := hW
  have hA : DataW.TrodAll enc Try.prog W 0 (fun _ => true) true Try.f6.params.toList args.toList ds p := hA0
  rw [Try.params6] at hA hval
  obtain ⟨v0, vs0, d0, ds0, p0, q0, hargs, rfl, rfl, h0, r0⟩ := trodAll_cons hA
  obtain ⟨rfl, rfl, rfl⟩ := trodAll_nil r0
  obtain rfl : args = #[v0] := by cases args; simp_all
  obtain ⟨rfl, rfl⟩ := trodVars_none hV
  obtain ⟨a0, len0, cap0, rfl⟩ := okWide_slice Try.underlying59 (hval 0 59 v0 rfl rfl)
  have k0 := h0
  have lt0 : ∀ x ∈ p0, x.block < W.heap.size := by obtain ⟨m, hm⟩ := k0; exact DataW.trod_lt m _ _ _ hm
  obtain ⟨fuel0, hf0⟩ := h0
  obtain ⟨z0, rp0, b0⟩ := (Opn_sn (L := L_law05_Act) (sz := 15) Try.underlying59 (by kernel_rfl) (by kernel_rfl) (by decide) opn_85) H enc _ _ _ _ _ _ hf0
  obtain ⟨ws0, fz0⟩ := sn_of rp0
  clear hA0 hval0
  refine ((c_law05_TableAbove (K := fun w => Since [] W w) fz0 (above5_true b0)).calls W (Since.refl _ _) (HpOk.nil _ _ _)).mono fun e W' ⟨_, _, he, hsi, _⟩ => ?_
  have bel := Below.of_since hsi
  subst he
  exact ⟨_, rfl, _, _, _, [], _, [], hW', trodAll_mk1 (shut_bool Try.underlying4 _), (trodAll_cons_mk (Below.trod laidOut (by kernel_rfl) (of_decide_eq_true (by kernel_rfl)) k0 bel lt0) trodAll_mk0), rfl, bel.frame _, fun h => by cases h⟩
theorem over : Rows.tableAboveRow.holds Try.pinned (OpenSpec.ofChange Rows.tableAboveSpec) :=
  OpenClaim.holds_of_wide 6 Try.f6 rfl rfl rfl rfl rfl rfl rfl ⟨rfl, rfl, rfl, rfl, rfl⟩ rfl rfl rfl rfl rfl (by kernel_rfl) Try.func6 (by kernel_rfl)
    (of_decide_eq_true (by kernel_rfl)) (by unfold Func.isWrapper; first | (rw [if_pos (by decide +kernel)]; kernel_rfl) | (rw [if_neg (by decide +kernel)]; exact ⟨rfl, rfl⟩))
    (fun os started H enc _ => lifted os started H enc)
/-- THE STATEMENT -/
theorem proved : Rows.TableAboveSaid := over
#print axioms proved
end Go.Proofs.Ytmdpbdhkmfjlhaa.tableAbove
