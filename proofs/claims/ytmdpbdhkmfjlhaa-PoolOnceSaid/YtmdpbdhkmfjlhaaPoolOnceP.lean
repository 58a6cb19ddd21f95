/- PROVED HERE: Rows.PoolOnceSaid: for every number of pages and list of acts, bailiwicklaw02.PoolOnce returns true and leaves its arguments as they were. No condition. -/
import Derived.Test.YtmdpbdhkmfjlhaaRows
import Derived.Test.YtmdpbdhkmfjlhaaL02d
import Derived.Test.YtmdpbdhkmfjlhaaOpn
namespace Go.Proofs.Ytmdpbdhkmfjlhaa.poolOnce
open Go.ChangeShapes Go.WideShapes Go.ChangeAt Go.RowKit Go.Bw
set_option maxRecDepth 100000 in
theorem opn_31 {W : World} : Opn Try.prog W 31 L_law02_Act (fun z => ((0 ≤ z.Do ∧ z.Do ≤ 255) ∧ (-9223372036854775808 ≤ z.N ∧ z.N ≤ 9223372036854775807) ∧ (0 ≤ z.B ∧ z.B ≤ 255))) := by
  intro H enc base spare held n cs y h
  obtain ⟨hl, hp⟩ := trod_parts Try.underlying31 h
  have hl : cs.length = 3 := hl.trans (by kernel_rfl)
  obtain ⟨_, _, h0⟩ := hp 0 _ rfl
  obtain ⟨z0, r0, b0⟩ := (Opn_u8 Try.underlying5) H enc base spare held _ _ _ h0
  change ((LI .u8)).rep _ (List.take (Try.prog.cellsOf 5) (List.drop 0 cs)) z0 at r0
  rw [show Try.prog.cellsOf 5 = 1 from by kernel_rfl] at r0
  obtain ⟨_, _, h1⟩ := hp 1 _ rfl
  obtain ⟨z1, r1, b1⟩ := (Opn_i64 Try.underlying3) H enc base spare held _ _ _ h1
  change ((LI .i64)).rep _ (List.take (Try.prog.cellsOf 3) (List.drop 1 cs)) z1 at r1
  rw [show Try.prog.cellsOf 3 = 1 from by kernel_rfl] at r1
  obtain ⟨_, _, h2⟩ := hp 2 _ rfl
  obtain ⟨z2, r2, b2⟩ := (Opn_u8 Try.underlying5) H enc base spare held _ _ _ h2
  change ((LI .u8)).rep _ (List.take (Try.prog.cellsOf 5) (List.drop 2 cs)) z2 at r2
  rw [show Try.prog.cellsOf 5 = 1 from by kernel_rfl] at r2
  refine ⟨⟨z0, z1, z2⟩, ?_, b0, b1, b2⟩
  show (LP (LI .u8) (LP (LI .i64) (LI .u8))).rep _ (List.drop 0 cs) (z0, z1, z2)
  exact (LP_open (by kernel_rfl) r0 (LP_open (by kernel_rfl) r1 (L_last hl r2)))
theorem own : ownKnob Try.prog.godebug = none := by kernel_rfl
theorem laidOut : laidOutB Try.prog = true := by kernel_rfl
set_option maxRecDepth 100000 in
theorem lifted (os : Os) (started : os.Started) (H : Type) (enc : TypeId × Value → H) :
    ReturnsInHanded {} Try.checked os 5 .any (Rows.poolOnceSpec.pre6 enc Try.prog Try.f5 Rows.poolOnceRow.domain false) (Rows.poolOnceSpec.post enc Try.prog Try.f5 false true false false) := by
  refine returnsInHanded_of_change (C := Try.checked) own started (by kernel_rfl) Try.func5
    (ChangeSpec.witness6 (enc := enc) (C := Try.checked) false ⟨#[], #[.int .u8 0, .slice none 0 0], []⟩ 8 (by kernel_rfl) (by kernel_rfl) (by kernel_rfl) (by kernel_rfl)) ?_
  intro W base args ds gs before hval0 hW hcnd _
  have hval : ∀ (j : Nat) t v, Try.f5.params[j]? = some t → args[j]? = some v → Value.okWide Try.prog W .any base t v := hval0
  have hW' := hW
  obtain ⟨p, q, hA0, hV, rfl, hfz, hnd⟩ := hW
  have hA : DataW.TrodAll enc Try.prog W 0 (fun _ => true) true Try.f5.params.toList args.toList ds p := hA0
  rw [Try.params5] at hA hval
  obtain ⟨v0, vs0, d0, ds0, p0, q0, hargs, rfl, rfl, h0, r0⟩ := trodAll_cons hA
  obtain ⟨v1, vs1, d1, ds1, p1, q1, rfl, rfl, rfl, h1, r1⟩ := trodAll_cons r0
  obtain ⟨rfl, rfl, rfl⟩ := trodAll_nil r1
  obtain rfl : args = #[v0, v1] := by cases args; simp_all
  obtain ⟨rfl, rfl⟩ := trodVars_none hV
  obtain ⟨a0, rfl, rfl, rfl, w0⟩ := open_int Try.underlying5 (hval 0 5 v0 rfl rfl) h0
  have b0 := bounds_u8 w0
  obtain ⟨a1, len1, cap1, rfl⟩ := okWide_slice Try.underlying22 (hval 1 22 v1 rfl rfl)
  have k1 := h1
  have lt1 : ∀ x ∈ p1, x.block < W.heap.size := by obtain ⟨m, hm⟩ := k1; exact DataW.trod_lt m _ _ _ hm
  obtain ⟨fuel1, hf1⟩ := h1
  obtain ⟨z1, rp1, b1⟩ := (Opn_sl (L := L_law02_Act) (sz := 3) Try.underlying22 (by kernel_rfl) (by kernel_rfl) (by decide) opn_31) H enc _ _ _ _ _ _ hf1
  clear hA0 hval0
  refine ((c_law02_PoolOnce (K := fun w => Since [] W w) (sl_of rp1) (once2_true b0 b1)).calls W (Since.refl _ _) (HpOk.nil _ _ _)).mono fun e W' ⟨_, _, he, hsi, _⟩ => ?_
  have bel := Below.of_since hsi
  subst he
  exact ⟨_, rfl, _, _, _, [], _, [], hW', trodAll_mk1 (shut_bool Try.underlying4 _), (trodAll_cons_mk (shut_int Try.underlying5 w0) (trodAll_cons_mk (Below.trod laidOut (by kernel_rfl) (of_decide_eq_true (by kernel_rfl)) k1 bel lt1) trodAll_mk0)), rfl, bel.frame _, fun h => by cases h⟩
theorem over : Rows.poolOnceRow.holds Try.pinned (OpenSpec.ofChange Rows.poolOnceSpec) :=
  OpenClaim.holds_of_wide 5 Try.f5 rfl rfl rfl rfl rfl rfl rfl ⟨rfl, rfl, rfl, rfl, rfl⟩ rfl rfl rfl rfl rfl (by kernel_rfl) Try.func5 (by kernel_rfl)
    (of_decide_eq_true (by kernel_rfl)) (by unfold Func.isWrapper; first | (rw [if_pos (by decide +kernel)]; kernel_rfl) | (rw [if_neg (by decide +kernel)]; exact ⟨rfl, rfl⟩))
    (fun os started H enc _ => lifted os started H enc)
/-- THE STATEMENT -/
theorem proved : Rows.PoolOnceSaid := over
#print axioms proved
end Go.Proofs.Ytmdpbdhkmfjlhaa.poolOnce
