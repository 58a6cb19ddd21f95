/- PROVED HERE: Rows.TokenOneWriterSaid: for every list of acts, bailiwicklaw09.TokenOneWriter returns true and leaves its arguments as they were. No condition. -/
import Derived.Test.YtcdnmiianjaglaaRows
import Derived.Test.YtcdnmiianjaglaaL09g
import Derived.Test.YtcdnmiianjaglaaOpn
namespace Go.Proofs.Ytcdnmiianjaglaa.tokenOneWriter
open Go.ChangeShapes Go.WideShapes Go.ChangeAt Go.RowKit Go.Bw
set_option maxRecDepth 100000 in
theorem opn_163 {W : World} : Opn Try.prog W 163 L_token_Token (fun z => ((0 ≤ z.Region ∧ z.Region ≤ 4294967295) ∧ (0 ≤ z.By ∧ z.By ≤ 255) ∧ (0 ≤ z.To ∧ z.To ≤ 255) ∧ (0 ≤ z.Above ∧ z.Above ≤ 4294967295))) := by
  intro H enc base spare held n cs y h
  obtain ⟨hl, hp⟩ := trod_parts Try.underlying163 h
  have hl : cs.length = 5 := hl.trans (by kernel_rfl)
  obtain ⟨_, _, h0⟩ := hp 0 _ rfl
  obtain ⟨z0, r0, b0⟩ := (Opn_u32 Try.underlying26) H enc base spare held _ _ _ h0
  change ((LI .u32)).rep _ (List.take (Try.prog.cellsOf 26) (List.drop 0 cs)) z0 at r0
  rw [show Try.prog.cellsOf 26 = 1 from by kernel_rfl] at r0
  obtain ⟨_, _, h1⟩ := hp 1 _ rfl
  obtain ⟨z1, r1, b1⟩ := (Opn_u8 Try.underlying5) H enc base spare held _ _ _ h1
  change ((LI .u8)).rep _ (List.take (Try.prog.cellsOf 5) (List.drop 1 cs)) z1 at r1
  rw [show Try.prog.cellsOf 5 = 1 from by kernel_rfl] at r1
  obtain ⟨_, _, h2⟩ := hp 2 _ rfl
  obtain ⟨z2, r2, b2⟩ := (Opn_u8 Try.underlying5) H enc base spare held _ _ _ h2
  change ((LI .u8)).rep _ (List.take (Try.prog.cellsOf 5) (List.drop 2 cs)) z2 at r2
  rw [show Try.prog.cellsOf 5 = 1 from by kernel_rfl] at r2
  obtain ⟨_, _, h3⟩ := hp 3 _ rfl
  obtain ⟨z3, r3, b3⟩ := (Opn_bool Try.underlying4) H enc base spare held _ _ _ h3
  change (LB).rep _ (List.take (Try.prog.cellsOf 4) (List.drop 3 cs)) z3 at r3
  rw [show Try.prog.cellsOf 4 = 1 from by kernel_rfl] at r3
  obtain ⟨_, _, h4⟩ := hp 4 _ rfl
  obtain ⟨z4, r4, b4⟩ := (Opn_u32 Try.underlying26) H enc base spare held _ _ _ h4
  change ((LI .u32)).rep _ (List.take (Try.prog.cellsOf 26) (List.drop 4 cs)) z4 at r4
  rw [show Try.prog.cellsOf 26 = 1 from by kernel_rfl] at r4
  refine ⟨⟨z0, z1, z2, z3, z4⟩, ?_, b0, b1, b2, b4⟩
  show (LP (LI .u32) (LP (LI .u8) (LP (LI .u8) (LP LB (LI .u32))))).rep _ (List.drop 0 cs) (z0, z1, z2, z3, z4)
  exact (LP_open (by kernel_rfl) r0 (LP_open (by kernel_rfl) r1 (LP_open (by kernel_rfl) r2 (LP_open (by kernel_rfl) r3 (L_last hl r4)))))
set_option maxRecDepth 100000 in
theorem opn_173 {W : World} : Opn Try.prog W 173 L_law09_Act (fun z => ((0 ≤ z.Do ∧ z.Do ≤ 255) ∧ (0 ≤ z.H ∧ z.H ≤ 4294967295) ∧ ((0 ≤ z.X.Region ∧ z.X.Region ≤ 4294967295) ∧ (0 ≤ z.X.By ∧ z.X.By ≤ 255) ∧ (0 ≤ z.X.To ∧ z.X.To ≤ 255) ∧ (0 ≤ z.X.Above ∧ z.X.Above ≤ 4294967295)))) := by
  intro H enc base spare held n cs y h
  obtain ⟨hl, hp⟩ := trod_parts Try.underlying173 h
  have hl : cs.length = 7 := hl.trans (by kernel_rfl)
  obtain ⟨_, _, h0⟩ := hp 0 _ rfl
  obtain ⟨z0, r0, b0⟩ := (Opn_u8 Try.underlying5) H enc base spare held _ _ _ h0
  change ((LI .u8)).rep _ (List.take (Try.prog.cellsOf 5) (List.drop 0 cs)) z0 at r0
  rw [show Try.prog.cellsOf 5 = 1 from by kernel_rfl] at r0
  obtain ⟨_, _, h1⟩ := hp 1 _ rfl
  obtain ⟨z1, r1, b1⟩ := (Opn_u32 Try.underlying25) H enc base spare held _ _ _ h1
  change ((LI .u32)).rep _ (List.take (Try.prog.cellsOf 25) (List.drop 1 cs)) z1 at r1
  rw [show Try.prog.cellsOf 25 = 1 from by kernel_rfl] at r1
  obtain ⟨_, _, h2⟩ := hp 2 _ rfl
  obtain ⟨z2, r2, b2⟩ := opn_163 H enc base spare held _ _ _ h2
  change (L_token_Token).rep _ (List.take (Try.prog.cellsOf 163) (List.drop 2 cs)) z2 at r2
  rw [show Try.prog.cellsOf 163 = 5 from by kernel_rfl] at r2
  refine ⟨⟨z0, z1, z2⟩, ?_, b0, b1, b2⟩
  show (LP (LI .u8) (LP (LI .u32) L_token_Token)).rep _ (List.drop 0 cs) (z0, z1, z2)
  exact (LP_open (by kernel_rfl) r0 (LP_open (by kernel_rfl) r1 (L_last hl r2)))
theorem own : ownKnob Try.prog.godebug = none := by kernel_rfl
theorem laidOut : laidOutB Try.prog = true := by kernel_rfl
set_option maxRecDepth 100000 in
theorem lifted (os : Os) (started : os.Started) (H : Type) (enc : TypeId × Value → H) :
    ReturnsInHanded {} Try.checked os 14 .any (Rows.tokenOneWriterSpec.pre6 enc Try.prog Try.f14 Rows.tokenOneWriterRow.domain false) (Rows.tokenOneWriterSpec.post enc Try.prog Try.f14 false true false false) := by
  refine returnsInHanded_of_change (C := Try.checked) own started (by kernel_rfl) Try.func14
    (ChangeSpec.witness6 (enc := enc) (C := Try.checked) false ⟨#[], #[.slice none 0 0], []⟩ 8 (by kernel_rfl) (by kernel_rfl) (by kernel_rfl) (by kernel_rfl)) ?_
  intro W base args ds gs before hval0 hW hcnd _
  have hval : ∀ (j : Nat) t v, Try.f14.params[j]? = some t → args[j]? = some v → Value.okWide Try.prog W .any base t v := hval0
  have hW' := hW
  obtain ⟨p, q, hA0, hV, rfl, hfz, hnd⟩ := hW
  have hA : DataW.TrodAll enc Try.prog W 0 (fun _ => true) true Try.f14.params.toList args.toList ds p := hA0
  rw [Try.params14] at hA hval
  obtain ⟨v0, vs0, d0, ds0, p0, q0, hargs, rfl, rfl, h0, r0⟩ := trodAll_cons hA
  obtain ⟨rfl, rfl, rfl⟩ := trodAll_nil r0
  obtain rfl : args = #[v0] := by cases args; simp_all
  obtain ⟨rfl, rfl⟩ := trodVars_none hV
  obtain ⟨a0, len0, cap0, rfl⟩ := okWide_slice Try.underlying161 (hval 0 161 v0 rfl rfl)
  have k0 := h0
  have lt0 : ∀ x ∈ p0, x.block < W.heap.size := by obtain ⟨m, hm⟩ := k0; exact DataW.trod_lt m _ _ _ hm
  obtain ⟨fuel0, hf0⟩ := h0
  obtain ⟨z0, rp0, b0⟩ := (Opn_sl (L := L_law09_Act) (sz := 7) Try.underlying161 (by kernel_rfl) (by kernel_rfl) (by decide) opn_173) H enc _ _ _ _ _ _ hf0
  clear hA0 hval0
  refine ((c_law09_TokenOneWriter (K := fun w => Since [] W w) (sl_of rp0) (onew_true b0)).calls W (Since.refl _ _) (HpOk.nil _ _ _)).mono fun e W' ⟨_, _, he, hsi, _⟩ => ?_
  have bel := Below.of_since hsi
  subst he
  exact ⟨_, rfl, _, _, _, [], _, [], hW', trodAll_mk1 (shut_bool Try.underlying4 _), (trodAll_cons_mk (Below.trod laidOut (by kernel_rfl) (of_decide_eq_true (by kernel_rfl)) k0 bel lt0) trodAll_mk0), rfl, bel.frame _, fun h => by cases h⟩
theorem over : Rows.tokenOneWriterRow.holds Try.pinned (OpenSpec.ofChange Rows.tokenOneWriterSpec) :=
  OpenClaim.holds_of_wide 14 Try.f14 rfl rfl rfl rfl rfl rfl rfl ⟨rfl, rfl, rfl, rfl, rfl⟩ rfl rfl rfl rfl rfl (by kernel_rfl) Try.func14 (by kernel_rfl)
    (of_decide_eq_true (by kernel_rfl)) (by unfold Func.isWrapper; first | (rw [if_pos (by decide +kernel)]; kernel_rfl) | (rw [if_neg (by decide +kernel)]; exact ⟨rfl, rfl⟩))
    (fun os started H enc _ => lifted os started H enc)
/-- THE STATEMENT -/
theorem proved : Rows.TokenOneWriterSaid := over
#print axioms proved
end Go.Proofs.Ytcdnmiianjaglaa.tokenOneWriter
