/- Decompiled: ExtentApart. -/
import Derived.Test.YtcdnmiianjaglaaTypes
import Derived.Test.YtcdnmiianjaglaaMap2
import Derived.Test.YtcdnmiianjaglaaDExtent
namespace Go.Proofs.Ytcdnmiianjaglaa
open Go Go.Bw
instance : TMap Try.prog 84 26 4 .u32 := ⟨⟨by kernel_rfl, by kernel_rfl⟩⟩
instance : TMap Try.prog 140 3 3 .i64 := ⟨⟨by kernel_rfl, by kernel_rfl⟩⟩
instance : TZv Try.prog 3 (Value.int .i64 0) := ⟨by kernel_rfl⟩
instance : TZv Try.prog 4 (Value.bool false) := ⟨by kernel_rfl⟩
structure law04_Object where
  Size : Int
  Align : Int
abbrev L_law04_Object : Lay law04_Object := Lay.via (LP (LI .u8) (LI .u8)) (fun x => (x.Size, x.Align))
abbrev Z_law04_Object : law04_Object := ⟨0, 0⟩
instance : Inhabited law04_Object := ⟨Z_law04_Object⟩
theorem P_law04_Object_Size : Pth L_law04_Object (LI .u8) 0 (fun x => x.Size) (fun x v => { x with Size := v }) := (Pth.fst Pth.id).via _ _ _ 0 rfl (fun _ => rfl) (fun _ _ => rfl)
theorem P_law04_Object_Align : Pth L_law04_Object (LI .u8) 1 (fun x => x.Align) (fun x v => { x with Align := v }) := (Pth.snd Pth.id).via _ _ _ 1 rfl (fun _ => rfl) (fun _ _ => rfl)
def EQ_law04_Object (x y : law04_Object) : Bool := x.Size == y.Size && x.Align == y.Align
theorem EQv_law04_Object (x y : law04_Object) : Value.bool (eqAt [(0, some .u8), (1, some .u8)] (L_law04_Object.enc x) (L_law04_Object.enc y)) = .bool (EQ_law04_Object x y) := congrArg Value.bool (by show ((x.Size == y.Size) && ((x.Align == y.Align) && true)) = (x.Size == y.Size && x.Align == y.Align); simp [Bool.and_assoc])
theorem EQvn_law04_Object (x y : law04_Object) : Value.bool (!(eqAt [(0, some .u8), (1, some .u8)] (L_law04_Object.enc x) (L_law04_Object.enc y))) = .bool (!(EQ_law04_Object x y)) := congrArg (fun v => match v with | Value.bool b => Value.bool (!b) | v => v) (EQv_law04_Object x y)
def law04_ExtentApart (n : Nat) (a0 : (List law04_Object)) : Option Bool :=
  cn (decide (40 < (a0.length : Int))) (
  bd (law04_wakes n ) fun x21 =>
  some x21) (
  bd (runs_Of n 64) fun x22 =>
  loop4 (fun k54 (x44 : Int) (x45 : (List (Int × Int))) (x46 : runs_Runs) (x49 : extent_Extent) =>
  cn (decide (x44 < (a0.length : Int))) (
  gu (inb x44 a0.length) <|
  gu (inb x44 a0.length) <|
  gu (decide (0 ≤ (Int.tmod ((a0.getD (Int.toNat x44) default).Align) 4))) <|
  lt (fun (x60 : runs_Runs) (x63 : extent_Extent) =>
  bd (extent_Extent_Put n x63 (wr .i64 (1 + (Int.tmod (wr .i64 ((a0.getD (Int.toNat x44) default).Size)) 128))) (shlI .i64 1 (Int.tmod ((a0.getD (Int.toNat x44) default).Align) 4))) fun x91 =>
  gu (!((!x91.2.2) == false) || (shlI .i64 1 (Int.tmod ((a0.getD (Int.toNat x44) default).Align) 4)) != 0) <|
  cl (((!x91.2.2) || ((Int.tmod x91.2.1 (shlI .i64 1 (Int.tmod ((a0.getD (Int.toNat x44) default).Align) 4))) != 0)) == false) (extent_Extent_May n x91.1) default fun x101 =>
  cn (((((!x91.2.2) || ((Int.tmod x91.2.1 (shlI .i64 1 (Int.tmod ((a0.getD (Int.toNat x44) default).Align) 4))) != 0)) || (!x101)) || (x91.1.Len != (wr .i64 (x91.2.1 + (wr .i64 (1 + (Int.tmod (wr .i64 ((a0.getD (Int.toNat x44) default).Size)) 128)))))))) (
  some false) (
  loop2 (fun k111 (x107 : Int) (x108 : (List (Int × Int))) =>
  cn (decide (x107 < (wr .i64 (x91.2.1 + (wr .i64 (1 + (Int.tmod (wr .i64 ((a0.getD (Int.toNat x44) default).Size)) 128))))))) (
  bd (extent_Extent_Place n x91.1 x107) fun x112 =>
  cn (((!x112.2) || (mhas x108 x112.1))) (
  some false) (
  lt (mset x108 x112.1 x44 : (List (Int × Int))) fun x113 =>
  k111 (wr .i64 (x107 + 1)) x113)) (
  k54 (wr .i64 (x44 + 1)) x108 x60 x91.1)) n x91.2.1 x45)) fun j66 =>
  bd (extent_Extent_Fits n x49 (wr .i64 (1 + (Int.tmod (wr .i64 ((a0.getD (Int.toNat x44) default).Size)) 128))) (shlI .i64 1 (Int.tmod ((a0.getD (Int.toNat x44) default).Align) 4))) fun x67 =>
  cn ((!x67.2)) (
  bd (extent_Needs n (wr .i64 (1 + (Int.tmod (wr .i64 ((a0.getD (Int.toNat x44) default).Size)) 128))) (shlI .i64 1 (Int.tmod ((a0.getD (Int.toNat x44) default).Align) 4))) fun x68 =>
  bd (runs_Runs_Find n x46 x68.1) fun x69 =>
  cn (((!x68.2) || decide (x68.1 < 1))) (
  some false) (
  cn ((!x69.2)) (
  bd (extent_Extent_May n x49) fun x70 =>
  cl (x70 == true) (law04_wakes n ) default fun x71 =>
  some (x70 && x71)) (
  bd (runs_Runs_Take n x46 x69.1 x68.1) fun x72 =>
  lt ({ At := x69.1, N := x68.1 } : runs_Run) fun x81 =>
  bd (extent_Extent_Grow n x49 x81) fun x82 =>
  j66 x72.1 x82))) (
  j66 x46 x49)) (
  bd (law04_wakes n ) fun x114 =>
  some x114)) n 0 ([] : List (Int × Int)) x22 Z_extent_Extent)
theorem c_law04_ExtentApart {n : Nat} {a0 : (List law04_Object)} {r : Bool} {K : World → Prop} [Stable K] {v0 : Value} (f0 : Fz K v0 L_law04_Object a0) (h : law04_ExtentApart n a0 = some r) : FnW Try.prog 10 [v0] K (.bool r) := by
  unfold law04_ExtentApart at h
  refine fn_of Try.func10 (by kernel_rfl) rfl Try.ntmps10 rfl (fun cx hbs hpre hro => ?_)
  haveI := knf_pre hbs hpre
  refine WP_seq ?_
  refine WP_region ?_
  refine WL_v rfl (VS_assign rfl) ?_
  refine WL_nil ?_
  refine WQ_then ?_
  refine WP_seq ?_
  refine WP_seq ?_
  refine WP_region ?_
  refine WL_v rfl (VS_move rfl) ?_
  refine WL_v rfl (VS_lenF f0 rfl) ?_
  refine WL_v rfl (VS_gtr rfl rfl) ?_
  refine WL_nil ?_
  refine WQ_then ?_
  refine WP_if rfl (fun hc => ?_) (fun hc => ?_)
  ·
    replace h := cn_t hc h
    refine WP_seq ?_
    obtain ⟨x21, hx21, h⟩ := bd_e h
    refine WP_region ?_
    refine WL_v rfl (VS_call (c_law04_wakes hx21) rfl (fun _ _ _ => trivial)) ?_
    refine WL_v rfl (VS_assign rfl) ?_
    refine WL_nil ?_
    refine WQ_then ?_
    refine WP_ret ?_
    refine WQ_then_ret ?_
    replace h := Option.some.inj h
    subst h
    exact WQ_ret () rfl (.tmp rfl .nil) trivial rfl (ks := []) rfl (by decide)
  ·
    replace h := cn_f hc h
    refine WP_skip ?_
    refine WQ_then ?_
    refine WP_seq ?_
    refine WP_region ?_
    refine WL_x rfl (RX_alloc (hz := (⟨by kernel_rfl⟩ : TZero Try.prog 122 zc_extent_Extent))) (fun b3 _ => ?_)
    refine WL_nil ?_
    refine WQ_then ?_
    refine WP_seq ?_
    obtain ⟨x22, hx22, h⟩ := bd_e h
    refine WP_region ?_
    refine WL_x rfl (RX_callB (c_runs_Of hx22) rfl) (fun ⟨w23, bs24, J25⟩ hp26 => ?_)
    obtain ⟨c28, rfl, f27⟩ := hp26
    replace f27 : L_runs_Runs.rep (Hs [.ext bs24 J25]) c28 x22 := f27
    refine WL_x rfl (RX_alloc (hz := (⟨by kernel_rfl⟩ : TZero Try.prog 138 zc_runs_Runs))) (fun b4 _ => ?_)
    obtain ⟨c29, hc29, f30⟩ : ∃ cc, splice zc_runs_Runs 0 c28 = cc ∧ (L_runs_Runs).rep (Hs [.ext bs24 J25]) cc x22 := ⟨_, rfl, (Pth.id (L := L_runs_Runs)).set (Lay.mono _ ent (show (L_runs_Runs).rep (Hs []) zc_runs_Runs Z_runs_Runs from zr_runs_Runs)) (Lay.mono _ ent f27)⟩
    refine WL_x0 (RX_stN c28 (Pth.id (L := L_runs_Runs)) (v := x22) (r := (show (L_runs_Runs).rep (Hs []) zc_runs_Runs Z_runs_Runs from zr_runs_Runs)) (rv := ((Lay.mono _ ent f27) : (L_runs_Runs).rep (Hs [.ext bs24 J25]) c28 x22)) rfl rfl rfl rfl hc29) (fun _ _ => ?_)
    refine WL_nil ?_
    refine WQ_then ?_
    refine WP_seq ?_
    refine WP_region ?_
    refine WL_x rfl (RX_makeMap .i64 (Value.int .i64)) (fun b28 _ => ?_)
    refine WL_v rfl (VS_assign rfl) ?_
    refine WL_nil ?_
    refine WQ_then ?_
    refine WP_seq ?_
    refine WP_seq ?_
    refine WP_region ?_
    refine WL_v rfl (VS_assign rfl) ?_
    refine WL_nil ?_
    refine WQ_then ?_
    refine WP_block ?_
    obtain ⟨lb52, hlb52, h⟩ := lp4_i h
    refine WP_ext0 ?_
    refine WP_loops (α := Nat × Int × (List (Int × Int)) × runs_Runs × extent_Extent × (List Value) × (List Value) × (List Nat) × (World → Prop)) [0, 3, 4, 5] (.cons rfl (.cons rfl (.cons rfl (.cons rfl (.nil))))) (fun (m53, x44, x45, x46, x49, c47, c50, bs42, J43) => [(6, .int .i64 x44)]) (fun (m53, x44, x45, x46, x49, c47, c50, bs42, J43) => [.ext bs42 J43, Mp b28 .i64 (Value.int .i64) x45, .cells b4 138 c47, .ext bs24 J25, .cells b3 122 c50]) (fun (m53, x44, x45, x46, x49, c47, c50, bs42, J43) => (L_runs_Runs).rep (Hs [.ext bs24 J25, .ext bs42 J43]) c47 x46 ∧ (L_extent_Extent).rep (Hs [.ext bs24 J25, .ext bs42 J43]) c50 x49 ∧ loop4 lb52 m53 x44 x45 x46 x49 = some r) (fun (m53, x44, x45, x46, x49, c47, c50, bs42, J43) => m53) (n, 0, ([] : List (Int × Int)), x22, Z_extent_Extent, c29, zc_extent_Extent, [], (Hs [])) ⟨(Lay.mono _ ent f30), (Lay.mono _ ent (show (L_extent_Extent).rep (Hs []) zc_extent_Extent Z_extent_Extent from zr_extent_Extent)), h⟩ (Sub_cons rfl (Sub_nil)) (ks := [0, 1, 2, 3, 4]) rfl (by decide) ?_
    rintro ⟨m53, x44, x45, x46, x49, c47, c50, bs42, J43⟩ ⟨f48, f51, h⟩
    replace h : loop4 lb52 m53 x44 x45 x46 x49 = some r := h
    replace h := lp4_s hlb52 h
    obtain ⟨m53, rfl, h⟩ := h
    refine WP_seq ?_
    refine WP_seq ?_
    refine WP_region ?_
    refine WL_v rfl (VS_move rfl) ?_
    refine WL_v rfl (VS_move rfl) ?_
    refine WL_v rfl (VS_lenF f0 rfl) ?_
    refine WL_v rfl (VS_lss rfl rfl) ?_
    refine WL_nil ?_
    refine WQ_then ?_
    refine WP_if rfl (fun hc => ?_) (fun hc => ?_)
    ·
      replace h := cn_t hc h
      refine WP_skip ?_
      refine WQ_then ?_
      refine WP_seq ?_
      refine WP_block ?_
      refine WP_seq ?_
      obtain ⟨hg55, h⟩ := gu_e h
      obtain ⟨hg56, h⟩ := gu_e h
      obtain ⟨hg57, h⟩ := gu_e h
      refine WP_draw mixed (.stg [] [(0, [0]), (1, [6]), (2, [35, 36]), (3, [37]), (4, [38]), (5, [39]), (6, [40]), (7, [41]), (8, [0]), (9, [6]), (10, [43, 44]), (11, [45]), (12, [46]), (13, [47]), (14, [48])] (.alt 15 [42] (.stg [(8, [0]), (9, [6]), (10, [43, 44]), (11, [45]), (12, [46]), (13, [47]), (14, [48])] [] (.alt 16 [49] (.fin [] []) .no)) .no)) (by kernel_rfl) ?_
      refine Stg_stg ?_ ?_
      · exact ReOk_nil
      refine NewOk_cons rfl rfl (VG_v rfl (VS_move rfl)) ?_
      refine NewOk_cons rfl rfl (VG_v rfl (VS_move rfl)) ?_
      refine NewOk_cons rfl rfl (VG_v rfl (VS_ixF (m := (Int.toNat x44)) f0 rfl rfl rfl (inb_e hg55).1 (inb_e hg55).2)) ?_
      refine NewOk_cons rfl rfl (VG_v rfl (VS_fldF f0 rfl (inb_e hg55).2)) ?_
      refine NewOk_cons rfl rfl (VG_v rfl (VS_ldiF f0 ((Pth.idx (L := L_law04_Object) (m := (a0.length)) (k := 2) ((Int.toNat x44)) (inb_e hg55).2 rfl).comp P_law04_Object_Size) rfl)) ?_
      refine NewOk_cons rfl rfl (VG_v rfl (VS_conv rfl rfl)) ?_
      refine NewOk_cons rfl rfl (VG_v rfl (VS_rem rfl rfl (by decide) rfl)) ?_
      refine NewOk_cons rfl rfl (VG_v rfl (VS_add rfl rfl rfl)) ?_
      refine NewOk_cons rfl rfl (VG_v rfl (VS_move rfl)) ?_
      refine NewOk_cons rfl rfl (VG_v rfl (VS_move rfl)) ?_
      refine NewOk_cons rfl rfl (VG_v rfl (VS_ixF (m := (Int.toNat x44)) f0 rfl rfl rfl (inb_e hg56).1 (inb_e hg56).2)) ?_
      refine NewOk_cons rfl rfl (VG_v rfl (VS_fldF f0 rfl (inb_e hg56).2)) ?_
      refine NewOk_cons rfl rfl (VG_v rfl (VS_ldiF f0 ((Pth.idx (L := L_law04_Object) (m := (a0.length)) (k := 2) ((Int.toNat x44)) (inb_e hg56).2 rfl).comp P_law04_Object_Align) rfl)) ?_
      refine NewOk_cons rfl rfl (VG_v rfl (VS_rem rfl rfl (by decide) rfl)) ?_
      refine NewOk_cons rfl rfl (VG_v rfl (VS_shlI rfl rfl (ge0_e hg57))) ?_
      refine NewOk_nil ?_
      refine Stg_some rfl rfl (RG_x rfl ((VS_assign rfl).rx)) (fun _ _ => ?_) Stg_no
      refine Stg_stg ?_ ?_
      ·
        refine ReOk_cons rfl rfl (VG_v rfl (VS_move rfl)) ?_
        refine ReOk_cons rfl rfl (VG_v rfl (VS_move rfl)) ?_
        refine ReOk_cons rfl rfl (VG_v rfl (VS_val (VS_ixF (m := (Int.toNat x44)) f0 rfl rfl rfl (inb_e hg56).1 (inb_e hg56).2) rfl)) ?_
        refine ReOk_cons rfl rfl (VG_v rfl (VS_fldF f0 rfl (inb_e hg56).2)) ?_
        refine ReOk_cons rfl rfl (VG_v rfl (VS_val (VS_ldiF f0 ((Pth.idx (L := L_law04_Object) (m := (a0.length)) (k := 2) ((Int.toNat x44)) (inb_e hg56).2 rfl).comp P_law04_Object_Align) rfl) rfl)) ?_
        refine ReOk_cons rfl rfl (VG_v rfl (VS_val (VS_rem rfl rfl (by decide) rfl) rfl)) ?_
        refine ReOk_cons rfl rfl (VG_v rfl (VS_val (VS_shlI rfl rfl (ge0_e hg57)) rfl)) ?_
        exact ReOk_nil
      refine NewOk_nil ?_
      refine Stg_some rfl rfl (RG_x rfl ((VS_assign rfl).rx)) (fun _ _ => ?_) Stg_no
      refine Stg_fin ?_ ?_
      · exact ReOk_nil
      refine NewOk_nil ?_
      refine WQ_then ?_
      obtain ⟨j66, hj66, h⟩ := lt_e h
      refine WP_cuts (α := runs_Runs × extent_Extent × (List Value) × (List Value) × (List Nat) × (World → Prop)) [0, 3, 4, 5, 6, 7, 8] (.cons rfl (.cons rfl (.cons rfl (.cons rfl (.cons rfl (.cons rfl (.cons rfl (.nil)))))))) (fun (x60, x63, c61, c64, bs58, J59) => []) (fun (x60, x63, c61, c64, bs58, J59) => [.ext bs58 J59, .ext bs42 J43, Mp b28 .i64 (Value.int .i64) x45, .cells b4 138 c61, .ext bs24 J25, .cells b3 122 c64]) (fun (x60, x63, c61, c64, bs58, J59) => (L_runs_Runs).rep (Hs [.ext bs24 J25, .ext bs42 J43, .ext bs58 J59]) c61 x60 ∧ (L_extent_Extent).rep (Hs [.ext bs24 J25, .ext bs42 J43, .ext bs58 J59]) c64 x63 ∧ j66 x60 x63 = some r) ?_ ?_
      ·
        refine WP_seq ?_
        obtain ⟨x67, hx67, h⟩ := bd_e h
        refine WP_region ?_
        refine WL_v rfl (VS_loadall rfl (Lay.len _ f51)) ?_
        refine WL_v rfl (VS_move rfl) ?_
        refine WL_v rfl (VS_move rfl) ?_
        refine WL_v rfl (VS_call (c_extent_Extent_Fits (K := (Hs [.ext bs24 J25, .ext bs42 J43])) (Lay.mono _ ent f51) hx67) rfl kn) ?_
        refine WL_v rfl (VS_move rfl) ?_
        refine WL_v rfl (VS_extract rfl rfl) ?_
        refine WL_v rfl (VS_extract rfl rfl) ?_
        refine WL_v rfl (VS_assign rfl) ?_
        refine WL_v rfl (VS_assign rfl) ?_
        refine WL_nil ?_
        refine WQ_then ?_
        refine WP_seq ?_
        refine WP_region ?_
        refine WL_v rfl (VS_move rfl) ?_
        refine WL_v rfl (VS_not rfl) ?_
        refine WL_nil ?_
        refine WQ_then ?_
        refine WP_if rfl (fun hc => ?_) (fun hc => ?_)
        ·
          replace h := cn_t hc h
          refine WP_seq ?_
          obtain ⟨x68, hx68, h⟩ := bd_e h
          refine WP_region ?_
          refine WL_v rfl (VS_move rfl) ?_
          refine WL_v rfl (VS_move rfl) ?_
          refine WL_v rfl (VS_call (c_extent_Needs hx68) rfl (fun _ _ _ => trivial)) ?_
          refine WL_v rfl (VS_move rfl) ?_
          refine WL_v rfl (VS_extract rfl rfl) ?_
          refine WL_v rfl (VS_extract rfl rfl) ?_
          refine WL_v rfl (VS_assign rfl) ?_
          refine WL_v rfl (VS_assign rfl) ?_
          refine WL_nil ?_
          refine WQ_then ?_
          refine WP_seq ?_
          obtain ⟨x69, hx69, h⟩ := bd_e h
          refine WP_region ?_
          refine WL_v rfl (VS_loadall rfl (Lay.len _ f48)) ?_
          refine WL_v rfl (VS_move rfl) ?_
          refine WL_v rfl (VS_call (c_runs_Runs_Find (K := (Hs [.ext bs24 J25, .ext bs42 J43])) (Lay.mono _ ent f48) hx69) rfl kn) ?_
          refine WL_v rfl (VS_move rfl) ?_
          refine WL_v rfl (VS_extract rfl rfl) ?_
          refine WL_v rfl (VS_extract rfl rfl) ?_
          refine WL_v rfl (VS_assign rfl) ?_
          refine WL_v rfl (VS_assign rfl) ?_
          refine WL_nil ?_
          refine WQ_then ?_
          refine WP_seq ?_
          refine WP_seq ?_
          refine WP_region ?_
          refine WL_v rfl (VS_move rfl) ?_
          refine WL_v rfl (VS_not rfl) ?_
          refine WL_v rfl (VS_move rfl) ?_
          refine WL_g (Gd_b rfl rfl) rfl (fun hb => VS_move rfl) ?_
          refine WL_g (Gd_b rfl rfl) rfl (fun hb => VS_lss (gev rfl hb) rfl) ?_
          refine WL_v rfl (VS_or rfl rfl) ?_
          refine WL_nil ?_
          refine WQ_then ?_
          refine WP_if rfl (fun hc => ?_) (fun hc => ?_)
          ·
            replace h := cn_t hc h
            refine WP_seq ?_
            refine WP_region ?_
            refine WL_v rfl (VS_assign rfl) ?_
            refine WL_nil ?_
            refine WQ_then ?_
            refine WP_ret ?_
            refine WQ_then_ret ?_
            refine WQ_then_ret ?_
            refine WQ_block_ret ?_
            refine WQ_then_ret ?_
            refine WQ_then_ret ?_
            refine WQ_block_ret ?_
            refine WQ_then_ret ?_
            replace h := Option.some.inj h
            subst h
            exact WQ_ret () rfl (.tmp rfl .nil) trivial rfl (ks := []) rfl (by decide)
          ·
            replace h := cn_f hc h
            refine WP_skip ?_
            refine WQ_then ?_
            refine WP_seq ?_
            refine WP_seq ?_
            refine WP_region ?_
            refine WL_v rfl (VS_move rfl) ?_
            refine WL_v rfl (VS_not rfl) ?_
            refine WL_nil ?_
            refine WQ_then ?_
            refine WP_if rfl (fun hc => ?_) (fun hc => ?_)
            ·
              replace h := cn_t hc h
              refine WP_seq ?_
              obtain ⟨x70, hx70, h⟩ := bd_e h
              obtain ⟨x71, hx71, _, h⟩ := cl_e h
              refine WP_region ?_
              refine WL_v rfl (VS_loadall rfl (Lay.len _ f51)) ?_
              refine WL_v rfl (VS_call (c_extent_Extent_May (K := (Hs [.ext bs24 J25, .ext bs42 J43])) (Lay.mono _ ent f51) hx70) rfl kn) ?_
              refine WL_v rfl (VS_move rfl) ?_
              refine WL_g (Gd_b rfl rfl) rfl (fun hb => VS_call (c_law04_wakes (hx71 hb)) rfl (fun _ _ _ => trivial)) ?_
              refine WL_v rfl (VS_and rfl rfl) ?_
              refine WL_v rfl (VS_assign rfl) ?_
              refine WL_nil ?_
              refine WQ_then ?_
              refine WP_ret ?_
              refine WQ_then_ret ?_
              refine WQ_then_ret ?_
              refine WQ_block_ret ?_
              refine WQ_then_ret ?_
              refine WQ_then_ret ?_
              refine WQ_block_ret ?_
              refine WQ_then_ret ?_
              replace h := Option.some.inj h
              subst h
              exact WQ_ret () rfl (.tmp rfl .nil) trivial rfl (ks := []) rfl (by decide)
            ·
              replace h := cn_f hc h
              refine WP_skip ?_
              refine WQ_then ?_
              refine WP_seq ?_
              obtain ⟨x72, hx72, h⟩ := bd_e h
              refine WP_region ?_
              refine WL_v rfl (VS_loadall rfl (Lay.len _ f48)) ?_
              refine WL_v rfl (VS_move rfl) ?_
              refine WL_v rfl (VS_move rfl) ?_
              refine WL_x rfl (RX_callB (c_runs_Runs_Take (K := (Hs [.ext bs24 J25, .ext bs42 J43])) (Lay.mono _ ent f48) hx72) rfl) (fun ⟨w73, bs74, J75⟩ hp76 => ?_)
              obtain ⟨c78, rfl, f77⟩ := hp76
              replace f77 : (L_runs_Runs).rep (fun w => (Hs [.ext bs24 J25, .ext bs42 J43]) w ∧ Hs [.ext bs74 J75] w) c78 x72.1 := f77
              refine WL_v rfl (VS_move rfl) ?_
              refine WL_v rfl (VS_extract rfl rfl) ?_
              refine WL_v rfl (VS_extract rfl rfl) ?_
              obtain ⟨c79, hc79, f80⟩ : ∃ cc, splice c47 0 c78 = cc ∧ (L_runs_Runs).rep (Hs [.ext bs24 J25, .ext bs42 J43, .ext bs74 J75]) cc x72.1 := ⟨_, rfl, (Pth.id (L := L_runs_Runs)).set (Lay.mono _ ent f48) (Lay.mono _ ent f77)⟩
              refine WL_x0 (RX_stN c78 (Pth.id (L := L_runs_Runs)) (v := x72.1) (r := f48) (rv := ((Lay.mono _ ent f77) : (L_runs_Runs).rep (Hs [.ext bs24 J25, .ext bs42 J43, .ext bs74 J75]) c78 x72.1)) rfl rfl rfl rfl hc79) (fun _ _ => ?_)
              refine WL_nil ?_
              refine WQ_then ?_
              obtain ⟨x81, hx81, h⟩ := lt_e h
              obtain ⟨x82, hx82, h⟩ := bd_e h
              refine WP_region ?_
              refine WL_v rfl (VS_loadall rfl (Lay.len _ f51)) ?_
              refine WL_v rfl (VS_move rfl) ?_
              refine WL_v rfl (VS_move rfl) ?_
              refine WL_v rfl (VS_build (cs := L_runs_Run.enc x81) rfl (by rw [hx81]; rfl)) ?_
              refine WL_x rfl (RX_callB (c_extent_Extent_Grow (K := (Hs [.ext bs24 J25, .ext bs42 J43])) (Lay.mono _ ent f51) hx82) rfl) (fun ⟨w83, bs84, J85⟩ hp86 => ?_)
              obtain ⟨c88, rfl, f87⟩ := hp86
              replace f87 : L_extent_Extent.rep (fun w => (Hs [.ext bs24 J25, .ext bs42 J43]) w ∧ Hs [.ext bs84 J85] w) c88 x82 := f87
              obtain ⟨c89, hc89, f90⟩ : ∃ cc, splice c50 0 c88 = cc ∧ (L_extent_Extent).rep (Hs [.ext bs24 J25, .ext bs42 J43, .ext bs84 J85]) cc x82 := ⟨_, rfl, (Pth.id (L := L_extent_Extent)).set (Lay.mono _ ent f51) (Lay.mono _ ent f87)⟩
              refine WL_x0 (RX_stN c88 (Pth.id (L := L_extent_Extent)) (v := x82) (r := f51) (rv := ((Lay.mono _ ent f87) : (L_extent_Extent).rep (Hs [.ext bs24 J25, .ext bs42 J43, .ext bs84 J85]) c88 x82)) rfl rfl rfl rfl hc89) (fun _ _ => ?_)
              refine WL_nil ?_
              refine WQ_bundle (R := [.ext bs84 J85, .ext bs74 J75]) (H' := [.ext bs42 J43, Mp b28 .i64 (Value.int .i64) x45, .cells b4 138 c79, .ext bs24 J25, .cells b3 122 c89]) (ks := [0, 1, 2, 3, 4, 5, 6]) rfl (by decide) ?_
              exact WQ_cuts (x72.1, x82, c79, c89, (blks [.ext bs84 J85, .ext bs74 J75]), (Hs [.ext bs84 J85, .ext bs74 J75])) ⟨(Lay.mono _ ent f80), (Lay.mono _ ent f90), h⟩ (Sub_nil) (.cons rfl (.cons rfl (.cons rfl (.cons rfl (.cons rfl (.cons rfl (.cons rfl (.nil)))))))) (ks := [0, 1, 2, 3, 4, 5]) rfl (by decide)
        ·
          replace h := cn_f hc h
          refine WP_skip ?_
          refine WQ_bundle (R := []) (H' := [.ext bs42 J43, Mp b28 .i64 (Value.int .i64) x45, .cells b4 138 c47, .ext bs24 J25, .cells b3 122 c50]) (ks := [0, 1, 2, 3, 4]) rfl (by decide) ?_
          exact WQ_cuts (x46, x49, c47, c50, (blks []), (Hs [])) ⟨(Lay.mono _ ent f48), (Lay.mono _ ent f51), h⟩ (Sub_nil) (.cons rfl (.cons rfl (.cons rfl (.cons rfl (.cons rfl (.cons rfl (.cons rfl (.nil)))))))) (ks := [0, 1, 2, 3, 4, 5]) rfl (by decide)
      ·
        rintro ⟨x60, x63, c61, c64, bs58, J59⟩ ⟨f62, f65, h⟩
        replace h : j66 x60 x63 = some r := h
        replace h := jn2_u hj66 h
        refine WP_seq ?_
        obtain ⟨x91, hx91, h⟩ := bd_e h
        refine WP_region ?_
        refine WL_v rfl (VS_loadall rfl (Lay.len _ f65)) ?_
        refine WL_v rfl (VS_move rfl) ?_
        refine WL_v rfl (VS_move rfl) ?_
        refine WL_x rfl (RX_callB (c_extent_Extent_Put (K := (Hs [.ext bs24 J25, .ext bs42 J43, .ext bs58 J59])) (Lay.mono _ ent f65) hx91) rfl) (fun ⟨w92, bs93, J94⟩ hp95 => ?_)
        obtain ⟨c97, rfl, f96⟩ := hp95
        replace f96 : (L_extent_Extent).rep (fun w => (Hs [.ext bs24 J25, .ext bs42 J43, .ext bs58 J59]) w ∧ Hs [.ext bs93 J94] w) c97 x91.1 := f96
        refine WL_v rfl (VS_move rfl) ?_
        refine WL_v rfl (VS_extract rfl rfl) ?_
        refine WL_v rfl (VS_extract rfl rfl) ?_
        refine WL_v rfl (VS_extract rfl rfl) ?_
        refine WL_x rfl (RX_alloc (hz := (⟨by kernel_rfl⟩ : TZero Try.prog 122 zc_extent_Extent))) (fun b15 _ => ?_)
        obtain ⟨c98, hc98, f99⟩ : ∃ cc, splice zc_extent_Extent 0 c97 = cc ∧ (L_extent_Extent).rep (Hs [.ext bs24 J25, .ext bs42 J43, .ext bs58 J59, .ext bs93 J94]) cc x91.1 := ⟨_, rfl, (Pth.id (L := L_extent_Extent)).set (Lay.mono _ ent (show (L_extent_Extent).rep (Hs []) zc_extent_Extent Z_extent_Extent from zr_extent_Extent)) (Lay.mono _ ent f96)⟩
        refine WL_x0 (RX_stN c97 (Pth.id (L := L_extent_Extent)) (v := x91.1) (r := (show (L_extent_Extent).rep (Hs []) zc_extent_Extent Z_extent_Extent from zr_extent_Extent)) (rv := ((Lay.mono _ ent f96) : (L_extent_Extent).rep (Hs [.ext bs24 J25, .ext bs42 J43, .ext bs58 J59, .ext bs93 J94]) c97 x91.1)) rfl rfl rfl rfl hc98) (fun _ _ => ?_)
        refine WL_v rfl (VS_assign rfl) ?_
        refine WL_v rfl (VS_assign rfl) ?_
        refine WL_nil ?_
        refine WQ_then ?_
        refine WP_seq ?_
        refine WP_seq ?_
        obtain ⟨hg100, h⟩ := gu_e h
        obtain ⟨x101, hx101, _, h⟩ := cl_e h
        refine WP_region ?_
        refine WL_v rfl (VS_move rfl) ?_
        refine WL_v rfl (VS_not rfl) ?_
        refine WL_v rfl (VS_move rfl) ?_
        refine WL_g (Gd_b rfl rfl) rfl (fun hb => VS_move rfl) ?_
        refine WL_g (Gd_b rfl rfl) rfl (fun hb => VS_move rfl) ?_
        refine WL_g (Gd_b rfl rfl) rfl (fun hb => VS_rem (gev rfl hb) (gev rfl hb) (ne0_e (imp_b hg100 hb)) rfl) ?_
        refine WL_g (Gd_b rfl rfl) rfl (fun hb => VS_neq (gev rfl hb) rfl) ?_
        refine WL_v rfl (VS_or rfl rfl) ?_
        refine WL_v rfl (VS_move rfl) ?_
        refine WL_g (Gd_b rfl rfl) rfl (fun hb => VS_loadall rfl (Lay.len _ f99)) ?_
        refine WL_g (Gd_b rfl rfl) rfl (fun hb => VS_call (c_extent_Extent_May (K := (Hs [.ext bs24 J25, .ext bs42 J43, .ext bs58 J59, .ext bs93 J94])) (Lay.mono _ ent f99) (hx101 hb)) (evs_cons (gev rfl hb) rfl) kn) ?_
        refine WL_g (Gd_b rfl rfl) rfl (fun hb => VS_not (gev rfl hb)) ?_
        refine WL_v rfl (VS_or rfl rfl) ?_
        refine WL_v rfl (VS_move rfl) ?_
        refine WL_g (Gd_b rfl rfl) rfl (fun hb => VS_field0 rfl) ?_
        refine WL_g (Gd_b rfl rfl) rfl (fun hb => VS_load (gev rfl hb) (P_extent_Extent_Len.int f99)) ?_
        refine WL_g (Gd_b rfl rfl) rfl (fun hb => VS_move rfl) ?_
        refine WL_g (Gd_b rfl rfl) rfl (fun hb => VS_move rfl) ?_
        refine WL_g (Gd_b rfl rfl) rfl (fun hb => VS_add (gev rfl hb) (gev rfl hb) rfl) ?_
        refine WL_g (Gd_b rfl rfl) rfl (fun hb => VS_neq (gev rfl hb) (gev rfl hb)) ?_
        refine WL_v rfl (VS_or rfl rfl) ?_
        refine WL_nil ?_
        refine WQ_then ?_
        refine WP_if rfl (fun hc => ?_) (fun hc => ?_)
        ·
          replace h := cn_t hc h
          refine WP_seq ?_
          refine WP_region ?_
          refine WL_v rfl (VS_assign rfl) ?_
          refine WL_nil ?_
          refine WQ_then ?_
          refine WP_ret ?_
          refine WQ_then_ret ?_
          refine WQ_block_ret ?_
          refine WQ_then_ret ?_
          refine WQ_then_ret ?_
          refine WQ_block_ret ?_
          refine WQ_then_ret ?_
          replace h := Option.some.inj h
          subst h
          exact WQ_ret () rfl (.tmp rfl .nil) trivial rfl (ks := []) rfl (by decide)
        ·
          replace h := cn_f hc h
          refine WP_skip ?_
          refine WQ_then ?_
          refine WP_seq ?_
          refine WP_region ?_
          refine WL_v rfl (VS_loadall rfl (Lay.len _ f99)) ?_
          obtain ⟨c102, hc102, f103⟩ : ∃ cc, splice c64 0 c98 = cc ∧ (L_extent_Extent).rep (Hs [.ext bs24 J25, .ext bs42 J43, .ext bs58 J59, .ext bs93 J94]) cc x91.1 := ⟨_, rfl, (Pth.id (L := L_extent_Extent)).set (Lay.mono _ ent f65) (Lay.mono _ ent f99)⟩
          refine WL_x0 (RX_stN c98 (Pth.id (L := L_extent_Extent)) (v := x91.1) (r := f65) (rv := ((Lay.mono _ ent f99) : (L_extent_Extent).rep (Hs [.ext bs24 J25, .ext bs42 J43, .ext bs58 J59, .ext bs93 J94]) c98 x91.1)) rfl rfl rfl rfl hc102) (fun _ _ => ?_)
          refine WL_nil ?_
          refine WQ_then ?_
          refine WP_seq ?_
          refine WP_region ?_
          refine WL_v rfl (VS_move rfl) ?_
          refine WL_v rfl (VS_assign rfl) ?_
          refine WL_nil ?_
          refine WQ_then ?_
          refine WP_block ?_
          obtain ⟨lb109, hlb109, h⟩ := lp2_i h
          refine WP_loops (α := Nat × Int × (List (Int × Int))) [0, 3, 4, 5, 6, 7, 16] (.cons rfl (.cons rfl (.cons rfl (.cons rfl (.cons rfl (.cons rfl (.cons rfl (.nil)))))))) (fun (m110, x107, x108) => [(18, .int .i64 x107)]) (fun (m110, x107, x108) => [.cells b15 122 c98, .ext bs93 J94, .ext bs58 J59, .ext bs42 J43, Mp b28 .i64 (Value.int .i64) x108, .cells b4 138 c61, .ext bs24 J25, .cells b3 122 c102]) (fun (m110, x107, x108) => loop2 lb109 m110 x107 x108 = some r) (fun (m110, x107, x108) => m110) (n, x91.2.1, x45) h (Sub_cons rfl (Sub_nil)) (ks := [0, 1, 2, 3, 4, 5, 6, 7]) rfl (by decide) ?_
          rintro ⟨m110, x107, x108⟩ h
          replace h : loop2 lb109 m110 x107 x108 = some r := h
          replace h := lp2_s hlb109 h
          obtain ⟨m110, rfl, h⟩ := h
          refine WP_seq ?_
          refine WP_seq ?_
          refine WP_region ?_
          refine WL_v rfl (VS_move rfl) ?_
          refine WL_v rfl (VS_move rfl) ?_
          refine WL_v rfl (VS_move rfl) ?_
          refine WL_v rfl (VS_add rfl rfl rfl) ?_
          refine WL_v rfl (VS_lss rfl rfl) ?_
          refine WL_nil ?_
          refine WQ_then ?_
          refine WP_if rfl (fun hc => ?_) (fun hc => ?_)
          ·
            replace h := cn_t hc h
            refine WP_skip ?_
            refine WQ_then ?_
            refine WP_seq ?_
            refine WP_block ?_
            refine WP_seq ?_
            obtain ⟨x112, hx112, h⟩ := bd_e h
            refine WP_region ?_
            refine WL_v rfl (VS_loadall rfl (Lay.len _ f103)) ?_
            refine WL_v rfl (VS_move rfl) ?_
            refine WL_v rfl (VS_call (c_extent_Extent_Place (K := (Hs [.ext bs24 J25, .ext bs42 J43, .ext bs58 J59, .ext bs93 J94])) (Lay.mono _ ent f103) hx112) rfl kn) ?_
            refine WL_v rfl (VS_move rfl) ?_
            refine WL_v rfl (VS_extract rfl rfl) ?_
            refine WL_v rfl (VS_extract rfl rfl) ?_
            refine WL_v rfl (VS_assign rfl) ?_
            refine WL_v rfl (VS_assign rfl) ?_
            refine WL_nil ?_
            refine WQ_then ?_
            refine WP_seq ?_
            refine WP_region ?_
            refine WL_v rfl (VS_move rfl) ?_
            refine WL_v rfl (VS_move rfl) ?_
            refine WL_v rfl (VS_lookup2 0 rfl rfl) ?_
            refine WL_v rfl (VS_move rfl) ?_
            refine WL_v rfl (VS_extract rfl rfl) ?_
            refine WL_v rfl (VS_extract rfl rfl) ?_
            refine WL_v rfl (VS_assign rfl) ?_
            refine WL_v rfl (VS_assign rfl) ?_
            refine WL_nil ?_
            refine WQ_then ?_
            refine WP_seq ?_
            refine WP_seq ?_
            refine WP_region ?_
            refine WL_v rfl (VS_move rfl) ?_
            refine WL_v rfl (VS_not rfl) ?_
            refine WL_v rfl (VS_move rfl) ?_
            refine WL_g (Gd_b rfl rfl) rfl (fun hb => VS_move rfl) ?_
            refine WL_v rfl (VS_or rfl rfl) ?_
            refine WL_nil ?_
            refine WQ_then ?_
            refine WP_if rfl (fun hc => ?_) (fun hc => ?_)
            ·
              replace h := cn_t hc h
              refine WP_seq ?_
              refine WP_region ?_
              refine WL_v rfl (VS_assign rfl) ?_
              refine WL_nil ?_
              refine WQ_then ?_
              refine WP_ret ?_
              refine WQ_then_ret ?_
              refine WQ_block_ret ?_
              refine WQ_then_ret ?_
              refine WQ_then_ret ?_
              refine WQ_block_ret ?_
              refine WQ_block_ret ?_
              refine WQ_then_ret ?_
              refine WQ_then_ret ?_
              refine WQ_block_ret ?_
              refine WQ_then_ret ?_
              replace h := Option.some.inj h
              subst h
              exact WQ_ret () rfl (.tmp rfl .nil) trivial rfl (ks := []) rfl (by decide)
            ·
              replace h := cn_f hc h
              refine WP_skip ?_
              refine WQ_then ?_
              obtain ⟨x113, hx113, h⟩ := lt_e h
              refine WP_region ?_
              refine WL_v rfl (VS_move rfl) ?_
              refine WL_v rfl (VS_move rfl) ?_
              refine WL_v rfl (VS_move rfl) ?_
              refine WL_x0 (RX_mapUpdate x44 rfl rfl rfl rfl) (fun _ _ => ?_)
              rw [← hx113]
              refine WL_nil ?_
              refine WQ_block ?_
              refine WQ_then ?_
              refine WP_region ?_
              refine WL_v rfl (VS_move rfl) ?_
              refine WL_v rfl (VS_add rfl rfl rfl) ?_
              refine WL_v rfl (VS_assign rfl) ?_
              refine WL_nil ?_
              exact WQ_loops (m110, wr .i64 (x107 + 1), x113) (Nat.lt_succ_self _) h (Sub_cons rfl (Sub_nil)) (.cons rfl (.cons rfl (.cons rfl (.cons rfl (.cons rfl (.cons rfl (.cons rfl (.nil)))))))) (ks := [0, 1, 2, 3, 4, 5, 6, 7]) rfl (by decide)
          ·
            replace h := cn_f hc h
            refine WP_exit ?_
            refine WQ_then_exit ?_
            refine WQ_then_exit ?_
            refine WQ_block_exit ?_
            refine WQ_block ?_
            refine WQ_then ?_
            refine WP_region ?_
            refine WL_v rfl (VS_move rfl) ?_
            refine WL_v rfl (VS_add rfl rfl rfl) ?_
            refine WL_v rfl (VS_assign rfl) ?_
            refine WL_nil ?_
            refine WQ_bundle (R := [.ext bs93 J94, .ext bs58 J59, .ext bs42 J43]) (H' := [.cells b15 122 c98, Mp b28 .i64 (Value.int .i64) x108, .cells b4 138 c61, .ext bs24 J25, .cells b3 122 c102]) (ks := [1, 2, 3, 0, 4, 5, 6, 7]) rfl (by decide) ?_
            exact WQ_loops (m53, wr .i64 (x44 + 1), x108, x60, x91.1, c61, c102, (blks [.ext bs93 J94, .ext bs58 J59, .ext bs42 J43]), (Hs [.ext bs93 J94, .ext bs58 J59, .ext bs42 J43])) (Nat.lt_succ_self _) ⟨(Lay.mono _ ent f62), (Lay.mono _ ent f103), h⟩ (Sub_cons rfl (Sub_nil)) (.cons rfl (.cons rfl (.cons rfl (.cons rfl (.nil))))) (ks := [0, 2, 3, 4, 5]) rfl (by decide)
    ·
      replace h := cn_f hc h
      refine WP_exit ?_
      refine WQ_then_exit ?_
      refine WQ_then_exit ?_
      refine WQ_block_exit ?_
      refine WQ_then ?_
      refine WP_seq ?_
      obtain ⟨x114, hx114, h⟩ := bd_e h
      refine WP_region ?_
      refine WL_v rfl (VS_call (c_law04_wakes hx114) rfl (fun _ _ _ => trivial)) ?_
      refine WL_v rfl (VS_assign rfl) ?_
      refine WL_nil ?_
      refine WQ_then ?_
      refine WP_ret ?_
      replace h := Option.some.inj h
      subst h
      exact WQ_ret () rfl (.tmp rfl .nil) trivial rfl (ks := []) rfl (by decide)
end Go.Proofs.Ytcdnmiianjaglaa
