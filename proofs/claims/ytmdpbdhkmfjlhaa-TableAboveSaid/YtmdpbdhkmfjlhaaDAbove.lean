/- Decompiled: TableAbove. -/
import Derived.Test.YtmdpbdhkmfjlhaaDTable
namespace Go.Proofs.Ytmdpbdhkmfjlhaa
open Go Go.Bw
def law05_TableAbove (n : Nat) (a0 : (List law05_Act)) : Option Bool :=
  bd (law05_Great n a0) fun x21 =>
  cn (x21) (
  bd (law05_wakes n ) fun x22 =>
  some x22) (
  loop2 (fun k38 (x32 : Int) (x33 : table_Table) =>
  cn (decide (x32 < (a0.length : Int))) (
  gu (inb x32 a0.length) <|
  lt ((a0.getD (Int.toNat x32) default) : law05_Act) fun x42 =>
  lt (fun (x49 : Int) (x50 : Int) (x51 : table_Table) =>
  bd (table_book_All n x33.book) fun x100 =>
  loop1 (fun k111 (x108 : Int) =>
  cn (decide (x108 < (x100.length : Int))) (
  gu (inb x108 x100.length) <|
  cn ((((x100.getD (Int.toNat x108) default) == x49) && (x50 == 0))) (
  k111 (wr .i64 (x108 + 1))) (
  gu (inb x108 x100.length) <|
  bd (table_Table_Get n x33 (x100.getD (Int.toNat x108) default)) fun x114 =>
  gu (inb x108 x100.length) <|
  bd (table_Table_Get n x51 (x100.getD (Int.toNat x108) default)) fun x124 =>
  cn ((((((((x114.2 != 0) || (x124.2 != 0)) || (x114.1.Quota != x124.1.Quota)) || (!(eqA 8 x114.1.Cells x124.1.Cells))) || (x114.1.E.Len != x124.1.E.Len)) || ((x114.1.E.Runs.length : Int) != (x124.1.E.Runs.length : Int))) || ((x114.1.Up != x124.1.Up) && (!(((((x50 == 0) && (x42.Do == 0)) && (x114.1.Up == x49)) && (x49 != 0)) && (x124.1.Up == 0)))))) (
  some false) (
  k111 (wr .i64 (x108 + 1))))) (
  bd (table_book_All n x51.book) fun x139 =>
  loop1 (fun k150 (x147 : Int) =>
  cn (decide (x147 < (x139.length : Int))) (
  gu (inb x147 x139.length) <|
  loop2 (fun k158 (x154 : Int) (x155 : Int) =>
  cn (((x154 != 0) && decide (x155 ≤ 32))) (
  bd (table_Table_Get n x51 x154) fun x159 =>
  cn ((x159.2 != 0)) (
  some false) (
  k158 x159.1.Up (wr .i64 (x155 + 1)))) (
  cn (decide (32 < x155)) (
  some false) (
  k150 (wr .i64 (x147 + 1))))) n (x139.getD (Int.toNat x147) default) 0) (
  k38 (wr .i64 (x32 + 1)) x51)) n 0)) n 0) fun j54 =>
  cn ((x42.Do == 0)) (
  bd (table_Table_Drop n x33 x42.A) fun x55 =>
  j54 x42.A x55.2 x55.1) (
  cn ((x42.Do == 1)) (
  bd (law05_Region n x42.R) fun x66 =>
  bd (table_Table_Set n x33 x42.A x66) fun x73 =>
  j54 x42.A x73.2 x73.1) (
  cn ((x42.Do == 2)) (
  bd (table_Table_Raise n x33 x42.A x42.B) fun x82 =>
  j54 x42.A x82.2 x82.1) (
  bd (table_Table_New n x33 x42.A x42.R.Quota) fun x91 =>
  j54 x91.2.1 x91.2.2 x91.1)))) (
  bd (law05_wakes n ) fun x168 =>
  some x168)) n 0 Z_table_Table)
theorem c_law05_TableAbove {n : Nat} {a0 : (List law05_Act)} {r : Bool} {K : World → Prop} [Stable K] {v0 : Value} {ws0 : List Value} (f0 : Fzc K v0 L_law05_Act ws0 a0) (h : law05_TableAbove n a0 = some r) : FnW Try.prog 6 [v0] K (.bool r) := by
  unfold law05_TableAbove at h
  refine fn_of Try.func6 (by kernel_rfl) rfl Try.ntmps6 rfl (fun cx hbs hpre hro => ?_)
  haveI := knf_pre hbs hpre
  refine WP_seq ?_
  refine WP_region ?_
  refine WL_v rfl (VS_assign rfl) ?_
  refine WL_nil ?_
  refine WQ_then ?_
  refine WP_seq ?_
  refine WP_seq ?_
  obtain ⟨x21, hx21, h⟩ := bd_e h
  refine WP_region ?_
  refine WL_v rfl (VS_move rfl) ?_
  refine WL_v rfl (VS_call (c_law05_Great (K := K) (f0.mono ent) hx21) rfl kn) ?_
  refine WL_nil ?_
  refine WQ_then ?_
  refine WP_if rfl (fun hc => ?_) (fun hc => ?_)
  ·
    replace h := cn_t hc h
    refine WP_seq ?_
    obtain ⟨x22, hx22, h⟩ := bd_e h
    refine WP_region ?_
    refine WL_v rfl (VS_call (c_law05_wakes hx22) rfl (fun _ _ _ => trivial)) ?_
    refine WL_v rfl (VS_assign rfl) ?_
    refine WL_nil ?_
    refine WQ_then ?_
    refine WP_ret ?_
    refine WQ_then_ret ?_
    replace h := Option.some.inj h
    subst h
    exact WQ_ret () rfl (.tmp rfl .nil) trivial rfl (ks := []) rfl (by decide)
  ·
    replace h := cn_f hc h
    refine WP_skip ?_
    refine WQ_then ?_
    refine WP_seq ?_
    refine WP_region ?_
    refine WL_x rfl (RX_alloc (hz := (⟨by kernel_rfl⟩ : TZero Try.prog 77 zc_table_Table))) (fun b3 _ => ?_)
    refine WL_nil ?_
    refine WQ_then ?_
    refine WP_seq ?_
    refine WP_seq ?_
    refine WP_region ?_
    refine WL_v rfl (VS_assign rfl) ?_
    refine WL_nil ?_
    refine WQ_then ?_
    refine WP_block ?_
    obtain ⟨lb36, hlb36, h⟩ := lp2_i h
    refine WP_ext0 ?_
    refine WP_loops (α := Nat × Int × table_Table × (List Value) × (List Nat) × (World → Prop)) [0, 3] (.cons rfl (.cons rfl (.nil))) (fun (m37, x32, x33, c34, bs30, J31) => [(4, .int .i64 x32)]) (fun (m37, x32, x33, c34, bs30, J31) => [.ext bs30 J31, .cells b3 77 c34]) (fun (m37, x32, x33, c34, bs30, J31) => (L_table_Table).rep (fun w => K w ∧ Hs [.ext bs30 J31] w) c34 x33 ∧ loop2 lb36 m37 x32 x33 = some r) (fun (m37, x32, x33, c34, bs30, J31) => m37) (n, 0, Z_table_Table, zc_table_Table, [], (Hs [])) ⟨(Lay.mono _ ent (show (L_table_Table).rep (Hs []) zc_table_Table Z_table_Table from zr_table_Table)), h⟩ (Sub_cons rfl (Sub_nil)) (ks := [0, 1]) rfl (by decide) ?_
    rintro ⟨m37, x32, x33, c34, bs30, J31⟩ ⟨f35, h⟩
    replace h : loop2 lb36 m37 x32 x33 = some r := h
    replace h := lp2_s hlb36 h
    obtain ⟨m37, rfl, h⟩ := h
    refine WP_seq ?_
    refine WP_seq ?_
    refine WP_region ?_
    refine WL_v rfl (VS_move rfl) ?_
    refine WL_v rfl (VS_move rfl) ?_
    refine WL_v rfl (VS_lenN f0 rfl) ?_
    refine WL_v rfl (VS_lss rfl rfl) ?_
    refine WL_nil ?_
    refine WQ_then ?_
    refine WP_if rfl (fun hc => ?_) (fun hc => ?_)
    ·
      replace h := cn_t hc h
      refine WP_skip ?_
      refine WQ_then ?_
      refine WP_seq ?_
      refine WP_block ?_
      refine WP_seq ?_
      obtain ⟨hg39, h⟩ := gu_e h
      obtain ⟨x42, hx42, h⟩ := lt_e h
      refine WP_region ?_
      refine WL_v rfl (VS_move rfl) ?_
      refine WL_v rfl (VS_move rfl) ?_
      refine WL_v rfl (VS_ixN (m := (Int.toNat x32)) f0 rfl rfl rfl (inb_e hg39).1 (inb_e hg39).2) ?_
      obtain ⟨c40, hc40, f41⟩ := rep_ex ((Pth.idx (L := L_law05_Act) (m := (a0.length)) (k := 15) ((Int.toNat x32)) (inb_e hg39).2 rfl).get f0.rep)
      refine WL_v rfl (VS_ldnN (M := L_law05_Act) f0 (Pth.idx (L := L_law05_Act) (m := (a0.length)) (k := 15) ((Int.toNat x32)) (inb_e hg39).2 rfl) rfl rfl (by decide) hc40) ?_
      refine WL_x rfl (RX_alloc (hz := (⟨by kernel_rfl⟩ : TZero Try.prog 85 zc_law05_Act))) (fun b5 _ => ?_)
      obtain ⟨c43, hc43, f44⟩ : ∃ cc, splice zc_law05_Act 0 c40 = cc ∧ (L_law05_Act).rep K cc x42 := ⟨_, rfl, by rw [hx42]; exact (Pth.id (L := L_law05_Act)).set (Lay.mono _ ent (show (L_law05_Act).rep (Hs []) zc_law05_Act Z_law05_Act from zr_law05_Act)) (Lay.mono _ ent f41)⟩
      refine WL_x0 (RX_stN c40 (Pth.id (L := L_law05_Act)) (v := (a0.getD (Int.toNat x32) default)) (r := (show (L_law05_Act).rep (Hs []) zc_law05_Act Z_law05_Act from zr_law05_Act)) (rv := ((Lay.mono _ ent f41) : (L_law05_Act).rep K c40 (a0.getD (Int.toNat x32) default))) rfl rfl rfl rfl hc43) (fun _ _ => ?_)
      refine WL_nil ?_
      refine WQ_then ?_
      refine WP_seq ?_
      refine WP_region ?_
      refine WL_v rfl (VS_field0 rfl) ?_
      refine WL_v rfl (VS_load rfl (P_law05_Act_A.int f44)) ?_
      refine WL_v rfl (VS_assign rfl) ?_
      refine WL_nil ?_
      refine WQ_then ?_
      refine WP_seq ?_
      refine WP_region ?_
      refine WL_v rfl (VS_loadall rfl (Lay.len _ f35)) ?_
      refine WL_x rfl (RX_alloc (hz := (⟨by kernel_rfl⟩ : TZero Try.prog 77 zc_table_Table))) (fun b7 _ => ?_)
      obtain ⟨c45, hc45, f46⟩ : ∃ cc, splice zc_table_Table 0 c34 = cc ∧ (L_table_Table).rep (fun w => K w ∧ Hs [.ext bs30 J31] w) cc x33 := ⟨_, rfl, (Pth.id (L := L_table_Table)).set (Lay.mono _ ent (show (L_table_Table).rep (Hs []) zc_table_Table Z_table_Table from zr_table_Table)) (Lay.mono _ ent f35)⟩
      refine WL_x0 (RX_stN c34 (Pth.id (L := L_table_Table)) (v := x33) (r := (show (L_table_Table).rep (Hs []) zc_table_Table Z_table_Table from zr_table_Table)) (rv := ((Lay.mono _ ent f35) : (L_table_Table).rep (fun w => K w ∧ Hs [.ext bs30 J31] w) c34 x33)) rfl rfl rfl rfl hc45) (fun _ _ => ?_)
      refine WL_nil ?_
      refine WQ_then ?_
      refine WP_seq ?_
      refine WP_region ?_
      refine WL_v rfl (VS_assign rfl) ?_
      refine WL_nil ?_
      refine WQ_then ?_
      obtain ⟨j54, hj54, h⟩ := lt_e h
      refine WP_cuts (α := Int × Int × table_Table × (List Value) × (List Nat) × (World → Prop)) [0, 3, 4, 5, 7] (.cons rfl (.cons rfl (.cons rfl (.cons rfl (.cons rfl (.nil)))))) (fun (x49, x50, x51, c52, bs47, J48) => [(6, .int .u32 x49), (8, .int .i64 x50)]) (fun (x49, x50, x51, c52, bs47, J48) => [.ext bs47 J48, .cells b7 77 c52, .cells b5 85 c43, .ext bs30 J31, .cells b3 77 c34]) (fun (x49, x50, x51, c52, bs47, J48) => (L_table_Table).rep (fun w => K w ∧ Hs [.ext bs30 J31, .ext bs47 J48] w) c52 x51 ∧ j54 x49 x50 x51 = some r) ?_ ?_
      ·
        refine WP_seq ?_
        refine WP_region ?_
        refine WL_v rfl (VS_field0 rfl) ?_
        refine WL_v rfl (VS_load rfl (P_law05_Act_Do.int f44)) ?_
        refine WL_nil ?_
        refine WQ_then ?_
        refine WP_block ?_
        refine WP_seq ?_
        refine WP_region ?_
        refine WL_v rfl (VS_eql rfl rfl) ?_
        refine WL_v rfl (VS_assign rfl) ?_
        refine WL_nil ?_
        refine WQ_then ?_
        refine WP_if rfl (fun hc => ?_) (fun hc => ?_)
        ·
          replace h := cn_t hc h
          obtain ⟨x55, hx55, h⟩ := bd_e h
          refine WP_region ?_
          refine WL_v rfl (VS_loadall rfl (Lay.len _ f35)) ?_
          refine WL_v rfl (VS_move rfl) ?_
          refine WL_x rfl (RX_callB (c_table_Table_Drop (K := (fun w => K w ∧ Hs [.ext bs30 J31] w)) (Lay.mono _ ent f35) hx55) rfl) (fun ⟨w56, bs57, J58⟩ hp59 => ?_)
          obtain ⟨c61, rfl, f60⟩ := hp59
          replace f60 : (L_table_Table).rep (fun w => (fun w => K w ∧ Hs [.ext bs30 J31] w) w ∧ Hs [.ext bs57 J58] w) c61 x55.1 := f60
          refine WL_v rfl (VS_move rfl) ?_
          refine WL_v rfl (VS_extract rfl rfl) ?_
          refine WL_v rfl (VS_extract rfl rfl) ?_
          obtain ⟨c62, hc62, f63⟩ : ∃ cc, splice c45 0 c61 = cc ∧ (L_table_Table).rep (fun w => K w ∧ Hs [.ext bs30 J31, .ext bs57 J58] w) cc x55.1 := ⟨_, rfl, (Pth.id (L := L_table_Table)).set (Lay.mono _ ent f46) (Lay.mono _ ent f60)⟩
          refine WL_x0 (RX_stN c61 (Pth.id (L := L_table_Table)) (v := x55.1) (r := f46) (rv := ((Lay.mono _ ent f60) : (L_table_Table).rep (fun w => K w ∧ Hs [.ext bs30 J31, .ext bs57 J58] w) c61 x55.1)) rfl rfl rfl rfl hc62) (fun _ _ => ?_)
          refine WL_v rfl (VS_assign rfl) ?_
          refine WL_nil ?_
          refine WQ_block ?_
          refine WQ_bundle (R := [.ext bs57 J58]) (H' := [.cells b7 77 c62, .cells b5 85 c43, .ext bs30 J31, .cells b3 77 c34]) (ks := [0, 1, 2, 3, 4]) rfl (by decide) ?_
          exact WQ_cuts (x42.A, x55.2, x55.1, c62, (blks [.ext bs57 J58]), (Hs [.ext bs57 J58])) ⟨(Lay.mono _ ent f63), h⟩ (Sub_cons rfl (Sub_cons rfl (Sub_nil))) (.cons rfl (.cons rfl (.cons rfl (.cons rfl (.cons rfl (.nil)))))) (ks := [0, 1, 2, 3, 4]) rfl (by decide)
        ·
          replace h := cn_f hc h
          refine WP_seq ?_
          refine WP_region ?_
          refine WL_v rfl (VS_eql rfl rfl) ?_
          refine WL_v rfl (VS_assign rfl) ?_
          refine WL_nil ?_
          refine WQ_then ?_
          refine WP_if rfl (fun hc => ?_) (fun hc => ?_)
          ·
            replace h := cn_t hc h
            obtain ⟨x66, hx66, h⟩ := bd_e h
            obtain ⟨x73, hx73, h⟩ := bd_e h
            refine WP_draw mixed (.stg [] [(0, [3]), (1, [6]), (2, [5]), (3, [63])] (.alt 4 [64] (.stg [(0, [3]), (1, [6])] [] (.alt 5 [61, 62, 65] (.stg [] [(6, [66]), (7, [60]), (8, [60])] (.alt 9 [7, 67] (.stg [(8, [60])] [] (.alt 10 [68] (.fin [] []) .no)) .no)) .no)) .no)) (by kernel_rfl) ?_
            refine Stg_stg ?_ ?_
            · exact ReOk_nil
            refine NewOk_cons rfl rfl (VG_v rfl (VS_loadall rfl (Lay.len _ f35))) ?_
            refine NewOk_cons rfl rfl (VG_v rfl (VS_move rfl)) ?_
            refine NewOk_cons rfl rfl (VG_v rfl (VS_field0 rfl)) ?_
            obtain ⟨c64, hc64, f65⟩ := rep_ex (P_law05_Act_R.get f44)
            refine NewOk_cons rfl rfl (VG_v rfl (VS_loadpart rfl hc64 (Lay.len _ f65))) ?_
            refine NewOk_nil ?_
            refine Stg_some rfl rfl (RG_x rfl (RX_callB (c_law05_Region (K := K) (Lay.mono _ ent f65) hx66) rfl)) (fun ⟨w67, bs68, J69⟩ hp70 => ?_) Stg_no
            obtain ⟨c72, rfl, f71⟩ := hp70
            replace f71 : L_table_Region.rep (fun w => K w ∧ Hs [.ext bs68 J69] w) c72 x66 := f71
            refine Stg_stg ?_ ?_
            ·
              refine ReOk_cons rfl rfl (VG_v rfl (VS_val (VS_loadall rfl (Lay.len _ f35)) rfl)) ?_
              refine ReOk_cons rfl rfl (VG_v rfl (VS_move rfl)) ?_
              exact ReOk_nil
            refine NewOk_nil ?_
            refine Stg_some rfl rfl (RG_x rfl (RX_callB (c_table_Table_Set (K := (fun w => K w ∧ Hs [.ext bs30 J31, .ext bs68 J69] w)) (Lay.mono _ ent f35) (Lay.mono _ ent f71) hx73) rfl)) (fun ⟨w74, bs75, J76⟩ hp77 => ?_) Stg_no
            obtain ⟨c79, rfl, f78⟩ := hp77
            replace f78 : (L_table_Table).rep (fun w => (fun w => K w ∧ Hs [.ext bs30 J31, .ext bs68 J69] w) w ∧ Hs [.ext bs75 J76] w) c79 x73.1 := f78
            refine Stg_stg ?_ ?_
            · exact ReOk_nil
            refine NewOk_cons rfl rfl (VG_v rfl (VS_move rfl)) ?_
            refine NewOk_cons rfl rfl (VG_v rfl (VS_extract rfl rfl)) ?_
            refine NewOk_cons rfl rfl (VG_v rfl (VS_extract rfl rfl)) ?_
            refine NewOk_nil ?_
            obtain ⟨c80, hc80, f81⟩ : ∃ cc, splice c45 0 c79 = cc ∧ (L_table_Table).rep (fun w => K w ∧ Hs [.ext bs30 J31, .ext bs68 J69, .ext bs75 J76] w) cc x73.1 := ⟨_, rfl, (Pth.id (L := L_table_Table)).set (Lay.mono _ ent f46) (Lay.mono _ ent f78)⟩
            refine Stg_none rfl (RG_x rfl (RX_stN c79 (Pth.id (L := L_table_Table)) (v := x73.1) (r := f46) (rv := ((Lay.mono _ ent f78) : (L_table_Table).rep (fun w => K w ∧ Hs [.ext bs30 J31, .ext bs68 J69, .ext bs75 J76] w) c79 x73.1)) rfl rfl rfl rfl hc80)) (fun _ _ => ?_) Stg_no
            refine Stg_stg ?_ ?_
            ·
              refine ReOk_cons rfl rfl (VG_v rfl (VS_val (VS_extract rfl rfl) rfl)) ?_
              exact ReOk_nil
            refine NewOk_nil ?_
            refine Stg_some rfl rfl (RG_x rfl ((VS_assign rfl).rx)) (fun _ _ => ?_) Stg_no
            refine Stg_fin ?_ ?_
            · exact ReOk_nil
            refine NewOk_nil ?_
            refine WQ_block ?_
            refine WQ_bundle (R := [.ext bs75 J76, .ext bs68 J69]) (H' := [.cells b7 77 c80, .cells b5 85 c43, .ext bs30 J31, .cells b3 77 c34]) (ks := [0, 1, 2, 3, 4, 5]) rfl (by decide) ?_
            exact WQ_cuts (x42.A, x73.2, x73.1, c80, (blks [.ext bs75 J76, .ext bs68 J69]), (Hs [.ext bs75 J76, .ext bs68 J69])) ⟨(Lay.mono _ ent f81), h⟩ (Sub_cons rfl (Sub_cons rfl (Sub_nil))) (.cons rfl (.cons rfl (.cons rfl (.cons rfl (.cons rfl (.nil)))))) (ks := [0, 1, 2, 3, 4]) rfl (by decide)
          ·
            replace h := cn_f hc h
            refine WP_seq ?_
            refine WP_region ?_
            refine WL_v rfl (VS_eql rfl rfl) ?_
            refine WL_v rfl (VS_assign rfl) ?_
            refine WL_nil ?_
            refine WQ_then ?_
            refine WP_if rfl (fun hc => ?_) (fun hc => ?_)
            ·
              replace h := cn_t hc h
              obtain ⟨x82, hx82, h⟩ := bd_e h
              refine WP_region ?_
              refine WL_v rfl (VS_loadall rfl (Lay.len _ f35)) ?_
              refine WL_v rfl (VS_move rfl) ?_
              refine WL_v rfl (VS_field0 rfl) ?_
              refine WL_v rfl (VS_load rfl (P_law05_Act_B.int f44)) ?_
              refine WL_x rfl (RX_callB (c_table_Table_Raise (K := (fun w => K w ∧ Hs [.ext bs30 J31] w)) (Lay.mono _ ent f35) hx82) rfl) (fun ⟨w83, bs84, J85⟩ hp86 => ?_)
              obtain ⟨c88, rfl, f87⟩ := hp86
              replace f87 : (L_table_Table).rep (fun w => (fun w => K w ∧ Hs [.ext bs30 J31] w) w ∧ Hs [.ext bs84 J85] w) c88 x82.1 := f87
              refine WL_v rfl (VS_move rfl) ?_
              refine WL_v rfl (VS_extract rfl rfl) ?_
              refine WL_v rfl (VS_extract rfl rfl) ?_
              obtain ⟨c89, hc89, f90⟩ : ∃ cc, splice c45 0 c88 = cc ∧ (L_table_Table).rep (fun w => K w ∧ Hs [.ext bs30 J31, .ext bs84 J85] w) cc x82.1 := ⟨_, rfl, (Pth.id (L := L_table_Table)).set (Lay.mono _ ent f46) (Lay.mono _ ent f87)⟩
              refine WL_x0 (RX_stN c88 (Pth.id (L := L_table_Table)) (v := x82.1) (r := f46) (rv := ((Lay.mono _ ent f87) : (L_table_Table).rep (fun w => K w ∧ Hs [.ext bs30 J31, .ext bs84 J85] w) c88 x82.1)) rfl rfl rfl rfl hc89) (fun _ _ => ?_)
              refine WL_v rfl (VS_assign rfl) ?_
              refine WL_nil ?_
              refine WQ_block ?_
              refine WQ_bundle (R := [.ext bs84 J85]) (H' := [.cells b7 77 c89, .cells b5 85 c43, .ext bs30 J31, .cells b3 77 c34]) (ks := [0, 1, 2, 3, 4]) rfl (by decide) ?_
              exact WQ_cuts (x42.A, x82.2, x82.1, c89, (blks [.ext bs84 J85]), (Hs [.ext bs84 J85])) ⟨(Lay.mono _ ent f90), h⟩ (Sub_cons rfl (Sub_cons rfl (Sub_nil))) (.cons rfl (.cons rfl (.cons rfl (.cons rfl (.cons rfl (.nil)))))) (ks := [0, 1, 2, 3, 4]) rfl (by decide)
            ·
              replace h := cn_f hc h
              obtain ⟨x91, hx91, h⟩ := bd_e h
              refine WP_region ?_
              refine WL_v rfl (VS_loadall rfl (Lay.len _ f35)) ?_
              refine WL_v rfl (VS_move rfl) ?_
              refine WL_v rfl (VS_field0 rfl) ?_
              refine WL_v rfl (VS_field rfl) ?_
              refine WL_v rfl (VS_load rfl ((P_law05_Act_R.comp P_ref05_Region_Quota).int f44)) ?_
              refine WL_x rfl (RX_callB (c_table_Table_New (K := (fun w => K w ∧ Hs [.ext bs30 J31] w)) (Lay.mono _ ent f35) hx91) rfl) (fun ⟨w92, bs93, J94⟩ hp95 => ?_)
              obtain ⟨c97, rfl, f96⟩ := hp95
              replace f96 : (L_table_Table).rep (fun w => (fun w => K w ∧ Hs [.ext bs30 J31] w) w ∧ Hs [.ext bs93 J94] w) c97 x91.1 := f96
              refine WL_v rfl (VS_move rfl) ?_
              refine WL_v rfl (VS_extract rfl rfl) ?_
              refine WL_v rfl (VS_extract rfl rfl) ?_
              refine WL_v rfl (VS_extract rfl rfl) ?_
              obtain ⟨c98, hc98, f99⟩ : ∃ cc, splice c45 0 c97 = cc ∧ (L_table_Table).rep (fun w => K w ∧ Hs [.ext bs30 J31, .ext bs93 J94] w) cc x91.1 := ⟨_, rfl, (Pth.id (L := L_table_Table)).set (Lay.mono _ ent f46) (Lay.mono _ ent f96)⟩
              refine WL_x0 (RX_stN c97 (Pth.id (L := L_table_Table)) (v := x91.1) (r := f46) (rv := ((Lay.mono _ ent f96) : (L_table_Table).rep (fun w => K w ∧ Hs [.ext bs30 J31, .ext bs93 J94] w) c97 x91.1)) rfl rfl rfl rfl hc98) (fun _ _ => ?_)
              refine WL_v rfl (VS_assign rfl) ?_
              refine WL_v rfl (VS_assign rfl) ?_
              refine WL_nil ?_
              refine WQ_block ?_
              refine WQ_bundle (R := [.ext bs93 J94]) (H' := [.cells b7 77 c98, .cells b5 85 c43, .ext bs30 J31, .cells b3 77 c34]) (ks := [0, 1, 2, 3, 4]) rfl (by decide) ?_
              exact WQ_cuts (x91.2.1, x91.2.2, x91.1, c98, (blks [.ext bs93 J94]), (Hs [.ext bs93 J94])) ⟨(Lay.mono _ ent f99), h⟩ (Sub_cons rfl (Sub_cons rfl (Sub_nil))) (.cons rfl (.cons rfl (.cons rfl (.cons rfl (.cons rfl (.nil)))))) (ks := [0, 1, 2, 3, 4]) rfl (by decide)
      ·
        rintro ⟨x49, x50, x51, c52, bs47, J48⟩ ⟨f53, h⟩
        replace h : j54 x49 x50 x51 = some r := h
        replace h := jn3_u hj54 h
        refine WP_seq ?_
        obtain ⟨x100, hx100, h⟩ := bd_e h
        refine WP_region ?_
        refine WL_v rfl (VS_field0 rfl) ?_
        refine WL_v rfl (VS_loadpart rfl (FlatL.iff.1 (P_table_Table_book.get f35)) (enc_len _ _)) ?_
        refine WL_x rfl (RX_callB (c_table_book_All hx100) rfl) (fun ⟨w101, bs102, J103⟩ hp104 => ?_)
        have f105 : Fz (Hs [.ext bs102 J103]) w101 (LI .u32) x100 := hp104
        refine WL_v rfl (VS_assign rfl) ?_
        refine WL_nil ?_
        refine WQ_then ?_
        refine WP_seq ?_
        refine WP_seq ?_
        refine WP_region ?_
        refine WL_v rfl (VS_assign rfl) ?_
        refine WL_nil ?_
        refine WQ_then ?_
        refine WP_block ?_
        obtain ⟨lb109, hlb109, h⟩ := lp1_i h
        refine WP_loops (α := Nat × Int) [0, 3, 4, 5, 6, 7, 8, 9] (.cons rfl (.cons rfl (.cons rfl (.cons rfl (.cons rfl (.cons rfl (.cons rfl (.cons rfl (.nil))))))))) (fun (m110, x108) => [(10, .int .i64 x108)]) (fun (m110, x108) => [.ext bs102 J103, .ext bs47 J48, .cells b7 77 c52, .cells b5 85 c43, .ext bs30 J31, .cells b3 77 c34]) (fun (m110, x108) => loop1 lb109 m110 x108 = some r) (fun (m110, x108) => m110) (n, 0) h (Sub_cons rfl (Sub_nil)) (ks := [0, 1, 2, 3, 4, 5]) rfl (by decide) ?_
        rintro ⟨m110, x108⟩ h
        replace h : loop1 lb109 m110 x108 = some r := h
        replace h := lp1_s hlb109 h
        obtain ⟨m110, rfl, h⟩ := h
        refine WP_seq ?_
        refine WP_seq ?_
        refine WP_region ?_
        refine WL_v rfl (VS_move rfl) ?_
        refine WL_v rfl (VS_move rfl) ?_
        refine WL_v rfl (VS_lenF f105 rfl) ?_
        refine WL_v rfl (VS_lss rfl rfl) ?_
        refine WL_nil ?_
        refine WQ_then ?_
        refine WP_if rfl (fun hc => ?_) (fun hc => ?_)
        ·
          replace h := cn_t hc h
          refine WP_skip ?_
          refine WQ_then ?_
          refine WP_seq ?_
          refine WP_block ?_
          refine WP_seq ?_
          refine WP_seq ?_
          obtain ⟨hg112, h⟩ := gu_e h
          refine WP_region ?_
          refine WL_v rfl (VS_move rfl) ?_
          refine WL_v rfl (VS_move rfl) ?_
          refine WL_v rfl (VS_ixF (m := (Int.toNat x108)) f105 rfl rfl rfl (inb_e hg112).1 (inb_e hg112).2) ?_
          refine WL_v rfl (VS_ldiF f105 (Pth.idx (L := (LI .u32)) (m := (x100.length)) (k := 1) ((Int.toNat x108)) (inb_e hg112).2 rfl) rfl) ?_
          refine WL_v rfl (VS_move rfl) ?_
          refine WL_v rfl (VS_eql rfl rfl) ?_
          refine WL_v rfl (VS_move rfl) ?_
          refine WL_g (Gd_b rfl rfl) rfl (fun hb => VS_move rfl) ?_
          refine WL_g (Gd_b rfl rfl) rfl (fun hb => VS_eql (gev rfl hb) rfl) ?_
          refine WL_v rfl (VS_and rfl rfl) ?_
          refine WL_nil ?_
          refine WQ_then ?_
          refine WP_if rfl (fun hc => ?_) (fun hc => ?_)
          ·
            replace h := cn_t hc h
            refine WP_exit ?_
            refine WQ_then_exit ?_
            refine WQ_block_exit ?_
            refine WQ_then ?_
            refine WP_region ?_
            refine WL_v rfl (VS_move rfl) ?_
            refine WL_v rfl (VS_add rfl rfl rfl) ?_
            refine WL_v rfl (VS_assign rfl) ?_
            refine WL_nil ?_
            exact WQ_loops (m110, wr .i64 (x108 + 1)) (Nat.lt_succ_self _) h (Sub_cons rfl (Sub_nil)) (.cons rfl (.cons rfl (.cons rfl (.cons rfl (.cons rfl (.cons rfl (.cons rfl (.cons rfl (.nil))))))))) (ks := [0, 1, 2, 3, 4, 5]) rfl (by decide)
          ·
            replace h := cn_f hc h
            refine WP_skip ?_
            refine WQ_then ?_
            obtain ⟨hg113, h⟩ := gu_e h
            obtain ⟨x114, hx114, h⟩ := bd_e h
            refine WP_cuts (α := (List Value) × (List Nat) × (World → Prop) × Nat × (List Value)) [0, 3, 4, 5, 6, 7, 8, 9, 10] (.cons rfl (.cons rfl (.cons rfl (.cons rfl (.cons rfl (.cons rfl (.cons rfl (.cons rfl (.cons rfl (.nil)))))))))) (fun (c120, bs116, J117, b11, c121) => [(11, Ptr b11 0), (12, .int .i64 x114.2)]) (fun (c120, bs116, J117, b11, c121) => [.cells b11 74 c121, .ext bs116 J117, .ext bs102 J103, .ext bs47 J48, .cells b7 77 c52, .cells b5 85 c43, .ext bs30 J31, .cells b3 77 c34]) (fun (c120, bs116, J117, b11, c121) => (L_table_Region).rep (fun w => (fun w => K w ∧ Hs [.ext bs30 J31] w) w ∧ Hs [.ext bs116 J117] w) c120 x114.1 ∧ (L_table_Region).rep (fun w => K w ∧ Hs [.ext bs116 J117, .ext bs30 J31] w) c121 x114.1) ?_ ?_
            ·
              refine WP_draw mixed (.stg [] [(0, [3]), (1, [9]), (2, [10]), (3, [100, 101]), (4, [102])] (.alt 5 [99, 103] (.stg [] [(6, [104]), (7, [98]), (8, [98])] (.alt 9 [] (.stg [(6, [104]), (7, [98]), (8, [98])] [] (.alt 10 [11, 105] (.stg [(8, [98])] [] (.alt 11 [106] (.fin [] []) .no)) .no)) .no)) (.alt 9 [] (.stg [(0, [3]), (1, [9]), (2, [10]), (3, [100, 101]), (4, [102])] [] (.alt 5 [99, 103] (.stg [] [(6, [104]), (7, [98]), (8, [98])] (.alt 10 [11, 105] (.stg [(8, [98])] [] (.alt 11 [106] (.fin [] []) .no)) .no)) .no)) .no))) (by kernel_rfl) ?_
              refine Stg_stg ?_ ?_
              · exact ReOk_nil
              refine NewOk_cons rfl rfl (VG_v rfl (VS_loadall rfl (Lay.len _ f35))) ?_
              refine NewOk_cons rfl rfl (VG_v rfl (VS_move rfl)) ?_
              refine NewOk_cons rfl rfl (VG_v rfl (VS_move rfl)) ?_
              refine NewOk_cons rfl rfl (VG_v rfl (VS_ixF (m := (Int.toNat x108)) f105 rfl rfl rfl (inb_e hg113).1 (inb_e hg113).2)) ?_
              refine NewOk_cons rfl rfl (VG_v rfl (VS_ldiF f105 (Pth.idx (L := (LI .u32)) (m := (x100.length)) (k := 1) ((Int.toNat x108)) (inb_e hg113).2 rfl) rfl)) ?_
              refine NewOk_nil ?_
              refine Stg_some rfl rfl (RG_x rfl (RX_callB (c_table_Table_Get (K := (fun w => K w ∧ Hs [.ext bs30 J31] w)) (Lay.mono _ ent f35) hx114) rfl)) (fun ⟨w115, bs116, J117⟩ hp118 => ?_) ?_
              ·
                obtain ⟨c120, rfl, f119⟩ := hp118
                replace f119 : (L_table_Region).rep (fun w => (fun w => K w ∧ Hs [.ext bs30 J31] w) w ∧ Hs [.ext bs116 J117] w) c120 x114.1 := f119
                refine Stg_stg ?_ ?_
                · exact ReOk_nil
                refine NewOk_cons rfl rfl (VG_v rfl (VS_move rfl)) ?_
                refine NewOk_cons rfl rfl (VG_v rfl (VS_extract rfl rfl)) ?_
                refine NewOk_cons rfl rfl (VG_v rfl (VS_extract rfl rfl)) ?_
                refine NewOk_nil ?_
                refine Stg_some rfl rfl (RG_x rfl (RX_alloc (hz := (⟨by kernel_rfl⟩ : TZero Try.prog 74 zc_table_Region)))) (fun b11 _ => ?_) Stg_no
                refine Stg_stg ?_ ?_
                ·
                  refine ReOk_cons rfl rfl (VG_v rfl (VS_move rfl)) ?_
                  refine ReOk_cons rfl rfl (VG_v rfl (VS_val (VS_extract rfl rfl) rfl)) ?_
                  refine ReOk_cons rfl rfl (VG_v rfl (VS_val (VS_extract rfl rfl) rfl)) ?_
                  exact ReOk_nil
                refine NewOk_nil ?_
                obtain ⟨c121, hc121, f122⟩ : ∃ cc, splice zc_table_Region 0 c120 = cc ∧ (L_table_Region).rep (fun w => K w ∧ Hs [.ext bs116 J117, .ext bs30 J31] w) cc x114.1 := ⟨_, rfl, (Pth.id (L := L_table_Region)).set (Lay.mono _ ent (show (L_table_Region).rep (Hs []) zc_table_Region Z_table_Region from zr_table_Region)) (Lay.mono _ ent f119)⟩
                refine Stg_none rfl (RG_x rfl (RX_stN c120 (Pth.id (L := L_table_Region)) (v := x114.1) (r := (show (L_table_Region).rep (Hs []) zc_table_Region Z_table_Region from zr_table_Region)) (rv := ((Lay.mono _ ent f119) : (L_table_Region).rep (fun w => K w ∧ Hs [.ext bs116 J117, .ext bs30 J31] w) c120 x114.1)) rfl rfl rfl rfl hc121)) (fun _ _ => ?_) Stg_no
                refine Stg_stg ?_ ?_
                ·
                  refine ReOk_cons rfl rfl (VG_v rfl (VS_val (VS_extract rfl rfl) rfl)) ?_
                  exact ReOk_nil
                refine NewOk_nil ?_
                refine Stg_some rfl rfl (RG_x rfl ((VS_assign rfl).rx)) (fun _ _ => ?_) Stg_no
                refine Stg_fin ?_ ?_
                · exact ReOk_nil
                refine NewOk_nil ?_
                exact WQ_cuts (c120, bs116, J117, b11, c121) ⟨f119, f122⟩ (Sub_cons rfl (Sub_cons rfl (Sub_nil))) (.cons rfl (.cons rfl (.cons rfl (.cons rfl (.cons rfl (.cons rfl (.cons rfl (.cons rfl (.cons rfl (.nil)))))))))) (ks := [0, 1, 2, 3, 4, 5, 6, 7]) rfl (by decide)
              refine Stg_some rfl rfl (RG_x rfl (RX_alloc (hz := (⟨by kernel_rfl⟩ : TZero Try.prog 74 zc_table_Region)))) (fun b11 _ => ?_) ?_
              ·
                refine Stg_stg ?_ ?_
                ·
                  refine ReOk_cons rfl rfl (VG_v rfl (VS_val (VS_loadall rfl (Lay.len _ f35)) rfl)) ?_
                  refine ReOk_cons rfl rfl (VG_v rfl (VS_move rfl)) ?_
                  refine ReOk_cons rfl rfl (VG_v rfl (VS_move rfl)) ?_
                  refine ReOk_cons rfl rfl (VG_v rfl (VS_val (VS_ixF (m := (Int.toNat x108)) f105 rfl rfl rfl (inb_e hg113).1 (inb_e hg113).2) rfl)) ?_
                  refine ReOk_cons rfl rfl (VG_v rfl (VS_val (VS_ldiF f105 (Pth.idx (L := (LI .u32)) (m := (x100.length)) (k := 1) ((Int.toNat x108)) (inb_e hg113).2 rfl) rfl) rfl)) ?_
                  exact ReOk_nil
                refine NewOk_nil ?_
                refine Stg_some rfl rfl (RG_x rfl (RX_callB (c_table_Table_Get (K := (fun w => K w ∧ Hs [.ext bs30 J31] w)) (Lay.mono _ ent f35) hx114) rfl)) (fun ⟨w115, bs116, J117⟩ hp118 => ?_) Stg_no
                obtain ⟨c120, rfl, f119⟩ := hp118
                replace f119 : (L_table_Region).rep (fun w => (fun w => K w ∧ Hs [.ext bs30 J31] w) w ∧ Hs [.ext bs116 J117] w) c120 x114.1 := f119
                refine Stg_stg ?_ ?_
                · exact ReOk_nil
                refine NewOk_cons rfl rfl (VG_v rfl (VS_move rfl)) ?_
                refine NewOk_cons rfl rfl (VG_v rfl (VS_extract rfl rfl)) ?_
                refine NewOk_cons rfl rfl (VG_v rfl (VS_extract rfl rfl)) ?_
                refine NewOk_nil ?_
                obtain ⟨c121, hc121, f122⟩ : ∃ cc, splice zc_table_Region 0 c120 = cc ∧ (L_table_Region).rep (fun w => K w ∧ Hs [.ext bs116 J117, .ext bs30 J31] w) cc x114.1 := ⟨_, rfl, (Pth.id (L := L_table_Region)).set (Lay.mono _ ent (show (L_table_Region).rep (Hs []) zc_table_Region Z_table_Region from zr_table_Region)) (Lay.mono _ ent f119)⟩
                refine Stg_none rfl (RG_x rfl (RX_stN c120 (Pth.id (L := L_table_Region)) (v := x114.1) (r := (show (L_table_Region).rep (Hs []) zc_table_Region Z_table_Region from zr_table_Region)) (rv := ((Lay.mono _ ent f119) : (L_table_Region).rep (fun w => K w ∧ Hs [.ext bs116 J117, .ext bs30 J31] w) c120 x114.1)) rfl rfl rfl rfl hc121)) (fun _ _ => ?_) Stg_no
                refine Stg_stg ?_ ?_
                ·
                  refine ReOk_cons rfl rfl (VG_v rfl (VS_val (VS_extract rfl rfl) rfl)) ?_
                  exact ReOk_nil
                refine NewOk_nil ?_
                refine Stg_some rfl rfl (RG_x rfl ((VS_assign rfl).rx)) (fun _ _ => ?_) Stg_no
                refine Stg_fin ?_ ?_
                · exact ReOk_nil
                refine NewOk_nil ?_
                exact WQ_cuts (c120, bs116, J117, b11, c121) ⟨f119, f122⟩ (Sub_cons rfl (Sub_cons rfl (Sub_nil))) (.cons rfl (.cons rfl (.cons rfl (.cons rfl (.cons rfl (.cons rfl (.cons rfl (.cons rfl (.cons rfl (.nil)))))))))) (ks := [1, 0, 2, 3, 4, 5, 6, 7]) rfl (by decide)
              exact Stg_no
            ·
              rintro ⟨c120, bs116, J117, b11, c121⟩ ⟨f119, f122⟩
              obtain ⟨hg123, h⟩ := gu_e h
              obtain ⟨x124, hx124, h⟩ := bd_e h
              refine WP_cuts (α := (List Value) × (List Nat) × (World → Prop) × Nat × (List Value)) [0, 3, 4, 5, 6, 7, 8, 9, 10, 11, 12] (.cons rfl (.cons rfl (.cons rfl (.cons rfl (.cons rfl (.cons rfl (.cons rfl (.cons rfl (.cons rfl (.cons rfl (.cons rfl (.nil)))))))))))) (fun (c130, bs126, J127, b13, c131) => [(13, Ptr b13 0), (14, .int .i64 x124.2)]) (fun (c130, bs126, J127, b13, c131) => [.cells b13 74 c131, .ext bs126 J127, .cells b11 74 c121, .ext bs116 J117, .ext bs102 J103, .ext bs47 J48, .cells b7 77 c52, .cells b5 85 c43, .ext bs30 J31, .cells b3 77 c34]) (fun (c130, bs126, J127, b13, c131) => (L_table_Region).rep (fun w => (fun w => K w ∧ Hs [.ext bs30 J31, .ext bs47 J48] w) w ∧ Hs [.ext bs126 J127] w) c130 x124.1 ∧ (L_table_Region).rep (fun w => K w ∧ Hs [.ext bs126 J127, .ext bs30 J31, .ext bs47 J48] w) c131 x124.1) ?_ ?_
              ·
                refine WP_draw mixed (.stg [] [(0, [7]), (1, [9]), (2, [10]), (3, [109, 110]), (4, [111])] (.alt 5 [108, 112] (.stg [] [(6, [113]), (7, [107]), (8, [107])] (.alt 9 [] (.stg [(6, [113]), (7, [107]), (8, [107])] [] (.alt 10 [13, 114] (.stg [(8, [107])] [] (.alt 11 [115] (.fin [] []) .no)) .no)) .no)) (.alt 9 [] (.stg [(0, [7]), (1, [9]), (2, [10]), (3, [109, 110]), (4, [111])] [] (.alt 5 [108, 112] (.stg [] [(6, [113]), (7, [107]), (8, [107])] (.alt 10 [13, 114] (.stg [(8, [107])] [] (.alt 11 [115] (.fin [] []) .no)) .no)) .no)) .no))) (by kernel_rfl) ?_
                refine Stg_stg ?_ ?_
                · exact ReOk_nil
                refine NewOk_cons rfl rfl (VG_v rfl (VS_loadall rfl (Lay.len _ f53))) ?_
                refine NewOk_cons rfl rfl (VG_v rfl (VS_move rfl)) ?_
                refine NewOk_cons rfl rfl (VG_v rfl (VS_move rfl)) ?_
                refine NewOk_cons rfl rfl (VG_v rfl (VS_ixF (m := (Int.toNat x108)) f105 rfl rfl rfl (inb_e hg123).1 (inb_e hg123).2)) ?_
                refine NewOk_cons rfl rfl (VG_v rfl (VS_ldiF f105 (Pth.idx (L := (LI .u32)) (m := (x100.length)) (k := 1) ((Int.toNat x108)) (inb_e hg123).2 rfl) rfl)) ?_
                refine NewOk_nil ?_
                refine Stg_some rfl rfl (RG_x rfl (RX_callB (c_table_Table_Get (K := (fun w => K w ∧ Hs [.ext bs30 J31, .ext bs47 J48] w)) (Lay.mono _ ent f53) hx124) rfl)) (fun ⟨w125, bs126, J127⟩ hp128 => ?_) ?_
                ·
                  obtain ⟨c130, rfl, f129⟩ := hp128
                  replace f129 : (L_table_Region).rep (fun w => (fun w => K w ∧ Hs [.ext bs30 J31, .ext bs47 J48] w) w ∧ Hs [.ext bs126 J127] w) c130 x124.1 := f129
                  refine Stg_stg ?_ ?_
                  · exact ReOk_nil
                  refine NewOk_cons rfl rfl (VG_v rfl (VS_move rfl)) ?_
                  refine NewOk_cons rfl rfl (VG_v rfl (VS_extract rfl rfl)) ?_
                  refine NewOk_cons rfl rfl (VG_v rfl (VS_extract rfl rfl)) ?_
                  refine NewOk_nil ?_
                  refine Stg_some rfl rfl (RG_x rfl (RX_alloc (hz := (⟨by kernel_rfl⟩ : TZero Try.prog 74 zc_table_Region)))) (fun b13 _ => ?_) Stg_no
                  refine Stg_stg ?_ ?_
                  ·
                    refine ReOk_cons rfl rfl (VG_v rfl (VS_move rfl)) ?_
                    refine ReOk_cons rfl rfl (VG_v rfl (VS_val (VS_extract rfl rfl) rfl)) ?_
                    refine ReOk_cons rfl rfl (VG_v rfl (VS_val (VS_extract rfl rfl) rfl)) ?_
                    exact ReOk_nil
                  refine NewOk_nil ?_
                  obtain ⟨c131, hc131, f132⟩ : ∃ cc, splice zc_table_Region 0 c130 = cc ∧ (L_table_Region).rep (fun w => K w ∧ Hs [.ext bs126 J127, .ext bs30 J31, .ext bs47 J48] w) cc x124.1 := ⟨_, rfl, (Pth.id (L := L_table_Region)).set (Lay.mono _ ent (show (L_table_Region).rep (Hs []) zc_table_Region Z_table_Region from zr_table_Region)) (Lay.mono _ ent f129)⟩
                  refine Stg_none rfl (RG_x rfl (RX_stN c130 (Pth.id (L := L_table_Region)) (v := x124.1) (r := (show (L_table_Region).rep (Hs []) zc_table_Region Z_table_Region from zr_table_Region)) (rv := ((Lay.mono _ ent f129) : (L_table_Region).rep (fun w => K w ∧ Hs [.ext bs126 J127, .ext bs30 J31, .ext bs47 J48] w) c130 x124.1)) rfl rfl rfl rfl hc131)) (fun _ _ => ?_) Stg_no
                  refine Stg_stg ?_ ?_
                  ·
                    refine ReOk_cons rfl rfl (VG_v rfl (VS_val (VS_extract rfl rfl) rfl)) ?_
                    exact ReOk_nil
                  refine NewOk_nil ?_
                  refine Stg_some rfl rfl (RG_x rfl ((VS_assign rfl).rx)) (fun _ _ => ?_) Stg_no
                  refine Stg_fin ?_ ?_
                  · exact ReOk_nil
                  refine NewOk_nil ?_
                  exact WQ_cuts (c130, bs126, J127, b13, c131) ⟨f129, f132⟩ (Sub_cons rfl (Sub_cons rfl (Sub_nil))) (.cons rfl (.cons rfl (.cons rfl (.cons rfl (.cons rfl (.cons rfl (.cons rfl (.cons rfl (.cons rfl (.cons rfl (.cons rfl (.nil)))))))))))) (ks := [0, 1, 2, 3, 4, 5, 6, 7, 8, 9]) rfl (by decide)
                refine Stg_some rfl rfl (RG_x rfl (RX_alloc (hz := (⟨by kernel_rfl⟩ : TZero Try.prog 74 zc_table_Region)))) (fun b13 _ => ?_) ?_
                ·
                  refine Stg_stg ?_ ?_
                  ·
                    refine ReOk_cons rfl rfl (VG_v rfl (VS_val (VS_loadall rfl (Lay.len _ f53)) rfl)) ?_
                    refine ReOk_cons rfl rfl (VG_v rfl (VS_move rfl)) ?_
                    refine ReOk_cons rfl rfl (VG_v rfl (VS_move rfl)) ?_
                    refine ReOk_cons rfl rfl (VG_v rfl (VS_val (VS_ixF (m := (Int.toNat x108)) f105 rfl rfl rfl (inb_e hg123).1 (inb_e hg123).2) rfl)) ?_
                    refine ReOk_cons rfl rfl (VG_v rfl (VS_val (VS_ldiF f105 (Pth.idx (L := (LI .u32)) (m := (x100.length)) (k := 1) ((Int.toNat x108)) (inb_e hg123).2 rfl) rfl) rfl)) ?_
                    exact ReOk_nil
                  refine NewOk_nil ?_
                  refine Stg_some rfl rfl (RG_x rfl (RX_callB (c_table_Table_Get (K := (fun w => K w ∧ Hs [.ext bs30 J31, .ext bs47 J48] w)) (Lay.mono _ ent f53) hx124) rfl)) (fun ⟨w125, bs126, J127⟩ hp128 => ?_) Stg_no
                  obtain ⟨c130, rfl, f129⟩ := hp128
                  replace f129 : (L_table_Region).rep (fun w => (fun w => K w ∧ Hs [.ext bs30 J31, .ext bs47 J48] w) w ∧ Hs [.ext bs126 J127] w) c130 x124.1 := f129
                  refine Stg_stg ?_ ?_
                  · exact ReOk_nil
                  refine NewOk_cons rfl rfl (VG_v rfl (VS_move rfl)) ?_
                  refine NewOk_cons rfl rfl (VG_v rfl (VS_extract rfl rfl)) ?_
                  refine NewOk_cons rfl rfl (VG_v rfl (VS_extract rfl rfl)) ?_
                  refine NewOk_nil ?_
                  obtain ⟨c131, hc131, f132⟩ : ∃ cc, splice zc_table_Region 0 c130 = cc ∧ (L_table_Region).rep (fun w => K w ∧ Hs [.ext bs126 J127, .ext bs30 J31, .ext bs47 J48] w) cc x124.1 := ⟨_, rfl, (Pth.id (L := L_table_Region)).set (Lay.mono _ ent (show (L_table_Region).rep (Hs []) zc_table_Region Z_table_Region from zr_table_Region)) (Lay.mono _ ent f129)⟩
                  refine Stg_none rfl (RG_x rfl (RX_stN c130 (Pth.id (L := L_table_Region)) (v := x124.1) (r := (show (L_table_Region).rep (Hs []) zc_table_Region Z_table_Region from zr_table_Region)) (rv := ((Lay.mono _ ent f129) : (L_table_Region).rep (fun w => K w ∧ Hs [.ext bs126 J127, .ext bs30 J31, .ext bs47 J48] w) c130 x124.1)) rfl rfl rfl rfl hc131)) (fun _ _ => ?_) Stg_no
                  refine Stg_stg ?_ ?_
                  ·
                    refine ReOk_cons rfl rfl (VG_v rfl (VS_val (VS_extract rfl rfl) rfl)) ?_
                    exact ReOk_nil
                  refine NewOk_nil ?_
                  refine Stg_some rfl rfl (RG_x rfl ((VS_assign rfl).rx)) (fun _ _ => ?_) Stg_no
                  refine Stg_fin ?_ ?_
                  · exact ReOk_nil
                  refine NewOk_nil ?_
                  exact WQ_cuts (c130, bs126, J127, b13, c131) ⟨f129, f132⟩ (Sub_cons rfl (Sub_cons rfl (Sub_nil))) (.cons rfl (.cons rfl (.cons rfl (.cons rfl (.cons rfl (.cons rfl (.cons rfl (.cons rfl (.cons rfl (.cons rfl (.cons rfl (.nil)))))))))))) (ks := [1, 0, 2, 3, 4, 5, 6, 7, 8, 9]) rfl (by decide)
                exact Stg_no
              ·
                rintro ⟨c130, bs126, J127, b13, c131⟩ ⟨f129, f132⟩
                refine WP_seq ?_
                refine WP_region ?_
                refine WL_v rfl (VS_move rfl) ?_
                refine WL_v rfl (VS_eql rfl rfl) ?_
                refine WL_v rfl (VS_move rfl) ?_
                refine WL_g (Gd_b rfl rfl) rfl (fun hb => VS_field0 rfl) ?_
                refine WL_g (Gd_b rfl rfl) rfl (fun hb => VS_load (gev rfl hb) (P_law05_Act_Do.int f44)) ?_
                refine WL_g (Gd_b rfl rfl) rfl (fun hb => VS_eql (gev rfl hb) rfl) ?_
                refine WL_v rfl (VS_and rfl rfl) ?_
                refine WL_v rfl (VS_move rfl) ?_
                refine WL_g (Gd_b rfl rfl) rfl (fun hb => VS_field0 rfl) ?_
                refine WL_g (Gd_b rfl rfl) rfl (fun hb => VS_load (gev rfl hb) (P_table_Region_Up.int f122)) ?_
                refine WL_g (Gd_b rfl rfl) rfl (fun hb => VS_move rfl) ?_
                refine WL_g (Gd_b rfl rfl) rfl (fun hb => VS_eql (gev rfl hb) (gev rfl hb)) ?_
                refine WL_v rfl (VS_and rfl rfl) ?_
                refine WL_v rfl (VS_move rfl) ?_
                refine WL_g (Gd_b rfl rfl) rfl (fun hb => VS_move rfl) ?_
                refine WL_g (Gd_b rfl rfl) rfl (fun hb => VS_neq (gev rfl hb) rfl) ?_
                refine WL_v rfl (VS_and rfl rfl) ?_
                refine WL_v rfl (VS_assign rfl) ?_
                refine WL_nil ?_
                refine WQ_then ?_
                refine WP_seq ?_
                refine WP_region ?_
                refine WL_v rfl (VS_move rfl) ?_
                refine WL_v rfl (VS_neq rfl rfl) ?_
                refine WL_v rfl (VS_move rfl) ?_
                refine WL_g (Gd_b rfl rfl) rfl (fun hb => VS_move rfl) ?_
                refine WL_g (Gd_b rfl rfl) rfl (fun hb => VS_neq (gev rfl hb) rfl) ?_
                refine WL_v rfl (VS_or rfl rfl) ?_
                refine WL_v rfl (VS_move rfl) ?_
                refine WL_g (Gd_b rfl rfl) rfl (fun hb => VS_field0 rfl) ?_
                refine WL_g (Gd_b rfl rfl) rfl (fun hb => VS_load (gev rfl hb) (P_table_Region_Quota.int f122)) ?_
                refine WL_g (Gd_b rfl rfl) rfl (fun hb => VS_field0 rfl) ?_
                refine WL_g (Gd_b rfl rfl) rfl (fun hb => VS_load (gev rfl hb) (P_table_Region_Quota.int f132)) ?_
                refine WL_g (Gd_b rfl rfl) rfl (fun hb => VS_neq (gev rfl hb) (gev rfl hb)) ?_
                refine WL_v rfl (VS_or rfl rfl) ?_
                refine WL_v rfl (VS_move rfl) ?_
                refine WL_g (Gd_b rfl rfl) rfl (fun hb => VS_field0 rfl) ?_
                refine WL_g (Gd_b rfl rfl) rfl (fun hb => VS_loadpart (gev rfl hb) (FlatL.iff.1 (P_table_Region_Cells.get f122)) (enc_len _ _)) ?_
                refine WL_g (Gd_b rfl rfl) rfl (fun hb => VS_field0 rfl) ?_
                refine WL_g (Gd_b rfl rfl) rfl (fun hb => VS_loadpart (gev rfl hb) (FlatL.iff.1 (P_table_Region_Cells.get f132)) (enc_len _ _)) ?_
                refine WL_g (Gd_b rfl rfl) rfl (fun hb => VS_neqA (n := 8) (k := .u32) ⟨by kernel_rfl⟩ (gev rfl hb) (gev rfl hb)) ?_
                refine WL_v rfl (VS_or rfl rfl) ?_
                refine WL_v rfl (VS_move rfl) ?_
                refine WL_g (Gd_b rfl rfl) rfl (fun hb => VS_field0 rfl) ?_
                refine WL_g (Gd_b rfl rfl) rfl (fun hb => VS_field (gev rfl hb)) ?_
                refine WL_g (Gd_b rfl rfl) rfl (fun hb => VS_load (gev rfl hb) ((P_table_Region_E.comp P_extent_Extent_Len).int f122)) ?_
                refine WL_g (Gd_b rfl rfl) rfl (fun hb => VS_field0 rfl) ?_
                refine WL_g (Gd_b rfl rfl) rfl (fun hb => VS_field (gev rfl hb)) ?_
                refine WL_g (Gd_b rfl rfl) rfl (fun hb => VS_load (gev rfl hb) ((P_table_Region_E.comp P_extent_Extent_Len).int f132)) ?_
                refine WL_g (Gd_b rfl rfl) rfl (fun hb => VS_neq (gev rfl hb) (gev rfl hb)) ?_
                refine WL_v rfl (VS_or rfl rfl) ?_
                refine WL_v rfl (VS_move rfl) ?_
                refine WL_g (Gd_b rfl rfl) rfl (fun hb => VS_field0 rfl) ?_
                refine WL_g (Gd_b rfl rfl) rfl (fun hb => VS_field (gev rfl hb)) ?_
                obtain ⟨v133, hv133, f134⟩ := guard_ex (g := ((((((x114.2 != 0) || (x124.2 != 0)) || (x114.1.Quota != x124.1.Quota)) || (!(eqA 8 x114.1.Cells x124.1.Cells))) || (x114.1.E.Len != x124.1.E.Len)) == false)) (fun hb => (P_table_Region_E.comp P_extent_Extent_Runs).sl f122)
                refine WL_g (Gd_b rfl rfl) rfl (fun hb => VS_load (gev rfl hb) (hv133 hb)) ?_
                refine WL_g (Gd_b rfl rfl) rfl (fun hb => VS_lenF (f134 hb) (gev rfl hb)) ?_
                refine WL_g (Gd_b rfl rfl) rfl (fun hb => VS_field0 rfl) ?_
                refine WL_g (Gd_b rfl rfl) rfl (fun hb => VS_field (gev rfl hb)) ?_
                obtain ⟨v135, hv135, f136⟩ := guard_ex (g := ((((((x114.2 != 0) || (x124.2 != 0)) || (x114.1.Quota != x124.1.Quota)) || (!(eqA 8 x114.1.Cells x124.1.Cells))) || (x114.1.E.Len != x124.1.E.Len)) == false)) (fun hb => (P_table_Region_E.comp P_extent_Extent_Runs).sl f132)
                refine WL_g (Gd_b rfl rfl) rfl (fun hb => VS_load (gev rfl hb) (hv135 hb)) ?_
                refine WL_g (Gd_b rfl rfl) rfl (fun hb => VS_lenF (f136 hb) (gev rfl hb)) ?_
                refine WL_g (Gd_b rfl rfl) rfl (fun hb => VS_neq (gev rfl hb) (gev rfl hb)) ?_
                refine WL_v rfl (VS_or rfl rfl) ?_
                refine WL_v rfl (VS_move rfl) ?_
                refine WL_g (Gd_b rfl rfl) rfl (fun hb => VS_field0 rfl) ?_
                refine WL_g (Gd_b rfl rfl) rfl (fun hb => VS_load (gev rfl hb) (P_table_Region_Up.int f122)) ?_
                refine WL_g (Gd_b rfl rfl) rfl (fun hb => VS_field0 rfl) ?_
                refine WL_g (Gd_b rfl rfl) rfl (fun hb => VS_load (gev rfl hb) (P_table_Region_Up.int f132)) ?_
                refine WL_g (Gd_b rfl rfl) rfl (fun hb => VS_neq (gev rfl hb) (gev rfl hb)) ?_
                refine WL_g (Gd_b rfl rfl) rfl (fun hb => VS_move (gev rfl hb)) ?_
                refine WL_g (Gd_g rfl rfl) rfl (fun hb => VS_move rfl) ?_
                refine WL_g (Gd_g rfl rfl) rfl (fun hb => VS_move (gev rfl hb)) ?_
                refine WL_g (Gd_g rfl rfl) rfl (fun hb => VS_field0 rfl) ?_
                refine WL_g (Gd_g rfl rfl) rfl (fun hb => VS_load (gev rfl hb) (P_table_Region_Up.int f132)) ?_
                refine WL_g (Gd_g rfl rfl) rfl (fun hb => VS_eql (gev rfl hb) rfl) ?_
                refine WL_g (Gd_g rfl rfl) rfl (fun hb => VS_and (gev rfl hb) (gev2 rfl hb)) ?_
                refine WL_g (Gd_g rfl rfl) rfl (fun hb => VS_not (gev rfl hb)) ?_
                refine WL_g (Gd_b rfl rfl) rfl (fun hb => VS_and (gev rfl hb) (gev2 rfl hb)) ?_
                refine WL_v rfl (VS_or rfl rfl) ?_
                refine WL_nil ?_
                refine WQ_then ?_
                refine WP_if rfl (fun hc => ?_) (fun hc => ?_)
                ·
                  replace h := cn_t hc h
                  refine WP_seq ?_
                  refine WP_region ?_
                  refine WL_v rfl (VS_assign rfl) ?_
                  refine WL_nil ?_
                  refine WQ_then ?_
                  refine WP_ret ?_
                  refine WQ_block_ret ?_
                  refine WQ_then_ret ?_
                  refine WQ_then_ret ?_
                  refine WQ_block_ret ?_
                  refine WQ_then_ret ?_
                  refine WQ_block_ret ?_
                  refine WQ_then_ret ?_
                  refine WQ_then_ret ?_
                  refine WQ_block_ret ?_
                  refine WQ_then_ret ?_
                  replace h := Option.some.inj h
                  subst h
                  exact WQ_ret () rfl (.tmp rfl .nil) trivial rfl (ks := []) rfl (by decide)
                ·
                  replace h := cn_f hc h
                  refine WP_skip ?_
                  refine WQ_block ?_
                  refine WQ_then ?_
                  refine WP_region ?_
                  refine WL_v rfl (VS_move rfl) ?_
                  refine WL_v rfl (VS_add rfl rfl rfl) ?_
                  refine WL_v rfl (VS_assign rfl) ?_
                  refine WL_nil ?_
                  exact WQ_loops (m110, wr .i64 (x108 + 1)) (Nat.lt_succ_self _) h (Sub_cons rfl (Sub_nil)) (.cons rfl (.cons rfl (.cons rfl (.cons rfl (.cons rfl (.cons rfl (.cons rfl (.cons rfl (.nil))))))))) (ks := [4, 5, 6, 7, 8, 9]) rfl (by decide)
        ·
          replace h := cn_f hc h
          refine WP_exit ?_
          refine WQ_then_exit ?_
          refine WQ_then_exit ?_
          refine WQ_block_exit ?_
          refine WQ_then ?_
          refine WP_seq ?_
          refine WP_region ?_
          refine WL_v rfl (VS_loadall rfl (Lay.len _ f53)) ?_
          obtain ⟨c137, hc137, f138⟩ : ∃ cc, splice c34 0 c52 = cc ∧ (L_table_Table).rep (fun w => K w ∧ Hs [.ext bs30 J31, .ext bs47 J48] w) cc x51 := ⟨_, rfl, (Pth.id (L := L_table_Table)).set (Lay.mono _ ent f35) (Lay.mono _ ent f53)⟩
          refine WL_x0 (RX_stN c52 (Pth.id (L := L_table_Table)) (v := x51) (r := f35) (rv := ((Lay.mono _ ent f53) : (L_table_Table).rep (fun w => K w ∧ Hs [.ext bs30 J31, .ext bs47 J48] w) c52 x51)) rfl rfl rfl rfl hc137) (fun _ _ => ?_)
          refine WL_nil ?_
          refine WQ_then ?_
          refine WP_seq ?_
          obtain ⟨x139, hx139, h⟩ := bd_e h
          refine WP_region ?_
          refine WL_v rfl (VS_field0 rfl) ?_
          refine WL_v rfl (VS_loadpart rfl (FlatL.iff.1 (P_table_Table_book.get f138)) (enc_len _ _)) ?_
          refine WL_x rfl (RX_callB (c_table_book_All hx139) rfl) (fun ⟨w140, bs141, J142⟩ hp143 => ?_)
          have f144 : Fz (Hs [.ext bs141 J142]) w140 (LI .u32) x139 := hp143
          refine WL_v rfl (VS_assign rfl) ?_
          refine WL_nil ?_
          refine WQ_then ?_
          refine WP_seq ?_
          refine WP_region ?_
          refine WL_v rfl (VS_assign rfl) ?_
          refine WL_nil ?_
          refine WQ_then ?_
          refine WP_block ?_
          obtain ⟨lb148, hlb148, h⟩ := lp1_i h
          refine WP_loops (α := Nat × Int) [0, 3, 4, 16] (.cons rfl (.cons rfl (.cons rfl (.cons rfl (.nil))))) (fun (m149, x147) => [(17, .int .i64 x147)]) (fun (m149, x147) => [.ext bs141 J142, .ext bs102 J103, .ext bs47 J48, .cells b7 77 c52, .cells b5 85 c43, .ext bs30 J31, .cells b3 77 c137]) (fun (m149, x147) => loop1 lb148 m149 x147 = some r) (fun (m149, x147) => m149) (n, 0) h (Sub_cons rfl (Sub_nil)) (ks := [0, 1, 2, 3, 4, 5, 6]) rfl (by decide) ?_
          rintro ⟨m149, x147⟩ h
          replace h : loop1 lb148 m149 x147 = some r := h
          replace h := lp1_s hlb148 h
          obtain ⟨m149, rfl, h⟩ := h
          refine WP_seq ?_
          refine WP_seq ?_
          refine WP_region ?_
          refine WL_v rfl (VS_move rfl) ?_
          refine WL_v rfl (VS_move rfl) ?_
          refine WL_v rfl (VS_lenF f144 rfl) ?_
          refine WL_v rfl (VS_lss rfl rfl) ?_
          refine WL_nil ?_
          refine WQ_then ?_
          refine WP_if rfl (fun hc => ?_) (fun hc => ?_)
          ·
            replace h := cn_t hc h
            refine WP_skip ?_
            refine WQ_then ?_
            refine WP_seq ?_
            refine WP_block ?_
            refine WP_seq ?_
            obtain ⟨hg151, h⟩ := gu_e h
            refine WP_region ?_
            refine WL_v rfl (VS_move rfl) ?_
            refine WL_v rfl (VS_move rfl) ?_
            refine WL_v rfl (VS_ixF (m := (Int.toNat x147)) f144 rfl rfl rfl (inb_e hg151).1 (inb_e hg151).2) ?_
            refine WL_v rfl (VS_ldiF f144 (Pth.idx (L := (LI .u32)) (m := (x139.length)) (k := 1) ((Int.toNat x147)) (inb_e hg151).2 rfl) rfl) ?_
            refine WL_v rfl (VS_assign rfl) ?_
            refine WL_nil ?_
            refine WQ_then ?_
            refine WP_seq ?_
            refine WP_region ?_
            refine WL_v rfl (VS_assign rfl) ?_
            refine WL_nil ?_
            refine WQ_then ?_
            refine WP_seq ?_
            refine WP_block ?_
            obtain ⟨lb156, hlb156, h⟩ := lp2_i h
            refine WP_loops (α := Nat × Int × Int) [0, 3, 4, 16, 17] (.cons rfl (.cons rfl (.cons rfl (.cons rfl (.cons rfl (.nil)))))) (fun (m157, x154, x155) => [(18, .int .u32 x154), (19, .int .i64 x155)]) (fun (m157, x154, x155) => [.ext bs141 J142, .ext bs102 J103, .ext bs47 J48, .cells b7 77 c52, .cells b5 85 c43, .ext bs30 J31, .cells b3 77 c137]) (fun (m157, x154, x155) => loop2 lb156 m157 x154 x155 = some r) (fun (m157, x154, x155) => m157) (n, (x139.getD (Int.toNat x147) default), 0) h (Sub_cons rfl (Sub_cons rfl (Sub_nil))) (ks := [0, 1, 2, 3, 4, 5, 6]) rfl (by decide) ?_
            rintro ⟨m157, x154, x155⟩ h
            replace h : loop2 lb156 m157 x154 x155 = some r := h
            replace h := lp2_s hlb156 h
            obtain ⟨m157, rfl, h⟩ := h
            refine WP_seq ?_
            refine WP_seq ?_
            refine WP_region ?_
            refine WL_v rfl (VS_move rfl) ?_
            refine WL_v rfl (VS_neq rfl rfl) ?_
            refine WL_v rfl (VS_move rfl) ?_
            refine WL_g (Gd_b rfl rfl) rfl (fun hb => VS_move rfl) ?_
            refine WL_g (Gd_b rfl rfl) rfl (fun hb => VS_leq (gev rfl hb) rfl) ?_
            refine WL_v rfl (VS_and rfl rfl) ?_
            refine WL_nil ?_
            refine WQ_then ?_
            refine WP_if rfl (fun hc => ?_) (fun hc => ?_)
            ·
              replace h := cn_t hc h
              refine WP_skip ?_
              refine WQ_then ?_
              refine WP_block ?_
              refine WP_seq ?_
              obtain ⟨x159, hx159, h⟩ := bd_e h
              refine WP_region ?_
              refine WL_v rfl (VS_loadall rfl (Lay.len _ f138)) ?_
              refine WL_v rfl (VS_move rfl) ?_
              refine WL_x rfl (RX_callB (c_table_Table_Get (K := (fun w => K w ∧ Hs [.ext bs30 J31, .ext bs47 J48] w)) (Lay.mono _ ent f138) hx159) rfl) (fun ⟨w160, bs161, J162⟩ hp163 => ?_)
              obtain ⟨c165, rfl, f164⟩ := hp163
              replace f164 : (L_table_Region).rep (fun w => (fun w => K w ∧ Hs [.ext bs30 J31, .ext bs47 J48] w) w ∧ Hs [.ext bs161 J162] w) c165 x159.1 := f164
              refine WL_v rfl (VS_move rfl) ?_
              refine WL_v rfl (VS_extract rfl rfl) ?_
              refine WL_v rfl (VS_extract rfl rfl) ?_
              refine WL_x rfl (RX_alloc (hz := (⟨by kernel_rfl⟩ : TZero Try.prog 74 zc_table_Region))) (fun b20 _ => ?_)
              obtain ⟨c166, hc166, f167⟩ : ∃ cc, splice zc_table_Region 0 c165 = cc ∧ (L_table_Region).rep (fun w => K w ∧ Hs [.ext bs161 J162, .ext bs30 J31, .ext bs47 J48] w) cc x159.1 := ⟨_, rfl, (Pth.id (L := L_table_Region)).set (Lay.mono _ ent (show (L_table_Region).rep (Hs []) zc_table_Region Z_table_Region from zr_table_Region)) (Lay.mono _ ent f164)⟩
              refine WL_x0 (RX_stN c165 (Pth.id (L := L_table_Region)) (v := x159.1) (r := (show (L_table_Region).rep (Hs []) zc_table_Region Z_table_Region from zr_table_Region)) (rv := ((Lay.mono _ ent f164) : (L_table_Region).rep (fun w => K w ∧ Hs [.ext bs161 J162, .ext bs30 J31, .ext bs47 J48] w) c165 x159.1)) rfl rfl rfl rfl hc166) (fun _ _ => ?_)
              refine WL_v rfl (VS_assign rfl) ?_
              refine WL_nil ?_
              refine WQ_then ?_
              refine WP_seq ?_
              refine WP_seq ?_
              refine WP_region ?_
              refine WL_v rfl (VS_move rfl) ?_
              refine WL_v rfl (VS_neq rfl rfl) ?_
              refine WL_nil ?_
              refine WQ_then ?_
              refine WP_if rfl (fun hc => ?_) (fun hc => ?_)
              ·
                replace h := cn_t hc h
                refine WP_seq ?_
                refine WP_region ?_
                refine WL_v rfl (VS_assign rfl) ?_
                refine WL_nil ?_
                refine WQ_then ?_
                refine WP_ret ?_
                refine WQ_then_ret ?_
                refine WQ_block_ret ?_
                refine WQ_then_ret ?_
                refine WQ_block_ret ?_
                refine WQ_then_ret ?_
                refine WQ_block_ret ?_
                refine WQ_then_ret ?_
                refine WQ_then_ret ?_
                refine WQ_block_ret ?_
                refine WQ_block_ret ?_
                refine WQ_then_ret ?_
                refine WQ_then_ret ?_
                refine WQ_block_ret ?_
                refine WQ_then_ret ?_
                replace h := Option.some.inj h
                subst h
                exact WQ_ret () rfl (.tmp rfl .nil) trivial rfl (ks := []) rfl (by decide)
              ·
                replace h := cn_f hc h
                refine WP_skip ?_
                refine WQ_then ?_
                refine WP_seq ?_
                refine WP_region ?_
                refine WL_v rfl (VS_field0 rfl) ?_
                refine WL_v rfl (VS_load rfl (P_table_Region_Up.int f167)) ?_
                refine WL_v rfl (VS_assign rfl) ?_
                refine WL_nil ?_
                refine WQ_then ?_
                refine WP_region ?_
                refine WL_v rfl (VS_move rfl) ?_
                refine WL_v rfl (VS_add rfl rfl rfl) ?_
                refine WL_v rfl (VS_assign rfl) ?_
                refine WL_nil ?_
                refine WQ_block ?_
                exact WQ_loops (m157, x159.1.Up, wr .i64 (x155 + 1)) (Nat.lt_succ_self _) h (Sub_cons rfl (Sub_cons rfl (Sub_nil))) (.cons rfl (.cons rfl (.cons rfl (.cons rfl (.cons rfl (.nil)))))) (ks := [2, 3, 4, 5, 6, 7, 8]) rfl (by decide)
            ·
              replace h := cn_f hc h
              refine WP_exit ?_
              refine WQ_then_exit ?_
              refine WQ_then_exit ?_
              refine WQ_block_exit ?_
              refine WQ_then ?_
              refine WP_seq ?_
              refine WP_region ?_
              refine WL_v rfl (VS_move rfl) ?_
              refine WL_v rfl (VS_gtr rfl rfl) ?_
              refine WL_nil ?_
              refine WQ_then ?_
              refine WP_if rfl (fun hc => ?_) (fun hc => ?_)
              ·
                replace h := cn_t hc h
                refine WP_seq ?_
                refine WP_region ?_
                refine WL_v rfl (VS_assign rfl) ?_
                refine WL_nil ?_
                refine WQ_then ?_
                refine WP_ret ?_
                refine WQ_block_ret ?_
                refine WQ_then_ret ?_
                refine WQ_then_ret ?_
                refine WQ_block_ret ?_
                refine WQ_block_ret ?_
                refine WQ_then_ret ?_
                refine WQ_then_ret ?_
                refine WQ_block_ret ?_
                refine WQ_then_ret ?_
                replace h := Option.some.inj h
                subst h
                exact WQ_ret () rfl (.tmp rfl .nil) trivial rfl (ks := []) rfl (by decide)
              ·
                replace h := cn_f hc h
                refine WP_skip ?_
                refine WQ_block ?_
                refine WQ_then ?_
                refine WP_region ?_
                refine WL_v rfl (VS_move rfl) ?_
                refine WL_v rfl (VS_add rfl rfl rfl) ?_
                refine WL_v rfl (VS_assign rfl) ?_
                refine WL_nil ?_
                exact WQ_loops (m149, wr .i64 (x147 + 1)) (Nat.lt_succ_self _) h (Sub_cons rfl (Sub_nil)) (.cons rfl (.cons rfl (.cons rfl (.cons rfl (.nil))))) (ks := [0, 1, 2, 3, 4, 5, 6]) rfl (by decide)
          ·
            replace h := cn_f hc h
            refine WP_exit ?_
            refine WQ_then_exit ?_
            refine WQ_then_exit ?_
            refine WQ_block_exit ?_
            refine WQ_block ?_
            refine WQ_then ?_
            refine WP_region ?_
            refine WL_v rfl (VS_move rfl) ?_
            refine WL_v rfl (VS_add rfl rfl rfl) ?_
            refine WL_v rfl (VS_assign rfl) ?_
            refine WL_nil ?_
            refine WQ_bundle (R := [.ext bs47 J48, .ext bs30 J31]) (H' := [.ext bs141 J142, .ext bs102 J103, .cells b7 77 c52, .cells b5 85 c43, .cells b3 77 c137]) (ks := [2, 5, 0, 1, 3, 4, 6]) rfl (by decide) ?_
            exact WQ_loops (m37, wr .i64 (x32 + 1), x51, c137, (blks [.ext bs47 J48, .ext bs30 J31]), (Hs [.ext bs47 J48, .ext bs30 J31])) (Nat.lt_succ_self _) ⟨(Lay.mono _ ent f138), h⟩ (Sub_cons rfl (Sub_nil)) (.cons rfl (.cons rfl (.nil))) (ks := [0, 5]) rfl (by decide)
    ·
      replace h := cn_f hc h
      refine WP_exit ?_
      refine WQ_then_exit ?_
      refine WQ_then_exit ?_
      refine WQ_block_exit ?_
      refine WQ_then ?_
      refine WP_seq ?_
      obtain ⟨x168, hx168, h⟩ := bd_e h
      refine WP_region ?_
      refine WL_v rfl (VS_call (c_law05_wakes hx168) rfl (fun _ _ _ => trivial)) ?_
      refine WL_v rfl (VS_assign rfl) ?_
      refine WL_nil ?_
      refine WQ_then ?_
      refine WP_ret ?_
      replace h := Option.some.inj h
      subst h
      exact WQ_ret () rfl (.tmp rfl .nil) trivial rfl (ks := []) rfl (by decide)
end Go.Proofs.Ytmdpbdhkmfjlhaa
