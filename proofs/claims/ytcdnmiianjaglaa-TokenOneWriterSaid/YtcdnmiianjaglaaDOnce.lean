/- Decompiled: HandleOnce. -/
import Derived.Test.YtcdnmiianjaglaaTypes
import Derived.Test.YtcdnmiianjaglaaMap2
import Derived.Test.YtcdnmiianjaglaaDLaw03
namespace Go.Proofs.Ytcdnmiianjaglaa
open Go Go.Bw
instance : TMap Try.prog 84 26 4 .u32 := ⟨⟨by kernel_rfl, by kernel_rfl⟩⟩
instance : TMap Try.prog 140 3 3 .i64 := ⟨⟨by kernel_rfl, by kernel_rfl⟩⟩
instance : TZv Try.prog 3 (Value.int .i64 0) := ⟨by kernel_rfl⟩
instance : TZv Try.prog 4 (Value.bool false) := ⟨by kernel_rfl⟩
noncomputable def law03_HandleOnce (n : Nat) (a0 : (List Int)) (a1 : (List law03_Act)) : Option Bool :=
  cn ((decide (300 < (a1.length : Int)) || decide (100 < (a0.length : Int)))) (
  bd (law03_wakes n ) fun x21 =>
  some x21) (
  bd (handle_Aged n a0) fun x22 =>
  loop4 (fun k34 (x28 : Int) (x29 : (List (Int × Bool))) (x30 : (List (Int × Bool))) (x31 : handle_Book) =>
  cn (decide (x28 < (a1.length : Int))) (
  lt (fun (x35 : (List (Int × Bool))) (x36 : (List (Int × Bool))) (x37 : handle_Book) =>
  bd (handle_Book_Issued n x37) fun x52 =>
  cn (((x52.length : Int) != (x35.length : Int))) (
  some false) (
  loop1 (fun k63 (x60 : Int) =>
  cn (decide (x60 < (x52.length : Int))) (
  gu (inb x60 x52.length) <|
  gu (!((!(mget x35 (x52.getD (Int.toNat x60) default) false)) == false) || inb x60 x52.length) <|
  cl ((!(mget x35 (x52.getD (Int.toNat x60) default) false)) == false) (handle_Book_Good n x37 (x52.getD (Int.toNat x60) default)) default fun x66 =>
  cn (((!(mget x35 (x52.getD (Int.toNat x60) default) false)) || (!x66))) (
  some false) (
  k63 (wr .i64 (x60 + 1)))) (
  k34 (wr .i64 (x28 + 1)) x35 x36 x37)) n 0)) fun j38 =>
  gu (inb x28 a1.length) <|
  cn (decide (1 < ((a1.getD (Int.toNat x28) default).Do))) (
  bd (handle_Book_Issue n x31) fun x40 =>
  cn (((x40.2.2 && ((mget x30 x40.2.1 false) || (x40.2.1 == 0))) || ((!x40.2.2) && (x40.2.1 != 0)))) (
  some false) (
  cn (x40.2.2) (
  lt (mset x30 x40.2.1 true : (List (Int × Bool))) fun x41 =>
  lt (mset x29 x40.2.1 true : (List (Int × Bool))) fun x42 =>
  j38 x42 x41 x40.1) (
  j38 x29 x30 x40.1))) (
  gu (inb x28 a1.length) <|
  bd (handle_Book_At n x31 (wr .i64 (Int.tmod ((a1.getD (Int.toNat x28) default).H) 32))) fun x44 =>
  lt (fun (x45 : Int) =>
  bd (handle_Book_Void n x31 x45) fun x49 =>
  gu (!((x49.2 != (mget x29 x45 false)) == false) || inb x28 a1.length) <|
  cn (((x49.2 != (mget x29 x45 false)) || ((((a1.getD (Int.toNat x28) default).Do) == 1) && (x49.2 != x44.2)))) (
  some false) (
  lt (mdel x29 x45 : (List (Int × Bool))) fun x51 =>
  j38 x51 x30 x49.1)) fun j46 =>
  gu (inb x28 a1.length) <|
  cn ((((a1.getD (Int.toNat x28) default).Do) == 0)) (
  gu (inb x28 a1.length) <|
  j46 ((a1.getD (Int.toNat x28) default).H)) (
  j46 x44.1))) (
  itm1 (fun (e74 : (Int × Bool)) k71 (u68 : Unit) =>
  bd (handle_Book_Good n x31 e74.1) fun x76 =>
  cn ((x76 != (mget x29 e74.1 false))) (
  some false) (
  k71 ())) (fun (u68 : Unit) =>
  bd (law03_wakes n ) fun x75 =>
  some x75) x30.length x30 ())) n 0 ([] : List (Int × Bool)) ([] : List (Int × Bool)) x22)
theorem c_law03_HandleOnce {n : Nat} {a0 : (List Int)} {a1 : (List law03_Act)} {r : Bool} {K : World → Prop} [Stable K] {v0 : Value} (f0 : Fz K v0 (LI .u32) a0) {v1 : Value} (f1 : Fz K v1 L_law03_Act a1) (h : law03_HandleOnce n a0 a1 = some r) : FnW Try.prog 6 [v0, v1] K (.bool r) := by
  unfold law03_HandleOnce at h
  refine fn_of Try.func6 (by kernel_rfl) rfl Try.ntmps6 rfl (fun cx hbs hpre hro => ?_)
  haveI := knf_pre hbs hpre
  refine WP_seq ?_
  refine WP_region ?_
  refine WL_v rfl (VS_assign rfl) ?_
  refine WL_nil ?_
  refine WQ_then ?_
  refine WP_seq ?_
  refine WP_seq ?_
  refine WP_region ?_
  refine WL_v rfl (VS_move rfl) ?_
  refine WL_v rfl (VS_lenF f1 rfl) ?_
  refine WL_v rfl (VS_gtr rfl rfl) ?_
  refine WL_v rfl (VS_move rfl) ?_
  refine WL_g (Gd_b rfl rfl) rfl (fun hb => VS_move rfl) ?_
  refine WL_g (Gd_b rfl rfl) rfl (fun hb => VS_lenF f0 (gev rfl hb)) ?_
  refine WL_g (Gd_b rfl rfl) rfl (fun hb => VS_gtr (gev rfl hb) rfl) ?_
  refine WL_v rfl (VS_or rfl rfl) ?_
  refine WL_nil ?_
  refine WQ_then ?_
  refine WP_if rfl (fun hc => ?_) (fun hc => ?_)
  ·
    replace h := cn_t hc h
    refine WP_seq ?_
    obtain ⟨x21, hx21, h⟩ := bd_e h
    refine WP_region ?_
    refine WL_v rfl (VS_call (c_law03_wakes hx21) rfl (fun _ _ _ => trivial)) ?_
    refine WL_v rfl (VS_assign rfl) ?_
    refine WL_nil ?_
    refine WQ_then ?_
    refine WP_ret ?_
    refine WQ_then_ret ?_
    replace h := Option.some.inj h
    subst h
    exact WQ_ret () rfl (.tmp rfl .nil) trivial rfl (ks := []) rfl (by decide)
  ·
    replace h := cn_f hc h
    refine WP_skip ?_
    refine WQ_then ?_
    refine WP_seq ?_
    obtain ⟨x22, hx22, h⟩ := bd_e h
    refine WP_region ?_
    refine WL_v rfl (VS_move rfl) ?_
    refine WL_v rfl (VS_call (c_handle_Aged (K := K) (f0.mono ent) hx22) rfl kn) ?_
    refine WL_x rfl (RX_allocL (L := L_handle_Book) (z := Z_handle_Book) ⟨by kernel_rfl⟩) (fun b5 _ => ?_)
    refine WL_x0 (RX_st (M := L_handle_Book) (Pth.id (L := L_handle_Book)) x22 x22 rfl rfl rfl rfl rfl) (fun _ _ => ?_)
    refine WL_nil ?_
    refine WQ_then ?_
    refine WP_seq ?_
    refine WP_region ?_
    refine WL_x rfl (RX_makeMap .u32 Value.bool) (fun b30 _ => ?_)
    refine WL_v rfl (VS_assign rfl) ?_
    refine WL_nil ?_
    refine WQ_then ?_
    refine WP_seq ?_
    refine WP_region ?_
    refine WL_x rfl (RX_makeMap .u32 Value.bool) (fun b31 _ => ?_)
    refine WL_v rfl (VS_assign rfl) ?_
    refine WL_nil ?_
    refine WQ_then ?_
    refine WP_seq ?_
    refine WP_seq ?_
    refine WP_region ?_
    refine WL_v rfl (VS_assign rfl) ?_
    refine WL_nil ?_
    refine WQ_then ?_
    refine WP_block ?_
    obtain ⟨lb32, hlb32, h⟩ := lp4_i h
    refine WP_loops (α := Nat × Int × (List (Int × Bool)) × (List (Int × Bool)) × handle_Book) [1, 5, 6, 7] (.cons rfl (.cons rfl (.cons rfl (.cons rfl (.nil))))) (fun (m33, x28, x29, x30, x31) => [(8, .int .i64 x28)]) (fun (m33, x28, x29, x30, x31) => [Mp b31 .u32 Value.bool x29, Mp b30 .u32 Value.bool x30, .cells b5 62 (L_handle_Book.enc x31)]) (fun (m33, x28, x29, x30, x31) => loop4 lb32 m33 x28 x29 x30 x31 = some r) (fun (m33, x28, x29, x30, x31) => m33) (n, 0, ([] : List (Int × Bool)), ([] : List (Int × Bool)), x22) h (Sub_cons rfl (Sub_nil)) (ks := [0, 1, 2]) rfl (by decide) ?_
    rintro ⟨m33, x28, x29, x30, x31⟩ h
    replace h : loop4 lb32 m33 x28 x29 x30 x31 = some r := h
    replace h := lp4_s hlb32 h
    obtain ⟨m33, rfl, h⟩ := h
    refine WP_seq ?_
    refine WP_seq ?_
    refine WP_region ?_
    refine WL_v rfl (VS_move rfl) ?_
    refine WL_v rfl (VS_move rfl) ?_
    refine WL_v rfl (VS_lenF f1 rfl) ?_
    refine WL_v rfl (VS_lss rfl rfl) ?_
    refine WL_nil ?_
    refine WQ_then ?_
    refine WP_if rfl (fun hc => ?_) (fun hc => ?_)
    ·
      replace h := cn_t hc h
      refine WP_skip ?_
      refine WQ_then ?_
      refine WP_seq ?_
      refine WP_block ?_
      obtain ⟨j38, hj38, h⟩ := lt_e h
      refine WP_cuts (α := (List (Int × Bool)) × (List (Int × Bool)) × handle_Book) [1, 5, 6, 7, 8] (.cons rfl (.cons rfl (.cons rfl (.cons rfl (.cons rfl (.nil)))))) (fun (x35, x36, x37) => []) (fun (x35, x36, x37) => [Mp b31 .u32 Value.bool x35, Mp b30 .u32 Value.bool x36, .cells b5 62 (L_handle_Book.enc x37)]) (fun (x35, x36, x37) => j38 x35 x36 x37 = some r) ?_ ?_
      ·
        refine WP_seq ?_
        obtain ⟨hg39, h⟩ := gu_e h
        refine WP_region ?_
        refine WL_v rfl (VS_move rfl) ?_
        refine WL_v rfl (VS_move rfl) ?_
        refine WL_v rfl (VS_ixF (m := (Int.toNat x28)) f1 rfl rfl rfl (inb_e hg39).1 (inb_e hg39).2) ?_
        refine WL_v rfl (VS_fldF f1 rfl (inb_e hg39).2) ?_
        refine WL_v rfl (VS_ldiF f1 ((Pth.idx (L := L_law03_Act) (m := (a1.length)) (k := 2) ((Int.toNat x28)) (inb_e hg39).2 rfl).comp P_law03_Act_Do) rfl) ?_
        refine WL_v rfl (VS_gtr rfl rfl) ?_
        refine WL_nil ?_
        refine WQ_then ?_
        refine WP_if rfl (fun hc => ?_) (fun hc => ?_)
        ·
          replace h := cn_t hc h
          refine WP_seq ?_
          obtain ⟨x40, hx40, h⟩ := bd_e h
          refine WP_region ?_
          refine WL_v rfl (VS_lda (M := L_handle_Book) (Pth.id (L := L_handle_Book)) rfl rfl) ?_
          refine WL_v rfl (VS_call (c_handle_Book_Issue hx40) rfl (fun _ _ _ => trivial)) ?_
          refine WL_v rfl (VS_move rfl) ?_
          refine WL_v rfl (VS_extract rfl rfl) ?_
          refine WL_v rfl (VS_extract rfl rfl) ?_
          refine WL_v rfl (VS_extract rfl rfl) ?_
          refine WL_x rfl (RX_allocL (L := L_handle_Book) (z := Z_handle_Book) ⟨by kernel_rfl⟩) (fun b9 _ => ?_)
          refine WL_x0 (RX_st (M := L_handle_Book) (Pth.id (L := L_handle_Book)) x40.1 x40.1 rfl rfl rfl rfl rfl) (fun _ _ => ?_)
          refine WL_v rfl (VS_assign rfl) ?_
          refine WL_v rfl (VS_assign rfl) ?_
          refine WL_nil ?_
          refine WQ_then ?_
          refine WP_seq ?_
          refine WP_region ?_
          refine WL_v rfl (VS_lda (M := L_handle_Book) (Pth.id (L := L_handle_Book)) rfl rfl) ?_
          refine WL_x0 (RX_st (M := L_handle_Book) (Pth.id (L := L_handle_Book)) x40.1 x40.1 rfl rfl rfl rfl rfl) (fun _ _ => ?_)
          refine WL_nil ?_
          refine WQ_then ?_
          refine WP_seq ?_
          refine WP_seq ?_
          refine WP_region ?_
          refine WL_v rfl (VS_move rfl) ?_
          refine WL_v rfl (VS_move rfl) ?_
          refine WL_g (Gd_b rfl rfl) rfl (fun hb => VS_move rfl) ?_
          refine WL_g (Gd_b rfl rfl) rfl (fun hb => VS_move rfl) ?_
          refine WL_g (Gd_b rfl rfl) rfl (fun hb => VS_lookup false (gev rfl hb) (gev rfl hb)) ?_
          refine WL_g (Gd_b rfl rfl) rfl (fun hb => VS_move (gev rfl hb)) ?_
          refine WL_g (Gd_g rfl rfl) rfl (fun hb => VS_move rfl) ?_
          refine WL_g (Gd_g rfl rfl) rfl (fun hb => VS_eql (gev rfl hb) rfl) ?_
          refine WL_g (Gd_b rfl rfl) rfl (fun hb => VS_or (gev rfl hb) (gev2 rfl hb)) ?_
          refine WL_v rfl (VS_and rfl rfl) ?_
          refine WL_v rfl (VS_move rfl) ?_
          refine WL_g (Gd_b rfl rfl) rfl (fun hb => VS_move rfl) ?_
          refine WL_g (Gd_b rfl rfl) rfl (fun hb => VS_not (gev rfl hb)) ?_
          refine WL_g (Gd_b rfl rfl) rfl (fun hb => VS_move (gev rfl hb)) ?_
          refine WL_g (Gd_g rfl rfl) rfl (fun hb => VS_move rfl) ?_
          refine WL_g (Gd_g rfl rfl) rfl (fun hb => VS_neq (gev rfl hb) rfl) ?_
          refine WL_g (Gd_b rfl rfl) rfl (fun hb => VS_and (gev rfl hb) (gev2 rfl hb)) ?_
          refine WL_v rfl (VS_or rfl rfl) ?_
          refine WL_nil ?_
          refine WQ_then ?_
          refine WP_if rfl (fun hc => ?_) (fun hc => ?_)
          ·
            replace h := cn_t hc h
            refine WP_seq ?_
            refine WP_region ?_
            refine WL_v rfl (VS_assign rfl) ?_
            refine WL_nil ?_
            refine WQ_then ?_
            refine WP_ret ?_
            refine WQ_then_ret ?_
            refine WQ_then_ret ?_
            refine WQ_block_ret ?_
            refine WQ_then_ret ?_
            refine WQ_then_ret ?_
            refine WQ_block_ret ?_
            refine WQ_then_ret ?_
            replace h := Option.some.inj h
            subst h
            exact WQ_ret () rfl (.tmp rfl .nil) trivial rfl (ks := []) rfl (by decide)
          ·
            replace h := cn_f hc h
            refine WP_skip ?_
            refine WQ_then ?_
            refine WP_seq ?_
            refine WP_region ?_
            refine WL_v rfl (VS_move rfl) ?_
            refine WL_nil ?_
            refine WQ_then ?_
            refine WP_if rfl (fun hc => ?_) (fun hc => ?_)
            ·
              replace h := cn_t hc h
              refine WP_seq ?_
              obtain ⟨x41, hx41, h⟩ := lt_e h
              refine WP_region ?_
              refine WL_v rfl (VS_move rfl) ?_
              refine WL_v rfl (VS_move rfl) ?_
              refine WL_x0 (RX_mapUpdate true rfl rfl rfl rfl) (fun _ _ => ?_)
              rw [← hx41]
              refine WL_nil ?_
              refine WQ_then ?_
              obtain ⟨x42, hx42, h⟩ := lt_e h
              refine WP_region ?_
              refine WL_v rfl (VS_move rfl) ?_
              refine WL_v rfl (VS_move rfl) ?_
              refine WL_x0 (RX_mapUpdate true rfl rfl rfl rfl) (fun _ _ => ?_)
              rw [← hx42]
              refine WL_nil ?_
              exact WQ_cuts (x42, x41, x40.1) h (Sub_nil) (.cons rfl (.cons rfl (.cons rfl (.cons rfl (.cons rfl (.nil)))))) (ks := [1, 2, 3]) rfl (by decide)
            ·
              replace h := cn_f hc h
              refine WP_skip ?_
              exact WQ_cuts (x29, x30, x40.1) h (Sub_nil) (.cons rfl (.cons rfl (.cons rfl (.cons rfl (.cons rfl (.nil)))))) (ks := [1, 2, 3]) rfl (by decide)
        ·
          replace h := cn_f hc h
          refine WP_seq ?_
          obtain ⟨hg43, h⟩ := gu_e h
          obtain ⟨x44, hx44, h⟩ := bd_e h
          refine WP_draw mixed (.stg [] [(0, [5]), (1, [1]), (2, [8]), (3, [76, 77]), (4, [78]), (5, [79]), (6, [80]), (7, [81]), (8, [75, 82]), (9, [83]), (10, [74]), (11, [74])] (.alt 12 [84] (.stg [(11, [74])] [] (.alt 13 [85] (.fin [] []) .no)) .no)) (by kernel_rfl) ?_
          refine Stg_stg ?_ ?_
          · exact ReOk_nil
          refine NewOk_cons rfl rfl (VG_v rfl (VS_lda (M := L_handle_Book) (Pth.id (L := L_handle_Book)) rfl rfl)) ?_
          refine NewOk_cons rfl rfl (VG_v rfl (VS_move rfl)) ?_
          refine NewOk_cons rfl rfl (VG_v rfl (VS_move rfl)) ?_
          refine NewOk_cons rfl rfl (VG_v rfl (VS_ixF (m := (Int.toNat x28)) f1 rfl rfl rfl (inb_e hg43).1 (inb_e hg43).2)) ?_
          refine NewOk_cons rfl rfl (VG_v rfl (VS_fldF f1 rfl (inb_e hg43).2)) ?_
          refine NewOk_cons rfl rfl (VG_v rfl (VS_ldiF f1 ((Pth.idx (L := L_law03_Act) (m := (a1.length)) (k := 2) ((Int.toNat x28)) (inb_e hg43).2 rfl).comp P_law03_Act_H) rfl)) ?_
          refine NewOk_cons rfl rfl (VG_v rfl (VS_rem rfl rfl (by decide) rfl)) ?_
          refine NewOk_cons rfl rfl (VG_v rfl (VS_conv rfl rfl)) ?_
          refine NewOk_cons rfl rfl (VG_v rfl (VS_call (c_handle_Book_At hx44) rfl (fun _ _ _ => trivial))) ?_
          refine NewOk_cons rfl rfl (VG_v rfl (VS_move rfl)) ?_
          refine NewOk_cons rfl rfl (VG_v rfl (VS_extract rfl rfl)) ?_
          refine NewOk_cons rfl rfl (VG_v rfl (VS_extract rfl rfl)) ?_
          refine NewOk_nil ?_
          refine Stg_some rfl rfl (RG_x rfl ((VS_assign rfl).rx)) (fun _ _ => ?_) Stg_no
          refine Stg_stg ?_ ?_
          ·
            refine ReOk_cons rfl rfl (VG_v rfl (VS_val (VS_extract rfl rfl) rfl)) ?_
            exact ReOk_nil
          refine NewOk_nil ?_
          refine Stg_some rfl rfl (RG_x rfl ((VS_assign rfl).rx)) (fun _ _ => ?_) Stg_no
          refine Stg_fin ?_ ?_
          · exact ReOk_nil
          refine NewOk_nil ?_
          refine WQ_then ?_
          obtain ⟨j46, hj46, h⟩ := lt_e h
          refine WP_cuts (α := Int) [1, 5, 6, 7, 8, 13] (.cons rfl (.cons rfl (.cons rfl (.cons rfl (.cons rfl (.cons rfl (.nil))))))) (fun x45 => [(12, .int .u32 x45)]) (fun x45 => [Mp b31 .u32 Value.bool x29, Mp b30 .u32 Value.bool x30, .cells b5 62 (L_handle_Book.enc x31)]) (fun x45 => j46 x45 = some r) ?_ ?_
          ·
            refine WP_seq ?_
            obtain ⟨hg47, h⟩ := gu_e h
            refine WP_region ?_
            refine WL_v rfl (VS_move rfl) ?_
            refine WL_v rfl (VS_move rfl) ?_
            refine WL_v rfl (VS_ixF (m := (Int.toNat x28)) f1 rfl rfl rfl (inb_e hg47).1 (inb_e hg47).2) ?_
            refine WL_v rfl (VS_fldF f1 rfl (inb_e hg47).2) ?_
            refine WL_v rfl (VS_ldiF f1 ((Pth.idx (L := L_law03_Act) (m := (a1.length)) (k := 2) ((Int.toNat x28)) (inb_e hg47).2 rfl).comp P_law03_Act_Do) rfl) ?_
            refine WL_v rfl (VS_eql rfl rfl) ?_
            refine WL_nil ?_
            refine WQ_then ?_
            refine WP_if rfl (fun hc => ?_) (fun hc => ?_)
            ·
              replace h := cn_t hc h
              obtain ⟨hg48, h⟩ := gu_e h
              refine WP_region ?_
              refine WL_v rfl (VS_move rfl) ?_
              refine WL_v rfl (VS_move rfl) ?_
              refine WL_v rfl (VS_ixF (m := (Int.toNat x28)) f1 rfl rfl rfl (inb_e hg48).1 (inb_e hg48).2) ?_
              refine WL_v rfl (VS_fldF f1 rfl (inb_e hg48).2) ?_
              refine WL_v rfl (VS_ldiF f1 ((Pth.idx (L := L_law03_Act) (m := (a1.length)) (k := 2) ((Int.toNat x28)) (inb_e hg48).2 rfl).comp P_law03_Act_H) rfl) ?_
              refine WL_v rfl (VS_assign rfl) ?_
              refine WL_nil ?_
              exact WQ_cuts ((a1.getD (Int.toNat x28) default).H) h (Sub_cons rfl (Sub_nil)) (.cons rfl (.cons rfl (.cons rfl (.cons rfl (.cons rfl (.cons rfl (.nil))))))) (ks := [0, 1, 2]) rfl (by decide)
            ·
              replace h := cn_f hc h
              refine WP_skip ?_
              exact WQ_cuts (x44.1) h (Sub_cons rfl (Sub_nil)) (.cons rfl (.cons rfl (.cons rfl (.cons rfl (.cons rfl (.cons rfl (.nil))))))) (ks := [0, 1, 2]) rfl (by decide)
          ·
            rintro x45 h
            replace h : j46 x45 = some r := h
            replace h := jn1_u hj46 h
            refine WP_seq ?_
            obtain ⟨x49, hx49, h⟩ := bd_e h
            refine WP_region ?_
            refine WL_v rfl (VS_lda (M := L_handle_Book) (Pth.id (L := L_handle_Book)) rfl rfl) ?_
            refine WL_v rfl (VS_move rfl) ?_
            refine WL_v rfl (VS_call (c_handle_Book_Void hx49) rfl (fun _ _ _ => trivial)) ?_
            refine WL_v rfl (VS_move rfl) ?_
            refine WL_v rfl (VS_extract rfl rfl) ?_
            refine WL_v rfl (VS_extract rfl rfl) ?_
            refine WL_x rfl (RX_allocL (L := L_handle_Book) (z := Z_handle_Book) ⟨by kernel_rfl⟩) (fun b14 _ => ?_)
            refine WL_x0 (RX_st (M := L_handle_Book) (Pth.id (L := L_handle_Book)) x49.1 x49.1 rfl rfl rfl rfl rfl) (fun _ _ => ?_)
            refine WL_v rfl (VS_assign rfl) ?_
            refine WL_nil ?_
            refine WQ_then ?_
            refine WP_seq ?_
            refine WP_region ?_
            refine WL_v rfl (VS_lda (M := L_handle_Book) (Pth.id (L := L_handle_Book)) rfl rfl) ?_
            refine WL_x0 (RX_st (M := L_handle_Book) (Pth.id (L := L_handle_Book)) x49.1 x49.1 rfl rfl rfl rfl rfl) (fun _ _ => ?_)
            refine WL_nil ?_
            refine WQ_then ?_
            refine WP_seq ?_
            refine WP_seq ?_
            obtain ⟨hg50, h⟩ := gu_e h
            refine WP_region ?_
            refine WL_v rfl (VS_move rfl) ?_
            refine WL_v rfl (VS_move rfl) ?_
            refine WL_v rfl (VS_move rfl) ?_
            refine WL_v rfl (VS_lookup false rfl rfl) ?_
            refine WL_v rfl (VS_neqb rfl rfl) ?_
            refine WL_v rfl (VS_move rfl) ?_
            refine WL_g (Gd_b rfl rfl) rfl (fun hb => VS_move rfl) ?_
            refine WL_g (Gd_b rfl rfl) rfl (fun hb => VS_move rfl) ?_
            refine WL_g (Gd_b rfl rfl) rfl (fun hb => VS_ixF (m := (Int.toNat x28)) f1 rfl (gev rfl hb) (gev rfl hb) (inb_e (imp_b hg50 hb)).1 (inb_e (imp_b hg50 hb)).2) ?_
            refine WL_g (Gd_b rfl rfl) rfl (fun hb => VS_fldF f1 (gev rfl hb) (inb_e (imp_b hg50 hb)).2) ?_
            refine WL_g (Gd_b rfl rfl) rfl (fun hb => VS_ldiF f1 ((Pth.idx (L := L_law03_Act) (m := (a1.length)) (k := 2) ((Int.toNat x28)) (inb_e (imp_b hg50 hb)).2 rfl).comp P_law03_Act_Do) (gev rfl hb)) ?_
            refine WL_g (Gd_b rfl rfl) rfl (fun hb => VS_eql (gev rfl hb) rfl) ?_
            refine WL_g (Gd_b rfl rfl) rfl (fun hb => VS_move (gev rfl hb)) ?_
            refine WL_g (Gd_g rfl rfl) rfl (fun hb => VS_move rfl) ?_
            refine WL_g (Gd_g rfl rfl) rfl (fun hb => VS_move rfl) ?_
            refine WL_g (Gd_g rfl rfl) rfl (fun hb => VS_neqb (gev rfl hb) (gev rfl hb)) ?_
            refine WL_g (Gd_b rfl rfl) rfl (fun hb => VS_and (gev rfl hb) (gev2 rfl hb)) ?_
            refine WL_v rfl (VS_or rfl rfl) ?_
            refine WL_nil ?_
            refine WQ_then ?_
            refine WP_if rfl (fun hc => ?_) (fun hc => ?_)
            ·
              replace h := cn_t hc h
              refine WP_seq ?_
              refine WP_region ?_
              refine WL_v rfl (VS_assign rfl) ?_
              refine WL_nil ?_
              refine WQ_then ?_
              refine WP_ret ?_
              refine WQ_then_ret ?_
              refine WQ_then_ret ?_
              refine WQ_block_ret ?_
              refine WQ_then_ret ?_
              refine WQ_then_ret ?_
              refine WQ_block_ret ?_
              refine WQ_then_ret ?_
              replace h := Option.some.inj h
              subst h
              exact WQ_ret () rfl (.tmp rfl .nil) trivial rfl (ks := []) rfl (by decide)
            ·
              replace h := cn_f hc h
              refine WP_skip ?_
              refine WQ_then ?_
              obtain ⟨x51, hx51, h⟩ := lt_e h
              refine WP_region ?_
              refine WL_v rfl (VS_move rfl) ?_
              refine WL_v rfl (VS_move rfl) ?_
              refine WL_x0 (RX_delete rfl rfl) (fun _ _ => ?_)
              rw [← hx51]
              refine WL_nil ?_
              exact WQ_cuts (x51, x30, x49.1) h (Sub_nil) (.cons rfl (.cons rfl (.cons rfl (.cons rfl (.cons rfl (.nil)))))) (ks := [1, 2, 3]) rfl (by decide)
      ·
        rintro ⟨x35, x36, x37⟩ h
        replace h : j38 x35 x36 x37 = some r := h
        replace h := jn3_u hj38 h
        refine WP_seq ?_
        obtain ⟨x52, hx52, h⟩ := bd_e h
        refine WP_region ?_
        refine WL_v rfl (VS_lda (M := L_handle_Book) (Pth.id (L := L_handle_Book)) rfl rfl) ?_
        refine WL_x rfl (RX_callB (c_handle_Book_Issued hx52) rfl) (fun ⟨w53, bs54, J55⟩ hp56 => ?_)
        have f57 : Fz (Hs [.ext bs54 J55]) w53 (LI .u32) x52 := hp56
        refine WL_v rfl (VS_assign rfl) ?_
        refine WL_nil ?_
        refine WQ_then ?_
        refine WP_seq ?_
        refine WP_seq ?_
        refine WP_region ?_
        refine WL_v rfl (VS_move rfl) ?_
        refine WL_v rfl (VS_lenF f57 rfl) ?_
        refine WL_v rfl (VS_move rfl) ?_
        refine WL_v rfl (VS_lenM rfl) ?_
        refine WL_v rfl (VS_neq rfl rfl) ?_
        refine WL_nil ?_
        refine WQ_then ?_
        refine WP_if rfl (fun hc => ?_) (fun hc => ?_)
        ·
          replace h := cn_t hc h
          refine WP_seq ?_
          refine WP_region ?_
          refine WL_v rfl (VS_assign rfl) ?_
          refine WL_nil ?_
          refine WQ_then ?_
          refine WP_ret ?_
          refine WQ_then_ret ?_
          refine WQ_block_ret ?_
          refine WQ_then_ret ?_
          refine WQ_then_ret ?_
          refine WQ_block_ret ?_
          refine WQ_then_ret ?_
          replace h := Option.some.inj h
          subst h
          exact WQ_ret () rfl (.tmp rfl .nil) trivial rfl (ks := []) rfl (by decide)
        ·
          replace h := cn_f hc h
          refine WP_skip ?_
          refine WQ_then ?_
          refine WP_seq ?_
          refine WP_region ?_
          refine WL_v rfl (VS_assign rfl) ?_
          refine WL_nil ?_
          refine WQ_then ?_
          refine WP_block ?_
          obtain ⟨lb61, hlb61, h⟩ := lp1_i h
          refine WP_loops (α := Nat × Int) [1, 5, 6, 7, 8, 16] (.cons rfl (.cons rfl (.cons rfl (.cons rfl (.cons rfl (.cons rfl (.nil))))))) (fun (m62, x60) => [(17, .int .i64 x60)]) (fun (m62, x60) => [.ext bs54 J55, Mp b31 .u32 Value.bool x35, Mp b30 .u32 Value.bool x36, .cells b5 62 (L_handle_Book.enc x37)]) (fun (m62, x60) => loop1 lb61 m62 x60 = some r) (fun (m62, x60) => m62) (n, 0) h (Sub_cons rfl (Sub_nil)) (ks := [0, 1, 2, 3]) rfl (by decide) ?_
          rintro ⟨m62, x60⟩ h
          replace h : loop1 lb61 m62 x60 = some r := h
          replace h := lp1_s hlb61 h
          obtain ⟨m62, rfl, h⟩ := h
          refine WP_seq ?_
          refine WP_seq ?_
          refine WP_region ?_
          refine WL_v rfl (VS_move rfl) ?_
          refine WL_v rfl (VS_move rfl) ?_
          refine WL_v rfl (VS_lenF f57 rfl) ?_
          refine WL_v rfl (VS_lss rfl rfl) ?_
          refine WL_nil ?_
          refine WQ_then ?_
          refine WP_if rfl (fun hc => ?_) (fun hc => ?_)
          ·
            replace h := cn_t hc h
            refine WP_skip ?_
            refine WQ_then ?_
            refine WP_seq ?_
            refine WP_block ?_
            refine WP_seq ?_
            obtain ⟨hg64, h⟩ := gu_e h
            obtain ⟨hg65, h⟩ := gu_e h
            obtain ⟨x66, hx66, _, h⟩ := cl_e h
            refine WP_draw mixed (.fin [] [(0, [7]), (1, [16]), (2, [17]), (3, [138, 139]), (4, [140]), (5, [137, 141]), (6, [142]), (7, [143]), (8, [5, 144]), (9, [16, 144]), (10, [17, 144]), (11, [144, 146, 147]), (12, [144, 148]), (13, [144, 145, 149]), (14, [144, 150]), (15, [144, 151])]) (by kernel_rfl) ?_
            refine Stg_fin ?_ ?_
            · exact ReOk_nil
            refine NewOk_cons rfl rfl (VG_v rfl (VS_move rfl)) ?_
            refine NewOk_cons rfl rfl (VG_v rfl (VS_move rfl)) ?_
            refine NewOk_cons rfl rfl (VG_v rfl (VS_move rfl)) ?_
            refine NewOk_cons rfl rfl (VG_v rfl (VS_ixF (m := (Int.toNat x60)) f57 rfl rfl rfl (inb_e hg64).1 (inb_e hg64).2)) ?_
            refine NewOk_cons rfl rfl (VG_v rfl (VS_ldiF f57 (Pth.idx (L := (LI .u32)) (m := (x52.length)) (k := 1) ((Int.toNat x60)) (inb_e hg64).2 rfl) rfl)) ?_
            refine NewOk_cons rfl rfl (VG_v rfl (VS_lookup false rfl rfl)) ?_
            refine NewOk_cons rfl rfl (VG_v rfl (VS_not rfl)) ?_
            refine NewOk_cons rfl rfl (VG_v rfl (VS_move rfl)) ?_
            refine NewOk_cons rfl rfl (VG_g (Gd_b rfl rfl) (fun hb => VS_lda (M := L_handle_Book) (Pth.id (L := L_handle_Book)) rfl rfl)) ?_
            refine NewOk_cons rfl rfl (VG_g (Gd_b rfl rfl) (fun hb => VS_move rfl)) ?_
            refine NewOk_cons rfl rfl (VG_g (Gd_b rfl rfl) (fun hb => VS_move rfl)) ?_
            refine NewOk_cons rfl rfl (VG_g (Gd_b rfl rfl) (fun hb => VS_ixF (m := (Int.toNat x60)) f57 rfl (gev rfl hb) (gev rfl hb) (inb_e (imp_b hg65 hb)).1 (inb_e (imp_b hg65 hb)).2)) ?_
            refine NewOk_cons rfl rfl (VG_g (Gd_b rfl rfl) (fun hb => VS_ldiF f57 (Pth.idx (L := (LI .u32)) (m := (x52.length)) (k := 1) ((Int.toNat x60)) (inb_e (imp_b hg65 hb)).2 rfl) (gev rfl hb))) ?_
            refine NewOk_cons rfl rfl (VG_g (Gd_b rfl rfl) (fun hb => VS_call (c_handle_Book_Good (hx66 hb)) (evs_cons (gev rfl hb) (evs_cons (gev rfl hb) rfl)) (fun _ _ _ => trivial))) ?_
            refine NewOk_cons rfl rfl (VG_g (Gd_b rfl rfl) (fun hb => VS_not (gev rfl hb))) ?_
            refine NewOk_cons rfl rfl (VG_v rfl (VS_or rfl rfl)) ?_
            refine NewOk_nil ?_
            refine WQ_then ?_
            refine WP_if rfl (fun hc => ?_) (fun hc => ?_)
            ·
              replace h := cn_t hc h
              refine WP_seq ?_
              refine WP_region ?_
              refine WL_v rfl (VS_assign rfl) ?_
              refine WL_nil ?_
              refine WQ_then ?_
              refine WP_ret ?_
              refine WQ_block_ret ?_
              refine WQ_then_ret ?_
              refine WQ_then_ret ?_
              refine WQ_block_ret ?_
              refine WQ_block_ret ?_
              refine WQ_then_ret ?_
              refine WQ_then_ret ?_
              refine WQ_block_ret ?_
              refine WQ_then_ret ?_
              replace h := Option.some.inj h
              subst h
              exact WQ_ret () rfl (.tmp rfl .nil) trivial rfl (ks := []) rfl (by decide)
            ·
              replace h := cn_f hc h
              refine WP_skip ?_
              refine WQ_block ?_
              refine WQ_then ?_
              refine WP_region ?_
              refine WL_v rfl (VS_move rfl) ?_
              refine WL_v rfl (VS_add rfl rfl rfl) ?_
              refine WL_v rfl (VS_assign rfl) ?_
              refine WL_nil ?_
              exact WQ_loops (m62, wr .i64 (x60 + 1)) (Nat.lt_succ_self _) h (Sub_cons rfl (Sub_nil)) (.cons rfl (.cons rfl (.cons rfl (.cons rfl (.cons rfl (.cons rfl (.nil))))))) (ks := [0, 1, 2, 3]) rfl (by decide)
          ·
            replace h := cn_f hc h
            refine WP_exit ?_
            refine WQ_then_exit ?_
            refine WQ_then_exit ?_
            refine WQ_block_exit ?_
            refine WQ_block ?_
            refine WQ_then ?_
            refine WP_region ?_
            refine WL_v rfl (VS_move rfl) ?_
            refine WL_v rfl (VS_add rfl rfl rfl) ?_
            refine WL_v rfl (VS_assign rfl) ?_
            refine WL_nil ?_
            exact WQ_loops (m33, wr .i64 (x28 + 1), x35, x36, x37) (Nat.lt_succ_self _) h (Sub_cons rfl (Sub_nil)) (.cons rfl (.cons rfl (.cons rfl (.cons rfl (.nil))))) (ks := [1, 2, 3]) rfl (by decide)
    ·
      replace h := cn_f hc h
      refine WP_exit ?_
      refine WQ_then_exit ?_
      refine WQ_then_exit ?_
      refine WQ_block_exit ?_
      refine WQ_then ?_
      refine WP_seq ?_
      refine WP_seq ?_
      refine WP_region ?_
      refine WL_v rfl (VS_move rfl) ?_
      refine WL_x rfl (RX_range rfl) (fun r154 _ => ?_)
      refine WL_nil ?_
      refine WQ_then ?_
      refine WP_block ?_
      obtain ⟨lb69, hlb69, fi72, hfi72, h⟩ := im1_i h
      refine WP_loops (α := (List (Int × Bool)) × (Option (Int × Bool)) × Unit) [5, 7, 154] (.cons rfl (.cons rfl (.cons rfl (.nil)))) (fun (m70, last73, u68) => []) (fun (m70, last73, u68) => [Mp b31 .u32 Value.bool x29, Itr r154 b30 .u32 Value.bool x30 m70 last73, .cells b5 62 (L_handle_Book.enc x31)]) (fun (m70, last73, u68) => itm1 lb69 fi72 m70.length m70 u68 = some r) (fun (m70, last73, u68) => m70.length) (x30, none, ()) h (Sub_nil) (ks := [0, 1, 2]) rfl (by decide) ?_
      rintro ⟨m70, last73, u68⟩ h
      replace h : itm1 lb69 fi72 m70.length m70 u68 = some r := h
      refine WP_seq ?_
      refine WP_region ?_
      refine WL_x rfl (RX_next rfl) ?_
      rintro (_ | ⟨i, e74⟩) ho
      ·
        replace h := im1_n hfi72 (ho rfl) h
        dsimp only
        refine WL_v rfl (VS_extract rfl rfl) ?_
        refine WL_nil ?_
        refine WQ_then ?_
        refine WP_seq ?_
        refine WP_false rfl ?_
        refine WP_exit ?_
        refine WQ_then_exit ?_
        refine WQ_then_exit ?_
        refine WQ_block_exit ?_
        refine WQ_then ?_
        refine WP_seq ?_
        obtain ⟨x75, hx75, h⟩ := bd_e h
        refine WP_region ?_
        refine WL_v rfl (VS_call (c_law03_wakes hx75) rfl (fun _ _ _ => trivial)) ?_
        refine WL_v rfl (VS_assign rfl) ?_
        refine WL_nil ?_
        refine WQ_then ?_
        refine WP_ret ?_
        replace h := Option.some.inj h
        subst h
        exact WQ_ret () rfl (.tmp rfl .nil) trivial rfl (ks := []) rfl (by decide)
      ·
        replace h := im1_s hlb69 i.2 (ho rfl) h
        dsimp only
        refine WL_v rfl (VS_extract rfl rfl) ?_
        refine WL_nil ?_
        refine WQ_then ?_
        refine WP_seq ?_
        refine WP_true rfl ?_
        refine WP_skip ?_
        refine WQ_then ?_
        refine WP_block ?_
        refine WP_seq ?_
        refine WP_region ?_
        refine WL_v rfl (VS_entry rfl) ?_
        refine WL_v rfl (VS_extract rfl rfl) ?_
        refine WL_v rfl (VS_assign rfl) ?_
        refine WL_nil ?_
        refine WQ_then ?_
        refine WP_seq ?_
        obtain ⟨x76, hx76, h⟩ := bd_e h
        refine WP_draw mixed (.fin [] [(0, [5]), (1, [18]), (2, [159, 160]), (3, [7]), (4, [18]), (5, [162, 163]), (6, [161, 164])]) (by kernel_rfl) ?_
        refine Stg_fin ?_ ?_
        · exact ReOk_nil
        refine NewOk_cons rfl rfl (VG_v rfl (VS_lda (M := L_handle_Book) (Pth.id (L := L_handle_Book)) rfl rfl)) ?_
        refine NewOk_cons rfl rfl (VG_v rfl (VS_move rfl)) ?_
        refine NewOk_cons rfl rfl (VG_v rfl (VS_call (c_handle_Book_Good hx76) rfl (fun _ _ _ => trivial))) ?_
        refine NewOk_cons rfl rfl (VG_v rfl (VS_move rfl)) ?_
        refine NewOk_cons rfl rfl (VG_v rfl (VS_move rfl)) ?_
        refine NewOk_cons rfl rfl (VG_v rfl (VS_lookup false rfl rfl)) ?_
        refine NewOk_cons rfl rfl (VG_v rfl (VS_neqb rfl rfl)) ?_
        refine NewOk_nil ?_
        refine WQ_then ?_
        refine WP_if rfl (fun hc => ?_) (fun hc => ?_)
        ·
          replace h := cn_t hc h
          refine WP_seq ?_
          refine WP_region ?_
          refine WL_v rfl (VS_assign rfl) ?_
          refine WL_nil ?_
          refine WQ_then ?_
          refine WP_ret ?_
          refine WQ_block_ret ?_
          refine WQ_then_ret ?_
          refine WQ_block_ret ?_
          refine WQ_then_ret ?_
          replace h := Option.some.inj h
          subst h
          exact WQ_ret () rfl (.tmp rfl .nil) trivial rfl (ks := []) rfl (by decide)
        ·
          replace h := cn_f hc h
          refine WP_skip ?_
          refine WQ_block ?_
          exact WQ_loops (m70.eraseIdx i, some e74, ()) (erase_lt i.2) h (Sub_nil) (.cons rfl (.cons rfl (.cons rfl (.nil)))) (ks := [0, 1, 2]) rfl (by decide)
end Go.Proofs.Ytcdnmiianjaglaa
