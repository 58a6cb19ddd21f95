/- Decompiled: bailiwicklaw03. -/
import Derived.Test.YtcdnmiianjaglaaDRef03
namespace Go.Proofs.Ytcdnmiianjaglaa
open Go Go.Bw
def law03_same (n : Nat) (a0 : handle_Book) (a1 : ref03_Book) : Option Bool :=
  bd (handle_Book_Issued n a0) fun x21 =>
  loop2 (fun k34 (x30 : Int) (x31 : Int) =>
  cn (decide (x31 < 32)) (
  bd (handle_Book_At n a0 x31) fun x35 =>
  gu (inb x31 32) <|
  cl (((x35.2 != ((a1.Is (Int.toNat x31)) == 1)) == false) && (x35.2 == true)) (ref03_Book_Of n a1 x31) default fun x37 =>
  cn ((((x35.2 != ((a1.Is (Int.toNat x31)) == 1)) || (x35.2 && ((wr .i64 x35.1) != x37))) || ((!x35.2) && (x35.1 != 0)))) (
  some false) (
  cn ((!x35.2)) (
  k34 x30 (wr .i64 (x31 + 1))) (
  gu (!((decide ((x21.length : Int) ≤ x30)) == false) || inb x30 x21.length) <|
  cl ((decide ((x21.length : Int) ≤ x30) || ((x21.getD (Int.toNat x30) default) != x35.1)) == false) (handle_Book_Good n a0 x35.1) default fun x39 =>
  cn (((decide ((x21.length : Int) ≤ x30) || ((x21.getD (Int.toNat x30) default) != x35.1)) || (!x39))) (
  some false) (
  k34 (wr .i64 (x30 + 1)) (wr .i64 (x31 + 1)))))) (
  bd (handle_Book_At n a0 (-1)) fun x40 =>
  bd (handle_Book_At n a0 32) fun x41 =>
  some (((x30 == (x21.length : Int)) && (!x40.2)) && (!x41.2)))) n 0 0
theorem c_law03_same {n : Nat} {a0 : handle_Book} {a1 : ref03_Book} {r : Bool}  (h : law03_same n a0 a1 = some r) : FnV Try.prog 34 [.agg (L_handle_Book.enc a0).toArray, .agg (L_ref03_Book.enc a1).toArray] (.bool r) := by
  unfold law03_same at h
  refine fn_of Try.func34 (by kernel_rfl) rfl Try.ntmps34 rfl (fun cx hbs hpre hro => ?_)
  refine WP_seq ?_
  refine WP_region ?_
  refine WL_x rfl (RX_boxL L_handle_Book a0 rfl rfl) (fun b2 _ => ?_)
  refine WL_x rfl (RX_boxL L_ref03_Book a1 rfl rfl) (fun b3 _ => ?_)
  refine WL_v rfl (VS_assign rfl) ?_
  refine WL_nil ?_
  refine WQ_then ?_
  refine WP_seq ?_
  obtain ⟨x21, hx21, h⟩ := bd_e h
  refine WP_region ?_
  refine WL_v rfl (VS_lda (M := L_handle_Book) (Pth.id (L := L_handle_Book)) rfl rfl) ?_
  refine WL_x rfl (RX_callB (c_handle_Book_Issued hx21) rfl) (fun ⟨w22, bs23, J24⟩ hp25 => ?_)
  have f26 : Fz (Hs [.ext bs23 J24]) w22 (LI .u32) x21 := hp25
  refine WL_v rfl (VS_assign rfl) ?_
  refine WL_nil ?_
  refine WQ_then ?_
  refine WP_seq ?_
  refine WP_region ?_
  refine WL_v rfl (VS_assign rfl) ?_
  refine WL_nil ?_
  refine WQ_then ?_
  refine WP_seq ?_
  refine WP_seq ?_
  refine WP_region ?_
  refine WL_v rfl (VS_assign rfl) ?_
  refine WL_nil ?_
  refine WQ_then ?_
  refine WP_block ?_
  obtain ⟨lb32, hlb32, h⟩ := lp2_i h
  refine WP_loops (α := Nat × Int × Int) [2, 3, 5] (.cons rfl (.cons rfl (.cons rfl (.nil)))) (fun (m33, x30, x31) => [(6, .int .i64 x30), (7, .int .i64 x31)]) (fun (m33, x30, x31) => [.ext bs23 J24, .cells b3 66 (L_ref03_Book.enc a1), .cells b2 62 (L_handle_Book.enc a0)]) (fun (m33, x30, x31) => loop2 lb32 m33 x30 x31 = some r) (fun (m33, x30, x31) => m33) (n, 0, 0) h (Sub_cons rfl (Sub_cons rfl (Sub_nil))) (ks := [0, 1, 2]) rfl (by decide) ?_
  rintro ⟨m33, x30, x31⟩ h
  replace h : loop2 lb32 m33 x30 x31 = some r := h
  replace h := lp2_s hlb32 h
  obtain ⟨m33, rfl, h⟩ := h
  refine WP_seq ?_
  refine WP_seq ?_
  refine WP_region ?_
  refine WL_v rfl (VS_move rfl) ?_
  refine WL_v rfl (VS_lss rfl rfl) ?_
  refine WL_nil ?_
  refine WQ_then ?_
  refine WP_if rfl (fun hc => ?_) (fun hc => ?_)
  ·
    replace h := cn_t hc h
    refine WP_skip ?_
    refine WQ_then ?_
    refine WP_seq ?_
    refine WP_block ?_
    refine WP_seq ?_
    obtain ⟨x35, hx35, h⟩ := bd_e h
    refine WP_region ?_
    refine WL_v rfl (VS_lda (M := L_handle_Book) (Pth.id (L := L_handle_Book)) rfl rfl) ?_
    refine WL_v rfl (VS_move rfl) ?_
    refine WL_v rfl (VS_call (c_handle_Book_At hx35) rfl (fun _ _ _ => trivial)) ?_
    refine WL_v rfl (VS_move rfl) ?_
    refine WL_v rfl (VS_extract rfl rfl) ?_
    refine WL_v rfl (VS_extract rfl rfl) ?_
    refine WL_v rfl (VS_assign rfl) ?_
    refine WL_v rfl (VS_assign rfl) ?_
    refine WL_nil ?_
    refine WQ_then ?_
    refine WP_seq ?_
    refine WP_seq ?_
    obtain ⟨hg36, h⟩ := gu_e h
    obtain ⟨x37, hx37, _, h⟩ := cl_e h
    refine WP_region ?_
    refine WL_v rfl (VS_move rfl) ?_
    refine WL_v rfl (VS_move rfl) ?_
    refine WL_v rfl (VS_field0 rfl) ?_
    refine WL_v rfl (VS_index (m := (Int.toNat x31)) rfl rfl (inb_e hg36).1 (inb_e hg36).2) ?_
    refine WL_v rfl (VS_ldi (P_ref03_Book_Is.comp (Pth.idx (L := (LI .i64)) (m := 32) (k := 1) ((Int.toNat x31)) (inb_e hg36).2 rfl)) rfl) ?_
    refine WL_v rfl (VS_eql rfl rfl) ?_
    refine WL_v rfl (VS_neqb rfl rfl) ?_
    refine WL_v rfl (VS_move rfl) ?_
    refine WL_g (Gd_b rfl rfl) rfl (fun hb => VS_move rfl) ?_
    refine WL_g (Gd_b rfl rfl) rfl (fun hb => VS_move (gev rfl hb)) ?_
    refine WL_g (Gd_g rfl rfl) rfl (fun hb => VS_move rfl) ?_
    refine WL_g (Gd_g rfl rfl) rfl (fun hb => VS_conv (gev rfl hb) rfl) ?_
    refine WL_g (Gd_g rfl rfl) rfl (fun hb => VS_lda (M := L_ref03_Book) (Pth.id (L := L_ref03_Book)) rfl rfl) ?_
    refine WL_g (Gd_g rfl rfl) rfl (fun hb => VS_move rfl) ?_
    refine WL_g (Gd_g rfl rfl) rfl (fun hb => VS_call (c_ref03_Book_Of (hx37 hb)) (evs_cons (gev rfl hb) (evs_cons (gev rfl hb) rfl)) (fun _ _ _ => trivial)) ?_
    refine WL_g (Gd_g rfl rfl) rfl (fun hb => VS_neq (gev rfl hb) (gev rfl hb)) ?_
    refine WL_g (Gd_b rfl rfl) rfl (fun hb => VS_and (gev rfl hb) (gev2 rfl hb)) ?_
    refine WL_v rfl (VS_or rfl rfl) ?_
    refine WL_v rfl (VS_move rfl) ?_
    refine WL_g (Gd_b rfl rfl) rfl (fun hb => VS_move rfl) ?_
    refine WL_g (Gd_b rfl rfl) rfl (fun hb => VS_not (gev rfl hb)) ?_
    refine WL_g (Gd_b rfl rfl) rfl (fun hb => VS_move (gev rfl hb)) ?_
    refine WL_g (Gd_g rfl rfl) rfl (fun hb => VS_move rfl) ?_
    refine WL_g (Gd_g rfl rfl) rfl (fun hb => VS_neq (gev rfl hb) rfl) ?_
    refine WL_g (Gd_b rfl rfl) rfl (fun hb => VS_and (gev rfl hb) (gev2 rfl hb)) ?_
    refine WL_v rfl (VS_or rfl rfl) ?_
    refine WL_nil ?_
    refine WQ_then ?_
    refine WP_if rfl (fun hc => ?_) (fun hc => ?_)
    ·
      replace h := cn_t hc h
      refine WP_seq ?_
      refine WP_region ?_
      refine WL_v rfl (VS_assign rfl) ?_
      refine WL_nil ?_
      refine WQ_then ?_
      refine WP_ret ?_
      refine WQ_then_ret ?_
      refine WQ_block_ret ?_
      refine WQ_then_ret ?_
      refine WQ_then_ret ?_
      refine WQ_block_ret ?_
      refine WQ_then_ret ?_
      replace h := Option.some.inj h
      subst h
      exact WQ_ret () rfl (.tmp rfl .nil) trivial rfl (ks := []) rfl (by decide)
    ·
      replace h := cn_f hc h
      refine WP_skip ?_
      refine WQ_then ?_
      refine WP_seq ?_
      refine WP_seq ?_
      refine WP_region ?_
      refine WL_v rfl (VS_move rfl) ?_
      refine WL_v rfl (VS_not rfl) ?_
      refine WL_nil ?_
      refine WQ_then ?_
      refine WP_if rfl (fun hc => ?_) (fun hc => ?_)
      ·
        replace h := cn_t hc h
        refine WP_exit ?_
        refine WQ_then_exit ?_
        refine WQ_block_exit ?_
        refine WQ_then ?_
        refine WP_region ?_
        refine WL_v rfl (VS_move rfl) ?_
        refine WL_v rfl (VS_add rfl rfl rfl) ?_
        refine WL_v rfl (VS_assign rfl) ?_
        refine WL_nil ?_
        exact WQ_loops (m33, x30, wr .i64 (x31 + 1)) (Nat.lt_succ_self _) h (Sub_cons rfl (Sub_cons rfl (Sub_nil))) (.cons rfl (.cons rfl (.cons rfl (.nil)))) (ks := [0, 1, 2]) rfl (by decide)
      ·
        replace h := cn_f hc h
        refine WP_skip ?_
        refine WQ_then ?_
        refine WP_seq ?_
        refine WP_seq ?_
        obtain ⟨hg38, h⟩ := gu_e h
        obtain ⟨x39, hx39, _, h⟩ := cl_e h
        refine WP_region ?_
        refine WL_v rfl (VS_move rfl) ?_
        refine WL_v rfl (VS_move rfl) ?_
        refine WL_v rfl (VS_lenF f26 rfl) ?_
        refine WL_v rfl (VS_geq rfl rfl) ?_
        refine WL_v rfl (VS_move rfl) ?_
        refine WL_g (Gd_b rfl rfl) rfl (fun hb => VS_move rfl) ?_
        refine WL_g (Gd_b rfl rfl) rfl (fun hb => VS_move rfl) ?_
        refine WL_g (Gd_b rfl rfl) rfl (fun hb => VS_ixF (m := (Int.toNat x30)) f26 rfl (gev rfl hb) (gev rfl hb) (inb_e (imp_b hg38 hb)).1 (inb_e (imp_b hg38 hb)).2) ?_
        refine WL_g (Gd_b rfl rfl) rfl (fun hb => VS_ldiF f26 (Pth.idx (L := (LI .u32)) (m := (x21.length)) (k := 1) ((Int.toNat x30)) (inb_e (imp_b hg38 hb)).2 rfl) (gev rfl hb)) ?_
        refine WL_g (Gd_b rfl rfl) rfl (fun hb => VS_move rfl) ?_
        refine WL_g (Gd_b rfl rfl) rfl (fun hb => VS_neq (gev rfl hb) (gev rfl hb)) ?_
        refine WL_v rfl (VS_or rfl rfl) ?_
        refine WL_v rfl (VS_move rfl) ?_
        refine WL_g (Gd_b rfl rfl) rfl (fun hb => VS_lda (M := L_handle_Book) (Pth.id (L := L_handle_Book)) rfl rfl) ?_
        refine WL_g (Gd_b rfl rfl) rfl (fun hb => VS_move rfl) ?_
        refine WL_g (Gd_b rfl rfl) rfl (fun hb => VS_call (c_handle_Book_Good (hx39 hb)) (evs_cons (gev rfl hb) (evs_cons (gev rfl hb) rfl)) (fun _ _ _ => trivial)) ?_
        refine WL_g (Gd_b rfl rfl) rfl (fun hb => VS_not (gev rfl hb)) ?_
        refine WL_v rfl (VS_or rfl rfl) ?_
        refine WL_nil ?_
        refine WQ_then ?_
        refine WP_if rfl (fun hc => ?_) (fun hc => ?_)
        ·
          replace h := cn_t hc h
          refine WP_seq ?_
          refine WP_region ?_
          refine WL_v rfl (VS_assign rfl) ?_
          refine WL_nil ?_
          refine WQ_then ?_
          refine WP_ret ?_
          refine WQ_then_ret ?_
          refine WQ_block_ret ?_
          refine WQ_then_ret ?_
          refine WQ_then_ret ?_
          refine WQ_block_ret ?_
          refine WQ_then_ret ?_
          replace h := Option.some.inj h
          subst h
          exact WQ_ret () rfl (.tmp rfl .nil) trivial rfl (ks := []) rfl (by decide)
        ·
          replace h := cn_f hc h
          refine WP_skip ?_
          refine WQ_then ?_
          refine WP_region ?_
          refine WL_v rfl (VS_move rfl) ?_
          refine WL_v rfl (VS_add rfl rfl rfl) ?_
          refine WL_v rfl (VS_assign rfl) ?_
          refine WL_nil ?_
          refine WQ_block ?_
          refine WQ_then ?_
          refine WP_region ?_
          refine WL_v rfl (VS_move rfl) ?_
          refine WL_v rfl (VS_add rfl rfl rfl) ?_
          refine WL_v rfl (VS_assign rfl) ?_
          refine WL_nil ?_
          exact WQ_loops (m33, wr .i64 (x30 + 1), wr .i64 (x31 + 1)) (Nat.lt_succ_self _) h (Sub_cons rfl (Sub_cons rfl (Sub_nil))) (.cons rfl (.cons rfl (.cons rfl (.nil)))) (ks := [0, 1, 2]) rfl (by decide)
  ·
    replace h := cn_f hc h
    refine WP_exit ?_
    refine WQ_then_exit ?_
    refine WQ_then_exit ?_
    refine WQ_block_exit ?_
    refine WQ_then ?_
    refine WP_seq ?_
    obtain ⟨x40, hx40, h⟩ := bd_e h
    refine WP_region ?_
    refine WL_v rfl (VS_lda (M := L_handle_Book) (Pth.id (L := L_handle_Book)) rfl rfl) ?_
    refine WL_v rfl (VS_call (c_handle_Book_At hx40) rfl (fun _ _ _ => trivial)) ?_
    refine WL_v rfl (VS_move rfl) ?_
    refine WL_v rfl (VS_extract rfl rfl) ?_
    refine WL_v rfl (VS_extract rfl rfl) ?_
    refine WL_v rfl (VS_assign rfl) ?_
    refine WL_v rfl (VS_assign rfl) ?_
    refine WL_nil ?_
    refine WQ_then ?_
    refine WP_seq ?_
    obtain ⟨x41, hx41, h⟩ := bd_e h
    refine WP_region ?_
    refine WL_v rfl (VS_lda (M := L_handle_Book) (Pth.id (L := L_handle_Book)) rfl rfl) ?_
    refine WL_v rfl (VS_call (c_handle_Book_At hx41) rfl (fun _ _ _ => trivial)) ?_
    refine WL_v rfl (VS_move rfl) ?_
    refine WL_v rfl (VS_extract rfl rfl) ?_
    refine WL_v rfl (VS_extract rfl rfl) ?_
    refine WL_v rfl (VS_assign rfl) ?_
    refine WL_v rfl (VS_assign rfl) ?_
    refine WL_nil ?_
    refine WQ_then ?_
    refine WP_seq ?_
    refine WP_region ?_
    refine WL_v rfl (VS_move rfl) ?_
    refine WL_v rfl (VS_move rfl) ?_
    refine WL_v rfl (VS_lenF f26 rfl) ?_
    refine WL_v rfl (VS_eql rfl rfl) ?_
    refine WL_v rfl (VS_move rfl) ?_
    refine WL_g (Gd_b rfl rfl) rfl (fun hb => VS_move rfl) ?_
    refine WL_g (Gd_b rfl rfl) rfl (fun hb => VS_not (gev rfl hb)) ?_
    refine WL_v rfl (VS_and rfl rfl) ?_
    refine WL_v rfl (VS_move rfl) ?_
    refine WL_g (Gd_b rfl rfl) rfl (fun hb => VS_move rfl) ?_
    refine WL_g (Gd_b rfl rfl) rfl (fun hb => VS_not (gev rfl hb)) ?_
    refine WL_v rfl (VS_and rfl rfl) ?_
    refine WL_v rfl (VS_assign rfl) ?_
    refine WL_nil ?_
    refine WQ_then ?_
    refine WP_ret ?_
    replace h := Option.some.inj h
    subst h
    exact WQ_ret () rfl (.tmp rfl .nil) trivial rfl (ks := []) rfl (by decide)
def law03_wakes (n : Nat)  : Option Bool :=
  bd (handle_Book_Issue n Z_handle_Book) fun x21 =>
  bd (handle_Book_Issue n x21.1) fun x22 =>
  bd (handle_Book_Void n x22.1 1) fun x23 =>
  bd (handle_Book_Issue n x23.1) fun x24 =>
  bd (handle_Handle_Slot n x24.2.1) fun x25 =>
  cl ((((((((((x21.2.1 == 1) && x21.2.2) && (x22.2.1 == 2)) && x22.2.2) && x23.2) && (x24.2.1 == 257)) && x24.2.2) && (x25.1 == 0)) && x25.2) == true) (handle_Book_Good n x24.1 257) default fun x26 =>
  cl (((((((((((x21.2.1 == 1) && x21.2.2) && (x22.2.1 == 2)) && x22.2.2) && x23.2) && (x24.2.1 == 257)) && x24.2.2) && (x25.1 == 0)) && x25.2) && x26) == true) (handle_Book_Good n x24.1 1) default fun x27 =>
  cl ((((((((((((x21.2.1 == 1) && x21.2.2) && (x22.2.1 == 2)) && x22.2.2) && x23.2) && (x24.2.1 == 257)) && x24.2.2) && (x25.1 == 0)) && x25.2) && x26) && (!x27)) == true) (handle_Book_Good n x22.1 1) default fun x28 =>
  cl (((((((((((((x21.2.1 == 1) && x21.2.2) && (x22.2.1 == 2)) && x22.2.2) && x23.2) && (x24.2.1 == 257)) && x24.2.2) && (x25.1 == 0)) && x25.2) && x26) && (!x27)) && x28) == true) (handle_Book_Issued n x24.1) default fun x29 =>
  some (((((((((((((x21.2.1 == 1) && x21.2.2) && (x22.2.1 == 2)) && x22.2.2) && x23.2) && (x24.2.1 == 257)) && x24.2.2) && (x25.1 == 0)) && x25.2) && x26) && (!x27)) && x28) && ((x29.length : Int) == 2))
theorem c_law03_wakes {n : Nat}  {r : Bool}  (h : law03_wakes n  = some r) : FnV Try.prog 25 [] (.bool r) := by
  unfold law03_wakes at h
  refine fn_of Try.func25 (by kernel_rfl) rfl Try.ntmps25 rfl (fun cx hbs hpre hro => ?_)
  refine WP_seq ?_
  refine WP_region ?_
  refine WL_v rfl (VS_assign rfl) ?_
  refine WL_nil ?_
  refine WQ_then ?_
  refine WP_seq ?_
  refine WP_region ?_
  refine WL_x rfl (RX_allocL (L := L_handle_Book) (z := Z_handle_Book) ⟨by kernel_rfl⟩) (fun b1 _ => ?_)
  refine WL_nil ?_
  refine WQ_then ?_
  refine WP_seq ?_
  obtain ⟨x21, hx21, h⟩ := bd_e h
  refine WP_region ?_
  refine WL_v rfl (VS_lda (M := L_handle_Book) (Pth.id (L := L_handle_Book)) rfl rfl) ?_
  refine WL_v rfl (VS_call (c_handle_Book_Issue hx21) rfl (fun _ _ _ => trivial)) ?_
  refine WL_v rfl (VS_move rfl) ?_
  refine WL_v rfl (VS_extract rfl rfl) ?_
  refine WL_v rfl (VS_extract rfl rfl) ?_
  refine WL_v rfl (VS_extract rfl rfl) ?_
  refine WL_x0 (RX_st (M := L_handle_Book) (Pth.id (L := L_handle_Book)) x21.1 x21.1 rfl rfl rfl rfl rfl) (fun _ _ => ?_)
  refine WL_v rfl (VS_assign rfl) ?_
  refine WL_v rfl (VS_assign rfl) ?_
  refine WL_nil ?_
  refine WQ_then ?_
  refine WP_seq ?_
  obtain ⟨x22, hx22, h⟩ := bd_e h
  refine WP_region ?_
  refine WL_v rfl (VS_lda (M := L_handle_Book) (Pth.id (L := L_handle_Book)) rfl rfl) ?_
  refine WL_v rfl (VS_call (c_handle_Book_Issue hx22) rfl (fun _ _ _ => trivial)) ?_
  refine WL_v rfl (VS_move rfl) ?_
  refine WL_v rfl (VS_extract rfl rfl) ?_
  refine WL_v rfl (VS_extract rfl rfl) ?_
  refine WL_v rfl (VS_extract rfl rfl) ?_
  refine WL_x0 (RX_st (M := L_handle_Book) (Pth.id (L := L_handle_Book)) x22.1 x22.1 rfl rfl rfl rfl rfl) (fun _ _ => ?_)
  refine WL_v rfl (VS_assign rfl) ?_
  refine WL_v rfl (VS_assign rfl) ?_
  refine WL_nil ?_
  refine WQ_then ?_
  refine WP_seq ?_
  obtain ⟨x23, hx23, h⟩ := bd_e h
  refine WP_region ?_
  refine WL_v rfl (VS_lda (M := L_handle_Book) (Pth.id (L := L_handle_Book)) rfl rfl) ?_
  refine WL_v rfl (VS_call (c_handle_Book_Void hx23) rfl (fun _ _ _ => trivial)) ?_
  refine WL_v rfl (VS_move rfl) ?_
  refine WL_v rfl (VS_extract rfl rfl) ?_
  refine WL_v rfl (VS_extract rfl rfl) ?_
  refine WL_x rfl (RX_allocL (L := L_handle_Book) (z := Z_handle_Book) ⟨by kernel_rfl⟩) (fun b6 _ => ?_)
  refine WL_x0 (RX_st (M := L_handle_Book) (Pth.id (L := L_handle_Book)) x23.1 x23.1 rfl rfl rfl rfl rfl) (fun _ _ => ?_)
  refine WL_v rfl (VS_assign rfl) ?_
  refine WL_nil ?_
  refine WQ_then ?_
  refine WP_seq ?_
  obtain ⟨x24, hx24, h⟩ := bd_e h
  refine WP_region ?_
  refine WL_v rfl (VS_lda (M := L_handle_Book) (Pth.id (L := L_handle_Book)) rfl rfl) ?_
  refine WL_v rfl (VS_call (c_handle_Book_Issue hx24) rfl (fun _ _ _ => trivial)) ?_
  refine WL_v rfl (VS_move rfl) ?_
  refine WL_v rfl (VS_extract rfl rfl) ?_
  refine WL_v rfl (VS_extract rfl rfl) ?_
  refine WL_v rfl (VS_extract rfl rfl) ?_
  refine WL_x0 (RX_st (M := L_handle_Book) (Pth.id (L := L_handle_Book)) x24.1 x24.1 rfl rfl rfl rfl rfl) (fun _ _ => ?_)
  refine WL_v rfl (VS_assign rfl) ?_
  refine WL_v rfl (VS_assign rfl) ?_
  refine WL_nil ?_
  refine WQ_then ?_
  refine WP_seq ?_
  obtain ⟨x25, hx25, h⟩ := bd_e h
  refine WP_region ?_
  refine WL_v rfl (VS_move rfl) ?_
  refine WL_v rfl (VS_call (c_handle_Handle_Slot hx25) rfl (fun _ _ _ => trivial)) ?_
  refine WL_v rfl (VS_move rfl) ?_
  refine WL_v rfl (VS_extract rfl rfl) ?_
  refine WL_v rfl (VS_extract rfl rfl) ?_
  refine WL_v rfl (VS_assign rfl) ?_
  refine WL_v rfl (VS_assign rfl) ?_
  refine WL_nil ?_
  refine WQ_then ?_
  refine WP_seq ?_
  obtain ⟨x26, hx26, _, h⟩ := cl_e h
  obtain ⟨x27, hx27, _, h⟩ := cl_e h
  obtain ⟨x28, hx28, _, h⟩ := cl_e h
  obtain ⟨x29, hx29, _, h⟩ := cl_e h
  refine WP_region ?_
  refine WL_v rfl (VS_move rfl) ?_
  refine WL_v rfl (VS_eql rfl rfl) ?_
  refine WL_v rfl (VS_move rfl) ?_
  refine WL_g (Gd_b rfl rfl) rfl (fun hb => VS_move rfl) ?_
  refine WL_v rfl (VS_and rfl rfl) ?_
  refine WL_v rfl (VS_move rfl) ?_
  refine WL_g (Gd_b rfl rfl) rfl (fun hb => VS_move rfl) ?_
  refine WL_g (Gd_b rfl rfl) rfl (fun hb => VS_eql (gev rfl hb) rfl) ?_
  refine WL_v rfl (VS_and rfl rfl) ?_
  refine WL_v rfl (VS_move rfl) ?_
  refine WL_g (Gd_b rfl rfl) rfl (fun hb => VS_move rfl) ?_
  refine WL_v rfl (VS_and rfl rfl) ?_
  refine WL_v rfl (VS_move rfl) ?_
  refine WL_g (Gd_b rfl rfl) rfl (fun hb => VS_move rfl) ?_
  refine WL_v rfl (VS_and rfl rfl) ?_
  refine WL_v rfl (VS_move rfl) ?_
  refine WL_g (Gd_b rfl rfl) rfl (fun hb => VS_move rfl) ?_
  refine WL_g (Gd_b rfl rfl) rfl (fun hb => VS_eql (gev rfl hb) rfl) ?_
  refine WL_v rfl (VS_and rfl rfl) ?_
  refine WL_v rfl (VS_move rfl) ?_
  refine WL_g (Gd_b rfl rfl) rfl (fun hb => VS_move rfl) ?_
  refine WL_v rfl (VS_and rfl rfl) ?_
  refine WL_v rfl (VS_move rfl) ?_
  refine WL_g (Gd_b rfl rfl) rfl (fun hb => VS_move rfl) ?_
  refine WL_g (Gd_b rfl rfl) rfl (fun hb => VS_eql (gev rfl hb) rfl) ?_
  refine WL_v rfl (VS_and rfl rfl) ?_
  refine WL_v rfl (VS_move rfl) ?_
  refine WL_g (Gd_b rfl rfl) rfl (fun hb => VS_move rfl) ?_
  refine WL_v rfl (VS_and rfl rfl) ?_
  refine WL_v rfl (VS_move rfl) ?_
  refine WL_g (Gd_b rfl rfl) rfl (fun hb => VS_lda (M := L_handle_Book) (Pth.id (L := L_handle_Book)) rfl rfl) ?_
  refine WL_g (Gd_b rfl rfl) rfl (fun hb => VS_call (c_handle_Book_Good (hx26 hb)) (evs_cons (gev rfl hb) (evs_cons rfl rfl)) (fun _ _ _ => trivial)) ?_
  refine WL_v rfl (VS_and rfl rfl) ?_
  refine WL_v rfl (VS_move rfl) ?_
  refine WL_g (Gd_b rfl rfl) rfl (fun hb => VS_lda (M := L_handle_Book) (Pth.id (L := L_handle_Book)) rfl rfl) ?_
  refine WL_g (Gd_b rfl rfl) rfl (fun hb => VS_call (c_handle_Book_Good (hx27 hb)) (evs_cons (gev rfl hb) (evs_cons rfl rfl)) (fun _ _ _ => trivial)) ?_
  refine WL_g (Gd_b rfl rfl) rfl (fun hb => VS_not (gev rfl hb)) ?_
  refine WL_v rfl (VS_and rfl rfl) ?_
  refine WL_v rfl (VS_move rfl) ?_
  refine WL_g (Gd_b rfl rfl) rfl (fun hb => VS_lda (M := L_handle_Book) (Pth.id (L := L_handle_Book)) rfl rfl) ?_
  refine WL_g (Gd_b rfl rfl) rfl (fun hb => VS_call (c_handle_Book_Good (hx28 hb)) (evs_cons (gev rfl hb) (evs_cons rfl rfl)) (fun _ _ _ => trivial)) ?_
  refine WL_v rfl (VS_and rfl rfl) ?_
  refine WL_v rfl (VS_move rfl) ?_
  refine WL_g (Gd_b rfl rfl) rfl (fun hb => VS_lda (M := L_handle_Book) (Pth.id (L := L_handle_Book)) rfl rfl) ?_
  refine WL_callBg (Gd_b rfl rfl) rfl (fun hb => c_handle_Book_Issued (hx29 hb)) (fun hb => (evs_cons (gev rfl hb) rfl)) (fun hb => inferInstance) (fun ⟨w30, bs31, J32⟩ hp33 => ?_)
  have f34 : (((((((((((((x21.2.1 == 1) && x21.2.2) && (x22.2.1 == 2)) && x22.2.2) && x23.2) && (x24.2.1 == 257)) && x24.2.2) && (x25.1 == 0)) && x25.2) && x26) && (!x27)) && x28) == true) = true → Fz (Hs [.ext bs31 J32]) w30 (LI .u32) x29 := hp33
  refine WL_g (Gd_b rfl rfl) rfl (fun hb => VS_lenF (f34 hb) (gev rfl hb)) ?_
  refine WL_g (Gd_b rfl rfl) rfl (fun hb => VS_eql (gev rfl hb) rfl) ?_
  refine WL_v rfl (VS_and rfl rfl) ?_
  refine WL_v rfl (VS_assign rfl) ?_
  refine WL_nil ?_
  refine WQ_then ?_
  refine WP_ret ?_
  replace h := Option.some.inj h
  subst h
  exact WQ_ret () rfl (.tmp rfl .nil) trivial rfl (ks := []) rfl (by decide)
structure law03_Act where
  Do : Int
  H : Int
abbrev L_law03_Act : Lay law03_Act := Lay.via (LP (LI .u8) (LI .u32)) (fun x => (x.Do, x.H))
abbrev Z_law03_Act : law03_Act := ⟨0, 0⟩
instance : Inhabited law03_Act := ⟨Z_law03_Act⟩
theorem P_law03_Act_Do : Pth L_law03_Act (LI .u8) 0 (fun x => x.Do) (fun x v => { x with Do := v }) := (Pth.fst Pth.id).via _ _ _ 0 rfl (fun _ => rfl) (fun _ _ => rfl)
theorem P_law03_Act_H : Pth L_law03_Act (LI .u32) 1 (fun x => x.H) (fun x v => { x with H := v }) := (Pth.snd Pth.id).via _ _ _ 1 rfl (fun _ => rfl) (fun _ _ => rfl)
def EQ_law03_Act (x y : law03_Act) : Bool := x.Do == y.Do && x.H == y.H
theorem EQv_law03_Act (x y : law03_Act) : Value.bool (eqAt [(0, some .u8), (1, some .u32)] (L_law03_Act.enc x) (L_law03_Act.enc y)) = .bool (EQ_law03_Act x y) := congrArg Value.bool (by show ((x.Do == y.Do) && ((x.H == y.H) && true)) = (x.Do == y.Do && x.H == y.H); simp [Bool.and_assoc])
theorem EQvn_law03_Act (x y : law03_Act) : Value.bool (!(eqAt [(0, some .u8), (1, some .u32)] (L_law03_Act.enc x) (L_law03_Act.enc y))) = .bool (!(EQ_law03_Act x y)) := congrArg (fun v => match v with | Value.bool b => Value.bool (!b) | v => v) (EQv_law03_Act x y)
def law03_HandleBooks (n : Nat) (a0 : (List Int)) (a1 : (List law03_Act)) (a2 : Int) : Option Bool :=
  cn ((decide (200 < (a1.length : Int)) || decide (100 < (a0.length : Int)))) (
  bd (law03_wakes n ) fun x21 =>
  some x21) (
  bd (handle_Aged n a0) fun x22 =>
  bd (ref03_Aged n a0) fun x23 =>
  loop3 (fun k33 (x28 : Int) (x29 : ref03_Book) (x30 : handle_Book) =>
  cn (decide (x28 < (a1.length : Int))) (
  gu (inb x28 a1.length) <|
  lt ((a1.getD (Int.toNat x28) default) : law03_Act) fun x35 =>
  lt (fun (x36 : Int) =>
  cn (decide (x35.Do < 2)) (
  bd (handle_Book_Void n x30 (wr .u32 x36)) fun x40 =>
  bd (ref03_Book_Void n x29 x36) fun x41 =>
  cn ((x40.2 != x41.2)) (
  some false) (
  k33 (wr .i64 (x28 + 1)) x41.1 x40.1)) (
  bd (handle_Book_Issue n x30) fun x42 =>
  bd (ref03_Book_Issue n x29) fun x43 =>
  cn (((x42.2.2 != (decide (0 < x43.2))) || ((wr .i64 x42.2.1) != x43.2))) (
  some false) (
  k33 (wr .i64 (x28 + 1)) x43.1 x42.1))) fun j37 =>
  cn ((x35.Do == 1)) (
  gu (inb (Int.tmod x35.H 32) 32) <|
  cn (((x29.Is (Int.toNat (Int.tmod x35.H 32))) == 1)) (
  bd (ref03_Book_Of n x29 (wr .i64 (Int.tmod x35.H 32))) fun x39 =>
  j37 x39) (
  j37 0)) (
  j37 (wr .i64 x35.H))) (
  bd (handle_Handle_Slot n a2) fun x44 =>
  bd (law03_same n x30 x29) fun x45 =>
  cl (x45 == true) (law03_same n x22 x23) default fun x46 =>
  cl ((x45 && x46) == true) (handle_Book_Good n x30 a2) default fun x47 =>
  cl ((x45 && x46) == true) (ref03_Book_Slot n x29 (wr .i64 a2)) default fun x48 =>
  cl (((((x45 && x46) && (x47 == (decide (0 ≤ x48)))) && (x44.2 == ((decide (1 ≤ (Int.tmod a2 256)) && decide ((Int.tmod a2 256) ≤ 32)) && decide ((wr .u32 (Int.tdiv a2 256)) ≤ 8388607)))) && ((((decide (1 ≤ (Int.tmod a2 256)) && decide ((Int.tmod a2 256) ≤ 32)) && decide ((wr .u32 (Int.tdiv a2 256)) ≤ 8388607)) && (x44.1 == (wr .i64 ((wr .i64 (Int.tmod a2 256)) - 1)))) || ((!((decide (1 ≤ (Int.tmod a2 256)) && decide ((Int.tmod a2 256) ≤ 32)) && decide ((wr .u32 (Int.tdiv a2 256)) ≤ 8388607))) && (x44.1 == 0)))) == true) (law03_wakes n ) default fun x49 =>
  some (((((x45 && x46) && (x47 == (decide (0 ≤ x48)))) && (x44.2 == ((decide (1 ≤ (Int.tmod a2 256)) && decide ((Int.tmod a2 256) ≤ 32)) && decide ((wr .u32 (Int.tdiv a2 256)) ≤ 8388607)))) && ((((decide (1 ≤ (Int.tmod a2 256)) && decide ((Int.tmod a2 256) ≤ 32)) && decide ((wr .u32 (Int.tdiv a2 256)) ≤ 8388607)) && (x44.1 == (wr .i64 ((wr .i64 (Int.tmod a2 256)) - 1)))) || ((!((decide (1 ≤ (Int.tmod a2 256)) && decide ((Int.tmod a2 256) ≤ 32)) && decide ((wr .u32 (Int.tdiv a2 256)) ≤ 8388607))) && (x44.1 == 0)))) && x49))) n 0 x23 x22)
theorem c_law03_HandleBooks {n : Nat} {a0 : (List Int)} {a1 : (List law03_Act)} {a2 : Int} {r : Bool} {K : World → Prop} [Stable K] {v0 : Value} (f0 : Fz K v0 (LI .u32) a0) {v1 : Value} (f1 : Fz K v1 L_law03_Act a1) (h : law03_HandleBooks n a0 a1 a2 = some r) : FnW Try.prog 5 [v0, v1, .int .u32 a2] K (.bool r) := by
  unfold law03_HandleBooks at h
  refine fn_of Try.func5 (by kernel_rfl) rfl Try.ntmps5 rfl (fun cx hbs hpre hro => ?_)
  haveI := knf_pre hbs hpre
  refine WP_seq ?_
  refine WP_region ?_
  refine WL_v rfl (VS_assign rfl) ?_
  refine WL_nil ?_
  refine WQ_then ?_
  refine WP_seq ?_
  refine WP_seq ?_
  refine WP_region ?_
  refine WL_v rfl (VS_move rfl) ?_
  refine WL_v rfl (VS_lenF f1 rfl) ?_
  refine WL_v rfl (VS_gtr rfl rfl) ?_
  refine WL_v rfl (VS_move rfl) ?_
  refine WL_g (Gd_b rfl rfl) rfl (fun hb => VS_move rfl) ?_
  refine WL_g (Gd_b rfl rfl) rfl (fun hb => VS_lenF f0 (gev rfl hb)) ?_
  refine WL_g (Gd_b rfl rfl) rfl (fun hb => VS_gtr (gev rfl hb) rfl) ?_
  refine WL_v rfl (VS_or rfl rfl) ?_
  refine WL_nil ?_
  refine WQ_then ?_
  refine WP_if rfl (fun hc => ?_) (fun hc => ?_)
  ·
    replace h := cn_t hc h
    refine WP_seq ?_
    obtain ⟨x21, hx21, h⟩ := bd_e h
    refine WP_region ?_
    refine WL_v rfl (VS_call (c_law03_wakes hx21) rfl (fun _ _ _ => trivial)) ?_
    refine WL_v rfl (VS_assign rfl) ?_
    refine WL_nil ?_
    refine WQ_then ?_
    refine WP_ret ?_
    refine WQ_then_ret ?_
    replace h := Option.some.inj h
    subst h
    exact WQ_ret () rfl (.tmp rfl .nil) trivial rfl (ks := []) rfl (by decide)
  ·
    replace h := cn_f hc h
    refine WP_skip ?_
    refine WQ_then ?_
    refine WP_seq ?_
    obtain ⟨x22, hx22, h⟩ := bd_e h
    obtain ⟨x23, hx23, h⟩ := bd_e h
    refine WP_region ?_
    refine WL_v rfl (VS_move rfl) ?_
    refine WL_v rfl (VS_call (c_handle_Aged (K := K) (f0.mono ent) hx22) rfl kn) ?_
    refine WL_v rfl (VS_move rfl) ?_
    refine WL_v rfl (VS_call (c_ref03_Aged (K := K) (f0.mono ent) hx23) rfl kn) ?_
    refine WL_x rfl (RX_allocL (L := L_handle_Book) (z := Z_handle_Book) ⟨by kernel_rfl⟩) (fun b7 _ => ?_)
    refine WL_x rfl (RX_allocL (L := L_ref03_Book) (z := Z_ref03_Book) ⟨by kernel_rfl⟩) (fun b8 _ => ?_)
    refine WL_x0 (RX_st (M := L_handle_Book) (Pth.id (L := L_handle_Book)) x22 x22 rfl rfl rfl rfl rfl) (fun _ _ => ?_)
    refine WL_x0 (RX_st (M := L_ref03_Book) (Pth.id (L := L_ref03_Book)) x23 x23 rfl rfl rfl rfl rfl) (fun _ _ => ?_)
    refine WL_nil ?_
    refine WQ_then ?_
    refine WP_cuts (α := Nat × Nat) [1, 2, 7, 8] (.cons rfl (.cons rfl (.cons rfl (.cons rfl (.nil))))) (fun (b9, b10) => [(9, Ptr b9 0), (10, Ptr b10 0)]) (fun (b9, b10) => [.cells b10 66 (L_ref03_Book.enc x23), .cells b9 62 (L_handle_Book.enc x22), .cells b8 66 (L_ref03_Book.enc x23), .cells b7 62 (L_handle_Book.enc x22)]) (fun (b9, b10) => True) ?_ ?_
    ·
      refine WP_draw mixed (.stg [] [(0, [7]), (1, [8])] (.alt 2 [] (.stg [(0, [7]), (1, [8])] [] (.alt 3 [] (.stg [(0, [7]), (1, [8])] [] (.alt 4 [9, 39] (.stg [(1, [8])] [] (.alt 5 [10, 40] (.fin [] []) .no)) .no)) .no)) (.alt 3 [] (.stg [(0, [7]), (1, [8])] [] (.alt 2 [] (.stg [(0, [7]), (1, [8])] [] (.alt 4 [9, 39] (.stg [(1, [8])] [] (.alt 5 [10, 40] (.fin [] []) .no)) .no)) .no)) .no))) (by kernel_rfl) ?_
      refine Stg_stg ?_ ?_
      · exact ReOk_nil
      refine NewOk_cons rfl rfl (VG_v rfl (VS_lda (M := L_handle_Book) (Pth.id (L := L_handle_Book)) rfl rfl)) ?_
      refine NewOk_cons rfl rfl (VG_v rfl (VS_lda (M := L_ref03_Book) (Pth.id (L := L_ref03_Book)) rfl rfl)) ?_
      refine NewOk_nil ?_
      refine Stg_some rfl rfl (RG_x rfl (RX_allocL (L := L_handle_Book) (z := Z_handle_Book) ⟨by kernel_rfl⟩)) (fun b9 _ => ?_) ?_
      ·
        refine Stg_stg ?_ ?_
        ·
          refine ReOk_cons rfl rfl (VG_v rfl (VS_val (VS_lda (M := L_handle_Book) (Pth.id (L := L_handle_Book)) rfl rfl) rfl)) ?_
          refine ReOk_cons rfl rfl (VG_v rfl (VS_val (VS_lda (M := L_ref03_Book) (Pth.id (L := L_ref03_Book)) rfl rfl) rfl)) ?_
          exact ReOk_nil
        refine NewOk_nil ?_
        refine Stg_some rfl rfl (RG_x rfl (RX_allocL (L := L_ref03_Book) (z := Z_ref03_Book) ⟨by kernel_rfl⟩)) (fun b10 _ => ?_) Stg_no
        refine Stg_stg ?_ ?_
        ·
          refine ReOk_cons rfl rfl (VG_v rfl (VS_val (VS_lda (M := L_handle_Book) (Pth.id (L := L_handle_Book)) rfl rfl) rfl)) ?_
          refine ReOk_cons rfl rfl (VG_v rfl (VS_val (VS_lda (M := L_ref03_Book) (Pth.id (L := L_ref03_Book)) rfl rfl) rfl)) ?_
          exact ReOk_nil
        refine NewOk_nil ?_
        refine Stg_none rfl (RG_x rfl (RX_st (M := L_handle_Book) (Pth.id (L := L_handle_Book)) x22 x22 rfl rfl rfl rfl rfl)) (fun _ _ => ?_) Stg_no
        refine Stg_stg ?_ ?_
        ·
          refine ReOk_cons rfl rfl (VG_v rfl (VS_val (VS_lda (M := L_ref03_Book) (Pth.id (L := L_ref03_Book)) rfl rfl) rfl)) ?_
          exact ReOk_nil
        refine NewOk_nil ?_
        refine Stg_none rfl (RG_x rfl (RX_st (M := L_ref03_Book) (Pth.id (L := L_ref03_Book)) x23 x23 rfl rfl rfl rfl rfl)) (fun _ _ => ?_) Stg_no
        refine Stg_fin ?_ ?_
        · exact ReOk_nil
        refine NewOk_nil ?_
        exact WQ_cuts (b9, b10) trivial (Sub_cons rfl (Sub_cons rfl (Sub_nil))) (.cons rfl (.cons rfl (.cons rfl (.cons rfl (.nil))))) (ks := [0, 1, 2, 3]) rfl (by decide)
      refine Stg_some rfl rfl (RG_x rfl (RX_allocL (L := L_ref03_Book) (z := Z_ref03_Book) ⟨by kernel_rfl⟩)) (fun b10 _ => ?_) ?_
      ·
        refine Stg_stg ?_ ?_
        ·
          refine ReOk_cons rfl rfl (VG_v rfl (VS_val (VS_lda (M := L_handle_Book) (Pth.id (L := L_handle_Book)) rfl rfl) rfl)) ?_
          refine ReOk_cons rfl rfl (VG_v rfl (VS_val (VS_lda (M := L_ref03_Book) (Pth.id (L := L_ref03_Book)) rfl rfl) rfl)) ?_
          exact ReOk_nil
        refine NewOk_nil ?_
        refine Stg_some rfl rfl (RG_x rfl (RX_allocL (L := L_handle_Book) (z := Z_handle_Book) ⟨by kernel_rfl⟩)) (fun b9 _ => ?_) Stg_no
        refine Stg_stg ?_ ?_
        ·
          refine ReOk_cons rfl rfl (VG_v rfl (VS_val (VS_lda (M := L_handle_Book) (Pth.id (L := L_handle_Book)) rfl rfl) rfl)) ?_
          refine ReOk_cons rfl rfl (VG_v rfl (VS_val (VS_lda (M := L_ref03_Book) (Pth.id (L := L_ref03_Book)) rfl rfl) rfl)) ?_
          exact ReOk_nil
        refine NewOk_nil ?_
        refine Stg_none rfl (RG_x rfl (RX_st (M := L_handle_Book) (Pth.id (L := L_handle_Book)) x22 x22 rfl rfl rfl rfl rfl)) (fun _ _ => ?_) Stg_no
        refine Stg_stg ?_ ?_
        ·
          refine ReOk_cons rfl rfl (VG_v rfl (VS_val (VS_lda (M := L_ref03_Book) (Pth.id (L := L_ref03_Book)) rfl rfl) rfl)) ?_
          exact ReOk_nil
        refine NewOk_nil ?_
        refine Stg_none rfl (RG_x rfl (RX_st (M := L_ref03_Book) (Pth.id (L := L_ref03_Book)) x23 x23 rfl rfl rfl rfl rfl)) (fun _ _ => ?_) Stg_no
        refine Stg_fin ?_ ?_
        · exact ReOk_nil
        refine NewOk_nil ?_
        exact WQ_cuts (b9, b10) trivial (Sub_cons rfl (Sub_cons rfl (Sub_nil))) (.cons rfl (.cons rfl (.cons rfl (.cons rfl (.nil))))) (ks := [1, 0, 2, 3]) rfl (by decide)
      exact Stg_no
    ·
      rintro ⟨b9, b10⟩ _
      refine WP_seq ?_
      refine WP_seq ?_
      refine WP_region ?_
      refine WL_v rfl (VS_assign rfl) ?_
      refine WL_nil ?_
      refine WQ_then ?_
      refine WP_block ?_
      obtain ⟨lb31, hlb31, h⟩ := lp3_i h
      refine WP_loops (α := Nat × Int × ref03_Book × handle_Book) [1, 2, 7, 8, 9, 10] (.cons rfl (.cons rfl (.cons rfl (.cons rfl (.cons rfl (.cons rfl (.nil))))))) (fun (m32, x28, x29, x30) => [(11, .int .i64 x28)]) (fun (m32, x28, x29, x30) => [.cells b10 66 (L_ref03_Book.enc x23), .cells b9 62 (L_handle_Book.enc x22), .cells b8 66 (L_ref03_Book.enc x29), .cells b7 62 (L_handle_Book.enc x30)]) (fun (m32, x28, x29, x30) => loop3 lb31 m32 x28 x29 x30 = some r) (fun (m32, x28, x29, x30) => m32) (n, 0, x23, x22) h (Sub_cons rfl (Sub_nil)) (ks := [0, 1, 2, 3]) rfl (by decide) ?_
      rintro ⟨m32, x28, x29, x30⟩ h
      replace h : loop3 lb31 m32 x28 x29 x30 = some r := h
      replace h := lp3_s hlb31 h
      obtain ⟨m32, rfl, h⟩ := h
      refine WP_seq ?_
      refine WP_seq ?_
      refine WP_region ?_
      refine WL_v rfl (VS_move rfl) ?_
      refine WL_v rfl (VS_move rfl) ?_
      refine WL_v rfl (VS_lenF f1 rfl) ?_
      refine WL_v rfl (VS_lss rfl rfl) ?_
      refine WL_nil ?_
      refine WQ_then ?_
      refine WP_if rfl (fun hc => ?_) (fun hc => ?_)
      ·
        replace h := cn_t hc h
        refine WP_skip ?_
        refine WQ_then ?_
        refine WP_seq ?_
        refine WP_block ?_
        refine WP_seq ?_
        obtain ⟨hg34, h⟩ := gu_e h
        obtain ⟨x35, hx35, h⟩ := lt_e h
        refine WP_region ?_
        refine WL_v rfl (VS_move rfl) ?_
        refine WL_v rfl (VS_move rfl) ?_
        refine WL_v rfl (VS_ixF (m := (Int.toNat x28)) f1 rfl rfl rfl (inb_e hg34).1 (inb_e hg34).2) ?_
        refine WL_v rfl (VS_ldaF (M := L_law03_Act) f1 (Pth.idx (L := L_law03_Act) (m := (a1.length)) (k := 2) ((Int.toNat x28)) (inb_e hg34).2 rfl) rfl rfl (by decide)) ?_
        refine WL_x rfl (RX_allocL (L := L_law03_Act) (z := Z_law03_Act) ⟨by kernel_rfl⟩) (fun b12 _ => ?_)
        refine WL_x0 (RX_st (M := L_law03_Act) (Pth.id (L := L_law03_Act)) (a1.getD (Int.toNat x28) default) x35 hx35 rfl rfl rfl rfl) (fun _ _ => ?_)
        refine WL_nil ?_
        refine WQ_then ?_
        refine WP_seq ?_
        refine WP_region ?_
        refine WL_v rfl (VS_field0 rfl) ?_
        refine WL_v rfl (VS_ldi P_law03_Act_H rfl) ?_
        refine WL_v rfl (VS_conv rfl rfl) ?_
        refine WL_v rfl (VS_assign rfl) ?_
        refine WL_nil ?_
        refine WQ_then ?_
        obtain ⟨j37, hj37, h⟩ := lt_e h
        refine WP_cuts (α := Int) [1, 2, 7, 8, 9, 10, 11, 12] (.cons rfl (.cons rfl (.cons rfl (.cons rfl (.cons rfl (.cons rfl (.cons rfl (.cons rfl (.nil))))))))) (fun x36 => [(13, .int .i64 x36)]) (fun x36 => [.cells b12 69 (L_law03_Act.enc x35), .cells b10 66 (L_ref03_Book.enc x23), .cells b9 62 (L_handle_Book.enc x22), .cells b8 66 (L_ref03_Book.enc x29), .cells b7 62 (L_handle_Book.enc x30)]) (fun x36 => j37 x36 = some r) ?_ ?_
        ·
          refine WP_seq ?_
          refine WP_region ?_
          refine WL_v rfl (VS_field0 rfl) ?_
          refine WL_v rfl (VS_ldi P_law03_Act_Do rfl) ?_
          refine WL_v rfl (VS_eql rfl rfl) ?_
          refine WL_nil ?_
          refine WQ_then ?_
          refine WP_if rfl (fun hc => ?_) (fun hc => ?_)
          ·
            replace h := cn_t hc h
            refine WP_seq ?_
            refine WP_region ?_
            refine WL_v rfl (VS_assign rfl) ?_
            refine WL_nil ?_
            refine WQ_then ?_
            refine WP_seq ?_
            obtain ⟨hg38, h⟩ := gu_e h
            refine WP_region ?_
            refine WL_v rfl (VS_field0 rfl) ?_
            refine WL_v rfl (VS_ldi P_law03_Act_H rfl) ?_
            refine WL_v rfl (VS_rem rfl rfl (by decide) rfl) ?_
            refine WL_v rfl (VS_field0 rfl) ?_
            refine WL_v rfl (VS_index (m := (Int.toNat (Int.tmod x35.H 32))) rfl rfl (inb_e hg38).1 (inb_e hg38).2) ?_
            refine WL_v rfl (VS_ldi (P_ref03_Book_Is.comp (Pth.idx (L := (LI .i64)) (m := 32) (k := 1) ((Int.toNat (Int.tmod x35.H 32))) (inb_e hg38).2 rfl)) rfl) ?_
            refine WL_v rfl (VS_eql rfl rfl) ?_
            refine WL_nil ?_
            refine WQ_then ?_
            refine WP_if rfl (fun hc => ?_) (fun hc => ?_)
            ·
              replace h := cn_t hc h
              obtain ⟨x39, hx39, h⟩ := bd_e h
              refine WP_region ?_
              refine WL_v rfl (VS_lda (M := L_ref03_Book) (Pth.id (L := L_ref03_Book)) rfl rfl) ?_
              refine WL_v rfl (VS_field0 rfl) ?_
              refine WL_v rfl (VS_ldi P_law03_Act_H rfl) ?_
              refine WL_v rfl (VS_rem rfl rfl (by decide) rfl) ?_
              refine WL_v rfl (VS_conv rfl rfl) ?_
              refine WL_v rfl (VS_call (c_ref03_Book_Of hx39) rfl (fun _ _ _ => trivial)) ?_
              refine WL_v rfl (VS_assign rfl) ?_
              refine WL_nil ?_
              exact WQ_cuts (x39) h (Sub_cons rfl (Sub_nil)) (.cons rfl (.cons rfl (.cons rfl (.cons rfl (.cons rfl (.cons rfl (.cons rfl (.cons rfl (.nil))))))))) (ks := [0, 1, 2, 3, 4]) rfl (by decide)
            ·
              replace h := cn_f hc h
              refine WP_skip ?_
              exact WQ_cuts (0) h (Sub_cons rfl (Sub_nil)) (.cons rfl (.cons rfl (.cons rfl (.cons rfl (.cons rfl (.cons rfl (.cons rfl (.cons rfl (.nil))))))))) (ks := [0, 1, 2, 3, 4]) rfl (by decide)
          ·
            replace h := cn_f hc h
            refine WP_skip ?_
            exact WQ_cuts (wr .i64 x35.H) h (Sub_cons rfl (Sub_nil)) (.cons rfl (.cons rfl (.cons rfl (.cons rfl (.cons rfl (.cons rfl (.cons rfl (.cons rfl (.nil))))))))) (ks := [0, 1, 2, 3, 4]) rfl (by decide)
        ·
          rintro x36 h
          replace h : j37 x36 = some r := h
          replace h := jn1_u hj37 h
          refine WP_seq ?_
          refine WP_seq ?_
          refine WP_region ?_
          refine WL_v rfl (VS_field0 rfl) ?_
          refine WL_v rfl (VS_ldi P_law03_Act_Do rfl) ?_
          refine WL_v rfl (VS_lss rfl rfl) ?_
          refine WL_nil ?_
          refine WQ_then ?_
          refine WP_if rfl (fun hc => ?_) (fun hc => ?_)
          ·
            replace h := cn_t hc h
            refine WP_seq ?_
            obtain ⟨x40, hx40, h⟩ := bd_e h
            refine WP_region ?_
            refine WL_v rfl (VS_lda (M := L_handle_Book) (Pth.id (L := L_handle_Book)) rfl rfl) ?_
            refine WL_v rfl (VS_move rfl) ?_
            refine WL_v rfl (VS_conv rfl rfl) ?_
            refine WL_v rfl (VS_call (c_handle_Book_Void hx40) rfl (fun _ _ _ => trivial)) ?_
            refine WL_v rfl (VS_move rfl) ?_
            refine WL_v rfl (VS_extract rfl rfl) ?_
            refine WL_v rfl (VS_extract rfl rfl) ?_
            refine WL_x rfl (RX_allocL (L := L_handle_Book) (z := Z_handle_Book) ⟨by kernel_rfl⟩) (fun b14 _ => ?_)
            refine WL_x0 (RX_st (M := L_handle_Book) (Pth.id (L := L_handle_Book)) x40.1 x40.1 rfl rfl rfl rfl rfl) (fun _ _ => ?_)
            refine WL_v rfl (VS_assign rfl) ?_
            refine WL_nil ?_
            refine WQ_then ?_
            refine WP_seq ?_
            obtain ⟨x41, hx41, h⟩ := bd_e h
            refine WP_region ?_
            refine WL_v rfl (VS_lda (M := L_ref03_Book) (Pth.id (L := L_ref03_Book)) rfl rfl) ?_
            refine WL_v rfl (VS_move rfl) ?_
            refine WL_v rfl (VS_call (c_ref03_Book_Void hx41) rfl (fun _ _ _ => trivial)) ?_
            refine WL_v rfl (VS_move rfl) ?_
            refine WL_v rfl (VS_extract rfl rfl) ?_
            refine WL_v rfl (VS_extract rfl rfl) ?_
            refine WL_x rfl (RX_allocL (L := L_ref03_Book) (z := Z_ref03_Book) ⟨by kernel_rfl⟩) (fun b16 _ => ?_)
            refine WL_x0 (RX_st (M := L_ref03_Book) (Pth.id (L := L_ref03_Book)) x41.1 x41.1 rfl rfl rfl rfl rfl) (fun _ _ => ?_)
            refine WL_v rfl (VS_assign rfl) ?_
            refine WL_nil ?_
            refine WQ_then ?_
            refine WP_seq ?_
            refine WP_region ?_
            refine WL_v rfl (VS_lda (M := L_handle_Book) (Pth.id (L := L_handle_Book)) rfl rfl) ?_
            refine WL_x0 (RX_st (M := L_handle_Book) (Pth.id (L := L_handle_Book)) x40.1 x40.1 rfl rfl rfl rfl rfl) (fun _ _ => ?_)
            refine WL_nil ?_
            refine WQ_then ?_
            refine WP_seq ?_
            refine WP_region ?_
            refine WL_v rfl (VS_lda (M := L_ref03_Book) (Pth.id (L := L_ref03_Book)) rfl rfl) ?_
            refine WL_x0 (RX_st (M := L_ref03_Book) (Pth.id (L := L_ref03_Book)) x41.1 x41.1 rfl rfl rfl rfl rfl) (fun _ _ => ?_)
            refine WL_nil ?_
            refine WQ_then ?_
            refine WP_seq ?_
            refine WP_seq ?_
            refine WP_region ?_
            refine WL_v rfl (VS_move rfl) ?_
            refine WL_v rfl (VS_move rfl) ?_
            refine WL_v rfl (VS_neqb rfl rfl) ?_
            refine WL_nil ?_
            refine WQ_then ?_
            refine WP_if rfl (fun hc => ?_) (fun hc => ?_)
            ·
              replace h := cn_t hc h
              refine WP_seq ?_
              refine WP_region ?_
              refine WL_v rfl (VS_assign rfl) ?_
              refine WL_nil ?_
              refine WQ_then ?_
              refine WP_ret ?_
              refine WQ_then_ret ?_
              refine WQ_then_ret ?_
              refine WQ_block_ret ?_
              refine WQ_then_ret ?_
              refine WQ_then_ret ?_
              refine WQ_block_ret ?_
              refine WQ_then_ret ?_
              replace h := Option.some.inj h
              subst h
              exact WQ_ret () rfl (.tmp rfl .nil) trivial rfl (ks := []) rfl (by decide)
            ·
              replace h := cn_f hc h
              refine WP_skip ?_
              refine WQ_then ?_
              refine WP_exit ?_
              refine WQ_then_exit ?_
              refine WQ_block_exit ?_
              refine WQ_then ?_
              refine WP_region ?_
              refine WL_v rfl (VS_move rfl) ?_
              refine WL_v rfl (VS_add rfl rfl rfl) ?_
              refine WL_v rfl (VS_assign rfl) ?_
              refine WL_nil ?_
              exact WQ_loops (m32, wr .i64 (x28 + 1), x41.1, x40.1) (Nat.lt_succ_self _) h (Sub_cons rfl (Sub_nil)) (.cons rfl (.cons rfl (.cons rfl (.cons rfl (.cons rfl (.cons rfl (.nil))))))) (ks := [3, 4, 5, 6]) rfl (by decide)
          ·
            replace h := cn_f hc h
            refine WP_skip ?_
            refine WQ_then ?_
            refine WP_seq ?_
            obtain ⟨x42, hx42, h⟩ := bd_e h
            refine WP_region ?_
            refine WL_v rfl (VS_lda (M := L_handle_Book) (Pth.id (L := L_handle_Book)) rfl rfl) ?_
            refine WL_v rfl (VS_call (c_handle_Book_Issue hx42) rfl (fun _ _ _ => trivial)) ?_
            refine WL_v rfl (VS_move rfl) ?_
            refine WL_v rfl (VS_extract rfl rfl) ?_
            refine WL_v rfl (VS_extract rfl rfl) ?_
            refine WL_v rfl (VS_extract rfl rfl) ?_
            refine WL_x rfl (RX_allocL (L := L_handle_Book) (z := Z_handle_Book) ⟨by kernel_rfl⟩) (fun b18 _ => ?_)
            refine WL_x0 (RX_st (M := L_handle_Book) (Pth.id (L := L_handle_Book)) x42.1 x42.1 rfl rfl rfl rfl rfl) (fun _ _ => ?_)
            refine WL_v rfl (VS_assign rfl) ?_
            refine WL_v rfl (VS_assign rfl) ?_
            refine WL_nil ?_
            refine WQ_then ?_
            refine WP_seq ?_
            obtain ⟨x43, hx43, h⟩ := bd_e h
            refine WP_region ?_
            refine WL_v rfl (VS_lda (M := L_ref03_Book) (Pth.id (L := L_ref03_Book)) rfl rfl) ?_
            refine WL_v rfl (VS_call (c_ref03_Book_Issue hx43) rfl (fun _ _ _ => trivial)) ?_
            refine WL_v rfl (VS_move rfl) ?_
            refine WL_v rfl (VS_extract rfl rfl) ?_
            refine WL_v rfl (VS_extract rfl rfl) ?_
            refine WL_x rfl (RX_allocL (L := L_ref03_Book) (z := Z_ref03_Book) ⟨by kernel_rfl⟩) (fun b21 _ => ?_)
            refine WL_x0 (RX_st (M := L_ref03_Book) (Pth.id (L := L_ref03_Book)) x43.1 x43.1 rfl rfl rfl rfl rfl) (fun _ _ => ?_)
            refine WL_v rfl (VS_assign rfl) ?_
            refine WL_nil ?_
            refine WQ_then ?_
            refine WP_seq ?_
            refine WP_region ?_
            refine WL_v rfl (VS_lda (M := L_handle_Book) (Pth.id (L := L_handle_Book)) rfl rfl) ?_
            refine WL_x0 (RX_st (M := L_handle_Book) (Pth.id (L := L_handle_Book)) x42.1 x42.1 rfl rfl rfl rfl rfl) (fun _ _ => ?_)
            refine WL_nil ?_
            refine WQ_then ?_
            refine WP_seq ?_
            refine WP_region ?_
            refine WL_v rfl (VS_lda (M := L_ref03_Book) (Pth.id (L := L_ref03_Book)) rfl rfl) ?_
            refine WL_x0 (RX_st (M := L_ref03_Book) (Pth.id (L := L_ref03_Book)) x43.1 x43.1 rfl rfl rfl rfl rfl) (fun _ _ => ?_)
            refine WL_nil ?_
            refine WQ_then ?_
            refine WP_seq ?_
            refine WP_region ?_
            refine WL_v rfl (VS_move rfl) ?_
            refine WL_v rfl (VS_move rfl) ?_
            refine WL_v rfl (VS_gtr rfl rfl) ?_
            refine WL_v rfl (VS_neqb rfl rfl) ?_
            refine WL_v rfl (VS_move rfl) ?_
            refine WL_g (Gd_b rfl rfl) rfl (fun hb => VS_move rfl) ?_
            refine WL_g (Gd_b rfl rfl) rfl (fun hb => VS_conv (gev rfl hb) rfl) ?_
            refine WL_g (Gd_b rfl rfl) rfl (fun hb => VS_move rfl) ?_
            refine WL_g (Gd_b rfl rfl) rfl (fun hb => VS_neq (gev rfl hb) (gev rfl hb)) ?_
            refine WL_v rfl (VS_or rfl rfl) ?_
            refine WL_nil ?_
            refine WQ_then ?_
            refine WP_if rfl (fun hc => ?_) (fun hc => ?_)
            ·
              replace h := cn_t hc h
              refine WP_seq ?_
              refine WP_region ?_
              refine WL_v rfl (VS_assign rfl) ?_
              refine WL_nil ?_
              refine WQ_then ?_
              refine WP_ret ?_
              refine WQ_block_ret ?_
              refine WQ_then_ret ?_
              refine WQ_then_ret ?_
              refine WQ_block_ret ?_
              refine WQ_then_ret ?_
              replace h := Option.some.inj h
              subst h
              exact WQ_ret () rfl (.tmp rfl .nil) trivial rfl (ks := []) rfl (by decide)
            ·
              replace h := cn_f hc h
              refine WP_skip ?_
              refine WQ_block ?_
              refine WQ_then ?_
              refine WP_region ?_
              refine WL_v rfl (VS_move rfl) ?_
              refine WL_v rfl (VS_add rfl rfl rfl) ?_
              refine WL_v rfl (VS_assign rfl) ?_
              refine WL_nil ?_
              exact WQ_loops (m32, wr .i64 (x28 + 1), x43.1, x42.1) (Nat.lt_succ_self _) h (Sub_cons rfl (Sub_nil)) (.cons rfl (.cons rfl (.cons rfl (.cons rfl (.cons rfl (.cons rfl (.nil))))))) (ks := [3, 4, 5, 6]) rfl (by decide)
      ·
        replace h := cn_f hc h
        refine WP_exit ?_
        refine WQ_then_exit ?_
        refine WQ_then_exit ?_
        refine WQ_block_exit ?_
        refine WQ_then ?_
        refine WP_seq ?_
        obtain ⟨x44, hx44, h⟩ := bd_e h
        refine WP_region ?_
        refine WL_v rfl (VS_move rfl) ?_
        refine WL_v rfl (VS_call (c_handle_Handle_Slot hx44) rfl (fun _ _ _ => trivial)) ?_
        refine WL_v rfl (VS_move rfl) ?_
        refine WL_v rfl (VS_extract rfl rfl) ?_
        refine WL_v rfl (VS_extract rfl rfl) ?_
        refine WL_v rfl (VS_assign rfl) ?_
        refine WL_v rfl (VS_assign rfl) ?_
        refine WL_nil ?_
        refine WQ_then ?_
        refine WP_seq ?_
        refine WP_region ?_
        refine WL_v rfl (VS_move rfl) ?_
        refine WL_v rfl (VS_rem rfl rfl (by decide) rfl) ?_
        refine WL_v rfl (VS_geq rfl rfl) ?_
        refine WL_v rfl (VS_move rfl) ?_
        refine WL_g (Gd_b rfl rfl) rfl (fun hb => VS_move rfl) ?_
        refine WL_g (Gd_b rfl rfl) rfl (fun hb => VS_rem (gev rfl hb) rfl (by decide) rfl) ?_
        refine WL_g (Gd_b rfl rfl) rfl (fun hb => VS_leq (gev rfl hb) rfl) ?_
        refine WL_v rfl (VS_and rfl rfl) ?_
        refine WL_v rfl (VS_move rfl) ?_
        refine WL_g (Gd_b rfl rfl) rfl (fun hb => VS_move rfl) ?_
        refine WL_g (Gd_b rfl rfl) rfl (fun hb => VS_quo (gev rfl hb) rfl (by decide) rfl) ?_
        refine WL_g (Gd_b rfl rfl) rfl (fun hb => VS_leq (gev rfl hb) rfl) ?_
        refine WL_v rfl (VS_and rfl rfl) ?_
        refine WL_v rfl (VS_assign rfl) ?_
        refine WL_nil ?_
        refine WQ_then ?_
        refine WP_seq ?_
        obtain ⟨x45, hx45, h⟩ := bd_e h
        obtain ⟨x46, hx46, _, h⟩ := cl_e h
        obtain ⟨x47, hx47, _, h⟩ := cl_e h
        obtain ⟨x48, hx48, _, h⟩ := cl_e h
        obtain ⟨x49, hx49, _, h⟩ := cl_e h
        refine WP_draw mixed (.stg [] [(0, [7]), (1, [8]), (2, [132, 133]), (3, [134]), (4, [9, 135]), (5, [10, 135]), (6, [135, 136, 137]), (7, [135, 138]), (8, [139]), (9, [7, 140]), (10, [2, 140]), (11, [140, 141, 142]), (12, [8, 140]), (13, [2, 140]), (14, [140, 145]), (15, [140, 144, 146]), (16, [140, 147]), (17, [140, 143, 148]), (18, [140, 149]), (19, [150]), (20, [24, 151]), (21, [25, 151]), (22, [151, 152, 153]), (23, [151, 154]), (24, [155]), (25, [25, 156]), (26, [156, 157]), (27, [23, 158]), (28, [2, 158]), (29, [158, 160]), (30, [158, 161]), (31, [158, 162]), (32, [158, 159, 163]), (33, [156, 158, 164]), (34, [156, 165]), (35, [25, 166]), (36, [166, 167]), (37, [166, 168]), (38, [23, 169]), (39, [169, 170]), (40, [166, 169, 171]), (41, [156, 166, 172]), (42, [156, 173]), (43, [174]), (44, [175]), (45, [175, 176])] (.alt 46 [177] (.fin [] []) .no)) (by kernel_rfl) ?_
        refine Stg_stg ?_ ?_
        · exact ReOk_nil
        refine NewOk_cons rfl rfl (VG_v rfl (VS_lda (M := L_handle_Book) (Pth.id (L := L_handle_Book)) rfl rfl)) ?_
        refine NewOk_cons rfl rfl (VG_v rfl (VS_lda (M := L_ref03_Book) (Pth.id (L := L_ref03_Book)) rfl rfl)) ?_
        refine NewOk_cons rfl rfl (VG_v rfl (VS_call (c_law03_same hx45) rfl (fun _ _ _ => trivial))) ?_
        refine NewOk_cons rfl rfl (VG_v rfl (VS_move rfl)) ?_
        refine NewOk_cons rfl rfl (VG_g (Gd_b rfl rfl) (fun hb => VS_lda (M := L_handle_Book) (Pth.id (L := L_handle_Book)) rfl rfl)) ?_
        refine NewOk_cons rfl rfl (VG_g (Gd_b rfl rfl) (fun hb => VS_lda (M := L_ref03_Book) (Pth.id (L := L_ref03_Book)) rfl rfl)) ?_
        refine NewOk_cons rfl rfl (VG_g (Gd_b rfl rfl) (fun hb => VS_call (c_law03_same (hx46 hb)) (evs_cons (gev rfl hb) (evs_cons (gev rfl hb) rfl)) (fun _ _ _ => trivial))) ?_
        refine NewOk_cons rfl rfl (VG_v rfl (VS_and rfl rfl)) ?_
        refine NewOk_cons rfl rfl (VG_v rfl (VS_move rfl)) ?_
        refine NewOk_cons rfl rfl (VG_g (Gd_b rfl rfl) (fun hb => VS_lda (M := L_handle_Book) (Pth.id (L := L_handle_Book)) rfl rfl)) ?_
        refine NewOk_cons rfl rfl (VG_g (Gd_b rfl rfl) (fun hb => VS_move rfl)) ?_
        refine NewOk_cons rfl rfl (VG_g (Gd_b rfl rfl) (fun hb => VS_call (c_handle_Book_Good (hx47 hb)) (evs_cons (gev rfl hb) (evs_cons (gev rfl hb) rfl)) (fun _ _ _ => trivial))) ?_
        refine NewOk_cons rfl rfl (VG_g (Gd_b rfl rfl) (fun hb => VS_lda (M := L_ref03_Book) (Pth.id (L := L_ref03_Book)) rfl rfl)) ?_
        refine NewOk_cons rfl rfl (VG_g (Gd_b rfl rfl) (fun hb => VS_move rfl)) ?_
        refine NewOk_cons rfl rfl (VG_g (Gd_b rfl rfl) (fun hb => VS_conv (gev rfl hb) rfl)) ?_
        refine NewOk_cons rfl rfl (VG_g (Gd_b rfl rfl) (fun hb => VS_call (c_ref03_Book_Slot (hx48 hb)) (evs_cons (gev rfl hb) (evs_cons (gev rfl hb) rfl)) (fun _ _ _ => trivial))) ?_
        refine NewOk_cons rfl rfl (VG_g (Gd_b rfl rfl) (fun hb => VS_geq (gev rfl hb) rfl)) ?_
        refine NewOk_cons rfl rfl (VG_g (Gd_b rfl rfl) (fun hb => VS_eqlb (gev rfl hb) (gev rfl hb))) ?_
        refine NewOk_cons rfl rfl (VG_v rfl (VS_and rfl rfl)) ?_
        refine NewOk_cons rfl rfl (VG_v rfl (VS_move rfl)) ?_
        refine NewOk_cons rfl rfl (VG_g (Gd_b rfl rfl) (fun hb => VS_move rfl)) ?_
        refine NewOk_cons rfl rfl (VG_g (Gd_b rfl rfl) (fun hb => VS_move rfl)) ?_
        refine NewOk_cons rfl rfl (VG_g (Gd_b rfl rfl) (fun hb => VS_eqlb (gev rfl hb) (gev rfl hb))) ?_
        refine NewOk_cons rfl rfl (VG_v rfl (VS_and rfl rfl)) ?_
        refine NewOk_cons rfl rfl (VG_v rfl (VS_move rfl)) ?_
        refine NewOk_cons rfl rfl (VG_g (Gd_b rfl rfl) (fun hb => VS_move rfl)) ?_
        refine NewOk_cons rfl rfl (VG_g (Gd_b rfl rfl) (fun hb => VS_move (gev rfl hb))) ?_
        refine NewOk_cons rfl rfl (VG_g (Gd_g rfl rfl) (fun hb => VS_move rfl)) ?_
        refine NewOk_cons rfl rfl (VG_g (Gd_g rfl rfl) (fun hb => VS_move rfl)) ?_
        refine NewOk_cons rfl rfl (VG_g (Gd_g rfl rfl) (fun hb => VS_rem (gev rfl hb) rfl (by decide) rfl)) ?_
        refine NewOk_cons rfl rfl (VG_g (Gd_g rfl rfl) (fun hb => VS_conv (gev rfl hb) rfl)) ?_
        refine NewOk_cons rfl rfl (VG_g (Gd_g rfl rfl) (fun hb => VS_sub (gev rfl hb) rfl rfl)) ?_
        refine NewOk_cons rfl rfl (VG_g (Gd_g rfl rfl) (fun hb => VS_eql (gev rfl hb) (gev rfl hb))) ?_
        refine NewOk_cons rfl rfl (VG_g (Gd_b rfl rfl) (fun hb => VS_and (gev rfl hb) (gev2 rfl hb))) ?_
        refine NewOk_cons rfl rfl (VG_g (Gd_b rfl rfl) (fun hb => VS_move (gev rfl hb))) ?_
        refine NewOk_cons rfl rfl (VG_g (Gd_g rfl rfl) (fun hb => VS_move rfl)) ?_
        refine NewOk_cons rfl rfl (VG_g (Gd_g rfl rfl) (fun hb => VS_not (gev rfl hb))) ?_
        refine NewOk_cons rfl rfl (VG_g (Gd_g rfl rfl) (fun hb => VS_move (gev rfl hb))) ?_
        refine NewOk_cons rfl rfl (VG_g (Gd_g rfl rfl) (fun hb => VS_move rfl)) ?_
        refine NewOk_cons rfl rfl (VG_g (Gd_g rfl rfl) (fun hb => VS_eql (gev rfl hb) rfl)) ?_
        refine NewOk_cons rfl rfl (VG_g (Gd_g rfl rfl) (fun hb => VS_and (gev rfl hb) (gev2 rfl hb))) ?_
        refine NewOk_cons rfl rfl (VG_g (Gd_b rfl rfl) (fun hb => VS_or (gev rfl hb) (gev2 rfl hb))) ?_
        refine NewOk_cons rfl rfl (VG_v rfl (VS_and rfl rfl)) ?_
        refine NewOk_cons rfl rfl (VG_v rfl (VS_move rfl)) ?_
        refine NewOk_cons rfl rfl (VG_g (Gd_b rfl rfl) (fun hb => VS_call (c_law03_wakes (hx49 hb)) rfl (fun _ _ _ => trivial))) ?_
        refine NewOk_cons rfl rfl (VG_v rfl (VS_and rfl rfl)) ?_
        refine NewOk_nil ?_
        refine Stg_some rfl rfl (RG_x rfl ((VS_assign rfl).rx)) (fun _ _ => ?_) Stg_no
        refine Stg_fin ?_ ?_
        · exact ReOk_nil
        refine NewOk_nil ?_
        refine WQ_then ?_
        refine WP_ret ?_
        replace h := Option.some.inj h
        subst h
        exact WQ_ret () rfl (.tmp rfl .nil) trivial rfl (ks := []) rfl (by decide)
end Go.Proofs.Ytcdnmiianjaglaa
