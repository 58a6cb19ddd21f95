/- Decompiled: bailiwickref03. -/
import Derived.Test.YtmdpbdhkmfjlhaaDHandle
namespace Go.Proofs.Ytmdpbdhkmfjlhaa
open Go Go.Bw
structure ref03_Book where
  Gen : (Nat → Int)
  Is : (Nat → Int)
abbrev L_ref03_Book : Lay ref03_Book := Lay.via (LP (LA (LI .i64) 32) (LA (LI .i64) 32)) (fun x => (x.Gen, x.Is))
abbrev Z_ref03_Book : ref03_Book := ⟨(fun _ => 0), (fun _ => 0)⟩
instance : Inhabited ref03_Book := ⟨Z_ref03_Book⟩
theorem P_ref03_Book_Gen : Pth L_ref03_Book (LA (LI .i64) 32) 0 (fun x => x.Gen) (fun x v => { x with Gen := v }) := (Pth.fst Pth.id).via _ _ _ 0 rfl (fun _ => rfl) (fun _ _ => rfl)
theorem P_ref03_Book_Is : Pth L_ref03_Book (LA (LI .i64) 32) 32 (fun x => x.Is) (fun x v => { x with Is := v }) := (Pth.snd Pth.id).via _ _ _ 32 rfl (fun _ => rfl) (fun _ _ => rfl)
def ref03_Aged (n : Nat) (a0 : (List Int)) : Option ref03_Book :=
  loop2 (fun k28 (x24 : Int) (x25 : ref03_Book) =>
  cn ((decide (x24 < 32) && decide (x24 < (a0.length : Int)))) (
  gu (inb x24 a0.length) <|
  gu (inb x24 32) <|
  lt ({ x25 with Gen := (upd x25.Gen (Int.toNat x24) (if 8388607 < wr .i64 (a0.getD (Int.toNat x24) default) then 8388607 else wr .i64 (a0.getD (Int.toNat x24) default))) } : ref03_Book) fun x31 =>
  k28 (wr .i64 (x24 + 1)) x31) (
  some x25)) n 0 Z_ref03_Book
theorem c_ref03_Aged {n : Nat} {a0 : (List Int)} {r : ref03_Book} {K : World → Prop} [Stable K] {v0 : Value} (f0 : Fz K v0 (LI .u32) a0) (h : ref03_Aged n a0 = some r) : FnW Try.prog 41 [v0] K (.agg (L_ref03_Book.enc r).toArray) := by
  unfold ref03_Aged at h
  refine fn_of Try.func41 (by kernel_rfl) rfl Try.ntmps41 rfl (fun cx hbs hpre hro => ?_)
  haveI := knf_pre hbs hpre
  refine WP_seq ?_
  refine WP_region ?_
  refine WL_x rfl (RX_allocL (L := L_ref03_Book) (z := Z_ref03_Book) ⟨by kernel_rfl⟩) (fun b2 _ => ?_)
  refine WL_nil ?_
  refine WQ_then ?_
  refine WP_seq ?_
  refine WP_region ?_
  refine WL_x rfl (RX_allocL (L := L_ref03_Book) (z := Z_ref03_Book) ⟨by kernel_rfl⟩) (fun b3 _ => ?_)
  refine WL_nil ?_
  refine WQ_then ?_
  refine WP_seq ?_
  refine WP_seq ?_
  refine WP_region ?_
  refine WL_v rfl (VS_assign rfl) ?_
  refine WL_nil ?_
  refine WQ_then ?_
  refine WP_block ?_
  obtain ⟨lb26, hlb26, h⟩ := lp2_i h
  refine WP_loops (α := Nat × Int × ref03_Book) [0, 2, 3] (.cons rfl (.cons rfl (.cons rfl (.nil)))) (fun (m27, x24, x25) => [(4, .int .i64 x24)]) (fun (m27, x24, x25) => [.cells b3 101 (L_ref03_Book.enc x25), .cells b2 101 (L_ref03_Book.enc Z_ref03_Book)]) (fun (m27, x24, x25) => loop2 lb26 m27 x24 x25 = some r) (fun (m27, x24, x25) => m27) (n, 0, Z_ref03_Book) h (Sub_cons rfl (Sub_nil)) (ks := [0, 1]) rfl (by decide) ?_
  rintro ⟨m27, x24, x25⟩ h
  replace h : loop2 lb26 m27 x24 x25 = some r := h
  replace h := lp2_s hlb26 h
  obtain ⟨m27, rfl, h⟩ := h
  refine WP_seq ?_
  refine WP_seq ?_
  refine WP_region ?_
  refine WL_v rfl (VS_move rfl) ?_
  refine WL_v rfl (VS_lss rfl rfl) ?_
  refine WL_v rfl (VS_move rfl) ?_
  refine WL_g (Gd_b rfl rfl) rfl (fun hb => VS_move rfl) ?_
  refine WL_g (Gd_b rfl rfl) rfl (fun hb => VS_move rfl) ?_
  refine WL_g (Gd_b rfl rfl) rfl (fun hb => VS_lenF f0 (gev rfl hb)) ?_
  refine WL_g (Gd_b rfl rfl) rfl (fun hb => VS_lss (gev rfl hb) (gev rfl hb)) ?_
  refine WL_v rfl (VS_and rfl rfl) ?_
  refine WL_nil ?_
  refine WQ_then ?_
  refine WP_if rfl (fun hc => ?_) (fun hc => ?_)
  ·
    replace h := cn_t hc h
    refine WP_skip ?_
    refine WQ_then ?_
    refine WP_seq ?_
    refine WP_block ?_
    obtain ⟨hg29, h⟩ := gu_e h
    obtain ⟨hg30, h⟩ := gu_e h
    obtain ⟨x31, hx31, h⟩ := lt_e h
    refine WP_region ?_
    refine WL_v rfl (VS_move rfl) ?_
    refine WL_v rfl (VS_move rfl) ?_
    refine WL_v rfl (VS_move rfl) ?_
    refine WL_v rfl (VS_ixF (m := (Int.toNat x24)) f0 rfl rfl rfl (inb_e hg29).1 (inb_e hg29).2) ?_
    refine WL_v rfl (VS_ldiF f0 (Pth.idx (L := (LI .u32)) (m := (a0.length)) (k := 1) ((Int.toNat x24)) (inb_e hg29).2 rfl) rfl) ?_
    refine WL_v rfl (VS_conv rfl rfl) ?_
    refine WL_v rfl (VS_min rfl rfl) ?_
    refine WL_v rfl (VS_field0 rfl) ?_
    refine WL_v rfl (VS_index0 (m := (Int.toNat x24)) rfl rfl (inb_e hg30).1 (inb_e hg30).2) ?_
    refine WL_x0 (RX_st (M := (LI .i64)) (P_ref03_Book_Gen.c0 (Pth.idx (L := (LI .i64)) (m := 32) (k := 1) ((Int.toNat x24)) (inb_e hg30).2 rfl)) (if 8388607 < wr .i64 (a0.getD (Int.toNat x24) default) then 8388607 else wr .i64 (a0.getD (Int.toNat x24) default)) x31 hx31 rfl rfl rfl rfl) (fun _ _ => ?_)
    refine WL_nil ?_
    refine WQ_block ?_
    refine WQ_then ?_
    refine WP_region ?_
    refine WL_v rfl (VS_move rfl) ?_
    refine WL_v rfl (VS_add rfl rfl rfl) ?_
    refine WL_v rfl (VS_assign rfl) ?_
    refine WL_nil ?_
    exact WQ_loops (m27, wr .i64 (x24 + 1), x31) (Nat.lt_succ_self _) h (Sub_cons rfl (Sub_nil)) (.cons rfl (.cons rfl (.cons rfl (.nil)))) (ks := [0, 1]) rfl (by decide)
  ·
    replace h := cn_f hc h
    refine WP_exit ?_
    refine WQ_then_exit ?_
    refine WQ_then_exit ?_
    refine WQ_block_exit ?_
    refine WQ_then ?_
    refine WP_seq ?_
    refine WP_region ?_
    refine WL_v rfl (VS_lda (M := L_ref03_Book) (Pth.id (L := L_ref03_Book)) rfl rfl) ?_
    refine WL_x0 (RX_st (M := L_ref03_Book) (Pth.id (L := L_ref03_Book)) x25 x25 rfl rfl rfl rfl rfl) (fun _ _ => ?_)
    refine WL_nil ?_
    refine WQ_then ?_
    refine WP_ret ?_
    replace h := Option.some.inj h
    subst h
    exact WQ_ret () rfl (.agg rfl inferInstance inferInstance (enc_len _ _) .nil) trivial rfl (ks := []) rfl (by decide)
def ref03_Book_Of (n : Nat) (a0 : ref03_Book) (a1 : Int) : Option Int :=
  gu (inb a1 32) <|
  some (wr .i64 ((wr .i64 (a1 + (wr .i64 (256 * (a0.Gen (Int.toNat a1)))))) + 1))
theorem c_ref03_Book_Of {n : Nat} {a0 : ref03_Book} {a1 : Int} {r : Int}  (h : ref03_Book_Of n a0 a1 = some r) : FnV Try.prog 122 [.agg (L_ref03_Book.enc a0).toArray, .int .i64 a1] (.int .i64 r) := by
  unfold ref03_Book_Of at h
  refine fn_of Try.func122 (by kernel_rfl) rfl Try.ntmps122 rfl (fun cx hbs hpre hro => ?_)
  refine WP_seq ?_
  refine WP_region ?_
  refine WL_x rfl (RX_boxL L_ref03_Book a0 rfl rfl) (fun b2 _ => ?_)
  refine WL_v rfl (VS_assign rfl) ?_
  refine WL_nil ?_
  refine WQ_then ?_
  refine WP_seq ?_
  obtain ⟨hg21, h⟩ := gu_e h
  refine WP_region ?_
  refine WL_v rfl (VS_move rfl) ?_
  refine WL_v rfl (VS_move rfl) ?_
  refine WL_v rfl (VS_field0 rfl) ?_
  refine WL_v rfl (VS_index0 (m := (Int.toNat a1)) rfl rfl (inb_e hg21).1 (inb_e hg21).2) ?_
  refine WL_v rfl (VS_ldi (P_ref03_Book_Gen.c0 (Pth.idx (L := (LI .i64)) (m := 32) (k := 1) ((Int.toNat a1)) (inb_e hg21).2 rfl)) rfl) ?_
  refine WL_v rfl (VS_mul rfl rfl rfl) ?_
  refine WL_v rfl (VS_add rfl rfl rfl) ?_
  refine WL_v rfl (VS_add rfl rfl rfl) ?_
  refine WL_v rfl (VS_assign rfl) ?_
  refine WL_nil ?_
  refine WQ_then ?_
  refine WP_ret ?_
  replace h := Option.some.inj h
  subst h
  exact WQ_ret () rfl (.tmp rfl .nil) trivial rfl (ks := []) rfl (by decide)
def ref03_Book_Slot (n : Nat) (a0 : ref03_Book) (a1 : Int) : Option Int :=
  loop1 (fun k25 (x22 : Int) =>
  cn (decide (x22 < 32)) (
  gu (inb x22 32) <|
  cl (((a0.Is (Int.toNat x22)) == 1) == true) (ref03_Book_Of n a0 x22) default fun x27 =>
  cn ((((a0.Is (Int.toNat x22)) == 1) && (x27 == a1))) (
  some x22) (
  k25 (wr .i64 (x22 + 1)))) (
  some (-1))) n 0
theorem c_ref03_Book_Slot {n : Nat} {a0 : ref03_Book} {a1 : Int} {r : Int}  (h : ref03_Book_Slot n a0 a1 = some r) : FnV Try.prog 117 [.agg (L_ref03_Book.enc a0).toArray, .int .i64 a1] (.int .i64 r) := by
  unfold ref03_Book_Slot at h
  refine fn_of Try.func117 (by kernel_rfl) rfl Try.ntmps117 rfl (fun cx hbs hpre hro => ?_)
  refine WP_seq ?_
  refine WP_region ?_
  refine WL_x rfl (RX_boxL L_ref03_Book a0 rfl rfl) (fun b2 _ => ?_)
  refine WL_v rfl (VS_assign rfl) ?_
  refine WL_nil ?_
  refine WQ_then ?_
  refine WP_seq ?_
  refine WP_seq ?_
  refine WP_region ?_
  refine WL_v rfl (VS_assign rfl) ?_
  refine WL_nil ?_
  refine WQ_then ?_
  refine WP_block ?_
  obtain ⟨lb23, hlb23, h⟩ := lp1_i h
  refine WP_loops (α := Nat × Int) [1, 2] (.cons rfl (.cons rfl (.nil))) (fun (m24, x22) => [(5, .int .i64 x22)]) (fun (m24, x22) => [.cells b2 101 (L_ref03_Book.enc a0)]) (fun (m24, x22) => loop1 lb23 m24 x22 = some r) (fun (m24, x22) => m24) (n, 0) h (Sub_cons rfl (Sub_nil)) (ks := [0]) rfl (by decide) ?_
  rintro ⟨m24, x22⟩ h
  replace h : loop1 lb23 m24 x22 = some r := h
  replace h := lp1_s hlb23 h
  obtain ⟨m24, rfl, h⟩ := h
  refine WP_seq ?_
  refine WP_seq ?_
  refine WP_region ?_
  refine WL_v rfl (VS_move rfl) ?_
  refine WL_v rfl (VS_lss rfl rfl) ?_
  refine WL_nil ?_
  refine WQ_then ?_
  refine WP_if rfl (fun hc => ?_) (fun hc => ?_)
  ·
    replace h := cn_t hc h
    refine WP_skip ?_
    refine WQ_then ?_
    refine WP_seq ?_
    refine WP_block ?_
    refine WP_seq ?_
    obtain ⟨hg26, h⟩ := gu_e h
    obtain ⟨x27, hx27, _, h⟩ := cl_e h
    refine WP_region ?_
    refine WL_v rfl (VS_move rfl) ?_
    refine WL_v rfl (VS_field0 rfl) ?_
    refine WL_v rfl (VS_index (m := (Int.toNat x22)) rfl rfl (inb_e hg26).1 (inb_e hg26).2) ?_
    refine WL_v rfl (VS_ldi (P_ref03_Book_Is.comp (Pth.idx (L := (LI .i64)) (m := 32) (k := 1) ((Int.toNat x22)) (inb_e hg26).2 rfl)) rfl) ?_
    refine WL_v rfl (VS_eql rfl rfl) ?_
    refine WL_v rfl (VS_move rfl) ?_
    refine WL_g (Gd_b rfl rfl) rfl (fun hb => VS_lda (M := L_ref03_Book) (Pth.id (L := L_ref03_Book)) rfl rfl) ?_
    refine WL_g (Gd_b rfl rfl) rfl (fun hb => VS_move rfl) ?_
    refine WL_g (Gd_b rfl rfl) rfl (fun hb => VS_call (c_ref03_Book_Of (hx27 hb)) (evs_cons (gev rfl hb) (evs_cons (gev rfl hb) rfl)) (fun _ _ _ => trivial)) ?_
    refine WL_g (Gd_b rfl rfl) rfl (fun hb => VS_move rfl) ?_
    refine WL_g (Gd_b rfl rfl) rfl (fun hb => VS_eql (gev rfl hb) (gev rfl hb)) ?_
    refine WL_v rfl (VS_and rfl rfl) ?_
    refine WL_nil ?_
    refine WQ_then ?_
    refine WP_if rfl (fun hc => ?_) (fun hc => ?_)
    ·
      replace h := cn_t hc h
      refine WP_seq ?_
      refine WP_region ?_
      refine WL_v rfl (VS_move rfl) ?_
      refine WL_v rfl (VS_assign rfl) ?_
      refine WL_nil ?_
      refine WQ_then ?_
      refine WP_ret ?_
      refine WQ_block_ret ?_
      refine WQ_then_ret ?_
      refine WQ_then_ret ?_
      refine WQ_block_ret ?_
      refine WQ_then_ret ?_
      replace h := Option.some.inj h
      subst h
      exact WQ_ret () rfl (.tmp rfl .nil) trivial rfl (ks := []) rfl (by decide)
    ·
      replace h := cn_f hc h
      refine WP_skip ?_
      refine WQ_block ?_
      refine WQ_then ?_
      refine WP_region ?_
      refine WL_v rfl (VS_move rfl) ?_
      refine WL_v rfl (VS_add rfl rfl rfl) ?_
      refine WL_v rfl (VS_assign rfl) ?_
      refine WL_nil ?_
      exact WQ_loops (m24, wr .i64 (x22 + 1)) (Nat.lt_succ_self _) h (Sub_cons rfl (Sub_nil)) (.cons rfl (.cons rfl (.nil))) (ks := [0]) rfl (by decide)
  ·
    replace h := cn_f hc h
    refine WP_exit ?_
    refine WQ_then_exit ?_
    refine WQ_then_exit ?_
    refine WQ_block_exit ?_
    refine WQ_then ?_
    refine WP_seq ?_
    refine WP_region ?_
    refine WL_v rfl (VS_assign rfl) ?_
    refine WL_nil ?_
    refine WQ_then ?_
    refine WP_ret ?_
    replace h := Option.some.inj h
    subst h
    exact WQ_ret () rfl (.tmp rfl .nil) trivial rfl (ks := []) rfl (by decide)
def ref03_Book_Void (n : Nat) (a0 : ref03_Book) (a1 : Int) : Option (ref03_Book × Bool) :=
  bd (ref03_Book_Slot n a0 a1) fun x21 =>
  cn (decide (x21 < 0)) (
  some (a0, false)) (
  gu (inb x21 32) <|
  lt ({ a0 with Is := (upd a0.Is (Int.toNat x21) 0) } : ref03_Book) fun x23 =>
  gu (inb x21 32) <|
  cn (((x23.Gen (Int.toNat x21)) == 8388607)) (
  gu (inb x21 32) <|
  lt ({ x23 with Is := (upd x23.Is (Int.toNat x21) 2) } : ref03_Book) fun x26 =>
  some (x26, true)) (
  gu (inb x21 32) <|
  gu (inb x21 32) <|
  lt ({ x23 with Gen := (upd x23.Gen (Int.toNat x21) (wr .i64 ((x23.Gen (Int.toNat x21)) + 1))) } : ref03_Book) fun x29 =>
  some (x29, true)))
theorem c_ref03_Book_Void {n : Nat} {a0 : ref03_Book} {a1 : Int} {r : ref03_Book × Bool}  (h : ref03_Book_Void n a0 a1 = some r) : FnV Try.prog 153 [.agg (L_ref03_Book.enc a0).toArray, .int .i64 a1] (.tuple #[.agg (L_ref03_Book.enc r.1).toArray, .bool r.2]) := by
  unfold ref03_Book_Void at h
  refine fn_of Try.func153 (by kernel_rfl) rfl Try.ntmps153 rfl (fun cx hbs hpre hro => ?_)
  refine WP_seq ?_
  refine WP_region ?_
  refine WL_x rfl (RX_boxL L_ref03_Book a0 rfl rfl) (fun b2 _ => ?_)
  refine WL_x rfl (RX_allocL (L := L_ref03_Book) (z := Z_ref03_Book) ⟨by kernel_rfl⟩) (fun b4 _ => ?_)
  refine WL_v rfl (VS_assign rfl) ?_
  refine WL_nil ?_
  refine WQ_then ?_
  refine WP_seq ?_
  obtain ⟨x21, hx21, h⟩ := bd_e h
  refine WP_region ?_
  refine WL_v rfl (VS_lda (M := L_ref03_Book) (Pth.id (L := L_ref03_Book)) rfl rfl) ?_
  refine WL_v rfl (VS_move rfl) ?_
  refine WL_v rfl (VS_call (c_ref03_Book_Slot hx21) rfl (fun _ _ _ => trivial)) ?_
  refine WL_v rfl (VS_assign rfl) ?_
  refine WL_nil ?_
  refine WQ_then ?_
  refine WP_seq ?_
  refine WP_seq ?_
  refine WP_region ?_
  refine WL_v rfl (VS_move rfl) ?_
  refine WL_v rfl (VS_lss rfl rfl) ?_
  refine WL_nil ?_
  refine WQ_then ?_
  refine WP_if rfl (fun hc => ?_) (fun hc => ?_)
  ·
    replace h := cn_t hc h
    refine WP_seq ?_
    refine WP_region ?_
    refine WL_v rfl (VS_lda (M := L_ref03_Book) (Pth.id (L := L_ref03_Book)) rfl rfl) ?_
    refine WL_x0 (RX_st (M := L_ref03_Book) (Pth.id (L := L_ref03_Book)) a0 a0 rfl rfl rfl rfl rfl) (fun _ _ => ?_)
    refine WL_v rfl (VS_assign rfl) ?_
    refine WL_nil ?_
    refine WQ_then ?_
    refine WP_ret ?_
    refine WQ_then_ret ?_
    replace h := Option.some.inj h
    subst h
    exact WQ_ret () rfl (.agg rfl inferInstance inferInstance (enc_len _ _) (.tmp rfl .nil)) trivial rfl (ks := []) rfl (by decide)
  ·
    replace h := cn_f hc h
    refine WP_skip ?_
    refine WQ_then ?_
    refine WP_seq ?_
    obtain ⟨hg22, h⟩ := gu_e h
    obtain ⟨x23, hx23, h⟩ := lt_e h
    refine WP_region ?_
    refine WL_v rfl (VS_move rfl) ?_
    refine WL_v rfl (VS_field0 rfl) ?_
    refine WL_v rfl (VS_index (m := (Int.toNat x21)) rfl rfl (inb_e hg22).1 (inb_e hg22).2) ?_
    refine WL_x0 (RX_st (M := (LI .i64)) (P_ref03_Book_Is.comp (Pth.idx (L := (LI .i64)) (m := 32) (k := 1) ((Int.toNat x21)) (inb_e hg22).2 rfl)) 0 x23 hx23 rfl rfl rfl rfl) (fun _ _ => ?_)
    refine WL_nil ?_
    refine WQ_then ?_
    refine WP_seq ?_
    refine WP_seq ?_
    obtain ⟨hg24, h⟩ := gu_e h
    refine WP_region ?_
    refine WL_v rfl (VS_move rfl) ?_
    refine WL_v rfl (VS_field0 rfl) ?_
    refine WL_v rfl (VS_index0 (m := (Int.toNat x21)) rfl rfl (inb_e hg24).1 (inb_e hg24).2) ?_
    refine WL_v rfl (VS_ldi (P_ref03_Book_Gen.c0 (Pth.idx (L := (LI .i64)) (m := 32) (k := 1) ((Int.toNat x21)) (inb_e hg24).2 rfl)) rfl) ?_
    refine WL_v rfl (VS_eql rfl rfl) ?_
    refine WL_nil ?_
    refine WQ_then ?_
    refine WP_if rfl (fun hc => ?_) (fun hc => ?_)
    ·
      replace h := cn_t hc h
      obtain ⟨hg25, h⟩ := gu_e h
      obtain ⟨x26, hx26, h⟩ := lt_e h
      refine WP_region ?_
      refine WL_v rfl (VS_move rfl) ?_
      refine WL_v rfl (VS_field0 rfl) ?_
      refine WL_v rfl (VS_index (m := (Int.toNat x21)) rfl rfl (inb_e hg25).1 (inb_e hg25).2) ?_
      refine WL_x0 (RX_st (M := (LI .i64)) (P_ref03_Book_Is.comp (Pth.idx (L := (LI .i64)) (m := 32) (k := 1) ((Int.toNat x21)) (inb_e hg25).2 rfl)) 2 x26 hx26 rfl rfl rfl rfl) (fun _ _ => ?_)
      refine WL_nil ?_
      refine WQ_then ?_
      refine WP_seq ?_
      refine WP_region ?_
      refine WL_v rfl (VS_lda (M := L_ref03_Book) (Pth.id (L := L_ref03_Book)) rfl rfl) ?_
      refine WL_x0 (RX_st (M := L_ref03_Book) (Pth.id (L := L_ref03_Book)) x26 x26 rfl rfl rfl rfl rfl) (fun _ _ => ?_)
      refine WL_v rfl (VS_assign rfl) ?_
      refine WL_nil ?_
      refine WQ_then ?_
      refine WP_ret ?_
      replace h := Option.some.inj h
      subst h
      exact WQ_ret () rfl (.agg rfl inferInstance inferInstance (enc_len _ _) (.tmp rfl .nil)) trivial rfl (ks := []) rfl (by decide)
    ·
      replace h := cn_f hc h
      obtain ⟨hg27, h⟩ := gu_e h
      obtain ⟨hg28, h⟩ := gu_e h
      obtain ⟨x29, hx29, h⟩ := lt_e h
      refine WP_region ?_
      refine WL_v rfl (VS_move rfl) ?_
      refine WL_v rfl (VS_move rfl) ?_
      refine WL_v rfl (VS_field0 rfl) ?_
      refine WL_v rfl (VS_index0 (m := (Int.toNat x21)) rfl rfl (inb_e hg27).1 (inb_e hg27).2) ?_
      refine WL_v rfl (VS_ldi (P_ref03_Book_Gen.c0 (Pth.idx (L := (LI .i64)) (m := 32) (k := 1) ((Int.toNat x21)) (inb_e hg27).2 rfl)) rfl) ?_
      refine WL_v rfl (VS_add rfl rfl rfl) ?_
      refine WL_v rfl (VS_field0 rfl) ?_
      refine WL_v rfl (VS_index0 (m := (Int.toNat x21)) rfl rfl (inb_e hg28).1 (inb_e hg28).2) ?_
      refine WL_x0 (RX_st (M := (LI .i64)) (P_ref03_Book_Gen.c0 (Pth.idx (L := (LI .i64)) (m := 32) (k := 1) ((Int.toNat x21)) (inb_e hg28).2 rfl)) (wr .i64 ((x23.Gen (Int.toNat x21)) + 1)) x29 hx29 rfl rfl rfl rfl) (fun _ _ => ?_)
      refine WL_nil ?_
      refine WQ_then ?_
      refine WP_seq ?_
      refine WP_region ?_
      refine WL_v rfl (VS_lda (M := L_ref03_Book) (Pth.id (L := L_ref03_Book)) rfl rfl) ?_
      refine WL_x0 (RX_st (M := L_ref03_Book) (Pth.id (L := L_ref03_Book)) x29 x29 rfl rfl rfl rfl rfl) (fun _ _ => ?_)
      refine WL_v rfl (VS_assign rfl) ?_
      refine WL_nil ?_
      refine WQ_then ?_
      refine WP_ret ?_
      replace h := Option.some.inj h
      subst h
      exact WQ_ret () rfl (.agg rfl inferInstance inferInstance (enc_len _ _) (.tmp rfl .nil)) trivial rfl (ks := []) rfl (by decide)
def ref03_Book_Issue (n : Nat) (a0 : ref03_Book) : Option (ref03_Book × Int) :=
  loop1 (fun k25 (x22 : Int) =>
  cn (decide (x22 < 32)) (
  gu (inb x22 32) <|
  cn (((a0.Is (Int.toNat x22)) == 0)) (
  gu (inb x22 32) <|
  lt ({ a0 with Is := (upd a0.Is (Int.toNat x22) 1) } : ref03_Book) fun x28 =>
  bd (ref03_Book_Of n x28 x22) fun x29 =>
  some (x28, x29)) (
  k25 (wr .i64 (x22 + 1)))) (
  some (a0, 0))) n 0
theorem c_ref03_Book_Issue {n : Nat} {a0 : ref03_Book} {r : ref03_Book × Int}  (h : ref03_Book_Issue n a0 = some r) : FnV Try.prog 155 [.agg (L_ref03_Book.enc a0).toArray] (.tuple #[.agg (L_ref03_Book.enc r.1).toArray, .int .i64 r.2]) := by
  unfold ref03_Book_Issue at h
  refine fn_of Try.func155 (by kernel_rfl) rfl Try.ntmps155 rfl (fun cx hbs hpre hro => ?_)
  refine WP_seq ?_
  refine WP_region ?_
  refine WL_x rfl (RX_boxL L_ref03_Book a0 rfl rfl) (fun b1 _ => ?_)
  refine WL_x rfl (RX_allocL (L := L_ref03_Book) (z := Z_ref03_Book) ⟨by kernel_rfl⟩) (fun b2 _ => ?_)
  refine WL_v rfl (VS_assign rfl) ?_
  refine WL_nil ?_
  refine WQ_then ?_
  refine WP_seq ?_
  refine WP_seq ?_
  refine WP_region ?_
  refine WL_v rfl (VS_assign rfl) ?_
  refine WL_nil ?_
  refine WQ_then ?_
  refine WP_block ?_
  obtain ⟨lb23, hlb23, h⟩ := lp1_i h
  refine WP_loops (α := Nat × Int) [1, 2] (.cons rfl (.cons rfl (.nil))) (fun (m24, x22) => [(4, .int .i64 x22)]) (fun (m24, x22) => [.cells b2 101 (L_ref03_Book.enc Z_ref03_Book), .cells b1 101 (L_ref03_Book.enc a0)]) (fun (m24, x22) => loop1 lb23 m24 x22 = some r) (fun (m24, x22) => m24) (n, 0) h (Sub_cons rfl (Sub_nil)) (ks := [0, 1]) rfl (by decide) ?_
  rintro ⟨m24, x22⟩ h
  replace h : loop1 lb23 m24 x22 = some r := h
  replace h := lp1_s hlb23 h
  obtain ⟨m24, rfl, h⟩ := h
  refine WP_seq ?_
  refine WP_seq ?_
  refine WP_region ?_
  refine WL_v rfl (VS_move rfl) ?_
  refine WL_v rfl (VS_lss rfl rfl) ?_
  refine WL_nil ?_
  refine WQ_then ?_
  refine WP_if rfl (fun hc => ?_) (fun hc => ?_)
  ·
    replace h := cn_t hc h
    refine WP_skip ?_
    refine WQ_then ?_
    refine WP_seq ?_
    refine WP_block ?_
    refine WP_seq ?_
    obtain ⟨hg26, h⟩ := gu_e h
    refine WP_region ?_
    refine WL_v rfl (VS_move rfl) ?_
    refine WL_v rfl (VS_field0 rfl) ?_
    refine WL_v rfl (VS_index (m := (Int.toNat x22)) rfl rfl (inb_e hg26).1 (inb_e hg26).2) ?_
    refine WL_v rfl (VS_ldi (P_ref03_Book_Is.comp (Pth.idx (L := (LI .i64)) (m := 32) (k := 1) ((Int.toNat x22)) (inb_e hg26).2 rfl)) rfl) ?_
    refine WL_v rfl (VS_eql rfl rfl) ?_
    refine WL_nil ?_
    refine WQ_then ?_
    refine WP_if rfl (fun hc => ?_) (fun hc => ?_)
    ·
      replace h := cn_t hc h
      refine WP_seq ?_
      obtain ⟨hg27, h⟩ := gu_e h
      obtain ⟨x28, hx28, h⟩ := lt_e h
      refine WP_region ?_
      refine WL_v rfl (VS_move rfl) ?_
      refine WL_v rfl (VS_field0 rfl) ?_
      refine WL_v rfl (VS_index (m := (Int.toNat x22)) rfl rfl (inb_e hg27).1 (inb_e hg27).2) ?_
      refine WL_x0 (RX_st (M := (LI .i64)) (P_ref03_Book_Is.comp (Pth.idx (L := (LI .i64)) (m := 32) (k := 1) ((Int.toNat x22)) (inb_e hg27).2 rfl)) 1 x28 hx28 rfl rfl rfl rfl) (fun _ _ => ?_)
      refine WL_nil ?_
      refine WQ_then ?_
      refine WP_seq ?_
      obtain ⟨x29, hx29, h⟩ := bd_e h
      refine WP_draw mixed (.stg [] [(0, [1]), (1, [1]), (2, [4]), (3, [18, 19])] (.alt 4 [2, 17] (.stg [] [] (.alt 5 [20] (.fin [] []) .no)) .no)) (by kernel_rfl) ?_
      refine Stg_stg ?_ ?_
      · exact ReOk_nil
      refine NewOk_cons rfl rfl (VG_v rfl (VS_lda (M := L_ref03_Book) (Pth.id (L := L_ref03_Book)) rfl rfl)) ?_
      refine NewOk_cons rfl rfl (VG_v rfl (VS_lda (M := L_ref03_Book) (Pth.id (L := L_ref03_Book)) rfl rfl)) ?_
      refine NewOk_cons rfl rfl (VG_v rfl (VS_move rfl)) ?_
      refine NewOk_cons rfl rfl (VG_v rfl (VS_call (c_ref03_Book_Of hx29) rfl (fun _ _ _ => trivial))) ?_
      refine NewOk_nil ?_
      refine Stg_none rfl (RG_x rfl (RX_st (M := L_ref03_Book) (Pth.id (L := L_ref03_Book)) x28 x28 rfl rfl rfl rfl rfl)) (fun _ _ => ?_) Stg_no
      refine Stg_stg ?_ ?_
      · exact ReOk_nil
      refine NewOk_nil ?_
      refine Stg_some rfl rfl (RG_x rfl ((VS_assign rfl).rx)) (fun _ _ => ?_) Stg_no
      refine Stg_fin ?_ ?_
      · exact ReOk_nil
      refine NewOk_nil ?_
      refine WQ_then ?_
      refine WP_ret ?_
      refine WQ_block_ret ?_
      refine WQ_then_ret ?_
      refine WQ_then_ret ?_
      refine WQ_block_ret ?_
      refine WQ_then_ret ?_
      replace h := Option.some.inj h
      subst h
      exact WQ_ret () rfl (.agg rfl inferInstance inferInstance (enc_len _ _) (.tmp rfl .nil)) trivial rfl (ks := []) rfl (by decide)
    ·
      replace h := cn_f hc h
      refine WP_skip ?_
      refine WQ_block ?_
      refine WQ_then ?_
      refine WP_region ?_
      refine WL_v rfl (VS_move rfl) ?_
      refine WL_v rfl (VS_add rfl rfl rfl) ?_
      refine WL_v rfl (VS_assign rfl) ?_
      refine WL_nil ?_
      exact WQ_loops (m24, wr .i64 (x22 + 1)) (Nat.lt_succ_self _) h (Sub_cons rfl (Sub_nil)) (.cons rfl (.cons rfl (.nil))) (ks := [0, 1]) rfl (by decide)
  ·
    replace h := cn_f hc h
    refine WP_exit ?_
    refine WQ_then_exit ?_
    refine WQ_then_exit ?_
    refine WQ_block_exit ?_
    refine WQ_then ?_
    refine WP_seq ?_
    refine WP_region ?_
    refine WL_v rfl (VS_lda (M := L_ref03_Book) (Pth.id (L := L_ref03_Book)) rfl rfl) ?_
    refine WL_x0 (RX_st (M := L_ref03_Book) (Pth.id (L := L_ref03_Book)) a0 a0 rfl rfl rfl rfl rfl) (fun _ _ => ?_)
    refine WL_v rfl (VS_assign rfl) ?_
    refine WL_nil ?_
    refine WQ_then ?_
    refine WP_ret ?_
    replace h := Option.some.inj h
    subst h
    exact WQ_ret () rfl (.agg rfl inferInstance inferInstance (enc_len _ _) (.tmp rfl .nil)) trivial rfl (ks := []) rfl (by decide)
end Go.Proofs.Ytmdpbdhkmfjlhaa
