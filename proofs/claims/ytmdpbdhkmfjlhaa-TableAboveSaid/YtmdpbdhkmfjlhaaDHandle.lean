/- Decompiled: package handle. -/
import Derived.Test.YtmdpbdhkmfjlhaaTypes
import Derived.Test.YtmdpbdhkmfjlhaaSl2
namespace Go.Proofs.Ytmdpbdhkmfjlhaa
open Go Go.Bw
structure handle_slot where
  gen : Int
  issued : Bool
  retired : Bool
abbrev L_handle_slot : Lay handle_slot := Lay.via (LP (LI .u32) (LP LB LB)) (fun x => (x.gen, x.issued, x.retired))
abbrev Z_handle_slot : handle_slot := ⟨0, false, false⟩
instance : Inhabited handle_slot := ⟨Z_handle_slot⟩
theorem P_handle_slot_gen : Pth L_handle_slot (LI .u32) 0 (fun x => x.gen) (fun x v => { x with gen := v }) := (Pth.fst Pth.id).via _ _ _ 0 rfl (fun _ => rfl) (fun _ _ => rfl)
theorem P_handle_slot_issued : Pth L_handle_slot LB 1 (fun x => x.issued) (fun x v => { x with issued := v }) := (Pth.snd (Pth.fst Pth.id)).via _ _ _ 1 rfl (fun _ => rfl) (fun _ _ => rfl)
theorem P_handle_slot_retired : Pth L_handle_slot LB 2 (fun x => x.retired) (fun x v => { x with retired := v }) := (Pth.snd (Pth.snd Pth.id)).via _ _ _ 2 rfl (fun _ => rfl) (fun _ _ => rfl)
def EQ_handle_slot (x y : handle_slot) : Bool := x.gen == y.gen && x.issued == y.issued && x.retired == y.retired
theorem EQv_handle_slot (x y : handle_slot) : Value.bool (eqAt [(0, some .u32), (1, none), (2, none)] (L_handle_slot.enc x) (L_handle_slot.enc y)) = .bool (EQ_handle_slot x y) := congrArg Value.bool (by show ((x.gen == y.gen) && ((x.issued == y.issued) && ((x.retired == y.retired) && true))) = (x.gen == y.gen && x.issued == y.issued && x.retired == y.retired); simp [Bool.and_assoc])
theorem EQvn_handle_slot (x y : handle_slot) : Value.bool (!(eqAt [(0, some .u32), (1, none), (2, none)] (L_handle_slot.enc x) (L_handle_slot.enc y))) = .bool (!(EQ_handle_slot x y)) := congrArg (fun v => match v with | Value.bool b => Value.bool (!b) | v => v) (EQv_handle_slot x y)
structure handle_Book where
  slots : (Nat → handle_slot)
abbrev L_handle_Book : Lay handle_Book := Lay.via (LA L_handle_slot 32) (fun x => x.slots)
abbrev Z_handle_Book : handle_Book := ⟨(fun _ => Z_handle_slot)⟩
instance : Inhabited handle_Book := ⟨Z_handle_Book⟩
theorem P_handle_Book_slots : Pth L_handle_Book (LA L_handle_slot 32) 0 (fun x => x.slots) (fun x v => { x with slots := v }) := Pth.id.via _ _ _ 0 rfl (fun _ => rfl) (fun _ _ => rfl)
def handle_of (n : Nat) (a0 : Int) (a1 : Int) : Option Int :=
  some (wr .u32 ((wr .u32 ((shlI .u32 a1 8) + (wr .u32 a0))) + 1))
theorem c_handle_of {n : Nat} {a0 : Int} {a1 : Int} {r : Int}  (h : handle_of n a0 a1 = some r) : FnV Try.prog 151 [.int .i64 a0, .int .u32 a1] (.int .u32 r) := by
  unfold handle_of at h
  refine fn_of Try.func151 (by kernel_rfl) rfl Try.ntmps151 rfl (fun cx hbs hpre hro => ?_)
  refine WP_seq ?_
  refine WP_region ?_
  refine WL_v rfl (VS_assign rfl) ?_
  refine WL_nil ?_
  refine WQ_then ?_
  refine WP_seq ?_
  refine WP_region ?_
  refine WL_v rfl (VS_move rfl) ?_
  refine WL_v rfl (VS_shlI rfl rfl (by decide)) ?_
  refine WL_v rfl (VS_move rfl) ?_
  refine WL_v rfl (VS_conv rfl rfl) ?_
  refine WL_v rfl (VS_add rfl rfl rfl) ?_
  refine WL_v rfl (VS_add rfl rfl rfl) ?_
  refine WL_v rfl (VS_assign rfl) ?_
  refine WL_nil ?_
  refine WQ_then ?_
  refine WP_ret ?_
  replace h := Option.some.inj h
  subst h
  exact WQ_ret () rfl (.tmp rfl .nil) trivial rfl (ks := []) rfl (by decide)
def handle_Handle_Slot (n : Nat) (a0 : Int) : Option (Int × Bool) :=
  cn (((decide ((wr .i64 ((wr .i64 (andI .u32 a0 255)) - 1)) < 0) || decide (32 ≤ (wr .i64 ((wr .i64 (andI .u32 a0 255)) - 1)))) || decide (8388607 < (shrI .u32 a0 8)))) (
  some (0, false)) (
  some (wr .i64 ((wr .i64 (andI .u32 a0 255)) - 1), true))
theorem c_handle_Handle_Slot {n : Nat} {a0 : Int} {r : Int × Bool}  (h : handle_Handle_Slot n a0 = some r) : FnV Try.prog 101 [.int .u32 a0] (.tuple #[.int .i64 r.1, .bool r.2]) := by
  unfold handle_Handle_Slot at h
  refine fn_of Try.func101 (by kernel_rfl) rfl Try.ntmps101 rfl (fun cx hbs hpre hro => ?_)
  refine WP_seq ?_
  refine WP_region ?_
  refine WL_v rfl (VS_assign rfl) ?_
  refine WL_v rfl (VS_assign rfl) ?_
  refine WL_nil ?_
  refine WQ_then ?_
  refine WP_seq ?_
  refine WP_region ?_
  refine WL_v rfl (VS_move rfl) ?_
  refine WL_v rfl (VS_andI rfl rfl) ?_
  refine WL_v rfl (VS_conv rfl rfl) ?_
  refine WL_v rfl (VS_sub rfl rfl rfl) ?_
  refine WL_v rfl (VS_assign rfl) ?_
  refine WL_nil ?_
  refine WQ_then ?_
  refine WP_seq ?_
  refine WP_seq ?_
  refine WP_region ?_
  refine WL_v rfl (VS_move rfl) ?_
  refine WL_v rfl (VS_lss rfl rfl) ?_
  refine WL_v rfl (VS_move rfl) ?_
  refine WL_g (Gd_b rfl rfl) rfl (fun hb => VS_move rfl) ?_
  refine WL_g (Gd_b rfl rfl) rfl (fun hb => VS_geq (gev rfl hb) rfl) ?_
  refine WL_v rfl (VS_or rfl rfl) ?_
  refine WL_v rfl (VS_move rfl) ?_
  refine WL_g (Gd_b rfl rfl) rfl (fun hb => VS_move rfl) ?_
  refine WL_g (Gd_b rfl rfl) rfl (fun hb => VS_shrI (gev rfl hb) rfl (by decide)) ?_
  refine WL_g (Gd_b rfl rfl) rfl (fun hb => VS_gtr (gev rfl hb) rfl) ?_
  refine WL_v rfl (VS_or rfl rfl) ?_
  refine WL_nil ?_
  refine WQ_then ?_
  refine WP_if rfl (fun hc => ?_) (fun hc => ?_)
  ·
    replace h := cn_t hc h
    refine WP_seq ?_
    refine WP_region ?_
    refine WL_v rfl (VS_assign rfl) ?_
    refine WL_v rfl (VS_assign rfl) ?_
    refine WL_nil ?_
    refine WQ_then ?_
    refine WP_ret ?_
    refine WQ_then_ret ?_
    replace h := Option.some.inj h
    subst h
    exact WQ_ret () rfl (.tmp rfl (.tmp rfl .nil)) trivial rfl (ks := []) rfl (by decide)
  ·
    replace h := cn_f hc h
    refine WP_skip ?_
    refine WQ_then ?_
    refine WP_seq ?_
    refine WP_region ?_
    refine WL_v rfl (VS_move rfl) ?_
    refine WL_v rfl (VS_assign rfl) ?_
    refine WL_v rfl (VS_assign rfl) ?_
    refine WL_nil ?_
    refine WQ_then ?_
    refine WP_ret ?_
    replace h := Option.some.inj h
    subst h
    exact WQ_ret () rfl (.tmp rfl (.tmp rfl .nil)) trivial rfl (ks := []) rfl (by decide)
def handle_Book_Good (n : Nat) (a0 : handle_Book) (a1 : Int) : Option Bool :=
  bd (handle_Handle_Slot n a1) fun x21 =>
  gu (!(x21.2 == true) || inb x21.1 32) <|
  lt ({ gen := shrI .u32 a1 8, issued := true, retired := false } : handle_slot) fun x23 =>
  some (x21.2 && (EQ_handle_slot (a0.slots (Int.toNat x21.1)) x23))
theorem c_handle_Book_Good {n : Nat} {a0 : handle_Book} {a1 : Int} {r : Bool}  (h : handle_Book_Good n a0 a1 = some r) : FnV Try.prog 44 [.agg (L_handle_Book.enc a0).toArray, .int .u32 a1] (.bool r) := by
  unfold handle_Book_Good at h
  refine fn_of Try.func44 (by kernel_rfl) rfl Try.ntmps44 rfl (fun cx hbs hpre hro => ?_)
  refine WP_seq ?_
  refine WP_region ?_
  refine WL_x rfl (RX_boxL L_handle_Book a0 rfl rfl) (fun b2 _ => ?_)
  refine WL_v rfl (VS_assign rfl) ?_
  refine WL_nil ?_
  refine WQ_then ?_
  refine WP_seq ?_
  obtain ⟨x21, hx21, h⟩ := bd_e h
  refine WP_region ?_
  refine WL_v rfl (VS_move rfl) ?_
  refine WL_v rfl (VS_call (c_handle_Handle_Slot hx21) rfl (fun _ _ _ => trivial)) ?_
  refine WL_v rfl (VS_move rfl) ?_
  refine WL_v rfl (VS_extract rfl rfl) ?_
  refine WL_v rfl (VS_extract rfl rfl) ?_
  refine WL_v rfl (VS_assign rfl) ?_
  refine WL_v rfl (VS_assign rfl) ?_
  refine WL_nil ?_
  refine WQ_then ?_
  refine WP_seq ?_
  obtain ⟨hg22, h⟩ := gu_e h
  obtain ⟨x23, hx23, h⟩ := lt_e h
  refine WP_region ?_
  refine WL_v rfl (VS_move rfl) ?_
  refine WL_v rfl (VS_move rfl) ?_
  refine WL_g (Gd_b rfl rfl) rfl (fun hb => VS_move rfl) ?_
  refine WL_g (Gd_b rfl rfl) rfl (fun hb => VS_field0 rfl) ?_
  refine WL_g (Gd_b rfl rfl) rfl (fun hb => VS_index0 (m := (Int.toNat x21.1)) (gev rfl hb) (gev rfl hb) (inb_e (imp_b hg22 hb)).1 (inb_e (imp_b hg22 hb)).2) ?_
  refine WL_g (Gd_b rfl rfl) rfl (fun hb => VS_lda (M := L_handle_slot) (P_handle_Book_slots.c0 (Pth.idx (L := L_handle_slot) (m := 32) (k := 3) ((Int.toNat x21.1)) (inb_e (imp_b hg22 hb)).2 rfl)) (gev rfl hb) rfl) ?_
  refine WL_g (Gd_b rfl rfl) rfl (fun hb => VS_move rfl) ?_
  refine WL_g (Gd_b rfl rfl) rfl (fun hb => VS_shrI (gev rfl hb) rfl (by decide)) ?_
  refine WL_g (Gd_b rfl rfl) rfl (fun hb => VS_build (cs := L_handle_slot.enc x23) (evs_cons (gev rfl hb) (evs_cons rfl rfl)) (by rw [hx23]; rfl)) ?_
  refine WL_g (Gd_b rfl rfl) rfl (fun hb => VS_val (VS_eqls (cs := L_handle_slot.enc (a0.slots (Int.toNat x21.1))) (ds := L_handle_slot.enc x23) (gev rfl hb) (gev rfl hb) rfl rfl) (EQv_handle_slot _ _)) ?_
  refine WL_v rfl (VS_and rfl rfl) ?_
  refine WL_v rfl (VS_assign rfl) ?_
  refine WL_nil ?_
  refine WQ_then ?_
  refine WP_ret ?_
  replace h := Option.some.inj h
  subst h
  exact WQ_ret () rfl (.tmp rfl .nil) trivial rfl (ks := []) rfl (by decide)
def handle_Book_At (n : Nat) (a0 : handle_Book) (a1 : Int) : Option (Int × Bool) :=
  gu (!((decide (a1 < 0) || decide (32 ≤ a1)) == false) || inb a1 32) <|
  cn (((decide (a1 < 0) || decide (32 ≤ a1)) || (!((a0.slots (Int.toNat a1)).issued)))) (
  some (0, false)) (
  gu (inb a1 32) <|
  bd (handle_of n a1 ((a0.slots (Int.toNat a1)).gen)) fun x23 =>
  some (x23, true))
theorem c_handle_Book_At {n : Nat} {a0 : handle_Book} {a1 : Int} {r : Int × Bool}  (h : handle_Book_At n a0 a1 = some r) : FnV Try.prog 152 [.agg (L_handle_Book.enc a0).toArray, .int .i64 a1] (.tuple #[.int .u32 r.1, .bool r.2]) := by
  unfold handle_Book_At at h
  refine fn_of Try.func152 (by kernel_rfl) rfl Try.ntmps152 rfl (fun cx hbs hpre hro => ?_)
  refine WP_seq ?_
  refine WP_region ?_
  refine WL_x rfl (RX_boxL L_handle_Book a0 rfl rfl) (fun b2 _ => ?_)
  refine WL_v rfl (VS_assign rfl) ?_
  refine WL_v rfl (VS_assign rfl) ?_
  refine WL_nil ?_
  refine WQ_then ?_
  refine WP_seq ?_
  refine WP_seq ?_
  obtain ⟨hg21, h⟩ := gu_e h
  refine WP_region ?_
  refine WL_v rfl (VS_move rfl) ?_
  refine WL_v rfl (VS_lss rfl rfl) ?_
  refine WL_v rfl (VS_move rfl) ?_
  refine WL_g (Gd_b rfl rfl) rfl (fun hb => VS_move rfl) ?_
  refine WL_g (Gd_b rfl rfl) rfl (fun hb => VS_geq (gev rfl hb) rfl) ?_
  refine WL_v rfl (VS_or rfl rfl) ?_
  refine WL_v rfl (VS_move rfl) ?_
  refine WL_g (Gd_b rfl rfl) rfl (fun hb => VS_move rfl) ?_
  refine WL_g (Gd_b rfl rfl) rfl (fun hb => VS_field0 rfl) ?_
  refine WL_g (Gd_b rfl rfl) rfl (fun hb => VS_index0 (m := (Int.toNat a1)) (gev rfl hb) (gev rfl hb) (inb_e (imp_b hg21 hb)).1 (inb_e (imp_b hg21 hb)).2) ?_
  refine WL_g (Gd_b rfl rfl) rfl (fun hb => VS_field (gev rfl hb)) ?_
  refine WL_g (Gd_b rfl rfl) rfl (fun hb => VS_ldb ((P_handle_Book_slots.c0 (Pth.idx (L := L_handle_slot) (m := 32) (k := 3) ((Int.toNat a1)) (inb_e (imp_b hg21 hb)).2 rfl)).comp P_handle_slot_issued) (gev rfl hb)) ?_
  refine WL_g (Gd_b rfl rfl) rfl (fun hb => VS_not (gev rfl hb)) ?_
  refine WL_v rfl (VS_or rfl rfl) ?_
  refine WL_nil ?_
  refine WQ_then ?_
  refine WP_if rfl (fun hc => ?_) (fun hc => ?_)
  ·
    replace h := cn_t hc h
    refine WP_seq ?_
    refine WP_region ?_
    refine WL_v rfl (VS_assign rfl) ?_
    refine WL_v rfl (VS_assign rfl) ?_
    refine WL_nil ?_
    refine WQ_then ?_
    refine WP_ret ?_
    refine WQ_then_ret ?_
    replace h := Option.some.inj h
    subst h
    exact WQ_ret () rfl (.tmp rfl (.tmp rfl .nil)) trivial rfl (ks := []) rfl (by decide)
  ·
    replace h := cn_f hc h
    refine WP_skip ?_
    refine WQ_then ?_
    refine WP_seq ?_
    obtain ⟨hg22, h⟩ := gu_e h
    obtain ⟨x23, hx23, h⟩ := bd_e h
    refine WP_region ?_
    refine WL_v rfl (VS_move rfl) ?_
    refine WL_v rfl (VS_move rfl) ?_
    refine WL_v rfl (VS_field0 rfl) ?_
    refine WL_v rfl (VS_index0 (m := (Int.toNat a1)) rfl rfl (inb_e hg22).1 (inb_e hg22).2) ?_
    refine WL_v rfl (VS_field rfl) ?_
    refine WL_v rfl (VS_ldi ((P_handle_Book_slots.c0 (Pth.idx (L := L_handle_slot) (m := 32) (k := 3) ((Int.toNat a1)) (inb_e hg22).2 rfl)).comp P_handle_slot_gen) rfl) ?_
    refine WL_v rfl (VS_call (c_handle_of hx23) rfl (fun _ _ _ => trivial)) ?_
    refine WL_v rfl (VS_assign rfl) ?_
    refine WL_v rfl (VS_assign rfl) ?_
    refine WL_nil ?_
    refine WQ_then ?_
    refine WP_ret ?_
    replace h := Option.some.inj h
    subst h
    exact WQ_ret () rfl (.tmp rfl (.tmp rfl .nil)) trivial rfl (ks := []) rfl (by decide)
def handle_Book_Issue (n : Nat) (a0 : handle_Book) : Option (handle_Book × Int × Bool) :=
  loop1 (fun k25 (x22 : Int) =>
  cn (decide (x22 < 32)) (
  gu (inb x22 32) <|
  lt ((a0.slots (Int.toNat x22)) : handle_slot) fun x27 =>
  cn ((x27.issued || x27.retired)) (
  k25 (wr .i64 (x22 + 1))) (
  gu (inb x22 32) <|
  lt ({ a0 with slots := (upd a0.slots (Int.toNat x22) ({ (a0.slots (Int.toNat x22)) with issued := true })) } : handle_Book) fun x29 =>
  bd (handle_of n x22 x27.gen) fun x30 =>
  some (x29, x30, true))) (
  some (a0, 0, false))) n 0
theorem c_handle_Book_Issue {n : Nat} {a0 : handle_Book} {r : handle_Book × Int × Bool}  (h : handle_Book_Issue n a0 = some r) : FnV Try.prog 106 [.agg (L_handle_Book.enc a0).toArray] (.tuple #[.agg (L_handle_Book.enc r.1).toArray, .int .u32 r.2.1, .bool r.2.2]) := by
  unfold handle_Book_Issue at h
  refine fn_of Try.func106 (by kernel_rfl) rfl Try.ntmps106 rfl (fun cx hbs hpre hro => ?_)
  refine WP_seq ?_
  refine WP_region ?_
  refine WL_x rfl (RX_boxL L_handle_Book a0 rfl rfl) (fun b1 _ => ?_)
  refine WL_x rfl (RX_allocL (L := L_handle_Book) (z := Z_handle_Book) ⟨by kernel_rfl⟩) (fun b2 _ => ?_)
  refine WL_v rfl (VS_assign rfl) ?_
  refine WL_v rfl (VS_assign rfl) ?_
  refine WL_nil ?_
  refine WQ_then ?_
  refine WP_seq ?_
  refine WP_seq ?_
  refine WP_region ?_
  refine WL_v rfl (VS_field0 rfl) ?_
  refine WL_v rfl (VS_lda (M := (LA L_handle_slot 32)) P_handle_Book_slots rfl rfl) ?_
  refine WL_v rfl (VS_move rfl) ?_
  refine WL_nil ?_
  refine WQ_then ?_
  refine WP_block ?_
  obtain ⟨lb23, hlb23, h⟩ := lp1_i h
  refine WP_loops (α := Nat × Int) [1, 2, 8] (.cons rfl (.cons rfl (.cons rfl (.nil)))) (fun (m24, x22) => [(9, .int .i64 x22)]) (fun (m24, x22) => [.cells b2 66 (L_handle_Book.enc Z_handle_Book), .cells b1 66 (L_handle_Book.enc a0)]) (fun (m24, x22) => loop1 lb23 m24 x22 = some r) (fun (m24, x22) => m24) (n, 0) h (Sub_cons rfl (Sub_nil)) (ks := [0, 1]) rfl (by decide) ?_
  rintro ⟨m24, x22⟩ h
  replace h : loop1 lb23 m24 x22 = some r := h
  replace h := lp1_s hlb23 h
  obtain ⟨m24, rfl, h⟩ := h
  refine WP_seq ?_
  refine WP_region ?_
  refine WL_v rfl (VS_lss rfl rfl) ?_
  refine WL_nil ?_
  refine WQ_then ?_
  refine WP_seq ?_
  refine WP_if rfl (fun hc => ?_) (fun hc => ?_)
  ·
    replace h := cn_t hc h
    refine WP_skip ?_
    refine WQ_then ?_
    refine WP_seq ?_
    refine WP_block ?_
    refine WP_seq ?_
    obtain ⟨hg26, h⟩ := gu_e h
    obtain ⟨x27, hx27, h⟩ := lt_e h
    refine WP_region ?_
    refine WL_v rfl (VS_move rfl) ?_
    refine WL_v rfl (VS_ixa (L := L_handle_slot) (m := (Int.toNat x22)) rfl rfl (inb_e hg26).1 (inb_e hg26).2 rfl rfl) ?_
    refine WL_x rfl (RX_allocL (L := L_handle_slot) (z := Z_handle_slot) ⟨by kernel_rfl⟩) (fun b6 _ => ?_)
    refine WL_v rfl (VS_assign rfl) ?_
    refine WL_x0 (RX_st (M := L_handle_slot) (Pth.id (L := L_handle_slot)) (a0.slots (Int.toNat x22)) x27 hx27 rfl rfl rfl rfl) (fun _ _ => ?_)
    refine WL_nil ?_
    refine WQ_then ?_
    refine WP_seq ?_
    refine WP_seq ?_
    refine WP_region ?_
    refine WL_v rfl (VS_field0 rfl) ?_
    refine WL_v rfl (VS_ldb P_handle_slot_issued rfl) ?_
    refine WL_v rfl (VS_move rfl) ?_
    refine WL_g (Gd_b rfl rfl) rfl (fun hb => VS_field0 rfl) ?_
    refine WL_g (Gd_b rfl rfl) rfl (fun hb => VS_ldb P_handle_slot_retired (gev rfl hb)) ?_
    refine WL_v rfl (VS_or rfl rfl) ?_
    refine WL_nil ?_
    refine WQ_then ?_
    refine WP_if rfl (fun hc => ?_) (fun hc => ?_)
    ·
      replace h := cn_t hc h
      refine WP_exit ?_
      refine WQ_then_exit ?_
      refine WQ_block_exit ?_
      refine WQ_then ?_
      refine WP_region ?_
      refine WL_v rfl (VS_add rfl rfl rfl) ?_
      refine WL_v rfl (VS_move rfl) ?_
      refine WL_nil ?_
      exact WQ_loops (m24, wr .i64 (x22 + 1)) (Nat.lt_succ_self _) h (Sub_cons rfl (Sub_nil)) (.cons rfl (.cons rfl (.cons rfl (.nil)))) (ks := [1, 2]) rfl (by decide)
    ·
      replace h := cn_f hc h
      refine WP_skip ?_
      refine WQ_then ?_
      refine WP_seq ?_
      obtain ⟨hg28, h⟩ := gu_e h
      obtain ⟨x29, hx29, h⟩ := lt_e h
      refine WP_region ?_
      refine WL_v rfl (VS_move rfl) ?_
      refine WL_v rfl (VS_field0 rfl) ?_
      refine WL_v rfl (VS_index0 (m := (Int.toNat x22)) rfl rfl (inb_e hg28).1 (inb_e hg28).2) ?_
      refine WL_v rfl (VS_field rfl) ?_
      refine WL_x0 (RX_st (M := LB) ((P_handle_Book_slots.c0 (Pth.idx (L := L_handle_slot) (m := 32) (k := 3) ((Int.toNat x22)) (inb_e hg28).2 rfl)).comp P_handle_slot_issued) true x29 hx29 rfl rfl rfl rfl) (fun _ _ => ?_)
      refine WL_nil ?_
      refine WQ_then ?_
      refine WP_seq ?_
      obtain ⟨x30, hx30, h⟩ := bd_e h
      refine WP_draw mixed (.stg [] [(0, [1]), (1, [5]), (2, [6]), (3, [25]), (4, [24, 26])] (.alt 5 [2, 23] (.stg [] [] (.alt 6 [27] (.stg [] [] (.alt 7 [] (.fin [] []) .no)) .no)) .no)) (by kernel_rfl) ?_
      refine Stg_stg ?_ ?_
      · exact ReOk_nil
      refine NewOk_cons rfl rfl (VG_v rfl (VS_lda (M := L_handle_Book) (Pth.id (L := L_handle_Book)) rfl rfl)) ?_
      refine NewOk_cons rfl rfl (VG_v rfl (VS_move rfl)) ?_
      refine NewOk_cons rfl rfl (VG_v rfl (VS_field0 rfl)) ?_
      refine NewOk_cons rfl rfl (VG_v rfl (VS_ldi P_handle_slot_gen rfl)) ?_
      refine NewOk_cons rfl rfl (VG_v rfl (VS_call (c_handle_of hx30) rfl (fun _ _ _ => trivial))) ?_
      refine NewOk_nil ?_
      refine Stg_none rfl (RG_x rfl (RX_st (M := L_handle_Book) (Pth.id (L := L_handle_Book)) x29 x29 rfl rfl rfl rfl rfl)) (fun _ _ => ?_) Stg_no
      refine Stg_stg ?_ ?_
      · exact ReOk_nil
      refine NewOk_nil ?_
      refine Stg_some rfl rfl (RG_x rfl ((VS_assign rfl).rx)) (fun _ _ => ?_) Stg_no
      refine Stg_stg ?_ ?_
      · exact ReOk_nil
      refine NewOk_nil ?_
      refine Stg_some rfl rfl (RG_x rfl ((VS_assign rfl).rx)) (fun _ _ => ?_) Stg_no
      refine Stg_fin ?_ ?_
      · exact ReOk_nil
      refine NewOk_nil ?_
      refine WQ_then ?_
      refine WP_ret ?_
      refine WQ_block_ret ?_
      refine WQ_then_ret ?_
      refine WQ_then_ret ?_
      refine WQ_block_ret ?_
      refine WQ_then_ret ?_
      replace h := Option.some.inj h
      subst h
      exact WQ_ret () rfl (.agg rfl inferInstance inferInstance (enc_len _ _) (.tmp rfl (.tmp rfl .nil))) trivial rfl (ks := []) rfl (by decide)
  ·
    replace h := cn_f hc h
    refine WP_exit ?_
    refine WQ_then_exit ?_
    refine WQ_then_exit ?_
    refine WQ_block_exit ?_
    refine WQ_then ?_
    refine WP_seq ?_
    refine WP_region ?_
    refine WL_v rfl (VS_lda (M := L_handle_Book) (Pth.id (L := L_handle_Book)) rfl rfl) ?_
    refine WL_x0 (RX_st (M := L_handle_Book) (Pth.id (L := L_handle_Book)) a0 a0 rfl rfl rfl rfl rfl) (fun _ _ => ?_)
    refine WL_v rfl (VS_assign rfl) ?_
    refine WL_v rfl (VS_assign rfl) ?_
    refine WL_nil ?_
    refine WQ_then ?_
    refine WP_ret ?_
    replace h := Option.some.inj h
    subst h
    exact WQ_ret () rfl (.agg rfl inferInstance inferInstance (enc_len _ _) (.tmp rfl (.tmp rfl .nil))) trivial rfl (ks := []) rfl (by decide)
def handle_Book_Void (n : Nat) (a0 : handle_Book) (a1 : Int) : Option (handle_Book × Bool) :=
  bd (handle_Book_Good n a0 a1) fun x21 =>
  cn ((!x21)) (
  some (a0, false)) (
  bd (handle_Handle_Slot n a1) fun x22 =>
  gu (inb x22.1 32) <|
  lt ({ a0 with slots := (upd a0.slots (Int.toNat x22.1) ({ (a0.slots (Int.toNat x22.1)) with issued := false })) } : handle_Book) fun x24 =>
  cn ((((x24.slots (Int.toNat x22.1)).gen) == 8388607)) (
  lt ({ x24 with slots := (upd x24.slots (Int.toNat x22.1) ({ (x24.slots (Int.toNat x22.1)) with retired := true })) } : handle_Book) fun x25 =>
  some (x25, true)) (
  lt ({ x24 with slots := (upd x24.slots (Int.toNat x22.1) ({ (x24.slots (Int.toNat x22.1)) with gen := wr .u32 (((x24.slots (Int.toNat x22.1)).gen) + 1) })) } : handle_Book) fun x26 =>
  some (x26, true)))
theorem c_handle_Book_Void {n : Nat} {a0 : handle_Book} {a1 : Int} {r : handle_Book × Bool}  (h : handle_Book_Void n a0 a1 = some r) : FnV Try.prog 100 [.agg (L_handle_Book.enc a0).toArray, .int .u32 a1] (.tuple #[.agg (L_handle_Book.enc r.1).toArray, .bool r.2]) := by
  unfold handle_Book_Void at h
  refine fn_of Try.func100 (by kernel_rfl) rfl Try.ntmps100 rfl (fun cx hbs hpre hro => ?_)
  refine WP_seq ?_
  refine WP_region ?_
  refine WL_x rfl (RX_boxL L_handle_Book a0 rfl rfl) (fun b2 _ => ?_)
  refine WL_x rfl (RX_allocL (L := L_handle_Book) (z := Z_handle_Book) ⟨by kernel_rfl⟩) (fun b4 _ => ?_)
  refine WL_v rfl (VS_assign rfl) ?_
  refine WL_nil ?_
  refine WQ_then ?_
  refine WP_seq ?_
  refine WP_seq ?_
  obtain ⟨x21, hx21, h⟩ := bd_e h
  refine WP_region ?_
  refine WL_v rfl (VS_lda (M := L_handle_Book) (Pth.id (L := L_handle_Book)) rfl rfl) ?_
  refine WL_v rfl (VS_move rfl) ?_
  refine WL_v rfl (VS_call (c_handle_Book_Good hx21) rfl (fun _ _ _ => trivial)) ?_
  refine WL_v rfl (VS_not rfl) ?_
  refine WL_nil ?_
  refine WQ_then ?_
  refine WP_if rfl (fun hc => ?_) (fun hc => ?_)
  ·
    replace h := cn_t hc h
    refine WP_seq ?_
    refine WP_region ?_
    refine WL_v rfl (VS_lda (M := L_handle_Book) (Pth.id (L := L_handle_Book)) rfl rfl) ?_
    refine WL_x0 (RX_st (M := L_handle_Book) (Pth.id (L := L_handle_Book)) a0 a0 rfl rfl rfl rfl rfl) (fun _ _ => ?_)
    refine WL_v rfl (VS_assign rfl) ?_
    refine WL_nil ?_
    refine WQ_then ?_
    refine WP_ret ?_
    refine WQ_then_ret ?_
    replace h := Option.some.inj h
    subst h
    exact WQ_ret () rfl (.agg rfl inferInstance inferInstance (enc_len _ _) (.tmp rfl .nil)) trivial rfl (ks := []) rfl (by decide)
  ·
    replace h := cn_f hc h
    refine WP_skip ?_
    refine WQ_then ?_
    refine WP_seq ?_
    obtain ⟨x22, hx22, h⟩ := bd_e h
    refine WP_region ?_
    refine WL_v rfl (VS_move rfl) ?_
    refine WL_v rfl (VS_call (c_handle_Handle_Slot hx22) rfl (fun _ _ _ => trivial)) ?_
    refine WL_v rfl (VS_move rfl) ?_
    refine WL_v rfl (VS_extract rfl rfl) ?_
    refine WL_v rfl (VS_extract rfl rfl) ?_
    refine WL_v rfl (VS_assign rfl) ?_
    refine WL_v rfl (VS_assign rfl) ?_
    refine WL_nil ?_
    refine WQ_then ?_
    refine WP_seq ?_
    obtain ⟨hg23, h⟩ := gu_e h
    refine WP_region ?_
    refine WL_v rfl (VS_move rfl) ?_
    refine WL_v rfl (VS_field0 rfl) ?_
    refine WL_v rfl (VS_index0 (m := (Int.toNat x22.1)) rfl rfl (inb_e hg23).1 (inb_e hg23).2) ?_
    refine WL_v rfl (VS_assign rfl) ?_
    refine WL_nil ?_
    refine WQ_then ?_
    refine WP_seq ?_
    obtain ⟨x24, hx24, h⟩ := lt_e h
    refine WP_region ?_
    refine WL_v rfl (VS_move rfl) ?_
    refine WL_v rfl (VS_nilCheck rfl) ?_
    refine WL_v rfl (VS_field rfl) ?_
    refine WL_x0 (RX_st (M := LB) ((P_handle_Book_slots.c0 (Pth.idx (L := L_handle_slot) (m := 32) (k := 3) ((Int.toNat x22.1)) (inb_e hg23).2 rfl)).comp P_handle_slot_issued) false x24 hx24 rfl rfl rfl rfl) (fun _ _ => ?_)
    refine WL_nil ?_
    refine WQ_then ?_
    refine WP_seq ?_
    refine WP_seq ?_
    refine WP_region ?_
    refine WL_v rfl (VS_move rfl) ?_
    refine WL_v rfl (VS_nilCheck rfl) ?_
    refine WL_v rfl (VS_field rfl) ?_
    refine WL_v rfl (VS_ldi ((P_handle_Book_slots.c0 (Pth.idx (L := L_handle_slot) (m := 32) (k := 3) ((Int.toNat x22.1)) (inb_e hg23).2 rfl)).comp P_handle_slot_gen) rfl) ?_
    refine WL_v rfl (VS_eql rfl rfl) ?_
    refine WL_nil ?_
    refine WQ_then ?_
    refine WP_if rfl (fun hc => ?_) (fun hc => ?_)
    ·
      replace h := cn_t hc h
      obtain ⟨x25, hx25, h⟩ := lt_e h
      refine WP_region ?_
      refine WL_v rfl (VS_move rfl) ?_
      refine WL_v rfl (VS_nilCheck rfl) ?_
      refine WL_v rfl (VS_field rfl) ?_
      refine WL_x0 (RX_st (M := LB) ((P_handle_Book_slots.c0 (Pth.idx (L := L_handle_slot) (m := 32) (k := 3) ((Int.toNat x22.1)) (inb_e hg23).2 rfl)).comp P_handle_slot_retired) true x25 hx25 rfl rfl rfl rfl) (fun _ _ => ?_)
      refine WL_nil ?_
      refine WQ_then ?_
      refine WP_seq ?_
      refine WP_region ?_
      refine WL_v rfl (VS_lda (M := L_handle_Book) (Pth.id (L := L_handle_Book)) rfl rfl) ?_
      refine WL_x0 (RX_st (M := L_handle_Book) (Pth.id (L := L_handle_Book)) x25 x25 rfl rfl rfl rfl rfl) (fun _ _ => ?_)
      refine WL_v rfl (VS_assign rfl) ?_
      refine WL_nil ?_
      refine WQ_then ?_
      refine WP_ret ?_
      replace h := Option.some.inj h
      subst h
      exact WQ_ret () rfl (.agg rfl inferInstance inferInstance (enc_len _ _) (.tmp rfl .nil)) trivial rfl (ks := []) rfl (by decide)
    ·
      replace h := cn_f hc h
      obtain ⟨x26, hx26, h⟩ := lt_e h
      refine WP_region ?_
      refine WL_v rfl (VS_move rfl) ?_
      refine WL_v rfl (VS_nilCheck rfl) ?_
      refine WL_v rfl (VS_field rfl) ?_
      refine WL_v rfl (VS_ldi ((P_handle_Book_slots.c0 (Pth.idx (L := L_handle_slot) (m := 32) (k := 3) ((Int.toNat x22.1)) (inb_e hg23).2 rfl)).comp P_handle_slot_gen) rfl) ?_
      refine WL_v rfl (VS_add rfl rfl rfl) ?_
      refine WL_v rfl (VS_nilCheck rfl) ?_
      refine WL_v rfl (VS_field rfl) ?_
      refine WL_x0 (RX_st (M := (LI .u32)) ((P_handle_Book_slots.c0 (Pth.idx (L := L_handle_slot) (m := 32) (k := 3) ((Int.toNat x22.1)) (inb_e hg23).2 rfl)).comp P_handle_slot_gen) (wr .u32 (((x24.slots (Int.toNat x22.1)).gen) + 1)) x26 hx26 rfl rfl rfl rfl) (fun _ _ => ?_)
      refine WL_nil ?_
      refine WQ_then ?_
      refine WP_seq ?_
      refine WP_region ?_
      refine WL_v rfl (VS_lda (M := L_handle_Book) (Pth.id (L := L_handle_Book)) rfl rfl) ?_
      refine WL_x0 (RX_st (M := L_handle_Book) (Pth.id (L := L_handle_Book)) x26 x26 rfl rfl rfl rfl rfl) (fun _ _ => ?_)
      refine WL_v rfl (VS_assign rfl) ?_
      refine WL_nil ?_
      refine WQ_then ?_
      refine WP_ret ?_
      replace h := Option.some.inj h
      subst h
      exact WQ_ret () rfl (.agg rfl inferInstance inferInstance (enc_len _ _) (.tmp rfl .nil)) trivial rfl (ks := []) rfl (by decide)
def handle_Book_Issued (n : Nat) (a0 : handle_Book) : Option (List Int) :=
  loop2 (fun k33 (x27 : (List Int)) (x30 : Int) =>
  cn (decide (x30 < 32)) (
  bd (handle_Book_At n a0 x30) fun x34 =>
  cn (x34.2) (
  gu (apok x27.length 1 4) <|
  lt (x27 ++ ([x34.1]) : List Int) fun x36 =>
  k33 x36 (wr .i64 (x30 + 1))) (
  k33 x27 (wr .i64 (x30 + 1)))) (
  some x27)) n ([]) 0
theorem c_handle_Book_Issued {n : Nat} {a0 : handle_Book} {r : (List Int)}  (h : handle_Book_Issued n a0 = some r) : FnB Try.prog 107 [.agg (L_handle_Book.enc a0).toArray] (fun _ => True) (fun J v => Fz J v (LI .u32) r) := by
  unfold handle_Book_Issued at h
  refine fn_of Try.func107 (by kernel_rfl) rfl Try.ntmps107 rfl (fun cx hbs hpre hro => ?_)
  refine WP_seq ?_
  refine WP_region ?_
  refine WL_x rfl (RX_boxL L_handle_Book a0 rfl rfl) (fun b1 _ => ?_)
  refine WL_v rfl (VS_assign rfl) ?_
  refine WL_nil ?_
  refine WQ_then ?_
  refine WP_seq ?_
  refine WP_region ?_
  refine WL_v rfl (VS_assign rfl) ?_
  refine WL_nil ?_
  refine WQ_then ?_
  refine WP_seq ?_
  refine WP_seq ?_
  refine WP_region ?_
  refine WL_v rfl (VS_move rfl) ?_
  refine WL_nil ?_
  refine WQ_then ?_
  refine WP_block ?_
  refine WP_rowN 69 1 (LI .u32) ?_
  obtain ⟨lb31, hlb31, h⟩ := lp2_i h
  refine WP_loops (α := Nat × (List Int) × Int × Value) [1] (.cons rfl (.nil)) (fun (m32, x27, x30, v28) => [(3, v28), (7, .int .i64 x30)]) (fun (m32, x27, x30, v28) => [Row v28 69 1 (LI .u32) x27, .cells b1 66 (L_handle_Book.enc a0)]) (fun (m32, x27, x30, v28) => SlN v28 x27.length ∧ loop2 lb31 m32 x27 x30 = some r) (fun (m32, x27, x30, v28) => m32) (n, [], 0, .slice none 0 0) ⟨⟨_, _, rfl⟩, h⟩ (Sub_cons rfl (Sub_cons rfl (Sub_nil))) (ks := [0, 1]) rfl (by decide) ?_
  rintro ⟨m32, x27, x30, v28⟩ ⟨hs29, h⟩
  replace h : loop2 lb31 m32 x27 x30 = some r := h
  replace h := lp2_s hlb31 h
  obtain ⟨m32, rfl, h⟩ := h
  refine WP_seq ?_
  refine WP_region ?_
  refine WL_v rfl (VS_lss rfl rfl) ?_
  refine WL_nil ?_
  refine WQ_then ?_
  refine WP_seq ?_
  refine WP_if rfl (fun hc => ?_) (fun hc => ?_)
  ·
    replace h := cn_t hc h
    refine WP_skip ?_
    refine WQ_then ?_
    refine WP_seq ?_
    refine WP_block ?_
    refine WP_seq ?_
    refine WP_region ?_
    refine WL_v rfl (VS_move rfl) ?_
    refine WL_v rfl (VS_assign rfl) ?_
    refine WL_nil ?_
    refine WQ_then ?_
    refine WP_seq ?_
    obtain ⟨x34, hx34, h⟩ := bd_e h
    refine WP_region ?_
    refine WL_v rfl (VS_lda (M := L_handle_Book) (Pth.id (L := L_handle_Book)) rfl rfl) ?_
    refine WL_v rfl (VS_move rfl) ?_
    refine WL_v rfl (VS_call (c_handle_Book_At hx34) rfl (fun _ _ _ => trivial)) ?_
    refine WL_v rfl (VS_move rfl) ?_
    refine WL_v rfl (VS_extract rfl rfl) ?_
    refine WL_v rfl (VS_extract rfl rfl) ?_
    refine WL_v rfl (VS_assign rfl) ?_
    refine WL_v rfl (VS_assign rfl) ?_
    refine WL_nil ?_
    refine WQ_then ?_
    refine WP_seq ?_
    refine WP_region ?_
    refine WL_v rfl (VS_move rfl) ?_
    refine WL_nil ?_
    refine WQ_then ?_
    refine WP_if rfl (fun hc => ?_) (fun hc => ?_)
    ·
      replace h := cn_t hc h
      obtain ⟨hg35, h⟩ := gu_e h
      obtain ⟨x36, hx36, h⟩ := lt_e h
      refine WP_region ?_
      refine WL_v rfl (VS_move rfl) ?_
      refine WL_v rfl (VS_move rfl) ?_
      refine WL_x rfl (RX_bs1 (LI .u32) x34.1 rfl rfl rfl rfl (by decide) (by decide)) (fun b19 _ => ?_)
      refine WL_x rfl (RX_app1 (sz := 1) (L := (LI .u32)) (xs := x27) (y := x34.1) (bytes := 4) rfl rfl rfl (apok_e hg35).1 (apok_e hg35).2) (fun v37 hs38 => ?_)
      rw [← hx36] at hs38; rw [← hx36]
      refine WL_v rfl (VS_assign rfl) ?_
      refine WL_nil ?_
      refine WQ_block ?_
      refine WQ_then ?_
      refine WP_region ?_
      refine WL_v rfl (VS_add rfl rfl rfl) ?_
      refine WL_v rfl (VS_move rfl) ?_
      refine WL_nil ?_
      exact WQ_loops (m32, x36, wr .i64 (x30 + 1), v37) (Nat.lt_succ_self _) ⟨hs38, h⟩ (Sub_cons rfl (Sub_cons rfl (Sub_nil))) (.cons rfl (.nil)) (ks := [1, 2]) rfl (by decide)
    ·
      replace h := cn_f hc h
      refine WP_skip ?_
      refine WQ_block ?_
      refine WQ_then ?_
      refine WP_region ?_
      refine WL_v rfl (VS_add rfl rfl rfl) ?_
      refine WL_v rfl (VS_move rfl) ?_
      refine WL_nil ?_
      exact WQ_loops (m32, x27, wr .i64 (x30 + 1), v28) (Nat.lt_succ_self _) ⟨hs29, h⟩ (Sub_cons rfl (Sub_cons rfl (Sub_nil))) (.cons rfl (.nil)) (ks := [0, 1]) rfl (by decide)
  ·
    replace h := cn_f hc h
    refine WP_exit ?_
    refine WQ_then_exit ?_
    refine WQ_then_exit ?_
    refine WQ_block_exit ?_
    refine WQ_then ?_
    refine WP_seq ?_
    refine WP_region ?_
    refine WL_v rfl (VS_move rfl) ?_
    refine WL_v rfl (VS_assign rfl) ?_
    refine WL_nil ?_
    refine WQ_then ?_
    refine WP_ret ?_
    replace h := Option.some.inj h
    subst h
    refine WQ_bundle (R := [Row v28 69 1 (LI .u32) x27]) (H' := []) (ks := [0]) rfl (by decide) ?_
    have p39 : Fz (Hs [.ext (blks [Row v28 69 1 (LI .u32) x27]) (Hs [Row v28 69 1 (LI .u32) x27])]) v28 (LI .u32) x27 := (Fz.row (e := 69) (sz := 1) (L := (LI .u32)) (xs := x27) rfl hs29).mono ent
    exact WQ_ret (v28, blks [Row v28 69 1 (LI .u32) x27], Hs [Row v28 69 1 (LI .u32) x27]) rfl (.tmp rfl .nil) p39 rfl (ks := [0]) rfl (by decide)
def handle_Aged (n : Nat) (a0 : (List Int)) : Option handle_Book :=
  loop2 (fun k28 (x24 : Int) (x25 : handle_Book) =>
  cn (decide (x24 < (if 32 < (a0.length : Int) then 32 else (a0.length : Int)))) (
  gu (inb x24 a0.length) <|
  gu (inb x24 32) <|
  lt ({ x25 with slots := (upd x25.slots (Int.toNat x24) ({ (x25.slots (Int.toNat x24)) with gen := (if 8388607 < (a0.getD (Int.toNat x24) default) then 8388607 else (a0.getD (Int.toNat x24) default)) })) } : handle_Book) fun x31 =>
  k28 (wr .i64 (x24 + 1)) x31) (
  some x25)) n 0 Z_handle_Book
theorem c_handle_Aged {n : Nat} {a0 : (List Int)} {r : handle_Book} {K : World → Prop} [Stable K] {v0 : Value} (f0 : Fz K v0 (LI .u32) a0) (h : handle_Aged n a0 = some r) : FnW Try.prog 108 [v0] K (.agg (L_handle_Book.enc r).toArray) := by
  unfold handle_Aged at h
  refine fn_of Try.func108 (by kernel_rfl) rfl Try.ntmps108 rfl (fun cx hbs hpre hro => ?_)
  haveI := knf_pre hbs hpre
  refine WP_seq ?_
  refine WP_region ?_
  refine WL_x rfl (RX_allocL (L := L_handle_Book) (z := Z_handle_Book) ⟨by kernel_rfl⟩) (fun b2 _ => ?_)
  refine WL_nil ?_
  refine WQ_then ?_
  refine WP_seq ?_
  refine WP_region ?_
  refine WL_x rfl (RX_allocL (L := L_handle_Book) (z := Z_handle_Book) ⟨by kernel_rfl⟩) (fun b3 _ => ?_)
  refine WL_nil ?_
  refine WQ_then ?_
  refine WP_seq ?_
  refine WP_seq ?_
  refine WP_region ?_
  refine WL_v rfl (VS_move rfl) ?_
  refine WL_v rfl (VS_lenF f0 rfl) ?_
  refine WL_v rfl (VS_min rfl rfl) ?_
  refine WL_v rfl (VS_move rfl) ?_
  refine WL_nil ?_
  refine WQ_then ?_
  refine WP_block ?_
  obtain ⟨lb26, hlb26, h⟩ := lp2_i h
  refine WP_loops (α := Nat × Int × handle_Book) [0, 2, 3, 7] (.cons rfl (.cons rfl (.cons rfl (.cons rfl (.nil))))) (fun (m27, x24, x25) => [(8, .int .i64 x24)]) (fun (m27, x24, x25) => [.cells b3 66 (L_handle_Book.enc x25), .cells b2 66 (L_handle_Book.enc Z_handle_Book)]) (fun (m27, x24, x25) => loop2 lb26 m27 x24 x25 = some r) (fun (m27, x24, x25) => m27) (n, 0, Z_handle_Book) h (Sub_cons rfl (Sub_nil)) (ks := [0, 1]) rfl (by decide) ?_
  rintro ⟨m27, x24, x25⟩ h
  replace h : loop2 lb26 m27 x24 x25 = some r := h
  replace h := lp2_s hlb26 h
  obtain ⟨m27, rfl, h⟩ := h
  refine WP_seq ?_
  refine WP_region ?_
  refine WL_v rfl (VS_lss rfl rfl) ?_
  refine WL_nil ?_
  refine WQ_then ?_
  refine WP_seq ?_
  refine WP_if rfl (fun hc => ?_) (fun hc => ?_)
  ·
    replace h := cn_t hc h
    refine WP_skip ?_
    refine WQ_then ?_
    refine WP_seq ?_
    refine WP_block ?_
    refine WP_seq ?_
    refine WP_region ?_
    refine WL_v rfl (VS_move rfl) ?_
    refine WL_v rfl (VS_assign rfl) ?_
    refine WL_nil ?_
    refine WQ_then ?_
    obtain ⟨hg29, h⟩ := gu_e h
    obtain ⟨hg30, h⟩ := gu_e h
    obtain ⟨x31, hx31, h⟩ := lt_e h
    refine WP_region ?_
    refine WL_v rfl (VS_move rfl) ?_
    refine WL_v rfl (VS_move rfl) ?_
    refine WL_v rfl (VS_move rfl) ?_
    refine WL_v rfl (VS_ixF (m := (Int.toNat x24)) f0 rfl rfl rfl (inb_e hg29).1 (inb_e hg29).2) ?_
    refine WL_v rfl (VS_ldiF f0 (Pth.idx (L := (LI .u32)) (m := (a0.length)) (k := 1) ((Int.toNat x24)) (inb_e hg29).2 rfl) rfl) ?_
    refine WL_v rfl (VS_min rfl rfl) ?_
    refine WL_v rfl (VS_field0 rfl) ?_
    refine WL_v rfl (VS_index0 (m := (Int.toNat x24)) rfl rfl (inb_e hg30).1 (inb_e hg30).2) ?_
    refine WL_v rfl (VS_field rfl) ?_
    refine WL_x0 (RX_st (M := (LI .u32)) ((P_handle_Book_slots.c0 (Pth.idx (L := L_handle_slot) (m := 32) (k := 3) ((Int.toNat x24)) (inb_e hg30).2 rfl)).comp P_handle_slot_gen) (if 8388607 < (a0.getD (Int.toNat x24) default) then 8388607 else (a0.getD (Int.toNat x24) default)) x31 hx31 rfl rfl rfl rfl) (fun _ _ => ?_)
    refine WL_nil ?_
    refine WQ_block ?_
    refine WQ_then ?_
    refine WP_region ?_
    refine WL_v rfl (VS_add rfl rfl rfl) ?_
    refine WL_v rfl (VS_move rfl) ?_
    refine WL_nil ?_
    exact WQ_loops (m27, wr .i64 (x24 + 1), x31) (Nat.lt_succ_self _) h (Sub_cons rfl (Sub_nil)) (.cons rfl (.cons rfl (.cons rfl (.cons rfl (.nil))))) (ks := [0, 1]) rfl (by decide)
  ·
    replace h := cn_f hc h
    refine WP_exit ?_
    refine WQ_then_exit ?_
    refine WQ_then_exit ?_
    refine WQ_block_exit ?_
    refine WQ_then ?_
    refine WP_seq ?_
    refine WP_region ?_
    refine WL_v rfl (VS_lda (M := L_handle_Book) (Pth.id (L := L_handle_Book)) rfl rfl) ?_
    refine WL_x0 (RX_st (M := L_handle_Book) (Pth.id (L := L_handle_Book)) x25 x25 rfl rfl rfl rfl rfl) (fun _ _ => ?_)
    refine WL_nil ?_
    refine WQ_then ?_
    refine WP_ret ?_
    replace h := Option.some.inj h
    subst h
    exact WQ_ret () rfl (.agg rfl inferInstance inferInstance (enc_len _ _) .nil) trivial rfl (ks := []) rfl (by decide)
end Go.Proofs.Ytmdpbdhkmfjlhaa
