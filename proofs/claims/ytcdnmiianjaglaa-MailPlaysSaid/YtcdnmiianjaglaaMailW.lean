/- Walks of package mail. -/
import Derived.Test.YtcdnmiianjaglaaTypes
namespace Go.Proofs.Ytcdnmiianjaglaa
open Go Go.Bw

structure Msg where
  frm : Int
  word : Int
  reg : Int
  share : Bool
def Msg.enc (m : Msg) : List Value := [.int .u8 m.frm, .int .u64 m.word, .int .u32 m.reg, .bool m.share]
def Msg.zero : Msg := ⟨0, 0, 0, false⟩
def encBox (r : Nat → Msg) (f n : Nat) (c : Bool) : List Value := flat (fun i => (r i).enc) 4 ++ [.int .i64 f, .int .i64 n, .bool c]
@[simp] theorem enc_len (m : Msg) : m.enc.length = 4 := rfl
@[simp] theorem box_len (r : Nat → Msg) (f n : Nat) (c : Bool) : (encBox r f n c).length = 19 := rfl
@[simp] theorem one_enc (m : Msg) : OneC m.enc := OneC_of rfl
@[simp] theorem one_box (r : Nat → Msg) (f n : Nat) (c : Bool) : OneC (encBox r f n c) := (OneC.flat fun _ _ => one_enc _).app (OneC_of rfl)

theorem fn_at (r : Nat → Msg) (f n : Nat) (c : Bool) (i : Nat) (hf : f < 4) (hi : i ≤ 4) :
    FnV Try.prog 97 [.agg (encBox r f n c).toArray, .int .i64 i] (.int .i64 (((f + i) % 4 : Nat) : Int)) := by
  refine fn_of Try.func97 (by kernel_rfl) rfl Try.ntmps97 rfl (fun cx hbs hpre hro => ?_)
  refine WP_seq ?_
  refine WP_region ?_
  refine WL_x rfl (RX_boxa rfl) (fun b2 _ => ?_)
  refine WL_v rfl (VS_assign rfl) ?_
  refine WL_nil ?_
  refine WQ_then ?_
  refine WP_seq ?_
  refine WP_region ?_
  first | refine WL_v rfl (VS_field0 rfl) ?_ | refine WL_v rfl (VS_field rfl) ?_
  refine WL_v rfl (VS_load rfl rfl) ?_
  refine WL_v rfl (VS_move rfl) ?_
  first | refine WL_v rfl (VS_add rfl rfl (IntWalk.i64_in _ (by omega))) ?_ | refine WL_v rfl (VS_add rfl rfl rfl) ?_
  first | refine WL_v rfl (VS_rem rfl rfl (by omega) (IntWalk.rem_in _ _ (by omega))) ?_ | refine WL_v rfl (VS_rem rfl rfl (by omega) rfl) ?_
  refine WL_v rfl (VS_assign rfl) ?_
  refine WL_nil ?_
  refine WQ_then ?_
  refine WP_ret ?_
  exact WQ_ret () rfl (.tmp rfl .nil) trivial rfl (ks := []) rfl (by decide)

theorem box_set16 (r : Nat → Msg) (f n : Nat) (c : Bool) (x : Nat) (a : Int) (h : a = x) : (encBox r f n c).set 16 (.int .i64 a) = encBox r x n c := by subst h; rfl
theorem box_set17 (r : Nat → Msg) (f n : Nat) (c : Bool) (x : Nat) (a : Int) (h : a = x) : (encBox r f n c).set 17 (.int .i64 a) = encBox r f x c := by subst h; rfl
theorem box_set18 (r : Nat → Msg) (f n : Nat) (c b : Bool) : (encBox r f n c).set 18 (.bool b) = encBox r f n b := rfl
theorem box_splice (r : Nat → Msg) (f n : Nat) (c : Bool) (i : Nat) (m : Msg) (hi : i < 4) : splice (encBox r f n c) (i * 4) m.enc = encBox (upd r i m) f n c := by
  unfold encBox
  rw [splice_left (by rw [flat_len (fun _ _ => enc_len _)]; simp; omega), flat_splice (fun _ _ => enc_len _) hi (enc_len m)]
  congr 1
  exact flat_congr fun j _ => by unfold upd; split <;> rfl
theorem box_part (r : Nat → Msg) (f n : Nat) (c : Bool) (i : Nat) (hi : i < 4) : ((encBox r f n c).drop (i * 4)).take 4 = (r i).enc := flat_part (fun _ _ => enc_len _) hi

def Box.put (r : Nat → Msg) (f n : Nat) (m : Msg) : Nat → Msg := upd r ((f + n) % 4) m
theorem fn_put (r : Nat → Msg) (f n : Nat) (c : Bool) (m : Msg) (hf : f < 4) (hn : n ≤ 4) :
    FnV Try.prog 18 [.agg (encBox r f n c).toArray, .agg m.enc.toArray]
      (bif c then .tuple #[.agg (encBox r f n c).toArray, .int .i64 11] else if n = 4 then .tuple #[.agg (encBox r f n c).toArray, .int .i64 7]
       else .tuple #[.agg (encBox (Box.put r f n m) f (n + 1) c).toArray, .int .i64 0]) := by
  refine fn_of Try.func18 (by kernel_rfl) rfl Try.ntmps18 rfl (fun cx hbs hpre hro => ?_)
  refine WP_seq ?_
  refine WP_region ?_
  refine WL_x rfl (RX_boxa rfl) (fun b2 _ => ?_)
  refine WL_x rfl (RX_boxa rfl) (fun b3 _ => ?_)
  refine WL_x rfl (RX_alloc) (fun b4 _ => ?_)
  refine WL_v rfl (VS_assign rfl) ?_
  refine WL_nil ?_
  refine WQ_then ?_
  refine WP_seq ?_
  refine WP_block ?_
  refine WP_seq ?_
  refine WP_region ?_
  first | refine WL_v rfl (VS_field0 rfl) ?_ | refine WL_v rfl (VS_field rfl) ?_
  refine WL_v rfl (VS_load rfl rfl) ?_
  refine WL_v rfl (VS_assign rfl) ?_
  refine WL_nil ?_
  refine WQ_then ?_
  refine WP_cond rfl (fun h0 => ?_) (fun h0 => ?_)
  ·
    refine WP_seq ?_
    refine WP_region ?_
    first | refine WL_v rfl (VS_loadall rfl (by first | rfl | (simp; done))) ?_ | refine WL_v rfl (VS_loadpart rfl rfl rfl) ?_
    refine WL_x0 (RX_storea rfl rfl (by first | rfl | (simp; done)) (by first | rfl | (simp; done)) (by first | exact OneC_of rfl | (simp; done) | (simp [OneC]; done) | assumption)) (fun _ _ => ?_)
    refine WL_v rfl (VS_assign rfl) ?_
    refine WL_nil ?_
    refine WQ_then ?_
    refine WP_ret ?_
    refine WQ_block_ret ?_
    refine WQ_then_ret ?_
    exact WQ_ret () rfl (.agg rfl inferInstance inferInstance (by first | rfl | (simp; done)) (.tmp rfl .nil)) trivial (by simp [h0, retV]) (ks := []) rfl (by decide)
  ·
    refine WP_seq ?_
    refine WP_region ?_
    first | refine WL_v rfl (VS_field0 rfl) ?_ | refine WL_v rfl (VS_field rfl) ?_
    refine WL_v rfl (VS_load rfl rfl) ?_
    refine WL_v rfl (VS_eql rfl rfl) ?_
    refine WL_v rfl (VS_assign rfl) ?_
    refine WL_nil ?_
    refine WQ_then ?_
    refine WP_cond rfl (fun h1 => ?_) (fun h1 => ?_)
    ·
      refine WP_seq ?_
      refine WP_region ?_
      first | refine WL_v rfl (VS_loadall rfl (by first | rfl | (simp; done))) ?_ | refine WL_v rfl (VS_loadpart rfl rfl rfl) ?_
      refine WL_x0 (RX_storea rfl rfl (by first | rfl | (simp; done)) (by first | rfl | (simp; done)) (by first | exact OneC_of rfl | (simp; done) | (simp [OneC]; done) | assumption)) (fun _ _ => ?_)
      refine WL_v rfl (VS_assign rfl) ?_
      refine WL_nil ?_
      refine WQ_then ?_
      refine WP_ret ?_
      refine WQ_block_ret ?_
      refine WQ_then_ret ?_
      exact WQ_ret () rfl (.agg rfl inferInstance inferInstance (by first | rfl | (simp; done)) (.tmp rfl .nil)) trivial (by simp [h0, show n = 4 by omega, retV]) (ks := []) rfl (by decide)
    ·
      refine WP_skip ?_
      refine WQ_block ?_
      refine WQ_then ?_
      refine WP_seq ?_
      refine WP_draw mixed (.stg [] [(0, [2]), (1, [2]), (2, [16]), (3, [15, 17]), (4, [3]), (5, [2]), (6, [18, 20])] (.alt 7 [19, 21] (.fin [(5, [2])] []) .no)) (by kernel_rfl) ?_
      refine Stg_stg ?_ ?_
      · exact ReOk_nil
      first | refine NewOk_cons rfl rfl (VG_v rfl (VS_loadall rfl (by first | rfl | (simp; done)))) ?_ | refine NewOk_cons rfl rfl (VG_v rfl (VS_loadpart rfl rfl rfl)) ?_
      first | refine NewOk_cons rfl rfl (VG_v rfl (VS_field0 rfl)) ?_ | refine NewOk_cons rfl rfl (VG_v rfl (VS_field rfl)) ?_
      refine NewOk_cons rfl rfl (VG_v rfl (VS_load rfl rfl)) ?_
      refine NewOk_cons rfl rfl (VG_v rfl (VS_call (fn_at r f n c n hf (by omega)) rfl (fun _ _ _ => trivial))) ?_
      first | refine NewOk_cons rfl rfl (VG_v rfl (VS_loadall rfl (by first | rfl | (simp; done)))) ?_ | refine NewOk_cons rfl rfl (VG_v rfl (VS_loadpart rfl rfl rfl)) ?_
      first | refine NewOk_cons rfl rfl (VG_v rfl (VS_field0 rfl)) ?_ | refine NewOk_cons rfl rfl (VG_v rfl (VS_field rfl)) ?_
      first | refine NewOk_cons rfl rfl (VG_v rfl (VS_index0 rfl rfl rfl (by omega))) ?_ | refine NewOk_cons rfl rfl (VG_v rfl (VS_index0 rfl rfl (IntWalk.up_add rfl rfl) (by omega))) ?_ | refine NewOk_cons rfl rfl (VG_v rfl (VS_index0 rfl rfl (Int.toNat_of_nonneg (by omega)).symm (by omega))) ?_ | refine NewOk_cons rfl rfl (VG_v rfl (VS_index rfl rfl rfl (by omega))) ?_ | refine NewOk_cons rfl rfl (VG_v rfl (VS_index rfl rfl (IntWalk.up_add rfl rfl) (by omega))) ?_ | refine NewOk_cons rfl rfl (VG_v rfl (VS_index rfl rfl (Int.toNat_of_nonneg (by omega)).symm (by omega))) ?_
      refine NewOk_nil ?_
      refine Stg_none rfl (RG_x rfl (RX_store (vs := m.enc) rfl rfl rfl rfl (by have := Nat.mod_lt (f + n) (show 0 < 4 by decide); simp; omega) (one_enc m) (box_splice _ _ _ _ _ m (Nat.mod_lt _ (by decide))))) (fun _ _ => ?_) Stg_no
      refine Stg_fin ?_ ?_
      ·
        first | refine ReOk_cons rfl rfl (VG_v rfl (VS_field0 rfl)) ?_ | refine ReOk_cons rfl rfl (VG_v rfl (VS_field rfl)) ?_
        exact ReOk_nil
      refine NewOk_nil ?_
      refine WQ_then ?_
      refine WP_seq ?_
      refine WP_region ?_
      first | refine WL_v rfl (VS_field0 rfl) ?_ | refine WL_v rfl (VS_field rfl) ?_
      refine WL_v rfl (VS_load rfl rfl) ?_
      first | refine WL_v rfl (VS_add rfl rfl (IntWalk.i64_in _ (by omega))) ?_ | refine WL_v rfl (VS_add rfl rfl rfl) ?_
      first | refine WL_v rfl (VS_field0 rfl) ?_ | refine WL_v rfl (VS_field rfl) ?_
      refine WL_x0 (RX_store1 rfl rfl rfl (by first | decide | (simp; done) | omega | (simp; omega)) rfl) (fun _ _ => ?_)
      refine WL_nil ?_
      refine WQ_then ?_
      refine WP_seq ?_
      refine WP_region ?_
      first | refine WL_v rfl (VS_loadall rfl (by first | rfl | (simp; done))) ?_ | refine WL_v rfl (VS_loadpart rfl rfl rfl) ?_
      refine WL_x0 (RX_storea rfl rfl (by first | rfl | (simp; done)) (by first | rfl | (simp; done)) (by first | exact OneC_of rfl | (simp; done) | (simp [OneC]; done) | assumption)) (fun _ _ => ?_)
      refine WL_v rfl (VS_assign rfl) ?_
      refine WL_nil ?_
      refine WQ_then ?_
      refine WP_ret ?_
      exact WQ_ret () rfl (.agg rfl inferInstance inferInstance (by first | rfl | (simp; done)) (.tmp rfl .nil)) trivial (by simp [h0, show n ≠ 4 by omega, retV]; rfl) (ks := []) rfl (by decide)


theorem fn_take (r : Nat → Msg) (f n : Nat) (c : Bool) (hf : f < 4) (hn : n ≤ 4) :
    FnV Try.prog 16 [.agg (encBox r f n c).toArray]
      (if n = 0 then .tuple #[.agg (encBox r f n c).toArray, .agg Msg.zero.enc.toArray, .int .i64 (if c then 11 else 10)]
       else .tuple #[.agg (encBox r ((f + 1) % 4) (n - 1) c).toArray, .agg (r f).enc.toArray, .int .i64 0]) := by
  refine fn_of Try.func16 (by kernel_rfl) rfl Try.ntmps16 rfl (fun cx hbs hpre hro => ?_)
  refine WP_seq ?_
  refine WP_region ?_
  refine WL_x rfl (RX_boxa rfl) (fun b1 _ => ?_)
  refine WL_x rfl (RX_alloc) (fun b2 _ => ?_)
  refine WL_x rfl (RX_alloc) (fun b3 _ => ?_)
  refine WL_v rfl (VS_assign rfl) ?_
  refine WL_nil ?_
  refine WQ_then ?_
  refine WP_seq ?_
  refine WP_block ?_
  refine WP_seq ?_
  refine WP_region ?_
  first | refine WL_v rfl (VS_field0 rfl) ?_ | refine WL_v rfl (VS_field rfl) ?_
  refine WL_v rfl (VS_load rfl rfl) ?_
  refine WL_v rfl (VS_eql rfl rfl) ?_
  refine WL_v rfl (VS_move rfl) ?_
  first | refine WL_g (Gd_b rfl rfl) rfl (fun hb => VS_field0 rfl) ?_ | refine WL_g (Gd_b rfl rfl) rfl (fun hb => VS_field rfl) ?_
  refine WL_g (Gd_b rfl rfl) rfl (fun hb => VS_load (gev rfl hb) rfl) ?_
  refine WL_v rfl (VS_and rfl rfl) ?_
  refine WL_v rfl (VS_assign rfl) ?_
  refine WL_nil ?_
  refine WQ_then ?_
  refine WP_cond rfl (fun h0 => ?_) (fun h0 => ?_)
  ·
    refine WP_seq ?_
    refine WP_region ?_
    first | refine WL_v rfl (VS_loadall rfl (by first | rfl | (simp; done))) ?_ | refine WL_v rfl (VS_loadpart rfl rfl rfl) ?_
    refine WL_v rfl (VS_build rfl rfl) ?_
    refine WL_x0 (RX_storea rfl rfl (by first | rfl | (simp; done)) (by first | rfl | (simp; done)) (by first | exact OneC_of rfl | (simp; done) | (simp [OneC]; done) | assumption)) (fun _ _ => ?_)
    refine WL_x0 (RX_storea rfl rfl (by first | rfl | (simp; done)) (by first | rfl | (simp; done)) (by first | exact OneC_of rfl | (simp; done) | (simp [OneC]; done) | assumption)) (fun _ _ => ?_)
    refine WL_v rfl (VS_assign rfl) ?_
    refine WL_nil ?_
    refine WQ_then ?_
    refine WP_ret ?_
    refine WQ_block_ret ?_
    refine WQ_then_ret ?_
    exact WQ_ret () rfl (.agg rfl inferInstance inferInstance (by first | rfl | (simp; done)) (.agg rfl inferInstance inferInstance (by first | rfl | (simp; done)) (.tmp rfl .nil))) trivial (by obtain ⟨h, hc⟩ := h0; simp [show n = 0 by omega, hc, retV]; rfl) (ks := []) rfl (by decide)
  ·
    refine WP_seq ?_
    refine WP_region ?_
    first | refine WL_v rfl (VS_field0 rfl) ?_ | refine WL_v rfl (VS_field rfl) ?_
    refine WL_v rfl (VS_load rfl rfl) ?_
    refine WL_v rfl (VS_eql rfl rfl) ?_
    refine WL_v rfl (VS_assign rfl) ?_
    refine WL_nil ?_
    refine WQ_then ?_
    refine WP_cond rfl (fun h1 => ?_) (fun h1 => ?_)
    ·
      refine WP_seq ?_
      refine WP_region ?_
      first | refine WL_v rfl (VS_loadall rfl (by first | rfl | (simp; done))) ?_ | refine WL_v rfl (VS_loadpart rfl rfl rfl) ?_
      refine WL_v rfl (VS_build rfl rfl) ?_
      refine WL_x0 (RX_storea rfl rfl (by first | rfl | (simp; done)) (by first | rfl | (simp; done)) (by first | exact OneC_of rfl | (simp; done) | (simp [OneC]; done) | assumption)) (fun _ _ => ?_)
      refine WL_x0 (RX_storea rfl rfl (by first | rfl | (simp; done)) (by first | rfl | (simp; done)) (by first | exact OneC_of rfl | (simp; done) | (simp [OneC]; done) | assumption)) (fun _ _ => ?_)
      refine WL_v rfl (VS_assign rfl) ?_
      refine WL_nil ?_
      refine WQ_then ?_
      refine WP_ret ?_
      refine WQ_block_ret ?_
      refine WQ_then_ret ?_
      exact WQ_ret () rfl (.agg rfl inferInstance inferInstance (by first | rfl | (simp; done)) (.agg rfl inferInstance inferInstance (by first | rfl | (simp; done)) (.tmp rfl .nil))) trivial (by have hc : c = false := by {cases c <;> simp_all}; simp [show n = 0 by omega, hc, retV]; rfl) (ks := []) rfl (by decide)
    ·
      refine WP_skip ?_
      refine WQ_block ?_
      refine WQ_then ?_
      refine WP_seq ?_
      refine WP_region ?_
      first | refine WL_v rfl (VS_field0 rfl) ?_ | refine WL_v rfl (VS_field rfl) ?_
      refine WL_v rfl (VS_load rfl rfl) ?_
      first | refine WL_v rfl (VS_field0 rfl) ?_ | refine WL_v rfl (VS_field rfl) ?_
      first | refine WL_v rfl (VS_index0 rfl rfl rfl (by omega)) ?_ | refine WL_v rfl (VS_index0 rfl rfl (IntWalk.up_add rfl rfl) (by omega)) ?_ | refine WL_v rfl (VS_index0 rfl rfl (Int.toNat_of_nonneg (by omega)).symm (by omega)) ?_ | refine WL_v rfl (VS_index rfl rfl rfl (by omega)) ?_ | refine WL_v rfl (VS_index rfl rfl (IntWalk.up_add rfl rfl) (by omega)) ?_ | refine WL_v rfl (VS_index rfl rfl (Int.toNat_of_nonneg (by omega)).symm (by omega)) ?_
      refine WL_v rfl (VS_loadpart (vs := (r f).enc) rfl (box_part r f n c f hf) rfl) ?_
      refine WL_x rfl (RX_alloc) (fun b5 _ => ?_)
      refine WL_x0 (RX_storea rfl rfl (by first | rfl | (simp; done)) (by first | rfl | (simp; done)) (by first | exact OneC_of rfl | (simp; done) | (simp [OneC]; done) | assumption)) (fun _ _ => ?_)
      refine WL_nil ?_
      refine WQ_then ?_
      refine WP_seq ?_
      refine WP_draw mixed (.stg [] [(0, [1]), (1, [27]), (2, [1]), (3, [29]), (4, [30]), (5, [1])] (.alt 6 [28, 32] (.stg [(4, [30])] [(7, [1])] (.alt 8 [31, 33] (.fin [] []) .no)) .no)) (by kernel_rfl) ?_
      refine Stg_stg ?_ ?_
      · exact ReOk_nil
      first | refine NewOk_cons rfl rfl (VG_v rfl (VS_loadall rfl (by first | rfl | (simp; done)))) ?_ | refine NewOk_cons rfl rfl (VG_v rfl (VS_loadpart rfl rfl rfl)) ?_
      refine NewOk_cons rfl rfl (VG_v rfl (VS_call (fn_at r f n c 1 hf (by omega)) rfl (fun _ _ _ => trivial))) ?_
      first | refine NewOk_cons rfl rfl (VG_v rfl (VS_field0 rfl)) ?_ | refine NewOk_cons rfl rfl (VG_v rfl (VS_field rfl)) ?_
      refine NewOk_cons rfl rfl (VG_v rfl (VS_load rfl rfl)) ?_
      first | refine NewOk_cons rfl rfl (VG_v rfl (VS_sub rfl rfl (IntWalk.i64_in _ (by omega)))) ?_ | refine NewOk_cons rfl rfl (VG_v rfl (VS_sub rfl rfl rfl)) ?_
      first | refine NewOk_cons rfl rfl (VG_v rfl (VS_field0 rfl)) ?_ | refine NewOk_cons rfl rfl (VG_v rfl (VS_field rfl)) ?_
      refine NewOk_nil ?_
      refine Stg_none rfl (RG_x rfl (RX_store1 rfl rfl rfl (by first | decide | (simp; done) | omega | (simp; omega)) rfl)) (fun _ _ => ?_) Stg_no
      refine Stg_stg ?_ ?_
      ·
        first | refine ReOk_cons rfl rfl (VG_v rfl (VS_sub rfl rfl (IntWalk.i64_in _ (by omega)))) ?_ | refine ReOk_cons rfl rfl (VG_v rfl (VS_sub rfl rfl rfl)) ?_
        exact ReOk_nil
      first | refine NewOk_cons rfl rfl (VG_v rfl (VS_field0 rfl)) ?_ | refine NewOk_cons rfl rfl (VG_v rfl (VS_field rfl)) ?_
      refine NewOk_nil ?_
      refine Stg_none rfl (RG_x rfl (RX_store1 rfl rfl rfl (by first | decide | (simp; done) | omega | (simp; omega)) rfl)) (fun _ _ => ?_) Stg_no
      refine Stg_fin ?_ ?_
      · exact ReOk_nil
      refine NewOk_nil ?_
      refine WQ_then ?_
      refine WP_seq ?_
      refine WP_draw mixed (.stg [] [(0, [1]), (1, [5])] (.alt 2 [2, 34] (.stg [(1, [5])] [] (.alt 3 [3, 35] (.stg [] [] (.alt 4 [] (.fin [] []) .no)) .no)) .no)) (by kernel_rfl) ?_
      refine Stg_stg ?_ ?_
      · exact ReOk_nil
      first | refine NewOk_cons rfl rfl (VG_v rfl (VS_loadall rfl (by first | rfl | (simp; done)))) ?_ | refine NewOk_cons rfl rfl (VG_v rfl (VS_loadpart rfl rfl rfl)) ?_
      first | refine NewOk_cons rfl rfl (VG_v rfl (VS_loadall rfl (by first | rfl | (simp; done)))) ?_ | refine NewOk_cons rfl rfl (VG_v rfl (VS_loadpart rfl rfl rfl)) ?_
      refine NewOk_nil ?_
      refine Stg_none rfl (RG_x rfl (RX_storea rfl rfl (by first | rfl | (simp; done)) (by first | rfl | (simp; done)) (by first | exact OneC_of rfl | (simp; done) | (simp [OneC]; done) | assumption))) (fun _ _ => ?_) Stg_no
      refine Stg_stg ?_ ?_
      ·
        first | refine ReOk_cons rfl rfl (VG_v rfl (VS_loadall rfl (by first | rfl | (simp; done)))) ?_ | refine ReOk_cons rfl rfl (VG_v rfl (VS_loadpart rfl rfl rfl)) ?_
        exact ReOk_nil
      refine NewOk_nil ?_
      refine Stg_none rfl (RG_x rfl (RX_storea rfl rfl (by first | rfl | (simp; done)) (by first | rfl | (simp; done)) (by first | exact OneC_of rfl | (simp; done) | (simp [OneC]; done) | assumption))) (fun _ _ => ?_) Stg_no
      refine Stg_stg ?_ ?_
      · exact ReOk_nil
      refine NewOk_nil ?_
      refine Stg_some rfl rfl (RG_x rfl ((VS_assign rfl).rx)) (fun _ _ => ?_) Stg_no
      refine Stg_fin ?_ ?_
      · exact ReOk_nil
      refine NewOk_nil ?_
      refine WQ_then ?_
      refine WP_ret ?_
      exact WQ_ret () rfl (.agg rfl inferInstance inferInstance (by first | rfl | (simp; done)) (.agg rfl inferInstance inferInstance (by first | rfl | (simp; done)) (.tmp rfl .nil))) trivial (by rw [if_neg (by omega), box_set16 _ _ _ _ ((f + 1) % 4) _ (by omega), box_set17 _ _ _ _ (n - 1) _ (by omega)]; rfl) (ks := []) rfl (by decide)

theorem fn_close (r : Nat → Msg) (f n : Nat) (c : Bool) :
    FnV Try.prog 17 [.agg (encBox r f n c).toArray] (.tuple #[.agg (encBox r f n true).toArray, .int .i64 (if c then 11 else 0)]) := by
  refine fn_of Try.func17 (by kernel_rfl) rfl Try.ntmps17 rfl (fun cx hbs hpre hro => ?_)
  refine WP_seq ?_
  refine WP_region ?_
  refine WL_x rfl (RX_boxa rfl) (fun b1 _ => ?_)
  refine WL_x rfl (RX_alloc) (fun b2 _ => ?_)
  refine WL_v rfl (VS_assign rfl) ?_
  refine WL_nil ?_
  refine WQ_then ?_
  refine WP_seq ?_
  refine WP_seq ?_
  refine WP_region ?_
  first | refine WL_v rfl (VS_field0 rfl) ?_ | refine WL_v rfl (VS_field rfl) ?_
  refine WL_v rfl (VS_load rfl rfl) ?_
  refine WL_nil ?_
  refine WQ_then ?_
  refine WP_cond rfl (fun h0 => ?_) (fun h0 => ?_)
  ·
    refine WP_seq ?_
    refine WP_region ?_
    first | refine WL_v rfl (VS_loadall rfl (by first | rfl | (simp; done))) ?_ | refine WL_v rfl (VS_loadpart rfl rfl rfl) ?_
    refine WL_x0 (RX_storea rfl rfl (by first | rfl | (simp; done)) (by first | rfl | (simp; done)) (by first | exact OneC_of rfl | (simp; done) | (simp [OneC]; done) | assumption)) (fun _ _ => ?_)
    refine WL_v rfl (VS_assign rfl) ?_
    refine WL_nil ?_
    refine WQ_then ?_
    refine WP_ret ?_
    refine WQ_then_ret ?_
    exact WQ_ret () rfl (.agg rfl inferInstance inferInstance (by first | rfl | (simp; done)) (.tmp rfl .nil)) trivial (by simp [h0, retV]) (ks := []) rfl (by decide)
  ·
    refine WP_skip ?_
    refine WQ_then ?_
    refine WP_seq ?_
    refine WP_region ?_
    first | refine WL_v rfl (VS_field0 rfl) ?_ | refine WL_v rfl (VS_field rfl) ?_
    refine WL_x0 (RX_store1 rfl rfl rfl (by first | decide | (simp; done) | omega | (simp; omega)) rfl) (fun _ _ => ?_)
    refine WL_nil ?_
    refine WQ_then ?_
    refine WP_seq ?_
    refine WP_region ?_
    first | refine WL_v rfl (VS_loadall rfl (by first | rfl | (simp; done))) ?_ | refine WL_v rfl (VS_loadpart rfl rfl rfl) ?_
    refine WL_x0 (RX_storea rfl rfl (by first | rfl | (simp; done)) (by first | rfl | (simp; done)) (by first | exact OneC_of rfl | (simp; done) | (simp [OneC]; done) | assumption)) (fun _ _ => ?_)
    refine WL_v rfl (VS_assign rfl) ?_
    refine WL_nil ?_
    refine WQ_then ?_
    refine WP_ret ?_
    exact WQ_ret () rfl (.agg rfl inferInstance inferInstance (by first | rfl | (simp; done)) (.tmp rfl .nil)) trivial (by simp [h0, retV, box_set18]) (ks := []) rfl (by decide)
theorem fn_closed (r : Nat → Msg) (f n : Nat) (c : Bool) :
    FnV Try.prog 100 [.agg (encBox r f n c).toArray] (.bool c) := by
  refine fn_of Try.func100 (by kernel_rfl) rfl Try.ntmps100 rfl (fun cx hbs hpre hro => ?_)
  refine WP_seq ?_
  refine WP_region ?_
  refine WL_x rfl (RX_boxa rfl) (fun b1 _ => ?_)
  refine WL_v rfl (VS_assign rfl) ?_
  refine WL_nil ?_
  refine WQ_then ?_
  refine WP_seq ?_
  refine WP_region ?_
  first | refine WL_v rfl (VS_field0 rfl) ?_ | refine WL_v rfl (VS_field rfl) ?_
  refine WL_v rfl (VS_load rfl rfl) ?_
  refine WL_v rfl (VS_assign rfl) ?_
  refine WL_nil ?_
  refine WQ_then ?_
  refine WP_ret ?_
  exact WQ_ret () rfl (.tmp rfl .nil) trivial rfl (ks := []) rfl (by decide)

theorem fn_each (r : Nat → Msg) (f n : Nat) (c : Bool) :
    Bw.Fn (α := Nat) Try.prog 98 [.agg (encBox r f n c).toArray] (fun _ => True) [] (fun _ => True) (fun b => .func (.func 136) #[] #[Ptr b 0])
      (fun b => [.cells b 31 (encBox r f n c)]) := by
  refine fn_of Try.func98 (by kernel_rfl) rfl Try.ntmps98 rfl (fun cx hbs hpre hro => ?_)
  refine WP_seq ?_
  refine WP_region ?_
  refine WL_x rfl (RX_boxa rfl) (fun b1 _ => ?_)
  refine WL_v rfl (VS_assign rfl) ?_
  refine WL_nil ?_
  refine WQ_then ?_
  refine WP_seq ?_
  refine WP_region ?_
  refine WL_v rfl (VS_makeFunc rfl) ?_
  refine WL_v rfl (VS_assign rfl) ?_
  refine WL_nil ?_
  refine WQ_then ?_
  refine WP_ret ?_
  exact WQ_ret b1 rfl (.tmp rfl .nil) trivial rfl (ks := [0]) rfl (by decide)

theorem it_each (r : Nat → Msg) (f n : Nat) (c : Bool) (hf : f < 4) (hn : n ≤ 4) (b T : Nat) :
    IterFn Try.prog 136 [Ptr b 0] [.cells b T (encBox r f n c)] (fun _ => True) (fun i => [.agg (r ((f + i) % 4)).enc.toArray]) n := by
  refine ⟨fun y J Jx bs => fn_of Try.func136 (by kernel_rfl) rfl Try.ntmps136 rfl (fun cx hbs hpre hro => ?_)⟩
  have hR : Rnd Try.prog y cx.bs cx.w0 J Jx (fun i => [.agg (r ((f + i) % 4)).enc.toArray]) n := by rw [hbs]; exact hpre.2
  refine WP_seq ?_
  refine WP_region ?_
  first | refine WL_v rfl (VS_field0 rfl) ?_ | refine WL_v rfl (VS_field rfl) ?_
  refine WL_v rfl (VS_load rfl rfl) ?_
  refine WL_v rfl (VS_move rfl) ?_
  refine WL_nil ?_
  refine WQ_then ?_
  refine WP_block ?_
  refine WP_loops (α := Nat × List Nat) [4] (.cons rfl (.nil)) (fun ⟨k, es⟩ => [(0, .func (.yield y) #[] #[]), (1, Ptr b 0), (5, .int .i64 n), (6, .int .i64 k)]) (fun ⟨k, es⟩ => [.ext es (J k es), .cells b T (encBox r f n c)]) (fun ⟨k, es⟩ => k ≤ n) (fun ⟨k, es⟩ => n - k) (0, bs) (Nat.zero_le _) (by repeat' (first | exact Sub_nil | refine Sub_cons ?_ ?_ | rfl | (simp [lk]; done) | (simp [lk]; omega))) (ks := [0, 1]) rfl (by decide) ?_
  rintro ⟨k, es⟩ hp
  have hp : k ≤ n := hp
  refine WP_seq ?_
  refine WP_region ?_
  refine WL_v rfl (VS_lss rfl rfl) ?_
  refine WL_nil ?_
  refine WQ_then ?_
  refine WP_seq ?_
  refine WP_cond rfl (fun h0 => ?_) (fun h0 => ?_)
  ·
    refine WP_skip ?_
    refine WQ_then ?_
    refine WP_seq ?_
    refine WP_block ?_
    refine WP_seq ?_
    refine WP_region ?_
    refine WL_v rfl (VS_move rfl) ?_
    refine WL_v rfl (VS_assign rfl) ?_
    refine WL_nil ?_
    refine WQ_then ?_
    refine WP_seq ?_
    refine WP_region ?_
    refine WL_v rfl (VS_move rfl) ?_
    first | refine WL_v rfl (VS_loadall rfl (by first | rfl | (simp; done))) ?_ | refine WL_v rfl (VS_loadpart rfl rfl rfl) ?_
    refine WL_v rfl (VS_move rfl) ?_
    refine WL_v rfl (VS_call (fn_at r f n c k hf (by omega)) rfl (fun _ _ _ => trivial)) ?_
    first | refine WL_v rfl (VS_field0 rfl) ?_ | refine WL_v rfl (VS_field rfl) ?_
    first | refine WL_v rfl (VS_index0 rfl rfl rfl (by omega)) ?_ | refine WL_v rfl (VS_index0 rfl rfl (IntWalk.up_add rfl rfl) (by omega)) ?_ | refine WL_v rfl (VS_index0 rfl rfl (Int.toNat_of_nonneg (by omega)).symm (by omega)) ?_ | refine WL_v rfl (VS_index rfl rfl rfl (by omega)) ?_ | refine WL_v rfl (VS_index rfl rfl (IntWalk.up_add rfl rfl) (by omega)) ?_ | refine WL_v rfl (VS_index rfl rfl (Int.toNat_of_nonneg (by omega)).symm (by omega)) ?_
    refine WL_v rfl (VS_loadpart (vs := (r ((f + k) % 4)).enc) rfl (box_part r f n c ((f + k) % 4) (Nat.mod_lt _ (by decide))) rfl) ?_
    refine WL_x rfl (RX_yield (bs := es) hR (show k < n by omega) hro rfl rfl) (fun ⟨go, es'⟩ _ => ?_)
    refine WL_v rfl (VS_not rfl) ?_
    refine WL_nil ?_
    refine WQ_then ?_
    refine WP_cond rfl (fun h1 => ?_) (fun h1 => ?_)
    ·
      obtain rfl : go = false := by simpa using h1
      refine WP_ret ?_
      refine WQ_block_ret ?_
      refine WQ_then_ret ?_
      refine WQ_then_ret ?_
      refine WQ_block_ret ?_
      exact WQ_ret (false, es') rfl .nil trivial rfl (ks := [0, 1]) rfl (by decide)
    ·
      obtain rfl : go = true := by simpa using h1
      refine WP_skip ?_
      refine WQ_block ?_
      refine WQ_then ?_
      refine WP_region ?_
      first | refine WL_v rfl (VS_add rfl rfl (IntWalk.i64_in _ (by omega))) ?_ | refine WL_v rfl (VS_add rfl rfl rfl) ?_
      refine WL_v rfl (VS_move rfl) ?_
      refine WL_nil ?_
      refine WQ_loops (k + 1, es') (by first | omega | (simp; omega)) (by omega) (by repeat' (first | exact Sub_nil | refine Sub_cons ?_ ?_ | rfl | (simp [lk]; done) | (simp [lk]; omega))) (.cons rfl (.nil)) (ks := [0, 1]) rfl (by decide)
  ·
    have e : k = n := by omega
    subst e
    refine WP_exit ?_
    refine WQ_then_exit ?_
    refine WQ_then_exit ?_
    refine WQ_block_exit ?_
    exact WQ_end (true, es) rfl .nil trivial rfl (ks := [0, 1]) rfl (by decide)

theorem fn_clip (v : Value) (n : Nat) (xs : List Value) :
    FnW Try.prog 99 [v] (fun w => Ro w v 4 n xs) (clipV v) := by
  refine fn_of Try.func99 (by kernel_rfl) rfl Try.ntmps99 rfl (fun cx hbs hpre hro => ?_)
  haveI : ∀ H, RowAt cx H v 4 n xs := fun H => rowAt_ro hpre hbs
  refine WP_seq ?_
  refine WP_region ?_
  refine WL_v rfl (VS_assign rfl) ?_
  refine WL_nil ?_
  refine WQ_then ?_
  refine WP_seq ?_
  refine WP_region ?_
  refine WL_v rfl (VS_move rfl) ?_
  refine WL_v rfl (VS_move rfl) ?_
  refine WL_v rfl (VS_len rfl) ?_
  refine WL_v rfl (VS_move rfl) ?_
  refine WL_v rfl (VS_len rfl) ?_
  refine WL_v rfl (VS_clip rfl rfl rfl) ?_
  refine WL_v rfl (VS_assign rfl) ?_
  refine WL_nil ?_
  refine WQ_then ?_
  refine WP_ret ?_
  exact WQ_ret () rfl (.tmp rfl .nil) trivial rfl (ks := []) rfl (by decide)

def msgs (r : Nat → Msg) (f n : Nat) : List Value := flat (fun i => (r ((f + i) % 4)).enc) n
theorem msgs_len (r : Nat → Msg) (f n : Nat) : (msgs r f n).length = n * 4 := flat_len fun _ _ => enc_len _
theorem fn_all (r : Nat → Msg) (f n : Nat) (c : Bool) (hf : f < 4) (hn : n ≤ 4) :
    Bw.Fn (α := Value) Try.prog 19 [.agg (encBox r f n c).toArray] (fun _ => True) [] (fun v => SlN v n) (fun v => v)
      (fun v => [.sl v 4 n (msgs r f n)]) := by
  refine fn_of Try.func19 (by kernel_rfl) rfl Try.ntmps19 rfl (fun cx hbs hpre hro => ?_)
  refine WP_seq ?_
  refine WP_region ?_
  refine WL_x rfl (RX_boxa rfl) (fun b1 _ => ?_)
  refine WL_v rfl (VS_assign rfl) ?_
  refine WL_nil ?_
  refine WQ_then ?_
  refine WP_seq ?_
  refine WP_region ?_
  refine WL_x rfl (RX_alloc) (fun b3 _ => ?_)
  refine WL_nil ?_
  refine WQ_then ?_
  refine WP_seq ?_
  refine WP_seq ?_
  refine WP_region ?_
  refine WL_row0 28 4 ?_
  first | refine WL_v rfl (VS_loadall rfl (by first | rfl | (simp; done))) ?_ | refine WL_v rfl (VS_loadpart rfl rfl rfl) ?_
  refine WL_x rfl (RX_call (fn_each r f n c) rfl (fun _ _ _ => trivial)) (fun bc _ => ?_)
  dsimp only [List.cons_append, List.nil_append]
  refine WL_nil ?_
  refine WQ_then ?_
  refine WP_block ?_
  refine WP_range hro rfl (it_each r f n c hf hn bc 31) (fun _ => rfl) rfl (fun _ _ _ => trivial) (fun k (v : Value) => SlN v k) (fun k v => [.cells b3 40 [v], .row v 28 4 k (msgs r f k)]) (fun _ _ => False) (fun (_ : Unit) => []) (.slice none 0 0) ⟨_, _, rfl⟩ (ks := [0, 2, 1]) rfl (by decide) ?_ ?_ ?_
  ·
    rintro k v l dd rec c' hk hp hrs hrp hro' hsi hT
    have hp : SlN v k := hp
    refine WP_region ?_
    refine WL_x rfl (RX_alloc) (fun b4 _ => ?_)
    refine WL_x0 (RX_storea rfl rfl (by first | rfl | (simp; done)) (by first | rfl | (simp; done)) (by first | exact OneC_of rfl | (simp; done) | (simp [OneC]; done) | assumption)) (fun _ _ => ?_)
    refine WL_nil ?_
    refine WQ_begin hrs hro' ?_
    refine WP_block ?_
    refine WP_region ?_
    refine WL_v rfl (VS_load rfl rfl) ?_
    first | refine WL_v rfl (VS_loadall rfl (by first | rfl | (simp; done))) ?_ | refine WL_v rfl (VS_loadpart rfl rfl rfl) ?_
    refine WL_x rfl (RX_buildSlice1 (sz := 4) (zs := Msg.zero.enc) (cs := (r ((f + k) % 4)).enc) rfl rfl rfl rfl (by decide) (by decide)) (fun b10 _ => ?_)
    refine WL_x rfl (RX_append (bytes := 24) (b := b10) rfl rfl rfl (one_enc _) (by omega) (by omega)) (fun v' hv' => ?_)
    refine WL_x0 (RX_store1 rfl rfl hv'.cells (by simp) hv'.one) (fun _ _ => ?_)
    refine WL_nil ?_
    refine WQ_block ?_
    exact WQ_next hrs hrp hT v' hv' (ks := [2, 3, 4, 5]) rfl (by decide)
  ·
    rintro dd v hp
    have hp : SlN v n := hp
    dsimp only [List.cons_append, List.nil_append]
    refine WQ_block ?_
    refine WQ_then ?_
    refine WP_seq ?_
    refine WP_region ?_
    refine WL_v rfl (VS_load rfl rfl) ?_
    refine WL_v rfl (VS_call (fn_clip v n (msgs r f n)) rfl (fun w _ hp => Ro.of_row (hp.holds (.row v 28 4 n (msgs r f n)) (by simp)))) ?_
    refine WL_v rfl (VS_assign rfl) ?_
    refine WL_nil ?_
    refine WQ_then ?_
    refine WP_ret ?_
    refine WQ_clip v ?_
    exact WQ_retm (clipV v) rfl (.tmp rfl .nil) hp.clip rfl (ks := [3]) rfl (by decide)
  ·
    intro dd j i hf; exact hf.elim

theorem fn_drain (r : Nat → Msg) (f n : Nat) (c : Bool) (hf : f < 4) (hn : n ≤ 4) :
    Bw.Fn (α := Value) Try.prog 22 [.agg (encBox r f n c).toArray] (fun _ => True) [] (fun v => SlN v n) (fun v => .tuple #[.agg (encBox (fun _ => Msg.zero) 0 0 true).toArray, v])
      (fun v => [.sl v 4 n (msgs r f n)]) := by
  refine fn_of Try.func22 (by kernel_rfl) rfl Try.ntmps22 rfl (fun cx hbs hpre hro => ?_)
  refine WP_seq ?_
  refine WP_region ?_
  refine WL_x rfl (RX_boxa rfl) (fun b1 _ => ?_)
  refine WL_x rfl (RX_alloc) (fun b2 _ => ?_)
  refine WL_v rfl (VS_assign rfl) ?_
  refine WL_nil ?_
  refine WQ_then ?_
  refine WP_seq ?_
  refine WP_region ?_
  refine WL_v rfl (VS_build rfl rfl) ?_
  first | refine WL_v rfl (VS_loadall rfl (by first | rfl | (simp; done))) ?_ | refine WL_v rfl (VS_loadpart rfl rfl rfl) ?_
  refine WL_x rfl (RX_call (fn_all r f n c hf hn) rfl (fun _ _ _ => trivial)) (fun v hv => ?_)
  dsimp only [List.cons_append, List.nil_append]
  refine WL_x0 (RX_storea (vs := encBox (fun _ => Msg.zero) 0 0 true) rfl rfl (by rfl) (by rfl) (one_box _ _ _ _)) (fun _ _ => ?_)
  refine WL_v rfl (VS_assign rfl) ?_
  refine WL_nil ?_
  refine WQ_then ?_
  refine WP_ret ?_
  exact WQ_ret v rfl (.agg rfl inferInstance inferInstance (by first | rfl | (simp; done)) (.tmp rfl .nil)) hv rfl (ks := [0]) rfl (by decide)

/-! the same, told alike whatever comes -/
def takeF (f n : Nat) : Nat := if n = 0 then f else (f + 1) % 4
def takeM (r : Nat → Msg) (f n : Nat) : Msg := if n = 0 then Msg.zero else r f
def takeE (n : Nat) (c : Bool) : Int := if n = 0 then (if c then 11 else 10) else 0
theorem fn_take' (r : Nat → Msg) (f n : Nat) (c : Bool) (hf : f < 4) (hn : n ≤ 4) :
    FnV Try.prog 16 [.agg (encBox r f n c).toArray] (.tuple #[.agg (encBox r (takeF f n) (n - 1) c).toArray, .agg (takeM r f n).enc.toArray, .int .i64 (takeE n c)]) := by
  have h := fn_take r f n c hf hn
  by_cases e : n = 0
  · subst e; simpa [takeF, takeM, takeE] using h
  · simpa [takeF, takeM, takeE, e] using h
def putR (r : Nat → Msg) (f n : Nat) (c : Bool) (m : Msg) : Nat → Msg := if c || n == 4 then r else Box.put r f n m
def putN (n : Nat) (c : Bool) : Nat := if c || n == 4 then n else n + 1
def putE (n : Nat) (c : Bool) : Int := if c then 11 else if n = 4 then 7 else 0
theorem fn_put' (r : Nat → Msg) (f n : Nat) (c : Bool) (m : Msg) (hf : f < 4) (hn : n ≤ 4) :
    FnV Try.prog 18 [.agg (encBox r f n c).toArray, .agg m.enc.toArray] (.tuple #[.agg (encBox (putR r f n c m) f (putN n c) c).toArray, .int .i64 (putE n c)]) := by
  have h := fn_put r f n c m hf hn
  cases c
  · by_cases e : n = 4
    · subst e; simpa [putR, putN, putE] using h
    · simpa [putR, putN, putE, e] using h
  · simpa [putR, putN, putE] using h
abbrev zs : Nat → Msg := fun _ => Msg.zero

theorem fn_wakes11 : FnV Try.prog 15 [] (.bool true) := by
  refine fn_of Try.func15 (by kernel_rfl) rfl Try.ntmps15 rfl (fun cx hbs hpre hro => ?_)
  refine WP_seq ?_
  refine WP_region ?_
  refine WL_v rfl (VS_assign rfl) ?_
  refine WL_nil ?_
  refine WQ_then ?_
  refine WP_seq ?_
  refine WP_region ?_
  refine WL_x rfl (RX_alloc) (fun b1 _ => ?_)
  refine WL_nil ?_
  refine WQ_then ?_
  refine WP_seq ?_
  refine WP_region ?_
  first | refine WL_v rfl (VS_loadall rfl (by first | rfl | (simp; done))) ?_ | refine WL_v rfl (VS_loadpart rfl rfl rfl) ?_
  refine WL_v rfl (VS_build rfl rfl) ?_
  refine WL_v rfl (VS_call (fn_put zs 0 0 false ⟨0, 1, 0, false⟩ (by decide) (by decide)) rfl (fun _ _ _ => trivial)) ?_
  refine WL_v rfl (VS_move rfl) ?_
  refine WL_v rfl (VS_extract rfl rfl) ?_
  refine WL_v rfl (VS_extract rfl rfl) ?_
  refine WL_x0 (RX_storea rfl rfl (by first | rfl | (simp; done)) (by first | rfl | (simp; done)) (by first | exact OneC_of rfl | (simp; done) | (simp [OneC]; done) | assumption)) (fun _ _ => ?_)
  refine WL_v rfl (VS_assign rfl) ?_
  refine WL_nil ?_
  refine WQ_then ?_
  refine WP_seq ?_
  refine WP_region ?_
  first | refine WL_v rfl (VS_loadall rfl (by first | rfl | (simp; done))) ?_ | refine WL_v rfl (VS_loadpart rfl rfl rfl) ?_
  refine WL_v rfl (VS_build rfl rfl) ?_
  refine WL_v rfl (VS_call (fn_put (upd zs 0 ⟨0, 1, 0, false⟩) 0 1 false ⟨0, 2, 0, false⟩ (by decide) (by decide)) rfl (fun _ _ _ => trivial)) ?_
  refine WL_v rfl (VS_move rfl) ?_
  refine WL_v rfl (VS_extract rfl rfl) ?_
  refine WL_v rfl (VS_extract rfl rfl) ?_
  refine WL_x0 (RX_storea rfl rfl (by first | rfl | (simp; done)) (by first | rfl | (simp; done)) (by first | exact OneC_of rfl | (simp; done) | (simp [OneC]; done) | assumption)) (fun _ _ => ?_)
  refine WL_v rfl (VS_assign rfl) ?_
  refine WL_nil ?_
  refine WQ_then ?_
  refine WP_seq ?_
  refine WP_region ?_
  first | refine WL_v rfl (VS_loadall rfl (by first | rfl | (simp; done))) ?_ | refine WL_v rfl (VS_loadpart rfl rfl rfl) ?_
  refine WL_v rfl (VS_call (fn_take (upd (upd zs 0 ⟨0, 1, 0, false⟩) 1 ⟨0, 2, 0, false⟩) 0 2 false (by decide) (by decide)) rfl (fun _ _ _ => trivial)) ?_
  refine WL_v rfl (VS_move rfl) ?_
  refine WL_v rfl (VS_extract rfl rfl) ?_
  refine WL_v rfl (VS_extract rfl rfl) ?_
  refine WL_v rfl (VS_extract rfl rfl) ?_
  refine WL_x rfl (RX_alloc) (fun b4 _ => ?_)
  refine WL_x0 (RX_storea rfl rfl (by first | rfl | (simp; done)) (by first | rfl | (simp; done)) (by first | exact OneC_of rfl | (simp; done) | (simp [OneC]; done) | assumption)) (fun _ _ => ?_)
  refine WL_x0 (RX_storea rfl rfl (by first | rfl | (simp; done)) (by first | rfl | (simp; done)) (by first | exact OneC_of rfl | (simp; done) | (simp [OneC]; done) | assumption)) (fun _ _ => ?_)
  refine WL_v rfl (VS_assign rfl) ?_
  refine WL_nil ?_
  refine WQ_then ?_
  refine WP_seq ?_
  refine WP_region ?_
  first | refine WL_v rfl (VS_loadall rfl (by first | rfl | (simp; done))) ?_ | refine WL_v rfl (VS_loadpart rfl rfl rfl) ?_
  refine WL_v rfl (VS_call (fn_close (upd (upd zs 0 ⟨0, 1, 0, false⟩) 1 ⟨0, 2, 0, false⟩) 1 1 false) rfl (fun _ _ _ => trivial)) ?_
  refine WL_v rfl (VS_move rfl) ?_
  refine WL_v rfl (VS_extract rfl rfl) ?_
  refine WL_v rfl (VS_extract rfl rfl) ?_
  refine WL_x0 (RX_storea rfl rfl (by first | rfl | (simp; done)) (by first | rfl | (simp; done)) (by first | exact OneC_of rfl | (simp; done) | (simp [OneC]; done) | assumption)) (fun _ _ => ?_)
  refine WL_v rfl (VS_assign rfl) ?_
  refine WL_nil ?_
  refine WQ_then ?_
  refine WP_seq ?_
  refine WP_region ?_
  first | refine WL_v rfl (VS_loadall rfl (by first | rfl | (simp; done))) ?_ | refine WL_v rfl (VS_loadpart rfl rfl rfl) ?_
  refine WL_v rfl (VS_build rfl rfl) ?_
  refine WL_v rfl (VS_call (fn_put (upd (upd zs 0 ⟨0, 1, 0, false⟩) 1 ⟨0, 2, 0, false⟩) 1 1 true Msg.zero (by decide) (by decide)) rfl (fun _ _ _ => trivial)) ?_
  refine WL_v rfl (VS_move rfl) ?_
  refine WL_v rfl (VS_extract rfl rfl) ?_
  refine WL_v rfl (VS_extract rfl rfl) ?_
  refine WL_x rfl (RX_alloc) (fun b7 _ => ?_)
  refine WL_x0 (RX_storea rfl rfl (by first | rfl | (simp; done)) (by first | rfl | (simp; done)) (by first | exact OneC_of rfl | (simp; done) | (simp [OneC]; done) | assumption)) (fun _ _ => ?_)
  refine WL_v rfl (VS_assign rfl) ?_
  refine WL_nil ?_
  refine WQ_then ?_
  refine WP_seq ?_
  refine WP_region ?_
  first | refine WL_v rfl (VS_loadall rfl (by first | rfl | (simp; done))) ?_ | refine WL_v rfl (VS_loadpart rfl rfl rfl) ?_
  refine WL_v rfl (VS_call (fn_take (upd (upd zs 0 ⟨0, 1, 0, false⟩) 1 ⟨0, 2, 0, false⟩) 1 1 true (by decide) (by decide)) rfl (fun _ _ _ => trivial)) ?_
  refine WL_v rfl (VS_move rfl) ?_
  refine WL_v rfl (VS_extract rfl rfl) ?_
  refine WL_v rfl (VS_extract rfl rfl) ?_
  refine WL_v rfl (VS_extract rfl rfl) ?_
  refine WL_x rfl (RX_alloc) (fun b9 _ => ?_)
  refine WL_x0 (RX_storea rfl rfl (by first | rfl | (simp; done)) (by first | rfl | (simp; done)) (by first | exact OneC_of rfl | (simp; done) | (simp [OneC]; done) | assumption)) (fun _ _ => ?_)
  refine WL_x0 (RX_storea rfl rfl (by first | rfl | (simp; done)) (by first | rfl | (simp; done)) (by first | exact OneC_of rfl | (simp; done) | (simp [OneC]; done) | assumption)) (fun _ _ => ?_)
  refine WL_v rfl (VS_assign rfl) ?_
  refine WL_nil ?_
  refine WQ_then ?_
  refine WP_seq ?_
  refine WP_region ?_
  first | refine WL_v rfl (VS_loadall rfl (by first | rfl | (simp; done))) ?_ | refine WL_v rfl (VS_loadpart rfl rfl rfl) ?_
  refine WL_v rfl (VS_call (fn_take (upd (upd zs 0 ⟨0, 1, 0, false⟩) 1 ⟨0, 2, 0, false⟩) 2 0 true (by decide) (by decide)) rfl (fun _ _ _ => trivial)) ?_
  refine WL_v rfl (VS_move rfl) ?_
  refine WL_v rfl (VS_extract rfl rfl) ?_
  refine WL_v rfl (VS_extract rfl rfl) ?_
  refine WL_v rfl (VS_extract rfl rfl) ?_
  refine WL_x rfl (RX_alloc) (fun b11 _ => ?_)
  refine WL_x rfl (RX_alloc) (fun b12 _ => ?_)
  refine WL_x0 (RX_storea rfl rfl (by first | rfl | (simp; done)) (by first | rfl | (simp; done)) (by first | exact OneC_of rfl | (simp; done) | (simp [OneC]; done) | assumption)) (fun _ _ => ?_)
  refine WL_x0 (RX_storea rfl rfl (by first | rfl | (simp; done)) (by first | rfl | (simp; done)) (by first | exact OneC_of rfl | (simp; done) | (simp [OneC]; done) | assumption)) (fun _ _ => ?_)
  refine WL_v rfl (VS_assign rfl) ?_
  refine WL_nil ?_
  refine WQ_then ?_
  refine WP_seq ?_
  refine WP_region ?_
  refine WL_v rfl (VS_move rfl) ?_
  refine WL_v rfl (VS_eql rfl rfl) ?_
  refine WL_v rfl (VS_move rfl) ?_
  refine WL_g (Gd_b rfl rfl) rfl (fun hb => VS_move rfl) ?_
  refine WL_g (Gd_b rfl rfl) rfl (fun hb => VS_eql (gev rfl hb) rfl) ?_
  refine WL_v rfl (VS_and rfl rfl) ?_
  refine WL_v rfl (VS_move rfl) ?_
  first | refine WL_g (Gd_b rfl rfl) rfl (fun hb => VS_field0 rfl) ?_ | refine WL_g (Gd_b rfl rfl) rfl (fun hb => VS_field rfl) ?_
  refine WL_g (Gd_b rfl rfl) rfl (fun hb => VS_load (gev rfl hb) rfl) ?_
  refine WL_g (Gd_b rfl rfl) rfl (fun hb => VS_eql (gev rfl hb) rfl) ?_
  refine WL_v rfl (VS_and rfl rfl) ?_
  refine WL_v rfl (VS_move rfl) ?_
  refine WL_g (Gd_b rfl rfl) rfl (fun hb => VS_move rfl) ?_
  refine WL_g (Gd_b rfl rfl) rfl (fun hb => VS_eql (gev rfl hb) rfl) ?_
  refine WL_v rfl (VS_and rfl rfl) ?_
  refine WL_v rfl (VS_move rfl) ?_
  refine WL_g (Gd_b rfl rfl) rfl (fun hb => VS_move rfl) ?_
  refine WL_g (Gd_b rfl rfl) rfl (fun hb => VS_eql (gev rfl hb) rfl) ?_
  refine WL_v rfl (VS_and rfl rfl) ?_
  refine WL_v rfl (VS_move rfl) ?_
  refine WL_g (Gd_b rfl rfl) rfl (fun hb => VS_move rfl) ?_
  refine WL_g (Gd_b rfl rfl) rfl (fun hb => VS_eql (gev rfl hb) rfl) ?_
  refine WL_v rfl (VS_and rfl rfl) ?_
  refine WL_v rfl (VS_move rfl) ?_
  first | refine WL_g (Gd_b rfl rfl) rfl (fun hb => VS_field0 rfl) ?_ | refine WL_g (Gd_b rfl rfl) rfl (fun hb => VS_field rfl) ?_
  refine WL_g (Gd_b rfl rfl) rfl (fun hb => VS_load (gev rfl hb) rfl) ?_
  refine WL_g (Gd_b rfl rfl) rfl (fun hb => VS_eql (gev rfl hb) rfl) ?_
  refine WL_v rfl (VS_and rfl rfl) ?_
  refine WL_v rfl (VS_move rfl) ?_
  refine WL_g (Gd_b rfl rfl) rfl (fun hb => VS_move rfl) ?_
  refine WL_g (Gd_b rfl rfl) rfl (fun hb => VS_eql (gev rfl hb) rfl) ?_
  refine WL_v rfl (VS_and rfl rfl) ?_
  refine WL_v rfl (VS_move rfl) ?_
  refine WL_g (Gd_b rfl rfl) rfl (fun hb => VS_move rfl) ?_
  refine WL_g (Gd_b rfl rfl) rfl (fun hb => VS_eql (gev rfl hb) rfl) ?_
  refine WL_v rfl (VS_and rfl rfl) ?_
  refine WL_v rfl (VS_assign rfl) ?_
  refine WL_nil ?_
  refine WQ_then ?_
  refine WP_ret ?_
  exact WQ_ret () rfl (.tmp rfl .nil) trivial rfl (ks := []) rfl (by decide)

end Go.Proofs.Ytcdnmiianjaglaa
