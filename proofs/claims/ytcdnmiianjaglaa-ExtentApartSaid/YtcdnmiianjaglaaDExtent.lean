/- Decompiled: package extent, its document's answer, its statements. -/
import Derived.Test.YtcdnmiianjaglaaTypes
import Derived.Test.YtcdnmiianjaglaaSl4
import Derived.Test.YtcdnmiianjaglaaDRuns
namespace Go.Proofs.Ytcdnmiianjaglaa
open Go Go.Bw
structure ref04_Extent where
  Runs : (List (Nat → Int))
  Len : Int
abbrev L_ref04_Extent : Lay ref04_Extent := Lay.via (LP (LSl (LA (LI .i64) 2)) (LI .i64)) (fun x => (x.Runs, x.Len))
abbrev Z_ref04_Extent : ref04_Extent := ⟨[], 0⟩
instance : Inhabited ref04_Extent := ⟨Z_ref04_Extent⟩
def zc_ref04_Extent : List Value := [.slice none 0 0] ++ ([.int .i64 0])
theorem zr_ref04_Extent {A : World → Prop} : L_ref04_Extent.rep A zc_ref04_Extent Z_ref04_Extent := ⟨_, _, rfl, ⟨_, rfl, Fz.nil⟩, rfl⟩
theorem P_ref04_Extent_Runs : Pth L_ref04_Extent (LSl (LA (LI .i64) 2)) 0 (fun x => x.Runs) (fun x v => { x with Runs := v }) := (Pth.fst Pth.id).via _ _ _ 0 rfl (fun _ => rfl) (fun _ _ => rfl)
theorem P_ref04_Extent_Len : Pth L_ref04_Extent (LI .i64) 1 (fun x => x.Len) (fun x v => { x with Len := v }) := (Pth.snd Pth.id).via _ _ _ 1 rfl (fun _ => rfl) (fun _ _ => rfl)
def ref04_Extent_Bytes (n : Nat) (a0 : ref04_Extent) : Option (List Int) :=
  loop2 (fun k33 (x27 : (List Int)) (x30 : Int) =>
  cn (decide (x30 < (a0.Runs.length : Int))) (
  loop2 (fun k46 (x40 : (List Int)) (x43 : Int) =>
  gu (inb x30 a0.Runs.length) <|
  cn (decide (x43 < (wr .i64 (32 * ((a0.Runs.getD (Int.toNat x30) default) 1))))) (
  gu (inb x30 a0.Runs.length) <|
  gu (apok x40.length 1 8) <|
  lt (x40 ++ ([wr .i64 ((wr .i64 (32 * ((a0.Runs.getD (Int.toNat x30) default) 0))) + x43)]) : List Int) fun x54 =>
  k46 x54 (wr .i64 (x43 + 1))) (
  k33 x40 (wr .i64 (x30 + 1)))) n x27 0) (
  some x27)) n ([]) 0
theorem c_ref04_Extent_Bytes {n : Nat} {a0 : ref04_Extent} {r : (List Int)} {K : World → Prop} [Stable K] {cs0 : List Value} (f0 : (L_ref04_Extent).rep K cs0 a0) (h : ref04_Extent_Bytes n a0 = some r) : FnB Try.prog 56 [.agg cs0.toArray] K (fun J v => Fz (fun w => K w ∧ J w) v (LI .i64) r) := by
  unfold ref04_Extent_Bytes at h
  refine fn_of Try.func56 (by kernel_rfl) rfl Try.ntmps56 rfl (fun cx hbs hpre hro => ?_)
  haveI := knf_pre hbs hpre
  refine WP_seq ?_
  refine WP_region ?_
  refine WL_x rfl (RX_boxa rfl) (fun b1 _ => ?_)
  refine WL_v rfl (VS_assign rfl) ?_
  refine WL_nil ?_
  refine WQ_then ?_
  refine WP_seq ?_
  refine WP_region ?_
  refine WL_v rfl (VS_assign rfl) ?_
  refine WL_nil ?_
  refine WQ_then ?_
  refine WP_seq ?_
  refine WP_seq ?_
  refine WP_region ?_
  refine WL_v rfl (VS_assign rfl) ?_
  refine WL_nil ?_
  refine WQ_then ?_
  refine WP_block ?_
  refine WP_rowN 3 1 (LI .i64) ?_
  obtain ⟨lb31, hlb31, h⟩ := lp2_i h
  refine WP_loops (α := Nat × (List Int) × Int × Value) [1] (.cons rfl (.nil)) (fun (m32, x27, x30, v28) => [(3, v28), (4, .int .i64 x30)]) (fun (m32, x27, x30, v28) => [Row v28 3 1 (LI .i64) x27, .cells b1 119 cs0]) (fun (m32, x27, x30, v28) => SlN v28 x27.length ∧ loop2 lb31 m32 x27 x30 = some r) (fun (m32, x27, x30, v28) => m32) (n, [], 0, .slice none 0 0) ⟨⟨_, _, rfl⟩, h⟩ (Sub_cons rfl (Sub_cons rfl (Sub_nil))) (ks := [0, 1]) rfl (by decide) ?_
  rintro ⟨m32, x27, x30, v28⟩ ⟨hs29, h⟩
  replace h : loop2 lb31 m32 x27 x30 = some r := h
  replace h := lp2_s hlb31 h
  obtain ⟨m32, rfl, h⟩ := h
  refine WP_seq ?_
  refine WP_seq ?_
  refine WP_region ?_
  refine WL_v rfl (VS_move rfl) ?_
  refine WL_v rfl (VS_field0 rfl) ?_
  obtain ⟨v34, hv34, f35⟩ := P_ref04_Extent_Runs.sl f0
  refine WL_v rfl (VS_load rfl hv34) ?_
  refine WL_v rfl (VS_lenF f35 rfl) ?_
  refine WL_v rfl (VS_lss rfl rfl) ?_
  refine WL_nil ?_
  refine WQ_then ?_
  refine WP_if rfl (fun hc => ?_) (fun hc => ?_)
  ·
    replace h := cn_t hc h
    refine WP_skip ?_
    refine WQ_then ?_
    refine WP_seq ?_
    refine WP_block ?_
    refine WP_seq ?_
    refine WP_region ?_
    refine WL_v rfl (VS_assign rfl) ?_
    refine WL_nil ?_
    refine WQ_then ?_
    refine WP_block ?_
    obtain ⟨lb44, hlb44, h⟩ := lp2_i h
    refine WP_loops (α := Nat × (List Int) × Int × Value) [1, 4] (.cons rfl (.cons rfl (.nil))) (fun (m45, x40, x43, v41) => [(3, v41), (5, .int .i64 x43)]) (fun (m45, x40, x43, v41) => [Row v41 3 1 (LI .i64) x40, .cells b1 119 cs0]) (fun (m45, x40, x43, v41) => SlN v41 x40.length ∧ loop2 lb44 m45 x40 x43 = some r) (fun (m45, x40, x43, v41) => m45) (n, x27, 0, v28) ⟨hs29, h⟩ (Sub_cons rfl (Sub_cons rfl (Sub_nil))) (ks := [0, 1]) rfl (by decide) ?_
    rintro ⟨m45, x40, x43, v41⟩ ⟨hs42, h⟩
    replace h : loop2 lb44 m45 x40 x43 = some r := h
    replace h := lp2_s hlb44 h
    obtain ⟨m45, rfl, h⟩ := h
    refine WP_seq ?_
    refine WP_seq ?_
    obtain ⟨hg49, h⟩ := gu_e h
    refine WP_region ?_
    refine WL_v rfl (VS_move rfl) ?_
    refine WL_v rfl (VS_field0 rfl) ?_
    obtain ⟨v47, hv47, f48⟩ := P_ref04_Extent_Runs.sl f0
    refine WL_v rfl (VS_load rfl hv47) ?_
    refine WL_v rfl (VS_move rfl) ?_
    refine WL_v rfl (VS_ixF (m := (Int.toNat x30)) f48 rfl rfl rfl (inb_e hg49).1 (inb_e hg49).2) ?_
    refine WL_v rfl (VS_ixR (m := 1) f48 rfl rfl (inb_e hg49).2 rfl (by decide)) ?_
    refine WL_v rfl (VS_ldiF f48 ((Pth.idx (L := (LA (LI .i64) 2)) (m := (a0.Runs.length)) (k := 2) ((Int.toNat x30)) (inb_e hg49).2 rfl).comp (Pth.idx (L := (LI .i64)) (m := 2) (k := 1) (1) (by decide) rfl)) rfl) ?_
    refine WL_v rfl (VS_mul rfl rfl rfl) ?_
    refine WL_v rfl (VS_lss rfl rfl) ?_
    refine WL_nil ?_
    refine WQ_then ?_
    refine WP_if rfl (fun hc => ?_) (fun hc => ?_)
    ·
      replace h := cn_t hc h
      refine WP_skip ?_
      refine WQ_then ?_
      refine WP_seq ?_
      refine WP_block ?_
      obtain ⟨hg52, h⟩ := gu_e h
      obtain ⟨hg53, h⟩ := gu_e h
      obtain ⟨x54, hx54, h⟩ := lt_e h
      refine WP_region ?_
      refine WL_v rfl (VS_move rfl) ?_
      refine WL_v rfl (VS_field0 rfl) ?_
      obtain ⟨v50, hv50, f51⟩ := P_ref04_Extent_Runs.sl f0
      refine WL_v rfl (VS_load rfl hv50) ?_
      refine WL_v rfl (VS_move rfl) ?_
      refine WL_v rfl (VS_ixF (m := (Int.toNat x30)) f51 rfl rfl rfl (inb_e hg52).1 (inb_e hg52).2) ?_
      refine WL_v rfl (VS_ixR (m := 0) f51 rfl rfl (inb_e hg52).2 rfl (by decide)) ?_
      refine WL_v rfl (VS_ldiF f51 ((Pth.idx (L := (LA (LI .i64) 2)) (m := (a0.Runs.length)) (k := 2) ((Int.toNat x30)) (inb_e hg52).2 rfl).comp (Pth.idx (L := (LI .i64)) (m := 2) (k := 1) (0) (by decide) rfl)) rfl) ?_
      refine WL_v rfl (VS_mul rfl rfl rfl) ?_
      refine WL_v rfl (VS_move rfl) ?_
      refine WL_v rfl (VS_add rfl rfl rfl) ?_
      refine WL_x rfl (RX_bs1 (LI .i64) (wr .i64 ((wr .i64 (32 * ((a0.Runs.getD (Int.toNat x30) default) 0))) + x43)) rfl rfl rfl rfl (by decide) (by decide)) (fun b34 _ => ?_)
      refine WL_x rfl (RX_app1 (sz := 1) (L := (LI .i64)) (xs := x40) (y := (wr .i64 ((wr .i64 (32 * ((a0.Runs.getD (Int.toNat x30) default) 0))) + x43))) (bytes := 8) rfl rfl rfl (apok_e hg53).1 (apok_e hg53).2) (fun v55 hs56 => ?_)
      rw [← hx54] at hs56; rw [← hx54]
      refine WL_v rfl (VS_assign rfl) ?_
      refine WL_nil ?_
      refine WQ_block ?_
      refine WQ_then ?_
      refine WP_region ?_
      refine WL_v rfl (VS_move rfl) ?_
      refine WL_v rfl (VS_add rfl rfl rfl) ?_
      refine WL_v rfl (VS_assign rfl) ?_
      refine WL_nil ?_
      exact WQ_loops (m45, x54, wr .i64 (x43 + 1), v55) (Nat.lt_succ_self _) ⟨hs56, h⟩ (Sub_cons rfl (Sub_cons rfl (Sub_nil))) (.cons rfl (.cons rfl (.nil))) (ks := [1, 2]) rfl (by decide)
    ·
      replace h := cn_f hc h
      refine WP_exit ?_
      refine WQ_then_exit ?_
      refine WQ_then_exit ?_
      refine WQ_block_exit ?_
      refine WQ_block ?_
      refine WQ_then ?_
      refine WP_region ?_
      refine WL_v rfl (VS_move rfl) ?_
      refine WL_v rfl (VS_add rfl rfl rfl) ?_
      refine WL_v rfl (VS_assign rfl) ?_
      refine WL_nil ?_
      exact WQ_loops (m32, x40, wr .i64 (x30 + 1), v41) (Nat.lt_succ_self _) ⟨hs42, h⟩ (Sub_cons rfl (Sub_cons rfl (Sub_nil))) (.cons rfl (.nil)) (ks := [0, 1]) rfl (by decide)
  ·
    replace h := cn_f hc h
    refine WP_exit ?_
    refine WQ_then_exit ?_
    refine WQ_then_exit ?_
    refine WQ_block_exit ?_
    refine WQ_then ?_
    refine WP_seq ?_
    refine WP_region ?_
    refine WL_v rfl (VS_move rfl) ?_
    refine WL_v rfl (VS_assign rfl) ?_
    refine WL_nil ?_
    refine WQ_then ?_
    refine WP_ret ?_
    replace h := Option.some.inj h
    subst h
    refine WQ_bundle (R := [Row v28 3 1 (LI .i64) x27]) (H' := []) (ks := [0]) rfl (by decide) ?_
    have p57 : Fz (fun w => K w ∧ (Hs [.ext (blks [Row v28 3 1 (LI .i64) x27]) (Hs [Row v28 3 1 (LI .i64) x27])]) w) v28 (LI .i64) x27 := (Fz.row (e := 3) (sz := 1) (L := (LI .i64)) (xs := x27) rfl hs29).mono ent
    exact WQ_ret (v28, blks [Row v28 3 1 (LI .i64) x27], Hs [Row v28 3 1 (LI .i64) x27]) rfl (.tmp rfl .nil) p57 rfl (ks := [0]) rfl (by decide)
def ref04_object (n : Nat) (a0 : Int) (a1 : Int) : Option Bool :=
  some ((decide (1 ≤ a0) && decide (a0 ≤ 128)) && ((((a1 == 1) || (a1 == 2)) || (a1 == 4)) || (a1 == 8)))
theorem c_ref04_object {n : Nat} {a0 : Int} {a1 : Int} {r : Bool}  (h : ref04_object n a0 a1 = some r) : FnV Try.prog 110 [.int .i64 a0, .int .i64 a1] (.bool r) := by
  unfold ref04_object at h
  refine fn_of Try.func110 (by kernel_rfl) rfl Try.ntmps110 rfl (fun cx hbs hpre hro => ?_)
  refine WP_seq ?_
  refine WP_region ?_
  refine WL_v rfl (VS_assign rfl) ?_
  refine WL_nil ?_
  refine WQ_then ?_
  refine WP_seq ?_
  refine WP_region ?_
  refine WL_v rfl (VS_move rfl) ?_
  refine WL_v rfl (VS_geq rfl rfl) ?_
  refine WL_v rfl (VS_move rfl) ?_
  refine WL_g (Gd_b rfl rfl) rfl (fun hb => VS_move rfl) ?_
  refine WL_g (Gd_b rfl rfl) rfl (fun hb => VS_leq (gev rfl hb) rfl) ?_
  refine WL_v rfl (VS_and rfl rfl) ?_
  refine WL_v rfl (VS_move rfl) ?_
  refine WL_g (Gd_b rfl rfl) rfl (fun hb => VS_move rfl) ?_
  refine WL_g (Gd_b rfl rfl) rfl (fun hb => VS_eql (gev rfl hb) rfl) ?_
  refine WL_g (Gd_b rfl rfl) rfl (fun hb => VS_move (gev rfl hb)) ?_
  refine WL_g (Gd_g rfl rfl) rfl (fun hb => VS_move rfl) ?_
  refine WL_g (Gd_g rfl rfl) rfl (fun hb => VS_eql (gev rfl hb) rfl) ?_
  refine WL_g (Gd_b rfl rfl) rfl (fun hb => VS_or (gev rfl hb) (gev2 rfl hb)) ?_
  refine WL_g (Gd_b rfl rfl) rfl (fun hb => VS_move (gev rfl hb)) ?_
  refine WL_g (Gd_g rfl rfl) rfl (fun hb => VS_move rfl) ?_
  refine WL_g (Gd_g rfl rfl) rfl (fun hb => VS_eql (gev rfl hb) rfl) ?_
  refine WL_g (Gd_b rfl rfl) rfl (fun hb => VS_or (gev rfl hb) (gev2 rfl hb)) ?_
  refine WL_g (Gd_b rfl rfl) rfl (fun hb => VS_move (gev rfl hb)) ?_
  refine WL_g (Gd_g rfl rfl) rfl (fun hb => VS_move rfl) ?_
  refine WL_g (Gd_g rfl rfl) rfl (fun hb => VS_eql (gev rfl hb) rfl) ?_
  refine WL_g (Gd_b rfl rfl) rfl (fun hb => VS_or (gev rfl hb) (gev2 rfl hb)) ?_
  refine WL_v rfl (VS_and rfl rfl) ?_
  refine WL_v rfl (VS_assign rfl) ?_
  refine WL_nil ?_
  refine WQ_then ?_
  refine WP_ret ?_
  replace h := Option.some.inj h
  subst h
  exact WQ_ret () rfl (.tmp rfl .nil) trivial rfl (ks := []) rfl (by decide)
def ref04_Extent_Fits (n : Nat) (a0 : ref04_Extent) (a1 : Int) (a2 : Int) : Option Int :=
  bd (ref04_Extent_Bytes n a0) fun x21 =>
  loop1 (fun k32 (x29 : Int) =>
  bd (ref04_object n a1 a2) fun x33 =>
  cn ((x33 && decide ((wr .i64 (x29 + a1)) ≤ (x21.length : Int)))) (
  gu (a2 != 0) <|
  cn (((Int.tmod x29 a2) == 0)) (
  some x29) (
  k32 (wr .i64 (x29 + 1)))) (
  some (-1))) n a0.Len
theorem c_ref04_Extent_Fits {n : Nat} {a0 : ref04_Extent} {a1 : Int} {a2 : Int} {r : Int} {K : World → Prop} [Stable K] {cs0 : List Value} (f0 : (L_ref04_Extent).rep K cs0 a0) (h : ref04_Extent_Fits n a0 a1 a2 = some r) : FnW Try.prog 58 [.agg cs0.toArray, .int .i64 a1, .int .i64 a2] K (.int .i64 r) := by
  unfold ref04_Extent_Fits at h
  refine fn_of Try.func58 (by kernel_rfl) rfl Try.ntmps58 rfl (fun cx hbs hpre hro => ?_)
  haveI := knf_pre hbs hpre
  refine WP_seq ?_
  refine WP_region ?_
  refine WL_x rfl (RX_boxa rfl) (fun b3 _ => ?_)
  refine WL_v rfl (VS_assign rfl) ?_
  refine WL_nil ?_
  refine WQ_then ?_
  refine WP_seq ?_
  obtain ⟨x21, hx21, h⟩ := bd_e h
  refine WP_region ?_
  refine WL_v rfl (VS_loadall rfl (Lay.len _ f0)) ?_
  refine WL_x rfl (RX_callB (c_ref04_Extent_Bytes (K := K) (Lay.mono _ ent f0) hx21) rfl) (fun ⟨w22, bs23, J24⟩ hp25 => ?_)
  have f26 : Fz (fun w => K w ∧ Hs [.ext bs23 J24] w) w22 (LI .i64) x21 := hp25
  refine WL_v rfl (VS_lenF f26 rfl) ?_
  refine WL_v rfl (VS_assign rfl) ?_
  refine WL_nil ?_
  refine WQ_then ?_
  refine WP_seq ?_
  refine WP_seq ?_
  refine WP_region ?_
  refine WL_v rfl (VS_field0 rfl) ?_
  refine WL_v rfl (VS_load rfl (P_ref04_Extent_Len.int f0)) ?_
  refine WL_v rfl (VS_assign rfl) ?_
  refine WL_nil ?_
  refine WQ_then ?_
  refine WP_block ?_
  obtain ⟨lb30, hlb30, h⟩ := lp1_i h
  refine WP_loops (α := Nat × Int) [1, 2, 7] (.cons rfl (.cons rfl (.cons rfl (.nil)))) (fun (m31, x29) => [(8, .int .i64 x29)]) (fun (m31, x29) => [.ext bs23 J24, .cells b3 119 cs0]) (fun (m31, x29) => loop1 lb30 m31 x29 = some r) (fun (m31, x29) => m31) (n, a0.Len) h (Sub_cons rfl (Sub_nil)) (ks := [0, 1]) rfl (by decide) ?_
  rintro ⟨m31, x29⟩ h
  replace h : loop1 lb30 m31 x29 = some r := h
  replace h := lp1_s hlb30 h
  obtain ⟨m31, rfl, h⟩ := h
  refine WP_seq ?_
  refine WP_seq ?_
  obtain ⟨x33, hx33, h⟩ := bd_e h
  refine WP_region ?_
  refine WL_v rfl (VS_move rfl) ?_
  refine WL_v rfl (VS_move rfl) ?_
  refine WL_v rfl (VS_call (c_ref04_object hx33) rfl (fun _ _ _ => trivial)) ?_
  refine WL_v rfl (VS_move rfl) ?_
  refine WL_g (Gd_b rfl rfl) rfl (fun hb => VS_move rfl) ?_
  refine WL_g (Gd_b rfl rfl) rfl (fun hb => VS_move rfl) ?_
  refine WL_g (Gd_b rfl rfl) rfl (fun hb => VS_add (gev rfl hb) (gev rfl hb) rfl) ?_
  refine WL_g (Gd_b rfl rfl) rfl (fun hb => VS_move rfl) ?_
  refine WL_g (Gd_b rfl rfl) rfl (fun hb => VS_leq (gev rfl hb) (gev rfl hb)) ?_
  refine WL_v rfl (VS_and rfl rfl) ?_
  refine WL_nil ?_
  refine WQ_then ?_
  refine WP_if rfl (fun hc => ?_) (fun hc => ?_)
  ·
    replace h := cn_t hc h
    refine WP_skip ?_
    refine WQ_then ?_
    refine WP_seq ?_
    refine WP_block ?_
    refine WP_seq ?_
    obtain ⟨hg34, h⟩ := gu_e h
    refine WP_region ?_
    refine WL_v rfl (VS_move rfl) ?_
    refine WL_v rfl (VS_move rfl) ?_
    refine WL_v rfl (VS_rem rfl rfl (ne0_e hg34) rfl) ?_
    refine WL_v rfl (VS_eql rfl rfl) ?_
    refine WL_nil ?_
    refine WQ_then ?_
    refine WP_if rfl (fun hc => ?_) (fun hc => ?_)
    ·
      replace h := cn_t hc h
      refine WP_seq ?_
      refine WP_region ?_
      refine WL_v rfl (VS_move rfl) ?_
      refine WL_v rfl (VS_assign rfl) ?_
      refine WL_nil ?_
      refine WQ_then ?_
      refine WP_ret ?_
      refine WQ_block_ret ?_
      refine WQ_then_ret ?_
      refine WQ_then_ret ?_
      refine WQ_block_ret ?_
      refine WQ_then_ret ?_
      replace h := Option.some.inj h
      subst h
      exact WQ_ret () rfl (.tmp rfl .nil) trivial rfl (ks := []) rfl (by decide)
    ·
      replace h := cn_f hc h
      refine WP_skip ?_
      refine WQ_block ?_
      refine WQ_then ?_
      refine WP_region ?_
      refine WL_v rfl (VS_move rfl) ?_
      refine WL_v rfl (VS_add rfl rfl rfl) ?_
      refine WL_v rfl (VS_assign rfl) ?_
      refine WL_nil ?_
      exact WQ_loops (m31, wr .i64 (x29 + 1)) (Nat.lt_succ_self _) h (Sub_cons rfl (Sub_nil)) (.cons rfl (.cons rfl (.cons rfl (.nil)))) (ks := [0, 1]) rfl (by decide)
  ·
    replace h := cn_f hc h
    refine WP_exit ?_
    refine WQ_then_exit ?_
    refine WQ_then_exit ?_
    refine WQ_block_exit ?_
    refine WQ_then ?_
    refine WP_seq ?_
    refine WP_region ?_
    refine WL_v rfl (VS_assign rfl) ?_
    refine WL_nil ?_
    refine WQ_then ?_
    refine WP_ret ?_
    replace h := Option.some.inj h
    subst h
    exact WQ_ret () rfl (.tmp rfl .nil) trivial rfl (ks := []) rfl (by decide)
def ref04_Extent_May (n : Nat) (a0 : ref04_Extent) : Option Bool :=
  loop3 (fun k31 (x26 : Int) (x27 : Int) (x28 : (Nat → Bool)) =>
  cn (decide (x27 < (a0.Runs.length : Int))) (
  gu (inb x27 a0.Runs.length) <|
  gu (inb x27 a0.Runs.length) <|
  cn (((((decide (((a0.Runs.getD (Int.toNat x27) default) 1) < 1) || decide (64 < ((a0.Runs.getD (Int.toNat x27) default) 1))) || decide (((a0.Runs.getD (Int.toNat x27) default) 0) < 0)) || decide (63 < ((a0.Runs.getD (Int.toNat x27) default) 0))) || decide (64 < (wr .i64 (((a0.Runs.getD (Int.toNat x27) default) 0) + ((a0.Runs.getD (Int.toNat x27) default) 1)))))) (
  some false) (
  loop2 (fun k47 (x43 : Int) (x44 : (Nat → Bool)) =>
  cn (decide (x43 < (wr .i64 (((a0.Runs.getD (Int.toNat x27) default) 0) + ((a0.Runs.getD (Int.toNat x27) default) 1))))) (
  gu (inb x43 64) <|
  cn ((x44 (Int.toNat x43))) (
  some false) (
  gu (inb x43 64) <|
  lt ((upd x44 (Int.toNat x43) true) : (Nat → Bool)) fun x50 =>
  k47 (wr .i64 (x43 + 1)) x50)) (
  k31 (wr .i64 (x26 + ((a0.Runs.getD (Int.toNat x27) default) 1))) (wr .i64 (x27 + 1)) x44)) n ((a0.Runs.getD (Int.toNat x27) default) 0) x28)) (
  some (decide (0 ≤ a0.Len) && decide (a0.Len ≤ (wr .i64 (32 * x26)))))) n 0 0 (fun _ => false)
theorem c_ref04_Extent_May {n : Nat} {a0 : ref04_Extent} {r : Bool} {K : World → Prop} [Stable K] {cs0 : List Value} (f0 : (L_ref04_Extent).rep K cs0 a0) (h : ref04_Extent_May n a0 = some r) : FnW Try.prog 55 [.agg cs0.toArray] K (.bool r) := by
  unfold ref04_Extent_May at h
  refine fn_of Try.func55 (by kernel_rfl) rfl Try.ntmps55 rfl (fun cx hbs hpre hro => ?_)
  haveI := knf_pre hbs hpre
  refine WP_seq ?_
  refine WP_region ?_
  refine WL_x rfl (RX_boxa rfl) (fun b1 _ => ?_)
  refine WL_v rfl (VS_assign rfl) ?_
  refine WL_nil ?_
  refine WQ_then ?_
  refine WP_seq ?_
  refine WP_region ?_
  refine WL_x rfl (RX_allocL (L := (LA LB 64)) (z := (fun _ => false)) ⟨by kernel_rfl⟩) (fun b3 _ => ?_)
  refine WL_nil ?_
  refine WQ_then ?_
  refine WP_seq ?_
  refine WP_region ?_
  refine WL_v rfl (VS_assign rfl) ?_
  refine WL_nil ?_
  refine WQ_then ?_
  refine WP_seq ?_
  refine WP_seq ?_
  refine WP_region ?_
  refine WL_v rfl (VS_assign rfl) ?_
  refine WL_nil ?_
  refine WQ_then ?_
  refine WP_block ?_
  obtain ⟨lb29, hlb29, h⟩ := lp3_i h
  refine WP_loops (α := Nat × Int × Int × (Nat → Bool)) [1, 3] (.cons rfl (.cons rfl (.nil))) (fun (m30, x26, x27, x28) => [(4, .int .i64 x26), (5, .int .i64 x27)]) (fun (m30, x26, x27, x28) => [.cells b3 147 ((LA LB 64).enc x28), .cells b1 119 cs0]) (fun (m30, x26, x27, x28) => loop3 lb29 m30 x26 x27 x28 = some r) (fun (m30, x26, x27, x28) => m30) (n, 0, 0, (fun _ => false)) h (Sub_cons rfl (Sub_cons rfl (Sub_nil))) (ks := [0, 1]) rfl (by decide) ?_
  rintro ⟨m30, x26, x27, x28⟩ h
  replace h : loop3 lb29 m30 x26 x27 x28 = some r := h
  replace h := lp3_s hlb29 h
  obtain ⟨m30, rfl, h⟩ := h
  refine WP_seq ?_
  refine WP_seq ?_
  refine WP_region ?_
  refine WL_v rfl (VS_move rfl) ?_
  refine WL_v rfl (VS_field0 rfl) ?_
  obtain ⟨v32, hv32, f33⟩ := P_ref04_Extent_Runs.sl f0
  refine WL_v rfl (VS_load rfl hv32) ?_
  refine WL_v rfl (VS_lenF f33 rfl) ?_
  refine WL_v rfl (VS_lss rfl rfl) ?_
  refine WL_nil ?_
  refine WQ_then ?_
  refine WP_if rfl (fun hc => ?_) (fun hc => ?_)
  ·
    replace h := cn_t hc h
    refine WP_skip ?_
    refine WQ_then ?_
    refine WP_seq ?_
    refine WP_block ?_
    refine WP_seq ?_
    obtain ⟨hg36, h⟩ := gu_e h
    obtain ⟨hg39, h⟩ := gu_e h
    refine WP_draw mixed (.stg [] [(0, [1]), (1, [16]), (2, [5]), (3, [17, 18]), (4, [19]), (5, [20]), (6, [1]), (7, [22]), (8, [5]), (9, [23, 24]), (10, [25]), (11, [26])] (.alt 12 [21] (.stg [(6, [1]), (7, [22]), (8, [5]), (9, [23, 24]), (10, [25]), (11, [26])] [] (.alt 13 [27] (.fin [] []) .no)) .no)) (by kernel_rfl) ?_
    refine Stg_stg ?_ ?_
    · exact ReOk_nil
    refine NewOk_cons rfl rfl (VG_v rfl (VS_field0 rfl)) ?_
    obtain ⟨v34, hv34, f35⟩ := P_ref04_Extent_Runs.sl f0
    refine NewOk_cons rfl rfl (VG_v rfl (VS_load rfl hv34)) ?_
    refine NewOk_cons rfl rfl (VG_v rfl (VS_move rfl)) ?_
    refine NewOk_cons rfl rfl (VG_v rfl (VS_ixF (m := (Int.toNat x27)) f35 rfl rfl rfl (inb_e hg36).1 (inb_e hg36).2)) ?_
    refine NewOk_cons rfl rfl (VG_v rfl (VS_ixR (m := 0) f35 rfl rfl (inb_e hg36).2 rfl (by decide))) ?_
    refine NewOk_cons rfl rfl (VG_v rfl (VS_ldiF f35 ((Pth.idx (L := (LA (LI .i64) 2)) (m := (a0.Runs.length)) (k := 2) ((Int.toNat x27)) (inb_e hg36).2 rfl).comp (Pth.idx (L := (LI .i64)) (m := 2) (k := 1) (0) (by decide) rfl)) rfl)) ?_
    refine NewOk_cons rfl rfl (VG_v rfl (VS_field0 rfl)) ?_
    obtain ⟨v37, hv37, f38⟩ := P_ref04_Extent_Runs.sl f0
    refine NewOk_cons rfl rfl (VG_v rfl (VS_load rfl hv37)) ?_
    refine NewOk_cons rfl rfl (VG_v rfl (VS_move rfl)) ?_
    refine NewOk_cons rfl rfl (VG_v rfl (VS_ixF (m := (Int.toNat x27)) f38 rfl rfl rfl (inb_e hg39).1 (inb_e hg39).2)) ?_
    refine NewOk_cons rfl rfl (VG_v rfl (VS_ixR (m := 1) f38 rfl rfl (inb_e hg39).2 rfl (by decide))) ?_
    refine NewOk_cons rfl rfl (VG_v rfl (VS_ldiF f38 ((Pth.idx (L := (LA (LI .i64) 2)) (m := (a0.Runs.length)) (k := 2) ((Int.toNat x27)) (inb_e hg39).2 rfl).comp (Pth.idx (L := (LI .i64)) (m := 2) (k := 1) (1) (by decide) rfl)) rfl)) ?_
    refine NewOk_nil ?_
    refine Stg_some rfl rfl (RG_x rfl ((VS_assign rfl).rx)) (fun _ _ => ?_) Stg_no
    refine Stg_stg ?_ ?_
    ·
      refine ReOk_cons rfl rfl (VG_v rfl (VS_field0 rfl)) ?_
      refine ReOk_cons rfl rfl (VG_v rfl (VS_val (VS_load rfl hv37) rfl)) ?_
      refine ReOk_cons rfl rfl (VG_v rfl (VS_move rfl)) ?_
      refine ReOk_cons rfl rfl (VG_v rfl (VS_val (VS_ixF (m := (Int.toNat x27)) f38 rfl rfl rfl (inb_e hg39).1 (inb_e hg39).2) rfl)) ?_
      refine ReOk_cons rfl rfl (VG_v rfl (VS_val (VS_ixR (m := 1) f38 rfl rfl (inb_e hg39).2 rfl (by decide)) rfl)) ?_
      refine ReOk_cons rfl rfl (VG_v rfl (VS_val (VS_ldiF f38 ((Pth.idx (L := (LA (LI .i64) 2)) (m := (a0.Runs.length)) (k := 2) ((Int.toNat x27)) (inb_e hg39).2 rfl).comp (Pth.idx (L := (LI .i64)) (m := 2) (k := 1) (1) (by decide) rfl)) rfl) rfl)) ?_
      exact ReOk_nil
    refine NewOk_nil ?_
    refine Stg_some rfl rfl (RG_x rfl ((VS_assign rfl).rx)) (fun _ _ => ?_) Stg_no
    refine Stg_fin ?_ ?_
    · exact ReOk_nil
    refine NewOk_nil ?_
    refine WQ_then ?_
    refine WP_seq ?_
    refine WP_seq ?_
    refine WP_region ?_
    refine WL_v rfl (VS_move rfl) ?_
    refine WL_v rfl (VS_lss rfl rfl) ?_
    refine WL_v rfl (VS_move rfl) ?_
    refine WL_g (Gd_b rfl rfl) rfl (fun hb => VS_move rfl) ?_
    refine WL_g (Gd_b rfl rfl) rfl (fun hb => VS_gtr (gev rfl hb) rfl) ?_
    refine WL_v rfl (VS_or rfl rfl) ?_
    refine WL_v rfl (VS_move rfl) ?_
    refine WL_g (Gd_b rfl rfl) rfl (fun hb => VS_move rfl) ?_
    refine WL_g (Gd_b rfl rfl) rfl (fun hb => VS_lss (gev rfl hb) rfl) ?_
    refine WL_v rfl (VS_or rfl rfl) ?_
    refine WL_v rfl (VS_move rfl) ?_
    refine WL_g (Gd_b rfl rfl) rfl (fun hb => VS_move rfl) ?_
    refine WL_g (Gd_b rfl rfl) rfl (fun hb => VS_gtr (gev rfl hb) rfl) ?_
    refine WL_v rfl (VS_or rfl rfl) ?_
    refine WL_v rfl (VS_move rfl) ?_
    refine WL_g (Gd_b rfl rfl) rfl (fun hb => VS_move rfl) ?_
    refine WL_g (Gd_b rfl rfl) rfl (fun hb => VS_move rfl) ?_
    refine WL_g (Gd_b rfl rfl) rfl (fun hb => VS_add (gev rfl hb) (gev rfl hb) rfl) ?_
    refine WL_g (Gd_b rfl rfl) rfl (fun hb => VS_gtr (gev rfl hb) rfl) ?_
    refine WL_v rfl (VS_or rfl rfl) ?_
    refine WL_nil ?_
    refine WQ_then ?_
    refine WP_if rfl (fun hc => ?_) (fun hc => ?_)
    ·
      replace h := cn_t hc h
      refine WP_seq ?_
      refine WP_region ?_
      refine WL_v rfl (VS_assign rfl) ?_
      refine WL_nil ?_
      refine WQ_then ?_
      refine WP_ret ?_
      refine WQ_then_ret ?_
      refine WQ_block_ret ?_
      refine WQ_then_ret ?_
      refine WQ_then_ret ?_
      refine WQ_block_ret ?_
      refine WQ_then_ret ?_
      replace h := Option.some.inj h
      subst h
      exact WQ_ret () rfl (.tmp rfl .nil) trivial rfl (ks := []) rfl (by decide)
    ·
      replace h := cn_f hc h
      refine WP_skip ?_
      refine WQ_then ?_
      refine WP_seq ?_
      refine WP_seq ?_
      refine WP_region ?_
      refine WL_v rfl (VS_move rfl) ?_
      refine WL_v rfl (VS_assign rfl) ?_
      refine WL_nil ?_
      refine WQ_then ?_
      refine WP_block ?_
      obtain ⟨lb45, hlb45, h⟩ := lp2_i h
      refine WP_loops (α := Nat × Int × (Nat → Bool)) [1, 3, 4, 5, 6, 7] (.cons rfl (.cons rfl (.cons rfl (.cons rfl (.cons rfl (.cons rfl (.nil))))))) (fun (m46, x43, x44) => [(8, .int .i64 x43)]) (fun (m46, x43, x44) => [.cells b3 147 ((LA LB 64).enc x44), .cells b1 119 cs0]) (fun (m46, x43, x44) => loop2 lb45 m46 x43 x44 = some r) (fun (m46, x43, x44) => m46) (n, ((a0.Runs.getD (Int.toNat x27) default) 0), x28) h (Sub_cons rfl (Sub_nil)) (ks := [0, 1]) rfl (by decide) ?_
      rintro ⟨m46, x43, x44⟩ h
      replace h : loop2 lb45 m46 x43 x44 = some r := h
      replace h := lp2_s hlb45 h
      obtain ⟨m46, rfl, h⟩ := h
      refine WP_seq ?_
      refine WP_seq ?_
      refine WP_region ?_
      refine WL_v rfl (VS_move rfl) ?_
      refine WL_v rfl (VS_move rfl) ?_
      refine WL_v rfl (VS_move rfl) ?_
      refine WL_v rfl (VS_add rfl rfl rfl) ?_
      refine WL_v rfl (VS_lss rfl rfl) ?_
      refine WL_nil ?_
      refine WQ_then ?_
      refine WP_if rfl (fun hc => ?_) (fun hc => ?_)
      ·
        replace h := cn_t hc h
        refine WP_skip ?_
        refine WQ_then ?_
        refine WP_seq ?_
        refine WP_block ?_
        refine WP_seq ?_
        refine WP_seq ?_
        obtain ⟨hg48, h⟩ := gu_e h
        refine WP_region ?_
        refine WL_v rfl (VS_move rfl) ?_
        refine WL_v rfl (VS_index0 (m := (Int.toNat x43)) rfl rfl (inb_e hg48).1 (inb_e hg48).2) ?_
        refine WL_v rfl (VS_ldb (Pth.idx (L := LB) (m := 64) (k := 1) ((Int.toNat x43)) (inb_e hg48).2 rfl) rfl) ?_
        refine WL_nil ?_
        refine WQ_then ?_
        refine WP_if rfl (fun hc => ?_) (fun hc => ?_)
        ·
          replace h := cn_t hc h
          refine WP_seq ?_
          refine WP_region ?_
          refine WL_v rfl (VS_assign rfl) ?_
          refine WL_nil ?_
          refine WQ_then ?_
          refine WP_ret ?_
          refine WQ_then_ret ?_
          refine WQ_block_ret ?_
          refine WQ_then_ret ?_
          refine WQ_then_ret ?_
          refine WQ_block_ret ?_
          refine WQ_then_ret ?_
          refine WQ_block_ret ?_
          refine WQ_then_ret ?_
          refine WQ_then_ret ?_
          refine WQ_block_ret ?_
          refine WQ_then_ret ?_
          replace h := Option.some.inj h
          subst h
          exact WQ_ret () rfl (.tmp rfl .nil) trivial rfl (ks := []) rfl (by decide)
        ·
          replace h := cn_f hc h
          refine WP_skip ?_
          refine WQ_then ?_
          obtain ⟨hg49, h⟩ := gu_e h
          obtain ⟨x50, hx50, h⟩ := lt_e h
          refine WP_region ?_
          refine WL_v rfl (VS_move rfl) ?_
          refine WL_v rfl (VS_index0 (m := (Int.toNat x43)) rfl rfl (inb_e hg49).1 (inb_e hg49).2) ?_
          refine WL_x0 (RX_st (M := LB) (Pth.idx (L := LB) (m := 64) (k := 1) ((Int.toNat x43)) (inb_e hg49).2 rfl) true x50 hx50 rfl rfl rfl rfl) (fun _ _ => ?_)
          refine WL_nil ?_
          refine WQ_block ?_
          refine WQ_then ?_
          refine WP_region ?_
          refine WL_v rfl (VS_move rfl) ?_
          refine WL_v rfl (VS_add rfl rfl rfl) ?_
          refine WL_v rfl (VS_assign rfl) ?_
          refine WL_nil ?_
          exact WQ_loops (m46, wr .i64 (x43 + 1), x50) (Nat.lt_succ_self _) h (Sub_cons rfl (Sub_nil)) (.cons rfl (.cons rfl (.cons rfl (.cons rfl (.cons rfl (.cons rfl (.nil))))))) (ks := [0, 1]) rfl (by decide)
      ·
        replace h := cn_f hc h
        refine WP_exit ?_
        refine WQ_then_exit ?_
        refine WQ_then_exit ?_
        refine WQ_block_exit ?_
        refine WQ_then ?_
        refine WP_region ?_
        refine WL_v rfl (VS_move rfl) ?_
        refine WL_v rfl (VS_move rfl) ?_
        refine WL_v rfl (VS_add rfl rfl rfl) ?_
        refine WL_v rfl (VS_assign rfl) ?_
        refine WL_nil ?_
        refine WQ_block ?_
        refine WQ_then ?_
        refine WP_region ?_
        refine WL_v rfl (VS_move rfl) ?_
        refine WL_v rfl (VS_add rfl rfl rfl) ?_
        refine WL_v rfl (VS_assign rfl) ?_
        refine WL_nil ?_
        exact WQ_loops (m30, wr .i64 (x26 + ((a0.Runs.getD (Int.toNat x27) default) 1)), wr .i64 (x27 + 1), x44) (Nat.lt_succ_self _) h (Sub_cons rfl (Sub_cons rfl (Sub_nil))) (.cons rfl (.cons rfl (.nil))) (ks := [0, 1]) rfl (by decide)
  ·
    replace h := cn_f hc h
    refine WP_exit ?_
    refine WQ_then_exit ?_
    refine WQ_then_exit ?_
    refine WQ_block_exit ?_
    refine WQ_then ?_
    refine WP_seq ?_
    refine WP_region ?_
    refine WL_v rfl (VS_field0 rfl) ?_
    refine WL_v rfl (VS_load rfl (P_ref04_Extent_Len.int f0)) ?_
    refine WL_v rfl (VS_geq rfl rfl) ?_
    refine WL_v rfl (VS_move rfl) ?_
    refine WL_g (Gd_b rfl rfl) rfl (fun hb => VS_field0 rfl) ?_
    refine WL_g (Gd_b rfl rfl) rfl (fun hb => VS_load (gev rfl hb) (P_ref04_Extent_Len.int f0)) ?_
    refine WL_g (Gd_b rfl rfl) rfl (fun hb => VS_move rfl) ?_
    refine WL_g (Gd_b rfl rfl) rfl (fun hb => VS_mul rfl (gev rfl hb) rfl) ?_
    refine WL_g (Gd_b rfl rfl) rfl (fun hb => VS_leq (gev rfl hb) (gev rfl hb)) ?_
    refine WL_v rfl (VS_and rfl rfl) ?_
    refine WL_v rfl (VS_assign rfl) ?_
    refine WL_nil ?_
    refine WQ_then ?_
    refine WP_ret ?_
    replace h := Option.some.inj h
    subst h
    exact WQ_ret () rfl (.tmp rfl .nil) trivial rfl (ks := []) rfl (by decide)
structure extent_Extent where
  Runs : (List runs_Run)
  Len : Int
abbrev L_extent_Extent : Lay extent_Extent := Lay.via (LP (LSl L_runs_Run) (LI .i64)) (fun x => (x.Runs, x.Len))
abbrev Z_extent_Extent : extent_Extent := ⟨[], 0⟩
instance : Inhabited extent_Extent := ⟨Z_extent_Extent⟩
def zc_extent_Extent : List Value := [.slice none 0 0] ++ ([.int .i64 0])
theorem zr_extent_Extent {A : World → Prop} : L_extent_Extent.rep A zc_extent_Extent Z_extent_Extent := ⟨_, _, rfl, ⟨_, rfl, Fz.nil⟩, rfl⟩
theorem P_extent_Extent_Runs : Pth L_extent_Extent (LSl L_runs_Run) 0 (fun x => x.Runs) (fun x v => { x with Runs := v }) := (Pth.fst Pth.id).via _ _ _ 0 rfl (fun _ => rfl) (fun _ _ => rfl)
theorem P_extent_Extent_Len : Pth L_extent_Extent (LI .i64) 1 (fun x => x.Len) (fun x v => { x with Len := v }) := (Pth.snd Pth.id).via _ _ _ 1 rfl (fun _ => rfl) (fun _ _ => rfl)
def extent_Extent_chunks (n : Nat) (a0 : extent_Extent) : Option extent_Extent :=
  some a0
theorem c_extent_Extent_chunks {n : Nat} {a0 : extent_Extent} {r : extent_Extent} {K : World → Prop} [Stable K] {cs0 : List Value} (f0 : (L_extent_Extent).rep K cs0 a0) (h : extent_Extent_chunks n a0 = some r) : Bw.Fn (α := Nat × List Value) Try.prog 112 [.agg cs0.toArray] K [] (fun (b0, c0) => (L_extent_Extent).rep K c0 r) (fun (b0, c0) => .func (.func 139) #[] #[Ptr b0 0]) (fun (b0, c0) => [.cells b0 122 c0]) := by
  unfold extent_Extent_chunks at h
  refine fn_of Try.func112 (by kernel_rfl) rfl Try.ntmps112 rfl (fun cx hbs hpre hro => ?_)
  haveI := knf_pre hbs hpre
  refine WP_seq ?_
  refine WP_region ?_
  refine WL_x rfl (RX_boxa rfl) (fun b1 _ => ?_)
  refine WL_v rfl (VS_assign rfl) ?_
  refine WL_nil ?_
  refine WQ_then ?_
  refine WP_seq ?_
  refine WP_region ?_
  refine WL_v rfl (VS_makeFunc rfl) ?_
  refine WL_v rfl (VS_assign rfl) ?_
  refine WL_nil ?_
  refine WQ_then ?_
  refine WP_ret ?_
  replace h := Option.some.inj h
  subst h
  exact WQ_ret ⟨b1, cs0⟩ rfl (.tmp rfl .nil) (Lay.mono _ ent f0) rfl (ks := [0]) rfl (by decide)
def extent_Extent_chunks_1 (n : Nat) (a1 : extent_Extent) : Option (List (Int × runs_Run)) :=
  loop2 (fun k39 (x30 : Int) (x31 : Int) =>
  cn (decide (x31 < (a1.Runs.length : Int))) (
  gu (inb x31 a1.Runs.length) <|
  lt ((a1.Runs.getD (Int.toNat x31) default) : runs_Run) fun x41 =>
  yl (x30, x41) <|
  k39 (wr .i64 (x30 + (wr .i64 (x41.N * 32)))) (wr .i64 (x31 + 1))) (
  some [])) n 0 0
theorem it_extent_Extent_chunks_1 {n : Nat} {a1 : extent_Extent} {l : List (Int × runs_Run)} {K : World → Prop} {q1 : Nat} {cs1 : List Value} (f1 : (L_extent_Extent).rep K cs1 a1) (h : extent_Extent_chunks_1 n a1 = some l) : IterK Try.prog 139 [Ptr q1 0] [.cells q1 122 cs1] K (fun k => [.int .i64 ((l.getD k default).1), .agg (L_runs_Run.enc ((l.getD k default).2)).toArray]) l.length := by
  unfold extent_Extent_chunks_1 at h
  refine ⟨fun y J Jx bs => fn_of Try.func139 (by kernel_rfl) rfl Try.ntmps139 rfl (fun cx hbs hpre hro => ?_)⟩
  haveI := knf_fut (show cx.bs = bs ++ blks [.cells q1 122 cs1] from hbs) hpre.1
  have hR : Rnd Try.prog y cx.bs cx.w0 J Jx (fun k => [.int .i64 ((l.getD k default).1), .agg (L_runs_Run.enc ((l.getD k default).2)).toArray]) l.length := by rw [show cx.bs = bs ++ blks [.cells q1 122 cs1] from hbs]; exact hpre.2
  have hd0 : l.drop 0 = l := rfl
  have hk0 : 0 ≤ l.length := Nat.zero_le _
  refine WP_seq ?_
  refine WP_region ?_
  refine WL_v rfl (VS_assign rfl) ?_
  refine WL_nil ?_
  refine WQ_then ?_
  refine WP_seq ?_
  refine WP_region ?_
  refine WL_v rfl (VS_field0 rfl) ?_
  obtain ⟨v21, hv21, f22⟩ := P_extent_Extent_Runs.sl f1
  refine WL_v rfl (VS_load rfl hv21) ?_
  refine WL_v rfl (VS_lenF f22 rfl) ?_
  refine WL_v rfl (VS_move rfl) ?_
  refine WL_nil ?_
  refine WQ_then ?_
  refine WP_block ?_
  obtain ⟨lb37, hlb37, h⟩ := lp2_i h
  refine WP_loops (α := Nat × Int × Int × Nat × (List (Int × runs_Run)) × (List Nat)) [0, 7, 8] (.cons rfl (.cons rfl (.cons rfl (.nil)))) (fun (m38, x30, x31, kk32, r33, es34) => [(3, .int .i64 x30), (9, .int .i64 x31)]) (fun (m38, x30, x31, kk32, r33, es34) => [.ext es34 (J kk32 es34), .cells q1 122 cs1]) (fun (m38, x30, x31, kk32, r33, es34) => l.drop kk32 = r33 ∧ kk32 ≤ l.length ∧ loop2 lb37 m38 x30 x31 = some r33) (fun (m38, x30, x31, kk32, r33, es34) => m38) (n, 0, 0, 0, l, bs) ⟨hd0, hk0, h⟩ (Sub_cons rfl (Sub_cons rfl (Sub_nil))) (ks := [0, 1]) rfl (by decide) ?_
  rintro ⟨m38, x30, x31, kk32, r33, es34⟩ ⟨hd35, hk36, h⟩
  replace h : loop2 lb37 m38 x30 x31 = some r33 := h
  replace h := lp2_s hlb37 h
  obtain ⟨m38, rfl, h⟩ := h
  refine WP_seq ?_
  refine WP_region ?_
  refine WL_v rfl (VS_lss rfl rfl) ?_
  refine WL_nil ?_
  refine WQ_then ?_
  refine WP_seq ?_
  refine WP_if rfl (fun hc => ?_) (fun hc => ?_)
  ·
    replace h := cn_t hc h
    refine WP_skip ?_
    refine WQ_then ?_
    refine WP_seq ?_
    refine WP_block ?_
    refine WP_seq ?_
    obtain ⟨hg40, h⟩ := gu_e h
    obtain ⟨x41, hx41, h⟩ := lt_e h
    refine WP_region ?_
    refine WL_v rfl (VS_ixF (m := (Int.toNat x31)) f22 rfl rfl rfl (inb_e hg40).1 (inb_e hg40).2) ?_
    refine WL_v rfl (VS_ldaF (M := L_runs_Run) f22 (Pth.idx (L := L_runs_Run) (m := (a1.Runs.length)) (k := 2) ((Int.toNat x31)) (inb_e hg40).2 rfl) rfl rfl (by decide)) ?_
    refine WL_x rfl (RX_allocL (L := L_runs_Run) (z := Z_runs_Run) ⟨by kernel_rfl⟩) (fun b5 _ => ?_)
    refine WL_x0 (RX_st (M := L_runs_Run) (Pth.id (L := L_runs_Run)) (a1.Runs.getD (Int.toNat x31) default) x41 hx41 rfl rfl rfl rfl) (fun _ _ => ?_)
    refine WL_nil ?_
    refine WQ_then ?_
    refine WP_seq ?_
    refine WP_seq ?_
    obtain ⟨r42, hr42, h⟩ := yl_e h
    obtain ⟨hk45, hg45, hd45, hl45⟩ := drop_cons (hd35.trans hr42)
    refine WP_region ?_
    refine WL_v rfl (VS_move rfl) ?_
    refine WL_v rfl (VS_move rfl) ?_
    refine WL_v rfl (VS_lda (M := L_runs_Run) (Pth.id (L := L_runs_Run)) rfl rfl) ?_
    refine WL_x rfl (RX_yield (bs := es34) hR hk45 hro rfl (show evs _ _ = some [.int .i64 ((l.getD kk32 default).1), .agg (L_runs_Run.enc ((l.getD kk32 default).2)).toArray] by rw [hg45]; rfl)) (fun ⟨go43, es44⟩ _ => ?_)
    refine WL_v rfl (VS_not rfl) ?_
    refine WL_nil ?_
    refine WQ_then ?_
    refine WP_if rfl (fun hc => ?_) (fun hc => ?_)
    ·
      obtain rfl : go43 = false := by simpa using hc
      dsimp only [cond_true, cond_false]
      refine WP_ret ?_
      refine WQ_then_ret ?_
      refine WQ_block_ret ?_
      refine WQ_then_ret ?_
      refine WQ_then_ret ?_
      refine WQ_block_ret ?_
      exact WQ_ret (false, es44) rfl .nil trivial rfl (ks := [1, 2]) rfl (by decide)
    ·
      obtain rfl : go43 = true := by simpa using hc
      dsimp only [cond_true, cond_false]
      refine WP_skip ?_
      refine WQ_then ?_
      refine WP_region ?_
      refine WL_v rfl (VS_move rfl) ?_
      refine WL_v rfl (VS_field0 rfl) ?_
      refine WL_v rfl (VS_ldi P_runs_Run_N rfl) ?_
      refine WL_v rfl (VS_mul rfl rfl rfl) ?_
      refine WL_v rfl (VS_add rfl rfl rfl) ?_
      refine WL_v rfl (VS_assign rfl) ?_
      refine WL_nil ?_
      refine WQ_block ?_
      refine WQ_then ?_
      refine WP_region ?_
      refine WL_v rfl (VS_add rfl rfl rfl) ?_
      refine WL_v rfl (VS_move rfl) ?_
      refine WL_nil ?_
      exact WQ_loops (m38, wr .i64 (x30 + (wr .i64 (x41.N * 32))), wr .i64 (x31 + 1), kk32 + 1, r42, es44) (Nat.lt_succ_self _) ⟨hd45, hl45, h⟩ (Sub_cons rfl (Sub_cons rfl (Sub_nil))) (.cons rfl (.cons rfl (.cons rfl (.nil)))) (ks := [1, 2]) rfl (by decide)
  ·
    replace h := cn_f hc h
    refine WP_exit ?_
    refine WQ_then_exit ?_
    refine WQ_then_exit ?_
    refine WQ_block_exit ?_
    replace h := Option.some.inj h
    subst h
    have ek46 := drop_nil hd35 hk36
    refine WQ_pick (ks := [0, 1]) (H' := [.ext es34 (J (kk32) es34), .cells q1 122 cs1]) rfl (by decide) ?_
    refine WQ_extk (J := J) (n := l.length) ek46 ?_
    exact WQ_end (true, es34) rfl .nil trivial rfl (ks := [0, 1]) rfl (by decide)
def extent_Extent_Pages (n : Nat) (a0 : extent_Extent) : Option Int :=
  bd (extent_Extent_chunks n a0) fun x21 =>
  bd (extent_Extent_chunks_1 n x21) fun x25 =>
  itr1 (fun (e35 : Int × runs_Run) k29 (x28 : Int) =>
  lt (e35.1 : Int) fun x33 =>
  lt (e35.2 : runs_Run) fun x34 =>
  lt (wr .i64 (x28 + x34.N) : Int) fun x36 =>
  k29 x36) (fun (x28 : Int) =>
  some x28) x25 0
theorem c_extent_Extent_Pages {n : Nat} {a0 : extent_Extent} {r : Int} {K : World → Prop} [Stable K] {cs0 : List Value} (f0 : (L_extent_Extent).rep K cs0 a0) (h : extent_Extent_Pages n a0 = some r) : FnW Try.prog 61 [.agg cs0.toArray] K (.int .i64 r) := by
  unfold extent_Extent_Pages at h
  refine fn_of Try.func61 (by kernel_rfl) rfl Try.ntmps61 rfl (fun cx hbs hpre hro => ?_)
  haveI := knf_pre hbs hpre
  refine WP_seq ?_
  refine WP_region ?_
  refine WL_x rfl (RX_boxa rfl) (fun b1 _ => ?_)
  refine WL_v rfl (VS_assign rfl) ?_
  refine WL_nil ?_
  refine WQ_then ?_
  refine WP_seq ?_
  refine WP_region ?_
  refine WL_x rfl (RX_allocL (L := (LI .i64)) (z := 0) ⟨by kernel_rfl⟩) (fun b3 _ => ?_)
  refine WL_x0 (RX_st (M := (LI .i64)) (Pth.id (L := (LI .i64))) 0 0 rfl rfl rfl rfl rfl) (fun _ _ => ?_)
  refine WL_nil ?_
  refine WQ_then ?_
  refine WP_seq ?_
  refine WP_seq ?_
  obtain ⟨x21, hx21, h⟩ := bd_e h
  refine WP_region ?_
  refine WL_v rfl (VS_loadall rfl (Lay.len _ f0)) ?_
  refine WL_x rfl (RX_call (c_extent_Extent_chunks (K := K) (Lay.mono _ ent f0) hx21) rfl kn) (fun ⟨b22, c23⟩ f24 => ?_)
  replace f24 : (L_extent_Extent).rep K c23 x21 := f24
  dsimp only [List.cons_append, List.nil_append]
  refine WL_nil ?_
  refine WQ_then ?_
  refine WP_block ?_
  obtain ⟨x25, hx25, h⟩ := bd_e h
  obtain ⟨ib31, hib31, fi32, hfi32, h⟩ := it1_i h
  refine WP_rangeK (K := K) (α := Int) (β := Unit) hro rfl (it_extent_Extent_chunks_1 (K := K) (Lay.mono _ ent f24) hx25) (fun _ => rfl) rfl (fun kk30 => fun x28 => itr1 ib31 fi32 (x25.drop kk30) x28 = some r) (fun kk30 => fun x28 => [.cells b3 3 ((LI .i64).enc x28), .cells b1 122 cs0]) (fun _ _ => False) (fun _ => []) 0 h (ks := [0, 1, 2]) rfl (by decide) ?_ ?_ ?_
  ·
    rintro kk30 x28 lo dd rec c' hk h hrs hrp hro' hsi hT
    replace h : itr1 ib31 fi32 (x25.drop kk30) x28 = some r := h
    replace h := it1_s hib31 hk h
    haveI := knf_in (K := K) hsi
    dsimp only [parF]
    obtain ⟨x33, hx33, h⟩ := lt_e h
    rw [← hx33]
    obtain ⟨x34, hx34, h⟩ := lt_e h
    rw [← hx34]
    refine WP_region ?_
    refine WL_x rfl (RX_allocL (L := L_runs_Run) (z := Z_runs_Run) ⟨by kernel_rfl⟩) (fun b5 _ => ?_)
    refine WL_x0 (RX_st (M := L_runs_Run) (Pth.id (L := L_runs_Run)) x34 x34 rfl rfl rfl rfl rfl) (fun _ _ => ?_)
    refine WL_nil ?_
    refine WQ_begin hrs hro' ?_
    refine WP_block ?_
    obtain ⟨x36, hx36, h⟩ := lt_e h
    refine WP_region ?_
    refine WL_v rfl (VS_ldi (Pth.id (L := (LI .i64))) rfl) ?_
    refine WL_v rfl (VS_field0 rfl) ?_
    refine WL_v rfl (VS_ldi P_runs_Run_N rfl) ?_
    refine WL_v rfl (VS_add rfl rfl rfl) ?_
    refine WL_x0 (RX_st (M := (LI .i64)) (Pth.id (L := (LI .i64))) (wr .i64 (x28 + x34.N)) x36 hx36 rfl rfl rfl rfl) (fun _ _ => ?_)
    refine WL_nil ?_
    refine WQ_block ?_
    exact WQ_next hrs hrp hT x36 h (ks := [1, 2, 3, 4]) rfl (by decide)
  ·
    rintro dd37 x28 h
    replace h : itr1 ib31 fi32 (x25.drop x25.length) x28 = some r := h
    replace h := it1_n hfi32 rfl h
    dsimp only [List.cons_append, List.nil_append]
    refine WQ_block ?_
    refine WQ_then ?_
    refine WP_seq ?_
    refine WP_region ?_
    refine WL_v rfl (VS_ldi (Pth.id (L := (LI .i64))) rfl) ?_
    refine WL_v rfl (VS_assign rfl) ?_
    refine WL_nil ?_
    refine WQ_then ?_
    refine WP_ret ?_
    replace h := Option.some.inj h
    subst h
    exact WQ_retm () rfl (.tmp rfl .nil) trivial rfl (ks := []) rfl (by decide)
  ·
    intro dd j i hf; exact hf.elim
def slices_Index_5298 (n : Nat) (a0 : (List Int)) (a1 : Int) : Option Int :=
  loop1 (fun k25 (x22 : Int) =>
  cn (decide (x22 < (a0.length : Int))) (
  gu (inb x22 a0.length) <|
  cn ((a1 == (a0.getD (Int.toNat x22) default))) (
  some x22) (
  k25 (wr .i64 (x22 + 1)))) (
  some (-1))) n 0
theorem c_slices_Index_5298 {n : Nat} {a0 : (List Int)} {a1 : Int} {r : Int} {K : World → Prop} [Stable K] {v0 : Value} (f0 : Fz K v0 (LI .i64) a0) (h : slices_Index_5298 n a0 a1 = some r) : FnW Try.prog 143 [v0, .int .i64 a1] K (.int .i64 r) := by
  unfold slices_Index_5298 at h
  refine fn_of Try.func143 (by kernel_rfl) rfl Try.ntmps143 rfl (fun cx hbs hpre hro => ?_)
  haveI := knf_pre hbs hpre
  refine WP_seq ?_
  refine WP_region ?_
  refine WL_v rfl (VS_assign rfl) ?_
  refine WL_nil ?_
  refine WQ_then ?_
  refine WP_seq ?_
  refine WP_seq ?_
  refine WP_region ?_
  refine WL_v rfl (VS_move rfl) ?_
  refine WL_v rfl (VS_lenF f0 rfl) ?_
  refine WL_v rfl (VS_move rfl) ?_
  refine WL_nil ?_
  refine WQ_then ?_
  refine WP_block ?_
  obtain ⟨lb23, hlb23, h⟩ := lp1_i h
  refine WP_loops (α := Nat × Int) [0, 1, 7] (.cons rfl (.cons rfl (.cons rfl (.nil)))) (fun (m24, x22) => [(8, .int .i64 x22)]) (fun (m24, x22) => []) (fun (m24, x22) => loop1 lb23 m24 x22 = some r) (fun (m24, x22) => m24) (n, 0) h (Sub_cons rfl (Sub_nil)) (ks := []) rfl (by decide) ?_
  rintro ⟨m24, x22⟩ h
  replace h : loop1 lb23 m24 x22 = some r := h
  replace h := lp1_s hlb23 h
  obtain ⟨m24, rfl, h⟩ := h
  refine WP_seq ?_
  refine WP_region ?_
  refine WL_v rfl (VS_lss rfl rfl) ?_
  refine WL_nil ?_
  refine WQ_then ?_
  refine WP_seq ?_
  refine WP_if rfl (fun hc => ?_) (fun hc => ?_)
  ·
    replace h := cn_t hc h
    refine WP_skip ?_
    refine WQ_then ?_
    refine WP_seq ?_
    refine WP_block ?_
    refine WP_seq ?_
    refine WP_region ?_
    refine WL_v rfl (VS_move rfl) ?_
    refine WL_v rfl (VS_assign rfl) ?_
    refine WL_nil ?_
    refine WQ_then ?_
    refine WP_seq ?_
    obtain ⟨hg26, h⟩ := gu_e h
    refine WP_region ?_
    refine WL_v rfl (VS_move rfl) ?_
    refine WL_v rfl (VS_move rfl) ?_
    refine WL_v rfl (VS_move rfl) ?_
    refine WL_v rfl (VS_ixF (m := (Int.toNat x22)) f0 rfl rfl rfl (inb_e hg26).1 (inb_e hg26).2) ?_
    refine WL_v rfl (VS_ldiF f0 (Pth.idx (L := (LI .i64)) (m := (a0.length)) (k := 1) ((Int.toNat x22)) (inb_e hg26).2 rfl) rfl) ?_
    refine WL_v rfl (VS_eql rfl rfl) ?_
    refine WL_nil ?_
    refine WQ_then ?_
    refine WP_if rfl (fun hc => ?_) (fun hc => ?_)
    ·
      replace h := cn_t hc h
      refine WP_seq ?_
      refine WP_region ?_
      refine WL_v rfl (VS_move rfl) ?_
      refine WL_v rfl (VS_assign rfl) ?_
      refine WL_nil ?_
      refine WQ_then ?_
      refine WP_ret ?_
      refine WQ_block_ret ?_
      refine WQ_then_ret ?_
      refine WQ_then_ret ?_
      refine WQ_block_ret ?_
      refine WQ_then_ret ?_
      replace h := Option.some.inj h
      subst h
      exact WQ_ret () rfl (.tmp rfl .nil) trivial rfl (ks := []) rfl (by decide)
    ·
      replace h := cn_f hc h
      refine WP_skip ?_
      refine WQ_block ?_
      refine WQ_then ?_
      refine WP_region ?_
      refine WL_v rfl (VS_add rfl rfl rfl) ?_
      refine WL_v rfl (VS_move rfl) ?_
      refine WL_nil ?_
      exact WQ_loops (m24, wr .i64 (x22 + 1)) (Nat.lt_succ_self _) h (Sub_cons rfl (Sub_nil)) (.cons rfl (.cons rfl (.cons rfl (.nil)))) (ks := []) rfl (by decide)
  ·
    replace h := cn_f hc h
    refine WP_exit ?_
    refine WQ_then_exit ?_
    refine WQ_then_exit ?_
    refine WQ_block_exit ?_
    refine WQ_then ?_
    refine WP_seq ?_
    refine WP_region ?_
    refine WL_v rfl (VS_assign rfl) ?_
    refine WL_nil ?_
    refine WQ_then ?_
    refine WP_ret ?_
    replace h := Option.some.inj h
    subst h
    exact WQ_ret () rfl (.tmp rfl .nil) trivial rfl (ks := []) rfl (by decide)
def slices_Contains_5298 (n : Nat) (a0 : (List Int)) (a1 : Int) : Option Bool :=
  bd (slices_Index_5298 n a0 a1) fun x21 =>
  some (decide (0 ≤ x21))
theorem c_slices_Contains_5298 {n : Nat} {a0 : (List Int)} {a1 : Int} {r : Bool} {K : World → Prop} [Stable K] {v0 : Value} (f0 : Fz K v0 (LI .i64) a0) (h : slices_Contains_5298 n a0 a1 = some r) : FnW Try.prog 138 [v0, .int .i64 a1] K (.bool r) := by
  unfold slices_Contains_5298 at h
  refine fn_of Try.func138 (by kernel_rfl) rfl Try.ntmps138 rfl (fun cx hbs hpre hro => ?_)
  haveI := knf_pre hbs hpre
  refine WP_seq ?_
  refine WP_region ?_
  refine WL_v rfl (VS_assign rfl) ?_
  refine WL_nil ?_
  refine WQ_then ?_
  refine WP_seq ?_
  obtain ⟨x21, hx21, h⟩ := bd_e h
  refine WP_region ?_
  refine WL_v rfl (VS_move rfl) ?_
  refine WL_v rfl (VS_move rfl) ?_
  refine WL_v rfl (VS_call (c_slices_Index_5298 (K := K) (f0.mono ent) hx21) rfl kn) ?_
  refine WL_v rfl (VS_geq rfl rfl) ?_
  refine WL_v rfl (VS_assign rfl) ?_
  refine WL_nil ?_
  refine WQ_then ?_
  refine WP_ret ?_
  replace h := Option.some.inj h
  subst h
  exact WQ_ret () rfl (.tmp rfl .nil) trivial rfl (ks := []) rfl (by decide)
def extent_object (n : Nat) (a0 : Int) (a1 : Int) : Option Bool :=
  cl ((decide (1 ≤ a0) && decide (a0 ≤ 128)) == true) (slices_Contains_5298 n ([1, 2, 4, 8] : List Int) a1) default fun x26 =>
  some ((decide (1 ≤ a0) && decide (a0 ≤ 128)) && x26)
theorem c_extent_object {n : Nat} {a0 : Int} {a1 : Int} {r : Bool}  (h : extent_object n a0 a1 = some r) : FnV Try.prog 109 [.int .i64 a0, .int .i64 a1] (.bool r) := by
  unfold extent_object at h
  refine fn_of Try.func109 (by kernel_rfl) rfl Try.ntmps109 rfl (fun cx hbs hpre hro => ?_)
  refine WP_seq ?_
  refine WP_region ?_
  refine WL_v rfl (VS_assign rfl) ?_
  refine WL_nil ?_
  refine WQ_then ?_
  refine WP_seq ?_
  obtain ⟨x26, hx26, _, h⟩ := cl_e h
  refine WP_region ?_
  refine WL_v rfl (VS_move rfl) ?_
  refine WL_v rfl (VS_geq rfl rfl) ?_
  refine WL_v rfl (VS_move rfl) ?_
  refine WL_g (Gd_b rfl rfl) rfl (fun hb => VS_move rfl) ?_
  refine WL_g (Gd_b rfl rfl) rfl (fun hb => VS_leq (gev rfl hb) rfl) ?_
  refine WL_v rfl (VS_and rfl rfl) ?_
  refine WL_v rfl (VS_move rfl) ?_
  refine WL_bsc (Gd_b rfl rfl) rfl (L := (LI .i64)) (xs := ([1, 2, 4, 8] : List Int)) (e := 3) (fun hb => RX_bsg (cs := rowC (LI .i64) ([1, 2, 4, 8] : List Int)) (evs_cons rfl (evs_cons rfl (evs_cons rfl (evs_cons rfl rfl)))) rfl (by decide) (by decide) (by decide)) (fun ⟨w21, bs22, J23⟩ hp24 => ?_)
  have f25 : ((decide (1 ≤ a0) && decide (a0 ≤ 128)) == true) = true → Fz (Hs [.ext bs22 J23]) w21 (LI .i64) ([1, 2, 4, 8] : List Int) := hp24
  refine WL_g (Gd_b rfl rfl) rfl (fun hb => VS_move rfl) ?_
  refine WL_g (Gd_b rfl rfl) rfl (fun hb => VS_call (c_slices_Contains_5298 (K := (Hs [.ext bs22 J23])) ((f25 hb).mono ent) (hx26 hb)) (evs_cons (gev rfl hb) (evs_cons (gev rfl hb) rfl)) kn) ?_
  refine WL_v rfl (VS_and rfl rfl) ?_
  refine WL_v rfl (VS_assign rfl) ?_
  refine WL_nil ?_
  refine WQ_then ?_
  refine WP_ret ?_
  replace h := Option.some.inj h
  subst h
  exact WQ_ret () rfl (.tmp rfl .nil) trivial rfl (ks := []) rfl (by decide)
def extent_Extent_Fits_1 (n : Nat) (a0 : Int) (a1 : Int) : Option Int :=
  some (andNotI .i64 (wr .i64 ((wr .i64 (a0 + a1)) - 1)) (wr .i64 (a1 - 1)))
theorem c_extent_Extent_Fits_1 {n : Nat} {a0 : Int} {a1 : Int} {r : Int} {q1 : Nat} (h : extent_Extent_Fits_1 n a0 a1 = some r) : Bw.Fn (α := Unit) Try.prog 111 [.int .i64 a0, Ptr q1 0] (Fut (blks [.cells q1 3 ((LI .i64).enc a1)]) (fun _ => True)) [.cells q1 3 ((LI .i64).enc a1)] (fun _ => True) (fun _ => (.int .i64 r)) (fun _ => [.cells q1 3 ((LI .i64).enc a1)]) := by
  unfold extent_Extent_Fits_1 at h
  refine fn_of Try.func111 (by kernel_rfl) rfl Try.ntmps111 rfl (fun cx hbs hpre hro => ?_)
  refine WP_seq ?_
  refine WP_region ?_
  refine WL_v rfl (VS_assign rfl) ?_
  refine WL_nil ?_
  refine WQ_then ?_
  refine WP_seq ?_
  refine WP_region ?_
  refine WL_v rfl (VS_move rfl) ?_
  refine WL_v rfl (VS_ldi (Pth.id (L := (LI .i64))) rfl) ?_
  refine WL_v rfl (VS_add rfl rfl rfl) ?_
  refine WL_v rfl (VS_sub rfl rfl rfl) ?_
  refine WL_v rfl (VS_ldi (Pth.id (L := (LI .i64))) rfl) ?_
  refine WL_v rfl (VS_sub rfl rfl rfl) ?_
  refine WL_v rfl (VS_andNotI rfl rfl) ?_
  refine WL_v rfl (VS_assign rfl) ?_
  refine WL_nil ?_
  refine WQ_then ?_
  refine WP_ret ?_
  replace h := Option.some.inj h
  subst h
  exact WQ_ret () rfl (.tmp rfl .nil) trivial rfl (ks := [0]) rfl (by decide)
def extent_Extent_Fits (n : Nat) (a0 : extent_Extent) (a1 : Int) (a2 : Int) : Option (Int × Bool) :=
  bd (extent_object n a1 a2) fun x21 =>
  cn ((!x21)) (
  some (0, false)) (
  bd (extent_Extent_Fits_1 n a0.Len a2) fun x22 =>
  bd (extent_Extent_Pages n a0) fun x23 =>
  cn (decide ((wr .i64 (x23 * 32)) < (wr .i64 (x22 + a1)))) (
  some (0, false)) (
  some (x22, true)))
theorem c_extent_Extent_Fits {n : Nat} {a0 : extent_Extent} {a1 : Int} {a2 : Int} {r : Int × Bool} {K : World → Prop} [Stable K] {cs0 : List Value} (f0 : (L_extent_Extent).rep K cs0 a0) (h : extent_Extent_Fits n a0 a1 a2 = some r) : FnW Try.prog 57 [.agg cs0.toArray, .int .i64 a1, .int .i64 a2] K (.tuple #[.int .i64 r.1, .bool r.2]) := by
  unfold extent_Extent_Fits at h
  refine fn_of Try.func57 (by kernel_rfl) rfl Try.ntmps57 rfl (fun cx hbs hpre hro => ?_)
  haveI := knf_pre hbs hpre
  refine WP_seq ?_
  refine WP_region ?_
  refine WL_x rfl (RX_boxa rfl) (fun b3 _ => ?_)
  refine WL_x rfl (RX_boxL (LI .i64) a2 rfl rfl) (fun b5 _ => ?_)
  refine WL_v rfl (VS_assign rfl) ?_
  refine WL_v rfl (VS_assign rfl) ?_
  refine WL_nil ?_
  refine WQ_then ?_
  refine WP_seq ?_
  refine WP_seq ?_
  obtain ⟨x21, hx21, h⟩ := bd_e h
  refine WP_region ?_
  refine WL_v rfl (VS_move rfl) ?_
  refine WL_v rfl (VS_ldi (Pth.id (L := (LI .i64))) rfl) ?_
  refine WL_v rfl (VS_call (c_extent_object hx21) rfl (fun _ _ _ => trivial)) ?_
  refine WL_v rfl (VS_not rfl) ?_
  refine WL_nil ?_
  refine WQ_then ?_
  refine WP_if rfl (fun hc => ?_) (fun hc => ?_)
  ·
    replace h := cn_t hc h
    refine WP_seq ?_
    refine WP_region ?_
    refine WL_v rfl (VS_assign rfl) ?_
    refine WL_v rfl (VS_assign rfl) ?_
    refine WL_nil ?_
    refine WQ_then ?_
    refine WP_ret ?_
    refine WQ_then_ret ?_
    replace h := Option.some.inj h
    subst h
    exact WQ_ret () rfl (.tmp rfl (.tmp rfl .nil)) trivial rfl (ks := []) rfl (by decide)
  ·
    replace h := cn_f hc h
    refine WP_skip ?_
    refine WQ_then ?_
    refine WP_seq ?_
    refine WP_region ?_
    refine WL_v rfl (VS_makeFunc rfl) ?_
    refine WL_v rfl (VS_assign rfl) ?_
    refine WL_nil ?_
    refine WQ_then ?_
    refine WP_seq ?_
    obtain ⟨x22, hx22, h⟩ := bd_e h
    refine WP_region ?_
    refine WL_v rfl (VS_move rfl) ?_
    refine WL_v rfl (VS_field0 rfl) ?_
    refine WL_v rfl (VS_load rfl (P_extent_Extent_Len.int f0)) ?_
    refine WL_x rfl (RX_callH (K := (fun _ => True)) (Hin := [.cells b5 3 ((LI .i64).enc a2)]) (rest := [.cells b3 122 cs0]) (ks := [0, 1]) (c_extent_Extent_Fits_1 hx22) rfl rfl rfl rfl (by decide)) (fun _ _ => ?_)
    dsimp only [List.cons_append, List.nil_append]
    refine WL_v rfl (VS_assign rfl) ?_
    refine WL_nil ?_
    refine WQ_then ?_
    refine WP_seq ?_
    refine WP_seq ?_
    obtain ⟨x23, hx23, h⟩ := bd_e h
    refine WP_region ?_
    refine WL_v rfl (VS_move rfl) ?_
    refine WL_v rfl (VS_move rfl) ?_
    refine WL_v rfl (VS_add rfl rfl rfl) ?_
    refine WL_v rfl (VS_loadall rfl (Lay.len _ f0)) ?_
    refine WL_v rfl (VS_call (c_extent_Extent_Pages (K := K) (Lay.mono _ ent f0) hx23) rfl kn) ?_
    refine WL_v rfl (VS_mul rfl rfl rfl) ?_
    refine WL_v rfl (VS_gtr rfl rfl) ?_
    refine WL_nil ?_
    refine WQ_then ?_
    refine WP_if rfl (fun hc => ?_) (fun hc => ?_)
    ·
      replace h := cn_t hc h
      refine WP_seq ?_
      refine WP_region ?_
      refine WL_v rfl (VS_assign rfl) ?_
      refine WL_v rfl (VS_assign rfl) ?_
      refine WL_nil ?_
      refine WQ_then ?_
      refine WP_ret ?_
      refine WQ_then_ret ?_
      replace h := Option.some.inj h
      subst h
      exact WQ_ret () rfl (.tmp rfl (.tmp rfl .nil)) trivial rfl (ks := []) rfl (by decide)
    ·
      replace h := cn_f hc h
      refine WP_skip ?_
      refine WQ_then ?_
      refine WP_seq ?_
      refine WP_region ?_
      refine WL_v rfl (VS_move rfl) ?_
      refine WL_v rfl (VS_assign rfl) ?_
      refine WL_v rfl (VS_assign rfl) ?_
      refine WL_nil ?_
      refine WQ_then ?_
      refine WP_ret ?_
      replace h := Option.some.inj h
      subst h
      exact WQ_ret () rfl (.tmp rfl (.tmp rfl .nil)) trivial rfl (ks := []) rfl (by decide)
def extent_Extent_Grow (n : Nat) (a0 : extent_Extent) (a1 : runs_Run) : Option extent_Extent :=
  gu (apok a0.Runs.length 1 16) <|
  lt (a0.Runs ++ ([a1]) : List runs_Run) fun x24 =>
  bd (extent_Extent_Pages n a0) fun x28 =>
  lt ({ Runs := x24, Len := wr .i64 (x28 * 32) } : extent_Extent) fun x29 =>
  some x29
theorem c_extent_Extent_Grow {n : Nat} {a0 : extent_Extent} {a1 : runs_Run} {r : extent_Extent} {K : World → Prop} [Stable K] {cs0 : List Value} (f0 : (L_extent_Extent).rep K cs0 a0) (h : extent_Extent_Grow n a0 a1 = some r) : FnB Try.prog 63 [.agg cs0.toArray, .agg (L_runs_Run.enc a1).toArray] K (fun J v => ∃ u0, v = (.agg u0.toArray) ∧ (L_extent_Extent).rep (fun w => K w ∧ J w) u0 (r)) := by
  unfold extent_Extent_Grow at h
  refine fn_of Try.func63 (by kernel_rfl) rfl Try.ntmps63 rfl (fun cx hbs hpre hro => ?_)
  haveI := knf_pre hbs hpre
  refine WP_seq ?_
  refine WP_region ?_
  refine WL_x rfl (RX_boxa rfl) (fun b2 _ => ?_)
  refine WL_x rfl (RX_boxL L_runs_Run a1 rfl rfl) (fun b3 _ => ?_)
  refine WL_x rfl (RX_alloc (hz := (⟨by kernel_rfl⟩ : TZero Try.prog 122 zc_extent_Extent))) (fun b4 _ => ?_)
  refine WL_nil ?_
  refine WQ_then ?_
  refine WP_seq ?_
  obtain ⟨hg23, h⟩ := gu_e h
  obtain ⟨x24, hx24, h⟩ := lt_e h
  obtain ⟨x28, hx28, h⟩ := bd_e h
  obtain ⟨x29, hx29, h⟩ := lt_e h
  refine WP_draw mixed (.stg [] [(0, [2]), (1, [5]), (2, [6]), (3, [3]), (6, [2])] (.alt 4 [8] (.stg [(0, [2]), (1, [5]), (2, [6]), (6, [2])] [] (.alt 5 [7, 9] (.stg [(6, [2])] [(7, [11]), (8, [12]), (9, [10, 13])] (.alt 10 [4, 14] (.fin [] []) .no)) .no)) .no)) (by kernel_rfl) ?_
  refine Stg_stg ?_ ?_
  · exact ReOk_nil
  refine NewOk_cons rfl rfl (VG_v rfl (VS_field0 rfl)) ?_
  obtain ⟨v21, hv21, f22⟩ := P_extent_Extent_Runs.sl f0
  refine NewOk_cons rfl rfl (VG_v rfl (VS_load rfl hv21)) ?_
  refine NewOk_cons rfl rfl (VG_v rfl (VS_call (c_slices_Clip_9402 (K := K) (f22.mono ent)) rfl kn)) ?_
  refine NewOk_cons rfl rfl (VG_v rfl (VS_lda (M := L_runs_Run) (Pth.id (L := L_runs_Run)) rfl rfl)) ?_
  refine NewOk_cons rfl rfl (VG_v rfl (VS_loadall rfl (Lay.len _ f0))) ?_
  refine NewOk_nil ?_
  refine Stg_some rfl rfl (RG_x rfl (RX_bs1 L_runs_Run a1 rfl rfl rfl rfl (by decide) (by decide))) (fun b9 _ => ?_) Stg_no
  refine Stg_stg ?_ ?_
  ·
    refine ReOk_cons rfl rfl (VG_v rfl (VS_field0 rfl)) ?_
    refine ReOk_cons rfl rfl (VG_v rfl (VS_val (VS_load rfl hv21) rfl)) ?_
    refine ReOk_cons rfl rfl (VG_v rfl (VS_val (VS_call (c_slices_Clip_9402 (K := K) (f22.mono ent)) rfl kn) rfl)) ?_
    refine ReOk_cons rfl rfl (VG_v rfl (VS_val (VS_loadall rfl (Lay.len _ f0)) rfl)) ?_
    exact ReOk_nil
  refine NewOk_nil ?_
  refine Stg_some rfl rfl (RG_x rfl (RX_app1c (sz := 2) (L := L_runs_Run) (xs := a0.Runs) (y := a1) (bytes := 16) f22 rfl rfl rfl (apok_e hg23).1 (apok_e hg23).2)) (fun v25 hs26 => ?_) Stg_no
  rw [← hx24] at hs26; rw [← hx24]
  refine Stg_stg ?_ ?_
  ·
    refine ReOk_cons rfl rfl (VG_v rfl (VS_val (VS_loadall rfl (Lay.len _ f0)) rfl)) ?_
    exact ReOk_nil
  refine NewOk_cons rfl rfl (VG_v rfl (VS_call (c_extent_Extent_Pages (K := K) (Lay.mono _ ent f0) hx28) rfl kn)) ?_
  refine NewOk_cons rfl rfl (VG_v rfl (VS_mul rfl rfl rfl)) ?_
  obtain ⟨c30, hc30, f31⟩ : ∃ cc, ([v25] ++ ((LI .i64).enc (wr .i64 (x28 * 32)))) = cc ∧ (L_extent_Extent).rep (Hs [Row v25 133 2 L_runs_Run x24]) cc x29 := ⟨_, rfl, by rw [hx29]; exact ⟨_, _, rfl, ⟨_, rfl, (Fz.row (e := 133) (sz := 2) (L := L_runs_Run) (xs := x24) rfl hs26).mono ent⟩, (FlatL.iff.2 rfl)⟩⟩
  refine NewOk_cons rfl rfl (VG_v rfl (VS_build (cs := c30) rfl (by rw [← hc30]; first | rfl | (simp [fillL, splice, show ∀ k i, (Value.int k i).cells = #[Value.int k i] from fun _ _ => rfl, show ∀ q, (Value.bool q).cells = #[Value.bool q] from fun _ => rfl, (Fz.row (e := 133) (sz := 2) (L := L_runs_Run) (xs := x24) rfl hs26).sl.cells, (Fz.row (e := 133) (sz := 2) (L := L_runs_Run) (xs := x24) rfl hs26).sl.size]; try rfl)))) ?_
  refine NewOk_nil ?_
  obtain ⟨c32, hc32, f33⟩ : ∃ cc, splice zc_extent_Extent 0 c30 = cc ∧ (L_extent_Extent).rep (Hs [Row v25 133 2 L_runs_Run x24]) cc x29 := ⟨_, rfl, (Pth.id (L := L_extent_Extent)).set (Lay.mono _ ent (show (L_extent_Extent).rep (Hs []) zc_extent_Extent Z_extent_Extent from zr_extent_Extent)) (Lay.mono _ ent f31)⟩
  refine Stg_none rfl (RG_x rfl (RX_stN c30 (Pth.id (L := L_extent_Extent)) (v := x29) (r := (show (L_extent_Extent).rep (Hs []) zc_extent_Extent Z_extent_Extent from zr_extent_Extent)) (rv := ((Lay.mono _ ent f31) : (L_extent_Extent).rep (Hs [Row v25 133 2 L_runs_Run x24]) c30 x29)) rfl rfl rfl rfl hc32)) (fun _ _ => ?_) Stg_no
  refine Stg_fin ?_ ?_
  · exact ReOk_nil
  refine NewOk_nil ?_
  refine WQ_then ?_
  refine WP_ret ?_
  replace h := Option.some.inj h
  subst h
  refine WQ_bundle (R := [Row v25 133 2 L_runs_Run x24]) (H' := [.cells b4 122 c32]) (ks := [0, 2]) rfl (by decide) ?_
  have p34 : (L_extent_Extent).rep (fun w => K w ∧ (Hs [.ext (blks [Row v25 133 2 L_runs_Run x24]) (Hs [Row v25 133 2 L_runs_Run x24])]) w) c32 x29 := Lay.mono _ ent f33
  exact WQ_ret (.agg c32.toArray, blks [Row v25 133 2 L_runs_Run x24], Hs [Row v25 133 2 L_runs_Run x24]) rfl (.agg rfl inferInstance inferInstance (Lay.len _ f33) .nil) ⟨_, rfl, p34⟩ rfl (ks := [0]) rfl (by decide)
def extent_Extent_May (n : Nat) (a0 : extent_Extent) : Option Bool :=
  loop2 (fun k38 (x32 : Int) (x33 : runs_Runs) =>
  cn (decide (x32 < (a0.Runs.length : Int))) (
  gu (inb x32 a0.Runs.length) <|
  lt ((a0.Runs.getD (Int.toNat x32) default) : runs_Run) fun x40 =>
  bd (runs_Runs_Give n x33 x40.At x40.N) fun x41 =>
  cn ((!x41.2)) (
  some false) (
  k38 (wr .i64 (x32 + 1)) x41.1)) (
  cl ((decide (0 ≤ a0.Len)) == true) (extent_Extent_Pages n a0) default fun x52 =>
  some (decide (0 ≤ a0.Len) && decide (a0.Len ≤ (wr .i64 (x52 * 32)))))) n 0 Z_runs_Runs
theorem c_extent_Extent_May {n : Nat} {a0 : extent_Extent} {r : Bool} {K : World → Prop} [Stable K] {cs0 : List Value} (f0 : (L_extent_Extent).rep K cs0 a0) (h : extent_Extent_May n a0 = some r) : FnW Try.prog 54 [.agg cs0.toArray] K (.bool r) := by
  unfold extent_Extent_May at h
  refine fn_of Try.func54 (by kernel_rfl) rfl Try.ntmps54 rfl (fun cx hbs hpre hro => ?_)
  haveI := knf_pre hbs hpre
  refine WP_seq ?_
  refine WP_region ?_
  refine WL_x rfl (RX_boxa rfl) (fun b1 _ => ?_)
  refine WL_v rfl (VS_assign rfl) ?_
  refine WL_nil ?_
  refine WQ_then ?_
  refine WP_seq ?_
  refine WP_region ?_
  refine WL_x rfl (RX_alloc (hz := (⟨by kernel_rfl⟩ : TZero Try.prog 138 zc_runs_Runs))) (fun b3 _ => ?_)
  refine WL_nil ?_
  refine WQ_then ?_
  refine WP_seq ?_
  refine WP_seq ?_
  refine WP_region ?_
  refine WL_v rfl (VS_field0 rfl) ?_
  obtain ⟨v21, hv21, f22⟩ := P_extent_Extent_Runs.sl f0
  refine WL_v rfl (VS_load rfl hv21) ?_
  refine WL_v rfl (VS_lenF f22 rfl) ?_
  refine WL_v rfl (VS_move rfl) ?_
  refine WL_nil ?_
  refine WQ_then ?_
  refine WP_block ?_
  obtain ⟨lb36, hlb36, h⟩ := lp2_i h
  refine WP_ext0 ?_
  refine WP_loops (α := Nat × Int × runs_Runs × (List Value) × (List Nat) × (World → Prop)) [1, 3, 9, 10] (.cons rfl (.cons rfl (.cons rfl (.cons rfl (.nil))))) (fun (m37, x32, x33, c34, bs30, J31) => [(11, .int .i64 x32)]) (fun (m37, x32, x33, c34, bs30, J31) => [.ext bs30 J31, .cells b3 138 c34, .cells b1 122 cs0]) (fun (m37, x32, x33, c34, bs30, J31) => (L_runs_Runs).rep (Hs [.ext bs30 J31]) c34 x33 ∧ loop2 lb36 m37 x32 x33 = some r) (fun (m37, x32, x33, c34, bs30, J31) => m37) (n, 0, Z_runs_Runs, zc_runs_Runs, [], (Hs [])) ⟨(Lay.mono _ ent (show (L_runs_Runs).rep (Hs []) zc_runs_Runs Z_runs_Runs from zr_runs_Runs)), h⟩ (Sub_cons rfl (Sub_nil)) (ks := [0, 1, 2]) rfl (by decide) ?_
  rintro ⟨m37, x32, x33, c34, bs30, J31⟩ ⟨f35, h⟩
  replace h : loop2 lb36 m37 x32 x33 = some r := h
  replace h := lp2_s hlb36 h
  obtain ⟨m37, rfl, h⟩ := h
  refine WP_seq ?_
  refine WP_region ?_
  refine WL_v rfl (VS_lss rfl rfl) ?_
  refine WL_nil ?_
  refine WQ_then ?_
  refine WP_seq ?_
  refine WP_if rfl (fun hc => ?_) (fun hc => ?_)
  ·
    replace h := cn_t hc h
    refine WP_skip ?_
    refine WQ_then ?_
    refine WP_seq ?_
    refine WP_block ?_
    refine WP_seq ?_
    obtain ⟨hg39, h⟩ := gu_e h
    obtain ⟨x40, hx40, h⟩ := lt_e h
    refine WP_region ?_
    refine WL_v rfl (VS_ixF (m := (Int.toNat x32)) f22 rfl rfl rfl (inb_e hg39).1 (inb_e hg39).2) ?_
    refine WL_v rfl (VS_ldaF (M := L_runs_Run) f22 (Pth.idx (L := L_runs_Run) (m := (a0.Runs.length)) (k := 2) ((Int.toNat x32)) (inb_e hg39).2 rfl) rfl rfl (by decide)) ?_
    refine WL_x rfl (RX_allocL (L := L_runs_Run) (z := Z_runs_Run) ⟨by kernel_rfl⟩) (fun b5 _ => ?_)
    refine WL_x0 (RX_st (M := L_runs_Run) (Pth.id (L := L_runs_Run)) (a0.Runs.getD (Int.toNat x32) default) x40 hx40 rfl rfl rfl rfl) (fun _ _ => ?_)
    refine WL_nil ?_
    refine WQ_then ?_
    refine WP_seq ?_
    obtain ⟨x41, hx41, h⟩ := bd_e h
    refine WP_region ?_
    refine WL_v rfl (VS_loadall rfl (Lay.len _ f35)) ?_
    refine WL_v rfl (VS_field0 rfl) ?_
    refine WL_v rfl (VS_ldi P_runs_Run_At rfl) ?_
    refine WL_v rfl (VS_field0 rfl) ?_
    refine WL_v rfl (VS_ldi P_runs_Run_N rfl) ?_
    refine WL_x rfl (RX_callB (c_runs_Runs_Give (K := (Hs [.ext bs30 J31])) (Lay.mono _ ent f35) hx41) rfl) (fun ⟨w42, bs43, J44⟩ hp45 => ?_)
    obtain ⟨c47, rfl, f46⟩ := hp45
    replace f46 : (L_runs_Runs).rep (fun w => (Hs [.ext bs30 J31]) w ∧ Hs [.ext bs43 J44] w) c47 x41.1 := f46
    refine WL_v rfl (VS_move rfl) ?_
    refine WL_v rfl (VS_extract rfl rfl) ?_
    refine WL_v rfl (VS_extract rfl rfl) ?_
    refine WL_x rfl (RX_alloc (hz := (⟨by kernel_rfl⟩ : TZero Try.prog 138 zc_runs_Runs))) (fun b6 _ => ?_)
    obtain ⟨c48, hc48, f49⟩ : ∃ cc, splice zc_runs_Runs 0 c47 = cc ∧ (L_runs_Runs).rep (Hs [.ext bs30 J31, .ext bs43 J44]) cc x41.1 := ⟨_, rfl, (Pth.id (L := L_runs_Runs)).set (Lay.mono _ ent (show (L_runs_Runs).rep (Hs []) zc_runs_Runs Z_runs_Runs from zr_runs_Runs)) (Lay.mono _ ent f46)⟩
    refine WL_x0 (RX_stN c47 (Pth.id (L := L_runs_Runs)) (v := x41.1) (r := (show (L_runs_Runs).rep (Hs []) zc_runs_Runs Z_runs_Runs from zr_runs_Runs)) (rv := ((Lay.mono _ ent f46) : (L_runs_Runs).rep (Hs [.ext bs30 J31, .ext bs43 J44]) c47 x41.1)) rfl rfl rfl rfl hc48) (fun _ _ => ?_)
    refine WL_v rfl (VS_assign rfl) ?_
    refine WL_nil ?_
    refine WQ_then ?_
    refine WP_seq ?_
    refine WP_seq ?_
    refine WP_region ?_
    refine WL_v rfl (VS_move rfl) ?_
    refine WL_v rfl (VS_not rfl) ?_
    refine WL_nil ?_
    refine WQ_then ?_
    refine WP_if rfl (fun hc => ?_) (fun hc => ?_)
    ·
      replace h := cn_t hc h
      refine WP_seq ?_
      refine WP_region ?_
      refine WL_v rfl (VS_assign rfl) ?_
      refine WL_nil ?_
      refine WQ_then ?_
      refine WP_ret ?_
      refine WQ_then_ret ?_
      refine WQ_block_ret ?_
      refine WQ_then_ret ?_
      refine WQ_then_ret ?_
      refine WQ_block_ret ?_
      refine WQ_then_ret ?_
      replace h := Option.some.inj h
      subst h
      exact WQ_ret () rfl (.tmp rfl .nil) trivial rfl (ks := []) rfl (by decide)
    ·
      replace h := cn_f hc h
      refine WP_skip ?_
      refine WQ_then ?_
      refine WP_region ?_
      refine WL_v rfl (VS_loadall rfl (Lay.len _ f49)) ?_
      obtain ⟨c50, hc50, f51⟩ : ∃ cc, splice c34 0 c48 = cc ∧ (L_runs_Runs).rep (Hs [.ext bs30 J31, .ext bs43 J44]) cc x41.1 := ⟨_, rfl, (Pth.id (L := L_runs_Runs)).set (Lay.mono _ ent f35) (Lay.mono _ ent f49)⟩
      refine WL_x0 (RX_stN c48 (Pth.id (L := L_runs_Runs)) (v := x41.1) (r := f35) (rv := ((Lay.mono _ ent f49) : (L_runs_Runs).rep (Hs [.ext bs30 J31, .ext bs43 J44]) c48 x41.1)) rfl rfl rfl rfl hc50) (fun _ _ => ?_)
      refine WL_nil ?_
      refine WQ_block ?_
      refine WQ_then ?_
      refine WP_region ?_
      refine WL_v rfl (VS_add rfl rfl rfl) ?_
      refine WL_v rfl (VS_move rfl) ?_
      refine WL_nil ?_
      refine WQ_bundle (R := [.ext bs43 J44, .ext bs30 J31]) (H' := [.cells b6 138 c48, .cells b5 133 (L_runs_Run.enc x40), .cells b3 138 c50, .cells b1 122 cs0]) (ks := [1, 3, 0, 2, 4, 5]) rfl (by decide) ?_
      exact WQ_loops (m37, wr .i64 (x32 + 1), x41.1, c50, (blks [.ext bs43 J44, .ext bs30 J31]), (Hs [.ext bs43 J44, .ext bs30 J31])) (Nat.lt_succ_self _) ⟨(Lay.mono _ ent f51), h⟩ (Sub_cons rfl (Sub_nil)) (.cons rfl (.cons rfl (.cons rfl (.cons rfl (.nil))))) (ks := [0, 3, 4]) rfl (by decide)
  ·
    replace h := cn_f hc h
    refine WP_exit ?_
    refine WQ_then_exit ?_
    refine WQ_then_exit ?_
    refine WQ_block_exit ?_
    refine WQ_then ?_
    refine WP_seq ?_
    obtain ⟨x52, hx52, _, h⟩ := cl_e h
    refine WP_draw mixed (.stg [] [(0, [1]), (1, [28]), (2, [29]), (3, [30]), (4, [1, 31]), (5, [31, 32]), (6, [1, 31]), (7, [31, 34]), (8, [31, 35]), (9, [31, 33, 36]), (10, [31, 37])] (.alt 11 [38] (.fin [] []) .no)) (by kernel_rfl) ?_
    refine Stg_stg ?_ ?_
    · exact ReOk_nil
    refine NewOk_cons rfl rfl (VG_v rfl (VS_field0 rfl)) ?_
    refine NewOk_cons rfl rfl (VG_v rfl (VS_load rfl (P_extent_Extent_Len.int f0))) ?_
    refine NewOk_cons rfl rfl (VG_v rfl (VS_geq rfl rfl)) ?_
    refine NewOk_cons rfl rfl (VG_v rfl (VS_move rfl)) ?_
    refine NewOk_cons rfl rfl (VG_g (Gd_b rfl rfl) (fun hb => VS_field0 rfl)) ?_
    refine NewOk_cons rfl rfl (VG_g (Gd_b rfl rfl) (fun hb => VS_load (gev rfl hb) (P_extent_Extent_Len.int f0))) ?_
    refine NewOk_cons rfl rfl (VG_g (Gd_b rfl rfl) (fun hb => VS_loadall rfl (Lay.len _ f0))) ?_
    refine NewOk_cons rfl rfl (VG_g (Gd_b rfl rfl) (fun hb => VS_call (c_extent_Extent_Pages (K := K) (Lay.mono _ ent f0) (hx52 hb)) (evs_cons (gev rfl hb) rfl) kn)) ?_
    refine NewOk_cons rfl rfl (VG_g (Gd_b rfl rfl) (fun hb => VS_mul (gev rfl hb) rfl rfl)) ?_
    refine NewOk_cons rfl rfl (VG_g (Gd_b rfl rfl) (fun hb => VS_leq (gev rfl hb) (gev rfl hb))) ?_
    refine NewOk_cons rfl rfl (VG_v rfl (VS_and rfl rfl)) ?_
    refine NewOk_nil ?_
    refine Stg_some rfl rfl (RG_x rfl ((VS_assign rfl).rx)) (fun _ _ => ?_) Stg_no
    refine Stg_fin ?_ ?_
    · exact ReOk_nil
    refine NewOk_nil ?_
    refine WQ_then ?_
    refine WP_ret ?_
    replace h := Option.some.inj h
    subst h
    exact WQ_ret () rfl (.tmp rfl .nil) trivial rfl (ks := []) rfl (by decide)
def extent_Extent_Place (n : Nat) (a0 : extent_Extent) (a1 : Int) : Option (Int × Bool) :=
  bd (extent_Extent_chunks n a0) fun x21 =>
  bd (extent_Extent_chunks_1 n x21) fun x25 =>
  itr1 (fun (e36 : Int × runs_Run) k28 (u27 : Unit) =>
  lt (e36.1 : Int) fun x34 =>
  lt (e36.2 : runs_Run) fun x35 =>
  cn ((decide (x34 ≤ a1) && decide (a1 < (wr .i64 (x34 + (wr .i64 (x35.N * 32))))))) (
  lt (wr .i64 ((wr .i64 ((wr .i64 (x35.At * 32)) + a1)) - x34) : Int) fun x37 =>
  some (x37, true)) (
  k28 ())) (fun (u27 : Unit) =>
  some (0, false)) x25 ()
theorem c_extent_Extent_Place {n : Nat} {a0 : extent_Extent} {a1 : Int} {r : Int × Bool} {K : World → Prop} [Stable K] {cs0 : List Value} (f0 : (L_extent_Extent).rep K cs0 a0) (h : extent_Extent_Place n a0 a1 = some r) : FnW Try.prog 62 [.agg cs0.toArray, .int .i64 a1] K (.tuple #[.int .i64 r.1, .bool r.2]) := by
  unfold extent_Extent_Place at h
  refine fn_of Try.func62 (by kernel_rfl) rfl Try.ntmps62 rfl (fun cx hbs hpre hro => ?_)
  haveI := knf_pre hbs hpre
  refine WP_seq ?_
  refine WP_region ?_
  refine WL_x rfl (RX_boxa rfl) (fun b2 _ => ?_)
  refine WL_x rfl (RX_boxL (LI .i64) a1 rfl rfl) (fun b3 _ => ?_)
  refine WL_x rfl (RX_allocL (L := (LI .i64)) (z := 0) ⟨by kernel_rfl⟩) (fun b4 _ => ?_)
  refine WL_x rfl (RX_allocL (L := LB) (z := false) ⟨by kernel_rfl⟩) (fun b5 _ => ?_)
  refine WL_nil ?_
  refine WQ_then ?_
  refine WP_seq ?_
  refine WP_seq ?_
  obtain ⟨x21, hx21, h⟩ := bd_e h
  refine WP_region ?_
  refine WL_v rfl (VS_loadall rfl (Lay.len _ f0)) ?_
  refine WL_x rfl (RX_call (c_extent_Extent_chunks (K := K) (Lay.mono _ ent f0) hx21) rfl kn) (fun ⟨b22, c23⟩ f24 => ?_)
  replace f24 : (L_extent_Extent).rep K c23 x21 := f24
  dsimp only [List.cons_append, List.nil_append]
  refine WL_nil ?_
  refine WQ_then ?_
  refine WP_block ?_
  obtain ⟨x25, hx25, h⟩ := bd_e h
  obtain ⟨ib30, hib30, fi31, hfi31, h⟩ := it1_i h
  refine WP_rangeK (K := K) (α := Unit) (β := Bool × Int) hro rfl (it_extent_Extent_chunks_1 (K := K) (Lay.mono _ ent f24) hx25) (fun _ => rfl) rfl (fun kk29 => fun u27 => itr1 ib30 fi31 (x25.drop kk29) u27 = some r) (fun kk29 => fun u27 => [.cells b5 4 (LB.enc false), .cells b4 3 ((LI .i64).enc 0), .cells b3 3 ((LI .i64).enc a1), .cells b2 122 cs0]) (fun j => fun (x32, x33) => j = Code.ret ∧ some (x33, x32) = some r) (fun (x32, x33) => [.cells b5 4 (LB.enc x32), .cells b4 3 ((LI .i64).enc x33), .cells b3 3 ((LI .i64).enc a1), .cells b2 122 cs0]) () h (ks := [0, 1, 2, 3, 4]) rfl (by decide) ?_ ?_ ?_
  ·
    rintro kk29 u27 lo dd rec c' hk h hrs hrp hro' hsi hT
    replace h : itr1 ib30 fi31 (x25.drop kk29) u27 = some r := h
    replace h := it1_s hib30 hk h
    haveI := knf_in (K := K) hsi
    dsimp only [parF]
    obtain ⟨x34, hx34, h⟩ := lt_e h
    rw [← hx34]
    obtain ⟨x35, hx35, h⟩ := lt_e h
    rw [← hx35]
    refine WP_seq ?_
    refine WP_region ?_
    refine WL_v rfl (VS_assign rfl) ?_
    refine WL_nil ?_
    refine WQ_then ?_
    refine WP_region ?_
    refine WL_x rfl (RX_allocL (L := L_runs_Run) (z := Z_runs_Run) ⟨by kernel_rfl⟩) (fun b7 _ => ?_)
    refine WL_x0 (RX_st (M := L_runs_Run) (Pth.id (L := L_runs_Run)) x35 x35 rfl rfl rfl rfl rfl) (fun _ _ => ?_)
    refine WL_nil ?_
    refine WQ_begin hrs hro' ?_
    refine WP_block ?_
    refine WP_seq ?_
    refine WP_region ?_
    refine WL_v rfl (VS_ldi (Pth.id (L := (LI .i64))) rfl) ?_
    refine WL_v rfl (VS_move rfl) ?_
    refine WL_v rfl (VS_geq rfl rfl) ?_
    refine WL_v rfl (VS_move rfl) ?_
    refine WL_g (Gd_b rfl rfl) rfl (fun hb => VS_ldi (Pth.id (L := (LI .i64))) rfl) ?_
    refine WL_g (Gd_b rfl rfl) rfl (fun hb => VS_move rfl) ?_
    refine WL_g (Gd_b rfl rfl) rfl (fun hb => VS_field0 rfl) ?_
    refine WL_g (Gd_b rfl rfl) rfl (fun hb => VS_ldi P_runs_Run_N (gev rfl hb)) ?_
    refine WL_g (Gd_b rfl rfl) rfl (fun hb => VS_mul (gev rfl hb) rfl rfl) ?_
    refine WL_g (Gd_b rfl rfl) rfl (fun hb => VS_add (gev rfl hb) (gev rfl hb) rfl) ?_
    refine WL_g (Gd_b rfl rfl) rfl (fun hb => VS_lss (gev rfl hb) (gev rfl hb)) ?_
    refine WL_v rfl (VS_and rfl rfl) ?_
    refine WL_nil ?_
    refine WQ_then ?_
    refine WP_if rfl (fun hc => ?_) (fun hc => ?_)
    ·
      replace h := cn_t hc h
      refine WP_seq ?_
      obtain ⟨x37, hx37, h⟩ := lt_e h
      refine WP_region ?_
      refine WL_v rfl (VS_field0 rfl) ?_
      refine WL_v rfl (VS_ldi P_runs_Run_At rfl) ?_
      refine WL_v rfl (VS_mul rfl rfl rfl) ?_
      refine WL_v rfl (VS_ldi (Pth.id (L := (LI .i64))) rfl) ?_
      refine WL_v rfl (VS_add rfl rfl rfl) ?_
      refine WL_v rfl (VS_move rfl) ?_
      refine WL_v rfl (VS_sub rfl rfl rfl) ?_
      refine WL_x0 (RX_st (M := (LI .i64)) (Pth.id (L := (LI .i64))) (wr .i64 ((wr .i64 ((wr .i64 (x35.At * 32)) + a1)) - x34)) x37 hx37 rfl rfl rfl rfl) (fun _ _ => ?_)
      refine WL_x0 (RX_st (M := LB) (Pth.id (L := LB)) true true rfl rfl rfl rfl rfl) (fun _ _ => ?_)
      refine WL_nil ?_
      refine WQ_then ?_
      refine WP_ret ?_
      refine WQ_block_ret ?_
      exact WQ_stop hT (.inl ⟨rfl, rfl⟩) ⟨Code.ret, true, x37⟩ ⟨rfl, h⟩ (ks := [1, 2, 3, 4, 5, 6]) rfl (by decide)
    ·
      replace h := cn_f hc h
      refine WP_skip ?_
      refine WQ_block ?_
      exact WQ_next hrs hrp hT () h (ks := [1, 2, 3, 4, 5, 6]) rfl (by decide)
  ·
    rintro dd38 u27 h
    replace h : itr1 ib30 fi31 (x25.drop x25.length) u27 = some r := h
    replace h := it1_n hfi31 rfl h
    dsimp only [List.cons_append, List.nil_append]
    refine WQ_block ?_
    refine WQ_then ?_
    refine WP_seq ?_
    refine WP_region ?_
    refine WL_x0 (RX_st (M := (LI .i64)) (Pth.id (L := (LI .i64))) 0 0 rfl rfl rfl rfl rfl) (fun _ _ => ?_)
    refine WL_x0 (RX_st (M := LB) (Pth.id (L := LB)) false false rfl rfl rfl rfl rfl) (fun _ _ => ?_)
    refine WL_nil ?_
    refine WQ_then ?_
    refine WP_ret ?_
    replace h := Option.some.inj h
    subst h
    exact WQ_retm () rfl (.one rfl inferInstance inferInstance rfl (.one rfl inferInstance inferInstance rfl .nil)) trivial rfl (ks := []) rfl (by decide)
  ·
    rintro dd38 j ⟨x32, x33⟩ ⟨rfl, h⟩
    dsimp only [List.cons_append, List.nil_append]
    refine WP_ret ?_
    refine WQ_block_ret ?_
    refine WQ_then_ret ?_
    replace h := Option.some.inj h
    subst h
    exact WQ_retm () rfl (.one rfl inferInstance inferInstance rfl (.one rfl inferInstance inferInstance rfl .nil)) trivial rfl (ks := []) rfl (by decide)
def extent_Extent_Put (n : Nat) (a0 : extent_Extent) (a1 : Int) (a2 : Int) : Option (extent_Extent × Int × Bool) :=
  bd (extent_Extent_Fits n a0 a1 a2) fun x21 =>
  cn (x21.2) (
  lt ({ a0 with Len := wr .i64 (x21.1 + a1) } : extent_Extent) fun x22 =>
  some (x22, x21.1, x21.2)) (
  some (a0, x21.1, x21.2))
theorem c_extent_Extent_Put {n : Nat} {a0 : extent_Extent} {a1 : Int} {a2 : Int} {r : extent_Extent × Int × Bool} {K : World → Prop} [Stable K] {cs0 : List Value} (f0 : (L_extent_Extent).rep K cs0 a0) (h : extent_Extent_Put n a0 a1 a2 = some r) : FnB Try.prog 59 [.agg cs0.toArray, .int .i64 a1, .int .i64 a2] K (fun J v => ∃ u0, v = (.tuple #[.agg u0.toArray, .int .i64 r.2.1, .bool r.2.2]) ∧ (L_extent_Extent).rep (fun w => K w ∧ J w) u0 (r.1)) := by
  unfold extent_Extent_Put at h
  refine fn_of Try.func59 (by kernel_rfl) rfl Try.ntmps59 rfl (fun cx hbs hpre hro => ?_)
  haveI := knf_pre hbs hpre
  refine WP_seq ?_
  refine WP_region ?_
  refine WL_x rfl (RX_boxa rfl) (fun b3 _ => ?_)
  refine WL_x rfl (RX_alloc (hz := (⟨by kernel_rfl⟩ : TZero Try.prog 122 zc_extent_Extent))) (fun b6 _ => ?_)
  refine WL_v rfl (VS_assign rfl) ?_
  refine WL_v rfl (VS_assign rfl) ?_
  refine WL_nil ?_
  refine WQ_then ?_
  refine WP_seq ?_
  obtain ⟨x21, hx21, h⟩ := bd_e h
  refine WP_region ?_
  refine WL_v rfl (VS_loadall rfl (Lay.len _ f0)) ?_
  refine WL_v rfl (VS_move rfl) ?_
  refine WL_v rfl (VS_move rfl) ?_
  refine WL_v rfl (VS_call (c_extent_Extent_Fits (K := K) (Lay.mono _ ent f0) hx21) rfl kn) ?_
  refine WL_v rfl (VS_move rfl) ?_
  refine WL_v rfl (VS_extract rfl rfl) ?_
  refine WL_v rfl (VS_extract rfl rfl) ?_
  refine WL_v rfl (VS_assign rfl) ?_
  refine WL_v rfl (VS_assign rfl) ?_
  refine WL_nil ?_
  refine WQ_then ?_
  refine WP_seq ?_
  refine WP_seq ?_
  refine WP_region ?_
  refine WL_v rfl (VS_move rfl) ?_
  refine WL_nil ?_
  refine WQ_then ?_
  refine WP_if rfl (fun hc => ?_) (fun hc => ?_)
  ·
    replace h := cn_t hc h
    obtain ⟨x22, hx22, h⟩ := lt_e h
    refine WP_region ?_
    refine WL_v rfl (VS_move rfl) ?_
    refine WL_v rfl (VS_move rfl) ?_
    refine WL_v rfl (VS_add rfl rfl rfl) ?_
    refine WL_v rfl (VS_field0 rfl) ?_
    obtain ⟨c23, hc23, f24⟩ : ∃ cc, splice cs0 1 ((LI .i64).enc (wr .i64 (x21.1 + a1))) = cc ∧ (L_extent_Extent).rep K cc x22 := ⟨_, rfl, by rw [hx22]; exact P_extent_Extent_Len.set (Lay.mono _ ent f0) (FlatL.iff.2 rfl)⟩
    refine WL_x0 (RX_stN ((LI .i64).enc (wr .i64 (x21.1 + a1))) P_extent_Extent_Len (v := wr .i64 (x21.1 + a1)) (r := f0) (rv := ((FlatL.iff.2 rfl) : ((LI .i64)).rep K ((LI .i64).enc (wr .i64 (x21.1 + a1))) (wr .i64 (x21.1 + a1)))) rfl rfl rfl rfl hc23) (fun _ _ => ?_)
    refine WL_nil ?_
    refine WQ_then ?_
    refine WP_seq ?_
    refine WP_region ?_
    refine WL_v rfl (VS_loadall rfl (Lay.len _ f24)) ?_
    refine WL_v rfl (VS_move rfl) ?_
    refine WL_v rfl (VS_move rfl) ?_
    obtain ⟨c25, hc25, f26⟩ : ∃ cc, splice zc_extent_Extent 0 c23 = cc ∧ (L_extent_Extent).rep K cc x22 := ⟨_, rfl, (Pth.id (L := L_extent_Extent)).set (Lay.mono _ ent (show (L_extent_Extent).rep (Hs []) zc_extent_Extent Z_extent_Extent from zr_extent_Extent)) (Lay.mono _ ent f24)⟩
    refine WL_x0 (RX_stN c23 (Pth.id (L := L_extent_Extent)) (v := x22) (r := (show (L_extent_Extent).rep (Hs []) zc_extent_Extent Z_extent_Extent from zr_extent_Extent)) (rv := ((Lay.mono _ ent f24) : (L_extent_Extent).rep K c23 x22)) rfl rfl rfl rfl hc25) (fun _ _ => ?_)
    refine WL_v rfl (VS_assign rfl) ?_
    refine WL_v rfl (VS_assign rfl) ?_
    refine WL_nil ?_
    refine WQ_then ?_
    refine WP_ret ?_
    replace h := Option.some.inj h
    subst h
    refine WQ_bundle (R := []) (H' := [.cells b6 122 c25]) (ks := [0]) rfl (by decide) ?_
    have p27 : (L_extent_Extent).rep (fun w => K w ∧ (Hs [.ext (blks []) (Hs [])]) w) c25 x22 := Lay.mono _ ent f26
    exact WQ_ret (.tuple #[.agg c25.toArray, .int .i64 x21.1, .bool x21.2], blks [], Hs []) rfl (.agg rfl inferInstance inferInstance (Lay.len _ f26) (.tmp rfl (.tmp rfl .nil))) ⟨_, rfl, p27⟩ rfl (ks := [0]) rfl (by decide)
  ·
    replace h := cn_f hc h
    refine WP_skip ?_
    refine WQ_then ?_
    refine WP_seq ?_
    refine WP_region ?_
    refine WL_v rfl (VS_loadall rfl (Lay.len _ f0)) ?_
    refine WL_v rfl (VS_move rfl) ?_
    refine WL_v rfl (VS_move rfl) ?_
    obtain ⟨c28, hc28, f29⟩ : ∃ cc, splice zc_extent_Extent 0 cs0 = cc ∧ (L_extent_Extent).rep K cc a0 := ⟨_, rfl, (Pth.id (L := L_extent_Extent)).set (Lay.mono _ ent (show (L_extent_Extent).rep (Hs []) zc_extent_Extent Z_extent_Extent from zr_extent_Extent)) (Lay.mono _ ent f0)⟩
    refine WL_x0 (RX_stN cs0 (Pth.id (L := L_extent_Extent)) (v := a0) (r := (show (L_extent_Extent).rep (Hs []) zc_extent_Extent Z_extent_Extent from zr_extent_Extent)) (rv := ((Lay.mono _ ent f0) : (L_extent_Extent).rep K cs0 a0)) rfl rfl rfl rfl hc28) (fun _ _ => ?_)
    refine WL_v rfl (VS_assign rfl) ?_
    refine WL_v rfl (VS_assign rfl) ?_
    refine WL_nil ?_
    refine WQ_then ?_
    refine WP_ret ?_
    replace h := Option.some.inj h
    subst h
    refine WQ_bundle (R := []) (H' := [.cells b6 122 c28]) (ks := [0]) rfl (by decide) ?_
    have p30 : (L_extent_Extent).rep (fun w => K w ∧ (Hs [.ext (blks []) (Hs [])]) w) c28 a0 := Lay.mono _ ent f29
    exact WQ_ret (.tuple #[.agg c28.toArray, .int .i64 x21.1, .bool x21.2], blks [], Hs []) rfl (.agg rfl inferInstance inferInstance (Lay.len _ f29) (.tmp rfl (.tmp rfl .nil))) ⟨_, rfl, p30⟩ rfl (ks := [0]) rfl (by decide)
def law04_Of (n : Nat) (a0 : ref04_Extent) : Option extent_Extent :=
  lt ({ Runs := [], Len := a0.Len } : extent_Extent) fun x21 =>
  loop2 (fun k36 (x30 : Int) (x31 : extent_Extent) =>
  cn (decide (x30 < (a0.Runs.length : Int))) (
  gu (inb x30 a0.Runs.length) <|
  gu (inb x30 a0.Runs.length) <|
  lt ({ At := ((a0.Runs.getD (Int.toNat x30) default) 0), N := ((a0.Runs.getD (Int.toNat x30) default) 1) } : runs_Run) fun x45 =>
  gu (apok x31.Runs.length 1 16) <|
  lt (x31.Runs ++ ([x45]) : List runs_Run) fun x47 =>
  lt ({ x31 with Runs := x47 } : extent_Extent) fun x50 =>
  k36 (wr .i64 (x30 + 1)) ({ x31 with Runs := x47 })) (
  some x31)) n 0 ({ Runs := ([] : List runs_Run), Len := a0.Len } : extent_Extent)
theorem c_law04_Of {n : Nat} {a0 : ref04_Extent} {r : extent_Extent} {K : World → Prop} [Stable K] {cs0 : List Value} (f0 : (L_ref04_Extent).rep K cs0 a0) (h : law04_Of n a0 = some r) : FnB Try.prog 51 [.agg cs0.toArray] K (fun J v => ∃ u0, v = (.agg u0.toArray) ∧ (L_extent_Extent).rep (fun w => K w ∧ J w) u0 (r)) := by
  unfold law04_Of at h
  refine fn_of Try.func51 (by kernel_rfl) rfl Try.ntmps51 rfl (fun cx hbs hpre hro => ?_)
  haveI := knf_pre hbs hpre
  refine WP_seq ?_
  refine WP_region ?_
  refine WL_x rfl (RX_boxa rfl) (fun b1 _ => ?_)
  refine WL_x rfl (RX_alloc (hz := (⟨by kernel_rfl⟩ : TZero Try.prog 122 zc_extent_Extent))) (fun b2 _ => ?_)
  refine WL_nil ?_
  refine WQ_then ?_
  refine WP_seq ?_
  obtain ⟨x21, hx21, h⟩ := lt_e h
  refine WP_region ?_
  refine WL_v rfl (VS_field0 rfl) ?_
  refine WL_v rfl (VS_load rfl (P_ref04_Extent_Len.int f0)) ?_
  obtain ⟨c22, hc22, f23⟩ : ∃ cc, ([.slice none 0 0] ++ ((LI .i64).enc a0.Len)) = cc ∧ (L_extent_Extent).rep (Hs []) cc x21 := ⟨_, rfl, by rw [hx21]; exact ⟨_, _, rfl, ⟨_, rfl, Fz.nil⟩, (FlatL.iff.2 rfl)⟩⟩
  refine WL_v rfl (VS_build (cs := c22) rfl (by rw [← hc22]; rfl)) ?_
  refine WL_x rfl (RX_alloc (hz := (⟨by kernel_rfl⟩ : TZero Try.prog 122 zc_extent_Extent))) (fun b3 _ => ?_)
  refine WL_rowN 133 2 L_runs_Run ?_
  refine WL_x0 (RX_stN (cs' := ([.slice none 0 0] ++ ((LI .i64).enc a0.Len))) ([.slice none 0 0] ++ ((LI .i64).enc a0.Len)) (Pth.id (L := L_extent_Extent)) (v := ({ Runs := ([] : List runs_Run), Len := a0.Len } : extent_Extent)) (r := (show (L_extent_Extent).rep (Hs []) zc_extent_Extent Z_extent_Extent from zr_extent_Extent)) (rv := (show (L_extent_Extent).rep (Hs [Row (.slice none 0 0) 133 2 L_runs_Run ([] : List runs_Run)]) ([.slice none 0 0] ++ ((LI .i64).enc a0.Len)) ({ Runs := ([] : List runs_Run), Len := a0.Len } : extent_Extent) from ⟨_, _, rfl, ⟨_, rfl, (Fz.row (e := 133) (sz := 2) (L := L_runs_Run) (xs := ([] : List runs_Run)) rfl ⟨_, _, rfl⟩).mono ent⟩, (FlatL.iff.2 rfl)⟩)) rfl rfl (by rw [← hc22]; rfl) rfl rfl) (fun _ _ => ?_)
  refine WL_nil ?_
  refine WQ_then ?_
  refine WP_seq ?_
  refine WP_seq ?_
  refine WP_region ?_
  refine WL_v rfl (VS_assign rfl) ?_
  refine WL_nil ?_
  refine WQ_then ?_
  refine WP_block ?_
  obtain ⟨lb34, hlb34, h⟩ := lp2_i h
  refine WP_loops (α := Nat × Int × extent_Extent × Value) [1, 2, 3] (.cons rfl (.cons rfl (.cons rfl (.nil)))) (fun (m35, x30, x31, v32) => [(4, .int .i64 x30)]) (fun (m35, x30, x31, v32) => [Row v32 133 2 L_runs_Run x31.Runs, .cells b3 122 ([v32] ++ ((LI .i64).enc x31.Len)), .cells b2 122 zc_extent_Extent, .cells b1 119 cs0]) (fun (m35, x30, x31, v32) => SlN v32 x31.Runs.length ∧ loop2 lb34 m35 x30 x31 = some r) (fun (m35, x30, x31, v32) => m35) (n, 0, ({ Runs := ([] : List runs_Run), Len := a0.Len } : extent_Extent), .slice none 0 0) ⟨⟨_, _, rfl⟩, h⟩ (Sub_cons rfl (Sub_nil)) (ks := [0, 1, 2, 3]) rfl (by decide) ?_
  rintro ⟨m35, x30, x31, v32⟩ ⟨hs33, h⟩
  replace h : loop2 lb34 m35 x30 x31 = some r := h
  replace h := lp2_s hlb34 h
  obtain ⟨m35, rfl, h⟩ := h
  refine WP_seq ?_
  refine WP_seq ?_
  refine WP_region ?_
  refine WL_v rfl (VS_move rfl) ?_
  refine WL_v rfl (VS_field0 rfl) ?_
  obtain ⟨v37, hv37, f38⟩ := P_ref04_Extent_Runs.sl f0
  refine WL_v rfl (VS_load rfl hv37) ?_
  refine WL_v rfl (VS_lenF f38 rfl) ?_
  refine WL_v rfl (VS_lss rfl rfl) ?_
  refine WL_nil ?_
  refine WQ_then ?_
  refine WP_if rfl (fun hc => ?_) (fun hc => ?_)
  ·
    replace h := cn_t hc h
    refine WP_skip ?_
    refine WQ_then ?_
    refine WP_seq ?_
    refine WP_block ?_
    obtain ⟨hg41, h⟩ := gu_e h
    obtain ⟨hg44, h⟩ := gu_e h
    obtain ⟨x45, hx45, h⟩ := lt_e h
    obtain ⟨hg46, h⟩ := gu_e h
    obtain ⟨x47, hx47, h⟩ := lt_e h
    obtain ⟨x50, hx50, h⟩ := lt_e h
    refine WP_draw mixed (.stg [] [(0, [3]), (1, [15]), (2, [1]), (3, [17]), (4, [4]), (5, [18, 19]), (6, [20]), (7, [21]), (8, [1]), (9, [23]), (10, [4]), (11, [24, 25]), (12, [26]), (13, [27]), (14, [22, 28])] (.alt 15 [29] (.stg [(0, [3]), (1, [15])] [] (.alt 16 [16, 30] (.stg [] [(17, [3])] (.alt 18 [31, 32] (.fin [] []) .no)) .no)) .no)) (by kernel_rfl) ?_
    refine Stg_stg ?_ ?_
    · exact ReOk_nil
    refine NewOk_cons rfl rfl (VG_v rfl (VS_field0 rfl)) ?_
    refine NewOk_cons rfl rfl (VG_v rfl (VS_load rfl rfl)) ?_
    refine NewOk_cons rfl rfl (VG_v rfl (VS_field0 rfl)) ?_
    obtain ⟨v39, hv39, f40⟩ := P_ref04_Extent_Runs.sl f0
    refine NewOk_cons rfl rfl (VG_v rfl (VS_load rfl hv39)) ?_
    refine NewOk_cons rfl rfl (VG_v rfl (VS_move rfl)) ?_
    refine NewOk_cons rfl rfl (VG_v rfl (VS_ixF (m := (Int.toNat x30)) f40 rfl rfl rfl (inb_e hg41).1 (inb_e hg41).2)) ?_
    refine NewOk_cons rfl rfl (VG_v rfl (VS_ixR (m := 0) f40 rfl rfl (inb_e hg41).2 rfl (by decide))) ?_
    refine NewOk_cons rfl rfl (VG_v rfl (VS_ldiF f40 ((Pth.idx (L := (LA (LI .i64) 2)) (m := (a0.Runs.length)) (k := 2) ((Int.toNat x30)) (inb_e hg41).2 rfl).comp (Pth.idx (L := (LI .i64)) (m := 2) (k := 1) (0) (by decide) rfl)) rfl)) ?_
    refine NewOk_cons rfl rfl (VG_v rfl (VS_field0 rfl)) ?_
    obtain ⟨v42, hv42, f43⟩ := P_ref04_Extent_Runs.sl f0
    refine NewOk_cons rfl rfl (VG_v rfl (VS_load rfl hv42)) ?_
    refine NewOk_cons rfl rfl (VG_v rfl (VS_move rfl)) ?_
    refine NewOk_cons rfl rfl (VG_v rfl (VS_ixF (m := (Int.toNat x30)) f43 rfl rfl rfl (inb_e hg44).1 (inb_e hg44).2)) ?_
    refine NewOk_cons rfl rfl (VG_v rfl (VS_ixR (m := 1) f43 rfl rfl (inb_e hg44).2 rfl (by decide))) ?_
    refine NewOk_cons rfl rfl (VG_v rfl (VS_ldiF f43 ((Pth.idx (L := (LA (LI .i64) 2)) (m := (a0.Runs.length)) (k := 2) ((Int.toNat x30)) (inb_e hg44).2 rfl).comp (Pth.idx (L := (LI .i64)) (m := 2) (k := 1) (1) (by decide) rfl)) rfl)) ?_
    refine NewOk_cons rfl rfl (VG_v rfl (VS_build (cs := L_runs_Run.enc x45) rfl (by rw [hx45]; rfl))) ?_
    refine NewOk_nil ?_
    refine Stg_some rfl rfl (RG_x rfl (RX_bs1 L_runs_Run x45 rfl rfl rfl rfl (by decide) (by decide))) (fun b30 _ => ?_) Stg_no
    refine Stg_stg ?_ ?_
    ·
      refine ReOk_cons rfl rfl (VG_v rfl (VS_field0 rfl)) ?_
      refine ReOk_cons rfl rfl (VG_v rfl (VS_val (VS_load rfl rfl) rfl)) ?_
      exact ReOk_nil
    refine NewOk_nil ?_
    refine Stg_some rfl rfl (RG_x rfl (RX_app1 (sz := 2) (L := L_runs_Run) (xs := x31.Runs) (y := x45) (bytes := 16) rfl rfl rfl (apok_e hg46).1 (apok_e hg46).2)) (fun v48 hs49 => ?_) Stg_no
    rw [← hx47] at hs49; rw [← hx47]
    refine Stg_stg ?_ ?_
    · exact ReOk_nil
    refine NewOk_cons rfl rfl (VG_v rfl (VS_field0 rfl)) ?_
    refine NewOk_nil ?_
    refine Stg_none rfl (RG_x rfl (RX_stN (cs' := ([v48] ++ ((LI .i64).enc x31.Len))) ([v48]) P_extent_Extent_Runs (v := x47) (r := (show (L_extent_Extent).rep (fun _ => False) ([v32] ++ ((LI .i64).enc x31.Len)) x31 from ⟨_, _, rfl, ⟨_, rfl, ⟨hs33, fun _ h => h.elim⟩⟩, (FlatL.iff.2 rfl)⟩)) (rv := (⟨_, rfl, (Fz.row (e := 133) (sz := 2) (L := L_runs_Run) (xs := x47) rfl hs49)⟩ : ((LSl L_runs_Run)).rep (Hs [Row v48 133 2 L_runs_Run x47]) ([v48]) x47)) rfl rfl (Fz.row (e := 133) (sz := 2) (L := L_runs_Run) (xs := x47) rfl hs49).sl.cells rfl rfl)) (fun _ _ => ?_) Stg_no
    refine Stg_fin ?_ ?_
    · exact ReOk_nil
    refine NewOk_nil ?_
    refine WQ_block ?_
    refine WQ_then ?_
    refine WP_region ?_
    refine WL_v rfl (VS_move rfl) ?_
    refine WL_v rfl (VS_add rfl rfl rfl) ?_
    refine WL_v rfl (VS_assign rfl) ?_
    refine WL_nil ?_
    exact WQ_loops (m35, wr .i64 (x30 + 1), { x31 with Runs := x47 }, v48) (Nat.lt_succ_self _) ⟨hs49, h⟩ (Sub_cons rfl (Sub_nil)) (.cons rfl (.cons rfl (.cons rfl (.nil)))) (ks := [1, 2, 3, 4]) rfl (by decide)
  ·
    replace h := cn_f hc h
    refine WP_exit ?_
    refine WQ_then_exit ?_
    refine WQ_then_exit ?_
    refine WQ_block_exit ?_
    refine WQ_then ?_
    refine WP_seq ?_
    refine WP_region ?_
    refine WL_v rfl (VS_loadall rfl (Lay.len _ (show (L_extent_Extent).rep (Hs [Row v32 133 2 L_runs_Run x31.Runs]) ([v32] ++ ((LI .i64).enc x31.Len)) x31 from ⟨_, _, rfl, ⟨_, rfl, (Fz.row (e := 133) (sz := 2) (L := L_runs_Run) (xs := x31.Runs) rfl hs33).mono ent⟩, (FlatL.iff.2 rfl)⟩))) ?_
    obtain ⟨c51, hc51, f52⟩ : ∃ cc, splice zc_extent_Extent 0 ([v32] ++ ((LI .i64).enc x31.Len)) = cc ∧ (L_extent_Extent).rep (Hs [Row v32 133 2 L_runs_Run x31.Runs]) cc x31 := ⟨_, rfl, (Pth.id (L := L_extent_Extent)).set (Lay.mono _ ent (show (L_extent_Extent).rep (Hs []) zc_extent_Extent Z_extent_Extent from zr_extent_Extent)) (Lay.mono _ ent (show (L_extent_Extent).rep (Hs [Row v32 133 2 L_runs_Run x31.Runs]) ([v32] ++ ((LI .i64).enc x31.Len)) x31 from ⟨_, _, rfl, ⟨_, rfl, (Fz.row (e := 133) (sz := 2) (L := L_runs_Run) (xs := x31.Runs) rfl hs33).mono ent⟩, (FlatL.iff.2 rfl)⟩))⟩
    refine WL_x0 (RX_stN ([v32] ++ ((LI .i64).enc x31.Len)) (Pth.id (L := L_extent_Extent)) (v := x31) (r := (show (L_extent_Extent).rep (Hs []) zc_extent_Extent Z_extent_Extent from zr_extent_Extent)) (rv := ((Lay.mono _ ent (show (L_extent_Extent).rep (Hs [Row v32 133 2 L_runs_Run x31.Runs]) ([v32] ++ ((LI .i64).enc x31.Len)) x31 from ⟨_, _, rfl, ⟨_, rfl, (Fz.row (e := 133) (sz := 2) (L := L_runs_Run) (xs := x31.Runs) rfl hs33).mono ent⟩, (FlatL.iff.2 rfl)⟩)) : (L_extent_Extent).rep (Hs [Row v32 133 2 L_runs_Run x31.Runs]) ([v32] ++ ((LI .i64).enc x31.Len)) x31)) rfl rfl rfl rfl hc51) (fun _ _ => ?_)
    refine WL_nil ?_
    refine WQ_then ?_
    refine WP_ret ?_
    replace h := Option.some.inj h
    subst h
    refine WQ_bundle (R := [Row v32 133 2 L_runs_Run x31.Runs]) (H' := [.cells b2 122 c51]) (ks := [0, 2]) rfl (by decide) ?_
    have p53 : (L_extent_Extent).rep (fun w => K w ∧ (Hs [.ext (blks [Row v32 133 2 L_runs_Run x31.Runs]) (Hs [Row v32 133 2 L_runs_Run x31.Runs])]) w) c51 x31 := Lay.mono _ ent f52
    exact WQ_ret (.agg c51.toArray, blks [Row v32 133 2 L_runs_Run x31.Runs], Hs [Row v32 133 2 L_runs_Run x31.Runs]) rfl (.agg rfl inferInstance inferInstance (Lay.len _ f52) .nil) ⟨_, rfl, p53⟩ rfl (ks := [0]) rfl (by decide)
def law04_Same (n : Nat) (a0 : extent_Extent) (a1 : ref04_Extent) : Option Bool :=
  cn ((((a0.Runs.length : Int) != (a1.Runs.length : Int)) || (a0.Len != a1.Len))) (
  some false) (
  loop1 (fun k29 (x26 : Int) =>
  cn (decide (x26 < (a0.Runs.length : Int))) (
  gu (inb x26 a0.Runs.length) <|
  gu (inb x26 a1.Runs.length) <|
  gu (!((((a0.Runs.getD (Int.toNat x26) default).At) != ((a1.Runs.getD (Int.toNat x26) default) 0)) == false) || inb x26 a0.Runs.length) <|
  gu (!((((a0.Runs.getD (Int.toNat x26) default).At) != ((a1.Runs.getD (Int.toNat x26) default) 0)) == false) || inb x26 a1.Runs.length) <|
  cn (((((a0.Runs.getD (Int.toNat x26) default).At) != ((a1.Runs.getD (Int.toNat x26) default) 0)) || (((a0.Runs.getD (Int.toNat x26) default).N) != ((a1.Runs.getD (Int.toNat x26) default) 1)))) (
  some false) (
  k29 (wr .i64 (x26 + 1)))) (
  some true)) n 0)
theorem c_law04_Same {n : Nat} {a0 : extent_Extent} {a1 : ref04_Extent} {r : Bool} {K : World → Prop} [Stable K] {cs0 : List Value} (f0 : (L_extent_Extent).rep K cs0 a0) {cs1 : List Value} (f1 : (L_ref04_Extent).rep K cs1 a1) (h : law04_Same n a0 a1 = some r) : FnW Try.prog 60 [.agg cs0.toArray, .agg cs1.toArray] K (.bool r) := by
  unfold law04_Same at h
  refine fn_of Try.func60 (by kernel_rfl) rfl Try.ntmps60 rfl (fun cx hbs hpre hro => ?_)
  haveI := knf_pre hbs hpre
  refine WP_seq ?_
  refine WP_region ?_
  refine WL_x rfl (RX_boxa rfl) (fun b2 _ => ?_)
  refine WL_x rfl (RX_boxa rfl) (fun b3 _ => ?_)
  refine WL_v rfl (VS_assign rfl) ?_
  refine WL_nil ?_
  refine WQ_then ?_
  refine WP_seq ?_
  refine WP_seq ?_
  refine WP_region ?_
  refine WL_v rfl (VS_field0 rfl) ?_
  obtain ⟨v21, hv21, f22⟩ := P_extent_Extent_Runs.sl f0
  refine WL_v rfl (VS_load rfl hv21) ?_
  refine WL_v rfl (VS_lenF f22 rfl) ?_
  refine WL_v rfl (VS_field0 rfl) ?_
  obtain ⟨v23, hv23, f24⟩ := P_ref04_Extent_Runs.sl f1
  refine WL_v rfl (VS_load rfl hv23) ?_
  refine WL_v rfl (VS_lenF f24 rfl) ?_
  refine WL_v rfl (VS_neq rfl rfl) ?_
  refine WL_v rfl (VS_move rfl) ?_
  refine WL_g (Gd_b rfl rfl) rfl (fun hb => VS_field0 rfl) ?_
  refine WL_g (Gd_b rfl rfl) rfl (fun hb => VS_load (gev rfl hb) (P_extent_Extent_Len.int f0)) ?_
  refine WL_g (Gd_b rfl rfl) rfl (fun hb => VS_field0 rfl) ?_
  refine WL_g (Gd_b rfl rfl) rfl (fun hb => VS_load (gev rfl hb) (P_ref04_Extent_Len.int f1)) ?_
  refine WL_g (Gd_b rfl rfl) rfl (fun hb => VS_neq (gev rfl hb) (gev rfl hb)) ?_
  refine WL_v rfl (VS_or rfl rfl) ?_
  refine WL_nil ?_
  refine WQ_then ?_
  refine WP_if rfl (fun hc => ?_) (fun hc => ?_)
  ·
    replace h := cn_t hc h
    refine WP_seq ?_
    refine WP_region ?_
    refine WL_v rfl (VS_assign rfl) ?_
    refine WL_nil ?_
    refine WQ_then ?_
    refine WP_ret ?_
    refine WQ_then_ret ?_
    replace h := Option.some.inj h
    subst h
    exact WQ_ret () rfl (.tmp rfl .nil) trivial rfl (ks := []) rfl (by decide)
  ·
    replace h := cn_f hc h
    refine WP_skip ?_
    refine WQ_then ?_
    refine WP_seq ?_
    refine WP_seq ?_
    refine WP_region ?_
    refine WL_v rfl (VS_assign rfl) ?_
    refine WL_nil ?_
    refine WQ_then ?_
    refine WP_block ?_
    obtain ⟨lb27, hlb27, h⟩ := lp1_i h
    refine WP_loops (α := Nat × Int) [2, 3] (.cons rfl (.cons rfl (.nil))) (fun (m28, x26) => [(5, .int .i64 x26)]) (fun (m28, x26) => [.cells b3 119 cs1, .cells b2 122 cs0]) (fun (m28, x26) => loop1 lb27 m28 x26 = some r) (fun (m28, x26) => m28) (n, 0) h (Sub_cons rfl (Sub_nil)) (ks := [0, 1]) rfl (by decide) ?_
    rintro ⟨m28, x26⟩ h
    replace h : loop1 lb27 m28 x26 = some r := h
    replace h := lp1_s hlb27 h
    obtain ⟨m28, rfl, h⟩ := h
    refine WP_seq ?_
    refine WP_seq ?_
    refine WP_region ?_
    refine WL_v rfl (VS_move rfl) ?_
    refine WL_v rfl (VS_field0 rfl) ?_
    obtain ⟨v30, hv30, f31⟩ := P_extent_Extent_Runs.sl f0
    refine WL_v rfl (VS_load rfl hv30) ?_
    refine WL_v rfl (VS_lenF f31 rfl) ?_
    refine WL_v rfl (VS_lss rfl rfl) ?_
    refine WL_nil ?_
    refine WQ_then ?_
    refine WP_if rfl (fun hc => ?_) (fun hc => ?_)
    ·
      replace h := cn_t hc h
      refine WP_skip ?_
      refine WQ_then ?_
      refine WP_seq ?_
      refine WP_block ?_
      refine WP_seq ?_
      obtain ⟨hg34, h⟩ := gu_e h
      obtain ⟨hg37, h⟩ := gu_e h
      obtain ⟨hg40, h⟩ := gu_e h
      obtain ⟨hg43, h⟩ := gu_e h
      refine WP_draw mixed (.fin [] [(0, [2]), (1, [27]), (2, [5]), (3, [28, 29]), (4, [30]), (5, [31]), (6, [3]), (7, [33]), (8, [5]), (9, [34, 35]), (10, [36]), (11, [37]), (12, [32, 38]), (13, [39]), (14, [2, 40]), (15, [40, 41]), (16, [5, 40]), (17, [40, 42, 43]), (18, [40, 44]), (19, [40, 45]), (20, [3, 40]), (21, [40, 47]), (22, [5, 40]), (23, [40, 48, 49]), (24, [40, 50]), (25, [40, 51]), (26, [40, 46, 52]), (27, [40, 53])]) (by kernel_rfl) ?_
      refine Stg_fin ?_ ?_
      · exact ReOk_nil
      refine NewOk_cons rfl rfl (VG_v rfl (VS_field0 rfl)) ?_
      obtain ⟨v32, hv32, f33⟩ := P_extent_Extent_Runs.sl f0
      refine NewOk_cons rfl rfl (VG_v rfl (VS_load rfl hv32)) ?_
      refine NewOk_cons rfl rfl (VG_v rfl (VS_move rfl)) ?_
      refine NewOk_cons rfl rfl (VG_v rfl (VS_ixF (m := (Int.toNat x26)) f33 rfl rfl rfl (inb_e hg34).1 (inb_e hg34).2)) ?_
      refine NewOk_cons rfl rfl (VG_v rfl (VS_fldF f33 rfl (inb_e hg34).2)) ?_
      refine NewOk_cons rfl rfl (VG_v rfl (VS_ldiF f33 ((Pth.idx (L := L_runs_Run) (m := (a0.Runs.length)) (k := 2) ((Int.toNat x26)) (inb_e hg34).2 rfl).comp P_runs_Run_At) rfl)) ?_
      refine NewOk_cons rfl rfl (VG_v rfl (VS_field0 rfl)) ?_
      obtain ⟨v35, hv35, f36⟩ := P_ref04_Extent_Runs.sl f1
      refine NewOk_cons rfl rfl (VG_v rfl (VS_load rfl hv35)) ?_
      refine NewOk_cons rfl rfl (VG_v rfl (VS_move rfl)) ?_
      refine NewOk_cons rfl rfl (VG_v rfl (VS_ixF (m := (Int.toNat x26)) f36 rfl rfl rfl (inb_e hg37).1 (inb_e hg37).2)) ?_
      refine NewOk_cons rfl rfl (VG_v rfl (VS_ixR (m := 0) f36 rfl rfl (inb_e hg37).2 rfl (by decide))) ?_
      refine NewOk_cons rfl rfl (VG_v rfl (VS_ldiF f36 ((Pth.idx (L := (LA (LI .i64) 2)) (m := (a1.Runs.length)) (k := 2) ((Int.toNat x26)) (inb_e hg37).2 rfl).comp (Pth.idx (L := (LI .i64)) (m := 2) (k := 1) (0) (by decide) rfl)) rfl)) ?_
      refine NewOk_cons rfl rfl (VG_v rfl (VS_neq rfl rfl)) ?_
      refine NewOk_cons rfl rfl (VG_v rfl (VS_move rfl)) ?_
      refine NewOk_cons rfl rfl (VG_g (Gd_b rfl rfl) (fun hb => VS_field0 rfl)) ?_
      obtain ⟨v38, hv38, f39⟩ := guard_ex (g := ((((a0.Runs.getD (Int.toNat x26) default).At) != ((a1.Runs.getD (Int.toNat x26) default) 0)) == false)) (fun hb => P_extent_Extent_Runs.sl f0)
      refine NewOk_cons rfl rfl (VG_g (Gd_b rfl rfl) (fun hb => VS_load (gev rfl hb) (hv38 hb))) ?_
      refine NewOk_cons rfl rfl (VG_g (Gd_b rfl rfl) (fun hb => VS_move rfl)) ?_
      refine NewOk_cons rfl rfl (VG_g (Gd_b rfl rfl) (fun hb => VS_ixF (m := (Int.toNat x26)) (f39 hb) rfl (gev rfl hb) (gev rfl hb) (inb_e (imp_b hg40 hb)).1 (inb_e (imp_b hg40 hb)).2)) ?_
      refine NewOk_cons rfl rfl (VG_g (Gd_b rfl rfl) (fun hb => VS_fldF (f39 hb) (gev rfl hb) (inb_e (imp_b hg40 hb)).2)) ?_
      refine NewOk_cons rfl rfl (VG_g (Gd_b rfl rfl) (fun hb => VS_ldiF (f39 hb) ((Pth.idx (L := L_runs_Run) (m := (a0.Runs.length)) (k := 2) ((Int.toNat x26)) (inb_e (imp_b hg40 hb)).2 rfl).comp P_runs_Run_N) (gev rfl hb))) ?_
      refine NewOk_cons rfl rfl (VG_g (Gd_b rfl rfl) (fun hb => VS_field0 rfl)) ?_
      obtain ⟨v41, hv41, f42⟩ := guard_ex (g := ((((a0.Runs.getD (Int.toNat x26) default).At) != ((a1.Runs.getD (Int.toNat x26) default) 0)) == false)) (fun hb => P_ref04_Extent_Runs.sl f1)
      refine NewOk_cons rfl rfl (VG_g (Gd_b rfl rfl) (fun hb => VS_load (gev rfl hb) (hv41 hb))) ?_
      refine NewOk_cons rfl rfl (VG_g (Gd_b rfl rfl) (fun hb => VS_move rfl)) ?_
      refine NewOk_cons rfl rfl (VG_g (Gd_b rfl rfl) (fun hb => VS_ixF (m := (Int.toNat x26)) (f42 hb) rfl (gev rfl hb) (gev rfl hb) (inb_e (imp_b hg43 hb)).1 (inb_e (imp_b hg43 hb)).2)) ?_
      refine NewOk_cons rfl rfl (VG_g (Gd_b rfl rfl) (fun hb => VS_ixR (m := 1) (f42 hb) (gev rfl hb) rfl (inb_e (imp_b hg43 hb)).2 rfl (by decide))) ?_
      refine NewOk_cons rfl rfl (VG_g (Gd_b rfl rfl) (fun hb => VS_ldiF (f42 hb) ((Pth.idx (L := (LA (LI .i64) 2)) (m := (a1.Runs.length)) (k := 2) ((Int.toNat x26)) (inb_e (imp_b hg43 hb)).2 rfl).comp (Pth.idx (L := (LI .i64)) (m := 2) (k := 1) (1) (by decide) rfl)) (gev rfl hb))) ?_
      refine NewOk_cons rfl rfl (VG_g (Gd_b rfl rfl) (fun hb => VS_neq (gev rfl hb) (gev rfl hb))) ?_
      refine NewOk_cons rfl rfl (VG_v rfl (VS_or rfl rfl)) ?_
      refine NewOk_nil ?_
      refine WQ_then ?_
      refine WP_if rfl (fun hc => ?_) (fun hc => ?_)
      ·
        replace h := cn_t hc h
        refine WP_seq ?_
        refine WP_region ?_
        refine WL_v rfl (VS_assign rfl) ?_
        refine WL_nil ?_
        refine WQ_then ?_
        refine WP_ret ?_
        refine WQ_block_ret ?_
        refine WQ_then_ret ?_
        refine WQ_then_ret ?_
        refine WQ_block_ret ?_
        refine WQ_then_ret ?_
        replace h := Option.some.inj h
        subst h
        exact WQ_ret () rfl (.tmp rfl .nil) trivial rfl (ks := []) rfl (by decide)
      ·
        replace h := cn_f hc h
        refine WP_skip ?_
        refine WQ_block ?_
        refine WQ_then ?_
        refine WP_region ?_
        refine WL_v rfl (VS_move rfl) ?_
        refine WL_v rfl (VS_add rfl rfl rfl) ?_
        refine WL_v rfl (VS_assign rfl) ?_
        refine WL_nil ?_
        exact WQ_loops (m28, wr .i64 (x26 + 1)) (Nat.lt_succ_self _) h (Sub_cons rfl (Sub_nil)) (.cons rfl (.cons rfl (.nil))) (ks := [0, 1]) rfl (by decide)
    ·
      replace h := cn_f hc h
      refine WP_exit ?_
      refine WQ_then_exit ?_
      refine WQ_then_exit ?_
      refine WQ_block_exit ?_
      refine WQ_then ?_
      refine WP_seq ?_
      refine WP_region ?_
      refine WL_v rfl (VS_assign rfl) ?_
      refine WL_nil ?_
      refine WQ_then ?_
      refine WP_ret ?_
      replace h := Option.some.inj h
      subst h
      exact WQ_ret () rfl (.tmp rfl .nil) trivial rfl (ks := []) rfl (by decide)
def extent_Needs (n : Nat) (a0 : Int) (a1 : Int) : Option (Int × Bool) :=
  bd (extent_object n a0 a1) fun x21 =>
  cn ((!x21)) (
  some (0, false)) (
  some (wr .i64 (Int.tdiv (wr .i64 ((wr .i64 (a0 + 32)) - 1)) 32), true))
theorem c_extent_Needs {n : Nat} {a0 : Int} {a1 : Int} {r : Int × Bool}  (h : extent_Needs n a0 a1 = some r) : FnV Try.prog 52 [.int .i64 a0, .int .i64 a1] (.tuple #[.int .i64 r.1, .bool r.2]) := by
  unfold extent_Needs at h
  refine fn_of Try.func52 (by kernel_rfl) rfl Try.ntmps52 rfl (fun cx hbs hpre hro => ?_)
  refine WP_seq ?_
  refine WP_region ?_
  refine WL_v rfl (VS_assign rfl) ?_
  refine WL_v rfl (VS_assign rfl) ?_
  refine WL_nil ?_
  refine WQ_then ?_
  refine WP_seq ?_
  refine WP_seq ?_
  obtain ⟨x21, hx21, h⟩ := bd_e h
  refine WP_region ?_
  refine WL_v rfl (VS_move rfl) ?_
  refine WL_v rfl (VS_move rfl) ?_
  refine WL_v rfl (VS_call (c_extent_object hx21) rfl (fun _ _ _ => trivial)) ?_
  refine WL_v rfl (VS_not rfl) ?_
  refine WL_nil ?_
  refine WQ_then ?_
  refine WP_if rfl (fun hc => ?_) (fun hc => ?_)
  ·
    replace h := cn_t hc h
    refine WP_seq ?_
    refine WP_region ?_
    refine WL_v rfl (VS_assign rfl) ?_
    refine WL_v rfl (VS_assign rfl) ?_
    refine WL_nil ?_
    refine WQ_then ?_
    refine WP_ret ?_
    refine WQ_then_ret ?_
    replace h := Option.some.inj h
    subst h
    exact WQ_ret () rfl (.tmp rfl (.tmp rfl .nil)) trivial rfl (ks := []) rfl (by decide)
  ·
    replace h := cn_f hc h
    refine WP_skip ?_
    refine WQ_then ?_
    refine WP_seq ?_
    refine WP_region ?_
    refine WL_v rfl (VS_move rfl) ?_
    refine WL_v rfl (VS_add rfl rfl rfl) ?_
    refine WL_v rfl (VS_sub rfl rfl rfl) ?_
    refine WL_v rfl (VS_quo rfl rfl (by decide) rfl) ?_
    refine WL_v rfl (VS_assign rfl) ?_
    refine WL_v rfl (VS_assign rfl) ?_
    refine WL_nil ?_
    refine WQ_then ?_
    refine WP_ret ?_
    replace h := Option.some.inj h
    subst h
    exact WQ_ret () rfl (.tmp rfl (.tmp rfl .nil)) trivial rfl (ks := []) rfl (by decide)
def law04_wakes (n : Nat)  : Option Bool :=
  lt ({ At := 4, N := 2 } : runs_Run) fun x21 =>
  lt ({ Runs := [x21], Len := 3 } : extent_Extent) fun x22 =>
  bd (extent_Extent_Fits n x22 4 4) fun x27 =>
  bd (extent_Extent_Fits n x22 61 4) fun x28 =>
  bd (extent_Extent_Place n x22 33) fun x29 =>
  bd (extent_Needs n 65 1) fun x30 =>
  bd (extent_Extent_Put n x22 4 4) fun x31 =>
  lt ({ At := 0, N := 1 } : runs_Run) fun x40 =>
  bd (extent_Extent_Grow n x31.1 x40) fun x41 =>
  bd (extent_Extent_May n x22) fun x50 =>
  cl (((((((((((((x50 && x27.2) && (x27.1 == 4)) && (!x28.2)) && (x29.1 == 161)) && x29.2) && (x30.1 == 3)) && x30.2) && x31.2.2) && (x31.2.1 == 4)) && (x31.1.Len == 8)) && (x22.Len == 3)) && (x41.Len == 64)) == true) (extent_Extent_Pages n x41) default fun x51 =>
  some ((((((((((((((x50 && x27.2) && (x27.1 == 4)) && (!x28.2)) && (x29.1 == 161)) && x29.2) && (x30.1 == 3)) && x30.2) && x31.2.2) && (x31.2.1 == 4)) && (x31.1.Len == 8)) && (x22.Len == 3)) && (x41.Len == 64)) && (x51 == 3)) && ((x31.1.Runs.length : Int) == 1))
theorem c_law04_wakes {n : Nat}  {r : Bool}  (h : law04_wakes n  = some r) : FnV Try.prog 50 [] (.bool r) := by
  unfold law04_wakes at h
  refine fn_of Try.func50 (by kernel_rfl) rfl Try.ntmps50 rfl (fun cx hbs hpre hro => ?_)
  refine WP_seq ?_
  refine WP_region ?_
  refine WL_v rfl (VS_assign rfl) ?_
  refine WL_nil ?_
  refine WQ_then ?_
  refine WP_seq ?_
  obtain ⟨x21, hx21, h⟩ := lt_e h
  obtain ⟨x22, hx22, h⟩ := lt_e h
  refine WP_region ?_
  refine WL_v rfl (VS_build (cs := L_runs_Run.enc x21) rfl (by rw [hx21]; rfl)) ?_
  refine WL_x rfl (RX_bs1 L_runs_Run x21 rfl rfl rfl rfl (by decide) (by decide)) (fun b15 _ => ?_)
  obtain ⟨c23, hc23, f24⟩ : ∃ cc, ([.slice (some ⟨b15, 0, none⟩) 1 1] ++ ((LI .i64).enc 3)) = cc ∧ (L_extent_Extent).rep (Hs [.cells b15 133 (L_runs_Run.enc x21)]) cc x22 := ⟨_, rfl, by rw [hx22]; exact ⟨_, _, rfl, ⟨_, rfl, (Fz.cell1 (T := 133) (L := L_runs_Run) x21).mono ent⟩, (FlatL.iff.2 rfl)⟩⟩
  refine WL_v rfl (VS_build (cs := c23) rfl (by rw [← hc23]; first | rfl | (simp [fillL, splice, show ∀ k i, (Value.int k i).cells = #[Value.int k i] from fun _ _ => rfl, show ∀ q, (Value.bool q).cells = #[Value.bool q] from fun _ => rfl, (Fz.cell1 (T := 133) (L := L_runs_Run) x21).sl.cells, (Fz.cell1 (T := 133) (L := L_runs_Run) x21).sl.size]; try rfl))) ?_
  refine WL_x rfl (RX_alloc (hz := (⟨by kernel_rfl⟩ : TZero Try.prog 122 zc_extent_Extent))) (fun b1 _ => ?_)
  obtain ⟨c25, hc25, f26⟩ : ∃ cc, splice zc_extent_Extent 0 c23 = cc ∧ (L_extent_Extent).rep (Hs [.cells b15 133 (L_runs_Run.enc x21)]) cc x22 := ⟨_, rfl, (Pth.id (L := L_extent_Extent)).set (Lay.mono _ ent (show (L_extent_Extent).rep (Hs []) zc_extent_Extent Z_extent_Extent from zr_extent_Extent)) (Lay.mono _ ent f24)⟩
  refine WL_x0 (RX_stN c23 (Pth.id (L := L_extent_Extent)) (v := x22) (r := (show (L_extent_Extent).rep (Hs []) zc_extent_Extent Z_extent_Extent from zr_extent_Extent)) (rv := ((Lay.mono _ ent f24) : (L_extent_Extent).rep (Hs [.cells b15 133 (L_runs_Run.enc x21)]) c23 x22)) rfl rfl rfl rfl hc25) (fun _ _ => ?_)
  refine WL_nil ?_
  refine WQ_then ?_
  refine WP_seq ?_
  obtain ⟨x27, hx27, h⟩ := bd_e h
  refine WP_region ?_
  refine WL_v rfl (VS_loadall rfl (Lay.len _ f26)) ?_
  refine WL_v rfl (VS_call (c_extent_Extent_Fits (K := (Hs [.cells b15 133 (L_runs_Run.enc x21)])) (Lay.mono _ ent f26) hx27) rfl kn) ?_
  refine WL_v rfl (VS_move rfl) ?_
  refine WL_v rfl (VS_extract rfl rfl) ?_
  refine WL_v rfl (VS_extract rfl rfl) ?_
  refine WL_v rfl (VS_assign rfl) ?_
  refine WL_v rfl (VS_assign rfl) ?_
  refine WL_nil ?_
  refine WQ_then ?_
  refine WP_seq ?_
  obtain ⟨x28, hx28, h⟩ := bd_e h
  refine WP_region ?_
  refine WL_v rfl (VS_loadall rfl (Lay.len _ f26)) ?_
  refine WL_v rfl (VS_call (c_extent_Extent_Fits (K := (Hs [.cells b15 133 (L_runs_Run.enc x21)])) (Lay.mono _ ent f26) hx28) rfl kn) ?_
  refine WL_v rfl (VS_move rfl) ?_
  refine WL_v rfl (VS_extract rfl rfl) ?_
  refine WL_v rfl (VS_extract rfl rfl) ?_
  refine WL_v rfl (VS_assign rfl) ?_
  refine WL_v rfl (VS_assign rfl) ?_
  refine WL_nil ?_
  refine WQ_then ?_
  refine WP_seq ?_
  obtain ⟨x29, hx29, h⟩ := bd_e h
  refine WP_region ?_
  refine WL_v rfl (VS_loadall rfl (Lay.len _ f26)) ?_
  refine WL_v rfl (VS_call (c_extent_Extent_Place (K := (Hs [.cells b15 133 (L_runs_Run.enc x21)])) (Lay.mono _ ent f26) hx29) rfl kn) ?_
  refine WL_v rfl (VS_move rfl) ?_
  refine WL_v rfl (VS_extract rfl rfl) ?_
  refine WL_v rfl (VS_extract rfl rfl) ?_
  refine WL_v rfl (VS_assign rfl) ?_
  refine WL_v rfl (VS_assign rfl) ?_
  refine WL_nil ?_
  refine WQ_then ?_
  refine WP_seq ?_
  obtain ⟨x30, hx30, h⟩ := bd_e h
  refine WP_region ?_
  refine WL_v rfl (VS_call (c_extent_Needs hx30) rfl (fun _ _ _ => trivial)) ?_
  refine WL_v rfl (VS_move rfl) ?_
  refine WL_v rfl (VS_extract rfl rfl) ?_
  refine WL_v rfl (VS_extract rfl rfl) ?_
  refine WL_v rfl (VS_assign rfl) ?_
  refine WL_v rfl (VS_assign rfl) ?_
  refine WL_nil ?_
  refine WQ_then ?_
  refine WP_seq ?_
  obtain ⟨x31, hx31, h⟩ := bd_e h
  refine WP_region ?_
  refine WL_v rfl (VS_loadall rfl (Lay.len _ f26)) ?_
  refine WL_x rfl (RX_callB (c_extent_Extent_Put (K := (Hs [.cells b15 133 (L_runs_Run.enc x21)])) (Lay.mono _ ent f26) hx31) rfl) (fun ⟨w32, bs33, J34⟩ hp35 => ?_)
  obtain ⟨c37, rfl, f36⟩ := hp35
  replace f36 : (L_extent_Extent).rep (fun w => (Hs [.cells b15 133 (L_runs_Run.enc x21)]) w ∧ Hs [.ext bs33 J34] w) c37 x31.1 := f36
  refine WL_v rfl (VS_move rfl) ?_
  refine WL_v rfl (VS_extract rfl rfl) ?_
  refine WL_v rfl (VS_extract rfl rfl) ?_
  refine WL_v rfl (VS_extract rfl rfl) ?_
  refine WL_x rfl (RX_alloc (hz := (⟨by kernel_rfl⟩ : TZero Try.prog 122 zc_extent_Extent))) (fun b10 _ => ?_)
  obtain ⟨c38, hc38, f39⟩ : ∃ cc, splice zc_extent_Extent 0 c37 = cc ∧ (L_extent_Extent).rep (Hs [.cells b15 133 (L_runs_Run.enc x21), .ext bs33 J34]) cc x31.1 := ⟨_, rfl, (Pth.id (L := L_extent_Extent)).set (Lay.mono _ ent (show (L_extent_Extent).rep (Hs []) zc_extent_Extent Z_extent_Extent from zr_extent_Extent)) (Lay.mono _ ent f36)⟩
  refine WL_x0 (RX_stN c37 (Pth.id (L := L_extent_Extent)) (v := x31.1) (r := (show (L_extent_Extent).rep (Hs []) zc_extent_Extent Z_extent_Extent from zr_extent_Extent)) (rv := ((Lay.mono _ ent f36) : (L_extent_Extent).rep (Hs [.cells b15 133 (L_runs_Run.enc x21), .ext bs33 J34]) c37 x31.1)) rfl rfl rfl rfl hc38) (fun _ _ => ?_)
  refine WL_v rfl (VS_assign rfl) ?_
  refine WL_v rfl (VS_assign rfl) ?_
  refine WL_nil ?_
  refine WQ_then ?_
  refine WP_seq ?_
  obtain ⟨x40, hx40, h⟩ := lt_e h
  obtain ⟨x41, hx41, h⟩ := bd_e h
  refine WP_region ?_
  refine WL_v rfl (VS_loadall rfl (Lay.len _ f39)) ?_
  refine WL_v rfl (VS_build (cs := L_runs_Run.enc x40) rfl (by rw [hx40]; rfl)) ?_
  refine WL_x rfl (RX_callB (c_extent_Extent_Grow (K := (Hs [.cells b15 133 (L_runs_Run.enc x21), .ext bs33 J34])) (Lay.mono _ ent f39) hx41) rfl) (fun ⟨w42, bs43, J44⟩ hp45 => ?_)
  obtain ⟨c47, rfl, f46⟩ := hp45
  replace f46 : L_extent_Extent.rep (fun w => (Hs [.cells b15 133 (L_runs_Run.enc x21), .ext bs33 J34]) w ∧ Hs [.ext bs43 J44] w) c47 x41 := f46
  refine WL_x rfl (RX_alloc (hz := (⟨by kernel_rfl⟩ : TZero Try.prog 122 zc_extent_Extent))) (fun b13 _ => ?_)
  obtain ⟨c48, hc48, f49⟩ : ∃ cc, splice zc_extent_Extent 0 c47 = cc ∧ (L_extent_Extent).rep (Hs [.cells b15 133 (L_runs_Run.enc x21), .ext bs33 J34, .ext bs43 J44]) cc x41 := ⟨_, rfl, (Pth.id (L := L_extent_Extent)).set (Lay.mono _ ent (show (L_extent_Extent).rep (Hs []) zc_extent_Extent Z_extent_Extent from zr_extent_Extent)) (Lay.mono _ ent f46)⟩
  refine WL_x0 (RX_stN c47 (Pth.id (L := L_extent_Extent)) (v := x41) (r := (show (L_extent_Extent).rep (Hs []) zc_extent_Extent Z_extent_Extent from zr_extent_Extent)) (rv := ((Lay.mono _ ent f46) : (L_extent_Extent).rep (Hs [.cells b15 133 (L_runs_Run.enc x21), .ext bs33 J34, .ext bs43 J44]) c47 x41)) rfl rfl rfl rfl hc48) (fun _ _ => ?_)
  refine WL_nil ?_
  refine WQ_then ?_
  refine WP_seq ?_
  obtain ⟨x50, hx50, h⟩ := bd_e h
  obtain ⟨x51, hx51, _, h⟩ := cl_e h
  refine WP_region ?_
  refine WL_v rfl (VS_loadall rfl (Lay.len _ f26)) ?_
  refine WL_v rfl (VS_call (c_extent_Extent_May (K := (Hs [.cells b15 133 (L_runs_Run.enc x21)])) (Lay.mono _ ent f26) hx50) rfl kn) ?_
  refine WL_v rfl (VS_move rfl) ?_
  refine WL_g (Gd_b rfl rfl) rfl (fun hb => VS_move rfl) ?_
  refine WL_v rfl (VS_and rfl rfl) ?_
  refine WL_v rfl (VS_move rfl) ?_
  refine WL_g (Gd_b rfl rfl) rfl (fun hb => VS_move rfl) ?_
  refine WL_g (Gd_b rfl rfl) rfl (fun hb => VS_eql (gev rfl hb) rfl) ?_
  refine WL_v rfl (VS_and rfl rfl) ?_
  refine WL_v rfl (VS_move rfl) ?_
  refine WL_g (Gd_b rfl rfl) rfl (fun hb => VS_move rfl) ?_
  refine WL_g (Gd_b rfl rfl) rfl (fun hb => VS_not (gev rfl hb)) ?_
  refine WL_v rfl (VS_and rfl rfl) ?_
  refine WL_v rfl (VS_move rfl) ?_
  refine WL_g (Gd_b rfl rfl) rfl (fun hb => VS_move rfl) ?_
  refine WL_g (Gd_b rfl rfl) rfl (fun hb => VS_eql (gev rfl hb) rfl) ?_
  refine WL_v rfl (VS_and rfl rfl) ?_
  refine WL_v rfl (VS_move rfl) ?_
  refine WL_g (Gd_b rfl rfl) rfl (fun hb => VS_move rfl) ?_
  refine WL_v rfl (VS_and rfl rfl) ?_
  refine WL_v rfl (VS_move rfl) ?_
  refine WL_g (Gd_b rfl rfl) rfl (fun hb => VS_move rfl) ?_
  refine WL_g (Gd_b rfl rfl) rfl (fun hb => VS_eql (gev rfl hb) rfl) ?_
  refine WL_v rfl (VS_and rfl rfl) ?_
  refine WL_v rfl (VS_move rfl) ?_
  refine WL_g (Gd_b rfl rfl) rfl (fun hb => VS_move rfl) ?_
  refine WL_v rfl (VS_and rfl rfl) ?_
  refine WL_v rfl (VS_move rfl) ?_
  refine WL_g (Gd_b rfl rfl) rfl (fun hb => VS_move rfl) ?_
  refine WL_v rfl (VS_and rfl rfl) ?_
  refine WL_v rfl (VS_move rfl) ?_
  refine WL_g (Gd_b rfl rfl) rfl (fun hb => VS_move rfl) ?_
  refine WL_g (Gd_b rfl rfl) rfl (fun hb => VS_eql (gev rfl hb) rfl) ?_
  refine WL_v rfl (VS_and rfl rfl) ?_
  refine WL_v rfl (VS_move rfl) ?_
  refine WL_g (Gd_b rfl rfl) rfl (fun hb => VS_field0 rfl) ?_
  refine WL_g (Gd_b rfl rfl) rfl (fun hb => VS_load (gev rfl hb) (P_extent_Extent_Len.int f39)) ?_
  refine WL_g (Gd_b rfl rfl) rfl (fun hb => VS_eql (gev rfl hb) rfl) ?_
  refine WL_v rfl (VS_and rfl rfl) ?_
  refine WL_v rfl (VS_move rfl) ?_
  refine WL_g (Gd_b rfl rfl) rfl (fun hb => VS_field0 rfl) ?_
  refine WL_g (Gd_b rfl rfl) rfl (fun hb => VS_load (gev rfl hb) (P_extent_Extent_Len.int f26)) ?_
  refine WL_g (Gd_b rfl rfl) rfl (fun hb => VS_eql (gev rfl hb) rfl) ?_
  refine WL_v rfl (VS_and rfl rfl) ?_
  refine WL_v rfl (VS_move rfl) ?_
  refine WL_g (Gd_b rfl rfl) rfl (fun hb => VS_field0 rfl) ?_
  refine WL_g (Gd_b rfl rfl) rfl (fun hb => VS_load (gev rfl hb) (P_extent_Extent_Len.int f49)) ?_
  refine WL_g (Gd_b rfl rfl) rfl (fun hb => VS_eql (gev rfl hb) rfl) ?_
  refine WL_v rfl (VS_and rfl rfl) ?_
  refine WL_v rfl (VS_move rfl) ?_
  refine WL_g (Gd_b rfl rfl) rfl (fun hb => VS_loadall rfl (Lay.len _ f49)) ?_
  refine WL_g (Gd_b rfl rfl) rfl (fun hb => VS_call (c_extent_Extent_Pages (K := (Hs [.cells b15 133 (L_runs_Run.enc x21), .ext bs33 J34, .ext bs43 J44])) (Lay.mono _ ent f49) (hx51 hb)) (evs_cons (gev rfl hb) rfl) kn) ?_
  refine WL_g (Gd_b rfl rfl) rfl (fun hb => VS_eql (gev rfl hb) rfl) ?_
  refine WL_v rfl (VS_and rfl rfl) ?_
  refine WL_v rfl (VS_move rfl) ?_
  refine WL_g (Gd_b rfl rfl) rfl (fun hb => VS_field0 rfl) ?_
  obtain ⟨v52, hv52, f53⟩ := guard_ex (g := ((((((((((((((x50 && x27.2) && (x27.1 == 4)) && (!x28.2)) && (x29.1 == 161)) && x29.2) && (x30.1 == 3)) && x30.2) && x31.2.2) && (x31.2.1 == 4)) && (x31.1.Len == 8)) && (x22.Len == 3)) && (x41.Len == 64)) && (x51 == 3)) == true)) (fun hb => P_extent_Extent_Runs.sl f39)
  refine WL_g (Gd_b rfl rfl) rfl (fun hb => VS_load (gev rfl hb) (hv52 hb)) ?_
  refine WL_g (Gd_b rfl rfl) rfl (fun hb => VS_lenF (f53 hb) (gev rfl hb)) ?_
  refine WL_g (Gd_b rfl rfl) rfl (fun hb => VS_eql (gev rfl hb) rfl) ?_
  refine WL_v rfl (VS_and rfl rfl) ?_
  refine WL_v rfl (VS_assign rfl) ?_
  refine WL_nil ?_
  refine WQ_then ?_
  refine WP_ret ?_
  replace h := Option.some.inj h
  subst h
  exact WQ_ret () rfl (.tmp rfl .nil) trivial rfl (ks := []) rfl (by decide)
def ref04_Needs (n : Nat) (a0 : Int) (a1 : Int) : Option Int :=
  loop1 (fun k25 (x22 : Int) =>
  bd (ref04_object n a0 a1) fun x26 =>
  cn ((x26 && decide ((wr .i64 (32 * x22)) < a0))) (
  k25 (wr .i64 (x22 + 1))) (
  some x22)) n 0
theorem c_ref04_Needs {n : Nat} {a0 : Int} {a1 : Int} {r : Int}  (h : ref04_Needs n a0 a1 = some r) : FnV Try.prog 53 [.int .i64 a0, .int .i64 a1] (.int .i64 r) := by
  unfold ref04_Needs at h
  refine fn_of Try.func53 (by kernel_rfl) rfl Try.ntmps53 rfl (fun cx hbs hpre hro => ?_)
  refine WP_seq ?_
  refine WP_region ?_
  refine WL_v rfl (VS_assign rfl) ?_
  refine WL_nil ?_
  refine WQ_then ?_
  refine WP_seq ?_
  refine WP_region ?_
  refine WL_v rfl (VS_assign rfl) ?_
  refine WL_nil ?_
  refine WQ_then ?_
  refine WP_seq ?_
  refine WP_block ?_
  obtain ⟨lb23, hlb23, h⟩ := lp1_i h
  refine WP_loops (α := Nat × Int) [0, 1] (.cons rfl (.cons rfl (.nil))) (fun (m24, x22) => [(5, .int .i64 x22)]) (fun (m24, x22) => []) (fun (m24, x22) => loop1 lb23 m24 x22 = some r) (fun (m24, x22) => m24) (n, 0) h (Sub_cons rfl (Sub_nil)) (ks := []) rfl (by decide) ?_
  rintro ⟨m24, x22⟩ h
  replace h : loop1 lb23 m24 x22 = some r := h
  replace h := lp1_s hlb23 h
  obtain ⟨m24, rfl, h⟩ := h
  refine WP_seq ?_
  refine WP_seq ?_
  obtain ⟨x26, hx26, h⟩ := bd_e h
  refine WP_region ?_
  refine WL_v rfl (VS_move rfl) ?_
  refine WL_v rfl (VS_move rfl) ?_
  refine WL_v rfl (VS_call (c_ref04_object hx26) rfl (fun _ _ _ => trivial)) ?_
  refine WL_v rfl (VS_move rfl) ?_
  refine WL_g (Gd_b rfl rfl) rfl (fun hb => VS_move rfl) ?_
  refine WL_g (Gd_b rfl rfl) rfl (fun hb => VS_mul rfl (gev rfl hb) rfl) ?_
  refine WL_g (Gd_b rfl rfl) rfl (fun hb => VS_move rfl) ?_
  refine WL_g (Gd_b rfl rfl) rfl (fun hb => VS_lss (gev rfl hb) (gev rfl hb)) ?_
  refine WL_v rfl (VS_and rfl rfl) ?_
  refine WL_nil ?_
  refine WQ_then ?_
  refine WP_if rfl (fun hc => ?_) (fun hc => ?_)
  ·
    replace h := cn_t hc h
    refine WP_skip ?_
    refine WQ_then ?_
    refine WP_block ?_
    refine WP_region ?_
    refine WL_v rfl (VS_move rfl) ?_
    refine WL_v rfl (VS_add rfl rfl rfl) ?_
    refine WL_v rfl (VS_assign rfl) ?_
    refine WL_nil ?_
    refine WQ_block ?_
    exact WQ_loops (m24, wr .i64 (x22 + 1)) (Nat.lt_succ_self _) h (Sub_cons rfl (Sub_nil)) (.cons rfl (.cons rfl (.nil))) (ks := []) rfl (by decide)
  ·
    replace h := cn_f hc h
    refine WP_exit ?_
    refine WQ_then_exit ?_
    refine WQ_then_exit ?_
    refine WQ_block_exit ?_
    refine WQ_then ?_
    refine WP_seq ?_
    refine WP_region ?_
    refine WL_v rfl (VS_move rfl) ?_
    refine WL_v rfl (VS_assign rfl) ?_
    refine WL_nil ?_
    refine WQ_then ?_
    refine WP_ret ?_
    replace h := Option.some.inj h
    subst h
    exact WQ_ret () rfl (.tmp rfl .nil) trivial rfl (ks := []) rfl (by decide)
def law04_ExtentTells (n : Nat) (a0 : ref04_Extent) (a1 : Int) (a2 : Int) (a3 : Int) (a4 : Int) (a5 : Int) : Option Bool :=
  cn (decide (80 < (a0.Runs.length : Int))) (
  bd (law04_wakes n ) fun x23 =>
  some x23) (
  bd (law04_Of n a0) fun x24 =>
  bd (extent_Needs n a1 a2) fun x33 =>
  bd (ref04_Needs n a1 a2) fun x34 =>
  cl (((x33.1 != x34) || (x33.2 != (decide (0 < x34)))) == false) (extent_Extent_May n x24) default fun x35 =>
  cl (((x33.1 != x34) || (x33.2 != (decide (0 < x34)))) == false) (ref04_Extent_May n a0) default fun x36 =>
  cn ((((x33.1 != x34) || (x33.2 != (decide (0 < x34)))) || (x35 != x36))) (
  some false) (
  bd (ref04_Extent_May n a0) fun x37 =>
  cn ((!x37)) (
  bd (law04_wakes n ) fun x38 =>
  some x38) (
  bd (ref04_Extent_Bytes n a0) fun x39 =>
  bd (extent_Extent_Fits n x24 a1 a2) fun x46 =>
  bd (ref04_Extent_Fits n a0 a1 a2) fun x47 =>
  bd (extent_Extent_Put n x24 a1 a2) fun x48 =>
  lt (fun (x61 : ref04_Extent) =>
  cl ((((((x46.2 != (decide (0 ≤ x47))) || (x48.2.2 != x46.2)) || (x46.1 != x48.2.1)) || (x46.2 && (x46.1 != x47))) || ((!x46.2) && (x46.1 != 0))) == false) (law04_Same n x48.1 x61) default fun x68 =>
  cl (((((((x46.2 != (decide (0 ≤ x47))) || (x48.2.2 != x46.2)) || (x46.1 != x48.2.1)) || (x46.2 && (x46.1 != x47))) || ((!x46.2) && (x46.1 != 0))) || (!x68)) == false) (extent_Extent_Pages n x24) default fun x69 =>
  cn ((((((((x46.2 != (decide (0 ≤ x47))) || (x48.2.2 != x46.2)) || (x46.1 != x48.2.1)) || (x46.2 && (x46.1 != x47))) || ((!x46.2) && (x46.1 != 0))) || (!x68)) || (x69 != (wr .i64 (Int.tdiv (x39.length : Int) 32))))) (
  some false) (
  bd (extent_Extent_Place n x24 a3) fun x70 =>
  gu (!(((x70.2 != (decide (0 ≤ a3) && decide (a3 < (x39.length : Int)))) == false) && ((decide (0 ≤ a3) && decide (a3 < (x39.length : Int))) == true)) || inb a3 x39.length) <|
  cn ((((x70.2 != (decide (0 ≤ a3) && decide (a3 < (x39.length : Int)))) || ((decide (0 ≤ a3) && decide (a3 < (x39.length : Int))) && (x70.1 != (x39.getD (Int.toNat a3) default)))) || ((!(decide (0 ≤ a3) && decide (a3 < (x39.length : Int)))) && (x70.1 != 0)))) (
  some false) (
  lt ({ At := a4, N := a5 } : runs_Run) fun x72 =>
  bd (extent_Extent_Grow n x24 x72) fun x73 =>
  gu (apok ([] : List (Nat → Int)).length a0.Runs.length 16) <|
  lt (([] : List (Nat → Int)) ++ a0.Runs : List (Nat → Int)) fun x86 =>
  lt ((upd (upd (fun _ => 0) 0 a4) 1 a5) : (Nat → Int)) fun x89 =>
  gu (apok x86.length 1 16) <|
  lt (x86 ++ ([x89]) : List (Nat → Int)) fun x91 =>
  lt ({ Runs := x91, Len := (x39.length : Int) } : ref04_Extent) fun x94 =>
  bd (law04_Same n x73 x94) fun x99 =>
  cl (x99 == true) (law04_Same n x24 a0) default fun x100 =>
  cl ((x99 && x100) == true) (law04_wakes n ) default fun x101 =>
  some ((x99 && x100) && x101)))) fun j64 =>
  cn (decide (0 ≤ x47)) (
  lt ({ a0 with Len := wr .i64 (x47 + a1) } : ref04_Extent) fun x65 =>
  j64 x65) (
  j64 a0))))
theorem c_law04_ExtentTells {n : Nat} {a0 : ref04_Extent} {a1 : Int} {a2 : Int} {a3 : Int} {a4 : Int} {a5 : Int} {r : Bool} {K : World → Prop} [Stable K] {cs0 : List Value} (f0 : (L_ref04_Extent).rep K cs0 a0) (h : law04_ExtentTells n a0 a1 a2 a3 a4 a5 = some r) : FnW Try.prog 9 [.agg cs0.toArray, .int .i64 a1, .int .i64 a2, .int .i64 a3, .int .i64 a4, .int .i64 a5] K (.bool r) := by
  unfold law04_ExtentTells at h
  refine fn_of Try.func9 (by kernel_rfl) rfl Try.ntmps9 rfl (fun cx hbs hpre hro => ?_)
  haveI := knf_pre hbs hpre
  refine WP_seq ?_
  refine WP_region ?_
  refine WL_x rfl (RX_boxa rfl) (fun b6 _ => ?_)
  refine WL_v rfl (VS_assign rfl) ?_
  refine WL_nil ?_
  refine WQ_then ?_
  refine WP_seq ?_
  refine WP_seq ?_
  refine WP_region ?_
  refine WL_v rfl (VS_field0 rfl) ?_
  obtain ⟨v21, hv21, f22⟩ := P_ref04_Extent_Runs.sl f0
  refine WL_v rfl (VS_load rfl hv21) ?_
  refine WL_v rfl (VS_lenF f22 rfl) ?_
  refine WL_v rfl (VS_gtr rfl rfl) ?_
  refine WL_nil ?_
  refine WQ_then ?_
  refine WP_if rfl (fun hc => ?_) (fun hc => ?_)
  ·
    replace h := cn_t hc h
    refine WP_seq ?_
    obtain ⟨x23, hx23, h⟩ := bd_e h
    refine WP_region ?_
    refine WL_v rfl (VS_call (c_law04_wakes hx23) rfl (fun _ _ _ => trivial)) ?_
    refine WL_v rfl (VS_assign rfl) ?_
    refine WL_nil ?_
    refine WQ_then ?_
    refine WP_ret ?_
    refine WQ_then_ret ?_
    replace h := Option.some.inj h
    subst h
    exact WQ_ret () rfl (.tmp rfl .nil) trivial rfl (ks := []) rfl (by decide)
  ·
    replace h := cn_f hc h
    refine WP_skip ?_
    refine WQ_then ?_
    refine WP_seq ?_
    obtain ⟨x24, hx24, h⟩ := bd_e h
    refine WP_region ?_
    refine WL_v rfl (VS_loadall rfl (Lay.len _ f0)) ?_
    refine WL_x rfl (RX_callB (c_law04_Of (K := K) (Lay.mono _ ent f0) hx24) rfl) (fun ⟨w25, bs26, J27⟩ hp28 => ?_)
    obtain ⟨c30, rfl, f29⟩ := hp28
    replace f29 : L_extent_Extent.rep (fun w => K w ∧ Hs [.ext bs26 J27] w) c30 x24 := f29
    refine WL_x rfl (RX_alloc (hz := (⟨by kernel_rfl⟩ : TZero Try.prog 122 zc_extent_Extent))) (fun b13 _ => ?_)
    obtain ⟨c31, hc31, f32⟩ : ∃ cc, splice zc_extent_Extent 0 c30 = cc ∧ (L_extent_Extent).rep (fun w => K w ∧ Hs [.ext bs26 J27] w) cc x24 := ⟨_, rfl, (Pth.id (L := L_extent_Extent)).set (Lay.mono _ ent (show (L_extent_Extent).rep (Hs []) zc_extent_Extent Z_extent_Extent from zr_extent_Extent)) (Lay.mono _ ent f29)⟩
    refine WL_x0 (RX_stN c30 (Pth.id (L := L_extent_Extent)) (v := x24) (r := (show (L_extent_Extent).rep (Hs []) zc_extent_Extent Z_extent_Extent from zr_extent_Extent)) (rv := ((Lay.mono _ ent f29) : (L_extent_Extent).rep (fun w => K w ∧ Hs [.ext bs26 J27] w) c30 x24)) rfl rfl rfl rfl hc31) (fun _ _ => ?_)
    refine WL_nil ?_
    refine WQ_then ?_
    refine WP_seq ?_
    obtain ⟨x33, hx33, h⟩ := bd_e h
    refine WP_region ?_
    refine WL_v rfl (VS_move rfl) ?_
    refine WL_v rfl (VS_move rfl) ?_
    refine WL_v rfl (VS_call (c_extent_Needs hx33) rfl (fun _ _ _ => trivial)) ?_
    refine WL_v rfl (VS_move rfl) ?_
    refine WL_v rfl (VS_extract rfl rfl) ?_
    refine WL_v rfl (VS_extract rfl rfl) ?_
    refine WL_v rfl (VS_assign rfl) ?_
    refine WL_v rfl (VS_assign rfl) ?_
    refine WL_nil ?_
    refine WQ_then ?_
    refine WP_seq ?_
    obtain ⟨x34, hx34, h⟩ := bd_e h
    refine WP_region ?_
    refine WL_v rfl (VS_move rfl) ?_
    refine WL_v rfl (VS_move rfl) ?_
    refine WL_v rfl (VS_call (c_ref04_Needs hx34) rfl (fun _ _ _ => trivial)) ?_
    refine WL_v rfl (VS_assign rfl) ?_
    refine WL_nil ?_
    refine WQ_then ?_
    refine WP_seq ?_
    refine WP_seq ?_
    obtain ⟨x35, hx35, _, h⟩ := cl_e h
    obtain ⟨x36, hx36, _, h⟩ := cl_e h
    refine WP_draw mixed (.fin [] [(0, [14]), (1, [16]), (2, [46, 47]), (3, [48]), (4, [15, 49]), (5, [16, 49]), (6, [49, 51]), (7, [49, 50, 52]), (8, [49, 53]), (9, [54]), (10, [13, 55]), (11, [55, 56]), (12, [6, 55]), (13, [55, 58]), (14, [55, 57, 59]), (15, [55, 60])]) (by kernel_rfl) ?_
    refine Stg_fin ?_ ?_
    · exact ReOk_nil
    refine NewOk_cons rfl rfl (VG_v rfl (VS_move rfl)) ?_
    refine NewOk_cons rfl rfl (VG_v rfl (VS_move rfl)) ?_
    refine NewOk_cons rfl rfl (VG_v rfl (VS_neq rfl rfl)) ?_
    refine NewOk_cons rfl rfl (VG_v rfl (VS_move rfl)) ?_
    refine NewOk_cons rfl rfl (VG_g (Gd_b rfl rfl) (fun hb => VS_move rfl)) ?_
    refine NewOk_cons rfl rfl (VG_g (Gd_b rfl rfl) (fun hb => VS_move rfl)) ?_
    refine NewOk_cons rfl rfl (VG_g (Gd_b rfl rfl) (fun hb => VS_gtr (gev rfl hb) rfl)) ?_
    refine NewOk_cons rfl rfl (VG_g (Gd_b rfl rfl) (fun hb => VS_neqb (gev rfl hb) (gev rfl hb))) ?_
    refine NewOk_cons rfl rfl (VG_v rfl (VS_or rfl rfl)) ?_
    refine NewOk_cons rfl rfl (VG_v rfl (VS_move rfl)) ?_
    refine NewOk_cons rfl rfl (VG_g (Gd_b rfl rfl) (fun hb => VS_loadall rfl (Lay.len _ f32))) ?_
    refine NewOk_cons rfl rfl (VG_g (Gd_b rfl rfl) (fun hb => VS_call (c_extent_Extent_May (K := (fun w => K w ∧ Hs [.ext bs26 J27] w)) (Lay.mono _ ent f32) (hx35 hb)) (evs_cons (gev rfl hb) rfl) kn)) ?_
    refine NewOk_cons rfl rfl (VG_g (Gd_b rfl rfl) (fun hb => VS_loadall rfl (Lay.len _ f0))) ?_
    refine NewOk_cons rfl rfl (VG_g (Gd_b rfl rfl) (fun hb => VS_call (c_ref04_Extent_May (K := K) (Lay.mono _ ent f0) (hx36 hb)) (evs_cons (gev rfl hb) rfl) kn)) ?_
    refine NewOk_cons rfl rfl (VG_g (Gd_b rfl rfl) (fun hb => VS_neqb (gev rfl hb) (gev rfl hb))) ?_
    refine NewOk_cons rfl rfl (VG_v rfl (VS_or rfl rfl)) ?_
    refine NewOk_nil ?_
    refine WQ_then ?_
    refine WP_if rfl (fun hc => ?_) (fun hc => ?_)
    ·
      replace h := cn_t hc h
      refine WP_seq ?_
      refine WP_region ?_
      refine WL_v rfl (VS_assign rfl) ?_
      refine WL_nil ?_
      refine WQ_then ?_
      refine WP_ret ?_
      refine WQ_then_ret ?_
      replace h := Option.some.inj h
      subst h
      exact WQ_ret () rfl (.tmp rfl .nil) trivial rfl (ks := []) rfl (by decide)
    ·
      replace h := cn_f hc h
      refine WP_skip ?_
      refine WQ_then ?_
      refine WP_seq ?_
      refine WP_seq ?_
      obtain ⟨x37, hx37, h⟩ := bd_e h
      refine WP_region ?_
      refine WL_v rfl (VS_loadall rfl (Lay.len _ f0)) ?_
      refine WL_v rfl (VS_call (c_ref04_Extent_May (K := K) (Lay.mono _ ent f0) hx37) rfl kn) ?_
      refine WL_v rfl (VS_not rfl) ?_
      refine WL_nil ?_
      refine WQ_then ?_
      refine WP_if rfl (fun hc => ?_) (fun hc => ?_)
      ·
        replace h := cn_t hc h
        refine WP_seq ?_
        obtain ⟨x38, hx38, h⟩ := bd_e h
        refine WP_region ?_
        refine WL_v rfl (VS_call (c_law04_wakes hx38) rfl (fun _ _ _ => trivial)) ?_
        refine WL_v rfl (VS_assign rfl) ?_
        refine WL_nil ?_
        refine WQ_then ?_
        refine WP_ret ?_
        refine WQ_then_ret ?_
        replace h := Option.some.inj h
        subst h
        exact WQ_ret () rfl (.tmp rfl .nil) trivial rfl (ks := []) rfl (by decide)
      ·
        replace h := cn_f hc h
        refine WP_skip ?_
        refine WQ_then ?_
        refine WP_seq ?_
        obtain ⟨x39, hx39, h⟩ := bd_e h
        refine WP_region ?_
        refine WL_v rfl (VS_loadall rfl (Lay.len _ f0)) ?_
        refine WL_x rfl (RX_callB (c_ref04_Extent_Bytes (K := K) (Lay.mono _ ent f0) hx39) rfl) (fun ⟨w40, bs41, J42⟩ hp43 => ?_)
        have f44 : Fz (fun w => K w ∧ Hs [.ext bs41 J42] w) w40 (LI .i64) x39 := hp43
        refine WL_v rfl (VS_assign rfl) ?_
        refine WL_nil ?_
        refine WQ_then ?_
        refine WP_seq ?_
        obtain ⟨x46, hx46, h⟩ := bd_e h
        refine WP_region ?_
        refine WL_v rfl (VS_loadall rfl (Lay.len _ f32)) ?_
        refine WL_v rfl (VS_move rfl) ?_
        refine WL_v rfl (VS_move rfl) ?_
        refine WL_v rfl (VS_call (c_extent_Extent_Fits (K := (fun w => K w ∧ Hs [.ext bs26 J27] w)) (Lay.mono _ ent f32) hx46) rfl kn) ?_
        refine WL_v rfl (VS_move rfl) ?_
        refine WL_v rfl (VS_extract rfl rfl) ?_
        refine WL_v rfl (VS_extract rfl rfl) ?_
        refine WL_v rfl (VS_assign rfl) ?_
        refine WL_v rfl (VS_assign rfl) ?_
        refine WL_nil ?_
        refine WQ_then ?_
        refine WP_seq ?_
        obtain ⟨x47, hx47, h⟩ := bd_e h
        refine WP_region ?_
        refine WL_v rfl (VS_loadall rfl (Lay.len _ f0)) ?_
        refine WL_v rfl (VS_move rfl) ?_
        refine WL_v rfl (VS_move rfl) ?_
        refine WL_v rfl (VS_call (c_ref04_Extent_Fits (K := K) (Lay.mono _ ent f0) hx47) rfl kn) ?_
        refine WL_v rfl (VS_assign rfl) ?_
        refine WL_nil ?_
        refine WQ_then ?_
        refine WP_seq ?_
        obtain ⟨x48, hx48, h⟩ := bd_e h
        refine WP_region ?_
        refine WL_v rfl (VS_loadall rfl (Lay.len _ f32)) ?_
        refine WL_v rfl (VS_move rfl) ?_
        refine WL_v rfl (VS_move rfl) ?_
        refine WL_x rfl (RX_callB (c_extent_Extent_Put (K := (fun w => K w ∧ Hs [.ext bs26 J27] w)) (Lay.mono _ ent f32) hx48) rfl) (fun ⟨w49, bs50, J51⟩ hp52 => ?_)
        obtain ⟨c54, rfl, f53⟩ := hp52
        replace f53 : (L_extent_Extent).rep (fun w => (fun w => K w ∧ Hs [.ext bs26 J27] w) w ∧ Hs [.ext bs50 J51] w) c54 x48.1 := f53
        refine WL_v rfl (VS_move rfl) ?_
        refine WL_v rfl (VS_extract rfl rfl) ?_
        refine WL_v rfl (VS_extract rfl rfl) ?_
        refine WL_v rfl (VS_extract rfl rfl) ?_
        refine WL_x rfl (RX_alloc (hz := (⟨by kernel_rfl⟩ : TZero Try.prog 122 zc_extent_Extent))) (fun b21 _ => ?_)
        obtain ⟨c55, hc55, f56⟩ : ∃ cc, splice zc_extent_Extent 0 c54 = cc ∧ (L_extent_Extent).rep (fun w => K w ∧ Hs [.ext bs26 J27, .ext bs50 J51] w) cc x48.1 := ⟨_, rfl, (Pth.id (L := L_extent_Extent)).set (Lay.mono _ ent (show (L_extent_Extent).rep (Hs []) zc_extent_Extent Z_extent_Extent from zr_extent_Extent)) (Lay.mono _ ent f53)⟩
        refine WL_x0 (RX_stN c54 (Pth.id (L := L_extent_Extent)) (v := x48.1) (r := (show (L_extent_Extent).rep (Hs []) zc_extent_Extent Z_extent_Extent from zr_extent_Extent)) (rv := ((Lay.mono _ ent f53) : (L_extent_Extent).rep (fun w => K w ∧ Hs [.ext bs26 J27, .ext bs50 J51] w) c54 x48.1)) rfl rfl rfl rfl hc55) (fun _ _ => ?_)
        refine WL_v rfl (VS_assign rfl) ?_
        refine WL_v rfl (VS_assign rfl) ?_
        refine WL_nil ?_
        refine WQ_then ?_
        refine WP_seq ?_
        refine WP_region ?_
        refine WL_v rfl (VS_loadall rfl (Lay.len _ f0)) ?_
        refine WL_x rfl (RX_alloc (hz := (⟨by kernel_rfl⟩ : TZero Try.prog 119 zc_ref04_Extent))) (fun b24 _ => ?_)
        obtain ⟨c57, hc57, f58⟩ : ∃ cc, splice zc_ref04_Extent 0 cs0 = cc ∧ (L_ref04_Extent).rep K cc a0 := ⟨_, rfl, (Pth.id (L := L_ref04_Extent)).set (Lay.mono _ ent (show (L_ref04_Extent).rep (Hs []) zc_ref04_Extent Z_ref04_Extent from zr_ref04_Extent)) (Lay.mono _ ent f0)⟩
        refine WL_x0 (RX_stN cs0 (Pth.id (L := L_ref04_Extent)) (v := a0) (r := (show (L_ref04_Extent).rep (Hs []) zc_ref04_Extent Z_ref04_Extent from zr_ref04_Extent)) (rv := ((Lay.mono _ ent f0) : (L_ref04_Extent).rep K cs0 a0)) rfl rfl rfl rfl hc57) (fun _ _ => ?_)
        refine WL_nil ?_
        refine WQ_then ?_
        obtain ⟨j64, hj64, h⟩ := lt_e h
        refine WP_cuts (α := ref04_Extent × (List Value) × (List Nat) × (World → Prop)) [3, 4, 5, 6, 13, 17, 18, 19, 20, 21, 22, 23, 24] (.cons rfl (.cons rfl (.cons rfl (.cons rfl (.cons rfl (.cons rfl (.cons rfl (.cons rfl (.cons rfl (.cons rfl (.cons rfl (.cons rfl (.cons rfl (.nil)))))))))))))) (fun (x61, c62, bs59, J60) => []) (fun (x61, c62, bs59, J60) => [.ext bs59 J60, .cells b24 119 c62, .cells b21 122 c55, .ext bs50 J51, .ext bs41 J42, .cells b13 122 c31, .ext bs26 J27, .cells b6 119 cs0]) (fun (x61, c62, bs59, J60) => (L_ref04_Extent).rep (fun w => K w ∧ Hs [.ext bs59 J60] w) c62 x61 ∧ j64 x61 = some r) ?_ ?_
        ·
          refine WP_seq ?_
          refine WP_region ?_
          refine WL_v rfl (VS_move rfl) ?_
          refine WL_v rfl (VS_geq rfl rfl) ?_
          refine WL_nil ?_
          refine WQ_then ?_
          refine WP_if rfl (fun hc => ?_) (fun hc => ?_)
          ·
            replace h := cn_t hc h
            obtain ⟨x65, hx65, h⟩ := lt_e h
            refine WP_region ?_
            refine WL_v rfl (VS_move rfl) ?_
            refine WL_v rfl (VS_move rfl) ?_
            refine WL_v rfl (VS_add rfl rfl rfl) ?_
            refine WL_v rfl (VS_field0 rfl) ?_
            obtain ⟨c66, hc66, f67⟩ : ∃ cc, splice c57 1 ((LI .i64).enc (wr .i64 (x47 + a1))) = cc ∧ (L_ref04_Extent).rep K cc x65 := ⟨_, rfl, by rw [hx65]; exact P_ref04_Extent_Len.set (Lay.mono _ ent f58) (FlatL.iff.2 rfl)⟩
            refine WL_x0 (RX_stN ((LI .i64).enc (wr .i64 (x47 + a1))) P_ref04_Extent_Len (v := wr .i64 (x47 + a1)) (r := f58) (rv := ((FlatL.iff.2 rfl) : ((LI .i64)).rep K ((LI .i64).enc (wr .i64 (x47 + a1))) (wr .i64 (x47 + a1)))) rfl rfl rfl rfl hc66) (fun _ _ => ?_)
            refine WL_nil ?_
            refine WQ_bundle (R := []) (H' := [.cells b24 119 c66, .cells b21 122 c55, .ext bs50 J51, .ext bs41 J42, .cells b13 122 c31, .ext bs26 J27, .cells b6 119 cs0]) (ks := [0, 1, 2, 3, 4, 5, 6]) rfl (by decide) ?_
            exact WQ_cuts (x65, c66, (blks []), (Hs [])) ⟨(Lay.mono _ ent f67), h⟩ (Sub_nil) (.cons rfl (.cons rfl (.cons rfl (.cons rfl (.cons rfl (.cons rfl (.cons rfl (.cons rfl (.cons rfl (.cons rfl (.cons rfl (.cons rfl (.cons rfl (.nil)))))))))))))) (ks := [0, 1, 2, 3, 4, 5, 6, 7]) rfl (by decide)
          ·
            replace h := cn_f hc h
            refine WP_skip ?_
            refine WQ_bundle (R := []) (H' := [.cells b24 119 c57, .cells b21 122 c55, .ext bs50 J51, .ext bs41 J42, .cells b13 122 c31, .ext bs26 J27, .cells b6 119 cs0]) (ks := [0, 1, 2, 3, 4, 5, 6]) rfl (by decide) ?_
            exact WQ_cuts (a0, c57, (blks []), (Hs [])) ⟨(Lay.mono _ ent f58), h⟩ (Sub_nil) (.cons rfl (.cons rfl (.cons rfl (.cons rfl (.cons rfl (.cons rfl (.cons rfl (.cons rfl (.cons rfl (.cons rfl (.cons rfl (.cons rfl (.cons rfl (.nil)))))))))))))) (ks := [0, 1, 2, 3, 4, 5, 6, 7]) rfl (by decide)
        ·
          rintro ⟨x61, c62, bs59, J60⟩ ⟨f63, h⟩
          replace h : j64 x61 = some r := h
          replace h := jn1_u hj64 h
          refine WP_seq ?_
          refine WP_seq ?_
          obtain ⟨x68, hx68, _, h⟩ := cl_e h
          obtain ⟨x69, hx69, _, h⟩ := cl_e h
          refine WP_region ?_
          refine WL_v rfl (VS_move rfl) ?_
          refine WL_v rfl (VS_move rfl) ?_
          refine WL_v rfl (VS_geq rfl rfl) ?_
          refine WL_v rfl (VS_neqb rfl rfl) ?_
          refine WL_v rfl (VS_move rfl) ?_
          refine WL_g (Gd_b rfl rfl) rfl (fun hb => VS_move rfl) ?_
          refine WL_g (Gd_b rfl rfl) rfl (fun hb => VS_move rfl) ?_
          refine WL_g (Gd_b rfl rfl) rfl (fun hb => VS_neqb (gev rfl hb) (gev rfl hb)) ?_
          refine WL_v rfl (VS_or rfl rfl) ?_
          refine WL_v rfl (VS_move rfl) ?_
          refine WL_g (Gd_b rfl rfl) rfl (fun hb => VS_move rfl) ?_
          refine WL_g (Gd_b rfl rfl) rfl (fun hb => VS_move rfl) ?_
          refine WL_g (Gd_b rfl rfl) rfl (fun hb => VS_neq (gev rfl hb) (gev rfl hb)) ?_
          refine WL_v rfl (VS_or rfl rfl) ?_
          refine WL_v rfl (VS_move rfl) ?_
          refine WL_g (Gd_b rfl rfl) rfl (fun hb => VS_move rfl) ?_
          refine WL_g (Gd_b rfl rfl) rfl (fun hb => VS_move (gev rfl hb)) ?_
          refine WL_g (Gd_g rfl rfl) rfl (fun hb => VS_move rfl) ?_
          refine WL_g (Gd_g rfl rfl) rfl (fun hb => VS_move rfl) ?_
          refine WL_g (Gd_g rfl rfl) rfl (fun hb => VS_neq (gev rfl hb) (gev rfl hb)) ?_
          refine WL_g (Gd_b rfl rfl) rfl (fun hb => VS_and (gev rfl hb) (gev2 rfl hb)) ?_
          refine WL_v rfl (VS_or rfl rfl) ?_
          refine WL_v rfl (VS_move rfl) ?_
          refine WL_g (Gd_b rfl rfl) rfl (fun hb => VS_move rfl) ?_
          refine WL_g (Gd_b rfl rfl) rfl (fun hb => VS_not (gev rfl hb)) ?_
          refine WL_g (Gd_b rfl rfl) rfl (fun hb => VS_move (gev rfl hb)) ?_
          refine WL_g (Gd_g rfl rfl) rfl (fun hb => VS_move rfl) ?_
          refine WL_g (Gd_g rfl rfl) rfl (fun hb => VS_neq (gev rfl hb) rfl) ?_
          refine WL_g (Gd_b rfl rfl) rfl (fun hb => VS_and (gev rfl hb) (gev2 rfl hb)) ?_
          refine WL_v rfl (VS_or rfl rfl) ?_
          refine WL_v rfl (VS_move rfl) ?_
          refine WL_g (Gd_b rfl rfl) rfl (fun hb => VS_loadall rfl (Lay.len _ f56)) ?_
          refine WL_g (Gd_b rfl rfl) rfl (fun hb => VS_loadall rfl (Lay.len _ f63)) ?_
          refine WL_g (Gd_b rfl rfl) rfl (fun hb => VS_call (c_law04_Same (K := (fun w => K w ∧ Hs [.ext bs26 J27, .ext bs50 J51, .ext bs59 J60] w)) (Lay.mono _ ent f56) (Lay.mono _ ent f63) (hx68 hb)) (evs_cons (gev rfl hb) (evs_cons (gev rfl hb) rfl)) kn) ?_
          refine WL_g (Gd_b rfl rfl) rfl (fun hb => VS_not (gev rfl hb)) ?_
          refine WL_v rfl (VS_or rfl rfl) ?_
          refine WL_v rfl (VS_move rfl) ?_
          refine WL_g (Gd_b rfl rfl) rfl (fun hb => VS_loadall rfl (Lay.len _ f32)) ?_
          refine WL_g (Gd_b rfl rfl) rfl (fun hb => VS_call (c_extent_Extent_Pages (K := (fun w => K w ∧ Hs [.ext bs26 J27] w)) (Lay.mono _ ent f32) (hx69 hb)) (evs_cons (gev rfl hb) rfl) kn) ?_
          refine WL_g (Gd_b rfl rfl) rfl (fun hb => VS_move rfl) ?_
          refine WL_g (Gd_b rfl rfl) rfl (fun hb => VS_lenF f44 (gev rfl hb)) ?_
          refine WL_g (Gd_b rfl rfl) rfl (fun hb => VS_quo (gev rfl hb) rfl (by decide) rfl) ?_
          refine WL_g (Gd_b rfl rfl) rfl (fun hb => VS_neq (gev rfl hb) (gev rfl hb)) ?_
          refine WL_v rfl (VS_or rfl rfl) ?_
          refine WL_nil ?_
          refine WQ_then ?_
          refine WP_if rfl (fun hc => ?_) (fun hc => ?_)
          ·
            replace h := cn_t hc h
            refine WP_seq ?_
            refine WP_region ?_
            refine WL_v rfl (VS_assign rfl) ?_
            refine WL_nil ?_
            refine WQ_then ?_
            refine WP_ret ?_
            refine WQ_then_ret ?_
            replace h := Option.some.inj h
            subst h
            exact WQ_ret () rfl (.tmp rfl .nil) trivial rfl (ks := []) rfl (by decide)
          ·
            replace h := cn_f hc h
            refine WP_skip ?_
            refine WQ_then ?_
            refine WP_seq ?_
            obtain ⟨x70, hx70, h⟩ := bd_e h
            refine WP_region ?_
            refine WL_v rfl (VS_loadall rfl (Lay.len _ f32)) ?_
            refine WL_v rfl (VS_move rfl) ?_
            refine WL_v rfl (VS_call (c_extent_Extent_Place (K := (fun w => K w ∧ Hs [.ext bs26 J27] w)) (Lay.mono _ ent f32) hx70) rfl kn) ?_
            refine WL_v rfl (VS_move rfl) ?_
            refine WL_v rfl (VS_extract rfl rfl) ?_
            refine WL_v rfl (VS_extract rfl rfl) ?_
            refine WL_v rfl (VS_assign rfl) ?_
            refine WL_v rfl (VS_assign rfl) ?_
            refine WL_nil ?_
            refine WQ_then ?_
            refine WP_seq ?_
            refine WP_region ?_
            refine WL_v rfl (VS_move rfl) ?_
            refine WL_v rfl (VS_geq rfl rfl) ?_
            refine WL_v rfl (VS_move rfl) ?_
            refine WL_g (Gd_b rfl rfl) rfl (fun hb => VS_move rfl) ?_
            refine WL_g (Gd_b rfl rfl) rfl (fun hb => VS_move rfl) ?_
            refine WL_g (Gd_b rfl rfl) rfl (fun hb => VS_lenF f44 (gev rfl hb)) ?_
            refine WL_g (Gd_b rfl rfl) rfl (fun hb => VS_lss (gev rfl hb) (gev rfl hb)) ?_
            refine WL_v rfl (VS_and rfl rfl) ?_
            refine WL_v rfl (VS_assign rfl) ?_
            refine WL_nil ?_
            refine WQ_then ?_
            refine WP_seq ?_
            refine WP_seq ?_
            obtain ⟨hg71, h⟩ := gu_e h
            refine WP_region ?_
            refine WL_v rfl (VS_move rfl) ?_
            refine WL_v rfl (VS_move rfl) ?_
            refine WL_v rfl (VS_neqb rfl rfl) ?_
            refine WL_v rfl (VS_move rfl) ?_
            refine WL_g (Gd_b rfl rfl) rfl (fun hb => VS_move rfl) ?_
            refine WL_g (Gd_b rfl rfl) rfl (fun hb => VS_move (gev rfl hb)) ?_
            refine WL_g (Gd_g rfl rfl) rfl (fun hb => VS_move rfl) ?_
            refine WL_g (Gd_g rfl rfl) rfl (fun hb => VS_move rfl) ?_
            refine WL_g (Gd_g rfl rfl) rfl (fun hb => VS_move rfl) ?_
            refine WL_g (Gd_g rfl rfl) rfl (fun hb => VS_ixF (m := (Int.toNat a3)) f44 rfl (gev rfl hb) (gev rfl hb) (inb_e (imp_b hg71 hb)).1 (inb_e (imp_b hg71 hb)).2) ?_
            refine WL_g (Gd_g rfl rfl) rfl (fun hb => VS_ldiF f44 (Pth.idx (L := (LI .i64)) (m := (x39.length)) (k := 1) ((Int.toNat a3)) (inb_e (imp_b hg71 hb)).2 rfl) (gev rfl hb)) ?_
            refine WL_g (Gd_g rfl rfl) rfl (fun hb => VS_neq (gev rfl hb) (gev rfl hb)) ?_
            refine WL_g (Gd_b rfl rfl) rfl (fun hb => VS_and (gev rfl hb) (gev2 rfl hb)) ?_
            refine WL_v rfl (VS_or rfl rfl) ?_
            refine WL_v rfl (VS_move rfl) ?_
            refine WL_g (Gd_b rfl rfl) rfl (fun hb => VS_move rfl) ?_
            refine WL_g (Gd_b rfl rfl) rfl (fun hb => VS_not (gev rfl hb)) ?_
            refine WL_g (Gd_b rfl rfl) rfl (fun hb => VS_move (gev rfl hb)) ?_
            refine WL_g (Gd_g rfl rfl) rfl (fun hb => VS_move rfl) ?_
            refine WL_g (Gd_g rfl rfl) rfl (fun hb => VS_neq (gev rfl hb) rfl) ?_
            refine WL_g (Gd_b rfl rfl) rfl (fun hb => VS_and (gev rfl hb) (gev2 rfl hb)) ?_
            refine WL_v rfl (VS_or rfl rfl) ?_
            refine WL_nil ?_
            refine WQ_then ?_
            refine WP_if rfl (fun hc => ?_) (fun hc => ?_)
            ·
              replace h := cn_t hc h
              refine WP_seq ?_
              refine WP_region ?_
              refine WL_v rfl (VS_assign rfl) ?_
              refine WL_nil ?_
              refine WQ_then ?_
              refine WP_ret ?_
              refine WQ_then_ret ?_
              replace h := Option.some.inj h
              subst h
              exact WQ_ret () rfl (.tmp rfl .nil) trivial rfl (ks := []) rfl (by decide)
            ·
              replace h := cn_f hc h
              refine WP_skip ?_
              refine WQ_then ?_
              refine WP_seq ?_
              obtain ⟨x72, hx72, h⟩ := lt_e h
              obtain ⟨x73, hx73, h⟩ := bd_e h
              refine WP_region ?_
              refine WL_v rfl (VS_loadall rfl (Lay.len _ f32)) ?_
              refine WL_v rfl (VS_move rfl) ?_
              refine WL_v rfl (VS_move rfl) ?_
              refine WL_v rfl (VS_build (cs := L_runs_Run.enc x72) rfl (by rw [hx72]; rfl)) ?_
              refine WL_x rfl (RX_callB (c_extent_Extent_Grow (K := (fun w => K w ∧ Hs [.ext bs26 J27] w)) (Lay.mono _ ent f32) hx73) rfl) (fun ⟨w74, bs75, J76⟩ hp77 => ?_)
              obtain ⟨c79, rfl, f78⟩ := hp77
              replace f78 : L_extent_Extent.rep (fun w => (fun w => K w ∧ Hs [.ext bs26 J27] w) w ∧ Hs [.ext bs75 J76] w) c79 x73 := f78
              refine WL_x rfl (RX_alloc (hz := (⟨by kernel_rfl⟩ : TZero Try.prog 122 zc_extent_Extent))) (fun b28 _ => ?_)
              obtain ⟨c80, hc80, f81⟩ : ∃ cc, splice zc_extent_Extent 0 c79 = cc ∧ (L_extent_Extent).rep (fun w => K w ∧ Hs [.ext bs26 J27, .ext bs75 J76] w) cc x73 := ⟨_, rfl, (Pth.id (L := L_extent_Extent)).set (Lay.mono _ ent (show (L_extent_Extent).rep (Hs []) zc_extent_Extent Z_extent_Extent from zr_extent_Extent)) (Lay.mono _ ent f78)⟩
              refine WL_x0 (RX_stN c79 (Pth.id (L := L_extent_Extent)) (v := x73) (r := (show (L_extent_Extent).rep (Hs []) zc_extent_Extent Z_extent_Extent from zr_extent_Extent)) (rv := ((Lay.mono _ ent f78) : (L_extent_Extent).rep (fun w => K w ∧ Hs [.ext bs26 J27, .ext bs75 J76] w) c79 x73)) rfl rfl rfl rfl hc80) (fun _ _ => ?_)
              refine WL_nil ?_
              refine WQ_then ?_
              refine WP_seq ?_
              obtain ⟨hg85, h⟩ := gu_e h
              obtain ⟨x86, hx86, h⟩ := lt_e h
              obtain ⟨x89, hx89, h⟩ := lt_e h
              obtain ⟨hg90, h⟩ := gu_e h
              obtain ⟨x91, hx91, h⟩ := lt_e h
              obtain ⟨x94, hx94, h⟩ := lt_e h
              refine WP_region ?_
              refine WL_v rfl (VS_field0 rfl) ?_
              obtain ⟨v82, hv82, f83⟩ := P_ref04_Extent_Runs.sl f0
              refine WL_v rfl (VS_load rfl hv82) ?_
              refine WL_rowN 134 2 (LA (LI .i64) 2) ?_
              refine WL_x rfl (RX_apps (sz := 2) (L := (LA (LI .i64) 2)) (xs := ([] : List (Nat → Int))) (ys := a0.Runs) (bytes := 16) f83 rfl rfl rfl (apok_e hg85).1 (apok_e hg85).2) (fun v87 hs88 => ?_)
              rw [← hx86] at hs88; rw [← hx86]
              refine WL_v rfl (VS_move rfl) ?_
              refine WL_v rfl (VS_move rfl) ?_
              refine WL_v rfl (VS_buildA (cs := (LA (LI .i64) 2).enc x89) rfl (by rw [hx89]; rfl) (by decide)) ?_
              refine WL_x rfl (RX_bs1 (LA (LI .i64) 2) x89 rfl rfl rfl rfl (by decide) (by decide)) (fun b185 _ => ?_)
              refine WL_x rfl (RX_app1 (sz := 2) (L := (LA (LI .i64) 2)) (xs := x86) (y := x89) (bytes := 16) rfl rfl rfl (apok_e hg90).1 (apok_e hg90).2) (fun v92 hs93 => ?_)
              rw [← hx91] at hs93; rw [← hx91]
              refine WL_v rfl (VS_move rfl) ?_
              refine WL_v rfl (VS_lenF f44 rfl) ?_
              obtain ⟨c95, hc95, f96⟩ : ∃ cc, ([v92] ++ ((LI .i64).enc (x39.length : Int))) = cc ∧ (L_ref04_Extent).rep (Hs [Row v92 134 2 (LA (LI .i64) 2) x91]) cc x94 := ⟨_, rfl, by rw [hx94]; exact ⟨_, _, rfl, ⟨_, rfl, (Fz.row (e := 134) (sz := 2) (L := (LA (LI .i64) 2)) (xs := x91) rfl hs93).mono ent⟩, (FlatL.iff.2 rfl)⟩⟩
              refine WL_v rfl (VS_build (cs := c95) rfl (by rw [← hc95]; first | rfl | (simp [fillL, splice, show ∀ k i, (Value.int k i).cells = #[Value.int k i] from fun _ _ => rfl, show ∀ q, (Value.bool q).cells = #[Value.bool q] from fun _ => rfl, (Fz.row (e := 134) (sz := 2) (L := (LA (LI .i64) 2)) (xs := x91) rfl hs93).sl.cells, (Fz.row (e := 134) (sz := 2) (L := (LA (LI .i64) 2)) (xs := x91) rfl hs93).sl.size]; try rfl))) ?_
              refine WL_x rfl (RX_alloc (hz := (⟨by kernel_rfl⟩ : TZero Try.prog 119 zc_ref04_Extent))) (fun b29 _ => ?_)
              obtain ⟨c97, hc97, f98⟩ : ∃ cc, splice zc_ref04_Extent 0 c95 = cc ∧ (L_ref04_Extent).rep (Hs [Row v92 134 2 (LA (LI .i64) 2) x91]) cc x94 := ⟨_, rfl, (Pth.id (L := L_ref04_Extent)).set (Lay.mono _ ent (show (L_ref04_Extent).rep (Hs []) zc_ref04_Extent Z_ref04_Extent from zr_ref04_Extent)) (Lay.mono _ ent f96)⟩
              refine WL_x0 (RX_stN c95 (Pth.id (L := L_ref04_Extent)) (v := x94) (r := (show (L_ref04_Extent).rep (Hs []) zc_ref04_Extent Z_ref04_Extent from zr_ref04_Extent)) (rv := ((Lay.mono _ ent f96) : (L_ref04_Extent).rep (Hs [Row v92 134 2 (LA (LI .i64) 2) x91]) c95 x94)) rfl rfl rfl rfl hc97) (fun _ _ => ?_)
              refine WL_nil ?_
              refine WQ_then ?_
              refine WP_seq ?_
              obtain ⟨x99, hx99, h⟩ := bd_e h
              obtain ⟨x100, hx100, _, h⟩ := cl_e h
              obtain ⟨x101, hx101, _, h⟩ := cl_e h
              refine WP_region ?_
              refine WL_v rfl (VS_loadall rfl (Lay.len _ f81)) ?_
              refine WL_v rfl (VS_loadall rfl (Lay.len _ f98)) ?_
              refine WL_v rfl (VS_call (c_law04_Same (K := (fun w => K w ∧ Hs [.ext bs26 J27, .ext bs75 J76, Row v92 134 2 (LA (LI .i64) 2) x91] w)) (Lay.mono _ ent f81) (Lay.mono _ ent f98) hx99) rfl kn) ?_
              refine WL_v rfl (VS_move rfl) ?_
              refine WL_g (Gd_b rfl rfl) rfl (fun hb => VS_loadall rfl (Lay.len _ f32)) ?_
              refine WL_g (Gd_b rfl rfl) rfl (fun hb => VS_loadall rfl (Lay.len _ f0)) ?_
              refine WL_g (Gd_b rfl rfl) rfl (fun hb => VS_call (c_law04_Same (K := (fun w => K w ∧ Hs [.ext bs26 J27] w)) (Lay.mono _ ent f32) (Lay.mono _ ent f0) (hx100 hb)) (evs_cons (gev rfl hb) (evs_cons (gev rfl hb) rfl)) kn) ?_
              refine WL_v rfl (VS_and rfl rfl) ?_
              refine WL_v rfl (VS_move rfl) ?_
              refine WL_g (Gd_b rfl rfl) rfl (fun hb => VS_call (c_law04_wakes (hx101 hb)) rfl (fun _ _ _ => trivial)) ?_
              refine WL_v rfl (VS_and rfl rfl) ?_
              refine WL_v rfl (VS_assign rfl) ?_
              refine WL_nil ?_
              refine WQ_then ?_
              refine WP_ret ?_
              replace h := Option.some.inj h
              subst h
              exact WQ_ret () rfl (.tmp rfl .nil) trivial rfl (ks := []) rfl (by decide)
end Go.Proofs.Ytcdnmiianjaglaa
