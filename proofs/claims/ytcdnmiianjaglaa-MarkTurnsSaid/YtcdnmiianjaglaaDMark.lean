/- Decompiled: package mark, its document's answer, its statements. -/
import Derived.Test.YtcdnmiianjaglaaTypes
import Derived.Test.YtcdnmiianjaglaaSl2
namespace Go.Proofs.Ytcdnmiianjaglaa
open Go Go.Bw
def ref15_may (n : Nat) (a0 : Int) (a1 : Int) : Option Bool :=
  some (((decide (0 ≤ a0) && decide (a0 < 32)) && decide (0 ≤ a1)) && decide (a1 < 8))
theorem c_ref15_may {n : Nat} {a0 : Int} {a1 : Int} {r : Bool}  (h : ref15_may n a0 a1 = some r) : FnV Try.prog 104 [.int .i64 a0, .int .i64 a1] (.bool r) := by
  unfold ref15_may at h
  refine fn_of Try.func104 (by kernel_rfl) rfl Try.ntmps104 rfl (fun cx hbs hpre hro => ?_)
  refine WP_seq ?_
  refine WP_region ?_
  refine WL_v rfl (VS_assign rfl) ?_
  refine WL_nil ?_
  refine WQ_then ?_
  refine WP_seq ?_
  refine WP_region ?_
  refine WL_v rfl (VS_move rfl) ?_
  refine WL_v rfl (VS_geq rfl rfl) ?_
  refine WL_v rfl (VS_move rfl) ?_
  refine WL_g (Gd_b rfl rfl) rfl (fun hb => VS_move rfl) ?_
  refine WL_g (Gd_b rfl rfl) rfl (fun hb => VS_lss (gev rfl hb) rfl) ?_
  refine WL_v rfl (VS_and rfl rfl) ?_
  refine WL_v rfl (VS_move rfl) ?_
  refine WL_g (Gd_b rfl rfl) rfl (fun hb => VS_move rfl) ?_
  refine WL_g (Gd_b rfl rfl) rfl (fun hb => VS_geq (gev rfl hb) rfl) ?_
  refine WL_v rfl (VS_and rfl rfl) ?_
  refine WL_v rfl (VS_move rfl) ?_
  refine WL_g (Gd_b rfl rfl) rfl (fun hb => VS_move rfl) ?_
  refine WL_g (Gd_b rfl rfl) rfl (fun hb => VS_lss (gev rfl hb) rfl) ?_
  refine WL_v rfl (VS_and rfl rfl) ?_
  refine WL_v rfl (VS_assign rfl) ?_
  refine WL_nil ?_
  refine WQ_then ?_
  refine WP_ret ?_
  replace h := Option.some.inj h
  subst h
  exact WQ_ret () rfl (.tmp rfl .nil) trivial rfl (ks := []) rfl (by decide)
structure ref15_Marks where
  Has : (Nat → Int)
  Wait : (Nat → (List Int))
abbrev L_ref15_Marks : Lay ref15_Marks := Lay.via (LP (LA (LI .i64) 32) (LA (LSl (LI .i64)) 32)) (fun x => (x.Has, x.Wait))
abbrev Z_ref15_Marks : ref15_Marks := ⟨(fun _ => 0), (fun _ => [])⟩
instance : Inhabited ref15_Marks := ⟨Z_ref15_Marks⟩
def zc_ref15_Marks : List Value := (flat (fun _ => [.int .i64 0]) 32) ++ ((flat (fun _ => [.slice none 0 0]) 32))
theorem zr_ref15_Marks {A : World → Prop} : L_ref15_Marks.rep A zc_ref15_Marks Z_ref15_Marks := ⟨_, _, rfl, ⟨_, rfl, fun _ _ => rfl⟩, ⟨_, rfl, fun _ _ => ⟨_, rfl, Fz.nil⟩⟩⟩
theorem P_ref15_Marks_Has : Pth L_ref15_Marks (LA (LI .i64) 32) 0 (fun x => x.Has) (fun x v => { x with Has := v }) := (Pth.fst Pth.id).via _ _ _ 0 rfl (fun _ => rfl) (fun _ _ => rfl)
theorem P_ref15_Marks_Wait : Pth L_ref15_Marks (LA (LSl (LI .i64)) 32) 32 (fun x => x.Wait) (fun x v => { x with Wait := v }) := (Pth.snd Pth.id).via _ _ _ 32 rfl (fun _ => rfl) (fun _ _ => rfl)
def ref15_Marks_Free (n : Nat) (a0 : ref15_Marks) (a1 : Int) (a2 : Int) : Option ref15_Marks :=
  bd (ref15_may n a1 a2) fun x21 =>
  gu (!(x21 == true) || inb a1 32) <|
  cn ((x21 && ((a0.Has (Int.toNat a1)) == a2))) (
  gu (inb a1 32) <|
  lt ({ a0 with Has := (upd a0.Has (Int.toNat a1) (-1)) } : ref15_Marks) fun x24 =>
  some x24) (
  some a0)
theorem c_ref15_Marks_Free {n : Nat} {a0 : ref15_Marks} {a1 : Int} {a2 : Int} {r : ref15_Marks} {K : World → Prop} [Stable K] {cs0 : List Value} (f0 : (L_ref15_Marks).rep K cs0 a0) (h : ref15_Marks_Free n a0 a1 a2 = some r) : FnB Try.prog 42 [.agg cs0.toArray, .int .i64 a1, .int .i64 a2] K (fun J v => ∃ u0, v = .agg u0.toArray ∧ (L_ref15_Marks).rep (fun w => K w ∧ J w) u0 (r)) := by
  unfold ref15_Marks_Free at h
  refine fn_of Try.func42 (by kernel_rfl) rfl Try.ntmps42 rfl (fun cx hbs hpre hro => ?_)
  haveI := kn_pre hbs hpre
  refine WP_seq ?_
  refine WP_region ?_
  refine WL_x rfl (RX_boxa rfl) (fun b3 _ => ?_)
  refine WL_x rfl (RX_alloc (hz := (⟨by kernel_rfl⟩ : TZero Try.prog 100 zc_ref15_Marks))) (fun b6 _ => ?_)
  refine WL_nil ?_
  refine WQ_then ?_
  refine WP_seq ?_
  refine WP_seq ?_
  obtain ⟨x21, hx21, h⟩ := bd_e h
  obtain ⟨hg22, h⟩ := gu_e h
  refine WP_region ?_
  refine WL_v rfl (VS_move rfl) ?_
  refine WL_v rfl (VS_move rfl) ?_
  refine WL_v rfl (VS_call (c_ref15_may hx21) rfl (fun _ _ _ => trivial)) ?_
  refine WL_v rfl (VS_move rfl) ?_
  refine WL_g (Gd_b rfl rfl) rfl (fun hb => VS_move rfl) ?_
  refine WL_g (Gd_b rfl rfl) rfl (fun hb => VS_field0 rfl) ?_
  refine WL_g (Gd_b rfl rfl) rfl (fun hb => VS_index0 (m := (Int.toNat a1)) (gev rfl hb) (gev rfl hb) (inb_e (imp_b hg22 hb)).1 (inb_e (imp_b hg22 hb)).2) ?_
  refine WL_g (Gd_b rfl rfl) rfl (fun hb => VS_load (gev rfl hb) ((P_ref15_Marks_Has.c0 (Pth.idx (L := (LI .i64)) (m := 32) (k := 1) ((Int.toNat a1)) (inb_e (imp_b hg22 hb)).2 rfl)).int f0)) ?_
  refine WL_g (Gd_b rfl rfl) rfl (fun hb => VS_move rfl) ?_
  refine WL_g (Gd_b rfl rfl) rfl (fun hb => VS_eql (gev rfl hb) (gev rfl hb)) ?_
  refine WL_v rfl (VS_and rfl rfl) ?_
  refine WL_nil ?_
  refine WQ_then ?_
  refine WP_if rfl (fun hc => ?_) (fun hc => ?_)
  ·
    replace h := cn_t hc h
    obtain ⟨hg23, h⟩ := gu_e h
    obtain ⟨x24, hx24, h⟩ := lt_e h
    refine WP_region ?_
    refine WL_v rfl (VS_move rfl) ?_
    refine WL_v rfl (VS_field0 rfl) ?_
    refine WL_v rfl (VS_index0 (m := (Int.toNat a1)) rfl rfl (inb_e hg23).1 (inb_e hg23).2) ?_
    obtain ⟨c25, hc25, f26⟩ : ∃ cc, splice cs0 ((Int.toNat a1) * 1) ((LI .i64).enc (-1)) = cc ∧ (L_ref15_Marks).rep K cc x24 := ⟨_, rfl, by rw [hx24]; exact (P_ref15_Marks_Has.c0 (Pth.idx (L := (LI .i64)) (m := 32) (k := 1) ((Int.toNat a1)) (inb_e hg23).2 rfl)).set (Lay.mono _ ent f0) (FlatL.iff.2 rfl)⟩
    refine WL_x0 (RX_stN ((LI .i64).enc (-1)) (P_ref15_Marks_Has.c0 (Pth.idx (L := (LI .i64)) (m := 32) (k := 1) ((Int.toNat a1)) (inb_e hg23).2 rfl)) (v := (-1)) (r := f0) (rv := ((FlatL.iff.2 rfl) : ((LI .i64)).rep K ((LI .i64).enc (-1)) (-1))) rfl rfl rfl rfl hc25) (fun _ _ => ?_)
    refine WL_nil ?_
    refine WQ_then ?_
    refine WP_seq ?_
    refine WP_region ?_
    refine WL_v rfl (VS_loadall rfl (Lay.len _ f26)) ?_
    obtain ⟨c27, hc27, f28⟩ : ∃ cc, splice zc_ref15_Marks 0 c25 = cc ∧ (L_ref15_Marks).rep K cc x24 := ⟨_, rfl, (Pth.id (L := L_ref15_Marks)).set (Lay.mono _ ent (show (L_ref15_Marks).rep (Hs []) zc_ref15_Marks Z_ref15_Marks from zr_ref15_Marks)) (Lay.mono _ ent f26)⟩
    refine WL_x0 (RX_stN c25 (Pth.id (L := L_ref15_Marks)) (v := x24) (r := (show (L_ref15_Marks).rep (Hs []) zc_ref15_Marks Z_ref15_Marks from zr_ref15_Marks)) (rv := ((Lay.mono _ ent f26) : (L_ref15_Marks).rep K c25 x24)) rfl rfl rfl rfl hc27) (fun _ _ => ?_)
    refine WL_nil ?_
    refine WQ_then ?_
    refine WP_ret ?_
    replace h := Option.some.inj h
    subst h
    refine WQ_bundle (R := []) (H' := [.cells b6 100 c27]) (ks := [0]) rfl (by decide) ?_
    have p29 : (L_ref15_Marks).rep (fun w => K w ∧ (Hs [.ext (blks []) (Hs [])]) w) c27 x24 := Lay.mono _ ent f28
    exact WQ_ret (.agg c27.toArray, blks [], Hs []) rfl (.agg rfl inferInstance inferInstance (Lay.len _ f28) .nil) ⟨_, rfl, p29⟩ rfl (ks := [0]) rfl (by decide)
  ·
    replace h := cn_f hc h
    refine WP_skip ?_
    refine WQ_then ?_
    refine WP_seq ?_
    refine WP_region ?_
    refine WL_v rfl (VS_loadall rfl (Lay.len _ f0)) ?_
    obtain ⟨c30, hc30, f31⟩ : ∃ cc, splice zc_ref15_Marks 0 cs0 = cc ∧ (L_ref15_Marks).rep K cc a0 := ⟨_, rfl, (Pth.id (L := L_ref15_Marks)).set (Lay.mono _ ent (show (L_ref15_Marks).rep (Hs []) zc_ref15_Marks Z_ref15_Marks from zr_ref15_Marks)) (Lay.mono _ ent f0)⟩
    refine WL_x0 (RX_stN cs0 (Pth.id (L := L_ref15_Marks)) (v := a0) (r := (show (L_ref15_Marks).rep (Hs []) zc_ref15_Marks Z_ref15_Marks from zr_ref15_Marks)) (rv := ((Lay.mono _ ent f0) : (L_ref15_Marks).rep K cs0 a0)) rfl rfl rfl rfl hc30) (fun _ _ => ?_)
    refine WL_nil ?_
    refine WQ_then ?_
    refine WP_ret ?_
    replace h := Option.some.inj h
    subst h
    refine WQ_bundle (R := []) (H' := [.cells b6 100 c30]) (ks := [0]) rfl (by decide) ?_
    have p32 : (L_ref15_Marks).rep (fun w => K w ∧ (Hs [.ext (blks []) (Hs [])]) w) c30 a0 := Lay.mono _ ent f31
    exact WQ_ret (.agg c30.toArray, blks [], Hs []) rfl (.agg rfl inferInstance inferInstance (Lay.len _ f31) .nil) ⟨_, rfl, p32⟩ rfl (ks := [0]) rfl (by decide)
def ref15_without (n : Nat) (a0 : (List Int)) (a1 : Int) : Option (List Int) :=
  loop2 (fun k33 (x27 : (List Int)) (x30 : Int) =>
  cn (decide (x30 < (a0.length : Int))) (
  gu (inb x30 a0.length) <|
  cn (((a0.getD (Int.toNat x30) default) != a1)) (
  gu (inb x30 a0.length) <|
  gu (apok x27.length 1 8) <|
  lt (x27 ++ ([(a0.getD (Int.toNat x30) default)]) : List Int) fun x37 =>
  k33 x37 (wr .i64 (x30 + 1))) (
  k33 x27 (wr .i64 (x30 + 1)))) (
  some x27)) n ([]) 0
theorem c_ref15_without {n : Nat} {a0 : (List Int)} {a1 : Int} {r : (List Int)} {K : World → Prop} [Stable K] {v0 : Value} (f0 : Fz K v0 (LI .i64) a0) (h : ref15_without n a0 a1 = some r) : FnB Try.prog 106 [v0, .int .i64 a1] K (fun J v => Fz (fun w => K w ∧ J w) v (LI .i64) r) := by
  unfold ref15_without at h
  refine fn_of Try.func106 (by kernel_rfl) rfl Try.ntmps106 rfl (fun cx hbs hpre hro => ?_)
  haveI := kn_pre hbs hpre
  refine WP_seq ?_
  refine WP_region ?_
  refine WL_v rfl (VS_assign rfl) ?_
  refine WL_nil ?_
  refine WQ_then ?_
  refine WP_seq ?_
  refine WP_region ?_
  refine WL_v rfl (VS_assign rfl) ?_
  refine WL_nil ?_
  refine WQ_then ?_
  refine WP_seq ?_
  refine WP_seq ?_
  refine WP_region ?_
  refine WL_v rfl (VS_assign rfl) ?_
  refine WL_nil ?_
  refine WQ_then ?_
  refine WP_block ?_
  refine WP_rowN 3 1 (LI .i64) ?_
  obtain ⟨lb31, hlb31, h⟩ := lp2_i h
  refine WP_loops (α := Nat × (List Int) × Int × Value) [0, 1] (.cons rfl (.cons rfl (.nil))) (fun (m32, x27, x30, v28) => [(5, v28), (6, .int .i64 x30)]) (fun (m32, x27, x30, v28) => [Row v28 3 1 (LI .i64) x27]) (fun (m32, x27, x30, v28) => SlN v28 x27.length ∧ loop2 lb31 m32 x27 x30 = some r) (fun (m32, x27, x30, v28) => m32) (n, [], 0, .slice none 0 0) ⟨⟨_, _, rfl⟩, h⟩ (Sub_cons rfl (Sub_cons rfl (Sub_nil))) (ks := [0]) rfl (by decide) ?_
  rintro ⟨m32, x27, x30, v28⟩ ⟨hs29, h⟩
  replace h : loop2 lb31 m32 x27 x30 = some r := h
  replace h := lp2_s hlb31 h
  obtain ⟨m32, rfl, h⟩ := h
  refine WP_seq ?_
  refine WP_seq ?_
  refine WP_region ?_
  refine WL_v rfl (VS_move rfl) ?_
  refine WL_v rfl (VS_move rfl) ?_
  refine WL_v rfl (VS_lenF f0 rfl) ?_
  refine WL_v rfl (VS_lss rfl rfl) ?_
  refine WL_nil ?_
  refine WQ_then ?_
  refine WP_if rfl (fun hc => ?_) (fun hc => ?_)
  ·
    replace h := cn_t hc h
    refine WP_skip ?_
    refine WQ_then ?_
    refine WP_seq ?_
    refine WP_block ?_
    refine WP_seq ?_
    obtain ⟨hg34, h⟩ := gu_e h
    refine WP_region ?_
    refine WL_v rfl (VS_move rfl) ?_
    refine WL_v rfl (VS_move rfl) ?_
    refine WL_v rfl (VS_ixF (m := (Int.toNat x30)) f0 rfl rfl rfl (inb_e hg34).1 (inb_e hg34).2) ?_
    refine WL_v rfl (VS_ldiF f0 (Pth.idx (L := (LI .i64)) (m := (a0.length)) (k := 1) ((Int.toNat x30)) (inb_e hg34).2 rfl) rfl) ?_
    refine WL_v rfl (VS_move rfl) ?_
    refine WL_v rfl (VS_neq rfl rfl) ?_
    refine WL_nil ?_
    refine WQ_then ?_
    refine WP_if rfl (fun hc => ?_) (fun hc => ?_)
    ·
      replace h := cn_t hc h
      obtain ⟨hg35, h⟩ := gu_e h
      obtain ⟨hg36, h⟩ := gu_e h
      obtain ⟨x37, hx37, h⟩ := lt_e h
      refine WP_region ?_
      refine WL_v rfl (VS_move rfl) ?_
      refine WL_v rfl (VS_move rfl) ?_
      refine WL_v rfl (VS_move rfl) ?_
      refine WL_v rfl (VS_ixF (m := (Int.toNat x30)) f0 rfl rfl rfl (inb_e hg35).1 (inb_e hg35).2) ?_
      refine WL_v rfl (VS_ldiF f0 (Pth.idx (L := (LI .i64)) (m := (a0.length)) (k := 1) ((Int.toNat x30)) (inb_e hg35).2 rfl) rfl) ?_
      refine WL_x rfl (RX_bs1 (LI .i64) (a0.getD (Int.toNat x30) default) rfl rfl rfl rfl (by decide) (by decide)) (fun b24 _ => ?_)
      refine WL_x rfl (RX_app1 (L := (LI .i64)) (xs := x27) (y := (a0.getD (Int.toNat x30) default)) (bytes := 8) rfl rfl rfl (apok_e hg36).1 (apok_e hg36).2) (fun v38 hs39 => ?_)
      rw [← hx37] at hs39; rw [← hx37]
      refine WL_v rfl (VS_assign rfl) ?_
      refine WL_nil ?_
      refine WQ_block ?_
      refine WQ_then ?_
      refine WP_region ?_
      refine WL_v rfl (VS_move rfl) ?_
      refine WL_v rfl (VS_add rfl rfl rfl) ?_
      refine WL_v rfl (VS_assign rfl) ?_
      refine WL_nil ?_
      exact WQ_loops (m32, x37, wr .i64 (x30 + 1), v38) (Nat.lt_succ_self _) ⟨hs39, h⟩ (Sub_cons rfl (Sub_cons rfl (Sub_nil))) (.cons rfl (.cons rfl (.nil))) (ks := [1]) rfl (by decide)
    ·
      replace h := cn_f hc h
      refine WP_skip ?_
      refine WQ_block ?_
      refine WQ_then ?_
      refine WP_region ?_
      refine WL_v rfl (VS_move rfl) ?_
      refine WL_v rfl (VS_add rfl rfl rfl) ?_
      refine WL_v rfl (VS_assign rfl) ?_
      refine WL_nil ?_
      exact WQ_loops (m32, x27, wr .i64 (x30 + 1), v28) (Nat.lt_succ_self _) ⟨hs29, h⟩ (Sub_cons rfl (Sub_cons rfl (Sub_nil))) (.cons rfl (.cons rfl (.nil))) (ks := [0]) rfl (by decide)
  ·
    replace h := cn_f hc h
    refine WP_exit ?_
    refine WQ_then_exit ?_
    refine WQ_then_exit ?_
    refine WQ_block_exit ?_
    refine WQ_then ?_
    refine WP_seq ?_
    refine WP_region ?_
    refine WL_v rfl (VS_move rfl) ?_
    refine WL_v rfl (VS_assign rfl) ?_
    refine WL_nil ?_
    refine WQ_then ?_
    refine WP_ret ?_
    replace h := Option.some.inj h
    subst h
    refine WQ_bundle (R := [Row v28 3 1 (LI .i64) x27]) (H' := []) (ks := [0]) rfl (by decide) ?_
    have p40 : Fz (fun w => K w ∧ (Hs [.ext (blks [Row v28 3 1 (LI .i64) x27]) (Hs [Row v28 3 1 (LI .i64) x27])]) w) v28 (LI .i64) x27 := (Fz.row (e := 3) (sz := 1) (L := (LI .i64)) rfl hs29).mono ent
    exact WQ_ret (v28, blks [Row v28 3 1 (LI .i64) x27], Hs [Row v28 3 1 (LI .i64) x27]) rfl (.tmp rfl .nil) p40 rfl (ks := [0]) rfl (by decide)
def ref15_Marks_Gone (n : Nat) (a0 : ref15_Marks) (a1 : Int) : Option ref15_Marks :=
  loop2 (fun k36 (x30 : Int) (x31 : ref15_Marks) =>
  cl ((decide (x30 < 32)) == true) (ref15_may n 0 a1) default fun x37 =>
  cn ((decide (x30 < 32) && x37)) (
  bd (ref15_Marks_Free n x31 x30 a1) fun x38 =>
  gu (inb x30 32) <|
  bd (ref15_without n (x38.Wait (Int.toNat x30)) a1) fun x50 =>
  gu (inb x30 32) <|
  lt ({ x38 with Wait := (upd x38.Wait (Int.toNat x30) x50) } : ref15_Marks) fun x58 =>
  k36 (wr .i64 (x30 + 1)) x58) (
  some x31)) n 0 a0
theorem c_ref15_Marks_Gone {n : Nat} {a0 : ref15_Marks} {a1 : Int} {r : ref15_Marks} {K : World → Prop} [Stable K] {cs0 : List Value} (f0 : (L_ref15_Marks).rep K cs0 a0) (h : ref15_Marks_Gone n a0 a1 = some r) : FnB Try.prog 44 [.agg cs0.toArray, .int .i64 a1] K (fun J v => ∃ u0, v = .agg u0.toArray ∧ (L_ref15_Marks).rep (fun w => K w ∧ J w) u0 (r)) := by
  unfold ref15_Marks_Gone at h
  refine fn_of Try.func44 (by kernel_rfl) rfl Try.ntmps44 rfl (fun cx hbs hpre hro => ?_)
  haveI := kn_pre hbs hpre
  refine WP_seq ?_
  refine WP_region ?_
  refine WL_x rfl (RX_boxa rfl) (fun b2 _ => ?_)
  refine WL_x rfl (RX_alloc (hz := (⟨by kernel_rfl⟩ : TZero Try.prog 100 zc_ref15_Marks))) (fun b4 _ => ?_)
  refine WL_nil ?_
  refine WQ_then ?_
  refine WP_seq ?_
  refine WP_seq ?_
  refine WP_region ?_
  refine WL_v rfl (VS_assign rfl) ?_
  refine WL_nil ?_
  refine WQ_then ?_
  refine WP_block ?_
  obtain ⟨lb34, hlb34, h⟩ := lp2_i h
  refine WP_ext0 ?_
  refine WP_loops (α := Nat × Int × ref15_Marks × (List Value) × (List Nat) × (World → Prop)) [1, 2, 4] (.cons rfl (.cons rfl (.cons rfl (.nil)))) (fun (m35, x30, x31, c32, bs28, J29) => [(5, .int .i64 x30)]) (fun (m35, x30, x31, c32, bs28, J29) => [.ext bs28 J29, .cells b4 100 zc_ref15_Marks, .cells b2 100 c32]) (fun (m35, x30, x31, c32, bs28, J29) => (L_ref15_Marks).rep (fun w => K w ∧ Hs [.ext bs28 J29] w) c32 x31 ∧ loop2 lb34 m35 x30 x31 = some r) (fun (m35, x30, x31, c32, bs28, J29) => m35) (n, 0, a0, cs0, [], (Hs [])) ⟨(Lay.mono _ ent f0), h⟩ (Sub_cons rfl (Sub_nil)) (ks := [0, 1, 2]) rfl (by decide) ?_
  rintro ⟨m35, x30, x31, c32, bs28, J29⟩ ⟨f33, h⟩
  replace h : loop2 lb34 m35 x30 x31 = some r := h
  replace h := lp2_s hlb34 h
  obtain ⟨m35, rfl, h⟩ := h
  refine WP_seq ?_
  refine WP_seq ?_
  obtain ⟨x37, hx37, _, h⟩ := cl_e h
  refine WP_region ?_
  refine WL_v rfl (VS_move rfl) ?_
  refine WL_v rfl (VS_lss rfl rfl) ?_
  refine WL_v rfl (VS_move rfl) ?_
  refine WL_g (Gd_b rfl rfl) rfl (fun hb => VS_move rfl) ?_
  refine WL_g (Gd_b rfl rfl) rfl (fun hb => VS_call (c_ref15_may (hx37 hb)) (evs_cons rfl (evs_cons (gev rfl hb) rfl)) (fun _ _ _ => trivial)) ?_
  refine WL_v rfl (VS_and rfl rfl) ?_
  refine WL_nil ?_
  refine WQ_then ?_
  refine WP_if rfl (fun hc => ?_) (fun hc => ?_)
  ·
    replace h := cn_t hc h
    refine WP_skip ?_
    refine WQ_then ?_
    refine WP_seq ?_
    refine WP_block ?_
    refine WP_seq ?_
    obtain ⟨x38, hx38, h⟩ := bd_e h
    refine WP_region ?_
    refine WL_v rfl (VS_loadall rfl (Lay.len _ f33)) ?_
    refine WL_v rfl (VS_move rfl) ?_
    refine WL_v rfl (VS_move rfl) ?_
    refine WL_x rfl (RX_callB (c_ref15_Marks_Free (K := (fun w => K w ∧ Hs [.ext bs28 J29] w)) (Lay.mono _ ent f33) hx38) rfl) (fun ⟨w39, bs40, J41⟩ hp42 => ?_)
    obtain ⟨c44, rfl, f43⟩ := hp42
    replace f43 : L_ref15_Marks.rep (fun w => (fun w => K w ∧ Hs [.ext bs28 J29] w) w ∧ Hs [.ext bs40 J41] w) c44 x38 := f43
    obtain ⟨c45, hc45, f46⟩ : ∃ cc, splice c32 0 c44 = cc ∧ (L_ref15_Marks).rep (fun w => K w ∧ Hs [.ext bs28 J29, .ext bs40 J41] w) cc x38 := ⟨_, rfl, (Pth.id (L := L_ref15_Marks)).set (Lay.mono _ ent f33) (Lay.mono _ ent f43)⟩
    refine WL_x0 (RX_stN c44 (Pth.id (L := L_ref15_Marks)) (v := x38) (r := f33) (rv := ((Lay.mono _ ent f43) : (L_ref15_Marks).rep (fun w => K w ∧ Hs [.ext bs28 J29, .ext bs40 J41] w) c44 x38)) rfl rfl rfl rfl hc45) (fun _ _ => ?_)
    refine WL_nil ?_
    refine WQ_then ?_
    obtain ⟨hg47, h⟩ := gu_e h
    obtain ⟨x50, hx50, h⟩ := bd_e h
    obtain ⟨hg57, h⟩ := gu_e h
    obtain ⟨x58, hx58, h⟩ := lt_e h
    refine WP_region ?_
    refine WL_v rfl (VS_move rfl) ?_
    refine WL_v rfl (VS_move rfl) ?_
    refine WL_v rfl (VS_field0 rfl) ?_
    refine WL_v rfl (VS_index (m := (Int.toNat x30)) rfl rfl (inb_e hg47).1 (inb_e hg47).2) ?_
    obtain ⟨v48, hv48, f49⟩ := (P_ref15_Marks_Wait.comp (Pth.idx (L := (LSl (LI .i64))) (m := 32) (k := 1) ((Int.toNat x30)) (inb_e hg47).2 rfl)).sl f46
    refine WL_v rfl (VS_load rfl hv48) ?_
    refine WL_v rfl (VS_move rfl) ?_
    refine WL_x rfl (RX_callB (c_ref15_without (K := (fun w => K w ∧ Hs [.ext bs28 J29, .ext bs40 J41] w)) (f49.mono ent) hx50) rfl) (fun ⟨w51, bs52, J53⟩ hp54 => ?_)
    have f55 : Fz (fun w => (fun w => K w ∧ Hs [.ext bs28 J29, .ext bs40 J41] w) w ∧ Hs [.ext bs52 J53] w) w51 (LI .i64) x50 := hp54
    refine WL_v rfl (VS_field0 rfl) ?_
    refine WL_v rfl (VS_index (m := (Int.toNat x30)) rfl rfl (inb_e hg57).1 (inb_e hg57).2) ?_
    obtain ⟨c59, hc59, f60⟩ : ∃ cc, splice c45 (32 + (Int.toNat x30) * 1) [w51] = cc ∧ (L_ref15_Marks).rep (fun w => K w ∧ Hs [.ext bs28 J29, .ext bs40 J41, .ext bs52 J53] w) cc x58 := ⟨_, rfl, by rw [hx58]; exact (P_ref15_Marks_Wait.comp (Pth.idx (L := (LSl (LI .i64))) (m := 32) (k := 1) ((Int.toNat x30)) (inb_e hg57).2 rfl)).set (Lay.mono _ ent f46) ⟨_, rfl, f55.mono ent⟩⟩
    refine WL_x0 (RX_stN ([w51]) (P_ref15_Marks_Wait.comp (Pth.idx (L := (LSl (LI .i64))) (m := 32) (k := 1) ((Int.toNat x30)) (inb_e hg57).2 rfl)) (v := x50) (r := f46) (rv := (⟨_, rfl, f55.mono ent⟩ : ((LSl (LI .i64))).rep (fun w => K w ∧ Hs [.ext bs28 J29, .ext bs40 J41, .ext bs52 J53] w) [w51] x50)) rfl rfl f55.sl.cells rfl hc59) (fun _ _ => ?_)
    refine WL_nil ?_
    refine WQ_block ?_
    refine WQ_then ?_
    refine WP_region ?_
    refine WL_v rfl (VS_move rfl) ?_
    refine WL_v rfl (VS_add rfl rfl rfl) ?_
    refine WL_v rfl (VS_assign rfl) ?_
    refine WL_nil ?_
    refine WQ_bundle (R := [.ext bs52 J53, .ext bs40 J41, .ext bs28 J29]) (H' := [.cells b4 100 zc_ref15_Marks, .cells b2 100 c59]) (ks := [0, 1, 2, 3, 4]) rfl (by decide) ?_
    exact WQ_loops (m35, wr .i64 (x30 + 1), x58, c59, (blks [.ext bs52 J53, .ext bs40 J41, .ext bs28 J29]), (Hs [.ext bs52 J53, .ext bs40 J41, .ext bs28 J29])) (Nat.lt_succ_self _) ⟨(Lay.mono _ ent f60), h⟩ (Sub_cons rfl (Sub_nil)) (.cons rfl (.cons rfl (.cons rfl (.nil)))) (ks := [0, 1, 2]) rfl (by decide)
  ·
    replace h := cn_f hc h
    refine WP_exit ?_
    refine WQ_then_exit ?_
    refine WQ_then_exit ?_
    refine WQ_block_exit ?_
    refine WQ_then ?_
    refine WP_seq ?_
    refine WP_region ?_
    refine WL_v rfl (VS_loadall rfl (Lay.len _ f33)) ?_
    obtain ⟨c61, hc61, f62⟩ : ∃ cc, splice zc_ref15_Marks 0 c32 = cc ∧ (L_ref15_Marks).rep (fun w => K w ∧ Hs [.ext bs28 J29] w) cc x31 := ⟨_, rfl, (Pth.id (L := L_ref15_Marks)).set (Lay.mono _ ent (show (L_ref15_Marks).rep (Hs []) zc_ref15_Marks Z_ref15_Marks from zr_ref15_Marks)) (Lay.mono _ ent f33)⟩
    refine WL_x0 (RX_stN c32 (Pth.id (L := L_ref15_Marks)) (v := x31) (r := (show (L_ref15_Marks).rep (Hs []) zc_ref15_Marks Z_ref15_Marks from zr_ref15_Marks)) (rv := ((Lay.mono _ ent f33) : (L_ref15_Marks).rep (fun w => K w ∧ Hs [.ext bs28 J29] w) c32 x31)) rfl rfl rfl rfl hc61) (fun _ _ => ?_)
    refine WL_nil ?_
    refine WQ_then ?_
    refine WP_ret ?_
    replace h := Option.some.inj h
    subst h
    refine WQ_bundle (R := [.ext bs28 J29]) (H' := [.cells b4 100 c61]) (ks := [0, 1]) rfl (by decide) ?_
    have p63 : (L_ref15_Marks).rep (fun w => K w ∧ (Hs [.ext (blks [.ext bs28 J29]) (Hs [.ext bs28 J29])]) w) c61 x31 := Lay.mono _ ent f62
    exact WQ_ret (.agg c61.toArray, blks [.ext bs28 J29], Hs [.ext bs28 J29]) rfl (.agg rfl inferInstance inferInstance (Lay.len _ f62) .nil) ⟨_, rfl, p63⟩ rfl (ks := [0]) rfl (by decide)
def ref15_Marks_Try (n : Nat) (a0 : ref15_Marks) (a1 : Int) (a2 : Int) : Option (ref15_Marks × Bool) :=
  bd (ref15_may n a1 a2) fun x21 =>
  cn ((!x21)) (
  some (a0, false)) (
  gu (inb a1 32) <|
  gu (inb a1 32) <|
  cn (((a0.Has (Int.toNat a1)) == a2)) (
  some (a0, true)) (
  gu (inb a1 32) <|
  gu (!(((decide ((a0.Has (Int.toNat a1)) < 0)) == true) && ((((a0.Wait (Int.toNat a1)).length : Int) == 0) == false)) || inb 0 (a0.Wait (Int.toNat a1)).length) <|
  cn ((decide ((a0.Has (Int.toNat a1)) < 0) && ((((a0.Wait (Int.toNat a1)).length : Int) == 0) || (((a0.Wait (Int.toNat a1)).getD (Int.toNat 0) default) == a2)))) (
  gu (inb a1 32) <|
  lt ({ a0 with Has := (upd a0.Has (Int.toNat a1) a2) } : ref15_Marks) fun x35 =>
  bd (ref15_without n (a0.Wait (Int.toNat a1)) a2) fun x38 =>
  gu (inb a1 32) <|
  lt ({ x35 with Wait := (upd x35.Wait (Int.toNat a1) x38) } : ref15_Marks) fun x46 =>
  some (x46, true)) (
  bd (ref15_without n (a0.Wait (Int.toNat a1)) a2) fun x52 =>
  cn (((x52.length : Int) == ((a0.Wait (Int.toNat a1)).length : Int))) (
  gu (apok ([] : List Int).length (a0.Wait (Int.toNat a1)).length 8) <|
  lt (([] : List Int) ++ (a0.Wait (Int.toNat a1)) : List Int) fun x61 =>
  gu (apok x61.length 1 8) <|
  lt (x61 ++ ([a2]) : List Int) fun x65 =>
  gu (inb a1 32) <|
  lt ({ a0 with Wait := (upd a0.Wait (Int.toNat a1) x65) } : ref15_Marks) fun x69 =>
  some (x69, false)) (
  some (a0, false)))))
theorem c_ref15_Marks_Try {n : Nat} {a0 : ref15_Marks} {a1 : Int} {a2 : Int} {r : ref15_Marks × Bool} {K : World → Prop} [Stable K] {cs0 : List Value} (f0 : (L_ref15_Marks).rep K cs0 a0) (h : ref15_Marks_Try n a0 a1 a2 = some r) : FnB Try.prog 46 [.agg cs0.toArray, .int .i64 a1, .int .i64 a2] K (fun J v => ∃ u0, v = .tuple #[.agg u0.toArray, .bool r.2] ∧ (L_ref15_Marks).rep (fun w => K w ∧ J w) u0 (r.1)) := by
  unfold ref15_Marks_Try at h
  refine fn_of Try.func46 (by kernel_rfl) rfl Try.ntmps46 rfl (fun cx hbs hpre hro => ?_)
  haveI := kn_pre hbs hpre
  refine WP_seq ?_
  refine WP_region ?_
  refine WL_x rfl (RX_boxa rfl) (fun b3 _ => ?_)
  refine WL_x rfl (RX_alloc (hz := (⟨by kernel_rfl⟩ : TZero Try.prog 100 zc_ref15_Marks))) (fun b6 _ => ?_)
  refine WL_v rfl (VS_assign rfl) ?_
  refine WL_nil ?_
  refine WQ_then ?_
  refine WP_seq ?_
  refine WP_seq ?_
  obtain ⟨x21, hx21, h⟩ := bd_e h
  refine WP_region ?_
  refine WL_v rfl (VS_move rfl) ?_
  refine WL_v rfl (VS_move rfl) ?_
  refine WL_v rfl (VS_call (c_ref15_may hx21) rfl (fun _ _ _ => trivial)) ?_
  refine WL_v rfl (VS_not rfl) ?_
  refine WL_nil ?_
  refine WQ_then ?_
  refine WP_if rfl (fun hc => ?_) (fun hc => ?_)
  ·
    replace h := cn_t hc h
    refine WP_seq ?_
    refine WP_region ?_
    refine WL_v rfl (VS_loadall rfl (Lay.len _ f0)) ?_
    obtain ⟨c22, hc22, f23⟩ : ∃ cc, splice zc_ref15_Marks 0 cs0 = cc ∧ (L_ref15_Marks).rep K cc a0 := ⟨_, rfl, (Pth.id (L := L_ref15_Marks)).set (Lay.mono _ ent (show (L_ref15_Marks).rep (Hs []) zc_ref15_Marks Z_ref15_Marks from zr_ref15_Marks)) (Lay.mono _ ent f0)⟩
    refine WL_x0 (RX_stN cs0 (Pth.id (L := L_ref15_Marks)) (v := a0) (r := (show (L_ref15_Marks).rep (Hs []) zc_ref15_Marks Z_ref15_Marks from zr_ref15_Marks)) (rv := ((Lay.mono _ ent f0) : (L_ref15_Marks).rep K cs0 a0)) rfl rfl rfl rfl hc22) (fun _ _ => ?_)
    refine WL_v rfl (VS_assign rfl) ?_
    refine WL_nil ?_
    refine WQ_then ?_
    refine WP_ret ?_
    refine WQ_then_ret ?_
    replace h := Option.some.inj h
    subst h
    refine WQ_bundle (R := []) (H' := [.cells b6 100 c22]) (ks := [0]) rfl (by decide) ?_
    have p24 : (L_ref15_Marks).rep (fun w => K w ∧ (Hs [.ext (blks []) (Hs [])]) w) c22 a0 := Lay.mono _ ent f23
    exact WQ_ret (.tuple #[.agg c22.toArray, .bool false], blks [], Hs []) rfl (.agg rfl inferInstance inferInstance (Lay.len _ f23) (.tmp rfl .nil)) ⟨_, rfl, p24⟩ rfl (ks := [0]) rfl (by decide)
  ·
    replace h := cn_f hc h
    refine WP_skip ?_
    refine WQ_then ?_
    refine WP_seq ?_
    obtain ⟨hg25, h⟩ := gu_e h
    refine WP_region ?_
    refine WL_v rfl (VS_move rfl) ?_
    refine WL_v rfl (VS_field0 rfl) ?_
    refine WL_v rfl (VS_index (m := (Int.toNat a1)) rfl rfl (inb_e hg25).1 (inb_e hg25).2) ?_
    obtain ⟨v26, hv26, f27⟩ := (P_ref15_Marks_Wait.comp (Pth.idx (L := (LSl (LI .i64))) (m := 32) (k := 1) ((Int.toNat a1)) (inb_e hg25).2 rfl)).sl f0
    refine WL_v rfl (VS_load rfl hv26) ?_
    refine WL_v rfl (VS_assign rfl) ?_
    refine WL_nil ?_
    refine WQ_then ?_
    refine WP_seq ?_
    refine WP_seq ?_
    obtain ⟨hg28, h⟩ := gu_e h
    refine WP_region ?_
    refine WL_v rfl (VS_move rfl) ?_
    refine WL_v rfl (VS_field0 rfl) ?_
    refine WL_v rfl (VS_index0 (m := (Int.toNat a1)) rfl rfl (inb_e hg28).1 (inb_e hg28).2) ?_
    refine WL_v rfl (VS_load rfl ((P_ref15_Marks_Has.c0 (Pth.idx (L := (LI .i64)) (m := 32) (k := 1) ((Int.toNat a1)) (inb_e hg28).2 rfl)).int f0)) ?_
    refine WL_v rfl (VS_move rfl) ?_
    refine WL_v rfl (VS_eql rfl rfl) ?_
    refine WL_nil ?_
    refine WQ_then ?_
    refine WP_if rfl (fun hc => ?_) (fun hc => ?_)
    ·
      replace h := cn_t hc h
      refine WP_seq ?_
      refine WP_region ?_
      refine WL_v rfl (VS_loadall rfl (Lay.len _ f0)) ?_
      obtain ⟨c29, hc29, f30⟩ : ∃ cc, splice zc_ref15_Marks 0 cs0 = cc ∧ (L_ref15_Marks).rep K cc a0 := ⟨_, rfl, (Pth.id (L := L_ref15_Marks)).set (Lay.mono _ ent (show (L_ref15_Marks).rep (Hs []) zc_ref15_Marks Z_ref15_Marks from zr_ref15_Marks)) (Lay.mono _ ent f0)⟩
      refine WL_x0 (RX_stN cs0 (Pth.id (L := L_ref15_Marks)) (v := a0) (r := (show (L_ref15_Marks).rep (Hs []) zc_ref15_Marks Z_ref15_Marks from zr_ref15_Marks)) (rv := ((Lay.mono _ ent f0) : (L_ref15_Marks).rep K cs0 a0)) rfl rfl rfl rfl hc29) (fun _ _ => ?_)
      refine WL_v rfl (VS_assign rfl) ?_
      refine WL_nil ?_
      refine WQ_then ?_
      refine WP_ret ?_
      refine WQ_then_ret ?_
      replace h := Option.some.inj h
      subst h
      refine WQ_bundle (R := []) (H' := [.cells b6 100 c29]) (ks := [0]) rfl (by decide) ?_
      have p31 : (L_ref15_Marks).rep (fun w => K w ∧ (Hs [.ext (blks []) (Hs [])]) w) c29 a0 := Lay.mono _ ent f30
      exact WQ_ret (.tuple #[.agg c29.toArray, .bool true], blks [], Hs []) rfl (.agg rfl inferInstance inferInstance (Lay.len _ f30) (.tmp rfl .nil)) ⟨_, rfl, p31⟩ rfl (ks := [0]) rfl (by decide)
    ·
      replace h := cn_f hc h
      refine WP_skip ?_
      refine WQ_then ?_
      refine WP_seq ?_
      refine WP_seq ?_
      obtain ⟨hg32, h⟩ := gu_e h
      obtain ⟨hg33, h⟩ := gu_e h
      refine WP_region ?_
      refine WL_v rfl (VS_move rfl) ?_
      refine WL_v rfl (VS_field0 rfl) ?_
      refine WL_v rfl (VS_index0 (m := (Int.toNat a1)) rfl rfl (inb_e hg32).1 (inb_e hg32).2) ?_
      refine WL_v rfl (VS_load rfl ((P_ref15_Marks_Has.c0 (Pth.idx (L := (LI .i64)) (m := 32) (k := 1) ((Int.toNat a1)) (inb_e hg32).2 rfl)).int f0)) ?_
      refine WL_v rfl (VS_lss rfl rfl) ?_
      refine WL_v rfl (VS_move rfl) ?_
      refine WL_g (Gd_b rfl rfl) rfl (fun hb => VS_move rfl) ?_
      refine WL_g (Gd_b rfl rfl) rfl (fun hb => VS_lenF f27 (gev rfl hb)) ?_
      refine WL_g (Gd_b rfl rfl) rfl (fun hb => VS_eql (gev rfl hb) rfl) ?_
      refine WL_g (Gd_b rfl rfl) rfl (fun hb => VS_move (gev rfl hb)) ?_
      refine WL_g (Gd_g rfl rfl) rfl (fun hb => VS_move rfl) ?_
      refine WL_g (Gd_g rfl rfl) rfl (fun hb => VS_ixF (m := (Int.toNat 0)) f27 rfl (gev rfl hb) rfl (inb_e (imp_b hg33 hb)).1 (inb_e (imp_b hg33 hb)).2) ?_
      refine WL_g (Gd_g rfl rfl) rfl (fun hb => VS_ldiF f27 (Pth.idx (L := (LI .i64)) (m := ((a0.Wait (Int.toNat a1)).length)) (k := 1) ((Int.toNat 0)) (inb_e (imp_b hg33 hb)).2 rfl) (gev rfl hb)) ?_
      refine WL_g (Gd_g rfl rfl) rfl (fun hb => VS_move rfl) ?_
      refine WL_g (Gd_g rfl rfl) rfl (fun hb => VS_eql (gev rfl hb) (gev rfl hb)) ?_
      refine WL_g (Gd_b rfl rfl) rfl (fun hb => VS_or (gev rfl hb) (gev2 rfl hb)) ?_
      refine WL_v rfl (VS_and rfl rfl) ?_
      refine WL_nil ?_
      refine WQ_then ?_
      refine WP_if rfl (fun hc => ?_) (fun hc => ?_)
      ·
        replace h := cn_t hc h
        refine WP_seq ?_
        obtain ⟨hg34, h⟩ := gu_e h
        obtain ⟨x35, hx35, h⟩ := lt_e h
        refine WP_region ?_
        refine WL_v rfl (VS_move rfl) ?_
        refine WL_v rfl (VS_move rfl) ?_
        refine WL_v rfl (VS_field0 rfl) ?_
        refine WL_v rfl (VS_index0 (m := (Int.toNat a1)) rfl rfl (inb_e hg34).1 (inb_e hg34).2) ?_
        obtain ⟨c36, hc36, f37⟩ : ∃ cc, splice cs0 ((Int.toNat a1) * 1) ((LI .i64).enc a2) = cc ∧ (L_ref15_Marks).rep K cc x35 := ⟨_, rfl, by rw [hx35]; exact (P_ref15_Marks_Has.c0 (Pth.idx (L := (LI .i64)) (m := 32) (k := 1) ((Int.toNat a1)) (inb_e hg34).2 rfl)).set (Lay.mono _ ent f0) (FlatL.iff.2 rfl)⟩
        refine WL_x0 (RX_stN ((LI .i64).enc a2) (P_ref15_Marks_Has.c0 (Pth.idx (L := (LI .i64)) (m := 32) (k := 1) ((Int.toNat a1)) (inb_e hg34).2 rfl)) (v := a2) (r := f0) (rv := ((FlatL.iff.2 rfl) : ((LI .i64)).rep K ((LI .i64).enc a2) a2)) rfl rfl rfl rfl hc36) (fun _ _ => ?_)
        refine WL_nil ?_
        refine WQ_then ?_
        refine WP_seq ?_
        obtain ⟨x38, hx38, h⟩ := bd_e h
        obtain ⟨hg45, h⟩ := gu_e h
        obtain ⟨x46, hx46, h⟩ := lt_e h
        refine WP_region ?_
        refine WL_v rfl (VS_move rfl) ?_
        refine WL_v rfl (VS_move rfl) ?_
        refine WL_v rfl (VS_move rfl) ?_
        refine WL_x rfl (RX_callB (c_ref15_without (K := K) (f27.mono ent) hx38) rfl) (fun ⟨w39, bs40, J41⟩ hp42 => ?_)
        have f43 : Fz (fun w => K w ∧ Hs [.ext bs40 J41] w) w39 (LI .i64) x38 := hp42
        refine WL_v rfl (VS_field0 rfl) ?_
        refine WL_v rfl (VS_index (m := (Int.toNat a1)) rfl rfl (inb_e hg45).1 (inb_e hg45).2) ?_
        obtain ⟨c47, hc47, f48⟩ : ∃ cc, splice c36 (32 + (Int.toNat a1) * 1) [w39] = cc ∧ (L_ref15_Marks).rep (fun w => K w ∧ Hs [.ext bs40 J41] w) cc x46 := ⟨_, rfl, by rw [hx46]; exact (P_ref15_Marks_Wait.comp (Pth.idx (L := (LSl (LI .i64))) (m := 32) (k := 1) ((Int.toNat a1)) (inb_e hg45).2 rfl)).set (Lay.mono _ ent f37) ⟨_, rfl, f43.mono ent⟩⟩
        refine WL_x0 (RX_stN ([w39]) (P_ref15_Marks_Wait.comp (Pth.idx (L := (LSl (LI .i64))) (m := 32) (k := 1) ((Int.toNat a1)) (inb_e hg45).2 rfl)) (v := x38) (r := f37) (rv := (⟨_, rfl, f43.mono ent⟩ : ((LSl (LI .i64))).rep (fun w => K w ∧ Hs [.ext bs40 J41] w) [w39] x38)) rfl rfl f43.sl.cells rfl hc47) (fun _ _ => ?_)
        refine WL_nil ?_
        refine WQ_then ?_
        refine WP_seq ?_
        refine WP_region ?_
        refine WL_v rfl (VS_loadall rfl (Lay.len _ f48)) ?_
        obtain ⟨c49, hc49, f50⟩ : ∃ cc, splice zc_ref15_Marks 0 c47 = cc ∧ (L_ref15_Marks).rep (fun w => K w ∧ Hs [.ext bs40 J41] w) cc x46 := ⟨_, rfl, (Pth.id (L := L_ref15_Marks)).set (Lay.mono _ ent (show (L_ref15_Marks).rep (Hs []) zc_ref15_Marks Z_ref15_Marks from zr_ref15_Marks)) (Lay.mono _ ent f48)⟩
        refine WL_x0 (RX_stN c47 (Pth.id (L := L_ref15_Marks)) (v := x46) (r := (show (L_ref15_Marks).rep (Hs []) zc_ref15_Marks Z_ref15_Marks from zr_ref15_Marks)) (rv := ((Lay.mono _ ent f48) : (L_ref15_Marks).rep (fun w => K w ∧ Hs [.ext bs40 J41] w) c47 x46)) rfl rfl rfl rfl hc49) (fun _ _ => ?_)
        refine WL_v rfl (VS_assign rfl) ?_
        refine WL_nil ?_
        refine WQ_then ?_
        refine WP_ret ?_
        refine WQ_then_ret ?_
        replace h := Option.some.inj h
        subst h
        refine WQ_bundle (R := [.ext bs40 J41]) (H' := [.cells b6 100 c49]) (ks := [0, 1]) rfl (by decide) ?_
        have p51 : (L_ref15_Marks).rep (fun w => K w ∧ (Hs [.ext (blks [.ext bs40 J41]) (Hs [.ext bs40 J41])]) w) c49 x46 := Lay.mono _ ent f50
        exact WQ_ret (.tuple #[.agg c49.toArray, .bool true], blks [.ext bs40 J41], Hs [.ext bs40 J41]) rfl (.agg rfl inferInstance inferInstance (Lay.len _ f50) (.tmp rfl .nil)) ⟨_, rfl, p51⟩ rfl (ks := [0]) rfl (by decide)
      ·
        replace h := cn_f hc h
        refine WP_skip ?_
        refine WQ_then ?_
        refine WP_seq ?_
        refine WP_seq ?_
        obtain ⟨x52, hx52, h⟩ := bd_e h
        refine WP_region ?_
        refine WL_v rfl (VS_move rfl) ?_
        refine WL_v rfl (VS_move rfl) ?_
        refine WL_x rfl (RX_callB (c_ref15_without (K := K) (f27.mono ent) hx52) rfl) (fun ⟨w53, bs54, J55⟩ hp56 => ?_)
        have f57 : Fz (fun w => K w ∧ Hs [.ext bs54 J55] w) w53 (LI .i64) x52 := hp56
        refine WL_v rfl (VS_lenF f57 rfl) ?_
        refine WL_v rfl (VS_move rfl) ?_
        refine WL_v rfl (VS_lenF f27 rfl) ?_
        refine WL_v rfl (VS_eql rfl rfl) ?_
        refine WL_nil ?_
        refine WQ_then ?_
        refine WP_if rfl (fun hc => ?_) (fun hc => ?_)
        ·
          replace h := cn_t hc h
          obtain ⟨hg60, h⟩ := gu_e h
          obtain ⟨x61, hx61, h⟩ := lt_e h
          obtain ⟨hg64, h⟩ := gu_e h
          obtain ⟨x65, hx65, h⟩ := lt_e h
          obtain ⟨hg68, h⟩ := gu_e h
          obtain ⟨x69, hx69, h⟩ := lt_e h
          refine WP_region ?_
          refine WL_v rfl (VS_move rfl) ?_
          refine WL_v rfl (VS_move rfl) ?_
          refine WL_rowN 3 1 (LI .i64) ?_
          refine WL_x rfl (RX_apps (L := (LI .i64)) (xs := ([] : List Int)) (ys := (a0.Wait (Int.toNat a1))) (bytes := 8) f27 rfl rfl rfl (apok_e hg60).1 (apok_e hg60).2) (fun v62 hs63 => ?_)
          rw [← hx61] at hs63; rw [← hx61]
          refine WL_v rfl (VS_move rfl) ?_
          refine WL_x rfl (RX_bs1 (LI .i64) a2 rfl rfl rfl rfl (by decide) (by decide)) (fun b64 _ => ?_)
          refine WL_x rfl (RX_app1 (L := (LI .i64)) (xs := x61) (y := a2) (bytes := 8) rfl rfl rfl (apok_e hg64).1 (apok_e hg64).2) (fun v66 hs67 => ?_)
          rw [← hx65] at hs67; rw [← hx65]
          refine WL_v rfl (VS_field0 rfl) ?_
          refine WL_v rfl (VS_index (m := (Int.toNat a1)) rfl rfl (inb_e hg68).1 (inb_e hg68).2) ?_
          obtain ⟨c70, hc70, f71⟩ : ∃ cc, splice cs0 (32 + (Int.toNat a1) * 1) [v66] = cc ∧ (L_ref15_Marks).rep (fun w => K w ∧ Hs [Row v66 3 1 (LI .i64) x65] w) cc x69 := ⟨_, rfl, by rw [hx69]; exact (P_ref15_Marks_Wait.comp (Pth.idx (L := (LSl (LI .i64))) (m := 32) (k := 1) ((Int.toNat a1)) (inb_e hg68).2 rfl)).set (Lay.mono _ ent f0) ⟨_, rfl, (Fz.row (e := 3) (sz := 1) (L := (LI .i64)) rfl hs67).mono ent⟩⟩
          refine WL_x0 (RX_stN ([v66]) (P_ref15_Marks_Wait.comp (Pth.idx (L := (LSl (LI .i64))) (m := 32) (k := 1) ((Int.toNat a1)) (inb_e hg68).2 rfl)) (v := x65) (r := f0) (rv := (⟨_, rfl, (Fz.row (e := 3) (sz := 1) (L := (LI .i64)) rfl hs67).mono ent⟩ : ((LSl (LI .i64))).rep (fun w => K w ∧ Hs [Row v66 3 1 (LI .i64) x65] w) [v66] x65)) rfl rfl (Fz.row (e := 3) (sz := 1) (L := (LI .i64)) rfl hs67).sl.cells rfl hc70) (fun _ _ => ?_)
          refine WL_nil ?_
          refine WQ_then ?_
          refine WP_seq ?_
          refine WP_region ?_
          refine WL_v rfl (VS_loadall rfl (Lay.len _ f71)) ?_
          obtain ⟨c72, hc72, f73⟩ : ∃ cc, splice zc_ref15_Marks 0 c70 = cc ∧ (L_ref15_Marks).rep (fun w => K w ∧ Hs [Row v66 3 1 (LI .i64) x65] w) cc x69 := ⟨_, rfl, (Pth.id (L := L_ref15_Marks)).set (Lay.mono _ ent (show (L_ref15_Marks).rep (Hs []) zc_ref15_Marks Z_ref15_Marks from zr_ref15_Marks)) (Lay.mono _ ent f71)⟩
          refine WL_x0 (RX_stN c70 (Pth.id (L := L_ref15_Marks)) (v := x69) (r := (show (L_ref15_Marks).rep (Hs []) zc_ref15_Marks Z_ref15_Marks from zr_ref15_Marks)) (rv := ((Lay.mono _ ent f71) : (L_ref15_Marks).rep (fun w => K w ∧ Hs [Row v66 3 1 (LI .i64) x65] w) c70 x69)) rfl rfl rfl rfl hc72) (fun _ _ => ?_)
          refine WL_v rfl (VS_assign rfl) ?_
          refine WL_nil ?_
          refine WQ_then ?_
          refine WP_ret ?_
          replace h := Option.some.inj h
          subst h
          refine WQ_bundle (R := [Row v66 3 1 (LI .i64) x65]) (H' := [.cells b6 100 c72]) (ks := [1, 3]) rfl (by decide) ?_
          have p74 : (L_ref15_Marks).rep (fun w => K w ∧ (Hs [.ext (blks [Row v66 3 1 (LI .i64) x65]) (Hs [Row v66 3 1 (LI .i64) x65])]) w) c72 x69 := Lay.mono _ ent f73
          exact WQ_ret (.tuple #[.agg c72.toArray, .bool false], blks [Row v66 3 1 (LI .i64) x65], Hs [Row v66 3 1 (LI .i64) x65]) rfl (.agg rfl inferInstance inferInstance (Lay.len _ f73) (.tmp rfl .nil)) ⟨_, rfl, p74⟩ rfl (ks := [0]) rfl (by decide)
        ·
          replace h := cn_f hc h
          refine WP_skip ?_
          refine WQ_then ?_
          refine WP_seq ?_
          refine WP_region ?_
          refine WL_v rfl (VS_loadall rfl (Lay.len _ f0)) ?_
          obtain ⟨c75, hc75, f76⟩ : ∃ cc, splice zc_ref15_Marks 0 cs0 = cc ∧ (L_ref15_Marks).rep K cc a0 := ⟨_, rfl, (Pth.id (L := L_ref15_Marks)).set (Lay.mono _ ent (show (L_ref15_Marks).rep (Hs []) zc_ref15_Marks Z_ref15_Marks from zr_ref15_Marks)) (Lay.mono _ ent f0)⟩
          refine WL_x0 (RX_stN cs0 (Pth.id (L := L_ref15_Marks)) (v := a0) (r := (show (L_ref15_Marks).rep (Hs []) zc_ref15_Marks Z_ref15_Marks from zr_ref15_Marks)) (rv := ((Lay.mono _ ent f0) : (L_ref15_Marks).rep K cs0 a0)) rfl rfl rfl rfl hc75) (fun _ _ => ?_)
          refine WL_v rfl (VS_assign rfl) ?_
          refine WL_nil ?_
          refine WQ_then ?_
          refine WP_ret ?_
          replace h := Option.some.inj h
          subst h
          refine WQ_bundle (R := []) (H' := [.cells b6 100 c75]) (ks := [1]) rfl (by decide) ?_
          have p77 : (L_ref15_Marks).rep (fun w => K w ∧ (Hs [.ext (blks []) (Hs [])]) w) c75 a0 := Lay.mono _ ent f76
          exact WQ_ret (.tuple #[.agg c75.toArray, .bool false], blks [], Hs []) rfl (.agg rfl inferInstance inferInstance (Lay.len _ f76) (.tmp rfl .nil)) ⟨_, rfl, p77⟩ rfl (ks := [0]) rfl (by decide)
def mark_may (n : Nat) (a0 : Int) (a1 : Int) : Option Bool :=
  some (((decide (0 ≤ a0) && decide (a0 < 32)) && decide (0 ≤ a1)) && decide (a1 < 8))
theorem c_mark_may {n : Nat} {a0 : Int} {a1 : Int} {r : Bool}  (h : mark_may n a0 a1 = some r) : FnV Try.prog 103 [.int .i64 a0, .int .i64 a1] (.bool r) := by
  unfold mark_may at h
  refine fn_of Try.func103 (by kernel_rfl) rfl Try.ntmps103 rfl (fun cx hbs hpre hro => ?_)
  refine WP_seq ?_
  refine WP_region ?_
  refine WL_v rfl (VS_assign rfl) ?_
  refine WL_nil ?_
  refine WQ_then ?_
  refine WP_seq ?_
  refine WP_region ?_
  refine WL_v rfl (VS_move rfl) ?_
  refine WL_v rfl (VS_geq rfl rfl) ?_
  refine WL_v rfl (VS_move rfl) ?_
  refine WL_g (Gd_b rfl rfl) rfl (fun hb => VS_move rfl) ?_
  refine WL_g (Gd_b rfl rfl) rfl (fun hb => VS_lss (gev rfl hb) rfl) ?_
  refine WL_v rfl (VS_and rfl rfl) ?_
  refine WL_v rfl (VS_move rfl) ?_
  refine WL_g (Gd_b rfl rfl) rfl (fun hb => VS_move rfl) ?_
  refine WL_g (Gd_b rfl rfl) rfl (fun hb => VS_geq (gev rfl hb) rfl) ?_
  refine WL_v rfl (VS_and rfl rfl) ?_
  refine WL_v rfl (VS_move rfl) ?_
  refine WL_g (Gd_b rfl rfl) rfl (fun hb => VS_move rfl) ?_
  refine WL_g (Gd_b rfl rfl) rfl (fun hb => VS_lss (gev rfl hb) rfl) ?_
  refine WL_v rfl (VS_and rfl rfl) ?_
  refine WL_v rfl (VS_assign rfl) ?_
  refine WL_nil ?_
  refine WQ_then ?_
  refine WP_ret ?_
  replace h := Option.some.inj h
  subst h
  exact WQ_ret () rfl (.tmp rfl .nil) trivial rfl (ks := []) rfl (by decide)
structure mark_line where
  has : Int
  n : Int
  wait : (Nat → Int)
abbrev L_mark_line : Lay mark_line := Lay.via (LP (LI .u8) (LP (LI .i64) (LA (LI .u8) 8))) (fun x => (x.has, x.n, x.wait))
abbrev Z_mark_line : mark_line := ⟨0, 0, (fun _ => 0)⟩
instance : Inhabited mark_line := ⟨Z_mark_line⟩
theorem P_mark_line_has : Pth L_mark_line (LI .u8) 0 (fun x => x.has) (fun x v => { x with has := v }) := (Pth.fst Pth.id).via _ _ _ 0 rfl (fun _ => rfl) (fun _ _ => rfl)
theorem P_mark_line_n : Pth L_mark_line (LI .i64) 1 (fun x => x.n) (fun x v => { x with n := v }) := (Pth.snd (Pth.fst Pth.id)).via _ _ _ 1 rfl (fun _ => rfl) (fun _ _ => rfl)
theorem P_mark_line_wait : Pth L_mark_line (LA (LI .u8) 8) 2 (fun x => x.wait) (fun x v => { x with wait := v }) := (Pth.snd (Pth.snd Pth.id)).via _ _ _ 2 rfl (fun _ => rfl) (fun _ _ => rfl)
structure mark_Marks where
  slots : (Nat → mark_line)
abbrev L_mark_Marks : Lay mark_Marks := Lay.via (LA L_mark_line 32) (fun x => x.slots)
abbrev Z_mark_Marks : mark_Marks := ⟨(fun _ => Z_mark_line)⟩
instance : Inhabited mark_Marks := ⟨Z_mark_Marks⟩
theorem P_mark_Marks_slots : Pth L_mark_Marks (LA L_mark_line 32) 0 (fun x => x.slots) (fun x v => { x with slots := v }) := Pth.id.via _ _ _ 0 rfl (fun _ => rfl) (fun _ _ => rfl)
def mark_Marks_Free (n : Nat) (a0 : mark_Marks) (a1 : Int) (a2 : Int) : Option mark_Marks :=
  bd (mark_may n a1 a2) fun x21 =>
  gu (!(x21 == true) || inb a1 32) <|
  cn ((x21 && ((wr .i64 ((a0.slots (Int.toNat a1)).has)) == (wr .i64 (a2 + 1))))) (
  gu (inb a1 32) <|
  lt ({ a0 with slots := (upd a0.slots (Int.toNat a1) ({ (a0.slots (Int.toNat a1)) with has := 0 })) } : mark_Marks) fun x24 =>
  some x24) (
  some a0)
theorem c_mark_Marks_Free {n : Nat} {a0 : mark_Marks} {a1 : Int} {a2 : Int} {r : mark_Marks}  (h : mark_Marks_Free n a0 a1 a2 = some r) : FnV Try.prog 41 [.agg (L_mark_Marks.enc a0).toArray, .int .i64 a1, .int .i64 a2] (.agg (L_mark_Marks.enc r).toArray) := by
  unfold mark_Marks_Free at h
  refine fn_of Try.func41 (by kernel_rfl) rfl Try.ntmps41 rfl (fun cx hbs hpre hro => ?_)
  refine WP_seq ?_
  refine WP_region ?_
  refine WL_x rfl (RX_boxL L_mark_Marks a0 rfl rfl) (fun b3 _ => ?_)
  refine WL_x rfl (RX_allocL (L := L_mark_Marks) (z := Z_mark_Marks) ⟨by kernel_rfl⟩) (fun b6 _ => ?_)
  refine WL_nil ?_
  refine WQ_then ?_
  refine WP_seq ?_
  refine WP_seq ?_
  obtain ⟨x21, hx21, h⟩ := bd_e h
  obtain ⟨hg22, h⟩ := gu_e h
  refine WP_region ?_
  refine WL_v rfl (VS_move rfl) ?_
  refine WL_v rfl (VS_move rfl) ?_
  refine WL_v rfl (VS_call (c_mark_may hx21) rfl (fun _ _ _ => trivial)) ?_
  refine WL_v rfl (VS_move rfl) ?_
  refine WL_g (Gd_b rfl rfl) rfl (fun hb => VS_move rfl) ?_
  refine WL_g (Gd_b rfl rfl) rfl (fun hb => VS_field0 rfl) ?_
  refine WL_g (Gd_b rfl rfl) rfl (fun hb => VS_index0 (m := (Int.toNat a1)) (gev rfl hb) (gev rfl hb) (inb_e (imp_b hg22 hb)).1 (inb_e (imp_b hg22 hb)).2) ?_
  refine WL_g (Gd_b rfl rfl) rfl (fun hb => VS_field (gev rfl hb)) ?_
  refine WL_g (Gd_b rfl rfl) rfl (fun hb => VS_ldi ((P_mark_Marks_slots.c0 (Pth.idx (L := L_mark_line) (m := 32) (k := 10) ((Int.toNat a1)) (inb_e (imp_b hg22 hb)).2 rfl)).comp P_mark_line_has) (gev rfl hb)) ?_
  refine WL_g (Gd_b rfl rfl) rfl (fun hb => VS_conv (gev rfl hb) rfl) ?_
  refine WL_g (Gd_b rfl rfl) rfl (fun hb => VS_move rfl) ?_
  refine WL_g (Gd_b rfl rfl) rfl (fun hb => VS_add (gev rfl hb) rfl rfl) ?_
  refine WL_g (Gd_b rfl rfl) rfl (fun hb => VS_eql (gev rfl hb) (gev rfl hb)) ?_
  refine WL_v rfl (VS_and rfl rfl) ?_
  refine WL_nil ?_
  refine WQ_then ?_
  refine WP_if rfl (fun hc => ?_) (fun hc => ?_)
  ·
    replace h := cn_t hc h
    obtain ⟨hg23, h⟩ := gu_e h
    obtain ⟨x24, hx24, h⟩ := lt_e h
    refine WP_region ?_
    refine WL_v rfl (VS_move rfl) ?_
    refine WL_v rfl (VS_field0 rfl) ?_
    refine WL_v rfl (VS_index0 (m := (Int.toNat a1)) rfl rfl (inb_e hg23).1 (inb_e hg23).2) ?_
    refine WL_v rfl (VS_field rfl) ?_
    refine WL_x0 (RX_st (M := (LI .u8)) ((P_mark_Marks_slots.c0 (Pth.idx (L := L_mark_line) (m := 32) (k := 10) ((Int.toNat a1)) (inb_e hg23).2 rfl)).comp P_mark_line_has) 0 x24 hx24 rfl rfl rfl rfl) (fun _ _ => ?_)
    refine WL_nil ?_
    refine WQ_then ?_
    refine WP_seq ?_
    refine WP_region ?_
    refine WL_v rfl (VS_lda (M := L_mark_Marks) (Pth.id (L := L_mark_Marks)) rfl rfl) ?_
    refine WL_x0 (RX_st (M := L_mark_Marks) (Pth.id (L := L_mark_Marks)) x24 x24 rfl rfl rfl rfl rfl) (fun _ _ => ?_)
    refine WL_nil ?_
    refine WQ_then ?_
    refine WP_ret ?_
    replace h := Option.some.inj h
    subst h
    exact WQ_ret () rfl (.agg rfl inferInstance inferInstance (enc_len _ _) .nil) trivial rfl (ks := []) rfl (by decide)
  ·
    replace h := cn_f hc h
    refine WP_skip ?_
    refine WQ_then ?_
    refine WP_seq ?_
    refine WP_region ?_
    refine WL_v rfl (VS_lda (M := L_mark_Marks) (Pth.id (L := L_mark_Marks)) rfl rfl) ?_
    refine WL_x0 (RX_st (M := L_mark_Marks) (Pth.id (L := L_mark_Marks)) a0 a0 rfl rfl rfl rfl rfl) (fun _ _ => ?_)
    refine WL_nil ?_
    refine WQ_then ?_
    refine WP_ret ?_
    replace h := Option.some.inj h
    subst h
    exact WQ_ret () rfl (.agg rfl inferInstance inferInstance (enc_len _ _) .nil) trivial rfl (ks := []) rfl (by decide)
def slices_Index_1151 (n : Nat) (a0 : (List Int)) (a1 : Int) : Option Int :=
  loop1 (fun k25 (x22 : Int) =>
  cn (decide (x22 < (a0.length : Int))) (
  gu (inb x22 a0.length) <|
  cn ((a1 == (a0.getD (Int.toNat x22) default))) (
  some x22) (
  k25 (wr .i64 (x22 + 1)))) (
  some (-1))) n 0
theorem c_slices_Index_1151 {n : Nat} {a0 : (List Int)} {a1 : Int} {r : Int} {K : World → Prop} [Stable K] {v0 : Value} (f0 : Fz K v0 (LI .u8) a0) (h : slices_Index_1151 n a0 a1 = some r) : FnW Try.prog 137 [v0, .int .u8 a1] K (.int .i64 r) := by
  unfold slices_Index_1151 at h
  refine fn_of Try.func137 (by kernel_rfl) rfl Try.ntmps137 rfl (fun cx hbs hpre hro => ?_)
  haveI := kn_pre hbs hpre
  refine WP_seq ?_
  refine WP_region ?_
  refine WL_v rfl (VS_assign rfl) ?_
  refine WL_nil ?_
  refine WQ_then ?_
  refine WP_seq ?_
  refine WP_seq ?_
  refine WP_region ?_
  refine WL_v rfl (VS_move rfl) ?_
  refine WL_v rfl (VS_lenF f0 rfl) ?_
  refine WL_v rfl (VS_move rfl) ?_
  refine WL_nil ?_
  refine WQ_then ?_
  refine WP_block ?_
  obtain ⟨lb23, hlb23, h⟩ := lp1_i h
  refine WP_loops (α := Nat × Int) [0, 1, 7] (.cons rfl (.cons rfl (.cons rfl (.nil)))) (fun (m24, x22) => [(8, .int .i64 x22)]) (fun (m24, x22) => []) (fun (m24, x22) => loop1 lb23 m24 x22 = some r) (fun (m24, x22) => m24) (n, 0) h (Sub_cons rfl (Sub_nil)) (ks := []) rfl (by decide) ?_
  rintro ⟨m24, x22⟩ h
  replace h : loop1 lb23 m24 x22 = some r := h
  replace h := lp1_s hlb23 h
  obtain ⟨m24, rfl, h⟩ := h
  refine WP_seq ?_
  refine WP_region ?_
  refine WL_v rfl (VS_lss rfl rfl) ?_
  refine WL_nil ?_
  refine WQ_then ?_
  refine WP_seq ?_
  refine WP_if rfl (fun hc => ?_) (fun hc => ?_)
  ·
    replace h := cn_t hc h
    refine WP_skip ?_
    refine WQ_then ?_
    refine WP_seq ?_
    refine WP_block ?_
    refine WP_seq ?_
    refine WP_region ?_
    refine WL_v rfl (VS_move rfl) ?_
    refine WL_v rfl (VS_assign rfl) ?_
    refine WL_nil ?_
    refine WQ_then ?_
    refine WP_seq ?_
    obtain ⟨hg26, h⟩ := gu_e h
    refine WP_region ?_
    refine WL_v rfl (VS_move rfl) ?_
    refine WL_v rfl (VS_move rfl) ?_
    refine WL_v rfl (VS_move rfl) ?_
    refine WL_v rfl (VS_ixF (m := (Int.toNat x22)) f0 rfl rfl rfl (inb_e hg26).1 (inb_e hg26).2) ?_
    refine WL_v rfl (VS_ldiF f0 (Pth.idx (L := (LI .u8)) (m := (a0.length)) (k := 1) ((Int.toNat x22)) (inb_e hg26).2 rfl) rfl) ?_
    refine WL_v rfl (VS_eql rfl rfl) ?_
    refine WL_nil ?_
    refine WQ_then ?_
    refine WP_if rfl (fun hc => ?_) (fun hc => ?_)
    ·
      replace h := cn_t hc h
      refine WP_seq ?_
      refine WP_region ?_
      refine WL_v rfl (VS_move rfl) ?_
      refine WL_v rfl (VS_assign rfl) ?_
      refine WL_nil ?_
      refine WQ_then ?_
      refine WP_ret ?_
      refine WQ_block_ret ?_
      refine WQ_then_ret ?_
      refine WQ_then_ret ?_
      refine WQ_block_ret ?_
      refine WQ_then_ret ?_
      replace h := Option.some.inj h
      subst h
      exact WQ_ret () rfl (.tmp rfl .nil) trivial rfl (ks := []) rfl (by decide)
    ·
      replace h := cn_f hc h
      refine WP_skip ?_
      refine WQ_block ?_
      refine WQ_then ?_
      refine WP_region ?_
      refine WL_v rfl (VS_add rfl rfl rfl) ?_
      refine WL_v rfl (VS_move rfl) ?_
      refine WL_nil ?_
      exact WQ_loops (m24, wr .i64 (x22 + 1)) (Nat.lt_succ_self _) h (Sub_cons rfl (Sub_nil)) (.cons rfl (.cons rfl (.cons rfl (.nil)))) (ks := []) rfl (by decide)
  ·
    replace h := cn_f hc h
    refine WP_exit ?_
    refine WQ_then_exit ?_
    refine WQ_then_exit ?_
    refine WQ_block_exit ?_
    refine WQ_then ?_
    refine WP_seq ?_
    refine WP_region ?_
    refine WL_v rfl (VS_assign rfl) ?_
    refine WL_nil ?_
    refine WQ_then ?_
    refine WP_ret ?_
    replace h := Option.some.inj h
    subst h
    exact WQ_ret () rfl (.tmp rfl .nil) trivial rfl (ks := []) rfl (by decide)
def mark_line_place (n : Nat) (a0 : mark_line) (a1 : Int) : Option Int :=
  gu (inb a0.n 9) <|
  bd (slices_Index_1151 n ((List.range (Int.toNat a0.n)).map a0.wait) (wr .u8 a1)) fun x22 =>
  some x22
theorem c_mark_line_place {n : Nat} {a0 : mark_line} {a1 : Int} {r : Int}  (h : mark_line_place n a0 a1 = some r) : FnV Try.prog 107 [.agg (L_mark_line.enc a0).toArray, .int .i64 a1] (.int .i64 r) := by
  unfold mark_line_place at h
  refine fn_of Try.func107 (by kernel_rfl) rfl Try.ntmps107 rfl (fun cx hbs hpre hro => ?_)
  refine WP_seq ?_
  refine WP_region ?_
  refine WL_x rfl (RX_boxL L_mark_line a0 rfl rfl) (fun b2 _ => ?_)
  refine WL_v rfl (VS_assign rfl) ?_
  refine WL_nil ?_
  refine WQ_then ?_
  refine WP_seq ?_
  obtain ⟨hg21, h⟩ := gu_e h
  obtain ⟨x22, hx22, h⟩ := bd_e h
  refine WP_region ?_
  refine WL_v rfl (VS_field0 rfl) ?_
  refine WL_v rfl (VS_field0 rfl) ?_
  refine WL_v rfl (VS_ldi P_mark_line_n rfl) ?_
  refine WL_v rfl (VS_slahi (n := 8) (e := 5) (sz := 1) (m := (Int.toNat a0.n))  rfl rfl (inb_e hg21).1 (Nat.lt_succ_iff.1 (inb_e hg21).2)) ?_
  refine WL_v rfl (VS_move rfl) ?_
  refine WL_v rfl (VS_conv rfl rfl) ?_
  refine WL_v rfl (VS_call (c_slices_Index_1151 (K := (Hs [.cells b2 93 (L_mark_line.enc a0)])) ((Fz.arr (b := b2) (T := 93) (x := a0) (m := (Int.toNat a0.n)) P_mark_line_wait 8 (Nat.lt_succ_iff.1 (inb_e hg21).2) (Nat.lt_succ_iff.1 (inb_e hg21).2)).mono ent) hx22) rfl kn) ?_
  refine WL_v rfl (VS_assign rfl) ?_
  refine WL_nil ?_
  refine WQ_then ?_
  refine WP_ret ?_
  replace h := Option.some.inj h
  subst h
  exact WQ_ret () rfl (.tmp rfl .nil) trivial rfl (ks := []) rfl (by decide)
def mark_line_without (n : Nat) (a0 : mark_line) (a1 : Int) : Option mark_line :=
  bd (mark_line_place n a0 a1) fun x21 =>
  cn (decide (x21 < 0)) (
  some a0) (
  gu (inb x21 9) <|
  gu (inb (wr .i64 (x21 + 1)) 9) <|
  lt ({ a0 with wait := (cpA (Int.toNat x21) (Int.toNat (wr .i64 (x21 + 1))) 8 a0.wait) } : mark_line) fun x24 =>
  lt ({ x24 with n := wr .i64 (x24.n - 1) } : mark_line) fun x25 =>
  gu (inb x25.n 8) <|
  lt ({ x25 with wait := (upd x25.wait (Int.toNat x25.n) 0) } : mark_line) fun x27 =>
  some x27)
theorem c_mark_line_without {n : Nat} {a0 : mark_line} {a1 : Int} {r : mark_line}  (h : mark_line_without n a0 a1 = some r) : FnV Try.prog 105 [.agg (L_mark_line.enc a0).toArray, .int .i64 a1] (.agg (L_mark_line.enc r).toArray) := by
  unfold mark_line_without at h
  refine fn_of Try.func105 (by kernel_rfl) rfl Try.ntmps105 rfl (fun cx hbs hpre hro => ?_)
  refine WP_seq ?_
  refine WP_region ?_
  refine WL_x rfl (RX_boxL L_mark_line a0 rfl rfl) (fun b2 _ => ?_)
  refine WL_x rfl (RX_allocL (L := L_mark_line) (z := Z_mark_line) ⟨by kernel_rfl⟩) (fun b4 _ => ?_)
  refine WL_nil ?_
  refine WQ_then ?_
  refine WP_seq ?_
  obtain ⟨x21, hx21, h⟩ := bd_e h
  refine WP_region ?_
  refine WL_v rfl (VS_lda (M := L_mark_line) (Pth.id (L := L_mark_line)) rfl rfl) ?_
  refine WL_v rfl (VS_move rfl) ?_
  refine WL_v rfl (VS_call (c_mark_line_place hx21) rfl (fun _ _ _ => trivial)) ?_
  refine WL_v rfl (VS_assign rfl) ?_
  refine WL_nil ?_
  refine WQ_then ?_
  refine WP_seq ?_
  refine WP_seq ?_
  refine WP_region ?_
  refine WL_v rfl (VS_move rfl) ?_
  refine WL_v rfl (VS_lss rfl rfl) ?_
  refine WL_nil ?_
  refine WQ_then ?_
  refine WP_if rfl (fun hc => ?_) (fun hc => ?_)
  ·
    replace h := cn_t hc h
    refine WP_seq ?_
    refine WP_region ?_
    refine WL_v rfl (VS_lda (M := L_mark_line) (Pth.id (L := L_mark_line)) rfl rfl) ?_
    refine WL_x0 (RX_st (M := L_mark_line) (Pth.id (L := L_mark_line)) a0 a0 rfl rfl rfl rfl rfl) (fun _ _ => ?_)
    refine WL_nil ?_
    refine WQ_then ?_
    refine WP_ret ?_
    refine WQ_then_ret ?_
    replace h := Option.some.inj h
    subst h
    exact WQ_ret () rfl (.agg rfl inferInstance inferInstance (enc_len _ _) .nil) trivial rfl (ks := []) rfl (by decide)
  ·
    replace h := cn_f hc h
    refine WP_skip ?_
    refine WQ_then ?_
    refine WP_seq ?_
    obtain ⟨hg22, h⟩ := gu_e h
    obtain ⟨hg23, h⟩ := gu_e h
    obtain ⟨x24, hx24, h⟩ := lt_e h
    refine WP_draw mixed (.stg [] [(0, [2]), (1, [5]), (2, [12, 13]), (3, [2]), (4, [5]), (5, [16]), (6, [15, 17])] (.alt 7 [14, 18] (.fin [(0, [2]), (1, [5]), (3, [2]), (4, [5]), (5, [16])] []) .no)) (by kernel_rfl) ?_
    refine Stg_stg ?_ ?_
    · exact ReOk_nil
    refine NewOk_cons rfl rfl (VG_v rfl (VS_field0 rfl)) ?_
    refine NewOk_cons rfl rfl (VG_v rfl (VS_move rfl)) ?_
    refine NewOk_cons rfl rfl (VG_v rfl (VS_slalo (n := 8) (e := 5) (sz := 1) (l := (Int.toNat x21))  rfl rfl (inb_e hg22).1 (Nat.lt_succ_iff.1 (inb_e hg22).2))) ?_
    refine NewOk_cons rfl rfl (VG_v rfl (VS_field0 rfl)) ?_
    refine NewOk_cons rfl rfl (VG_v rfl (VS_move rfl)) ?_
    refine NewOk_cons rfl rfl (VG_v rfl (VS_add rfl rfl rfl)) ?_
    refine NewOk_cons rfl rfl (VG_v rfl (VS_slalo (n := 8) (e := 5) (sz := 1) (l := (Int.toNat (wr .i64 (x21 + 1))))  rfl rfl (inb_e hg23).1 (Nat.lt_succ_iff.1 (inb_e hg23).2))) ?_
    refine NewOk_nil ?_
    refine Stg_some rfl rfl (RG_x rfl (RX_copyA (e := 5) P_mark_line_wait rfl x24 hx24 (by kernel_rfl) rfl rfl (Nat.lt_succ_iff.1 (inb_e hg22).2) (Nat.lt_succ_iff.1 (inb_e hg23).2))) (fun _ _ => ?_) Stg_no
    refine Stg_fin ?_ ?_
    ·
      refine ReOk_cons rfl rfl (VG_v rfl (VS_field0 rfl)) ?_
      refine ReOk_cons rfl rfl (VG_v rfl (VS_move rfl)) ?_
      refine ReOk_cons rfl rfl (VG_v rfl (VS_field0 rfl)) ?_
      refine ReOk_cons rfl rfl (VG_v rfl (VS_move rfl)) ?_
      refine ReOk_cons rfl rfl (VG_v rfl (VS_val (VS_add rfl rfl rfl) rfl)) ?_
      exact ReOk_nil
    refine NewOk_nil ?_
    refine WQ_then ?_
    refine WP_seq ?_
    obtain ⟨x25, hx25, h⟩ := lt_e h
    refine WP_region ?_
    refine WL_v rfl (VS_field0 rfl) ?_
    refine WL_v rfl (VS_ldi P_mark_line_n rfl) ?_
    refine WL_v rfl (VS_sub rfl rfl rfl) ?_
    refine WL_v rfl (VS_field0 rfl) ?_
    refine WL_x0 (RX_st (M := (LI .i64)) P_mark_line_n (wr .i64 (x24.n - 1)) x25 hx25 rfl rfl rfl rfl) (fun _ _ => ?_)
    refine WL_nil ?_
    refine WQ_then ?_
    refine WP_seq ?_
    obtain ⟨hg26, h⟩ := gu_e h
    obtain ⟨x27, hx27, h⟩ := lt_e h
    refine WP_region ?_
    refine WL_v rfl (VS_field0 rfl) ?_
    refine WL_v rfl (VS_ldi P_mark_line_n rfl) ?_
    refine WL_v rfl (VS_field0 rfl) ?_
    refine WL_v rfl (VS_index (m := (Int.toNat x25.n)) rfl rfl (inb_e hg26).1 (inb_e hg26).2) ?_
    refine WL_x0 (RX_st (M := (LI .u8)) (P_mark_line_wait.comp (Pth.idx (L := (LI .u8)) (m := 8) (k := 1) ((Int.toNat x25.n)) (inb_e hg26).2 rfl)) 0 x27 hx27 rfl rfl rfl rfl) (fun _ _ => ?_)
    refine WL_nil ?_
    refine WQ_then ?_
    refine WP_seq ?_
    refine WP_region ?_
    refine WL_v rfl (VS_lda (M := L_mark_line) (Pth.id (L := L_mark_line)) rfl rfl) ?_
    refine WL_x0 (RX_st (M := L_mark_line) (Pth.id (L := L_mark_line)) x27 x27 rfl rfl rfl rfl rfl) (fun _ _ => ?_)
    refine WL_nil ?_
    refine WQ_then ?_
    refine WP_ret ?_
    replace h := Option.some.inj h
    subst h
    exact WQ_ret () rfl (.agg rfl inferInstance inferInstance (enc_len _ _) .nil) trivial rfl (ks := []) rfl (by decide)
def mark_Marks_Gone (n : Nat) (a0 : mark_Marks) (a1 : Int) : Option mark_Marks :=
  loop2 (fun k28 (x24 : Int) (x25 : mark_Marks) =>
  cn (decide (x24 < 32)) (
  bd (mark_Marks_Free n x25 x24 a1) fun x29 =>
  bd (mark_may n x24 a1) fun x30 =>
  cn (x30) (
  gu (inb x24 32) <|
  bd (mark_line_without n (x29.slots (Int.toNat x24)) a1) fun x32 =>
  gu (inb x24 32) <|
  lt ({ x29 with slots := (upd x29.slots (Int.toNat x24) x32) } : mark_Marks) fun x34 =>
  k28 (wr .i64 (x24 + 1)) x34) (
  k28 (wr .i64 (x24 + 1)) x29)) (
  some x25)) n 0 a0
theorem c_mark_Marks_Gone {n : Nat} {a0 : mark_Marks} {a1 : Int} {r : mark_Marks}  (h : mark_Marks_Gone n a0 a1 = some r) : FnV Try.prog 43 [.agg (L_mark_Marks.enc a0).toArray, .int .i64 a1] (.agg (L_mark_Marks.enc r).toArray) := by
  unfold mark_Marks_Gone at h
  refine fn_of Try.func43 (by kernel_rfl) rfl Try.ntmps43 rfl (fun cx hbs hpre hro => ?_)
  refine WP_seq ?_
  refine WP_region ?_
  refine WL_x rfl (RX_boxL L_mark_Marks a0 rfl rfl) (fun b2 _ => ?_)
  refine WL_x rfl (RX_allocL (L := L_mark_Marks) (z := Z_mark_Marks) ⟨by kernel_rfl⟩) (fun b4 _ => ?_)
  refine WL_nil ?_
  refine WQ_then ?_
  refine WP_seq ?_
  refine WP_seq ?_
  refine WP_region ?_
  refine WL_v rfl (VS_move rfl) ?_
  refine WL_nil ?_
  refine WQ_then ?_
  refine WP_block ?_
  obtain ⟨lb26, hlb26, h⟩ := lp2_i h
  refine WP_loops (α := Nat × Int × mark_Marks) [1, 2, 4] (.cons rfl (.cons rfl (.cons rfl (.nil)))) (fun (m27, x24, x25) => [(6, .int .i64 x24)]) (fun (m27, x24, x25) => [.cells b4 96 (L_mark_Marks.enc Z_mark_Marks), .cells b2 96 (L_mark_Marks.enc x25)]) (fun (m27, x24, x25) => loop2 lb26 m27 x24 x25 = some r) (fun (m27, x24, x25) => m27) (n, 0, a0) h (Sub_cons rfl (Sub_nil)) (ks := [0, 1]) rfl (by decide) ?_
  rintro ⟨m27, x24, x25⟩ h
  replace h : loop2 lb26 m27 x24 x25 = some r := h
  replace h := lp2_s hlb26 h
  obtain ⟨m27, rfl, h⟩ := h
  refine WP_seq ?_
  refine WP_region ?_
  refine WL_v rfl (VS_lss rfl rfl) ?_
  refine WL_nil ?_
  refine WQ_then ?_
  refine WP_seq ?_
  refine WP_if rfl (fun hc => ?_) (fun hc => ?_)
  ·
    replace h := cn_t hc h
    refine WP_skip ?_
    refine WQ_then ?_
    refine WP_seq ?_
    refine WP_block ?_
    refine WP_seq ?_
    refine WP_region ?_
    refine WL_v rfl (VS_move rfl) ?_
    refine WL_v rfl (VS_assign rfl) ?_
    refine WL_nil ?_
    refine WQ_then ?_
    refine WP_seq ?_
    obtain ⟨x29, hx29, h⟩ := bd_e h
    refine WP_region ?_
    refine WL_v rfl (VS_lda (M := L_mark_Marks) (Pth.id (L := L_mark_Marks)) rfl rfl) ?_
    refine WL_v rfl (VS_move rfl) ?_
    refine WL_v rfl (VS_move rfl) ?_
    refine WL_v rfl (VS_call (c_mark_Marks_Free hx29) rfl (fun _ _ _ => trivial)) ?_
    refine WL_x0 (RX_st (M := L_mark_Marks) (Pth.id (L := L_mark_Marks)) x29 x29 rfl rfl rfl rfl rfl) (fun _ _ => ?_)
    refine WL_nil ?_
    refine WQ_then ?_
    refine WP_seq ?_
    obtain ⟨x30, hx30, h⟩ := bd_e h
    refine WP_region ?_
    refine WL_v rfl (VS_move rfl) ?_
    refine WL_v rfl (VS_move rfl) ?_
    refine WL_v rfl (VS_call (c_mark_may hx30) rfl (fun _ _ _ => trivial)) ?_
    refine WL_nil ?_
    refine WQ_then ?_
    refine WP_if rfl (fun hc => ?_) (fun hc => ?_)
    ·
      replace h := cn_t hc h
      obtain ⟨hg31, h⟩ := gu_e h
      obtain ⟨x32, hx32, h⟩ := bd_e h
      obtain ⟨hg33, h⟩ := gu_e h
      obtain ⟨x34, hx34, h⟩ := lt_e h
      refine WP_region ?_
      refine WL_v rfl (VS_move rfl) ?_
      refine WL_v rfl (VS_move rfl) ?_
      refine WL_v rfl (VS_field0 rfl) ?_
      refine WL_v rfl (VS_index0 (m := (Int.toNat x24)) rfl rfl (inb_e hg31).1 (inb_e hg31).2) ?_
      refine WL_v rfl (VS_lda (M := L_mark_line) (P_mark_Marks_slots.c0 (Pth.idx (L := L_mark_line) (m := 32) (k := 10) ((Int.toNat x24)) (inb_e hg31).2 rfl)) rfl rfl) ?_
      refine WL_v rfl (VS_move rfl) ?_
      refine WL_v rfl (VS_call (c_mark_line_without hx32) rfl (fun _ _ _ => trivial)) ?_
      refine WL_v rfl (VS_field0 rfl) ?_
      refine WL_v rfl (VS_index0 (m := (Int.toNat x24)) rfl rfl (inb_e hg33).1 (inb_e hg33).2) ?_
      refine WL_x0 (RX_st (M := L_mark_line) (P_mark_Marks_slots.c0 (Pth.idx (L := L_mark_line) (m := 32) (k := 10) ((Int.toNat x24)) (inb_e hg33).2 rfl)) x32 x34 hx34 rfl rfl rfl rfl) (fun _ _ => ?_)
      refine WL_nil ?_
      refine WQ_block ?_
      refine WQ_then ?_
      refine WP_region ?_
      refine WL_v rfl (VS_add rfl rfl rfl) ?_
      refine WL_v rfl (VS_move rfl) ?_
      refine WL_nil ?_
      exact WQ_loops (m27, wr .i64 (x24 + 1), x34) (Nat.lt_succ_self _) h (Sub_cons rfl (Sub_nil)) (.cons rfl (.cons rfl (.cons rfl (.nil)))) (ks := [0, 1]) rfl (by decide)
    ·
      replace h := cn_f hc h
      refine WP_skip ?_
      refine WQ_block ?_
      refine WQ_then ?_
      refine WP_region ?_
      refine WL_v rfl (VS_add rfl rfl rfl) ?_
      refine WL_v rfl (VS_move rfl) ?_
      refine WL_nil ?_
      exact WQ_loops (m27, wr .i64 (x24 + 1), x29) (Nat.lt_succ_self _) h (Sub_cons rfl (Sub_nil)) (.cons rfl (.cons rfl (.cons rfl (.nil)))) (ks := [0, 1]) rfl (by decide)
  ·
    replace h := cn_f hc h
    refine WP_exit ?_
    refine WQ_then_exit ?_
    refine WQ_then_exit ?_
    refine WQ_block_exit ?_
    refine WQ_then ?_
    refine WP_seq ?_
    refine WP_region ?_
    refine WL_v rfl (VS_lda (M := L_mark_Marks) (Pth.id (L := L_mark_Marks)) rfl rfl) ?_
    refine WL_x0 (RX_st (M := L_mark_Marks) (Pth.id (L := L_mark_Marks)) x25 x25 rfl rfl rfl rfl rfl) (fun _ _ => ?_)
    refine WL_nil ?_
    refine WQ_then ?_
    refine WP_ret ?_
    replace h := Option.some.inj h
    subst h
    exact WQ_ret () rfl (.agg rfl inferInstance inferInstance (enc_len _ _) .nil) trivial rfl (ks := []) rfl (by decide)
def mark_Marks_Try (n : Nat) (a0 : mark_Marks) (a1 : Int) (a2 : Int) : Option (mark_Marks × Bool) :=
  bd (mark_may n a1 a2) fun x21 =>
  cn ((!x21)) (
  some (a0, false)) (
  gu (inb a1 32) <|
  bd (mark_line_place n (a0.slots (Int.toNat a1)) a2) fun x23 =>
  cn (((wr .i64 ((a0.slots (Int.toNat a1)).has)) == (wr .i64 (a2 + 1)))) (
  some (a0, true)) (
  cn (((((a0.slots (Int.toNat a1)).has) == 0) && ((((a0.slots (Int.toNat a1)).n) == 0) || (x23 == 0)))) (
  bd (mark_line_without n (a0.slots (Int.toNat a1)) a2) fun x24 =>
  lt ({ a0 with slots := (upd a0.slots (Int.toNat a1) x24) } : mark_Marks) fun x25 =>
  lt ({ x25 with slots := (upd x25.slots (Int.toNat a1) ({ (x25.slots (Int.toNat a1)) with has := wr .u8 (wr .i64 (a2 + 1)) })) } : mark_Marks) fun x26 =>
  some (x26, true)) (
  cn (decide (x23 < 0)) (
  gu (inb ((a0.slots (Int.toNat a1)).n) 8) <|
  lt ({ a0 with slots := (upd a0.slots (Int.toNat a1) ({ (a0.slots (Int.toNat a1)) with wait := (upd ((a0.slots (Int.toNat a1)).wait) (Int.toNat ((a0.slots (Int.toNat a1)).n)) (wr .u8 a2)) })) } : mark_Marks) fun x28 =>
  lt ({ x28 with slots := (upd x28.slots (Int.toNat a1) ({ (x28.slots (Int.toNat a1)) with n := wr .i64 (((x28.slots (Int.toNat a1)).n) + 1) })) } : mark_Marks) fun x29 =>
  some (x29, false)) (
  some (a0, false)))))
theorem c_mark_Marks_Try {n : Nat} {a0 : mark_Marks} {a1 : Int} {a2 : Int} {r : mark_Marks × Bool}  (h : mark_Marks_Try n a0 a1 a2 = some r) : FnV Try.prog 45 [.agg (L_mark_Marks.enc a0).toArray, .int .i64 a1, .int .i64 a2] (.tuple #[.agg (L_mark_Marks.enc r.1).toArray, .bool r.2]) := by
  unfold mark_Marks_Try at h
  refine fn_of Try.func45 (by kernel_rfl) rfl Try.ntmps45 rfl (fun cx hbs hpre hro => ?_)
  refine WP_seq ?_
  refine WP_region ?_
  refine WL_x rfl (RX_boxL L_mark_Marks a0 rfl rfl) (fun b3 _ => ?_)
  refine WL_x rfl (RX_allocL (L := L_mark_Marks) (z := Z_mark_Marks) ⟨by kernel_rfl⟩) (fun b6 _ => ?_)
  refine WL_v rfl (VS_assign rfl) ?_
  refine WL_nil ?_
  refine WQ_then ?_
  refine WP_seq ?_
  refine WP_seq ?_
  obtain ⟨x21, hx21, h⟩ := bd_e h
  refine WP_region ?_
  refine WL_v rfl (VS_move rfl) ?_
  refine WL_v rfl (VS_move rfl) ?_
  refine WL_v rfl (VS_call (c_mark_may hx21) rfl (fun _ _ _ => trivial)) ?_
  refine WL_v rfl (VS_not rfl) ?_
  refine WL_nil ?_
  refine WQ_then ?_
  refine WP_if rfl (fun hc => ?_) (fun hc => ?_)
  ·
    replace h := cn_t hc h
    refine WP_seq ?_
    refine WP_region ?_
    refine WL_v rfl (VS_lda (M := L_mark_Marks) (Pth.id (L := L_mark_Marks)) rfl rfl) ?_
    refine WL_x0 (RX_st (M := L_mark_Marks) (Pth.id (L := L_mark_Marks)) a0 a0 rfl rfl rfl rfl rfl) (fun _ _ => ?_)
    refine WL_v rfl (VS_assign rfl) ?_
    refine WL_nil ?_
    refine WQ_then ?_
    refine WP_ret ?_
    refine WQ_then_ret ?_
    replace h := Option.some.inj h
    subst h
    exact WQ_ret () rfl (.agg rfl inferInstance inferInstance (enc_len _ _) (.tmp rfl .nil)) trivial rfl (ks := []) rfl (by decide)
  ·
    replace h := cn_f hc h
    refine WP_skip ?_
    refine WQ_then ?_
    refine WP_seq ?_
    obtain ⟨hg22, h⟩ := gu_e h
    refine WP_region ?_
    refine WL_v rfl (VS_move rfl) ?_
    refine WL_v rfl (VS_field0 rfl) ?_
    refine WL_v rfl (VS_index0 (m := (Int.toNat a1)) rfl rfl (inb_e hg22).1 (inb_e hg22).2) ?_
    refine WL_v rfl (VS_assign rfl) ?_
    refine WL_nil ?_
    refine WQ_then ?_
    refine WP_seq ?_
    refine WP_seq ?_
    obtain ⟨x23, hx23, h⟩ := bd_e h
    refine WP_region ?_
    refine WL_v rfl (VS_move rfl) ?_
    refine WL_v rfl (VS_nilCheck rfl) ?_
    refine WL_v rfl (VS_lda (M := L_mark_line) (P_mark_Marks_slots.c0 (Pth.idx (L := L_mark_line) (m := 32) (k := 10) ((Int.toNat a1)) (inb_e hg22).2 rfl)) rfl rfl) ?_
    refine WL_v rfl (VS_move rfl) ?_
    refine WL_v rfl (VS_call (c_mark_line_place hx23) rfl (fun _ _ _ => trivial)) ?_
    refine WL_v rfl (VS_assign rfl) ?_
    refine WL_nil ?_
    refine WQ_then ?_
    refine WP_block ?_
    refine WP_seq ?_
    refine WP_region ?_
    refine WL_v rfl (VS_move rfl) ?_
    refine WL_v rfl (VS_nilCheck rfl) ?_
    refine WL_v rfl (VS_field rfl) ?_
    refine WL_v rfl (VS_ldi ((P_mark_Marks_slots.c0 (Pth.idx (L := L_mark_line) (m := 32) (k := 10) ((Int.toNat a1)) (inb_e hg22).2 rfl)).comp P_mark_line_has) rfl) ?_
    refine WL_v rfl (VS_conv rfl rfl) ?_
    refine WL_v rfl (VS_move rfl) ?_
    refine WL_v rfl (VS_add rfl rfl rfl) ?_
    refine WL_v rfl (VS_eql rfl rfl) ?_
    refine WL_v rfl (VS_assign rfl) ?_
    refine WL_nil ?_
    refine WQ_then ?_
    refine WP_if rfl (fun hc => ?_) (fun hc => ?_)
    ·
      replace h := cn_t hc h
      refine WP_seq ?_
      refine WP_region ?_
      refine WL_v rfl (VS_lda (M := L_mark_Marks) (Pth.id (L := L_mark_Marks)) rfl rfl) ?_
      refine WL_x0 (RX_st (M := L_mark_Marks) (Pth.id (L := L_mark_Marks)) a0 a0 rfl rfl rfl rfl rfl) (fun _ _ => ?_)
      refine WL_v rfl (VS_assign rfl) ?_
      refine WL_nil ?_
      refine WQ_then ?_
      refine WP_ret ?_
      refine WQ_block_ret ?_
      refine WQ_then_ret ?_
      replace h := Option.some.inj h
      subst h
      exact WQ_ret () rfl (.agg rfl inferInstance inferInstance (enc_len _ _) (.tmp rfl .nil)) trivial rfl (ks := []) rfl (by decide)
    ·
      replace h := cn_f hc h
      refine WP_seq ?_
      refine WP_region ?_
      refine WL_v rfl (VS_move rfl) ?_
      refine WL_v rfl (VS_nilCheck rfl) ?_
      refine WL_v rfl (VS_field rfl) ?_
      refine WL_v rfl (VS_ldi ((P_mark_Marks_slots.c0 (Pth.idx (L := L_mark_line) (m := 32) (k := 10) ((Int.toNat a1)) (inb_e hg22).2 rfl)).comp P_mark_line_has) rfl) ?_
      refine WL_v rfl (VS_eql rfl rfl) ?_
      refine WL_v rfl (VS_move rfl) ?_
      refine WL_g (Gd_b rfl rfl) rfl (fun hb => VS_move rfl) ?_
      refine WL_g (Gd_b rfl rfl) rfl (fun hb => VS_nilCheck (gev rfl hb)) ?_
      refine WL_g (Gd_b rfl rfl) rfl (fun hb => VS_field (gev rfl hb)) ?_
      refine WL_g (Gd_b rfl rfl) rfl (fun hb => VS_ldi ((P_mark_Marks_slots.c0 (Pth.idx (L := L_mark_line) (m := 32) (k := 10) ((Int.toNat a1)) (inb_e hg22).2 rfl)).comp P_mark_line_n) (gev rfl hb)) ?_
      refine WL_g (Gd_b rfl rfl) rfl (fun hb => VS_eql (gev rfl hb) rfl) ?_
      refine WL_g (Gd_b rfl rfl) rfl (fun hb => VS_move (gev rfl hb)) ?_
      refine WL_g (Gd_g rfl rfl) rfl (fun hb => VS_move rfl) ?_
      refine WL_g (Gd_g rfl rfl) rfl (fun hb => VS_eql (gev rfl hb) rfl) ?_
      refine WL_g (Gd_b rfl rfl) rfl (fun hb => VS_or (gev rfl hb) (gev2 rfl hb)) ?_
      refine WL_v rfl (VS_and rfl rfl) ?_
      refine WL_v rfl (VS_assign rfl) ?_
      refine WL_nil ?_
      refine WQ_then ?_
      refine WP_if rfl (fun hc => ?_) (fun hc => ?_)
      ·
        replace h := cn_t hc h
        refine WP_seq ?_
        obtain ⟨x24, hx24, h⟩ := bd_e h
        obtain ⟨x25, hx25, h⟩ := lt_e h
        refine WP_region ?_
        refine WL_v rfl (VS_move rfl) ?_
        refine WL_v rfl (VS_move rfl) ?_
        refine WL_v rfl (VS_nilCheck rfl) ?_
        refine WL_v rfl (VS_lda (M := L_mark_line) (P_mark_Marks_slots.c0 (Pth.idx (L := L_mark_line) (m := 32) (k := 10) ((Int.toNat a1)) (inb_e hg22).2 rfl)) rfl rfl) ?_
        refine WL_v rfl (VS_move rfl) ?_
        refine WL_v rfl (VS_call (c_mark_line_without hx24) rfl (fun _ _ _ => trivial)) ?_
        refine WL_v rfl (VS_nilCheck rfl) ?_
        refine WL_x0 (RX_st (M := L_mark_line) (P_mark_Marks_slots.c0 (Pth.idx (L := L_mark_line) (m := 32) (k := 10) ((Int.toNat a1)) (inb_e hg22).2 rfl)) x24 x25 hx25 rfl rfl rfl rfl) (fun _ _ => ?_)
        refine WL_nil ?_
        refine WQ_then ?_
        refine WP_seq ?_
        obtain ⟨x26, hx26, h⟩ := lt_e h
        refine WP_region ?_
        refine WL_v rfl (VS_move rfl) ?_
        refine WL_v rfl (VS_move rfl) ?_
        refine WL_v rfl (VS_add rfl rfl rfl) ?_
        refine WL_v rfl (VS_conv rfl rfl) ?_
        refine WL_v rfl (VS_nilCheck rfl) ?_
        refine WL_v rfl (VS_field rfl) ?_
        refine WL_x0 (RX_st (M := (LI .u8)) ((P_mark_Marks_slots.c0 (Pth.idx (L := L_mark_line) (m := 32) (k := 10) ((Int.toNat a1)) (inb_e hg22).2 rfl)).comp P_mark_line_has) (wr .u8 (wr .i64 (a2 + 1))) x26 hx26 rfl rfl rfl rfl) (fun _ _ => ?_)
        refine WL_nil ?_
        refine WQ_then ?_
        refine WP_seq ?_
        refine WP_region ?_
        refine WL_v rfl (VS_lda (M := L_mark_Marks) (Pth.id (L := L_mark_Marks)) rfl rfl) ?_
        refine WL_x0 (RX_st (M := L_mark_Marks) (Pth.id (L := L_mark_Marks)) x26 x26 rfl rfl rfl rfl rfl) (fun _ _ => ?_)
        refine WL_v rfl (VS_assign rfl) ?_
        refine WL_nil ?_
        refine WQ_then ?_
        refine WP_ret ?_
        refine WQ_block_ret ?_
        refine WQ_then_ret ?_
        replace h := Option.some.inj h
        subst h
        exact WQ_ret () rfl (.agg rfl inferInstance inferInstance (enc_len _ _) (.tmp rfl .nil)) trivial rfl (ks := []) rfl (by decide)
      ·
        replace h := cn_f hc h
        refine WP_seq ?_
        refine WP_region ?_
        refine WL_v rfl (VS_move rfl) ?_
        refine WL_v rfl (VS_lss rfl rfl) ?_
        refine WL_v rfl (VS_assign rfl) ?_
        refine WL_nil ?_
        refine WQ_then ?_
        refine WP_if rfl (fun hc => ?_) (fun hc => ?_)
        ·
          replace h := cn_t hc h
          refine WP_seq ?_
          obtain ⟨hg27, h⟩ := gu_e h
          obtain ⟨x28, hx28, h⟩ := lt_e h
          refine WP_draw mixed (.stg [] [(0, [8]), (1, [8]), (2, [68]), (3, [69]), (4, [70]), (5, [2]), (6, [72]), (7, [67]), (8, [74]), (9, [71, 75])] (.alt 10 [73, 76] (.fin [(7, [67]), (8, [74])] []) .no)) (by kernel_rfl) ?_
          refine Stg_stg ?_ ?_
          · exact ReOk_nil
          refine NewOk_cons rfl rfl (VG_v rfl (VS_move rfl)) ?_
          refine NewOk_cons rfl rfl (VG_v rfl (VS_move rfl)) ?_
          refine NewOk_cons rfl rfl (VG_v rfl (VS_nilCheck rfl)) ?_
          refine NewOk_cons rfl rfl (VG_v rfl (VS_field rfl)) ?_
          refine NewOk_cons rfl rfl (VG_v rfl (VS_ldi ((P_mark_Marks_slots.c0 (Pth.idx (L := L_mark_line) (m := 32) (k := 10) ((Int.toNat a1)) (inb_e hg22).2 rfl)).comp P_mark_line_n) rfl)) ?_
          refine NewOk_cons rfl rfl (VG_v rfl (VS_move rfl)) ?_
          refine NewOk_cons rfl rfl (VG_v rfl (VS_conv rfl rfl)) ?_
          refine NewOk_cons rfl rfl (VG_v rfl (VS_nilCheck rfl)) ?_
          refine NewOk_cons rfl rfl (VG_v rfl (VS_field rfl)) ?_
          refine NewOk_cons rfl rfl (VG_v rfl (VS_index (m := (Int.toNat ((a0.slots (Int.toNat a1)).n))) rfl rfl (inb_e hg27).1 (inb_e hg27).2)) ?_
          refine NewOk_nil ?_
          refine Stg_none rfl (RG_x rfl (RX_st (M := (LI .u8)) (((P_mark_Marks_slots.c0 (Pth.idx (L := L_mark_line) (m := 32) (k := 10) ((Int.toNat a1)) (inb_e hg22).2 rfl)).comp P_mark_line_wait).comp (Pth.idx (L := (LI .u8)) (m := 8) (k := 1) ((Int.toNat ((a0.slots (Int.toNat a1)).n))) (inb_e hg27).2 rfl)) (wr .u8 a2) x28 hx28 rfl rfl rfl rfl)) (fun _ _ => ?_) Stg_no
          refine Stg_fin ?_ ?_
          ·
            refine ReOk_cons rfl rfl (VG_v rfl (VS_val (VS_nilCheck rfl) rfl)) ?_
            refine ReOk_cons rfl rfl (VG_v rfl (VS_field rfl)) ?_
            exact ReOk_nil
          refine NewOk_nil ?_
          refine WQ_then ?_
          obtain ⟨x29, hx29, h⟩ := lt_e h
          refine WP_region ?_
          refine WL_v rfl (VS_move rfl) ?_
          refine WL_v rfl (VS_nilCheck rfl) ?_
          refine WL_v rfl (VS_field rfl) ?_
          refine WL_v rfl (VS_ldi ((P_mark_Marks_slots.c0 (Pth.idx (L := L_mark_line) (m := 32) (k := 10) ((Int.toNat a1)) (inb_e hg22).2 rfl)).comp P_mark_line_n) rfl) ?_
          refine WL_v rfl (VS_add rfl rfl rfl) ?_
          refine WL_v rfl (VS_nilCheck rfl) ?_
          refine WL_v rfl (VS_field rfl) ?_
          refine WL_x0 (RX_st (M := (LI .i64)) ((P_mark_Marks_slots.c0 (Pth.idx (L := L_mark_line) (m := 32) (k := 10) ((Int.toNat a1)) (inb_e hg22).2 rfl)).comp P_mark_line_n) (wr .i64 (((x28.slots (Int.toNat a1)).n) + 1)) x29 hx29 rfl rfl rfl rfl) (fun _ _ => ?_)
          refine WL_nil ?_
          refine WQ_block ?_
          refine WQ_then ?_
          refine WP_seq ?_
          refine WP_region ?_
          refine WL_v rfl (VS_lda (M := L_mark_Marks) (Pth.id (L := L_mark_Marks)) rfl rfl) ?_
          refine WL_x0 (RX_st (M := L_mark_Marks) (Pth.id (L := L_mark_Marks)) x29 x29 rfl rfl rfl rfl rfl) (fun _ _ => ?_)
          refine WL_v rfl (VS_assign rfl) ?_
          refine WL_nil ?_
          refine WQ_then ?_
          refine WP_ret ?_
          replace h := Option.some.inj h
          subst h
          exact WQ_ret () rfl (.agg rfl inferInstance inferInstance (enc_len _ _) (.tmp rfl .nil)) trivial rfl (ks := []) rfl (by decide)
        ·
          replace h := cn_f hc h
          refine WP_skip ?_
          refine WQ_block ?_
          refine WQ_then ?_
          refine WP_seq ?_
          refine WP_region ?_
          refine WL_v rfl (VS_lda (M := L_mark_Marks) (Pth.id (L := L_mark_Marks)) rfl rfl) ?_
          refine WL_x0 (RX_st (M := L_mark_Marks) (Pth.id (L := L_mark_Marks)) a0 a0 rfl rfl rfl rfl rfl) (fun _ _ => ?_)
          refine WL_v rfl (VS_assign rfl) ?_
          refine WL_nil ?_
          refine WQ_then ?_
          refine WP_ret ?_
          replace h := Option.some.inj h
          subst h
          exact WQ_ret () rfl (.agg rfl inferInstance inferInstance (enc_len _ _) (.tmp rfl .nil)) trivial rfl (ks := []) rfl (by decide)
def mark_Marks_Holder (n : Nat) (a0 : mark_Marks) (a1 : Int) : Option (Int × Bool) :=
  bd (mark_may n a1 0) fun x21 =>
  gu (!((!x21) == false) || inb a1 32) <|
  cn (((!x21) || (((a0.slots (Int.toNat a1)).has) == 0))) (
  some (0, false)) (
  gu (inb a1 32) <|
  some (wr .i64 ((wr .i64 ((a0.slots (Int.toNat a1)).has)) - 1), true))
theorem c_mark_Marks_Holder {n : Nat} {a0 : mark_Marks} {a1 : Int} {r : Int × Bool}  (h : mark_Marks_Holder n a0 a1 = some r) : FnV Try.prog 48 [.agg (L_mark_Marks.enc a0).toArray, .int .i64 a1] (.tuple #[.int .i64 r.1, .bool r.2]) := by
  unfold mark_Marks_Holder at h
  refine fn_of Try.func48 (by kernel_rfl) rfl Try.ntmps48 rfl (fun cx hbs hpre hro => ?_)
  refine WP_seq ?_
  refine WP_region ?_
  refine WL_x rfl (RX_boxL L_mark_Marks a0 rfl rfl) (fun b2 _ => ?_)
  refine WL_v rfl (VS_assign rfl) ?_
  refine WL_v rfl (VS_assign rfl) ?_
  refine WL_nil ?_
  refine WQ_then ?_
  refine WP_seq ?_
  refine WP_seq ?_
  obtain ⟨x21, hx21, h⟩ := bd_e h
  obtain ⟨hg22, h⟩ := gu_e h
  refine WP_region ?_
  refine WL_v rfl (VS_move rfl) ?_
  refine WL_v rfl (VS_call (c_mark_may hx21) rfl (fun _ _ _ => trivial)) ?_
  refine WL_v rfl (VS_not rfl) ?_
  refine WL_v rfl (VS_move rfl) ?_
  refine WL_g (Gd_b rfl rfl) rfl (fun hb => VS_move rfl) ?_
  refine WL_g (Gd_b rfl rfl) rfl (fun hb => VS_field0 rfl) ?_
  refine WL_g (Gd_b rfl rfl) rfl (fun hb => VS_index0 (m := (Int.toNat a1)) (gev rfl hb) (gev rfl hb) (inb_e (imp_b hg22 hb)).1 (inb_e (imp_b hg22 hb)).2) ?_
  refine WL_g (Gd_b rfl rfl) rfl (fun hb => VS_field (gev rfl hb)) ?_
  refine WL_g (Gd_b rfl rfl) rfl (fun hb => VS_ldi ((P_mark_Marks_slots.c0 (Pth.idx (L := L_mark_line) (m := 32) (k := 10) ((Int.toNat a1)) (inb_e (imp_b hg22 hb)).2 rfl)).comp P_mark_line_has) (gev rfl hb)) ?_
  refine WL_g (Gd_b rfl rfl) rfl (fun hb => VS_eql (gev rfl hb) rfl) ?_
  refine WL_v rfl (VS_or rfl rfl) ?_
  refine WL_nil ?_
  refine WQ_then ?_
  refine WP_if rfl (fun hc => ?_) (fun hc => ?_)
  ·
    replace h := cn_t hc h
    refine WP_seq ?_
    refine WP_region ?_
    refine WL_v rfl (VS_assign rfl) ?_
    refine WL_v rfl (VS_assign rfl) ?_
    refine WL_nil ?_
    refine WQ_then ?_
    refine WP_ret ?_
    refine WQ_then_ret ?_
    replace h := Option.some.inj h
    subst h
    exact WQ_ret () rfl (.tmp rfl (.tmp rfl .nil)) trivial rfl (ks := []) rfl (by decide)
  ·
    replace h := cn_f hc h
    refine WP_skip ?_
    refine WQ_then ?_
    refine WP_seq ?_
    obtain ⟨hg23, h⟩ := gu_e h
    refine WP_region ?_
    refine WL_v rfl (VS_move rfl) ?_
    refine WL_v rfl (VS_field0 rfl) ?_
    refine WL_v rfl (VS_index0 (m := (Int.toNat a1)) rfl rfl (inb_e hg23).1 (inb_e hg23).2) ?_
    refine WL_v rfl (VS_field rfl) ?_
    refine WL_v rfl (VS_ldi ((P_mark_Marks_slots.c0 (Pth.idx (L := L_mark_line) (m := 32) (k := 10) ((Int.toNat a1)) (inb_e hg23).2 rfl)).comp P_mark_line_has) rfl) ?_
    refine WL_v rfl (VS_conv rfl rfl) ?_
    refine WL_v rfl (VS_sub rfl rfl rfl) ?_
    refine WL_v rfl (VS_assign rfl) ?_
    refine WL_v rfl (VS_assign rfl) ?_
    refine WL_nil ?_
    refine WQ_then ?_
    refine WP_ret ?_
    replace h := Option.some.inj h
    subst h
    exact WQ_ret () rfl (.tmp rfl (.tmp rfl .nil)) trivial rfl (ks := []) rfl (by decide)
def mark_Marks_Held (n : Nat) (a0 : mark_Marks) (a1 : Int) : Option (List Int) :=
  loop2 (fun k33 (x27 : (List Int)) (x30 : Int) =>
  cn (decide (x30 < 32)) (
  bd (mark_Marks_Holder n a0 x30) fun x34 =>
  cn ((x34.2 && (x34.1 == a1))) (
  gu (apok x27.length 1 8) <|
  lt (x27 ++ ([x30]) : List Int) fun x36 =>
  k33 x36 (wr .i64 (x30 + 1))) (
  k33 x27 (wr .i64 (x30 + 1)))) (
  some x27)) n ([]) 0
theorem c_mark_Marks_Held {n : Nat} {a0 : mark_Marks} {a1 : Int} {r : (List Int)}  (h : mark_Marks_Held n a0 a1 = some r) : FnB Try.prog 102 [.agg (L_mark_Marks.enc a0).toArray, .int .i64 a1] (fun _ => True) (fun J v => Fz J v (LI .i64) r) := by
  unfold mark_Marks_Held at h
  refine fn_of Try.func102 (by kernel_rfl) rfl Try.ntmps102 rfl (fun cx hbs hpre hro => ?_)
  refine WP_seq ?_
  refine WP_region ?_
  refine WL_x rfl (RX_boxL L_mark_Marks a0 rfl rfl) (fun b2 _ => ?_)
  refine WL_v rfl (VS_assign rfl) ?_
  refine WL_nil ?_
  refine WQ_then ?_
  refine WP_seq ?_
  refine WP_region ?_
  refine WL_v rfl (VS_assign rfl) ?_
  refine WL_nil ?_
  refine WQ_then ?_
  refine WP_seq ?_
  refine WP_seq ?_
  refine WP_region ?_
  refine WL_v rfl (VS_move rfl) ?_
  refine WL_nil ?_
  refine WQ_then ?_
  refine WP_block ?_
  refine WP_rowN 3 1 (LI .i64) ?_
  obtain ⟨lb31, hlb31, h⟩ := lp2_i h
  refine WP_loops (α := Nat × (List Int) × Int × Value) [1, 2] (.cons rfl (.cons rfl (.nil))) (fun (m32, x27, x30, v28) => [(5, v28), (9, .int .i64 x30)]) (fun (m32, x27, x30, v28) => [Row v28 3 1 (LI .i64) x27, .cells b2 96 (L_mark_Marks.enc a0)]) (fun (m32, x27, x30, v28) => SlN v28 x27.length ∧ loop2 lb31 m32 x27 x30 = some r) (fun (m32, x27, x30, v28) => m32) (n, [], 0, .slice none 0 0) ⟨⟨_, _, rfl⟩, h⟩ (Sub_cons rfl (Sub_cons rfl (Sub_nil))) (ks := [0, 1]) rfl (by decide) ?_
  rintro ⟨m32, x27, x30, v28⟩ ⟨hs29, h⟩
  replace h : loop2 lb31 m32 x27 x30 = some r := h
  replace h := lp2_s hlb31 h
  obtain ⟨m32, rfl, h⟩ := h
  refine WP_seq ?_
  refine WP_region ?_
  refine WL_v rfl (VS_lss rfl rfl) ?_
  refine WL_nil ?_
  refine WQ_then ?_
  refine WP_seq ?_
  refine WP_if rfl (fun hc => ?_) (fun hc => ?_)
  ·
    replace h := cn_t hc h
    refine WP_skip ?_
    refine WQ_then ?_
    refine WP_seq ?_
    refine WP_block ?_
    refine WP_seq ?_
    refine WP_region ?_
    refine WL_v rfl (VS_move rfl) ?_
    refine WL_v rfl (VS_assign rfl) ?_
    refine WL_nil ?_
    refine WQ_then ?_
    refine WP_seq ?_
    obtain ⟨x34, hx34, h⟩ := bd_e h
    refine WP_region ?_
    refine WL_v rfl (VS_lda (M := L_mark_Marks) (Pth.id (L := L_mark_Marks)) rfl rfl) ?_
    refine WL_v rfl (VS_move rfl) ?_
    refine WL_v rfl (VS_call (c_mark_Marks_Holder hx34) rfl (fun _ _ _ => trivial)) ?_
    refine WL_v rfl (VS_move rfl) ?_
    refine WL_v rfl (VS_extract rfl rfl) ?_
    refine WL_v rfl (VS_extract rfl rfl) ?_
    refine WL_v rfl (VS_assign rfl) ?_
    refine WL_v rfl (VS_assign rfl) ?_
    refine WL_nil ?_
    refine WQ_then ?_
    refine WP_seq ?_
    refine WP_region ?_
    refine WL_v rfl (VS_move rfl) ?_
    refine WL_v rfl (VS_move rfl) ?_
    refine WL_g (Gd_b rfl rfl) rfl (fun hb => VS_move rfl) ?_
    refine WL_g (Gd_b rfl rfl) rfl (fun hb => VS_move rfl) ?_
    refine WL_g (Gd_b rfl rfl) rfl (fun hb => VS_eql (gev rfl hb) (gev rfl hb)) ?_
    refine WL_v rfl (VS_and rfl rfl) ?_
    refine WL_nil ?_
    refine WQ_then ?_
    refine WP_if rfl (fun hc => ?_) (fun hc => ?_)
    ·
      replace h := cn_t hc h
      obtain ⟨hg35, h⟩ := gu_e h
      obtain ⟨x36, hx36, h⟩ := lt_e h
      refine WP_region ?_
      refine WL_v rfl (VS_move rfl) ?_
      refine WL_v rfl (VS_move rfl) ?_
      refine WL_x rfl (RX_bs1 (LI .i64) x30 rfl rfl rfl rfl (by decide) (by decide)) (fun b26 _ => ?_)
      refine WL_x rfl (RX_app1 (L := (LI .i64)) (xs := x27) (y := x30) (bytes := 8) rfl rfl rfl (apok_e hg35).1 (apok_e hg35).2) (fun v37 hs38 => ?_)
      rw [← hx36] at hs38; rw [← hx36]
      refine WL_v rfl (VS_assign rfl) ?_
      refine WL_nil ?_
      refine WQ_block ?_
      refine WQ_then ?_
      refine WP_region ?_
      refine WL_v rfl (VS_add rfl rfl rfl) ?_
      refine WL_v rfl (VS_move rfl) ?_
      refine WL_nil ?_
      exact WQ_loops (m32, x36, wr .i64 (x30 + 1), v37) (Nat.lt_succ_self _) ⟨hs38, h⟩ (Sub_cons rfl (Sub_cons rfl (Sub_nil))) (.cons rfl (.cons rfl (.nil))) (ks := [1, 2]) rfl (by decide)
    ·
      replace h := cn_f hc h
      refine WP_skip ?_
      refine WQ_block ?_
      refine WQ_then ?_
      refine WP_region ?_
      refine WL_v rfl (VS_add rfl rfl rfl) ?_
      refine WL_v rfl (VS_move rfl) ?_
      refine WL_nil ?_
      exact WQ_loops (m32, x27, wr .i64 (x30 + 1), v28) (Nat.lt_succ_self _) ⟨hs29, h⟩ (Sub_cons rfl (Sub_cons rfl (Sub_nil))) (.cons rfl (.cons rfl (.nil))) (ks := [0, 1]) rfl (by decide)
  ·
    replace h := cn_f hc h
    refine WP_exit ?_
    refine WQ_then_exit ?_
    refine WQ_then_exit ?_
    refine WQ_block_exit ?_
    refine WQ_then ?_
    refine WP_seq ?_
    refine WP_region ?_
    refine WL_v rfl (VS_move rfl) ?_
    refine WL_v rfl (VS_assign rfl) ?_
    refine WL_nil ?_
    refine WQ_then ?_
    refine WP_ret ?_
    replace h := Option.some.inj h
    subst h
    refine WQ_bundle (R := [Row v28 3 1 (LI .i64) x27]) (H' := []) (ks := [0]) rfl (by decide) ?_
    have p39 : Fz (Hs [.ext (blks [Row v28 3 1 (LI .i64) x27]) (Hs [Row v28 3 1 (LI .i64) x27])]) v28 (LI .i64) x27 := (Fz.row (e := 3) (sz := 1) (L := (LI .i64)) rfl hs29).mono ent
    exact WQ_ret (v28, blks [Row v28 3 1 (LI .i64) x27], Hs [Row v28 3 1 (LI .i64) x27]) rfl (.tmp rfl .nil) p39 rfl (ks := [0]) rfl (by decide)
def mark_Marks_Waiting (n : Nat) (a0 : mark_Marks) (a1 : Int) : Option (List Int) :=
  bd (mark_may n a1 0) fun x21 =>
  cn ((!x21)) (
  some ([] : List Int)) (
  gu (inb a1 32) <|
  loop2 (fun k36 (x30 : (List Int)) (x33 : Int) =>
  cn (decide (x33 < ((a0.slots (Int.toNat a1)).n))) (
  gu (inb a1 32) <|
  gu (inb x33 8) <|
  gu (apok x30.length 1 8) <|
  lt (x30 ++ ([wr .i64 ((a0.slots (Int.toNat a1)).wait (Int.toNat x33))]) : List Int) fun x40 =>
  k36 x40 (wr .i64 (x33 + 1))) (
  some x30)) n ([]) 0)
theorem c_mark_Marks_Waiting {n : Nat} {a0 : mark_Marks} {a1 : Int} {r : (List Int)}  (h : mark_Marks_Waiting n a0 a1 = some r) : FnB Try.prog 49 [.agg (L_mark_Marks.enc a0).toArray, .int .i64 a1] (fun _ => True) (fun J v => Fz J v (LI .i64) r) := by
  unfold mark_Marks_Waiting at h
  refine fn_of Try.func49 (by kernel_rfl) rfl Try.ntmps49 rfl (fun cx hbs hpre hro => ?_)
  refine WP_seq ?_
  refine WP_region ?_
  refine WL_x rfl (RX_boxL L_mark_Marks a0 rfl rfl) (fun b2 _ => ?_)
  refine WL_v rfl (VS_assign rfl) ?_
  refine WL_nil ?_
  refine WQ_then ?_
  refine WP_seq ?_
  refine WP_seq ?_
  obtain ⟨x21, hx21, h⟩ := bd_e h
  refine WP_region ?_
  refine WL_v rfl (VS_move rfl) ?_
  refine WL_v rfl (VS_call (c_mark_may hx21) rfl (fun _ _ _ => trivial)) ?_
  refine WL_v rfl (VS_not rfl) ?_
  refine WL_nil ?_
  refine WQ_then ?_
  refine WP_if rfl (fun hc => ?_) (fun hc => ?_)
  ·
    replace h := cn_t hc h
    refine WP_seq ?_
    refine WP_region ?_
    refine WL_v rfl (VS_assign rfl) ?_
    refine WL_nil ?_
    refine WQ_then ?_
    refine WP_ret ?_
    refine WQ_then_ret ?_
    replace h := Option.some.inj h
    subst h
    refine WQ_bundle (R := []) (H' := []) (ks := []) rfl (by decide) ?_
    have p22 : Fz (Hs [.ext (blks []) (Hs [])]) (.slice none 0 0) (LI .i64) ([] : List Int) := (Fz.nil (A := Hs [])).mono ent
    exact WQ_ret (.slice none 0 0, blks [], Hs []) rfl (.tmp rfl .nil) p22 rfl (ks := [0]) rfl (by decide)
  ·
    replace h := cn_f hc h
    refine WP_skip ?_
    refine WQ_then ?_
    refine WP_seq ?_
    refine WP_region ?_
    refine WL_v rfl (VS_assign rfl) ?_
    refine WL_nil ?_
    refine WQ_then ?_
    refine WP_seq ?_
    refine WP_seq ?_
    obtain ⟨hg23, h⟩ := gu_e h
    refine WP_region ?_
    refine WL_v rfl (VS_move rfl) ?_
    refine WL_v rfl (VS_field0 rfl) ?_
    refine WL_v rfl (VS_index0 (m := (Int.toNat a1)) rfl rfl (inb_e hg23).1 (inb_e hg23).2) ?_
    refine WL_v rfl (VS_field rfl) ?_
    refine WL_v rfl (VS_ldi ((P_mark_Marks_slots.c0 (Pth.idx (L := L_mark_line) (m := 32) (k := 10) ((Int.toNat a1)) (inb_e hg23).2 rfl)).comp P_mark_line_n) rfl) ?_
    refine WL_v rfl (VS_move rfl) ?_
    refine WL_nil ?_
    refine WQ_then ?_
    refine WP_block ?_
    refine WP_rowN 3 1 (LI .i64) ?_
    obtain ⟨lb34, hlb34, h⟩ := lp2_i h
    refine WP_loops (α := Nat × (List Int) × Int × Value) [1, 2, 14] (.cons rfl (.cons rfl (.cons rfl (.nil)))) (fun (m35, x30, x33, v31) => [(5, v31), (15, .int .i64 x33)]) (fun (m35, x30, x33, v31) => [Row v31 3 1 (LI .i64) x30, .cells b2 96 (L_mark_Marks.enc a0)]) (fun (m35, x30, x33, v31) => SlN v31 x30.length ∧ loop2 lb34 m35 x30 x33 = some r) (fun (m35, x30, x33, v31) => m35) (n, [], 0, .slice none 0 0) ⟨⟨_, _, rfl⟩, h⟩ (Sub_cons rfl (Sub_cons rfl (Sub_nil))) (ks := [0, 1]) rfl (by decide) ?_
    rintro ⟨m35, x30, x33, v31⟩ ⟨hs32, h⟩
    replace h : loop2 lb34 m35 x30 x33 = some r := h
    replace h := lp2_s hlb34 h
    obtain ⟨m35, rfl, h⟩ := h
    refine WP_seq ?_
    refine WP_region ?_
    refine WL_v rfl (VS_lss rfl rfl) ?_
    refine WL_nil ?_
    refine WQ_then ?_
    refine WP_seq ?_
    refine WP_if rfl (fun hc => ?_) (fun hc => ?_)
    ·
      replace h := cn_t hc h
      refine WP_skip ?_
      refine WQ_then ?_
      refine WP_seq ?_
      refine WP_block ?_
      refine WP_seq ?_
      refine WP_region ?_
      refine WL_v rfl (VS_move rfl) ?_
      refine WL_v rfl (VS_assign rfl) ?_
      refine WL_nil ?_
      refine WQ_then ?_
      obtain ⟨hg37, h⟩ := gu_e h
      obtain ⟨hg38, h⟩ := gu_e h
      obtain ⟨hg39, h⟩ := gu_e h
      obtain ⟨x40, hx40, h⟩ := lt_e h
      refine WP_region ?_
      refine WL_v rfl (VS_move rfl) ?_
      refine WL_v rfl (VS_move rfl) ?_
      refine WL_v rfl (VS_move rfl) ?_
      refine WL_v rfl (VS_field0 rfl) ?_
      refine WL_v rfl (VS_index0 (m := (Int.toNat a1)) rfl rfl (inb_e hg37).1 (inb_e hg37).2) ?_
      refine WL_v rfl (VS_field rfl) ?_
      refine WL_v rfl (VS_index (m := (Int.toNat x33)) rfl rfl (inb_e hg38).1 (inb_e hg38).2) ?_
      refine WL_v rfl (VS_ldi (((P_mark_Marks_slots.c0 (Pth.idx (L := L_mark_line) (m := 32) (k := 10) ((Int.toNat a1)) (inb_e hg37).2 rfl)).comp P_mark_line_wait).comp (Pth.idx (L := (LI .u8)) (m := 8) (k := 1) ((Int.toNat x33)) (inb_e hg38).2 rfl)) rfl) ?_
      refine WL_v rfl (VS_conv rfl rfl) ?_
      refine WL_x rfl (RX_bs1 (LI .i64) (wr .i64 ((a0.slots (Int.toNat a1)).wait (Int.toNat x33))) rfl rfl rfl rfl (by decide) (by decide)) (fun b27 _ => ?_)
      refine WL_x rfl (RX_app1 (L := (LI .i64)) (xs := x30) (y := (wr .i64 ((a0.slots (Int.toNat a1)).wait (Int.toNat x33)))) (bytes := 8) rfl rfl rfl (apok_e hg39).1 (apok_e hg39).2) (fun v41 hs42 => ?_)
      rw [← hx40] at hs42; rw [← hx40]
      refine WL_v rfl (VS_assign rfl) ?_
      refine WL_nil ?_
      refine WQ_block ?_
      refine WQ_then ?_
      refine WP_region ?_
      refine WL_v rfl (VS_add rfl rfl rfl) ?_
      refine WL_v rfl (VS_move rfl) ?_
      refine WL_nil ?_
      exact WQ_loops (m35, x40, wr .i64 (x33 + 1), v41) (Nat.lt_succ_self _) ⟨hs42, h⟩ (Sub_cons rfl (Sub_cons rfl (Sub_nil))) (.cons rfl (.cons rfl (.cons rfl (.nil)))) (ks := [1, 2]) rfl (by decide)
    ·
      replace h := cn_f hc h
      refine WP_exit ?_
      refine WQ_then_exit ?_
      refine WQ_then_exit ?_
      refine WQ_block_exit ?_
      refine WQ_then ?_
      refine WP_seq ?_
      refine WP_region ?_
      refine WL_v rfl (VS_move rfl) ?_
      refine WL_v rfl (VS_assign rfl) ?_
      refine WL_nil ?_
      refine WQ_then ?_
      refine WP_ret ?_
      replace h := Option.some.inj h
      subst h
      refine WQ_bundle (R := [Row v31 3 1 (LI .i64) x30]) (H' := []) (ks := [0]) rfl (by decide) ?_
      have p43 : Fz (Hs [.ext (blks [Row v31 3 1 (LI .i64) x30]) (Hs [Row v31 3 1 (LI .i64) x30])]) v31 (LI .i64) x30 := (Fz.row (e := 3) (sz := 1) (L := (LI .i64)) rfl hs32).mono ent
      exact WQ_ret (v31, blks [Row v31 3 1 (LI .i64) x30], Hs [Row v31 3 1 (LI .i64) x30]) rfl (.tmp rfl .nil) p43 rfl (ks := [0]) rfl (by decide)
def law15_row (n : Nat) (a0 : (List Int)) (a1 : (List Int)) : Option Bool :=
  cn (((a0.length : Int) != (a1.length : Int))) (
  some false) (
  loop1 (fun k25 (x22 : Int) =>
  cn (decide (x22 < (a0.length : Int))) (
  gu (inb x22 a0.length) <|
  gu (inb x22 a1.length) <|
  cn (((a0.getD (Int.toNat x22) default) != (a1.getD (Int.toNat x22) default))) (
  some false) (
  k25 (wr .i64 (x22 + 1)))) (
  some true)) n 0)
theorem c_law15_row {n : Nat} {a0 : (List Int)} {a1 : (List Int)} {r : Bool} {K : World → Prop} [Stable K] {v0 : Value} (f0 : Fz K v0 (LI .i64) a0) {v1 : Value} (f1 : Fz K v1 (LI .i64) a1) (h : law15_row n a0 a1 = some r) : FnW Try.prog 108 [v0, v1] K (.bool r) := by
  unfold law15_row at h
  refine fn_of Try.func108 (by kernel_rfl) rfl Try.ntmps108 rfl (fun cx hbs hpre hro => ?_)
  haveI := kn_pre hbs hpre
  refine WP_seq ?_
  refine WP_region ?_
  refine WL_v rfl (VS_assign rfl) ?_
  refine WL_nil ?_
  refine WQ_then ?_
  refine WP_seq ?_
  refine WP_seq ?_
  refine WP_region ?_
  refine WL_v rfl (VS_move rfl) ?_
  refine WL_v rfl (VS_lenF f0 rfl) ?_
  refine WL_v rfl (VS_move rfl) ?_
  refine WL_v rfl (VS_lenF f1 rfl) ?_
  refine WL_v rfl (VS_neq rfl rfl) ?_
  refine WL_nil ?_
  refine WQ_then ?_
  refine WP_if rfl (fun hc => ?_) (fun hc => ?_)
  ·
    replace h := cn_t hc h
    refine WP_seq ?_
    refine WP_region ?_
    refine WL_v rfl (VS_assign rfl) ?_
    refine WL_nil ?_
    refine WQ_then ?_
    refine WP_ret ?_
    refine WQ_then_ret ?_
    replace h := Option.some.inj h
    subst h
    exact WQ_ret () rfl (.tmp rfl .nil) trivial rfl (ks := []) rfl (by decide)
  ·
    replace h := cn_f hc h
    refine WP_skip ?_
    refine WQ_then ?_
    refine WP_seq ?_
    refine WP_seq ?_
    refine WP_region ?_
    refine WL_v rfl (VS_assign rfl) ?_
    refine WL_nil ?_
    refine WQ_then ?_
    refine WP_block ?_
    obtain ⟨lb23, hlb23, h⟩ := lp1_i h
    refine WP_loops (α := Nat × Int) [0, 1] (.cons rfl (.cons rfl (.nil))) (fun (m24, x22) => [(5, .int .i64 x22)]) (fun (m24, x22) => []) (fun (m24, x22) => loop1 lb23 m24 x22 = some r) (fun (m24, x22) => m24) (n, 0) h (Sub_cons rfl (Sub_nil)) (ks := []) rfl (by decide) ?_
    rintro ⟨m24, x22⟩ h
    replace h : loop1 lb23 m24 x22 = some r := h
    replace h := lp1_s hlb23 h
    obtain ⟨m24, rfl, h⟩ := h
    refine WP_seq ?_
    refine WP_seq ?_
    refine WP_region ?_
    refine WL_v rfl (VS_move rfl) ?_
    refine WL_v rfl (VS_move rfl) ?_
    refine WL_v rfl (VS_lenF f0 rfl) ?_
    refine WL_v rfl (VS_lss rfl rfl) ?_
    refine WL_nil ?_
    refine WQ_then ?_
    refine WP_if rfl (fun hc => ?_) (fun hc => ?_)
    ·
      replace h := cn_t hc h
      refine WP_skip ?_
      refine WQ_then ?_
      refine WP_seq ?_
      refine WP_block ?_
      refine WP_seq ?_
      obtain ⟨hg26, h⟩ := gu_e h
      obtain ⟨hg27, h⟩ := gu_e h
      refine WP_draw mixed (.fin [] [(0, [0]), (1, [5]), (2, [17, 18]), (3, [19]), (4, [1]), (5, [5]), (6, [21, 22]), (7, [23]), (8, [20, 24])]) (by kernel_rfl) ?_
      refine Stg_fin ?_ ?_
      · exact ReOk_nil
      refine NewOk_cons rfl rfl (VG_v rfl (VS_move rfl)) ?_
      refine NewOk_cons rfl rfl (VG_v rfl (VS_move rfl)) ?_
      refine NewOk_cons rfl rfl (VG_v rfl (VS_ixF (m := (Int.toNat x22)) f0 rfl rfl rfl (inb_e hg26).1 (inb_e hg26).2)) ?_
      refine NewOk_cons rfl rfl (VG_v rfl (VS_ldiF f0 (Pth.idx (L := (LI .i64)) (m := (a0.length)) (k := 1) ((Int.toNat x22)) (inb_e hg26).2 rfl) rfl)) ?_
      refine NewOk_cons rfl rfl (VG_v rfl (VS_move rfl)) ?_
      refine NewOk_cons rfl rfl (VG_v rfl (VS_move rfl)) ?_
      refine NewOk_cons rfl rfl (VG_v rfl (VS_ixF (m := (Int.toNat x22)) f1 rfl rfl rfl (inb_e hg27).1 (inb_e hg27).2)) ?_
      refine NewOk_cons rfl rfl (VG_v rfl (VS_ldiF f1 (Pth.idx (L := (LI .i64)) (m := (a1.length)) (k := 1) ((Int.toNat x22)) (inb_e hg27).2 rfl) rfl)) ?_
      refine NewOk_cons rfl rfl (VG_v rfl (VS_neq rfl rfl)) ?_
      refine NewOk_nil ?_
      refine WQ_then ?_
      refine WP_if rfl (fun hc => ?_) (fun hc => ?_)
      ·
        replace h := cn_t hc h
        refine WP_seq ?_
        refine WP_region ?_
        refine WL_v rfl (VS_assign rfl) ?_
        refine WL_nil ?_
        refine WQ_then ?_
        refine WP_ret ?_
        refine WQ_block_ret ?_
        refine WQ_then_ret ?_
        refine WQ_then_ret ?_
        refine WQ_block_ret ?_
        refine WQ_then_ret ?_
        replace h := Option.some.inj h
        subst h
        exact WQ_ret () rfl (.tmp rfl .nil) trivial rfl (ks := []) rfl (by decide)
      ·
        replace h := cn_f hc h
        refine WP_skip ?_
        refine WQ_block ?_
        refine WQ_then ?_
        refine WP_region ?_
        refine WL_v rfl (VS_move rfl) ?_
        refine WL_v rfl (VS_add rfl rfl rfl) ?_
        refine WL_v rfl (VS_assign rfl) ?_
        refine WL_nil ?_
        exact WQ_loops (m24, wr .i64 (x22 + 1)) (Nat.lt_succ_self _) h (Sub_cons rfl (Sub_nil)) (.cons rfl (.cons rfl (.nil))) (ks := []) rfl (by decide)
    ·
      replace h := cn_f hc h
      refine WP_exit ?_
      refine WQ_then_exit ?_
      refine WQ_then_exit ?_
      refine WQ_block_exit ?_
      refine WQ_then ?_
      refine WP_seq ?_
      refine WP_region ?_
      refine WL_v rfl (VS_assign rfl) ?_
      refine WL_nil ?_
      refine WQ_then ?_
      refine WP_ret ?_
      replace h := Option.some.inj h
      subst h
      exact WQ_ret () rfl (.tmp rfl .nil) trivial rfl (ks := []) rfl (by decide)
def law15_same (n : Nat) (a0 : mark_Marks) (a1 : ref15_Marks) : Option Bool :=
  loop1 (fun k25 (x22 : Int) =>
  cn (decide (x22 < 32)) (
  bd (mark_Marks_Holder n a0 x22) fun x26 =>
  gu (inb x22 32) <|
  gu (!(((x26.2 != (decide (0 ≤ (a1.Has (Int.toNat x22))))) == false) && (x26.2 == true)) || inb x22 32) <|
  cl ((((x26.2 != (decide (0 ≤ (a1.Has (Int.toNat x22))))) || (x26.2 && (x26.1 != (a1.Has (Int.toNat x22))))) || ((!x26.2) && (x26.1 != 0))) == false) (mark_Marks_Waiting n a0 x22) default fun x29 =>
  gu (!((((x26.2 != (decide (0 ≤ (a1.Has (Int.toNat x22))))) || (x26.2 && (x26.1 != (a1.Has (Int.toNat x22))))) || ((!x26.2) && (x26.1 != 0))) == false) || inb x22 32) <|
  cl ((((x26.2 != (decide (0 ≤ (a1.Has (Int.toNat x22))))) || (x26.2 && (x26.1 != (a1.Has (Int.toNat x22))))) || ((!x26.2) && (x26.1 != 0))) == false) (law15_row n x29 (a1.Wait (Int.toNat x22))) default fun x38 =>
  cn (((((x26.2 != (decide (0 ≤ (a1.Has (Int.toNat x22))))) || (x26.2 && (x26.1 != (a1.Has (Int.toNat x22))))) || ((!x26.2) && (x26.1 != 0))) || (!x38))) (
  some false) (
  k25 (wr .i64 (x22 + 1)))) (
  loop1 (fun k43 (x40 : Int) =>
  cn (decide (x40 < 8)) (
  loop2 (fun k56 (x50 : (List Int)) (x53 : Int) =>
  cn (decide (x53 < 32)) (
  gu (inb x53 32) <|
  cn (((a1.Has (Int.toNat x53)) == x40)) (
  gu (apok x50.length 1 8) <|
  lt (x50 ++ ([x53]) : List Int) fun x59 =>
  k56 x59 (wr .i64 (x53 + 1))) (
  k56 x50 (wr .i64 (x53 + 1)))) (
  bd (mark_Marks_Held n a0 x40) fun x62 =>
  bd (law15_row n x62 x50) fun x69 =>
  cn ((!x69)) (
  some false) (
  k43 (wr .i64 (x40 + 1))))) n ([]) 0) (
  bd (mark_Marks_Holder n a0 (-1)) fun x70 =>
  bd (mark_Marks_Holder n a0 32) fun x71 =>
  cl (((!x70.2) && (!x71.2)) == true) (mark_Marks_Waiting n a0 (-1)) default fun x72 =>
  cl ((((!x70.2) && (!x71.2)) && ((x72.length : Int) == 0)) == true) (mark_Marks_Waiting n a0 32) default fun x78 =>
  some ((((!x70.2) && (!x71.2)) && ((x72.length : Int) == 0)) && ((x78.length : Int) == 0)))) n 0)) n 0
theorem c_law15_same {n : Nat} {a0 : mark_Marks} {a1 : ref15_Marks} {r : Bool} {K : World → Prop} [Stable K] {cs1 : List Value} (f1 : (L_ref15_Marks).rep K cs1 a1) (h : law15_same n a0 a1 = some r) : FnW Try.prog 47 [.agg (L_mark_Marks.enc a0).toArray, .agg cs1.toArray] K (.bool r) := by
  unfold law15_same at h
  refine fn_of Try.func47 (by kernel_rfl) rfl Try.ntmps47 rfl (fun cx hbs hpre hro => ?_)
  haveI := kn_pre hbs hpre
  refine WP_seq ?_
  refine WP_region ?_
  refine WL_x rfl (RX_boxL L_mark_Marks a0 rfl rfl) (fun b2 _ => ?_)
  refine WL_x rfl (RX_boxa rfl) (fun b3 _ => ?_)
  refine WL_v rfl (VS_assign rfl) ?_
  refine WL_nil ?_
  refine WQ_then ?_
  refine WP_seq ?_
  refine WP_seq ?_
  refine WP_region ?_
  refine WL_v rfl (VS_assign rfl) ?_
  refine WL_nil ?_
  refine WQ_then ?_
  refine WP_block ?_
  obtain ⟨lb23, hlb23, h⟩ := lp1_i h
  refine WP_loops (α := Nat × Int) [2, 3] (.cons rfl (.cons rfl (.nil))) (fun (m24, x22) => [(5, .int .i64 x22)]) (fun (m24, x22) => [.cells b3 100 cs1, .cells b2 96 (L_mark_Marks.enc a0)]) (fun (m24, x22) => loop1 lb23 m24 x22 = some r) (fun (m24, x22) => m24) (n, 0) h (Sub_cons rfl (Sub_nil)) (ks := [0, 1]) rfl (by decide) ?_
  rintro ⟨m24, x22⟩ h
  replace h : loop1 lb23 m24 x22 = some r := h
  replace h := lp1_s hlb23 h
  obtain ⟨m24, rfl, h⟩ := h
  refine WP_seq ?_
  refine WP_seq ?_
  refine WP_region ?_
  refine WL_v rfl (VS_move rfl) ?_
  refine WL_v rfl (VS_lss rfl rfl) ?_
  refine WL_nil ?_
  refine WQ_then ?_
  refine WP_if rfl (fun hc => ?_) (fun hc => ?_)
  ·
    replace h := cn_t hc h
    refine WP_skip ?_
    refine WQ_then ?_
    refine WP_seq ?_
    refine WP_block ?_
    refine WP_seq ?_
    obtain ⟨x26, hx26, h⟩ := bd_e h
    refine WP_region ?_
    refine WL_v rfl (VS_lda (M := L_mark_Marks) (Pth.id (L := L_mark_Marks)) rfl rfl) ?_
    refine WL_v rfl (VS_move rfl) ?_
    refine WL_v rfl (VS_call (c_mark_Marks_Holder hx26) rfl (fun _ _ _ => trivial)) ?_
    refine WL_v rfl (VS_move rfl) ?_
    refine WL_v rfl (VS_extract rfl rfl) ?_
    refine WL_v rfl (VS_extract rfl rfl) ?_
    refine WL_v rfl (VS_assign rfl) ?_
    refine WL_v rfl (VS_assign rfl) ?_
    refine WL_nil ?_
    refine WQ_then ?_
    refine WP_seq ?_
    obtain ⟨hg27, h⟩ := gu_e h
    obtain ⟨hg28, h⟩ := gu_e h
    obtain ⟨x29, hx29, _, h⟩ := cl_e h
    obtain ⟨hg35, h⟩ := gu_e h
    obtain ⟨x38, hx38, _, h⟩ := cl_e h
    refine WP_draw mixed (.stg [] [(0, [7]), (1, [5]), (2, [3]), (3, [26, 27]), (4, [28]), (5, [29]), (6, [25, 30]), (7, [31]), (8, [7, 32]), (9, [32, 33]), (10, [6, 34]), (11, [5, 34]), (12, [3, 34]), (13, [34, 36, 37]), (14, [34, 38]), (15, [34, 35, 39]), (16, [32, 34, 40]), (17, [32, 41]), (18, [42]), (19, [7, 43]), (20, [43, 44]), (21, [43, 45]), (22, [6, 46]), (23, [46, 47]), (24, [43, 46, 48]), (25, [43, 49]), (26, [50]), (27, [2, 51]), (28, [5, 51]), (30, [5, 51]), (31, [3, 51]), (32, [51, 55, 56]), (33, [51, 57])] (.alt 29 [51, 52, 53] (.fin [(0, [7]), (1, [5]), (2, [3]), (3, [26, 27]), (4, [28]), (5, [29]), (6, [25, 30]), (7, [31]), (8, [7, 32]), (9, [32, 33]), (10, [6, 34]), (11, [5, 34]), (12, [3, 34]), (13, [34, 36, 37]), (14, [34, 38]), (15, [34, 35, 39]), (16, [32, 34, 40]), (17, [32, 41]), (18, [42]), (19, [7, 43]), (20, [43, 44]), (21, [43, 45]), (22, [6, 46]), (23, [46, 47]), (24, [43, 46, 48]), (25, [43, 49]), (30, [5, 51]), (31, [3, 51]), (32, [51, 55, 56]), (33, [51, 57])] [(34, [51, 54, 58]), (35, [51, 59]), (36, [51, 60])]) .no)) (by kernel_rfl) ?_
    refine Stg_stg ?_ ?_
    · exact ReOk_nil
    refine NewOk_cons rfl rfl (VG_v rfl (VS_move rfl)) ?_
    refine NewOk_cons rfl rfl (VG_v rfl (VS_move rfl)) ?_
    refine NewOk_cons rfl rfl (VG_v rfl (VS_field0 rfl)) ?_
    refine NewOk_cons rfl rfl (VG_v rfl (VS_index0 (m := (Int.toNat x22)) rfl rfl (inb_e hg27).1 (inb_e hg27).2)) ?_
    refine NewOk_cons rfl rfl (VG_v rfl (VS_load rfl ((P_ref15_Marks_Has.c0 (Pth.idx (L := (LI .i64)) (m := 32) (k := 1) ((Int.toNat x22)) (inb_e hg27).2 rfl)).int f1))) ?_
    refine NewOk_cons rfl rfl (VG_v rfl (VS_geq rfl rfl)) ?_
    refine NewOk_cons rfl rfl (VG_v rfl (VS_neqb rfl rfl)) ?_
    refine NewOk_cons rfl rfl (VG_v rfl (VS_move rfl)) ?_
    refine NewOk_cons rfl rfl (VG_g (Gd_b rfl rfl) (fun hb => VS_move rfl)) ?_
    refine NewOk_cons rfl rfl (VG_g (Gd_b rfl rfl) (fun hb => VS_move (gev rfl hb))) ?_
    refine NewOk_cons rfl rfl (VG_g (Gd_g rfl rfl) (fun hb => VS_move rfl)) ?_
    refine NewOk_cons rfl rfl (VG_g (Gd_g rfl rfl) (fun hb => VS_move rfl)) ?_
    refine NewOk_cons rfl rfl (VG_g (Gd_g rfl rfl) (fun hb => VS_field0 rfl)) ?_
    refine NewOk_cons rfl rfl (VG_g (Gd_g rfl rfl) (fun hb => VS_index0 (m := (Int.toNat x22)) (gev rfl hb) (gev rfl hb) (inb_e (imp_b hg28 hb)).1 (inb_e (imp_b hg28 hb)).2)) ?_
    refine NewOk_cons rfl rfl (VG_g (Gd_g rfl rfl) (fun hb => VS_load (gev rfl hb) ((P_ref15_Marks_Has.c0 (Pth.idx (L := (LI .i64)) (m := 32) (k := 1) ((Int.toNat x22)) (inb_e (imp_b hg28 hb)).2 rfl)).int f1))) ?_
    refine NewOk_cons rfl rfl (VG_g (Gd_g rfl rfl) (fun hb => VS_neq (gev rfl hb) (gev rfl hb))) ?_
    refine NewOk_cons rfl rfl (VG_g (Gd_b rfl rfl) (fun hb => VS_and (gev rfl hb) (gev2 rfl hb))) ?_
    refine NewOk_cons rfl rfl (VG_v rfl (VS_or rfl rfl)) ?_
    refine NewOk_cons rfl rfl (VG_v rfl (VS_move rfl)) ?_
    refine NewOk_cons rfl rfl (VG_g (Gd_b rfl rfl) (fun hb => VS_move rfl)) ?_
    refine NewOk_cons rfl rfl (VG_g (Gd_b rfl rfl) (fun hb => VS_not (gev rfl hb))) ?_
    refine NewOk_cons rfl rfl (VG_g (Gd_b rfl rfl) (fun hb => VS_move (gev rfl hb))) ?_
    refine NewOk_cons rfl rfl (VG_g (Gd_g rfl rfl) (fun hb => VS_move rfl)) ?_
    refine NewOk_cons rfl rfl (VG_g (Gd_g rfl rfl) (fun hb => VS_neq (gev rfl hb) rfl)) ?_
    refine NewOk_cons rfl rfl (VG_g (Gd_b rfl rfl) (fun hb => VS_and (gev rfl hb) (gev2 rfl hb))) ?_
    refine NewOk_cons rfl rfl (VG_v rfl (VS_or rfl rfl)) ?_
    refine NewOk_cons rfl rfl (VG_v rfl (VS_move rfl)) ?_
    refine NewOk_cons rfl rfl (VG_g (Gd_b rfl rfl) (fun hb => VS_lda (M := L_mark_Marks) (Pth.id (L := L_mark_Marks)) rfl rfl)) ?_
    refine NewOk_cons rfl rfl (VG_g (Gd_b rfl rfl) (fun hb => VS_move rfl)) ?_
    refine NewOk_cons rfl rfl (VG_g (Gd_b rfl rfl) (fun hb => VS_move rfl)) ?_
    refine NewOk_cons rfl rfl (VG_g (Gd_b rfl rfl) (fun hb => VS_field0 rfl)) ?_
    refine NewOk_cons rfl rfl (VG_g (Gd_b rfl rfl) (fun hb => VS_index (m := (Int.toNat x22)) (gev rfl hb) (gev rfl hb) (inb_e (imp_b hg35 hb)).1 (inb_e (imp_b hg35 hb)).2)) ?_
    obtain ⟨v36, hv36, f37⟩ := guard_ex (g := ((((x26.2 != (decide (0 ≤ (a1.Has (Int.toNat x22))))) || (x26.2 && (x26.1 != (a1.Has (Int.toNat x22))))) || ((!x26.2) && (x26.1 != 0))) == false)) (fun hb => (P_ref15_Marks_Wait.comp (Pth.idx (L := (LSl (LI .i64))) (m := 32) (k := 1) ((Int.toNat x22)) (inb_e (imp_b hg35 hb)).2 rfl)).sl f1)
    refine NewOk_cons rfl rfl (VG_g (Gd_b rfl rfl) (fun hb => VS_load (gev rfl hb) (hv36 hb))) ?_
    refine NewOk_nil ?_
    refine Stg_some rfl rfl (RG_callB (Gd_b rfl rfl) (fun hb => c_mark_Marks_Waiting (hx29 hb)) (fun hb => (evs_cons (gev rfl hb) (evs_cons (gev rfl hb) rfl))) (fun hb => inferInstance)) (fun ⟨w30, bs31, J32⟩ hp33 => ?_) Stg_no
    have f34 : ((((x26.2 != (decide (0 ≤ (a1.Has (Int.toNat x22))))) || (x26.2 && (x26.1 != (a1.Has (Int.toNat x22))))) || ((!x26.2) && (x26.1 != 0))) == false) = true → Fz (Hs [.ext bs31 J32]) w30 (LI .i64) x29 := hp33
    refine Stg_fin ?_ ?_
    ·
      refine ReOk_cons rfl rfl (VG_v rfl (VS_move rfl)) ?_
      refine ReOk_cons rfl rfl (VG_v rfl (VS_move rfl)) ?_
      refine ReOk_cons rfl rfl (VG_v rfl (VS_field0 rfl)) ?_
      refine ReOk_cons rfl rfl (VG_v rfl (VS_val (VS_index0 (m := (Int.toNat x22)) rfl rfl (inb_e hg27).1 (inb_e hg27).2) rfl)) ?_
      refine ReOk_cons rfl rfl (VG_v rfl (VS_val (VS_load rfl ((P_ref15_Marks_Has.c0 (Pth.idx (L := (LI .i64)) (m := 32) (k := 1) ((Int.toNat x22)) (inb_e hg27).2 rfl)).int f1)) rfl)) ?_
      refine ReOk_cons rfl rfl (VG_v rfl (VS_val (VS_geq rfl rfl) rfl)) ?_
      refine ReOk_cons rfl rfl (VG_v rfl (VS_val (VS_neqb rfl rfl) rfl)) ?_
      refine ReOk_cons rfl rfl (VG_v rfl (VS_move rfl)) ?_
      refine ReOk_cons rfl rfl (VG_g (Gd_b rfl rfl) (fun hb => VS_move rfl)) ?_
      refine ReOk_cons rfl rfl (VG_g (Gd_b rfl rfl) (fun hb => VS_move (gev rfl hb))) ?_
      refine ReOk_cons rfl rfl (VG_g (Gd_g rfl rfl) (fun hb => VS_move rfl)) ?_
      refine ReOk_cons rfl rfl (VG_g (Gd_g rfl rfl) (fun hb => VS_move rfl)) ?_
      refine ReOk_cons rfl rfl (VG_g (Gd_g rfl rfl) (fun hb => VS_field0 rfl)) ?_
      refine ReOk_cons rfl rfl (VG_g (Gd_g rfl rfl) (fun hb => VS_val (VS_index0 (m := (Int.toNat x22)) (gev rfl hb) (gev rfl hb) (inb_e (imp_b hg28 hb)).1 (inb_e (imp_b hg28 hb)).2) rfl)) ?_
      refine ReOk_cons rfl rfl (VG_g (Gd_g rfl rfl) (fun hb => VS_val (VS_load (gev rfl hb) ((P_ref15_Marks_Has.c0 (Pth.idx (L := (LI .i64)) (m := 32) (k := 1) ((Int.toNat x22)) (inb_e (imp_b hg28 hb)).2 rfl)).int f1)) rfl)) ?_
      refine ReOk_cons rfl rfl (VG_g (Gd_g rfl rfl) (fun hb => VS_val (VS_neq (gev rfl hb) (gev rfl hb)) rfl)) ?_
      refine ReOk_cons rfl rfl (VG_g (Gd_b rfl rfl) (fun hb => VS_val (VS_and (gev rfl hb) (gev2 rfl hb)) rfl)) ?_
      refine ReOk_cons rfl rfl (VG_v rfl (VS_val (VS_or rfl rfl) rfl)) ?_
      refine ReOk_cons rfl rfl (VG_v rfl (VS_move rfl)) ?_
      refine ReOk_cons rfl rfl (VG_g (Gd_b rfl rfl) (fun hb => VS_move rfl)) ?_
      refine ReOk_cons rfl rfl (VG_g (Gd_b rfl rfl) (fun hb => VS_val (VS_not (gev rfl hb)) rfl)) ?_
      refine ReOk_cons rfl rfl (VG_g (Gd_b rfl rfl) (fun hb => VS_move (gev rfl hb))) ?_
      refine ReOk_cons rfl rfl (VG_g (Gd_g rfl rfl) (fun hb => VS_move rfl)) ?_
      refine ReOk_cons rfl rfl (VG_g (Gd_g rfl rfl) (fun hb => VS_val (VS_neq (gev rfl hb) rfl) rfl)) ?_
      refine ReOk_cons rfl rfl (VG_g (Gd_b rfl rfl) (fun hb => VS_val (VS_and (gev rfl hb) (gev2 rfl hb)) rfl)) ?_
      refine ReOk_cons rfl rfl (VG_v rfl (VS_val (VS_or rfl rfl) rfl)) ?_
      refine ReOk_cons rfl rfl (VG_g (Gd_b rfl rfl) (fun hb => VS_move rfl)) ?_
      refine ReOk_cons rfl rfl (VG_g (Gd_b rfl rfl) (fun hb => VS_field0 rfl)) ?_
      refine ReOk_cons rfl rfl (VG_g (Gd_b rfl rfl) (fun hb => VS_val (VS_index (m := (Int.toNat x22)) (gev rfl hb) (gev rfl hb) (inb_e (imp_b hg35 hb)).1 (inb_e (imp_b hg35 hb)).2) rfl)) ?_
      refine ReOk_cons rfl rfl (VG_g (Gd_b rfl rfl) (fun hb => VS_val (VS_load (gev rfl hb) (hv36 hb)) rfl)) ?_
      exact ReOk_nil
    refine NewOk_cons rfl rfl (VG_g (Gd_b rfl rfl) (fun hb => VS_call (c_law15_row (K := (fun w => K w ∧ Hs [.ext bs31 J32] w)) ((f34 hb).mono ent) ((f37 hb).mono ent) (hx38 hb)) (evs_cons (gev rfl hb) (evs_cons (gev rfl hb) rfl)) kn)) ?_
    refine NewOk_cons rfl rfl (VG_g (Gd_b rfl rfl) (fun hb => VS_not (gev rfl hb))) ?_
    refine NewOk_cons rfl rfl (VG_v rfl (VS_or rfl rfl)) ?_
    refine NewOk_nil ?_
    refine WQ_then ?_
    refine WP_if rfl (fun hc => ?_) (fun hc => ?_)
    ·
      replace h := cn_t hc h
      refine WP_seq ?_
      refine WP_region ?_
      refine WL_v rfl (VS_assign rfl) ?_
      refine WL_nil ?_
      refine WQ_then ?_
      refine WP_ret ?_
      refine WQ_block_ret ?_
      refine WQ_then_ret ?_
      refine WQ_then_ret ?_
      refine WQ_block_ret ?_
      refine WQ_then_ret ?_
      replace h := Option.some.inj h
      subst h
      exact WQ_ret () rfl (.tmp rfl .nil) trivial rfl (ks := []) rfl (by decide)
    ·
      replace h := cn_f hc h
      refine WP_skip ?_
      refine WQ_block ?_
      refine WQ_then ?_
      refine WP_region ?_
      refine WL_v rfl (VS_move rfl) ?_
      refine WL_v rfl (VS_add rfl rfl rfl) ?_
      refine WL_v rfl (VS_assign rfl) ?_
      refine WL_nil ?_
      exact WQ_loops (m24, wr .i64 (x22 + 1)) (Nat.lt_succ_self _) h (Sub_cons rfl (Sub_nil)) (.cons rfl (.cons rfl (.nil))) (ks := [1, 2]) rfl (by decide)
  ·
    replace h := cn_f hc h
    refine WP_exit ?_
    refine WQ_then_exit ?_
    refine WQ_then_exit ?_
    refine WQ_block_exit ?_
    refine WQ_then ?_
    refine WP_seq ?_
    refine WP_seq ?_
    refine WP_region ?_
    refine WL_v rfl (VS_assign rfl) ?_
    refine WL_nil ?_
    refine WQ_then ?_
    refine WP_block ?_
    obtain ⟨lb41, hlb41, h⟩ := lp1_i h
    refine WP_loops (α := Nat × Int) [2, 3] (.cons rfl (.cons rfl (.nil))) (fun (m42, x40) => [(8, .int .i64 x40)]) (fun (m42, x40) => [.cells b3 100 cs1, .cells b2 96 (L_mark_Marks.enc a0)]) (fun (m42, x40) => loop1 lb41 m42 x40 = some r) (fun (m42, x40) => m42) (n, 0) h (Sub_cons rfl (Sub_nil)) (ks := [0, 1]) rfl (by decide) ?_
    rintro ⟨m42, x40⟩ h
    replace h : loop1 lb41 m42 x40 = some r := h
    replace h := lp1_s hlb41 h
    obtain ⟨m42, rfl, h⟩ := h
    refine WP_seq ?_
    refine WP_seq ?_
    refine WP_region ?_
    refine WL_v rfl (VS_move rfl) ?_
    refine WL_v rfl (VS_lss rfl rfl) ?_
    refine WL_nil ?_
    refine WQ_then ?_
    refine WP_if rfl (fun hc => ?_) (fun hc => ?_)
    ·
      replace h := cn_t hc h
      refine WP_skip ?_
      refine WQ_then ?_
      refine WP_seq ?_
      refine WP_block ?_
      refine WP_seq ?_
      refine WP_region ?_
      refine WL_v rfl (VS_assign rfl) ?_
      refine WL_nil ?_
      refine WQ_then ?_
      refine WP_seq ?_
      refine WP_seq ?_
      refine WP_region ?_
      refine WL_v rfl (VS_assign rfl) ?_
      refine WL_nil ?_
      refine WQ_then ?_
      refine WP_block ?_
      refine WP_rowN 3 1 (LI .i64) ?_
      obtain ⟨lb54, hlb54, h⟩ := lp2_i h
      refine WP_loops (α := Nat × (List Int) × Int × Value) [2, 3, 8] (.cons rfl (.cons rfl (.cons rfl (.nil)))) (fun (m55, x50, x53, v51) => [(9, v51), (10, .int .i64 x53)]) (fun (m55, x50, x53, v51) => [Row v51 3 1 (LI .i64) x50, .cells b3 100 cs1, .cells b2 96 (L_mark_Marks.enc a0)]) (fun (m55, x50, x53, v51) => SlN v51 x50.length ∧ loop2 lb54 m55 x50 x53 = some r) (fun (m55, x50, x53, v51) => m55) (n, [], 0, .slice none 0 0) ⟨⟨_, _, rfl⟩, h⟩ (Sub_cons rfl (Sub_cons rfl (Sub_nil))) (ks := [0, 1, 2]) rfl (by decide) ?_
      rintro ⟨m55, x50, x53, v51⟩ ⟨hs52, h⟩
      replace h : loop2 lb54 m55 x50 x53 = some r := h
      replace h := lp2_s hlb54 h
      obtain ⟨m55, rfl, h⟩ := h
      refine WP_seq ?_
      refine WP_seq ?_
      refine WP_region ?_
      refine WL_v rfl (VS_move rfl) ?_
      refine WL_v rfl (VS_lss rfl rfl) ?_
      refine WL_nil ?_
      refine WQ_then ?_
      refine WP_if rfl (fun hc => ?_) (fun hc => ?_)
      ·
        replace h := cn_t hc h
        refine WP_skip ?_
        refine WQ_then ?_
        refine WP_seq ?_
        refine WP_block ?_
        refine WP_seq ?_
        obtain ⟨hg57, h⟩ := gu_e h
        refine WP_region ?_
        refine WL_v rfl (VS_move rfl) ?_
        refine WL_v rfl (VS_field0 rfl) ?_
        refine WL_v rfl (VS_index0 (m := (Int.toNat x53)) rfl rfl (inb_e hg57).1 (inb_e hg57).2) ?_
        refine WL_v rfl (VS_load rfl ((P_ref15_Marks_Has.c0 (Pth.idx (L := (LI .i64)) (m := 32) (k := 1) ((Int.toNat x53)) (inb_e hg57).2 rfl)).int f1)) ?_
        refine WL_v rfl (VS_move rfl) ?_
        refine WL_v rfl (VS_eql rfl rfl) ?_
        refine WL_nil ?_
        refine WQ_then ?_
        refine WP_if rfl (fun hc => ?_) (fun hc => ?_)
        ·
          replace h := cn_t hc h
          obtain ⟨hg58, h⟩ := gu_e h
          obtain ⟨x59, hx59, h⟩ := lt_e h
          refine WP_region ?_
          refine WL_v rfl (VS_move rfl) ?_
          refine WL_v rfl (VS_move rfl) ?_
          refine WL_x rfl (RX_bs1 (LI .i64) x53 rfl rfl rfl rfl (by decide) (by decide)) (fun b78 _ => ?_)
          refine WL_x rfl (RX_app1 (L := (LI .i64)) (xs := x50) (y := x53) (bytes := 8) rfl rfl rfl (apok_e hg58).1 (apok_e hg58).2) (fun v60 hs61 => ?_)
          rw [← hx59] at hs61; rw [← hx59]
          refine WL_v rfl (VS_assign rfl) ?_
          refine WL_nil ?_
          refine WQ_block ?_
          refine WQ_then ?_
          refine WP_region ?_
          refine WL_v rfl (VS_move rfl) ?_
          refine WL_v rfl (VS_add rfl rfl rfl) ?_
          refine WL_v rfl (VS_assign rfl) ?_
          refine WL_nil ?_
          exact WQ_loops (m55, x59, wr .i64 (x53 + 1), v60) (Nat.lt_succ_self _) ⟨hs61, h⟩ (Sub_cons rfl (Sub_cons rfl (Sub_nil))) (.cons rfl (.cons rfl (.cons rfl (.nil)))) (ks := [1, 2, 3]) rfl (by decide)
        ·
          replace h := cn_f hc h
          refine WP_skip ?_
          refine WQ_block ?_
          refine WQ_then ?_
          refine WP_region ?_
          refine WL_v rfl (VS_move rfl) ?_
          refine WL_v rfl (VS_add rfl rfl rfl) ?_
          refine WL_v rfl (VS_assign rfl) ?_
          refine WL_nil ?_
          exact WQ_loops (m55, x50, wr .i64 (x53 + 1), v51) (Nat.lt_succ_self _) ⟨hs52, h⟩ (Sub_cons rfl (Sub_cons rfl (Sub_nil))) (.cons rfl (.cons rfl (.cons rfl (.nil)))) (ks := [0, 1, 2]) rfl (by decide)
      ·
        replace h := cn_f hc h
        refine WP_exit ?_
        refine WQ_then_exit ?_
        refine WQ_then_exit ?_
        refine WQ_block_exit ?_
        refine WQ_then ?_
        refine WP_seq ?_
        obtain ⟨x62, hx62, h⟩ := bd_e h
        obtain ⟨x69, hx69, h⟩ := bd_e h
        refine WP_region ?_
        refine WL_v rfl (VS_lda (M := L_mark_Marks) (Pth.id (L := L_mark_Marks)) rfl rfl) ?_
        refine WL_v rfl (VS_move rfl) ?_
        refine WL_x rfl (RX_callB (c_mark_Marks_Held hx62) rfl) (fun ⟨w63, bs64, J65⟩ hp66 => ?_)
        have f67 : Fz (Hs [.ext bs64 J65]) w63 (LI .i64) x62 := hp66
        refine WL_v rfl (VS_move rfl) ?_
        refine WL_v rfl (VS_call (c_law15_row (K := (Hs [.ext bs64 J65, Row v51 3 1 (LI .i64) x50])) (f67.mono ent) ((Fz.row (e := 3) (sz := 1) (L := (LI .i64)) rfl hs52).mono ent) hx69) rfl kn) ?_
        refine WL_v rfl (VS_not rfl) ?_
        refine WL_nil ?_
        refine WQ_then ?_
        refine WP_if rfl (fun hc => ?_) (fun hc => ?_)
        ·
          replace h := cn_t hc h
          refine WP_seq ?_
          refine WP_region ?_
          refine WL_v rfl (VS_assign rfl) ?_
          refine WL_nil ?_
          refine WQ_then ?_
          refine WP_ret ?_
          refine WQ_block_ret ?_
          refine WQ_then_ret ?_
          refine WQ_then_ret ?_
          refine WQ_block_ret ?_
          refine WQ_then_ret ?_
          replace h := Option.some.inj h
          subst h
          exact WQ_ret () rfl (.tmp rfl .nil) trivial rfl (ks := []) rfl (by decide)
        ·
          replace h := cn_f hc h
          refine WP_skip ?_
          refine WQ_block ?_
          refine WQ_then ?_
          refine WP_region ?_
          refine WL_v rfl (VS_move rfl) ?_
          refine WL_v rfl (VS_add rfl rfl rfl) ?_
          refine WL_v rfl (VS_assign rfl) ?_
          refine WL_nil ?_
          exact WQ_loops (m42, wr .i64 (x40 + 1)) (Nat.lt_succ_self _) h (Sub_cons rfl (Sub_nil)) (.cons rfl (.cons rfl (.nil))) (ks := [2, 3]) rfl (by decide)
    ·
      replace h := cn_f hc h
      refine WP_exit ?_
      refine WQ_then_exit ?_
      refine WQ_then_exit ?_
      refine WQ_block_exit ?_
      refine WQ_then ?_
      refine WP_seq ?_
      obtain ⟨x70, hx70, h⟩ := bd_e h
      refine WP_region ?_
      refine WL_v rfl (VS_lda (M := L_mark_Marks) (Pth.id (L := L_mark_Marks)) rfl rfl) ?_
      refine WL_v rfl (VS_call (c_mark_Marks_Holder hx70) rfl (fun _ _ _ => trivial)) ?_
      refine WL_v rfl (VS_move rfl) ?_
      refine WL_v rfl (VS_extract rfl rfl) ?_
      refine WL_v rfl (VS_extract rfl rfl) ?_
      refine WL_v rfl (VS_assign rfl) ?_
      refine WL_v rfl (VS_assign rfl) ?_
      refine WL_nil ?_
      refine WQ_then ?_
      refine WP_seq ?_
      obtain ⟨x71, hx71, h⟩ := bd_e h
      refine WP_region ?_
      refine WL_v rfl (VS_lda (M := L_mark_Marks) (Pth.id (L := L_mark_Marks)) rfl rfl) ?_
      refine WL_v rfl (VS_call (c_mark_Marks_Holder hx71) rfl (fun _ _ _ => trivial)) ?_
      refine WL_v rfl (VS_move rfl) ?_
      refine WL_v rfl (VS_extract rfl rfl) ?_
      refine WL_v rfl (VS_extract rfl rfl) ?_
      refine WL_v rfl (VS_assign rfl) ?_
      refine WL_v rfl (VS_assign rfl) ?_
      refine WL_nil ?_
      refine WQ_then ?_
      refine WP_seq ?_
      obtain ⟨x72, hx72, _, h⟩ := cl_e h
      obtain ⟨x78, hx78, _, h⟩ := cl_e h
      refine WP_region ?_
      refine WL_v rfl (VS_move rfl) ?_
      refine WL_v rfl (VS_not rfl) ?_
      refine WL_v rfl (VS_move rfl) ?_
      refine WL_g (Gd_b rfl rfl) rfl (fun hb => VS_move rfl) ?_
      refine WL_g (Gd_b rfl rfl) rfl (fun hb => VS_not (gev rfl hb)) ?_
      refine WL_v rfl (VS_and rfl rfl) ?_
      refine WL_v rfl (VS_move rfl) ?_
      refine WL_g (Gd_b rfl rfl) rfl (fun hb => VS_lda (M := L_mark_Marks) (Pth.id (L := L_mark_Marks)) rfl rfl) ?_
      refine WL_callBg (Gd_b rfl rfl) rfl (fun hb => c_mark_Marks_Waiting (hx72 hb)) (fun hb => (evs_cons (gev rfl hb) (evs_cons rfl rfl))) (fun hb => inferInstance) (fun ⟨w73, bs74, J75⟩ hp76 => ?_)
      have f77 : (((!x70.2) && (!x71.2)) == true) = true → Fz (Hs [.ext bs74 J75]) w73 (LI .i64) x72 := hp76
      refine WL_g (Gd_b rfl rfl) rfl (fun hb => VS_lenF (f77 hb) (gev rfl hb)) ?_
      refine WL_g (Gd_b rfl rfl) rfl (fun hb => VS_eql (gev rfl hb) rfl) ?_
      refine WL_v rfl (VS_and rfl rfl) ?_
      refine WL_v rfl (VS_move rfl) ?_
      refine WL_g (Gd_b rfl rfl) rfl (fun hb => VS_lda (M := L_mark_Marks) (Pth.id (L := L_mark_Marks)) rfl rfl) ?_
      refine WL_callBg (Gd_b rfl rfl) rfl (fun hb => c_mark_Marks_Waiting (hx78 hb)) (fun hb => (evs_cons (gev rfl hb) (evs_cons rfl rfl))) (fun hb => inferInstance) (fun ⟨w79, bs80, J81⟩ hp82 => ?_)
      have f83 : ((((!x70.2) && (!x71.2)) && ((x72.length : Int) == 0)) == true) = true → Fz (Hs [.ext bs80 J81]) w79 (LI .i64) x78 := hp82
      refine WL_g (Gd_b rfl rfl) rfl (fun hb => VS_lenF (f83 hb) (gev rfl hb)) ?_
      refine WL_g (Gd_b rfl rfl) rfl (fun hb => VS_eql (gev rfl hb) rfl) ?_
      refine WL_v rfl (VS_and rfl rfl) ?_
      refine WL_v rfl (VS_assign rfl) ?_
      refine WL_nil ?_
      refine WQ_then ?_
      refine WP_ret ?_
      replace h := Option.some.inj h
      subst h
      exact WQ_ret () rfl (.tmp rfl .nil) trivial rfl (ks := []) rfl (by decide)
def law15_wakes (n : Nat)  : Option Bool :=
  bd (mark_Marks_Try n Z_mark_Marks 0 1) fun x21 =>
  bd (mark_Marks_Try n x21.1 0 2) fun x22 =>
  bd (mark_Marks_Try n x22.1 0 3) fun x23 =>
  bd (mark_Marks_Free n x23.1 0 1) fun x24 =>
  bd (mark_Marks_Try n x24 0 3) fun x25 =>
  bd (mark_Marks_Try n x25.1 0 2) fun x26 =>
  bd (mark_Marks_Holder n x26.1 0) fun x27 =>
  bd (mark_Marks_Waiting n x26.1 0) fun x28 =>
  bd (mark_Marks_Held n x26.1 2) fun x35 =>
  gu (!((((((((x21.2 && (!x22.2)) && (!x23.2)) && (!x25.2)) && x26.2) && (x27.1 == 2)) && x27.2) && ((x28.length : Int) == 1)) == true) || inb 0 x28.length) <|
  gu (!((((((((((x21.2 && (!x22.2)) && (!x23.2)) && (!x25.2)) && x26.2) && (x27.1 == 2)) && x27.2) && ((x28.length : Int) == 1)) && ((x28.getD (Int.toNat 0) default) == 3)) && ((x35.length : Int) == 1)) == true) || inb 0 x35.length) <|
  cl (((((((((((x21.2 && (!x22.2)) && (!x23.2)) && (!x25.2)) && x26.2) && (x27.1 == 2)) && x27.2) && ((x28.length : Int) == 1)) && ((x28.getD (Int.toNat 0) default) == 3)) && ((x35.length : Int) == 1)) && ((x35.getD (Int.toNat 0) default) == 0)) == true) (mark_Marks_Waiting n x23.1 0) default fun x44 =>
  some (((((((((((x21.2 && (!x22.2)) && (!x23.2)) && (!x25.2)) && x26.2) && (x27.1 == 2)) && x27.2) && ((x28.length : Int) == 1)) && ((x28.getD (Int.toNat 0) default) == 3)) && ((x35.length : Int) == 1)) && ((x35.getD (Int.toNat 0) default) == 0)) && ((x44.length : Int) == 2))
theorem c_law15_wakes {n : Nat}  {r : Bool}  (h : law15_wakes n  = some r) : FnV Try.prog 39 [] (.bool r) := by
  unfold law15_wakes at h
  refine fn_of Try.func39 (by kernel_rfl) rfl Try.ntmps39 rfl (fun cx hbs hpre hro => ?_)
  refine WP_seq ?_
  refine WP_region ?_
  refine WL_v rfl (VS_assign rfl) ?_
  refine WL_nil ?_
  refine WQ_then ?_
  refine WP_seq ?_
  refine WP_region ?_
  refine WL_x rfl (RX_allocL (L := L_mark_Marks) (z := Z_mark_Marks) ⟨by kernel_rfl⟩) (fun b1 _ => ?_)
  refine WL_nil ?_
  refine WQ_then ?_
  refine WP_seq ?_
  obtain ⟨x21, hx21, h⟩ := bd_e h
  refine WP_region ?_
  refine WL_v rfl (VS_lda (M := L_mark_Marks) (Pth.id (L := L_mark_Marks)) rfl rfl) ?_
  refine WL_v rfl (VS_call (c_mark_Marks_Try hx21) rfl (fun _ _ _ => trivial)) ?_
  refine WL_v rfl (VS_move rfl) ?_
  refine WL_v rfl (VS_extract rfl rfl) ?_
  refine WL_v rfl (VS_extract rfl rfl) ?_
  refine WL_x0 (RX_st (M := L_mark_Marks) (Pth.id (L := L_mark_Marks)) x21.1 x21.1 rfl rfl rfl rfl rfl) (fun _ _ => ?_)
  refine WL_v rfl (VS_assign rfl) ?_
  refine WL_nil ?_
  refine WQ_then ?_
  refine WP_seq ?_
  obtain ⟨x22, hx22, h⟩ := bd_e h
  refine WP_region ?_
  refine WL_v rfl (VS_lda (M := L_mark_Marks) (Pth.id (L := L_mark_Marks)) rfl rfl) ?_
  refine WL_v rfl (VS_call (c_mark_Marks_Try hx22) rfl (fun _ _ _ => trivial)) ?_
  refine WL_v rfl (VS_move rfl) ?_
  refine WL_v rfl (VS_extract rfl rfl) ?_
  refine WL_v rfl (VS_extract rfl rfl) ?_
  refine WL_x0 (RX_st (M := L_mark_Marks) (Pth.id (L := L_mark_Marks)) x22.1 x22.1 rfl rfl rfl rfl rfl) (fun _ _ => ?_)
  refine WL_v rfl (VS_assign rfl) ?_
  refine WL_nil ?_
  refine WQ_then ?_
  refine WP_seq ?_
  obtain ⟨x23, hx23, h⟩ := bd_e h
  refine WP_region ?_
  refine WL_v rfl (VS_lda (M := L_mark_Marks) (Pth.id (L := L_mark_Marks)) rfl rfl) ?_
  refine WL_v rfl (VS_call (c_mark_Marks_Try hx23) rfl (fun _ _ _ => trivial)) ?_
  refine WL_v rfl (VS_move rfl) ?_
  refine WL_v rfl (VS_extract rfl rfl) ?_
  refine WL_v rfl (VS_extract rfl rfl) ?_
  refine WL_x0 (RX_st (M := L_mark_Marks) (Pth.id (L := L_mark_Marks)) x23.1 x23.1 rfl rfl rfl rfl rfl) (fun _ _ => ?_)
  refine WL_v rfl (VS_assign rfl) ?_
  refine WL_nil ?_
  refine WQ_then ?_
  refine WP_seq ?_
  refine WP_region ?_
  refine WL_v rfl (VS_lda (M := L_mark_Marks) (Pth.id (L := L_mark_Marks)) rfl rfl) ?_
  refine WL_x rfl (RX_allocL (L := L_mark_Marks) (z := Z_mark_Marks) ⟨by kernel_rfl⟩) (fun b5 _ => ?_)
  refine WL_x0 (RX_st (M := L_mark_Marks) (Pth.id (L := L_mark_Marks)) x23.1 x23.1 rfl rfl rfl rfl rfl) (fun _ _ => ?_)
  refine WL_nil ?_
  refine WQ_then ?_
  refine WP_seq ?_
  obtain ⟨x24, hx24, h⟩ := bd_e h
  refine WP_region ?_
  refine WL_v rfl (VS_lda (M := L_mark_Marks) (Pth.id (L := L_mark_Marks)) rfl rfl) ?_
  refine WL_v rfl (VS_call (c_mark_Marks_Free hx24) rfl (fun _ _ _ => trivial)) ?_
  refine WL_x0 (RX_st (M := L_mark_Marks) (Pth.id (L := L_mark_Marks)) x24 x24 rfl rfl rfl rfl rfl) (fun _ _ => ?_)
  refine WL_nil ?_
  refine WQ_then ?_
  refine WP_seq ?_
  obtain ⟨x25, hx25, h⟩ := bd_e h
  refine WP_region ?_
  refine WL_v rfl (VS_lda (M := L_mark_Marks) (Pth.id (L := L_mark_Marks)) rfl rfl) ?_
  refine WL_v rfl (VS_call (c_mark_Marks_Try hx25) rfl (fun _ _ _ => trivial)) ?_
  refine WL_v rfl (VS_move rfl) ?_
  refine WL_v rfl (VS_extract rfl rfl) ?_
  refine WL_v rfl (VS_extract rfl rfl) ?_
  refine WL_x0 (RX_st (M := L_mark_Marks) (Pth.id (L := L_mark_Marks)) x25.1 x25.1 rfl rfl rfl rfl rfl) (fun _ _ => ?_)
  refine WL_v rfl (VS_assign rfl) ?_
  refine WL_nil ?_
  refine WQ_then ?_
  refine WP_seq ?_
  obtain ⟨x26, hx26, h⟩ := bd_e h
  refine WP_region ?_
  refine WL_v rfl (VS_lda (M := L_mark_Marks) (Pth.id (L := L_mark_Marks)) rfl rfl) ?_
  refine WL_v rfl (VS_call (c_mark_Marks_Try hx26) rfl (fun _ _ _ => trivial)) ?_
  refine WL_v rfl (VS_move rfl) ?_
  refine WL_v rfl (VS_extract rfl rfl) ?_
  refine WL_v rfl (VS_extract rfl rfl) ?_
  refine WL_x0 (RX_st (M := L_mark_Marks) (Pth.id (L := L_mark_Marks)) x26.1 x26.1 rfl rfl rfl rfl rfl) (fun _ _ => ?_)
  refine WL_v rfl (VS_assign rfl) ?_
  refine WL_nil ?_
  refine WQ_then ?_
  refine WP_seq ?_
  obtain ⟨x27, hx27, h⟩ := bd_e h
  refine WP_region ?_
  refine WL_v rfl (VS_lda (M := L_mark_Marks) (Pth.id (L := L_mark_Marks)) rfl rfl) ?_
  refine WL_v rfl (VS_call (c_mark_Marks_Holder hx27) rfl (fun _ _ _ => trivial)) ?_
  refine WL_v rfl (VS_move rfl) ?_
  refine WL_v rfl (VS_extract rfl rfl) ?_
  refine WL_v rfl (VS_extract rfl rfl) ?_
  refine WL_v rfl (VS_assign rfl) ?_
  refine WL_v rfl (VS_assign rfl) ?_
  refine WL_nil ?_
  refine WQ_then ?_
  refine WP_seq ?_
  obtain ⟨x28, hx28, h⟩ := bd_e h
  obtain ⟨x35, hx35, h⟩ := bd_e h
  refine WP_draw mixed (.stg [] [(0, [1]), (2, [1])] (.alt 1 [45] (.stg [(2, [1])] [] (.alt 3 [47] (.stg [] [] (.alt 4 [46] (.stg [] [] (.alt 5 [48] (.fin [] []) .no)) .no)) .no)) .no)) (by kernel_rfl) ?_
  refine Stg_stg ?_ ?_
  · exact ReOk_nil
  refine NewOk_cons rfl rfl (VG_v rfl (VS_lda (M := L_mark_Marks) (Pth.id (L := L_mark_Marks)) rfl rfl)) ?_
  refine NewOk_cons rfl rfl (VG_v rfl (VS_lda (M := L_mark_Marks) (Pth.id (L := L_mark_Marks)) rfl rfl)) ?_
  refine NewOk_nil ?_
  refine Stg_some rfl rfl (RG_x rfl (RX_callB (c_mark_Marks_Waiting hx28) rfl)) (fun ⟨w29, bs30, J31⟩ hp32 => ?_) Stg_no
  have f33 : Fz (Hs [.ext bs30 J31]) w29 (LI .i64) x28 := hp32
  refine Stg_stg ?_ ?_
  ·
    refine ReOk_cons rfl rfl (VG_v rfl (VS_val (VS_lda (M := L_mark_Marks) (Pth.id (L := L_mark_Marks)) rfl rfl) rfl)) ?_
    exact ReOk_nil
  refine NewOk_nil ?_
  refine Stg_some rfl rfl (RG_x rfl (RX_callB (c_mark_Marks_Held hx35) rfl)) (fun ⟨w36, bs37, J38⟩ hp39 => ?_) Stg_no
  have f40 : Fz (Hs [.ext bs37 J38]) w36 (LI .i64) x35 := hp39
  refine Stg_stg ?_ ?_
  · exact ReOk_nil
  refine NewOk_nil ?_
  refine Stg_some rfl rfl (RG_x rfl ((VS_assign rfl).rx)) (fun _ _ => ?_) Stg_no
  refine Stg_stg ?_ ?_
  · exact ReOk_nil
  refine NewOk_nil ?_
  refine Stg_some rfl rfl (RG_x rfl ((VS_assign rfl).rx)) (fun _ _ => ?_) Stg_no
  refine Stg_fin ?_ ?_
  · exact ReOk_nil
  refine NewOk_nil ?_
  refine WQ_then ?_
  refine WP_seq ?_
  obtain ⟨hg42, h⟩ := gu_e h
  obtain ⟨hg43, h⟩ := gu_e h
  obtain ⟨x44, hx44, _, h⟩ := cl_e h
  refine WP_region ?_
  refine WL_v rfl (VS_move rfl) ?_
  refine WL_v rfl (VS_move rfl) ?_
  refine WL_g (Gd_b rfl rfl) rfl (fun hb => VS_move rfl) ?_
  refine WL_g (Gd_b rfl rfl) rfl (fun hb => VS_not (gev rfl hb)) ?_
  refine WL_v rfl (VS_and rfl rfl) ?_
  refine WL_v rfl (VS_move rfl) ?_
  refine WL_g (Gd_b rfl rfl) rfl (fun hb => VS_move rfl) ?_
  refine WL_g (Gd_b rfl rfl) rfl (fun hb => VS_not (gev rfl hb)) ?_
  refine WL_v rfl (VS_and rfl rfl) ?_
  refine WL_v rfl (VS_move rfl) ?_
  refine WL_g (Gd_b rfl rfl) rfl (fun hb => VS_move rfl) ?_
  refine WL_g (Gd_b rfl rfl) rfl (fun hb => VS_not (gev rfl hb)) ?_
  refine WL_v rfl (VS_and rfl rfl) ?_
  refine WL_v rfl (VS_move rfl) ?_
  refine WL_g (Gd_b rfl rfl) rfl (fun hb => VS_move rfl) ?_
  refine WL_v rfl (VS_and rfl rfl) ?_
  refine WL_v rfl (VS_move rfl) ?_
  refine WL_g (Gd_b rfl rfl) rfl (fun hb => VS_move rfl) ?_
  refine WL_g (Gd_b rfl rfl) rfl (fun hb => VS_eql (gev rfl hb) rfl) ?_
  refine WL_v rfl (VS_and rfl rfl) ?_
  refine WL_v rfl (VS_move rfl) ?_
  refine WL_g (Gd_b rfl rfl) rfl (fun hb => VS_move rfl) ?_
  refine WL_v rfl (VS_and rfl rfl) ?_
  refine WL_v rfl (VS_move rfl) ?_
  refine WL_g (Gd_b rfl rfl) rfl (fun hb => VS_move rfl) ?_
  refine WL_g (Gd_b rfl rfl) rfl (fun hb => VS_lenF f33 (gev rfl hb)) ?_
  refine WL_g (Gd_b rfl rfl) rfl (fun hb => VS_eql (gev rfl hb) rfl) ?_
  refine WL_v rfl (VS_and rfl rfl) ?_
  refine WL_v rfl (VS_move rfl) ?_
  refine WL_g (Gd_b rfl rfl) rfl (fun hb => VS_move rfl) ?_
  refine WL_g (Gd_b rfl rfl) rfl (fun hb => VS_ixF (m := (Int.toNat 0)) f33 rfl (gev rfl hb) rfl (inb_e (imp_b hg42 hb)).1 (inb_e (imp_b hg42 hb)).2) ?_
  refine WL_g (Gd_b rfl rfl) rfl (fun hb => VS_ldiF f33 (Pth.idx (L := (LI .i64)) (m := (x28.length)) (k := 1) ((Int.toNat 0)) (inb_e (imp_b hg42 hb)).2 rfl) (gev rfl hb)) ?_
  refine WL_g (Gd_b rfl rfl) rfl (fun hb => VS_eql (gev rfl hb) rfl) ?_
  refine WL_v rfl (VS_and rfl rfl) ?_
  refine WL_v rfl (VS_move rfl) ?_
  refine WL_g (Gd_b rfl rfl) rfl (fun hb => VS_move rfl) ?_
  refine WL_g (Gd_b rfl rfl) rfl (fun hb => VS_lenF f40 (gev rfl hb)) ?_
  refine WL_g (Gd_b rfl rfl) rfl (fun hb => VS_eql (gev rfl hb) rfl) ?_
  refine WL_v rfl (VS_and rfl rfl) ?_
  refine WL_v rfl (VS_move rfl) ?_
  refine WL_g (Gd_b rfl rfl) rfl (fun hb => VS_move rfl) ?_
  refine WL_g (Gd_b rfl rfl) rfl (fun hb => VS_ixF (m := (Int.toNat 0)) f40 rfl (gev rfl hb) rfl (inb_e (imp_b hg43 hb)).1 (inb_e (imp_b hg43 hb)).2) ?_
  refine WL_g (Gd_b rfl rfl) rfl (fun hb => VS_ldiF f40 (Pth.idx (L := (LI .i64)) (m := (x35.length)) (k := 1) ((Int.toNat 0)) (inb_e (imp_b hg43 hb)).2 rfl) (gev rfl hb)) ?_
  refine WL_g (Gd_b rfl rfl) rfl (fun hb => VS_eql (gev rfl hb) rfl) ?_
  refine WL_v rfl (VS_and rfl rfl) ?_
  refine WL_v rfl (VS_move rfl) ?_
  refine WL_g (Gd_b rfl rfl) rfl (fun hb => VS_lda (M := L_mark_Marks) (Pth.id (L := L_mark_Marks)) rfl rfl) ?_
  refine WL_callBg (Gd_b rfl rfl) rfl (fun hb => c_mark_Marks_Waiting (hx44 hb)) (fun hb => (evs_cons (gev rfl hb) (evs_cons rfl rfl))) (fun hb => inferInstance) (fun ⟨w45, bs46, J47⟩ hp48 => ?_)
  have f49 : (((((((((((x21.2 && (!x22.2)) && (!x23.2)) && (!x25.2)) && x26.2) && (x27.1 == 2)) && x27.2) && ((x28.length : Int) == 1)) && ((x28.getD (Int.toNat 0) default) == 3)) && ((x35.length : Int) == 1)) && ((x35.getD (Int.toNat 0) default) == 0)) == true) = true → Fz (Hs [.ext bs46 J47]) w45 (LI .i64) x44 := hp48
  refine WL_g (Gd_b rfl rfl) rfl (fun hb => VS_lenF (f49 hb) (gev rfl hb)) ?_
  refine WL_g (Gd_b rfl rfl) rfl (fun hb => VS_eql (gev rfl hb) rfl) ?_
  refine WL_v rfl (VS_and rfl rfl) ?_
  refine WL_v rfl (VS_assign rfl) ?_
  refine WL_nil ?_
  refine WQ_then ?_
  refine WP_ret ?_
  replace h := Option.some.inj h
  subst h
  exact WQ_ret () rfl (.tmp rfl .nil) trivial rfl (ks := []) rfl (by decide)
def ref15_New (n : Nat)  : Option ref15_Marks :=
  loop2 (fun k36 (x30 : Int) (x31 : ref15_Marks) =>
  cn (decide (x30 < 32)) (
  gu (inb x30 32) <|
  lt ({ x31 with Has := (upd x31.Has (Int.toNat x30) (-1)) } : ref15_Marks) fun x38 =>
  k36 (wr .i64 (x30 + 1)) x38) (
  some x31)) n 0 Z_ref15_Marks
theorem c_ref15_New {n : Nat}  {r : ref15_Marks}  (h : ref15_New n  = some r) : FnB Try.prog 40 [] (fun _ => True) (fun J v => ∃ u0, v = .agg u0.toArray ∧ (L_ref15_Marks).rep J u0 (r)) := by
  unfold ref15_New at h
  refine fn_of Try.func40 (by kernel_rfl) rfl Try.ntmps40 rfl (fun cx hbs hpre hro => ?_)
  refine WP_seq ?_
  refine WP_region ?_
  refine WL_x rfl (RX_alloc (hz := (⟨by kernel_rfl⟩ : TZero Try.prog 100 zc_ref15_Marks))) (fun b0 _ => ?_)
  refine WL_nil ?_
  refine WQ_then ?_
  refine WP_seq ?_
  refine WP_region ?_
  refine WL_x rfl (RX_alloc (hz := (⟨by kernel_rfl⟩ : TZero Try.prog 100 zc_ref15_Marks))) (fun b1 _ => ?_)
  refine WL_nil ?_
  refine WQ_then ?_
  refine WP_seq ?_
  refine WP_seq ?_
  refine WP_region ?_
  refine WL_v rfl (VS_assign rfl) ?_
  refine WL_nil ?_
  refine WQ_then ?_
  refine WP_block ?_
  obtain ⟨lb34, hlb34, h⟩ := lp2_i h
  refine WP_ext0 ?_
  refine WP_loops (α := Nat × Int × ref15_Marks × (List Value) × (List Nat) × (World → Prop)) [0, 1] (.cons rfl (.cons rfl (.nil))) (fun (m35, x30, x31, c32, bs28, J29) => [(2, .int .i64 x30)]) (fun (m35, x30, x31, c32, bs28, J29) => [.ext bs28 J29, .cells b1 100 c32, .cells b0 100 zc_ref15_Marks]) (fun (m35, x30, x31, c32, bs28, J29) => (L_ref15_Marks).rep (Hs [.ext bs28 J29]) c32 x31 ∧ loop2 lb34 m35 x30 x31 = some r) (fun (m35, x30, x31, c32, bs28, J29) => m35) (n, 0, Z_ref15_Marks, zc_ref15_Marks, [], (Hs [])) ⟨(Lay.mono _ ent (show (L_ref15_Marks).rep (Hs []) zc_ref15_Marks Z_ref15_Marks from zr_ref15_Marks)), h⟩ (Sub_cons rfl (Sub_nil)) (ks := [0, 1, 2]) rfl (by decide) ?_
  rintro ⟨m35, x30, x31, c32, bs28, J29⟩ ⟨f33, h⟩
  replace h : loop2 lb34 m35 x30 x31 = some r := h
  replace h := lp2_s hlb34 h
  obtain ⟨m35, rfl, h⟩ := h
  refine WP_seq ?_
  refine WP_seq ?_
  refine WP_region ?_
  refine WL_v rfl (VS_move rfl) ?_
  refine WL_v rfl (VS_lss rfl rfl) ?_
  refine WL_nil ?_
  refine WQ_then ?_
  refine WP_if rfl (fun hc => ?_) (fun hc => ?_)
  ·
    replace h := cn_t hc h
    refine WP_skip ?_
    refine WQ_then ?_
    refine WP_seq ?_
    refine WP_block ?_
    obtain ⟨hg37, h⟩ := gu_e h
    obtain ⟨x38, hx38, h⟩ := lt_e h
    refine WP_region ?_
    refine WL_v rfl (VS_move rfl) ?_
    refine WL_v rfl (VS_field0 rfl) ?_
    refine WL_v rfl (VS_index0 (m := (Int.toNat x30)) rfl rfl (inb_e hg37).1 (inb_e hg37).2) ?_
    obtain ⟨c39, hc39, f40⟩ : ∃ cc, splice c32 ((Int.toNat x30) * 1) ((LI .i64).enc (-1)) = cc ∧ (L_ref15_Marks).rep (Hs [.ext bs28 J29]) cc x38 := ⟨_, rfl, by rw [hx38]; exact (P_ref15_Marks_Has.c0 (Pth.idx (L := (LI .i64)) (m := 32) (k := 1) ((Int.toNat x30)) (inb_e hg37).2 rfl)).set (Lay.mono _ ent f33) (FlatL.iff.2 rfl)⟩
    refine WL_x0 (RX_stN ((LI .i64).enc (-1)) (P_ref15_Marks_Has.c0 (Pth.idx (L := (LI .i64)) (m := 32) (k := 1) ((Int.toNat x30)) (inb_e hg37).2 rfl)) (v := (-1)) (r := f33) (rv := ((FlatL.iff.2 rfl) : ((LI .i64)).rep (Hs [.ext bs28 J29]) ((LI .i64).enc (-1)) (-1))) rfl rfl rfl rfl hc39) (fun _ _ => ?_)
    refine WL_nil ?_
    refine WQ_block ?_
    refine WQ_then ?_
    refine WP_region ?_
    refine WL_v rfl (VS_move rfl) ?_
    refine WL_v rfl (VS_add rfl rfl rfl) ?_
    refine WL_v rfl (VS_assign rfl) ?_
    refine WL_nil ?_
    refine WQ_bundle (R := [.ext bs28 J29]) (H' := [.cells b1 100 c39, .cells b0 100 zc_ref15_Marks]) (ks := [0, 1, 2]) rfl (by decide) ?_
    exact WQ_loops (m35, wr .i64 (x30 + 1), x38, c39, (blks [.ext bs28 J29]), (Hs [.ext bs28 J29])) (Nat.lt_succ_self _) ⟨(Lay.mono _ ent f40), h⟩ (Sub_cons rfl (Sub_nil)) (.cons rfl (.cons rfl (.nil))) (ks := [0, 1, 2]) rfl (by decide)
  ·
    replace h := cn_f hc h
    refine WP_exit ?_
    refine WQ_then_exit ?_
    refine WQ_then_exit ?_
    refine WQ_block_exit ?_
    refine WQ_then ?_
    refine WP_seq ?_
    refine WP_region ?_
    refine WL_v rfl (VS_loadall rfl (Lay.len _ f33)) ?_
    obtain ⟨c41, hc41, f42⟩ : ∃ cc, splice zc_ref15_Marks 0 c32 = cc ∧ (L_ref15_Marks).rep (Hs [.ext bs28 J29]) cc x31 := ⟨_, rfl, (Pth.id (L := L_ref15_Marks)).set (Lay.mono _ ent (show (L_ref15_Marks).rep (Hs []) zc_ref15_Marks Z_ref15_Marks from zr_ref15_Marks)) (Lay.mono _ ent f33)⟩
    refine WL_x0 (RX_stN c32 (Pth.id (L := L_ref15_Marks)) (v := x31) (r := (show (L_ref15_Marks).rep (Hs []) zc_ref15_Marks Z_ref15_Marks from zr_ref15_Marks)) (rv := ((Lay.mono _ ent f33) : (L_ref15_Marks).rep (Hs [.ext bs28 J29]) c32 x31)) rfl rfl rfl rfl hc41) (fun _ _ => ?_)
    refine WL_nil ?_
    refine WQ_then ?_
    refine WP_ret ?_
    replace h := Option.some.inj h
    subst h
    refine WQ_bundle (R := [.ext bs28 J29]) (H' := [.cells b0 100 c41]) (ks := [0, 2]) rfl (by decide) ?_
    have p43 : (L_ref15_Marks).rep (Hs [.ext (blks [.ext bs28 J29]) (Hs [.ext bs28 J29])]) c41 x31 := Lay.mono _ ent f42
    exact WQ_ret (.agg c41.toArray, blks [.ext bs28 J29], Hs [.ext bs28 J29]) rfl (.agg rfl inferInstance inferInstance (Lay.len _ f42) .nil) ⟨_, rfl, p43⟩ rfl (ks := [0]) rfl (by decide)
structure law15_Act where
  Do : Int
  Slot : Int
  Task : Int
abbrev L_law15_Act : Lay law15_Act := Lay.via (LP (LI .u8) (LP (LI .i64) (LI .i64))) (fun x => (x.Do, x.Slot, x.Task))
abbrev Z_law15_Act : law15_Act := ⟨0, 0, 0⟩
instance : Inhabited law15_Act := ⟨Z_law15_Act⟩
theorem P_law15_Act_Do : Pth L_law15_Act (LI .u8) 0 (fun x => x.Do) (fun x v => { x with Do := v }) := (Pth.fst Pth.id).via _ _ _ 0 rfl (fun _ => rfl) (fun _ _ => rfl)
theorem P_law15_Act_Slot : Pth L_law15_Act (LI .i64) 1 (fun x => x.Slot) (fun x v => { x with Slot := v }) := (Pth.snd (Pth.fst Pth.id)).via _ _ _ 1 rfl (fun _ => rfl) (fun _ _ => rfl)
theorem P_law15_Act_Task : Pth L_law15_Act (LI .i64) 2 (fun x => x.Task) (fun x v => { x with Task := v }) := (Pth.snd (Pth.snd Pth.id)).via _ _ _ 2 rfl (fun _ => rfl) (fun _ _ => rfl)
def EQ_law15_Act (x y : law15_Act) : Bool := x.Do == y.Do && x.Slot == y.Slot && x.Task == y.Task
theorem EQv_law15_Act (x y : law15_Act) : Value.bool (eqAt [(0, some .u8), (1, some .i64), (2, some .i64)] (L_law15_Act.enc x) (L_law15_Act.enc y)) = .bool (EQ_law15_Act x y) := congrArg Value.bool (by show ((x.Do == y.Do) && ((x.Slot == y.Slot) && ((x.Task == y.Task) && true))) = (x.Do == y.Do && x.Slot == y.Slot && x.Task == y.Task); simp [Bool.and_assoc])
theorem EQvn_law15_Act (x y : law15_Act) : Value.bool (!(eqAt [(0, some .u8), (1, some .i64), (2, some .i64)] (L_law15_Act.enc x) (L_law15_Act.enc y))) = .bool (!(EQ_law15_Act x y)) := congrArg (fun v => match v with | Value.bool b => Value.bool (!b) | v => v) (EQv_law15_Act x y)
def law15_MarkPlays (n : Nat) (a0 : (List law15_Act)) : Option Bool :=
  cn (decide (200 < (a0.length : Int))) (
  bd (law15_wakes n ) fun x21 =>
  some x21) (
  bd (ref15_New n ) fun x22 =>
  loop5 (fun k58 (x47 : Int) (x48 : ref15_Marks) (x51 : ref15_Marks) (x54 : mark_Marks) (x55 : mark_Marks) =>
  cn (decide (x47 < (a0.length : Int))) (
  gu (inb x47 a0.length) <|
  lt ((a0.getD (Int.toNat x47) default) : law15_Act) fun x60 =>
  lt (fun (x63 : ref15_Marks) (x66 : mark_Marks) =>
  cn ((x47 == (wr .i64 (Int.tdiv (a0.length : Int) 2)))) (
  k58 (wr .i64 (x47 + 1)) x63 x63 x66 x66) (
  k58 (wr .i64 (x47 + 1)) x48 x63 x54 x66)) fun j67 =>
  cn ((x60.Do == 0)) (
  bd (mark_Marks_Free n x55 x60.Slot x60.Task) fun x68 =>
  bd (ref15_Marks_Free n x51 x60.Slot x60.Task) fun x69 =>
  j67 x69 x68) (
  cn ((x60.Do == 1)) (
  bd (mark_Marks_Gone n x55 x60.Task) fun x78 =>
  bd (ref15_Marks_Gone n x51 x60.Task) fun x79 =>
  j67 x79 x78) (
  bd (mark_Marks_Try n x55 x60.Slot x60.Task) fun x88 =>
  bd (ref15_Marks_Try n x51 x60.Slot x60.Task) fun x89 =>
  cn ((x88.2 != x89.2)) (
  some false) (
  j67 x89.1 x88.1)))) (
  bd (law15_same n x55 x51) fun x102 =>
  cl ((x102 == true) && (((a0.length : Int) == 0) == false)) (law15_same n x54 x48) default fun x103 =>
  cl ((x102 && (((a0.length : Int) == 0) || x103)) == true) (law15_wakes n ) default fun x104 =>
  some ((x102 && (((a0.length : Int) == 0) || x103)) && x104))) n 0 x22 x22 Z_mark_Marks Z_mark_Marks)
theorem c_law15_MarkPlays {n : Nat} {a0 : (List law15_Act)} {r : Bool} {K : World → Prop} [Stable K] {v0 : Value} (f0 : Fz K v0 L_law15_Act a0) (h : law15_MarkPlays n a0 = some r) : FnW Try.prog 7 [v0] K (.bool r) := by
  unfold law15_MarkPlays at h
  refine fn_of Try.func7 (by kernel_rfl) rfl Try.ntmps7 rfl (fun cx hbs hpre hro => ?_)
  haveI := kn_pre hbs hpre
  refine WP_seq ?_
  refine WP_region ?_
  refine WL_v rfl (VS_assign rfl) ?_
  refine WL_nil ?_
  refine WQ_then ?_
  refine WP_seq ?_
  refine WP_seq ?_
  refine WP_region ?_
  refine WL_v rfl (VS_move rfl) ?_
  refine WL_v rfl (VS_lenF f0 rfl) ?_
  refine WL_v rfl (VS_gtr rfl rfl) ?_
  refine WL_nil ?_
  refine WQ_then ?_
  refine WP_if rfl (fun hc => ?_) (fun hc => ?_)
  ·
    replace h := cn_t hc h
    refine WP_seq ?_
    obtain ⟨x21, hx21, h⟩ := bd_e h
    refine WP_region ?_
    refine WL_v rfl (VS_call (c_law15_wakes hx21) rfl (fun _ _ _ => trivial)) ?_
    refine WL_v rfl (VS_assign rfl) ?_
    refine WL_nil ?_
    refine WQ_then ?_
    refine WP_ret ?_
    refine WQ_then_ret ?_
    replace h := Option.some.inj h
    subst h
    exact WQ_ret () rfl (.tmp rfl .nil) trivial rfl (ks := []) rfl (by decide)
  ·
    replace h := cn_f hc h
    refine WP_skip ?_
    refine WQ_then ?_
    refine WP_seq ?_
    refine WP_region ?_
    refine WL_x rfl (RX_allocL (L := L_mark_Marks) (z := Z_mark_Marks) ⟨by kernel_rfl⟩) (fun b3 _ => ?_)
    refine WL_x rfl (RX_allocL (L := L_mark_Marks) (z := Z_mark_Marks) ⟨by kernel_rfl⟩) (fun b4 _ => ?_)
    refine WL_nil ?_
    refine WQ_then ?_
    refine WP_seq ?_
    obtain ⟨x22, hx22, h⟩ := bd_e h
    refine WP_region ?_
    refine WL_x rfl (RX_callB (c_ref15_New hx22) rfl) (fun ⟨w23, bs24, J25⟩ hp26 => ?_)
    obtain ⟨c28, rfl, f27⟩ := hp26
    replace f27 : L_ref15_Marks.rep (Hs [.ext bs24 J25]) c28 x22 := f27
    refine WL_x rfl (RX_alloc (hz := (⟨by kernel_rfl⟩ : TZero Try.prog 100 zc_ref15_Marks))) (fun b5 _ => ?_)
    obtain ⟨c29, hc29, f30⟩ : ∃ cc, splice zc_ref15_Marks 0 c28 = cc ∧ (L_ref15_Marks).rep (Hs [.ext bs24 J25]) cc x22 := ⟨_, rfl, (Pth.id (L := L_ref15_Marks)).set (Lay.mono _ ent (show (L_ref15_Marks).rep (Hs []) zc_ref15_Marks Z_ref15_Marks from zr_ref15_Marks)) (Lay.mono _ ent f27)⟩
    refine WL_x0 (RX_stN c28 (Pth.id (L := L_ref15_Marks)) (v := x22) (r := (show (L_ref15_Marks).rep (Hs []) zc_ref15_Marks Z_ref15_Marks from zr_ref15_Marks)) (rv := ((Lay.mono _ ent f27) : (L_ref15_Marks).rep (Hs [.ext bs24 J25]) c28 x22)) rfl rfl rfl rfl hc29) (fun _ _ => ?_)
    refine WL_nil ?_
    refine WQ_then ?_
    refine WP_seq ?_
    refine WP_region ?_
    refine WL_v rfl (VS_loadall rfl (Lay.len _ f30)) ?_
    refine WL_x rfl (RX_alloc (hz := (⟨by kernel_rfl⟩ : TZero Try.prog 100 zc_ref15_Marks))) (fun b6 _ => ?_)
    obtain ⟨c31, hc31, f32⟩ : ∃ cc, splice zc_ref15_Marks 0 c29 = cc ∧ (L_ref15_Marks).rep (Hs [.ext bs24 J25]) cc x22 := ⟨_, rfl, (Pth.id (L := L_ref15_Marks)).set (Lay.mono _ ent (show (L_ref15_Marks).rep (Hs []) zc_ref15_Marks Z_ref15_Marks from zr_ref15_Marks)) (Lay.mono _ ent f30)⟩
    refine WL_x0 (RX_stN c29 (Pth.id (L := L_ref15_Marks)) (v := x22) (r := (show (L_ref15_Marks).rep (Hs []) zc_ref15_Marks Z_ref15_Marks from zr_ref15_Marks)) (rv := ((Lay.mono _ ent f30) : (L_ref15_Marks).rep (Hs [.ext bs24 J25]) c29 x22)) rfl rfl rfl rfl hc31) (fun _ _ => ?_)
    refine WL_nil ?_
    refine WQ_then ?_
    refine WP_seq ?_
    refine WP_seq ?_
    refine WP_region ?_
    refine WL_v rfl (VS_assign rfl) ?_
    refine WL_nil ?_
    refine WQ_then ?_
    refine WP_block ?_
    obtain ⟨lb56, hlb56, h⟩ := lp5_i h
    refine WP_ext0 ?_
    refine WP_loops (α := Nat × Int × ref15_Marks × ref15_Marks × mark_Marks × mark_Marks × (List Value) × (List Value) × (List Nat) × (World → Prop)) [0, 3, 4, 5, 6] (.cons rfl (.cons rfl (.cons rfl (.cons rfl (.cons rfl (.nil)))))) (fun (m57, x47, x48, x51, x54, x55, c49, c52, bs45, J46) => [(7, .int .i64 x47)]) (fun (m57, x47, x48, x51, x54, x55, c49, c52, bs45, J46) => [.ext bs45 J46, .cells b6 100 c49, .cells b5 100 c52, .ext bs24 J25, .cells b4 96 (L_mark_Marks.enc x54), .cells b3 96 (L_mark_Marks.enc x55)]) (fun (m57, x47, x48, x51, x54, x55, c49, c52, bs45, J46) => (L_ref15_Marks).rep (Hs [.ext bs24 J25, .ext bs45 J46]) c49 x48 ∧ (L_ref15_Marks).rep (Hs [.ext bs24 J25, .ext bs45 J46]) c52 x51 ∧ loop5 lb56 m57 x47 x48 x51 x54 x55 = some r) (fun (m57, x47, x48, x51, x54, x55, c49, c52, bs45, J46) => m57) (n, 0, x22, x22, Z_mark_Marks, Z_mark_Marks, c31, c29, [], (Hs [])) ⟨(Lay.mono _ ent f32), (Lay.mono _ ent f30), h⟩ (Sub_cons rfl (Sub_nil)) (ks := [0, 1, 2, 3, 4, 5]) rfl (by decide) ?_
    rintro ⟨m57, x47, x48, x51, x54, x55, c49, c52, bs45, J46⟩ ⟨f50, f53, h⟩
    replace h : loop5 lb56 m57 x47 x48 x51 x54 x55 = some r := h
    replace h := lp5_s hlb56 h
    obtain ⟨m57, rfl, h⟩ := h
    refine WP_seq ?_
    refine WP_seq ?_
    refine WP_region ?_
    refine WL_v rfl (VS_move rfl) ?_
    refine WL_v rfl (VS_move rfl) ?_
    refine WL_v rfl (VS_lenF f0 rfl) ?_
    refine WL_v rfl (VS_lss rfl rfl) ?_
    refine WL_nil ?_
    refine WQ_then ?_
    refine WP_if rfl (fun hc => ?_) (fun hc => ?_)
    ·
      replace h := cn_t hc h
      refine WP_skip ?_
      refine WQ_then ?_
      refine WP_seq ?_
      refine WP_block ?_
      refine WP_seq ?_
      obtain ⟨hg59, h⟩ := gu_e h
      obtain ⟨x60, hx60, h⟩ := lt_e h
      refine WP_region ?_
      refine WL_v rfl (VS_move rfl) ?_
      refine WL_v rfl (VS_move rfl) ?_
      refine WL_v rfl (VS_ixF (m := (Int.toNat x47)) f0 rfl rfl rfl (inb_e hg59).1 (inb_e hg59).2) ?_
      refine WL_v rfl (VS_ldaF (M := L_law15_Act) f0 (Pth.idx (L := L_law15_Act) (m := (a0.length)) (k := 3) ((Int.toNat x47)) (inb_e hg59).2 rfl) rfl rfl (by decide)) ?_
      refine WL_x rfl (RX_allocL (L := L_law15_Act) (z := Z_law15_Act) ⟨by kernel_rfl⟩) (fun b8 _ => ?_)
      refine WL_x0 (RX_st (M := L_law15_Act) (Pth.id (L := L_law15_Act)) (a0.getD (Int.toNat x47) default) x60 hx60 rfl rfl rfl rfl) (fun _ _ => ?_)
      refine WL_nil ?_
      refine WQ_then ?_
      obtain ⟨j67, hj67, h⟩ := lt_e h
      refine WP_cuts (α := ref15_Marks × mark_Marks × (List Value) × (List Nat) × (World → Prop)) [0, 3, 4, 5, 6, 7] (.cons rfl (.cons rfl (.cons rfl (.cons rfl (.cons rfl (.cons rfl (.nil))))))) (fun (x63, x66, c64, bs61, J62) => []) (fun (x63, x66, c64, bs61, J62) => [.ext bs61 J62, .cells b8 103 (L_law15_Act.enc x60), .ext bs45 J46, .cells b6 100 c49, .cells b5 100 c64, .ext bs24 J25, .cells b4 96 (L_mark_Marks.enc x54), .cells b3 96 (L_mark_Marks.enc x66)]) (fun (x63, x66, c64, bs61, J62) => (L_ref15_Marks).rep (Hs [.ext bs24 J25, .ext bs45 J46, .ext bs61 J62]) c64 x63 ∧ j67 x63 x66 = some r) ?_ ?_
      ·
        refine WP_seq ?_
        refine WP_region ?_
        refine WL_v rfl (VS_field0 rfl) ?_
        refine WL_v rfl (VS_ldi P_law15_Act_Do rfl) ?_
        refine WL_nil ?_
        refine WQ_then ?_
        refine WP_block ?_
        refine WP_seq ?_
        refine WP_region ?_
        refine WL_v rfl (VS_eql rfl rfl) ?_
        refine WL_v rfl (VS_assign rfl) ?_
        refine WL_nil ?_
        refine WQ_then ?_
        refine WP_if rfl (fun hc => ?_) (fun hc => ?_)
        ·
          replace h := cn_t hc h
          refine WP_seq ?_
          obtain ⟨x68, hx68, h⟩ := bd_e h
          refine WP_region ?_
          refine WL_v rfl (VS_lda (M := L_mark_Marks) (Pth.id (L := L_mark_Marks)) rfl rfl) ?_
          refine WL_v rfl (VS_field0 rfl) ?_
          refine WL_v rfl (VS_ldi P_law15_Act_Slot rfl) ?_
          refine WL_v rfl (VS_field0 rfl) ?_
          refine WL_v rfl (VS_ldi P_law15_Act_Task rfl) ?_
          refine WL_v rfl (VS_call (c_mark_Marks_Free hx68) rfl (fun _ _ _ => trivial)) ?_
          refine WL_x0 (RX_st (M := L_mark_Marks) (Pth.id (L := L_mark_Marks)) x68 x68 rfl rfl rfl rfl rfl) (fun _ _ => ?_)
          refine WL_nil ?_
          refine WQ_then ?_
          obtain ⟨x69, hx69, h⟩ := bd_e h
          refine WP_region ?_
          refine WL_v rfl (VS_loadall rfl (Lay.len _ f53)) ?_
          refine WL_v rfl (VS_field0 rfl) ?_
          refine WL_v rfl (VS_ldi P_law15_Act_Slot rfl) ?_
          refine WL_v rfl (VS_field0 rfl) ?_
          refine WL_v rfl (VS_ldi P_law15_Act_Task rfl) ?_
          refine WL_x rfl (RX_callB (c_ref15_Marks_Free (K := (Hs [.ext bs24 J25, .ext bs45 J46])) (Lay.mono _ ent f53) hx69) rfl) (fun ⟨w70, bs71, J72⟩ hp73 => ?_)
          obtain ⟨c75, rfl, f74⟩ := hp73
          replace f74 : L_ref15_Marks.rep (fun w => (Hs [.ext bs24 J25, .ext bs45 J46]) w ∧ Hs [.ext bs71 J72] w) c75 x69 := f74
          obtain ⟨c76, hc76, f77⟩ : ∃ cc, splice c52 0 c75 = cc ∧ (L_ref15_Marks).rep (Hs [.ext bs24 J25, .ext bs45 J46, .ext bs71 J72]) cc x69 := ⟨_, rfl, (Pth.id (L := L_ref15_Marks)).set (Lay.mono _ ent f53) (Lay.mono _ ent f74)⟩
          refine WL_x0 (RX_stN c75 (Pth.id (L := L_ref15_Marks)) (v := x69) (r := f53) (rv := ((Lay.mono _ ent f74) : (L_ref15_Marks).rep (Hs [.ext bs24 J25, .ext bs45 J46, .ext bs71 J72]) c75 x69)) rfl rfl rfl rfl hc76) (fun _ _ => ?_)
          refine WL_nil ?_
          refine WQ_block ?_
          refine WQ_bundle (R := [.ext bs71 J72]) (H' := [.cells b8 103 (L_law15_Act.enc x60), .ext bs45 J46, .cells b6 100 c49, .cells b5 100 c76, .ext bs24 J25, .cells b4 96 (L_mark_Marks.enc x54), .cells b3 96 (L_mark_Marks.enc x68)]) (ks := [0, 1, 2, 3, 4, 5, 6, 7]) rfl (by decide) ?_
          exact WQ_cuts (x69, x68, c76, (blks [.ext bs71 J72]), (Hs [.ext bs71 J72])) ⟨(Lay.mono _ ent f77), h⟩ (Sub_nil) (.cons rfl (.cons rfl (.cons rfl (.cons rfl (.cons rfl (.cons rfl (.nil))))))) (ks := [0, 1, 2, 3, 4, 5, 6, 7]) rfl (by decide)
        ·
          replace h := cn_f hc h
          refine WP_seq ?_
          refine WP_region ?_
          refine WL_v rfl (VS_eql rfl rfl) ?_
          refine WL_v rfl (VS_assign rfl) ?_
          refine WL_nil ?_
          refine WQ_then ?_
          refine WP_if rfl (fun hc => ?_) (fun hc => ?_)
          ·
            replace h := cn_t hc h
            refine WP_seq ?_
            obtain ⟨x78, hx78, h⟩ := bd_e h
            refine WP_region ?_
            refine WL_v rfl (VS_lda (M := L_mark_Marks) (Pth.id (L := L_mark_Marks)) rfl rfl) ?_
            refine WL_v rfl (VS_field0 rfl) ?_
            refine WL_v rfl (VS_ldi P_law15_Act_Task rfl) ?_
            refine WL_v rfl (VS_call (c_mark_Marks_Gone hx78) rfl (fun _ _ _ => trivial)) ?_
            refine WL_x0 (RX_st (M := L_mark_Marks) (Pth.id (L := L_mark_Marks)) x78 x78 rfl rfl rfl rfl rfl) (fun _ _ => ?_)
            refine WL_nil ?_
            refine WQ_then ?_
            obtain ⟨x79, hx79, h⟩ := bd_e h
            refine WP_region ?_
            refine WL_v rfl (VS_loadall rfl (Lay.len _ f53)) ?_
            refine WL_v rfl (VS_field0 rfl) ?_
            refine WL_v rfl (VS_ldi P_law15_Act_Task rfl) ?_
            refine WL_x rfl (RX_callB (c_ref15_Marks_Gone (K := (Hs [.ext bs24 J25, .ext bs45 J46])) (Lay.mono _ ent f53) hx79) rfl) (fun ⟨w80, bs81, J82⟩ hp83 => ?_)
            obtain ⟨c85, rfl, f84⟩ := hp83
            replace f84 : L_ref15_Marks.rep (fun w => (Hs [.ext bs24 J25, .ext bs45 J46]) w ∧ Hs [.ext bs81 J82] w) c85 x79 := f84
            obtain ⟨c86, hc86, f87⟩ : ∃ cc, splice c52 0 c85 = cc ∧ (L_ref15_Marks).rep (Hs [.ext bs24 J25, .ext bs45 J46, .ext bs81 J82]) cc x79 := ⟨_, rfl, (Pth.id (L := L_ref15_Marks)).set (Lay.mono _ ent f53) (Lay.mono _ ent f84)⟩
            refine WL_x0 (RX_stN c85 (Pth.id (L := L_ref15_Marks)) (v := x79) (r := f53) (rv := ((Lay.mono _ ent f84) : (L_ref15_Marks).rep (Hs [.ext bs24 J25, .ext bs45 J46, .ext bs81 J82]) c85 x79)) rfl rfl rfl rfl hc86) (fun _ _ => ?_)
            refine WL_nil ?_
            refine WQ_block ?_
            refine WQ_bundle (R := [.ext bs81 J82]) (H' := [.cells b8 103 (L_law15_Act.enc x60), .ext bs45 J46, .cells b6 100 c49, .cells b5 100 c86, .ext bs24 J25, .cells b4 96 (L_mark_Marks.enc x54), .cells b3 96 (L_mark_Marks.enc x78)]) (ks := [0, 1, 2, 3, 4, 5, 6, 7]) rfl (by decide) ?_
            exact WQ_cuts (x79, x78, c86, (blks [.ext bs81 J82]), (Hs [.ext bs81 J82])) ⟨(Lay.mono _ ent f87), h⟩ (Sub_nil) (.cons rfl (.cons rfl (.cons rfl (.cons rfl (.cons rfl (.cons rfl (.nil))))))) (ks := [0, 1, 2, 3, 4, 5, 6, 7]) rfl (by decide)
          ·
            replace h := cn_f hc h
            refine WP_seq ?_
            obtain ⟨x88, hx88, h⟩ := bd_e h
            refine WP_region ?_
            refine WL_v rfl (VS_lda (M := L_mark_Marks) (Pth.id (L := L_mark_Marks)) rfl rfl) ?_
            refine WL_v rfl (VS_field0 rfl) ?_
            refine WL_v rfl (VS_ldi P_law15_Act_Slot rfl) ?_
            refine WL_v rfl (VS_field0 rfl) ?_
            refine WL_v rfl (VS_ldi P_law15_Act_Task rfl) ?_
            refine WL_v rfl (VS_call (c_mark_Marks_Try hx88) rfl (fun _ _ _ => trivial)) ?_
            refine WL_v rfl (VS_move rfl) ?_
            refine WL_v rfl (VS_extract rfl rfl) ?_
            refine WL_v rfl (VS_extract rfl rfl) ?_
            refine WL_x rfl (RX_allocL (L := L_mark_Marks) (z := Z_mark_Marks) ⟨by kernel_rfl⟩) (fun b9 _ => ?_)
            refine WL_x0 (RX_st (M := L_mark_Marks) (Pth.id (L := L_mark_Marks)) x88.1 x88.1 rfl rfl rfl rfl rfl) (fun _ _ => ?_)
            refine WL_v rfl (VS_assign rfl) ?_
            refine WL_nil ?_
            refine WQ_then ?_
            refine WP_seq ?_
            obtain ⟨x89, hx89, h⟩ := bd_e h
            refine WP_region ?_
            refine WL_v rfl (VS_loadall rfl (Lay.len _ f53)) ?_
            refine WL_v rfl (VS_field0 rfl) ?_
            refine WL_v rfl (VS_ldi P_law15_Act_Slot rfl) ?_
            refine WL_v rfl (VS_field0 rfl) ?_
            refine WL_v rfl (VS_ldi P_law15_Act_Task rfl) ?_
            refine WL_x rfl (RX_callB (c_ref15_Marks_Try (K := (Hs [.ext bs24 J25, .ext bs45 J46])) (Lay.mono _ ent f53) hx89) rfl) (fun ⟨w90, bs91, J92⟩ hp93 => ?_)
            obtain ⟨c95, rfl, f94⟩ := hp93
            replace f94 : L_ref15_Marks.rep (fun w => (Hs [.ext bs24 J25, .ext bs45 J46]) w ∧ Hs [.ext bs91 J92] w) c95 x89.1 := f94
            refine WL_v rfl (VS_move rfl) ?_
            refine WL_v rfl (VS_extract rfl rfl) ?_
            refine WL_v rfl (VS_extract rfl rfl) ?_
            refine WL_x rfl (RX_alloc (hz := (⟨by kernel_rfl⟩ : TZero Try.prog 100 zc_ref15_Marks))) (fun b11 _ => ?_)
            obtain ⟨c96, hc96, f97⟩ : ∃ cc, splice zc_ref15_Marks 0 c95 = cc ∧ (L_ref15_Marks).rep (Hs [.ext bs24 J25, .ext bs45 J46, .ext bs91 J92]) cc x89.1 := ⟨_, rfl, (Pth.id (L := L_ref15_Marks)).set (Lay.mono _ ent (show (L_ref15_Marks).rep (Hs []) zc_ref15_Marks Z_ref15_Marks from zr_ref15_Marks)) (Lay.mono _ ent f94)⟩
            refine WL_x0 (RX_stN c95 (Pth.id (L := L_ref15_Marks)) (v := x89.1) (r := (show (L_ref15_Marks).rep (Hs []) zc_ref15_Marks Z_ref15_Marks from zr_ref15_Marks)) (rv := ((Lay.mono _ ent f94) : (L_ref15_Marks).rep (Hs [.ext bs24 J25, .ext bs45 J46, .ext bs91 J92]) c95 x89.1)) rfl rfl rfl rfl hc96) (fun _ _ => ?_)
            refine WL_v rfl (VS_assign rfl) ?_
            refine WL_nil ?_
            refine WQ_then ?_
            refine WP_seq ?_
            refine WP_draw mixed (.stg [] [(0, [9]), (1, [11])] (.alt 2 [3, 49] (.stg [(1, [11])] [] (.alt 3 [5, 50] (.fin [] []) .no)) .no)) (by kernel_rfl) ?_
            refine Stg_stg ?_ ?_
            · exact ReOk_nil
            refine NewOk_cons rfl rfl (VG_v rfl (VS_lda (M := L_mark_Marks) (Pth.id (L := L_mark_Marks)) rfl rfl)) ?_
            refine NewOk_cons rfl rfl (VG_v rfl (VS_loadall rfl (Lay.len _ f97))) ?_
            refine NewOk_nil ?_
            refine Stg_none rfl (RG_x rfl (RX_st (M := L_mark_Marks) (Pth.id (L := L_mark_Marks)) x88.1 x88.1 rfl rfl rfl rfl rfl)) (fun _ _ => ?_) Stg_no
            refine Stg_stg ?_ ?_
            ·
              refine ReOk_cons rfl rfl (VG_v rfl (VS_val (VS_loadall rfl (Lay.len _ f97)) rfl)) ?_
              exact ReOk_nil
            refine NewOk_nil ?_
            obtain ⟨c98, hc98, f99⟩ : ∃ cc, splice c52 0 c96 = cc ∧ (L_ref15_Marks).rep (Hs [.ext bs24 J25, .ext bs45 J46, .ext bs91 J92]) cc x89.1 := ⟨_, rfl, (Pth.id (L := L_ref15_Marks)).set (Lay.mono _ ent f53) (Lay.mono _ ent f97)⟩
            refine Stg_none rfl (RG_x rfl (RX_stN c96 (Pth.id (L := L_ref15_Marks)) (v := x89.1) (r := f53) (rv := ((Lay.mono _ ent f97) : (L_ref15_Marks).rep (Hs [.ext bs24 J25, .ext bs45 J46, .ext bs91 J92]) c96 x89.1)) rfl rfl rfl rfl hc98)) (fun _ _ => ?_) Stg_no
            refine Stg_fin ?_ ?_
            · exact ReOk_nil
            refine NewOk_nil ?_
            refine WQ_then ?_
            refine WP_seq ?_
            refine WP_region ?_
            refine WL_v rfl (VS_move rfl) ?_
            refine WL_v rfl (VS_move rfl) ?_
            refine WL_v rfl (VS_neqb rfl rfl) ?_
            refine WL_nil ?_
            refine WQ_then ?_
            refine WP_if rfl (fun hc => ?_) (fun hc => ?_)
            ·
              replace h := cn_t hc h
              refine WP_seq ?_
              refine WP_region ?_
              refine WL_v rfl (VS_assign rfl) ?_
              refine WL_nil ?_
              refine WQ_then ?_
              refine WP_ret ?_
              refine WQ_block_ret ?_
              refine WQ_then_ret ?_
              refine WQ_block_ret ?_
              refine WQ_then_ret ?_
              refine WQ_then_ret ?_
              refine WQ_block_ret ?_
              refine WQ_then_ret ?_
              replace h := Option.some.inj h
              subst h
              exact WQ_ret () rfl (.tmp rfl .nil) trivial rfl (ks := []) rfl (by decide)
            ·
              replace h := cn_f hc h
              refine WP_skip ?_
              refine WQ_block ?_
              refine WQ_bundle (R := [.ext bs91 J92]) (H' := [.cells b11 100 c96, .cells b9 96 (L_mark_Marks.enc x88.1), .cells b8 103 (L_law15_Act.enc x60), .ext bs45 J46, .cells b6 100 c49, .cells b5 100 c98, .ext bs24 J25, .cells b4 96 (L_mark_Marks.enc x54), .cells b3 96 (L_mark_Marks.enc x88.1)]) (ks := [1, 0, 2, 3, 4, 5, 6, 7, 8, 9]) rfl (by decide) ?_
              exact WQ_cuts (x89.1, x88.1, c98, (blks [.ext bs91 J92]), (Hs [.ext bs91 J92])) ⟨(Lay.mono _ ent f99), h⟩ (Sub_nil) (.cons rfl (.cons rfl (.cons rfl (.cons rfl (.cons rfl (.cons rfl (.nil))))))) (ks := [0, 3, 4, 5, 6, 7, 8, 9]) rfl (by decide)
      ·
        rintro ⟨x63, x66, c64, bs61, J62⟩ ⟨f65, h⟩
        replace h : j67 x63 x66 = some r := h
        replace h := jn2_u hj67 h
        refine WP_seq ?_
        refine WP_region ?_
        refine WL_v rfl (VS_move rfl) ?_
        refine WL_v rfl (VS_move rfl) ?_
        refine WL_v rfl (VS_lenF f0 rfl) ?_
        refine WL_v rfl (VS_quo rfl rfl (by decide) rfl) ?_
        refine WL_v rfl (VS_eql rfl rfl) ?_
        refine WL_nil ?_
        refine WQ_then ?_
        refine WP_if rfl (fun hc => ?_) (fun hc => ?_)
        ·
          replace h := cn_t hc h
          refine WP_seq ?_
          refine WP_region ?_
          refine WL_v rfl (VS_lda (M := L_mark_Marks) (Pth.id (L := L_mark_Marks)) rfl rfl) ?_
          refine WL_x0 (RX_st (M := L_mark_Marks) (Pth.id (L := L_mark_Marks)) x66 x66 rfl rfl rfl rfl rfl) (fun _ _ => ?_)
          refine WL_nil ?_
          refine WQ_then ?_
          refine WP_region ?_
          refine WL_v rfl (VS_loadall rfl (Lay.len _ f65)) ?_
          obtain ⟨c100, hc100, f101⟩ : ∃ cc, splice c49 0 c64 = cc ∧ (L_ref15_Marks).rep (Hs [.ext bs24 J25, .ext bs45 J46, .ext bs61 J62]) cc x63 := ⟨_, rfl, (Pth.id (L := L_ref15_Marks)).set (Lay.mono _ ent f50) (Lay.mono _ ent f65)⟩
          refine WL_x0 (RX_stN c64 (Pth.id (L := L_ref15_Marks)) (v := x63) (r := f50) (rv := ((Lay.mono _ ent f65) : (L_ref15_Marks).rep (Hs [.ext bs24 J25, .ext bs45 J46, .ext bs61 J62]) c64 x63)) rfl rfl rfl rfl hc100) (fun _ _ => ?_)
          refine WL_nil ?_
          refine WQ_block ?_
          refine WQ_then ?_
          refine WP_region ?_
          refine WL_v rfl (VS_move rfl) ?_
          refine WL_v rfl (VS_add rfl rfl rfl) ?_
          refine WL_v rfl (VS_assign rfl) ?_
          refine WL_nil ?_
          refine WQ_bundle (R := [.ext bs61 J62, .ext bs45 J46]) (H' := [.cells b8 103 (L_law15_Act.enc x60), .cells b6 100 c100, .cells b5 100 c64, .ext bs24 J25, .cells b4 96 (L_mark_Marks.enc x66), .cells b3 96 (L_mark_Marks.enc x66)]) (ks := [0, 2, 1, 3, 4, 5, 6, 7]) rfl (by decide) ?_
          exact WQ_loops (m57, wr .i64 (x47 + 1), x63, x63, x66, x66, c100, c64, (blks [.ext bs61 J62, .ext bs45 J46]), (Hs [.ext bs61 J62, .ext bs45 J46])) (Nat.lt_succ_self _) ⟨(Lay.mono _ ent f101), (Lay.mono _ ent f65), h⟩ (Sub_cons rfl (Sub_nil)) (.cons rfl (.cons rfl (.cons rfl (.cons rfl (.cons rfl (.nil)))))) (ks := [0, 2, 3, 4, 5, 6]) rfl (by decide)
        ·
          replace h := cn_f hc h
          refine WP_skip ?_
          refine WQ_block ?_
          refine WQ_then ?_
          refine WP_region ?_
          refine WL_v rfl (VS_move rfl) ?_
          refine WL_v rfl (VS_add rfl rfl rfl) ?_
          refine WL_v rfl (VS_assign rfl) ?_
          refine WL_nil ?_
          refine WQ_bundle (R := [.ext bs61 J62, .ext bs45 J46]) (H' := [.cells b8 103 (L_law15_Act.enc x60), .cells b6 100 c49, .cells b5 100 c64, .ext bs24 J25, .cells b4 96 (L_mark_Marks.enc x54), .cells b3 96 (L_mark_Marks.enc x66)]) (ks := [0, 2, 1, 3, 4, 5, 6, 7]) rfl (by decide) ?_
          exact WQ_loops (m57, wr .i64 (x47 + 1), x48, x63, x54, x66, c49, c64, (blks [.ext bs61 J62, .ext bs45 J46]), (Hs [.ext bs61 J62, .ext bs45 J46])) (Nat.lt_succ_self _) ⟨(Lay.mono _ ent f50), (Lay.mono _ ent f65), h⟩ (Sub_cons rfl (Sub_nil)) (.cons rfl (.cons rfl (.cons rfl (.cons rfl (.cons rfl (.nil)))))) (ks := [0, 2, 3, 4, 5, 6]) rfl (by decide)
    ·
      replace h := cn_f hc h
      refine WP_exit ?_
      refine WQ_then_exit ?_
      refine WQ_then_exit ?_
      refine WQ_block_exit ?_
      refine WQ_then ?_
      refine WP_seq ?_
      obtain ⟨x102, hx102, h⟩ := bd_e h
      obtain ⟨x103, hx103, _, h⟩ := cl_e h
      obtain ⟨x104, hx104, _, h⟩ := cl_e h
      refine WP_region ?_
      refine WL_v rfl (VS_lda (M := L_mark_Marks) (Pth.id (L := L_mark_Marks)) rfl rfl) ?_
      refine WL_v rfl (VS_loadall rfl (Lay.len _ f53)) ?_
      refine WL_v rfl (VS_call (c_law15_same (K := (Hs [.ext bs24 J25, .ext bs45 J46])) (Lay.mono _ ent f53) hx102) rfl kn) ?_
      refine WL_v rfl (VS_move rfl) ?_
      refine WL_g (Gd_b rfl rfl) rfl (fun hb => VS_move rfl) ?_
      refine WL_g (Gd_b rfl rfl) rfl (fun hb => VS_lenF f0 (gev rfl hb)) ?_
      refine WL_g (Gd_b rfl rfl) rfl (fun hb => VS_eql (gev rfl hb) rfl) ?_
      refine WL_g (Gd_b rfl rfl) rfl (fun hb => VS_move (gev rfl hb)) ?_
      refine WL_g (Gd_g rfl rfl) rfl (fun hb => VS_lda (M := L_mark_Marks) (Pth.id (L := L_mark_Marks)) rfl rfl) ?_
      refine WL_g (Gd_g rfl rfl) rfl (fun hb => VS_loadall rfl (Lay.len _ f50)) ?_
      refine WL_g (Gd_g rfl rfl) rfl (fun hb => VS_call (c_law15_same (K := (Hs [.ext bs24 J25, .ext bs45 J46])) (Lay.mono _ ent f50) (hx103 hb)) (evs_cons (gev rfl hb) (evs_cons (gev rfl hb) rfl)) kn) ?_
      refine WL_g (Gd_b rfl rfl) rfl (fun hb => VS_or (gev rfl hb) (gev2 rfl hb)) ?_
      refine WL_v rfl (VS_and rfl rfl) ?_
      refine WL_v rfl (VS_move rfl) ?_
      refine WL_g (Gd_b rfl rfl) rfl (fun hb => VS_call (c_law15_wakes (hx104 hb)) rfl (fun _ _ _ => trivial)) ?_
      refine WL_v rfl (VS_and rfl rfl) ?_
      refine WL_v rfl (VS_assign rfl) ?_
      refine WL_nil ?_
      refine WQ_then ?_
      refine WP_ret ?_
      replace h := Option.some.inj h
      subst h
      exact WQ_ret () rfl (.tmp rfl .nil) trivial rfl (ks := []) rfl (by decide)
def law15_MarkTurns (n : Nat) (a0 : (List law15_Act)) (a1 : Int) : Option Bool :=
  cn (((decide (200 < (a0.length : Int)) || decide (a1 < 0)) || decide (31 < a1))) (
  bd (law15_wakes n ) fun x21 =>
  some x21) (
  loop2 (fun k29 (x25 : Int) (x26 : mark_Marks) =>
  cn (decide (x25 < (a0.length : Int))) (
  gu (inb x25 a0.length) <|
  lt ((a0.getD (Int.toNat x25) default) : law15_Act) fun x31 =>
  cn ((x31.Do == 0)) (
  bd (mark_Marks_Free n x26 x31.Slot x31.Task) fun x32 =>
  k29 (wr .i64 (x25 + 1)) x32) (
  cn ((x31.Do == 1)) (
  bd (mark_Marks_Gone n x26 x31.Task) fun x33 =>
  k29 (wr .i64 (x25 + 1)) x33) (
  bd (mark_Marks_Try n x26 x31.Slot x31.Task) fun x34 =>
  k29 (wr .i64 (x25 + 1)) x34.1))) (
  bd (mark_Marks_Holder n x26 a1) fun x35 =>
  bd (mark_Marks_Waiting n x26 a1) fun x36 =>
  loop1 (fun k47 (x44 : Int) =>
  cn (decide (x44 < (x36.length : Int))) (
  gu (!(x35.2 == true) || inb x44 x36.length) <|
  cn ((x35.2 && ((x36.getD (Int.toNat x44) default) == x35.1))) (
  some false) (
  k47 (wr .i64 (x44 + 1)))) (
  lt (fun (x49 : mark_Marks) =>
  loop2 (fun k59 (x55 : Int) (x56 : mark_Marks) =>
  cn (decide (x55 < (x36.length : Int))) (
  loop2 (fun k67 (x63 : Int) (x64 : mark_Marks) =>
  cn (decide (x55 < x63)) (
  gu (inb x63 x36.length) <|
  bd (mark_Marks_Try n x64 a1 (x36.getD (Int.toNat x63) default)) fun x69 =>
  cl (x69.2 == false) (mark_Marks_Waiting n x69.1 a1) default fun x70 =>
  cn ((x69.2 || ((x70.length : Int) != (wr .i64 ((x36.length : Int) - x55))))) (
  some false) (
  k67 (wr .i64 (x63 - 1)) x69.1)) (
  gu (inb x55 x36.length) <|
  bd (mark_Marks_Try n x64 a1 (x36.getD (Int.toNat x55) default)) fun x77 =>
  cn ((!x77.2)) (
  some false) (
  gu (inb x55 x36.length) <|
  bd (mark_Marks_Free n x77.1 a1 (x36.getD (Int.toNat x55) default)) fun x79 =>
  k59 (wr .i64 (x55 + 1)) x79))) n (wr .i64 ((x36.length : Int) - 1)) x56) (
  bd (mark_Marks_Holder n x56 a1) fun x80 =>
  cl ((!x80.2) == true) (mark_Marks_Waiting n x56 a1) default fun x81 =>
  cl (((!x80.2) && ((x81.length : Int) == 0)) == true) (law15_wakes n ) default fun x87 =>
  some (((!x80.2) && ((x81.length : Int) == 0)) && x87))) n 0 x49) fun j50 =>
  cn (x35.2) (
  bd (mark_Marks_Free n x26 a1 x35.1) fun x51 =>
  j50 x51) (
  j50 x26))) n 0)) n 0 Z_mark_Marks)
theorem c_law15_MarkTurns {n : Nat} {a0 : (List law15_Act)} {a1 : Int} {r : Bool} {K : World → Prop} [Stable K] {v0 : Value} (f0 : Fz K v0 L_law15_Act a0) (h : law15_MarkTurns n a0 a1 = some r) : FnW Try.prog 8 [v0, .int .i64 a1] K (.bool r) := by
  unfold law15_MarkTurns at h
  refine fn_of Try.func8 (by kernel_rfl) rfl Try.ntmps8 rfl (fun cx hbs hpre hro => ?_)
  haveI := kn_pre hbs hpre
  refine WP_seq ?_
  refine WP_region ?_
  refine WL_v rfl (VS_assign rfl) ?_
  refine WL_nil ?_
  refine WQ_then ?_
  refine WP_seq ?_
  refine WP_seq ?_
  refine WP_region ?_
  refine WL_v rfl (VS_move rfl) ?_
  refine WL_v rfl (VS_lenF f0 rfl) ?_
  refine WL_v rfl (VS_gtr rfl rfl) ?_
  refine WL_v rfl (VS_move rfl) ?_
  refine WL_g (Gd_b rfl rfl) rfl (fun hb => VS_move rfl) ?_
  refine WL_g (Gd_b rfl rfl) rfl (fun hb => VS_lss (gev rfl hb) rfl) ?_
  refine WL_v rfl (VS_or rfl rfl) ?_
  refine WL_v rfl (VS_move rfl) ?_
  refine WL_g (Gd_b rfl rfl) rfl (fun hb => VS_move rfl) ?_
  refine WL_g (Gd_b rfl rfl) rfl (fun hb => VS_gtr (gev rfl hb) rfl) ?_
  refine WL_v rfl (VS_or rfl rfl) ?_
  refine WL_nil ?_
  refine WQ_then ?_
  refine WP_if rfl (fun hc => ?_) (fun hc => ?_)
  ·
    replace h := cn_t hc h
    refine WP_seq ?_
    obtain ⟨x21, hx21, h⟩ := bd_e h
    refine WP_region ?_
    refine WL_v rfl (VS_call (c_law15_wakes hx21) rfl (fun _ _ _ => trivial)) ?_
    refine WL_v rfl (VS_assign rfl) ?_
    refine WL_nil ?_
    refine WQ_then ?_
    refine WP_ret ?_
    refine WQ_then_ret ?_
    replace h := Option.some.inj h
    subst h
    exact WQ_ret () rfl (.tmp rfl .nil) trivial rfl (ks := []) rfl (by decide)
  ·
    replace h := cn_f hc h
    refine WP_skip ?_
    refine WQ_then ?_
    refine WP_seq ?_
    refine WP_region ?_
    refine WL_x rfl (RX_allocL (L := L_mark_Marks) (z := Z_mark_Marks) ⟨by kernel_rfl⟩) (fun b5 _ => ?_)
    refine WL_nil ?_
    refine WQ_then ?_
    refine WP_seq ?_
    refine WP_seq ?_
    refine WP_region ?_
    refine WL_v rfl (VS_assign rfl) ?_
    refine WL_nil ?_
    refine WQ_then ?_
    refine WP_block ?_
    obtain ⟨lb27, hlb27, h⟩ := lp2_i h
    refine WP_loops (α := Nat × Int × mark_Marks) [0, 1, 5] (.cons rfl (.cons rfl (.cons rfl (.nil)))) (fun (m28, x25, x26) => [(6, .int .i64 x25)]) (fun (m28, x25, x26) => [.cells b5 96 (L_mark_Marks.enc x26)]) (fun (m28, x25, x26) => loop2 lb27 m28 x25 x26 = some r) (fun (m28, x25, x26) => m28) (n, 0, Z_mark_Marks) h (Sub_cons rfl (Sub_nil)) (ks := [0]) rfl (by decide) ?_
    rintro ⟨m28, x25, x26⟩ h
    replace h : loop2 lb27 m28 x25 x26 = some r := h
    replace h := lp2_s hlb27 h
    obtain ⟨m28, rfl, h⟩ := h
    refine WP_seq ?_
    refine WP_seq ?_
    refine WP_region ?_
    refine WL_v rfl (VS_move rfl) ?_
    refine WL_v rfl (VS_move rfl) ?_
    refine WL_v rfl (VS_lenF f0 rfl) ?_
    refine WL_v rfl (VS_lss rfl rfl) ?_
    refine WL_nil ?_
    refine WQ_then ?_
    refine WP_if rfl (fun hc => ?_) (fun hc => ?_)
    ·
      replace h := cn_t hc h
      refine WP_skip ?_
      refine WQ_then ?_
      refine WP_seq ?_
      refine WP_block ?_
      refine WP_seq ?_
      obtain ⟨hg30, h⟩ := gu_e h
      obtain ⟨x31, hx31, h⟩ := lt_e h
      refine WP_region ?_
      refine WL_v rfl (VS_move rfl) ?_
      refine WL_v rfl (VS_move rfl) ?_
      refine WL_v rfl (VS_ixF (m := (Int.toNat x25)) f0 rfl rfl rfl (inb_e hg30).1 (inb_e hg30).2) ?_
      refine WL_v rfl (VS_ldaF (M := L_law15_Act) f0 (Pth.idx (L := L_law15_Act) (m := (a0.length)) (k := 3) ((Int.toNat x25)) (inb_e hg30).2 rfl) rfl rfl (by decide)) ?_
      refine WL_x rfl (RX_allocL (L := L_law15_Act) (z := Z_law15_Act) ⟨by kernel_rfl⟩) (fun b7 _ => ?_)
      refine WL_x0 (RX_st (M := L_law15_Act) (Pth.id (L := L_law15_Act)) (a0.getD (Int.toNat x25) default) x31 hx31 rfl rfl rfl rfl) (fun _ _ => ?_)
      refine WL_nil ?_
      refine WQ_then ?_
      refine WP_seq ?_
      refine WP_region ?_
      refine WL_v rfl (VS_field0 rfl) ?_
      refine WL_v rfl (VS_ldi P_law15_Act_Do rfl) ?_
      refine WL_nil ?_
      refine WQ_then ?_
      refine WP_block ?_
      refine WP_seq ?_
      refine WP_region ?_
      refine WL_v rfl (VS_eql rfl rfl) ?_
      refine WL_v rfl (VS_assign rfl) ?_
      refine WL_nil ?_
      refine WQ_then ?_
      refine WP_if rfl (fun hc => ?_) (fun hc => ?_)
      ·
        replace h := cn_t hc h
        obtain ⟨x32, hx32, h⟩ := bd_e h
        refine WP_region ?_
        refine WL_v rfl (VS_lda (M := L_mark_Marks) (Pth.id (L := L_mark_Marks)) rfl rfl) ?_
        refine WL_v rfl (VS_field0 rfl) ?_
        refine WL_v rfl (VS_ldi P_law15_Act_Slot rfl) ?_
        refine WL_v rfl (VS_field0 rfl) ?_
        refine WL_v rfl (VS_ldi P_law15_Act_Task rfl) ?_
        refine WL_v rfl (VS_call (c_mark_Marks_Free hx32) rfl (fun _ _ _ => trivial)) ?_
        refine WL_x0 (RX_st (M := L_mark_Marks) (Pth.id (L := L_mark_Marks)) x32 x32 rfl rfl rfl rfl rfl) (fun _ _ => ?_)
        refine WL_nil ?_
        refine WQ_block ?_
        refine WQ_block ?_
        refine WQ_then ?_
        refine WP_region ?_
        refine WL_v rfl (VS_move rfl) ?_
        refine WL_v rfl (VS_add rfl rfl rfl) ?_
        refine WL_v rfl (VS_assign rfl) ?_
        refine WL_nil ?_
        exact WQ_loops (m28, wr .i64 (x25 + 1), x32) (Nat.lt_succ_self _) h (Sub_cons rfl (Sub_nil)) (.cons rfl (.cons rfl (.cons rfl (.nil)))) (ks := [1]) rfl (by decide)
      ·
        replace h := cn_f hc h
        refine WP_seq ?_
        refine WP_region ?_
        refine WL_v rfl (VS_eql rfl rfl) ?_
        refine WL_v rfl (VS_assign rfl) ?_
        refine WL_nil ?_
        refine WQ_then ?_
        refine WP_if rfl (fun hc => ?_) (fun hc => ?_)
        ·
          replace h := cn_t hc h
          obtain ⟨x33, hx33, h⟩ := bd_e h
          refine WP_region ?_
          refine WL_v rfl (VS_lda (M := L_mark_Marks) (Pth.id (L := L_mark_Marks)) rfl rfl) ?_
          refine WL_v rfl (VS_field0 rfl) ?_
          refine WL_v rfl (VS_ldi P_law15_Act_Task rfl) ?_
          refine WL_v rfl (VS_call (c_mark_Marks_Gone hx33) rfl (fun _ _ _ => trivial)) ?_
          refine WL_x0 (RX_st (M := L_mark_Marks) (Pth.id (L := L_mark_Marks)) x33 x33 rfl rfl rfl rfl rfl) (fun _ _ => ?_)
          refine WL_nil ?_
          refine WQ_block ?_
          refine WQ_block ?_
          refine WQ_then ?_
          refine WP_region ?_
          refine WL_v rfl (VS_move rfl) ?_
          refine WL_v rfl (VS_add rfl rfl rfl) ?_
          refine WL_v rfl (VS_assign rfl) ?_
          refine WL_nil ?_
          exact WQ_loops (m28, wr .i64 (x25 + 1), x33) (Nat.lt_succ_self _) h (Sub_cons rfl (Sub_nil)) (.cons rfl (.cons rfl (.cons rfl (.nil)))) (ks := [1]) rfl (by decide)
        ·
          replace h := cn_f hc h
          obtain ⟨x34, hx34, h⟩ := bd_e h
          refine WP_region ?_
          refine WL_v rfl (VS_lda (M := L_mark_Marks) (Pth.id (L := L_mark_Marks)) rfl rfl) ?_
          refine WL_v rfl (VS_field0 rfl) ?_
          refine WL_v rfl (VS_ldi P_law15_Act_Slot rfl) ?_
          refine WL_v rfl (VS_field0 rfl) ?_
          refine WL_v rfl (VS_ldi P_law15_Act_Task rfl) ?_
          refine WL_v rfl (VS_call (c_mark_Marks_Try hx34) rfl (fun _ _ _ => trivial)) ?_
          refine WL_v rfl (VS_move rfl) ?_
          refine WL_v rfl (VS_extract rfl rfl) ?_
          refine WL_v rfl (VS_extract rfl rfl) ?_
          refine WL_x0 (RX_st (M := L_mark_Marks) (Pth.id (L := L_mark_Marks)) x34.1 x34.1 rfl rfl rfl rfl rfl) (fun _ _ => ?_)
          refine WL_nil ?_
          refine WQ_block ?_
          refine WQ_block ?_
          refine WQ_then ?_
          refine WP_region ?_
          refine WL_v rfl (VS_move rfl) ?_
          refine WL_v rfl (VS_add rfl rfl rfl) ?_
          refine WL_v rfl (VS_assign rfl) ?_
          refine WL_nil ?_
          exact WQ_loops (m28, wr .i64 (x25 + 1), x34.1) (Nat.lt_succ_self _) h (Sub_cons rfl (Sub_nil)) (.cons rfl (.cons rfl (.cons rfl (.nil)))) (ks := [1]) rfl (by decide)
    ·
      replace h := cn_f hc h
      refine WP_exit ?_
      refine WQ_then_exit ?_
      refine WQ_then_exit ?_
      refine WQ_block_exit ?_
      refine WQ_then ?_
      refine WP_seq ?_
      obtain ⟨x35, hx35, h⟩ := bd_e h
      refine WP_region ?_
      refine WL_v rfl (VS_lda (M := L_mark_Marks) (Pth.id (L := L_mark_Marks)) rfl rfl) ?_
      refine WL_v rfl (VS_move rfl) ?_
      refine WL_v rfl (VS_call (c_mark_Marks_Holder hx35) rfl (fun _ _ _ => trivial)) ?_
      refine WL_v rfl (VS_move rfl) ?_
      refine WL_v rfl (VS_extract rfl rfl) ?_
      refine WL_v rfl (VS_extract rfl rfl) ?_
      refine WL_v rfl (VS_assign rfl) ?_
      refine WL_v rfl (VS_assign rfl) ?_
      refine WL_nil ?_
      refine WQ_then ?_
      refine WP_seq ?_
      obtain ⟨x36, hx36, h⟩ := bd_e h
      refine WP_region ?_
      refine WL_v rfl (VS_lda (M := L_mark_Marks) (Pth.id (L := L_mark_Marks)) rfl rfl) ?_
      refine WL_v rfl (VS_move rfl) ?_
      refine WL_x rfl (RX_callB (c_mark_Marks_Waiting hx36) rfl) (fun ⟨w37, bs38, J39⟩ hp40 => ?_)
      have f41 : Fz (Hs [.ext bs38 J39]) w37 (LI .i64) x36 := hp40
      refine WL_v rfl (VS_assign rfl) ?_
      refine WL_nil ?_
      refine WQ_then ?_
      refine WP_seq ?_
      refine WP_seq ?_
      refine WP_region ?_
      refine WL_v rfl (VS_assign rfl) ?_
      refine WL_nil ?_
      refine WQ_then ?_
      refine WP_block ?_
      obtain ⟨lb45, hlb45, h⟩ := lp1_i h
      refine WP_loops (α := Nat × Int) [1, 5, 8, 9, 10] (.cons rfl (.cons rfl (.cons rfl (.cons rfl (.cons rfl (.nil)))))) (fun (m46, x44) => [(11, .int .i64 x44)]) (fun (m46, x44) => [.ext bs38 J39, .cells b5 96 (L_mark_Marks.enc x26)]) (fun (m46, x44) => loop1 lb45 m46 x44 = some r) (fun (m46, x44) => m46) (n, 0) h (Sub_cons rfl (Sub_nil)) (ks := [0, 1]) rfl (by decide) ?_
      rintro ⟨m46, x44⟩ h
      replace h : loop1 lb45 m46 x44 = some r := h
      replace h := lp1_s hlb45 h
      obtain ⟨m46, rfl, h⟩ := h
      refine WP_seq ?_
      refine WP_seq ?_
      refine WP_region ?_
      refine WL_v rfl (VS_move rfl) ?_
      refine WL_v rfl (VS_move rfl) ?_
      refine WL_v rfl (VS_lenF f41 rfl) ?_
      refine WL_v rfl (VS_lss rfl rfl) ?_
      refine WL_nil ?_
      refine WQ_then ?_
      refine WP_if rfl (fun hc => ?_) (fun hc => ?_)
      ·
        replace h := cn_t hc h
        refine WP_skip ?_
        refine WQ_then ?_
        refine WP_seq ?_
        refine WP_block ?_
        refine WP_seq ?_
        obtain ⟨hg48, h⟩ := gu_e h
        refine WP_region ?_
        refine WL_v rfl (VS_move rfl) ?_
        refine WL_v rfl (VS_move rfl) ?_
        refine WL_g (Gd_b rfl rfl) rfl (fun hb => VS_move rfl) ?_
        refine WL_g (Gd_b rfl rfl) rfl (fun hb => VS_move rfl) ?_
        refine WL_g (Gd_b rfl rfl) rfl (fun hb => VS_ixF (m := (Int.toNat x44)) f41 rfl (gev rfl hb) (gev rfl hb) (inb_e (imp_b hg48 hb)).1 (inb_e (imp_b hg48 hb)).2) ?_
        refine WL_g (Gd_b rfl rfl) rfl (fun hb => VS_ldiF f41 (Pth.idx (L := (LI .i64)) (m := (x36.length)) (k := 1) ((Int.toNat x44)) (inb_e (imp_b hg48 hb)).2 rfl) (gev rfl hb)) ?_
        refine WL_g (Gd_b rfl rfl) rfl (fun hb => VS_move rfl) ?_
        refine WL_g (Gd_b rfl rfl) rfl (fun hb => VS_eql (gev rfl hb) (gev rfl hb)) ?_
        refine WL_v rfl (VS_and rfl rfl) ?_
        refine WL_nil ?_
        refine WQ_then ?_
        refine WP_if rfl (fun hc => ?_) (fun hc => ?_)
        ·
          replace h := cn_t hc h
          refine WP_seq ?_
          refine WP_region ?_
          refine WL_v rfl (VS_assign rfl) ?_
          refine WL_nil ?_
          refine WQ_then ?_
          refine WP_ret ?_
          refine WQ_block_ret ?_
          refine WQ_then_ret ?_
          refine WQ_then_ret ?_
          refine WQ_block_ret ?_
          refine WQ_then_ret ?_
          replace h := Option.some.inj h
          subst h
          exact WQ_ret () rfl (.tmp rfl .nil) trivial rfl (ks := []) rfl (by decide)
        ·
          replace h := cn_f hc h
          refine WP_skip ?_
          refine WQ_block ?_
          refine WQ_then ?_
          refine WP_region ?_
          refine WL_v rfl (VS_move rfl) ?_
          refine WL_v rfl (VS_add rfl rfl rfl) ?_
          refine WL_v rfl (VS_assign rfl) ?_
          refine WL_nil ?_
          exact WQ_loops (m46, wr .i64 (x44 + 1)) (Nat.lt_succ_self _) h (Sub_cons rfl (Sub_nil)) (.cons rfl (.cons rfl (.cons rfl (.cons rfl (.cons rfl (.nil)))))) (ks := [0, 1]) rfl (by decide)
      ·
        replace h := cn_f hc h
        refine WP_exit ?_
        refine WQ_then_exit ?_
        refine WQ_then_exit ?_
        refine WQ_block_exit ?_
        refine WQ_then ?_
        obtain ⟨j50, hj50, h⟩ := lt_e h
        refine WP_cuts (α := mark_Marks) [1, 5, 10] (.cons rfl (.cons rfl (.cons rfl (.nil)))) (fun x49 => []) (fun x49 => [.ext bs38 J39, .cells b5 96 (L_mark_Marks.enc x49)]) (fun x49 => j50 x49 = some r) ?_ ?_
        ·
          refine WP_seq ?_
          refine WP_region ?_
          refine WL_v rfl (VS_move rfl) ?_
          refine WL_nil ?_
          refine WQ_then ?_
          refine WP_if rfl (fun hc => ?_) (fun hc => ?_)
          ·
            replace h := cn_t hc h
            obtain ⟨x51, hx51, h⟩ := bd_e h
            refine WP_region ?_
            refine WL_v rfl (VS_lda (M := L_mark_Marks) (Pth.id (L := L_mark_Marks)) rfl rfl) ?_
            refine WL_v rfl (VS_move rfl) ?_
            refine WL_v rfl (VS_move rfl) ?_
            refine WL_v rfl (VS_call (c_mark_Marks_Free hx51) rfl (fun _ _ _ => trivial)) ?_
            refine WL_x0 (RX_st (M := L_mark_Marks) (Pth.id (L := L_mark_Marks)) x51 x51 rfl rfl rfl rfl rfl) (fun _ _ => ?_)
            refine WL_nil ?_
            exact WQ_cuts (x51) h (Sub_nil) (.cons rfl (.cons rfl (.cons rfl (.nil)))) (ks := [0, 1]) rfl (by decide)
          ·
            replace h := cn_f hc h
            refine WP_skip ?_
            exact WQ_cuts (x26) h (Sub_nil) (.cons rfl (.cons rfl (.cons rfl (.nil)))) (ks := [0, 1]) rfl (by decide)
        ·
          rintro x49 h
          replace h : j50 x49 = some r := h
          replace h := jn1_u hj50 h
          refine WP_seq ?_
          refine WP_seq ?_
          refine WP_region ?_
          refine WL_v rfl (VS_assign rfl) ?_
          refine WL_nil ?_
          refine WQ_then ?_
          refine WP_block ?_
          obtain ⟨lb57, hlb57, h⟩ := lp2_i h
          refine WP_loops (α := Nat × Int × mark_Marks) [1, 5, 10] (.cons rfl (.cons rfl (.cons rfl (.nil)))) (fun (m58, x55, x56) => [(12, .int .i64 x55)]) (fun (m58, x55, x56) => [.ext bs38 J39, .cells b5 96 (L_mark_Marks.enc x56)]) (fun (m58, x55, x56) => loop2 lb57 m58 x55 x56 = some r) (fun (m58, x55, x56) => m58) (n, 0, x49) h (Sub_cons rfl (Sub_nil)) (ks := [0, 1]) rfl (by decide) ?_
          rintro ⟨m58, x55, x56⟩ h
          replace h : loop2 lb57 m58 x55 x56 = some r := h
          replace h := lp2_s hlb57 h
          obtain ⟨m58, rfl, h⟩ := h
          refine WP_seq ?_
          refine WP_seq ?_
          refine WP_region ?_
          refine WL_v rfl (VS_move rfl) ?_
          refine WL_v rfl (VS_move rfl) ?_
          refine WL_v rfl (VS_lenF f41 rfl) ?_
          refine WL_v rfl (VS_lss rfl rfl) ?_
          refine WL_nil ?_
          refine WQ_then ?_
          refine WP_if rfl (fun hc => ?_) (fun hc => ?_)
          ·
            replace h := cn_t hc h
            refine WP_skip ?_
            refine WQ_then ?_
            refine WP_seq ?_
            refine WP_block ?_
            refine WP_seq ?_
            refine WP_seq ?_
            refine WP_region ?_
            refine WL_v rfl (VS_move rfl) ?_
            refine WL_v rfl (VS_lenF f41 rfl) ?_
            refine WL_v rfl (VS_sub rfl rfl rfl) ?_
            refine WL_v rfl (VS_assign rfl) ?_
            refine WL_nil ?_
            refine WQ_then ?_
            refine WP_block ?_
            obtain ⟨lb65, hlb65, h⟩ := lp2_i h
            refine WP_loops (α := Nat × Int × mark_Marks) [1, 5, 10, 12] (.cons rfl (.cons rfl (.cons rfl (.cons rfl (.nil))))) (fun (m66, x63, x64) => [(13, .int .i64 x63)]) (fun (m66, x63, x64) => [.ext bs38 J39, .cells b5 96 (L_mark_Marks.enc x64)]) (fun (m66, x63, x64) => loop2 lb65 m66 x63 x64 = some r) (fun (m66, x63, x64) => m66) (n, wr .i64 ((x36.length : Int) - 1), x56) h (Sub_cons rfl (Sub_nil)) (ks := [0, 1]) rfl (by decide) ?_
            rintro ⟨m66, x63, x64⟩ h
            replace h : loop2 lb65 m66 x63 x64 = some r := h
            replace h := lp2_s hlb65 h
            obtain ⟨m66, rfl, h⟩ := h
            refine WP_seq ?_
            refine WP_seq ?_
            refine WP_region ?_
            refine WL_v rfl (VS_move rfl) ?_
            refine WL_v rfl (VS_move rfl) ?_
            refine WL_v rfl (VS_gtr rfl rfl) ?_
            refine WL_nil ?_
            refine WQ_then ?_
            refine WP_if rfl (fun hc => ?_) (fun hc => ?_)
            ·
              replace h := cn_t hc h
              refine WP_skip ?_
              refine WQ_then ?_
              refine WP_seq ?_
              refine WP_block ?_
              refine WP_seq ?_
              obtain ⟨hg68, h⟩ := gu_e h
              obtain ⟨x69, hx69, h⟩ := bd_e h
              refine WP_draw mixed (.stg [] [(0, [5]), (1, [1]), (2, [10]), (3, [13]), (4, [113, 114]), (5, [115]), (6, [111, 112, 116]), (7, [117]), (8, [110]), (9, [110])] (.alt 10 [] (.stg [(0, [5]), (1, [1]), (2, [10]), (3, [13]), (4, [113, 114]), (5, [115]), (6, [111, 112, 116]), (7, [117]), (8, [110]), (9, [110])] [] (.alt 11 [14, 118] (.stg [(9, [110])] [] (.alt 12 [119] (.fin [] []) .no)) .no)) .no)) (by kernel_rfl) ?_
              refine Stg_stg ?_ ?_
              · exact ReOk_nil
              refine NewOk_cons rfl rfl (VG_v rfl (VS_lda (M := L_mark_Marks) (Pth.id (L := L_mark_Marks)) rfl rfl)) ?_
              refine NewOk_cons rfl rfl (VG_v rfl (VS_move rfl)) ?_
              refine NewOk_cons rfl rfl (VG_v rfl (VS_move rfl)) ?_
              refine NewOk_cons rfl rfl (VG_v rfl (VS_move rfl)) ?_
              refine NewOk_cons rfl rfl (VG_v rfl (VS_ixF (m := (Int.toNat x63)) f41 rfl rfl rfl (inb_e hg68).1 (inb_e hg68).2)) ?_
              refine NewOk_cons rfl rfl (VG_v rfl (VS_ldiF f41 (Pth.idx (L := (LI .i64)) (m := (x36.length)) (k := 1) ((Int.toNat x63)) (inb_e hg68).2 rfl) rfl)) ?_
              refine NewOk_cons rfl rfl (VG_v rfl (VS_call (c_mark_Marks_Try hx69) rfl (fun _ _ _ => trivial))) ?_
              refine NewOk_cons rfl rfl (VG_v rfl (VS_move rfl)) ?_
              refine NewOk_cons rfl rfl (VG_v rfl (VS_extract rfl rfl)) ?_
              refine NewOk_cons rfl rfl (VG_v rfl (VS_extract rfl rfl)) ?_
              refine NewOk_nil ?_
              refine Stg_some rfl rfl (RG_x rfl (RX_allocL (L := L_mark_Marks) (z := Z_mark_Marks) ⟨by kernel_rfl⟩)) (fun b14 _ => ?_) Stg_no
              refine Stg_stg ?_ ?_
              ·
                refine ReOk_cons rfl rfl (VG_v rfl (VS_val (VS_lda (M := L_mark_Marks) (Pth.id (L := L_mark_Marks)) rfl rfl) rfl)) ?_
                refine ReOk_cons rfl rfl (VG_v rfl (VS_move rfl)) ?_
                refine ReOk_cons rfl rfl (VG_v rfl (VS_move rfl)) ?_
                refine ReOk_cons rfl rfl (VG_v rfl (VS_move rfl)) ?_
                refine ReOk_cons rfl rfl (VG_v rfl (VS_val (VS_ixF (m := (Int.toNat x63)) f41 rfl rfl rfl (inb_e hg68).1 (inb_e hg68).2) rfl)) ?_
                refine ReOk_cons rfl rfl (VG_v rfl (VS_val (VS_ldiF f41 (Pth.idx (L := (LI .i64)) (m := (x36.length)) (k := 1) ((Int.toNat x63)) (inb_e hg68).2 rfl) rfl) rfl)) ?_
                refine ReOk_cons rfl rfl (VG_v rfl (VS_val (VS_call (c_mark_Marks_Try hx69) rfl (fun _ _ _ => trivial)) rfl)) ?_
                refine ReOk_cons rfl rfl (VG_v rfl (VS_move rfl)) ?_
                refine ReOk_cons rfl rfl (VG_v rfl (VS_val (VS_extract rfl rfl) rfl)) ?_
                refine ReOk_cons rfl rfl (VG_v rfl (VS_val (VS_extract rfl rfl) rfl)) ?_
                exact ReOk_nil
              refine NewOk_nil ?_
              refine Stg_none rfl (RG_x rfl (RX_st (M := L_mark_Marks) (Pth.id (L := L_mark_Marks)) x69.1 x69.1 rfl rfl rfl rfl rfl)) (fun _ _ => ?_) Stg_no
              refine Stg_stg ?_ ?_
              ·
                refine ReOk_cons rfl rfl (VG_v rfl (VS_val (VS_extract rfl rfl) rfl)) ?_
                exact ReOk_nil
              refine NewOk_nil ?_
              refine Stg_some rfl rfl (RG_x rfl ((VS_assign rfl).rx)) (fun _ _ => ?_) Stg_no
              refine Stg_fin ?_ ?_
              · exact ReOk_nil
              refine NewOk_nil ?_
              refine WQ_then ?_
              refine WP_seq ?_
              refine WP_seq ?_
              obtain ⟨x70, hx70, _, h⟩ := cl_e h
              refine WP_region ?_
              refine WL_v rfl (VS_move rfl) ?_
              refine WL_v rfl (VS_move rfl) ?_
              refine WL_g (Gd_b rfl rfl) rfl (fun hb => VS_lda (M := L_mark_Marks) (Pth.id (L := L_mark_Marks)) rfl rfl) ?_
              refine WL_g (Gd_b rfl rfl) rfl (fun hb => VS_move rfl) ?_
              refine WL_callBg (Gd_b rfl rfl) rfl (fun hb => c_mark_Marks_Waiting (hx70 hb)) (fun hb => (evs_cons (gev rfl hb) (evs_cons (gev rfl hb) rfl))) (fun hb => inferInstance) (fun ⟨w71, bs72, J73⟩ hp74 => ?_)
              have f75 : (x69.2 == false) = true → Fz (Hs [.ext bs72 J73]) w71 (LI .i64) x70 := hp74
              refine WL_g (Gd_b rfl rfl) rfl (fun hb => VS_lenF (f75 hb) (gev rfl hb)) ?_
              refine WL_g (Gd_b rfl rfl) rfl (fun hb => VS_move rfl) ?_
              refine WL_g (Gd_b rfl rfl) rfl (fun hb => VS_lenF f41 (gev rfl hb)) ?_
              refine WL_g (Gd_b rfl rfl) rfl (fun hb => VS_move rfl) ?_
              refine WL_g (Gd_b rfl rfl) rfl (fun hb => VS_sub (gev rfl hb) (gev rfl hb) rfl) ?_
              refine WL_g (Gd_b rfl rfl) rfl (fun hb => VS_neq (gev rfl hb) (gev rfl hb)) ?_
              refine WL_v rfl (VS_or rfl rfl) ?_
              refine WL_nil ?_
              refine WQ_then ?_
              refine WP_if rfl (fun hc => ?_) (fun hc => ?_)
              ·
                replace h := cn_t hc h
                refine WP_seq ?_
                refine WP_region ?_
                refine WL_v rfl (VS_assign rfl) ?_
                refine WL_nil ?_
                refine WQ_then ?_
                refine WP_ret ?_
                refine WQ_then_ret ?_
                refine WQ_block_ret ?_
                refine WQ_then_ret ?_
                refine WQ_then_ret ?_
                refine WQ_block_ret ?_
                refine WQ_then_ret ?_
                refine WQ_block_ret ?_
                refine WQ_then_ret ?_
                refine WQ_then_ret ?_
                refine WQ_block_ret ?_
                refine WQ_then_ret ?_
                replace h := Option.some.inj h
                subst h
                exact WQ_ret () rfl (.tmp rfl .nil) trivial rfl (ks := []) rfl (by decide)
              ·
                replace h := cn_f hc h
                refine WP_skip ?_
                refine WQ_then ?_
                refine WP_region ?_
                refine WL_v rfl (VS_lda (M := L_mark_Marks) (Pth.id (L := L_mark_Marks)) rfl rfl) ?_
                refine WL_x0 (RX_st (M := L_mark_Marks) (Pth.id (L := L_mark_Marks)) x69.1 x69.1 rfl rfl rfl rfl rfl) (fun _ _ => ?_)
                refine WL_nil ?_
                refine WQ_block ?_
                refine WQ_then ?_
                refine WP_region ?_
                refine WL_v rfl (VS_move rfl) ?_
                refine WL_v rfl (VS_sub rfl rfl rfl) ?_
                refine WL_v rfl (VS_assign rfl) ?_
                refine WL_nil ?_
                exact WQ_loops (m66, wr .i64 (x63 - 1), x69.1) (Nat.lt_succ_self _) h (Sub_cons rfl (Sub_nil)) (.cons rfl (.cons rfl (.cons rfl (.cons rfl (.nil))))) (ks := [2, 3]) rfl (by decide)
            ·
              replace h := cn_f hc h
              refine WP_exit ?_
              refine WQ_then_exit ?_
              refine WQ_then_exit ?_
              refine WQ_block_exit ?_
              refine WQ_then ?_
              refine WP_seq ?_
              obtain ⟨hg76, h⟩ := gu_e h
              obtain ⟨x77, hx77, h⟩ := bd_e h
              refine WP_draw mixed (.stg [] [(0, [5]), (1, [1]), (2, [10]), (3, [12]), (4, [136, 137]), (5, [138]), (6, [134, 135, 139]), (7, [140]), (8, [133]), (9, [133])] (.alt 10 [] (.stg [(0, [5]), (1, [1]), (2, [10]), (3, [12]), (4, [136, 137]), (5, [138]), (6, [134, 135, 139]), (7, [140]), (8, [133]), (9, [133])] [] (.alt 11 [16, 141] (.stg [(9, [133])] [] (.alt 12 [142] (.fin [] []) .no)) .no)) .no)) (by kernel_rfl) ?_
              refine Stg_stg ?_ ?_
              · exact ReOk_nil
              refine NewOk_cons rfl rfl (VG_v rfl (VS_lda (M := L_mark_Marks) (Pth.id (L := L_mark_Marks)) rfl rfl)) ?_
              refine NewOk_cons rfl rfl (VG_v rfl (VS_move rfl)) ?_
              refine NewOk_cons rfl rfl (VG_v rfl (VS_move rfl)) ?_
              refine NewOk_cons rfl rfl (VG_v rfl (VS_move rfl)) ?_
              refine NewOk_cons rfl rfl (VG_v rfl (VS_ixF (m := (Int.toNat x55)) f41 rfl rfl rfl (inb_e hg76).1 (inb_e hg76).2)) ?_
              refine NewOk_cons rfl rfl (VG_v rfl (VS_ldiF f41 (Pth.idx (L := (LI .i64)) (m := (x36.length)) (k := 1) ((Int.toNat x55)) (inb_e hg76).2 rfl) rfl)) ?_
              refine NewOk_cons rfl rfl (VG_v rfl (VS_call (c_mark_Marks_Try hx77) rfl (fun _ _ _ => trivial))) ?_
              refine NewOk_cons rfl rfl (VG_v rfl (VS_move rfl)) ?_
              refine NewOk_cons rfl rfl (VG_v rfl (VS_extract rfl rfl)) ?_
              refine NewOk_cons rfl rfl (VG_v rfl (VS_extract rfl rfl)) ?_
              refine NewOk_nil ?_
              refine Stg_some rfl rfl (RG_x rfl (RX_allocL (L := L_mark_Marks) (z := Z_mark_Marks) ⟨by kernel_rfl⟩)) (fun b16 _ => ?_) Stg_no
              refine Stg_stg ?_ ?_
              ·
                refine ReOk_cons rfl rfl (VG_v rfl (VS_val (VS_lda (M := L_mark_Marks) (Pth.id (L := L_mark_Marks)) rfl rfl) rfl)) ?_
                refine ReOk_cons rfl rfl (VG_v rfl (VS_move rfl)) ?_
                refine ReOk_cons rfl rfl (VG_v rfl (VS_move rfl)) ?_
                refine ReOk_cons rfl rfl (VG_v rfl (VS_move rfl)) ?_
                refine ReOk_cons rfl rfl (VG_v rfl (VS_val (VS_ixF (m := (Int.toNat x55)) f41 rfl rfl rfl (inb_e hg76).1 (inb_e hg76).2) rfl)) ?_
                refine ReOk_cons rfl rfl (VG_v rfl (VS_val (VS_ldiF f41 (Pth.idx (L := (LI .i64)) (m := (x36.length)) (k := 1) ((Int.toNat x55)) (inb_e hg76).2 rfl) rfl) rfl)) ?_
                refine ReOk_cons rfl rfl (VG_v rfl (VS_val (VS_call (c_mark_Marks_Try hx77) rfl (fun _ _ _ => trivial)) rfl)) ?_
                refine ReOk_cons rfl rfl (VG_v rfl (VS_move rfl)) ?_
                refine ReOk_cons rfl rfl (VG_v rfl (VS_val (VS_extract rfl rfl) rfl)) ?_
                refine ReOk_cons rfl rfl (VG_v rfl (VS_val (VS_extract rfl rfl) rfl)) ?_
                exact ReOk_nil
              refine NewOk_nil ?_
              refine Stg_none rfl (RG_x rfl (RX_st (M := L_mark_Marks) (Pth.id (L := L_mark_Marks)) x77.1 x77.1 rfl rfl rfl rfl rfl)) (fun _ _ => ?_) Stg_no
              refine Stg_stg ?_ ?_
              ·
                refine ReOk_cons rfl rfl (VG_v rfl (VS_val (VS_extract rfl rfl) rfl)) ?_
                exact ReOk_nil
              refine NewOk_nil ?_
              refine Stg_some rfl rfl (RG_x rfl ((VS_assign rfl).rx)) (fun _ _ => ?_) Stg_no
              refine Stg_fin ?_ ?_
              · exact ReOk_nil
              refine NewOk_nil ?_
              refine WQ_then ?_
              refine WP_seq ?_
              refine WP_seq ?_
              refine WP_region ?_
              refine WL_v rfl (VS_move rfl) ?_
              refine WL_v rfl (VS_not rfl) ?_
              refine WL_nil ?_
              refine WQ_then ?_
              refine WP_if rfl (fun hc => ?_) (fun hc => ?_)
              ·
                replace h := cn_t hc h
                refine WP_seq ?_
                refine WP_region ?_
                refine WL_v rfl (VS_assign rfl) ?_
                refine WL_nil ?_
                refine WQ_then ?_
                refine WP_ret ?_
                refine WQ_then_ret ?_
                refine WQ_block_ret ?_
                refine WQ_then_ret ?_
                refine WQ_then_ret ?_
                refine WQ_block_ret ?_
                refine WQ_then_ret ?_
                replace h := Option.some.inj h
                subst h
                exact WQ_ret () rfl (.tmp rfl .nil) trivial rfl (ks := []) rfl (by decide)
              ·
                replace h := cn_f hc h
                refine WP_skip ?_
                refine WQ_then ?_
                obtain ⟨hg78, h⟩ := gu_e h
                obtain ⟨x79, hx79, h⟩ := bd_e h
                refine WP_draw mixed (.stg [] [(0, [16]), (1, [1]), (2, [10]), (3, [12]), (4, [147, 148]), (5, [149]), (6, [145, 146, 150])] (.alt 7 [5, 151] (.fin [] []) .no)) (by kernel_rfl) ?_
                refine Stg_stg ?_ ?_
                · exact ReOk_nil
                refine NewOk_cons rfl rfl (VG_v rfl (VS_lda (M := L_mark_Marks) (Pth.id (L := L_mark_Marks)) rfl rfl)) ?_
                refine NewOk_cons rfl rfl (VG_v rfl (VS_move rfl)) ?_
                refine NewOk_cons rfl rfl (VG_v rfl (VS_move rfl)) ?_
                refine NewOk_cons rfl rfl (VG_v rfl (VS_move rfl)) ?_
                refine NewOk_cons rfl rfl (VG_v rfl (VS_ixF (m := (Int.toNat x55)) f41 rfl rfl rfl (inb_e hg78).1 (inb_e hg78).2)) ?_
                refine NewOk_cons rfl rfl (VG_v rfl (VS_ldiF f41 (Pth.idx (L := (LI .i64)) (m := (x36.length)) (k := 1) ((Int.toNat x55)) (inb_e hg78).2 rfl) rfl)) ?_
                refine NewOk_cons rfl rfl (VG_v rfl (VS_call (c_mark_Marks_Free hx79) rfl (fun _ _ _ => trivial))) ?_
                refine NewOk_nil ?_
                refine Stg_none rfl (RG_x rfl (RX_st (M := L_mark_Marks) (Pth.id (L := L_mark_Marks)) x79 x79 rfl rfl rfl rfl rfl)) (fun _ _ => ?_) Stg_no
                refine Stg_fin ?_ ?_
                · exact ReOk_nil
                refine NewOk_nil ?_
                refine WQ_block ?_
                refine WQ_then ?_
                refine WP_region ?_
                refine WL_v rfl (VS_move rfl) ?_
                refine WL_v rfl (VS_add rfl rfl rfl) ?_
                refine WL_v rfl (VS_assign rfl) ?_
                refine WL_nil ?_
                exact WQ_loops (m58, wr .i64 (x55 + 1), x79) (Nat.lt_succ_self _) h (Sub_cons rfl (Sub_nil)) (.cons rfl (.cons rfl (.cons rfl (.nil)))) (ks := [1, 2]) rfl (by decide)
          ·
            replace h := cn_f hc h
            refine WP_exit ?_
            refine WQ_then_exit ?_
            refine WQ_then_exit ?_
            refine WQ_block_exit ?_
            refine WQ_then ?_
            refine WP_seq ?_
            obtain ⟨x80, hx80, h⟩ := bd_e h
            refine WP_region ?_
            refine WL_v rfl (VS_lda (M := L_mark_Marks) (Pth.id (L := L_mark_Marks)) rfl rfl) ?_
            refine WL_v rfl (VS_move rfl) ?_
            refine WL_v rfl (VS_call (c_mark_Marks_Holder hx80) rfl (fun _ _ _ => trivial)) ?_
            refine WL_v rfl (VS_move rfl) ?_
            refine WL_v rfl (VS_extract rfl rfl) ?_
            refine WL_v rfl (VS_extract rfl rfl) ?_
            refine WL_v rfl (VS_assign rfl) ?_
            refine WL_v rfl (VS_assign rfl) ?_
            refine WL_nil ?_
            refine WQ_then ?_
            refine WP_seq ?_
            obtain ⟨x81, hx81, _, h⟩ := cl_e h
            obtain ⟨x87, hx87, _, h⟩ := cl_e h
            refine WP_region ?_
            refine WL_v rfl (VS_move rfl) ?_
            refine WL_v rfl (VS_not rfl) ?_
            refine WL_v rfl (VS_move rfl) ?_
            refine WL_g (Gd_b rfl rfl) rfl (fun hb => VS_lda (M := L_mark_Marks) (Pth.id (L := L_mark_Marks)) rfl rfl) ?_
            refine WL_g (Gd_b rfl rfl) rfl (fun hb => VS_move rfl) ?_
            refine WL_callBg (Gd_b rfl rfl) rfl (fun hb => c_mark_Marks_Waiting (hx81 hb)) (fun hb => (evs_cons (gev rfl hb) (evs_cons (gev rfl hb) rfl))) (fun hb => inferInstance) (fun ⟨w82, bs83, J84⟩ hp85 => ?_)
            have f86 : ((!x80.2) == true) = true → Fz (Hs [.ext bs83 J84]) w82 (LI .i64) x81 := hp85
            refine WL_g (Gd_b rfl rfl) rfl (fun hb => VS_lenF (f86 hb) (gev rfl hb)) ?_
            refine WL_g (Gd_b rfl rfl) rfl (fun hb => VS_eql (gev rfl hb) rfl) ?_
            refine WL_v rfl (VS_and rfl rfl) ?_
            refine WL_v rfl (VS_move rfl) ?_
            refine WL_g (Gd_b rfl rfl) rfl (fun hb => VS_call (c_law15_wakes (hx87 hb)) rfl (fun _ _ _ => trivial)) ?_
            refine WL_v rfl (VS_and rfl rfl) ?_
            refine WL_v rfl (VS_assign rfl) ?_
            refine WL_nil ?_
            refine WQ_then ?_
            refine WP_ret ?_
            replace h := Option.some.inj h
            subst h
            exact WQ_ret () rfl (.tmp rfl .nil) trivial rfl (ks := []) rfl (by decide)
end Go.Proofs.Ytcdnmiianjaglaa
