/- Decompiled: package runs, its document's answer, its statements. -/
import Derived.Test.YtmdpbdhkmfjlhaaTypes
import Derived.Test.YtmdpbdhkmfjlhaaSl2
import Derived.Test.YtmdpbdhkmfjlhaaSl4
import Derived.Test.YtmdpbdhkmfjlhaaNst
namespace Go.Proofs.Ytmdpbdhkmfjlhaa
open Go Go.Bw
structure runs_Run where
  At : Int
  N : Int
abbrev L_runs_Run : Lay runs_Run := Lay.via (LP (LI .i64) (LI .i64)) (fun x => (x.At, x.N))
abbrev Z_runs_Run : runs_Run := ⟨0, 0⟩
instance : Inhabited runs_Run := ⟨Z_runs_Run⟩
theorem P_runs_Run_At : Pth L_runs_Run (LI .i64) 0 (fun x => x.At) (fun x v => { x with At := v }) := (Pth.fst Pth.id).via _ _ _ 0 rfl (fun _ => rfl) (fun _ _ => rfl)
theorem P_runs_Run_N : Pth L_runs_Run (LI .i64) 1 (fun x => x.N) (fun x v => { x with N := v }) := (Pth.snd Pth.id).via _ _ _ 1 rfl (fun _ => rfl) (fun _ _ => rfl)
def EQ_runs_Run (x y : runs_Run) : Bool := x.At == y.At && x.N == y.N
theorem EQv_runs_Run (x y : runs_Run) : Value.bool (eqAt [(0, some .i64), (1, some .i64)] (L_runs_Run.enc x) (L_runs_Run.enc y)) = .bool (EQ_runs_Run x y) := congrArg Value.bool (by show ((x.At == y.At) && ((x.N == y.N) && true)) = (x.At == y.At && x.N == y.N); simp [Bool.and_assoc])
theorem EQvn_runs_Run (x y : runs_Run) : Value.bool (!(eqAt [(0, some .i64), (1, some .i64)] (L_runs_Run.enc x) (L_runs_Run.enc y))) = .bool (!(EQ_runs_Run x y)) := congrArg (fun v => match v with | Value.bool b => Value.bool (!b) | v => v) (EQv_runs_Run x y)
def slices_All_9402 (n : Nat) (a0 : (List runs_Run)) : Option (List runs_Run) :=
  some a0
theorem c_slices_All_9402 {n : Nat} {a0 : (List runs_Run)} {r : (List runs_Run)} {K : World → Prop} [Stable K] {v0 : Value} (f0 : Fz K v0 L_runs_Run a0) (h : slices_All_9402 n a0 = some r) : Bw.Fn (α := Nat × List Value) Try.prog 149 [v0] K [] (fun (b0, c0) => ((LSl L_runs_Run)).rep K c0 r) (fun (b0, c0) => .func (.func 165) #[] #[Ptr b0 0]) (fun (b0, c0) => [.cells b0 44 c0]) := by
  unfold slices_All_9402 at h
  refine fn_of Try.func149 (by kernel_rfl) rfl Try.ntmps149 rfl (fun cx hbs hpre hro => ?_)
  haveI := knf_pre hbs hpre
  refine WP_seq ?_
  refine WP_region ?_
  refine WL_x rfl (RX_box1 rfl f0.sl.cells) (fun b1 _ => ?_)
  refine WL_v rfl (VS_assign rfl) ?_
  refine WL_nil ?_
  refine WQ_then ?_
  refine WP_seq ?_
  refine WP_region ?_
  refine WL_v rfl (VS_makeFunc rfl) ?_
  refine WL_v rfl (VS_assign rfl) ?_
  refine WL_nil ?_
  refine WQ_then ?_
  refine WP_ret ?_
  replace h := Option.some.inj h
  subst h
  exact WQ_ret ⟨b1, [v0]⟩ rfl (.tmp rfl .nil) (Lay.mono _ ent ⟨_, rfl, f0⟩) rfl (ks := [0]) rfl (by decide)
structure runs_Runs where
  l : (List runs_Run)
abbrev L_runs_Runs : Lay runs_Runs := Lay.via (LSl L_runs_Run) (fun x => x.l)
abbrev Z_runs_Runs : runs_Runs := ⟨[]⟩
instance : Inhabited runs_Runs := ⟨Z_runs_Runs⟩
def zc_runs_Runs : List Value := [.slice none 0 0]
theorem zr_runs_Runs {A : World → Prop} : L_runs_Runs.rep A zc_runs_Runs Z_runs_Runs := ⟨_, rfl, Fz.nil⟩
theorem P_runs_Runs_l : Pth L_runs_Runs (LSl L_runs_Run) 0 (fun x => x.l) (fun x v => { x with l := v }) := Pth.id.via _ _ _ 0 rfl (fun _ => rfl) (fun _ _ => rfl)
def runs_Runs_each (n : Nat) (a0 : runs_Runs) : Option (List runs_Run) :=
  bd (slices_All_9402 n a0.l) fun x23 =>
  some x23
theorem c_runs_Runs_each {n : Nat} {a0 : runs_Runs} {r : (List runs_Run)} {K : World → Prop} [Stable K] {cs0 : List Value} (f0 : (L_runs_Runs).rep K cs0 a0) (h : runs_Runs_each n a0 = some r) : Bw.Fn (α := Nat × List Value) Try.prog 94 [.agg cs0.toArray] K [] (fun (b0, c0) => ((LSl L_runs_Run)).rep K c0 r) (fun (b0, c0) => .func (.func 165) #[] #[Ptr b0 0]) (fun (b0, c0) => [.cells b0 44 c0]) := by
  unfold runs_Runs_each at h
  refine fn_of Try.func94 (by kernel_rfl) rfl Try.ntmps94 rfl (fun cx hbs hpre hro => ?_)
  haveI := knf_pre hbs hpre
  refine WP_seq ?_
  refine WP_region ?_
  refine WL_x rfl (RX_boxa rfl) (fun b1 _ => ?_)
  refine WL_v rfl (VS_assign rfl) ?_
  refine WL_nil ?_
  refine WQ_then ?_
  refine WP_seq ?_
  obtain ⟨x23, hx23, h⟩ := bd_e h
  refine WP_region ?_
  refine WL_v rfl (VS_field0 rfl) ?_
  obtain ⟨v21, hv21, f22⟩ := P_runs_Runs_l.sl f0
  refine WL_v rfl (VS_load rfl hv21) ?_
  refine WL_x rfl (RX_call (c_slices_All_9402 (K := K) (f22.mono ent) hx23) rfl kn) (fun ⟨b24, c25⟩ f26 => ?_)
  replace f26 : ((LSl L_runs_Run)).rep K c25 x23 := f26
  dsimp only [List.cons_append, List.nil_append]
  refine WL_v rfl (VS_assign rfl) ?_
  refine WL_nil ?_
  refine WQ_then ?_
  refine WP_ret ?_
  replace h := Option.some.inj h
  subst h
  exact WQ_ret ⟨b24, c25⟩ rfl (.tmp rfl .nil) (Lay.mono _ ent f26) rfl (ks := [0]) rfl (by decide)
def slices_All_9402_1 (n : Nat) (a1 : (List runs_Run)) : Option (List (Int × runs_Run)) :=
  loop1 (fun k37 (x29 : Int) =>
  cn (decide (x29 < (a1.length : Int))) (
  gu (inb x29 a1.length) <|
  lt ((a1.getD (Int.toNat x29) default) : runs_Run) fun x39 =>
  yl (x29, x39) <|
  k37 (wr .i64 (x29 + 1))) (
  some [])) n 0
theorem it_slices_All_9402_1 {n : Nat} {a1 : (List runs_Run)} {l : List (Int × runs_Run)} {K : World → Prop} {q1 : Nat} {cs1 : List Value} (f1 : ((LSl L_runs_Run)).rep K cs1 a1) (h : slices_All_9402_1 n a1 = some l) : IterK Try.prog 165 [Ptr q1 0] [.cells q1 44 cs1] K (fun k => [.int .i64 ((l.getD k default).1), .agg (L_runs_Run.enc ((l.getD k default).2)).toArray]) l.length := by
  unfold slices_All_9402_1 at h
  refine ⟨fun y J Jx bs => fn_of Try.func165 (by kernel_rfl) rfl Try.ntmps165 rfl (fun cx hbs hpre hro => ?_)⟩
  haveI := knf_fut (show cx.bs = bs ++ blks [.cells q1 44 cs1] from hbs) hpre.1
  have hR : Rnd Try.prog y cx.bs cx.w0 J Jx (fun k => [.int .i64 ((l.getD k default).1), .agg (L_runs_Run.enc ((l.getD k default).2)).toArray]) l.length := by rw [show cx.bs = bs ++ blks [.cells q1 44 cs1] from hbs]; exact hpre.2
  have hd0 : l.drop 0 = l := rfl
  have hk0 : 0 ≤ l.length := Nat.zero_le _
  refine WP_seq ?_
  refine WP_region ?_
  obtain ⟨v21, hv21, f22⟩ := (Pth.id (L := (LSl L_runs_Run))).sl f1
  refine WL_v rfl (VS_load rfl hv21) ?_
  refine WL_v rfl (VS_lenF f22 rfl) ?_
  refine WL_v rfl (VS_move rfl) ?_
  refine WL_nil ?_
  refine WQ_then ?_
  refine WP_block ?_
  obtain ⟨lb35, hlb35, h⟩ := lp1_i h
  refine WP_loops (α := Nat × Int × Nat × (List (Int × runs_Run)) × (List Nat)) [0, 5, 6] (.cons rfl (.cons rfl (.cons rfl (.nil)))) (fun (m36, x29, kk30, r31, es32) => [(7, .int .i64 x29)]) (fun (m36, x29, kk30, r31, es32) => [.ext es32 (J kk30 es32), .cells q1 44 cs1]) (fun (m36, x29, kk30, r31, es32) => l.drop kk30 = r31 ∧ kk30 ≤ l.length ∧ loop1 lb35 m36 x29 = some r31) (fun (m36, x29, kk30, r31, es32) => m36) (n, 0, 0, l, bs) ⟨hd0, hk0, h⟩ (Sub_cons rfl (Sub_nil)) (ks := [0, 1]) rfl (by decide) ?_
  rintro ⟨m36, x29, kk30, r31, es32⟩ ⟨hd33, hk34, h⟩
  replace h : loop1 lb35 m36 x29 = some r31 := h
  replace h := lp1_s hlb35 h
  obtain ⟨m36, rfl, h⟩ := h
  refine WP_seq ?_
  refine WP_region ?_
  refine WL_v rfl (VS_lss rfl rfl) ?_
  refine WL_nil ?_
  refine WQ_then ?_
  refine WP_seq ?_
  refine WP_if rfl (fun hc => ?_) (fun hc => ?_)
  ·
    replace h := cn_t hc h
    refine WP_skip ?_
    refine WQ_then ?_
    refine WP_seq ?_
    refine WP_block ?_
    refine WP_seq ?_
    obtain ⟨hg38, h⟩ := gu_e h
    obtain ⟨x39, hx39, h⟩ := lt_e h
    refine WP_region ?_
    refine WL_v rfl (VS_move rfl) ?_
    refine WL_v rfl (VS_ixF (m := (Int.toNat x29)) f22 rfl rfl rfl (inb_e hg38).1 (inb_e hg38).2) ?_
    refine WL_v rfl (VS_ldaF (M := L_runs_Run) f22 (Pth.idx (L := L_runs_Run) (m := (a1.length)) (k := 2) ((Int.toNat x29)) (inb_e hg38).2 rfl) rfl rfl (by decide)) ?_
    refine WL_x rfl (RX_allocL (L := L_runs_Run) (z := Z_runs_Run) ⟨by kernel_rfl⟩) (fun b4 _ => ?_)
    refine WL_v rfl (VS_assign rfl) ?_
    refine WL_x0 (RX_st (M := L_runs_Run) (Pth.id (L := L_runs_Run)) (a1.getD (Int.toNat x29) default) x39 hx39 rfl rfl rfl rfl) (fun _ _ => ?_)
    refine WL_nil ?_
    refine WQ_then ?_
    refine WP_seq ?_
    obtain ⟨r40, hr40, h⟩ := yl_e h
    obtain ⟨hk43, hg43, hd43, hl43⟩ := drop_cons (hd33.trans hr40)
    refine WP_region ?_
    refine WL_v rfl (VS_move rfl) ?_
    refine WL_v rfl (VS_move rfl) ?_
    refine WL_v rfl (VS_lda (M := L_runs_Run) (Pth.id (L := L_runs_Run)) rfl rfl) ?_
    refine WL_x rfl (RX_yield (bs := es32) hR hk43 hro rfl (show evs _ _ = some [.int .i64 ((l.getD kk30 default).1), .agg (L_runs_Run.enc ((l.getD kk30 default).2)).toArray] by rw [hg43]; rfl)) (fun ⟨go41, es42⟩ _ => ?_)
    refine WL_v rfl (VS_not rfl) ?_
    refine WL_nil ?_
    refine WQ_then ?_
    refine WP_if rfl (fun hc => ?_) (fun hc => ?_)
    ·
      obtain rfl : go41 = false := by simpa using hc
      dsimp only [cond_true, cond_false]
      refine WP_ret ?_
      refine WQ_block_ret ?_
      refine WQ_then_ret ?_
      refine WQ_then_ret ?_
      refine WQ_block_ret ?_
      exact WQ_ret (false, es42) rfl .nil trivial rfl (ks := [1, 2]) rfl (by decide)
    ·
      obtain rfl : go41 = true := by simpa using hc
      dsimp only [cond_true, cond_false]
      refine WP_skip ?_
      refine WQ_block ?_
      refine WQ_then ?_
      refine WP_region ?_
      refine WL_v rfl (VS_add rfl rfl rfl) ?_
      refine WL_v rfl (VS_move rfl) ?_
      refine WL_nil ?_
      exact WQ_loops (m36, wr .i64 (x29 + 1), kk30 + 1, r40, es42) (Nat.lt_succ_self _) ⟨hd43, hl43, h⟩ (Sub_cons rfl (Sub_nil)) (.cons rfl (.cons rfl (.cons rfl (.nil)))) (ks := [1, 2]) rfl (by decide)
  ·
    replace h := cn_f hc h
    refine WP_exit ?_
    refine WQ_then_exit ?_
    refine WQ_then_exit ?_
    refine WQ_block_exit ?_
    replace h := Option.some.inj h
    subst h
    have ek44 := drop_nil hd33 hk34
    refine WQ_pick (ks := [0, 1]) (H' := [.ext es32 (J (kk30) es32), .cells q1 44 cs1]) rfl (by decide) ?_
    refine WQ_extk (J := J) (n := l.length) ek44 ?_
    exact WQ_end (true, es32) rfl .nil trivial rfl (ks := [0, 1]) rfl (by decide)
def runs_Runs_Mask (n : Nat) (a0 : runs_Runs) : Option Int :=
  bd (runs_Runs_each n a0) fun x21 =>
  bd (slices_All_9402_1 n x21) fun x25 =>
  itr1 (fun (e35 : Int × runs_Run) k29 (x28 : Int) =>
  lt (e35.1 : Int) fun x33 =>
  lt (e35.2 : runs_Run) fun x34 =>
  gu (decide (0 ≤ (wr .i64 (64 - x34.N)))) <|
  gu (decide (0 ≤ x34.At)) <|
  lt (orI .u64 x28 (shlI .u64 (shrI .u64 18446744073709551615 (wr .i64 (64 - x34.N))) x34.At) : Int) fun x38 =>
  k29 x38) (fun (x28 : Int) =>
  some x28) x25 0
theorem c_runs_Runs_Mask {n : Nat} {a0 : runs_Runs} {r : Int} {K : World → Prop} [Stable K] {cs0 : List Value} (f0 : (L_runs_Runs).rep K cs0 a0) (h : runs_Runs_Mask n a0 = some r) : FnW Try.prog 26 [.agg cs0.toArray] K (.int .u64 r) := by
  unfold runs_Runs_Mask at h
  refine fn_of Try.func26 (by kernel_rfl) rfl Try.ntmps26 rfl (fun cx hbs hpre hro => ?_)
  haveI := knf_pre hbs hpre
  refine WP_seq ?_
  refine WP_region ?_
  refine WL_x rfl (RX_boxa rfl) (fun b1 _ => ?_)
  refine WL_v rfl (VS_assign rfl) ?_
  refine WL_nil ?_
  refine WQ_then ?_
  refine WP_seq ?_
  refine WP_region ?_
  refine WL_x rfl (RX_allocL (L := (LI .u64)) (z := 0) ⟨by kernel_rfl⟩) (fun b3 _ => ?_)
  refine WL_x0 (RX_st (M := (LI .u64)) (Pth.id (L := (LI .u64))) 0 0 rfl rfl rfl rfl rfl) (fun _ _ => ?_)
  refine WL_nil ?_
  refine WQ_then ?_
  refine WP_seq ?_
  refine WP_seq ?_
  obtain ⟨x21, hx21, h⟩ := bd_e h
  refine WP_region ?_
  refine WL_v rfl (VS_loadall rfl (Lay.len _ f0)) ?_
  refine WL_x rfl (RX_call (c_runs_Runs_each (K := K) (Lay.mono _ ent f0) hx21) rfl kn) (fun ⟨b22, c23⟩ f24 => ?_)
  replace f24 : ((LSl L_runs_Run)).rep K c23 x21 := f24
  dsimp only [List.cons_append, List.nil_append]
  refine WL_nil ?_
  refine WQ_then ?_
  refine WP_block ?_
  obtain ⟨x25, hx25, h⟩ := bd_e h
  obtain ⟨ib31, hib31, fi32, hfi32, h⟩ := it1_i h
  refine WP_rangeK (K := K) (α := Int) (β := Unit) hro rfl (it_slices_All_9402_1 (K := K) (Lay.mono _ ent f24) hx25) (fun _ => rfl) rfl (fun kk30 => fun x28 => itr1 ib31 fi32 (x25.drop kk30) x28 = some r) (fun kk30 => fun x28 => [.cells b3 43 ((LI .u64).enc x28), .cells b1 46 cs0]) (fun _ _ => False) (fun _ => []) 0 h (ks := [0, 1, 2]) rfl (by decide) ?_ ?_ ?_
  ·
    rintro kk30 x28 lo dd rec c' hk h hrs hrp hro' hsi hT
    replace h : itr1 ib31 fi32 (x25.drop kk30) x28 = some r := h
    replace h := it1_s hib31 hk h
    haveI := knf_in (K := K) hsi
    dsimp only [parF]
    obtain ⟨x33, hx33, h⟩ := lt_e h
    rw [← hx33]
    obtain ⟨x34, hx34, h⟩ := lt_e h
    rw [← hx34]
    refine WP_region ?_
    refine WL_x rfl (RX_allocL (L := L_runs_Run) (z := Z_runs_Run) ⟨by kernel_rfl⟩) (fun b5 _ => ?_)
    refine WL_x0 (RX_st (M := L_runs_Run) (Pth.id (L := L_runs_Run)) x34 x34 rfl rfl rfl rfl rfl) (fun _ _ => ?_)
    refine WL_nil ?_
    refine WQ_begin hrs hro' ?_
    refine WP_block ?_
    obtain ⟨hg36, h⟩ := gu_e h
    obtain ⟨hg37, h⟩ := gu_e h
    obtain ⟨x38, hx38, h⟩ := lt_e h
    refine WP_draw mixed (.stg [] [(0, [3]), (1, [5]), (2, [11]), (3, [12]), (4, [13]), (5, [5]), (6, [15]), (7, [14, 16]), (8, [10, 17])] (.alt 9 [3, 18] (.fin [] []) .no)) (by kernel_rfl) ?_
    refine Stg_stg ?_ ?_
    · exact ReOk_nil
    refine NewOk_cons rfl rfl (VG_v rfl (VS_ldi (Pth.id (L := (LI .u64))) rfl)) ?_
    refine NewOk_cons rfl rfl (VG_v rfl (VS_field0 rfl)) ?_
    refine NewOk_cons rfl rfl (VG_v rfl (VS_ldi P_runs_Run_N rfl)) ?_
    refine NewOk_cons rfl rfl (VG_v rfl (VS_sub rfl rfl rfl)) ?_
    refine NewOk_cons rfl rfl (VG_v rfl (VS_shrI rfl rfl (ge0_e hg36))) ?_
    refine NewOk_cons rfl rfl (VG_v rfl (VS_field0 rfl)) ?_
    refine NewOk_cons rfl rfl (VG_v rfl (VS_ldi P_runs_Run_At rfl)) ?_
    refine NewOk_cons rfl rfl (VG_v rfl (VS_shlI rfl rfl (ge0_e hg37))) ?_
    refine NewOk_cons rfl rfl (VG_v rfl (VS_orI rfl rfl)) ?_
    refine NewOk_nil ?_
    refine Stg_none rfl (RG_x rfl (RX_st (M := (LI .u64)) (Pth.id (L := (LI .u64))) (orI .u64 x28 (shlI .u64 (shrI .u64 18446744073709551615 (wr .i64 (64 - x34.N))) x34.At)) x38 hx38 rfl rfl rfl rfl)) (fun _ _ => ?_) Stg_no
    refine Stg_fin ?_ ?_
    · exact ReOk_nil
    refine NewOk_nil ?_
    refine WQ_block ?_
    exact WQ_next hrs hrp hT x38 h (ks := [1, 2, 3, 4]) rfl (by decide)
  ·
    rintro dd39 x28 h
    replace h : itr1 ib31 fi32 (x25.drop x25.length) x28 = some r := h
    replace h := it1_n hfi32 rfl h
    dsimp only [List.cons_append, List.nil_append]
    refine WQ_block ?_
    refine WQ_then ?_
    refine WP_seq ?_
    refine WP_region ?_
    refine WL_v rfl (VS_ldi (Pth.id (L := (LI .u64))) rfl) ?_
    refine WL_v rfl (VS_assign rfl) ?_
    refine WL_nil ?_
    refine WQ_then ?_
    refine WP_ret ?_
    replace h := Option.some.inj h
    subst h
    exact WQ_retm () rfl (.tmp rfl .nil) trivial rfl (ks := []) rfl (by decide)
  ·
    intro dd j i hf; exact hf.elim
def runs_Runs_Count (n : Nat) (a0 : runs_Runs) : Option Int :=
  bd (runs_Runs_each n a0) fun x21 =>
  bd (slices_All_9402_1 n x21) fun x25 =>
  itr1 (fun (e35 : Int × runs_Run) k29 (x28 : Int) =>
  lt (e35.1 : Int) fun x33 =>
  lt (e35.2 : runs_Run) fun x34 =>
  lt (wr .i64 (x28 + x34.N) : Int) fun x36 =>
  k29 x36) (fun (x28 : Int) =>
  some x28) x25 0
theorem c_runs_Runs_Count {n : Nat} {a0 : runs_Runs} {r : Int} {K : World → Prop} [Stable K] {cs0 : List Value} (f0 : (L_runs_Runs).rep K cs0 a0) (h : runs_Runs_Count n a0 = some r) : FnW Try.prog 28 [.agg cs0.toArray] K (.int .i64 r) := by
  unfold runs_Runs_Count at h
  refine fn_of Try.func28 (by kernel_rfl) rfl Try.ntmps28 rfl (fun cx hbs hpre hro => ?_)
  haveI := knf_pre hbs hpre
  refine WP_seq ?_
  refine WP_region ?_
  refine WL_x rfl (RX_boxa rfl) (fun b1 _ => ?_)
  refine WL_v rfl (VS_assign rfl) ?_
  refine WL_nil ?_
  refine WQ_then ?_
  refine WP_seq ?_
  refine WP_region ?_
  refine WL_x rfl (RX_allocL (L := (LI .i64)) (z := 0) ⟨by kernel_rfl⟩) (fun b3 _ => ?_)
  refine WL_x0 (RX_st (M := (LI .i64)) (Pth.id (L := (LI .i64))) 0 0 rfl rfl rfl rfl rfl) (fun _ _ => ?_)
  refine WL_nil ?_
  refine WQ_then ?_
  refine WP_seq ?_
  refine WP_seq ?_
  obtain ⟨x21, hx21, h⟩ := bd_e h
  refine WP_region ?_
  refine WL_v rfl (VS_loadall rfl (Lay.len _ f0)) ?_
  refine WL_x rfl (RX_call (c_runs_Runs_each (K := K) (Lay.mono _ ent f0) hx21) rfl kn) (fun ⟨b22, c23⟩ f24 => ?_)
  replace f24 : ((LSl L_runs_Run)).rep K c23 x21 := f24
  dsimp only [List.cons_append, List.nil_append]
  refine WL_nil ?_
  refine WQ_then ?_
  refine WP_block ?_
  obtain ⟨x25, hx25, h⟩ := bd_e h
  obtain ⟨ib31, hib31, fi32, hfi32, h⟩ := it1_i h
  refine WP_rangeK (K := K) (α := Int) (β := Unit) hro rfl (it_slices_All_9402_1 (K := K) (Lay.mono _ ent f24) hx25) (fun _ => rfl) rfl (fun kk30 => fun x28 => itr1 ib31 fi32 (x25.drop kk30) x28 = some r) (fun kk30 => fun x28 => [.cells b3 3 ((LI .i64).enc x28), .cells b1 46 cs0]) (fun _ _ => False) (fun _ => []) 0 h (ks := [0, 1, 2]) rfl (by decide) ?_ ?_ ?_
  ·
    rintro kk30 x28 lo dd rec c' hk h hrs hrp hro' hsi hT
    replace h : itr1 ib31 fi32 (x25.drop kk30) x28 = some r := h
    replace h := it1_s hib31 hk h
    haveI := knf_in (K := K) hsi
    dsimp only [parF]
    obtain ⟨x33, hx33, h⟩ := lt_e h
    rw [← hx33]
    obtain ⟨x34, hx34, h⟩ := lt_e h
    rw [← hx34]
    refine WP_region ?_
    refine WL_x rfl (RX_allocL (L := L_runs_Run) (z := Z_runs_Run) ⟨by kernel_rfl⟩) (fun b5 _ => ?_)
    refine WL_x0 (RX_st (M := L_runs_Run) (Pth.id (L := L_runs_Run)) x34 x34 rfl rfl rfl rfl rfl) (fun _ _ => ?_)
    refine WL_nil ?_
    refine WQ_begin hrs hro' ?_
    refine WP_block ?_
    obtain ⟨x36, hx36, h⟩ := lt_e h
    refine WP_region ?_
    refine WL_v rfl (VS_ldi (Pth.id (L := (LI .i64))) rfl) ?_
    refine WL_v rfl (VS_field0 rfl) ?_
    refine WL_v rfl (VS_ldi P_runs_Run_N rfl) ?_
    refine WL_v rfl (VS_add rfl rfl rfl) ?_
    refine WL_x0 (RX_st (M := (LI .i64)) (Pth.id (L := (LI .i64))) (wr .i64 (x28 + x34.N)) x36 hx36 rfl rfl rfl rfl) (fun _ _ => ?_)
    refine WL_nil ?_
    refine WQ_block ?_
    exact WQ_next hrs hrp hT x36 h (ks := [1, 2, 3, 4]) rfl (by decide)
  ·
    rintro dd37 x28 h
    replace h : itr1 ib31 fi32 (x25.drop x25.length) x28 = some r := h
    replace h := it1_n hfi32 rfl h
    dsimp only [List.cons_append, List.nil_append]
    refine WQ_block ?_
    refine WQ_then ?_
    refine WP_seq ?_
    refine WP_region ?_
    refine WL_v rfl (VS_ldi (Pth.id (L := (LI .i64))) rfl) ?_
    refine WL_v rfl (VS_assign rfl) ?_
    refine WL_nil ?_
    refine WQ_then ?_
    refine WP_ret ?_
    replace h := Option.some.inj h
    subst h
    exact WQ_retm () rfl (.tmp rfl .nil) trivial rfl (ks := []) rfl (by decide)
  ·
    intro dd j i hf; exact hf.elim
def runs_Run_may (n : Nat) (a0 : runs_Run) : Option Bool :=
  some ((decide (1 ≤ a0.N) && decide (0 ≤ a0.At)) && decide (a0.At ≤ (wr .i64 (64 - a0.N))))
theorem c_runs_Run_may {n : Nat} {a0 : runs_Run} {r : Bool}  (h : runs_Run_may n a0 = some r) : FnV Try.prog 95 [.agg (L_runs_Run.enc a0).toArray] (.bool r) := by
  unfold runs_Run_may at h
  refine fn_of Try.func95 (by kernel_rfl) rfl Try.ntmps95 rfl (fun cx hbs hpre hro => ?_)
  refine WP_seq ?_
  refine WP_region ?_
  refine WL_x rfl (RX_boxL L_runs_Run a0 rfl rfl) (fun b1 _ => ?_)
  refine WL_v rfl (VS_assign rfl) ?_
  refine WL_nil ?_
  refine WQ_then ?_
  refine WP_seq ?_
  refine WP_region ?_
  refine WL_v rfl (VS_field0 rfl) ?_
  refine WL_v rfl (VS_ldi P_runs_Run_N rfl) ?_
  refine WL_v rfl (VS_geq rfl rfl) ?_
  refine WL_v rfl (VS_move rfl) ?_
  refine WL_g (Gd_b rfl rfl) rfl (fun hb => VS_field0 rfl) ?_
  refine WL_g (Gd_b rfl rfl) rfl (fun hb => VS_ldi P_runs_Run_At (gev rfl hb)) ?_
  refine WL_g (Gd_b rfl rfl) rfl (fun hb => VS_geq (gev rfl hb) rfl) ?_
  refine WL_v rfl (VS_and rfl rfl) ?_
  refine WL_v rfl (VS_move rfl) ?_
  refine WL_g (Gd_b rfl rfl) rfl (fun hb => VS_field0 rfl) ?_
  refine WL_g (Gd_b rfl rfl) rfl (fun hb => VS_ldi P_runs_Run_At (gev rfl hb)) ?_
  refine WL_g (Gd_b rfl rfl) rfl (fun hb => VS_field0 rfl) ?_
  refine WL_g (Gd_b rfl rfl) rfl (fun hb => VS_ldi P_runs_Run_N (gev rfl hb)) ?_
  refine WL_g (Gd_b rfl rfl) rfl (fun hb => VS_sub rfl (gev rfl hb) rfl) ?_
  refine WL_g (Gd_b rfl rfl) rfl (fun hb => VS_leq (gev rfl hb) (gev rfl hb)) ?_
  refine WL_v rfl (VS_and rfl rfl) ?_
  refine WL_v rfl (VS_assign rfl) ?_
  refine WL_nil ?_
  refine WQ_then ?_
  refine WP_ret ?_
  replace h := Option.some.inj h
  subst h
  exact WQ_ret () rfl (.tmp rfl .nil) trivial rfl (ks := []) rfl (by decide)
def runs_Run_end (n : Nat) (a0 : runs_Run) : Option Int :=
  some (wr .i64 (a0.At + a0.N))
theorem c_runs_Run_end {n : Nat} {a0 : runs_Run} {r : Int}  (h : runs_Run_end n a0 = some r) : FnV Try.prog 145 [.agg (L_runs_Run.enc a0).toArray] (.int .i64 r) := by
  unfold runs_Run_end at h
  refine fn_of Try.func145 (by kernel_rfl) rfl Try.ntmps145 rfl (fun cx hbs hpre hro => ?_)
  refine WP_seq ?_
  refine WP_region ?_
  refine WL_x rfl (RX_boxL L_runs_Run a0 rfl rfl) (fun b1 _ => ?_)
  refine WL_v rfl (VS_assign rfl) ?_
  refine WL_nil ?_
  refine WQ_then ?_
  refine WP_seq ?_
  refine WP_region ?_
  refine WL_v rfl (VS_field0 rfl) ?_
  refine WL_v rfl (VS_ldi P_runs_Run_At rfl) ?_
  refine WL_v rfl (VS_field0 rfl) ?_
  refine WL_v rfl (VS_ldi P_runs_Run_N rfl) ?_
  refine WL_v rfl (VS_add rfl rfl rfl) ?_
  refine WL_v rfl (VS_assign rfl) ?_
  refine WL_nil ?_
  refine WQ_then ?_
  refine WP_ret ?_
  replace h := Option.some.inj h
  subst h
  exact WQ_ret () rfl (.tmp rfl .nil) trivial rfl (ks := []) rfl (by decide)
def runs_Run_holds (n : Nat) (a0 : runs_Run) (a1 : runs_Run) : Option Bool :=
  cl (((EQ_runs_Run a1 a0) == false) && ((decide (a0.At ≤ a1.At)) == true)) (runs_Run_end n a1) default fun x21 =>
  cl (((EQ_runs_Run a1 a0) == false) && ((decide (a0.At ≤ a1.At)) == true)) (runs_Run_end n a0) default fun x22 =>
  some ((EQ_runs_Run a1 a0) || (decide (a0.At ≤ a1.At) && decide (x21 ≤ x22)))
theorem c_runs_Run_holds {n : Nat} {a0 : runs_Run} {a1 : runs_Run} {r : Bool}  (h : runs_Run_holds n a0 a1 = some r) : FnV Try.prog 98 [.agg (L_runs_Run.enc a0).toArray, .agg (L_runs_Run.enc a1).toArray] (.bool r) := by
  unfold runs_Run_holds at h
  refine fn_of Try.func98 (by kernel_rfl) rfl Try.ntmps98 rfl (fun cx hbs hpre hro => ?_)
  refine WP_seq ?_
  refine WP_region ?_
  refine WL_x rfl (RX_boxL L_runs_Run a0 rfl rfl) (fun b2 _ => ?_)
  refine WL_x rfl (RX_boxL L_runs_Run a1 rfl rfl) (fun b3 _ => ?_)
  refine WL_v rfl (VS_assign rfl) ?_
  refine WL_nil ?_
  refine WQ_then ?_
  refine WP_seq ?_
  obtain ⟨x21, hx21, _, h⟩ := cl_e h
  obtain ⟨x22, hx22, _, h⟩ := cl_e h
  refine WP_draw mixed (.stg [] [(0, [3]), (1, [2]), (2, [5, 6]), (3, [7]), (4, [3, 8]), (5, [8, 9]), (6, [2, 8]), (7, [8, 11]), (8, [8, 10, 12]), (9, [8, 13]), (10, [3, 14]), (11, [14, 15]), (12, [2, 14]), (13, [14, 17]), (14, [14, 16, 18]), (15, [8, 14, 19]), (16, [8, 20])] (.alt 17 [21] (.fin [] []) .no)) (by kernel_rfl) ?_
  refine Stg_stg ?_ ?_
  · exact ReOk_nil
  refine NewOk_cons rfl rfl (VG_v rfl (VS_lda (M := L_runs_Run) (Pth.id (L := L_runs_Run)) rfl rfl)) ?_
  refine NewOk_cons rfl rfl (VG_v rfl (VS_lda (M := L_runs_Run) (Pth.id (L := L_runs_Run)) rfl rfl)) ?_
  refine NewOk_cons rfl rfl (VG_v rfl (VS_val (VS_eqls (cs := L_runs_Run.enc a1) (ds := L_runs_Run.enc a0) rfl rfl rfl rfl) (EQv_runs_Run _ _))) ?_
  refine NewOk_cons rfl rfl (VG_v rfl (VS_move rfl)) ?_
  refine NewOk_cons rfl rfl (VG_g (Gd_b rfl rfl) (fun hb => VS_field0 rfl)) ?_
  refine NewOk_cons rfl rfl (VG_g (Gd_b rfl rfl) (fun hb => VS_ldi P_runs_Run_At (gev rfl hb))) ?_
  refine NewOk_cons rfl rfl (VG_g (Gd_b rfl rfl) (fun hb => VS_field0 rfl)) ?_
  refine NewOk_cons rfl rfl (VG_g (Gd_b rfl rfl) (fun hb => VS_ldi P_runs_Run_At (gev rfl hb))) ?_
  refine NewOk_cons rfl rfl (VG_g (Gd_b rfl rfl) (fun hb => VS_geq (gev rfl hb) (gev rfl hb))) ?_
  refine NewOk_cons rfl rfl (VG_g (Gd_b rfl rfl) (fun hb => VS_move (gev rfl hb))) ?_
  refine NewOk_cons rfl rfl (VG_g (Gd_g rfl rfl) (fun hb => VS_lda (M := L_runs_Run) (Pth.id (L := L_runs_Run)) rfl rfl)) ?_
  refine NewOk_cons rfl rfl (VG_g (Gd_g rfl rfl) (fun hb => VS_call (c_runs_Run_end (hx21 hb)) (evs_cons (gev rfl hb) rfl) (fun _ _ _ => trivial))) ?_
  refine NewOk_cons rfl rfl (VG_g (Gd_g rfl rfl) (fun hb => VS_lda (M := L_runs_Run) (Pth.id (L := L_runs_Run)) rfl rfl)) ?_
  refine NewOk_cons rfl rfl (VG_g (Gd_g rfl rfl) (fun hb => VS_call (c_runs_Run_end (hx22 hb)) (evs_cons (gev rfl hb) rfl) (fun _ _ _ => trivial))) ?_
  refine NewOk_cons rfl rfl (VG_g (Gd_g rfl rfl) (fun hb => VS_leq (gev rfl hb) (gev rfl hb))) ?_
  refine NewOk_cons rfl rfl (VG_g (Gd_b rfl rfl) (fun hb => VS_and (gev rfl hb) (gev2 rfl hb))) ?_
  refine NewOk_cons rfl rfl (VG_v rfl (VS_or rfl rfl)) ?_
  refine NewOk_nil ?_
  refine Stg_some rfl rfl (RG_x rfl ((VS_assign rfl).rx)) (fun _ _ => ?_) Stg_no
  refine Stg_fin ?_ ?_
  · exact ReOk_nil
  refine NewOk_nil ?_
  refine WQ_then ?_
  refine WP_ret ?_
  replace h := Option.some.inj h
  subst h
  exact WQ_ret () rfl (.tmp rfl .nil) trivial rfl (ks := []) rfl (by decide)
def runs_Runs_Has_1 (n : Nat) (a0 : runs_Run) (a1 : runs_Run) : Option Bool :=
  bd (runs_Run_holds n a0 a1) fun x21 =>
  some x21
theorem c_runs_Runs_Has_1 {n : Nat} {a0 : runs_Run} {a1 : runs_Run} {r : Bool} {q1 : Nat} (h : runs_Runs_Has_1 n a0 a1 = some r) : Bw.Fn (α := Unit) Try.prog 97 [.agg (L_runs_Run.enc a0).toArray, Ptr q1 0] (Fut (blks [.cells q1 57 (L_runs_Run.enc a1)]) (fun _ => True)) [.cells q1 57 (L_runs_Run.enc a1)] (fun _ => True) (fun _ => (.bool r)) (fun _ => [.cells q1 57 (L_runs_Run.enc a1)]) := by
  unfold runs_Runs_Has_1 at h
  refine fn_of Try.func97 (by kernel_rfl) rfl Try.ntmps97 rfl (fun cx hbs hpre hro => ?_)
  refine WP_seq ?_
  refine WP_region ?_
  refine WL_x rfl (RX_boxL L_runs_Run a0 rfl rfl) (fun b2 _ => ?_)
  refine WL_v rfl (VS_assign rfl) ?_
  refine WL_nil ?_
  refine WQ_then ?_
  refine WP_seq ?_
  obtain ⟨x21, hx21, h⟩ := bd_e h
  refine WP_region ?_
  refine WL_v rfl (VS_lda (M := L_runs_Run) (Pth.id (L := L_runs_Run)) rfl rfl) ?_
  refine WL_v rfl (VS_lda (M := L_runs_Run) (Pth.id (L := L_runs_Run)) rfl rfl) ?_
  refine WL_v rfl (VS_call (c_runs_Run_holds hx21) rfl (fun _ _ _ => trivial)) ?_
  refine WL_v rfl (VS_assign rfl) ?_
  refine WL_nil ?_
  refine WQ_then ?_
  refine WP_ret ?_
  replace h := Option.some.inj h
  subst h
  exact WQ_ret () rfl (.tmp rfl .nil) trivial rfl (ks := [1]) rfl (by decide)
def slices_IndexFunc_9402__runs_Runs_Has_1 (n : Nat) (a0 : (List runs_Run)) (a1_0 : runs_Run) : Option Int :=
  loop1 (fun k25 (x22 : Int) =>
  cn (decide (x22 < (a0.length : Int))) (
  gu (inb x22 a0.length) <|
  bd (runs_Runs_Has_1 n (a0.getD (Int.toNat x22) default) a1_0) fun x27 =>
  cn (x27) (
  some x22) (
  k25 (wr .i64 (x22 + 1)))) (
  some (-1))) n 0
theorem c_slices_IndexFunc_9402__runs_Runs_Has_1 {n : Nat} {a0 : (List runs_Run)} {a1_0 : runs_Run} {r : Int} {K : World → Prop} {v0 : Value} (f0 : Fz K v0 L_runs_Run a0) {q1_0 : Nat} (h : slices_IndexFunc_9402__runs_Runs_Has_1 n a0 a1_0 = some r) : Bw.Fn (α := Unit) Try.prog 144 [v0, .func (.func 97) #[] #[Ptr q1_0 0]] (Fut (blks [.cells q1_0 57 (L_runs_Run.enc a1_0)]) K) [.cells q1_0 57 (L_runs_Run.enc a1_0)] (fun _ => True) (fun _ => (.int .i64 r)) (fun _ => [.cells q1_0 57 (L_runs_Run.enc a1_0)]) := by
  unfold slices_IndexFunc_9402__runs_Runs_Has_1 at h
  refine fn_of Try.func144 (by kernel_rfl) rfl Try.ntmps144 rfl (fun cx hbs hpre hro => ?_)
  haveI := knf_fut hbs hpre
  refine WP_seq ?_
  refine WP_region ?_
  refine WL_v rfl (VS_assign rfl) ?_
  refine WL_nil ?_
  refine WQ_then ?_
  refine WP_seq ?_
  refine WP_seq ?_
  refine WP_region ?_
  refine WL_v rfl (VS_move rfl) ?_
  refine WL_v rfl (VS_lenF f0 rfl) ?_
  refine WL_v rfl (VS_move rfl) ?_
  refine WL_nil ?_
  refine WQ_then ?_
  refine WP_block ?_
  obtain ⟨lb23, hlb23, h⟩ := lp1_i h
  refine WP_loops (α := Nat × Int) [0, 1, 7] (.cons rfl (.cons rfl (.cons rfl (.nil)))) (fun (m24, x22) => [(8, .int .i64 x22)]) (fun (m24, x22) => [.cells q1_0 57 (L_runs_Run.enc a1_0)]) (fun (m24, x22) => loop1 lb23 m24 x22 = some r) (fun (m24, x22) => m24) (n, 0) h (Sub_cons rfl (Sub_nil)) (ks := [0]) rfl (by decide) ?_
  rintro ⟨m24, x22⟩ h
  replace h : loop1 lb23 m24 x22 = some r := h
  replace h := lp1_s hlb23 h
  obtain ⟨m24, rfl, h⟩ := h
  refine WP_seq ?_
  refine WP_region ?_
  refine WL_v rfl (VS_lss rfl rfl) ?_
  refine WL_nil ?_
  refine WQ_then ?_
  refine WP_seq ?_
  refine WP_if rfl (fun hc => ?_) (fun hc => ?_)
  ·
    replace h := cn_t hc h
    refine WP_skip ?_
    refine WQ_then ?_
    refine WP_seq ?_
    refine WP_block ?_
    refine WP_seq ?_
    refine WP_region ?_
    refine WL_v rfl (VS_move rfl) ?_
    refine WL_v rfl (VS_assign rfl) ?_
    refine WL_nil ?_
    refine WQ_then ?_
    refine WP_seq ?_
    obtain ⟨hg26, h⟩ := gu_e h
    obtain ⟨x27, hx27, h⟩ := bd_e h
    refine WP_region ?_
    refine WL_v rfl (VS_move rfl) ?_
    refine WL_v rfl (VS_move rfl) ?_
    refine WL_v rfl (VS_move rfl) ?_
    refine WL_v rfl (VS_ixF (m := (Int.toNat x22)) f0 rfl rfl rfl (inb_e hg26).1 (inb_e hg26).2) ?_
    refine WL_v rfl (VS_ldaF (M := L_runs_Run) f0 (Pth.idx (L := L_runs_Run) (m := (a0.length)) (k := 2) ((Int.toNat x22)) (inb_e hg26).2 rfl) rfl rfl (by decide)) ?_
    refine WL_x rfl (RX_callH (K := (fun _ => True)) (Hin := [.cells q1_0 57 (L_runs_Run.enc a1_0)]) (rest := []) (ks := [0]) (c_runs_Runs_Has_1 hx27) rfl rfl rfl rfl (by decide)) (fun _ _ => ?_)
    dsimp only [List.cons_append, List.nil_append]
    refine WL_nil ?_
    refine WQ_then ?_
    refine WP_if rfl (fun hc => ?_) (fun hc => ?_)
    ·
      replace h := cn_t hc h
      refine WP_seq ?_
      refine WP_region ?_
      refine WL_v rfl (VS_move rfl) ?_
      refine WL_v rfl (VS_assign rfl) ?_
      refine WL_nil ?_
      refine WQ_then ?_
      refine WP_ret ?_
      refine WQ_block_ret ?_
      refine WQ_then_ret ?_
      refine WQ_then_ret ?_
      refine WQ_block_ret ?_
      refine WQ_then_ret ?_
      replace h := Option.some.inj h
      subst h
      exact WQ_ret () rfl (.tmp rfl .nil) trivial rfl (ks := [0]) rfl (by decide)
    ·
      replace h := cn_f hc h
      refine WP_skip ?_
      refine WQ_block ?_
      refine WQ_then ?_
      refine WP_region ?_
      refine WL_v rfl (VS_add rfl rfl rfl) ?_
      refine WL_v rfl (VS_move rfl) ?_
      refine WL_nil ?_
      exact WQ_loops (m24, wr .i64 (x22 + 1)) (Nat.lt_succ_self _) h (Sub_cons rfl (Sub_nil)) (.cons rfl (.cons rfl (.cons rfl (.nil)))) (ks := [0]) rfl (by decide)
  ·
    replace h := cn_f hc h
    refine WP_exit ?_
    refine WQ_then_exit ?_
    refine WQ_then_exit ?_
    refine WQ_block_exit ?_
    refine WQ_then ?_
    refine WP_seq ?_
    refine WP_region ?_
    refine WL_v rfl (VS_assign rfl) ?_
    refine WL_nil ?_
    refine WQ_then ?_
    refine WP_ret ?_
    replace h := Option.some.inj h
    subst h
    exact WQ_ret () rfl (.tmp rfl .nil) trivial rfl (ks := [0]) rfl (by decide)
def slices_ContainsFunc_9402__runs_Runs_Has_1 (n : Nat) (a0 : (List runs_Run)) (a1_0 : runs_Run) : Option Bool :=
  bd (slices_IndexFunc_9402__runs_Runs_Has_1 n a0 a1_0) fun x21 =>
  some (decide (0 ≤ x21))
theorem c_slices_ContainsFunc_9402__runs_Runs_Has_1 {n : Nat} {a0 : (List runs_Run)} {a1_0 : runs_Run} {r : Bool} {K : World → Prop} {v0 : Value} (f0 : Fz K v0 L_runs_Run a0) {q1_0 : Nat} (h : slices_ContainsFunc_9402__runs_Runs_Has_1 n a0 a1_0 = some r) : Bw.Fn (α := Unit) Try.prog 96 [v0, .func (.func 97) #[] #[Ptr q1_0 0]] (Fut (blks [.cells q1_0 57 (L_runs_Run.enc a1_0)]) K) [.cells q1_0 57 (L_runs_Run.enc a1_0)] (fun _ => True) (fun _ => (.bool r)) (fun _ => [.cells q1_0 57 (L_runs_Run.enc a1_0)]) := by
  unfold slices_ContainsFunc_9402__runs_Runs_Has_1 at h
  refine fn_of Try.func96 (by kernel_rfl) rfl Try.ntmps96 rfl (fun cx hbs hpre hro => ?_)
  haveI := knf_fut hbs hpre
  refine WP_seq ?_
  refine WP_region ?_
  refine WL_v rfl (VS_assign rfl) ?_
  refine WL_nil ?_
  refine WQ_then ?_
  refine WP_seq ?_
  obtain ⟨x21, hx21, h⟩ := bd_e h
  refine WP_region ?_
  refine WL_v rfl (VS_move rfl) ?_
  refine WL_v rfl (VS_move rfl) ?_
  refine WL_x rfl (RX_callH (K := K) (Hin := [.cells q1_0 57 (L_runs_Run.enc a1_0)]) (rest := []) (ks := [0]) (c_slices_IndexFunc_9402__runs_Runs_Has_1 (K := K) (f0.mono ent) hx21) rfl rfl rfl rfl (by decide)) (fun _ _ => ?_)
  dsimp only [List.cons_append, List.nil_append]
  refine WL_v rfl (VS_geq rfl rfl) ?_
  refine WL_v rfl (VS_assign rfl) ?_
  refine WL_nil ?_
  refine WQ_then ?_
  refine WP_ret ?_
  replace h := Option.some.inj h
  subst h
  exact WQ_ret () rfl (.tmp rfl .nil) trivial rfl (ks := [0]) rfl (by decide)
def runs_Runs_Has (n : Nat) (a0 : runs_Runs) (a1 : Int) : Option Bool :=
  lt ({ At := a1, N := 1 } : runs_Run) fun x21 =>
  bd (runs_Run_may n x21) fun x22 =>
  cl (x22 == true) (slices_ContainsFunc_9402__runs_Runs_Has_1 n a0.l x21) default fun x25 =>
  some (x22 && x25)
theorem c_runs_Runs_Has {n : Nat} {a0 : runs_Runs} {a1 : Int} {r : Bool} {K : World → Prop} [Stable K] {cs0 : List Value} (f0 : (L_runs_Runs).rep K cs0 a0) (h : runs_Runs_Has n a0 a1 = some r) : FnW Try.prog 29 [.agg cs0.toArray, .int .i64 a1] K (.bool r) := by
  unfold runs_Runs_Has at h
  refine fn_of Try.func29 (by kernel_rfl) rfl Try.ntmps29 rfl (fun cx hbs hpre hro => ?_)
  haveI := knf_pre hbs hpre
  refine WP_seq ?_
  refine WP_region ?_
  refine WL_x rfl (RX_boxa rfl) (fun b2 _ => ?_)
  refine WL_v rfl (VS_assign rfl) ?_
  refine WL_nil ?_
  refine WQ_then ?_
  refine WP_seq ?_
  obtain ⟨x21, hx21, h⟩ := lt_e h
  refine WP_region ?_
  refine WL_v rfl (VS_move rfl) ?_
  refine WL_v rfl (VS_build (cs := L_runs_Run.enc x21) rfl (by rw [hx21]; rfl)) ?_
  refine WL_x rfl (RX_allocL (L := L_runs_Run) (z := Z_runs_Run) ⟨by kernel_rfl⟩) (fun b5 _ => ?_)
  refine WL_x0 (RX_st (M := L_runs_Run) (Pth.id (L := L_runs_Run)) x21 x21 rfl rfl rfl rfl rfl) (fun _ _ => ?_)
  refine WL_nil ?_
  refine WQ_then ?_
  refine WP_seq ?_
  obtain ⟨x22, hx22, h⟩ := bd_e h
  obtain ⟨x25, hx25, _, h⟩ := cl_e h
  refine WP_region ?_
  refine WL_v rfl (VS_lda (M := L_runs_Run) (Pth.id (L := L_runs_Run)) rfl rfl) ?_
  refine WL_v rfl (VS_call (c_runs_Run_may hx22) rfl (fun _ _ _ => trivial)) ?_
  refine WL_v rfl (VS_move rfl) ?_
  refine WL_g (Gd_b rfl rfl) rfl (fun hb => VS_field0 rfl) ?_
  obtain ⟨v23, hv23, f24⟩ := guard_ex (g := (x22 == true)) (fun hb => P_runs_Runs_l.sl f0)
  refine WL_g (Gd_b rfl rfl) rfl (fun hb => VS_load (gev rfl hb) (hv23 hb)) ?_
  refine WL_g (Gd_b rfl rfl) rfl (fun hb => VS_makeFunc (evs_cons rfl rfl)) ?_
  refine WL_callHg (Gd_b rfl rfl) rfl (fun hb => c_slices_ContainsFunc_9402__runs_Runs_Has_1 (K := K) ((f24 hb).mono ent) (hx25 hb)) (fun hb => rfl) (fun hb => (evs_cons (gev rfl hb) (evs_cons (gev rfl hb) rfl))) rfl (Hin := [.cells b5 57 (L_runs_Run.enc x21)]) (rst := [.cells b2 46 cs0]) (ks := [0, 1]) rfl (by decide) (fun hb => inferInstance) ?_
  dsimp only [List.cons_append, List.nil_append]
  refine WL_v rfl (VS_and rfl rfl) ?_
  refine WL_v rfl (VS_assign rfl) ?_
  refine WL_nil ?_
  refine WQ_then ?_
  refine WP_ret ?_
  replace h := Option.some.inj h
  subst h
  exact WQ_ret () rfl (.tmp rfl .nil) trivial rfl (ks := []) rfl (by decide)
def slices_Clone_9402 (n : Nat) (a0 : (List runs_Run)) : Option (List runs_Run) :=
  gu (apok ([] : List runs_Run).length a0.length 16) <|
  lt (([] : List runs_Run) ++ a0 : List runs_Run) fun x24 =>
  some x24
theorem c_slices_Clone_9402 {n : Nat} {a0 : (List runs_Run)} {r : (List runs_Run)} {K : World → Prop} [Stable K] {v0 : Value} (f0 : Fz K v0 L_runs_Run a0) (h : slices_Clone_9402 n a0 = some r) : FnB Try.prog 99 [v0] K (fun J v => Fz (fun w => K w ∧ J w) v L_runs_Run r) := by
  unfold slices_Clone_9402 at h
  refine fn_of Try.func99 (by kernel_rfl) rfl Try.ntmps99 rfl (fun cx hbs hpre hro => ?_)
  haveI := knf_pre hbs hpre
  refine WP_seq ?_
  refine WP_region ?_
  refine WL_v rfl (VS_assign rfl) ?_
  refine WL_nil ?_
  refine WQ_then ?_
  refine WP_seq ?_
  refine WP_seq ?_
  refine WP_region ?_
  refine WL_v rfl (VS_move rfl) ?_
  refine WL_v rfl (VS_eqnil f0.sl.slv rfl rfl) ?_
  refine WL_nil ?_
  refine WQ_then ?_
  refine WP_fz f0 (fun hnil => ?_)
  refine WP_if rfl (fun hc => ?_) (fun hc => ?_)
  ·
    obtain rfl := hnil (by simpa using hc)
    replace h : (some ([] : List runs_Run)) = some r := by simpa [gu, lt, bd, cn, apok] using h
    refine WP_seq ?_
    refine WP_region ?_
    refine WL_v rfl (VS_assign rfl) ?_
    refine WL_nil ?_
    refine WQ_then ?_
    refine WP_ret ?_
    refine WQ_then_ret ?_
    replace h := Option.some.inj h
    subst h
    refine WQ_bundle (R := []) (H' := []) (ks := []) rfl (by decide) ?_
    have p21 : Fz (fun w => K w ∧ (Hs [.ext (blks []) (Hs [])]) w) (.slice none 0 0) L_runs_Run ([] : List runs_Run) := (Fz.nil (A := Hs [])).mono ent
    exact WQ_ret (.slice none 0 0, blks [], Hs []) rfl (.tmp rfl .nil) p21 rfl (ks := [0]) rfl (by decide)
  ·
    refine WP_skip ?_
    refine WQ_then ?_
    refine WP_seq ?_
    obtain ⟨hg23, h⟩ := gu_e h
    obtain ⟨x24, hx24, h⟩ := lt_e h
    refine WP_region ?_
    refine WL_x rfl (RX_bs0 L_runs_Run) (fun b5 _ => ?_)
    refine WL_v rfl (VS_move rfl) ?_
    refine WL_x rfl (RX_apps (sz := 2) (L := L_runs_Run) (xs := ([] : List runs_Run)) (ys := a0) (bytes := 16) f0 rfl rfl rfl (apok_e hg23).1 (apok_e hg23).2) (fun v25 hs26 => ?_)
    rw [← hx24] at hs26; rw [← hx24]
    refine WL_v rfl (VS_assign rfl) ?_
    refine WL_nil ?_
    refine WQ_then ?_
    refine WP_ret ?_
    replace h := Option.some.inj h
    subst h
    refine WQ_bundle (R := [Row v25 57 2 L_runs_Run x24]) (H' := []) (ks := [0]) rfl (by decide) ?_
    have p27 : Fz (fun w => K w ∧ (Hs [.ext (blks [Row v25 57 2 L_runs_Run x24]) (Hs [Row v25 57 2 L_runs_Run x24])]) w) v25 L_runs_Run x24 := (Fz.row (e := 57) (sz := 2) (L := L_runs_Run) (xs := x24) rfl hs26).mono ent
    exact WQ_ret (v25, blks [Row v25 57 2 L_runs_Run x24], Hs [Row v25 57 2 L_runs_Run x24]) rfl (.tmp rfl .nil) p27 rfl (ks := [0]) rfl (by decide)
def runs_Runs_All (n : Nat) (a0 : runs_Runs) : Option (List runs_Run) :=
  bd (slices_Clone_9402 n a0.l) fun x23 =>
  some x23
theorem c_runs_Runs_All {n : Nat} {a0 : runs_Runs} {r : (List runs_Run)} {K : World → Prop} [Stable K] {cs0 : List Value} (f0 : (L_runs_Runs).rep K cs0 a0) (h : runs_Runs_All n a0 = some r) : FnB Try.prog 30 [.agg cs0.toArray] K (fun J v => Fz (fun w => K w ∧ J w) v L_runs_Run r) := by
  unfold runs_Runs_All at h
  refine fn_of Try.func30 (by kernel_rfl) rfl Try.ntmps30 rfl (fun cx hbs hpre hro => ?_)
  haveI := knf_pre hbs hpre
  refine WP_seq ?_
  refine WP_region ?_
  refine WL_x rfl (RX_boxa rfl) (fun b1 _ => ?_)
  refine WL_v rfl (VS_assign rfl) ?_
  refine WL_nil ?_
  refine WQ_then ?_
  refine WP_seq ?_
  obtain ⟨x23, hx23, h⟩ := bd_e h
  refine WP_region ?_
  refine WL_v rfl (VS_field0 rfl) ?_
  obtain ⟨v21, hv21, f22⟩ := P_runs_Runs_l.sl f0
  refine WL_v rfl (VS_load rfl hv21) ?_
  refine WL_x rfl (RX_callB (c_slices_Clone_9402 (K := K) (f22.mono ent) hx23) rfl) (fun ⟨w24, bs25, J26⟩ hp27 => ?_)
  have f28 : Fz (fun w => K w ∧ Hs [.ext bs25 J26] w) w24 L_runs_Run x23 := hp27
  refine WL_v rfl (VS_assign rfl) ?_
  refine WL_nil ?_
  refine WQ_then ?_
  refine WP_ret ?_
  replace h := Option.some.inj h
  subst h
  refine WQ_bundle (R := [.ext bs25 J26]) (H' := []) (ks := [0]) rfl (by decide) ?_
  have p30 : Fz (fun w => K w ∧ (Hs [.ext (blks [.ext bs25 J26]) (Hs [.ext bs25 J26])]) w) w24 L_runs_Run x23 := f28.mono ent
  exact WQ_ret (w24, blks [.ext bs25 J26], Hs [.ext bs25 J26]) rfl (.tmp rfl .nil) p30 rfl (ks := [0]) rfl (by decide)
def runs_Of (n : Nat) (a0 : Int) : Option runs_Runs :=
  cn (decide ((if 64 < a0 then 64 else a0) < 1)) (
  lt ({ l := [] } : runs_Runs) fun x21 =>
  some x21) (
  lt ({ At := 0, N := (if 64 < a0 then 64 else a0) } : runs_Run) fun x27 =>
  lt ({ l := [x27] } : runs_Runs) fun x28 =>
  some x28)
theorem c_runs_Of {n : Nat} {a0 : Int} {r : runs_Runs}  (h : runs_Of n a0 = some r) : FnB Try.prog 80 [.int .i64 a0] (fun _ => True) (fun J v => ∃ u0, v = (.agg u0.toArray) ∧ (L_runs_Runs).rep J u0 (r)) := by
  unfold runs_Of at h
  refine fn_of Try.func80 (by kernel_rfl) rfl Try.ntmps80 rfl (fun cx hbs hpre hro => ?_)
  refine WP_seq ?_
  refine WP_region ?_
  refine WL_x rfl (RX_alloc (hz := (⟨by kernel_rfl⟩ : TZero Try.prog 46 zc_runs_Runs))) (fun b2 _ => ?_)
  refine WL_nil ?_
  refine WQ_then ?_
  refine WP_seq ?_
  refine WP_region ?_
  refine WL_v rfl (VS_move rfl) ?_
  refine WL_v rfl (VS_min rfl rfl) ?_
  refine WL_v rfl (VS_assign rfl) ?_
  refine WL_nil ?_
  refine WQ_then ?_
  refine WP_seq ?_
  refine WP_seq ?_
  refine WP_region ?_
  refine WL_v rfl (VS_move rfl) ?_
  refine WL_v rfl (VS_lss rfl rfl) ?_
  refine WL_nil ?_
  refine WQ_then ?_
  refine WP_if rfl (fun hc => ?_) (fun hc => ?_)
  ·
    replace h := cn_t hc h
    refine WP_seq ?_
    obtain ⟨x21, hx21, h⟩ := lt_e h
    refine WP_region ?_
    obtain ⟨c22, hc22, f23⟩ : ∃ cc, [.slice none 0 0] = cc ∧ (L_runs_Runs).rep (Hs []) cc x21 := ⟨_, rfl, by rw [hx21]; exact ⟨_, rfl, Fz.nil⟩⟩
    refine WL_v rfl (VS_build (cs := c22) rfl (by rw [← hc22]; rfl)) ?_
    obtain ⟨c24, hc24, f25⟩ : ∃ cc, splice zc_runs_Runs 0 c22 = cc ∧ (L_runs_Runs).rep (Hs []) cc x21 := ⟨_, rfl, (Pth.id (L := L_runs_Runs)).set (Lay.mono _ ent (show (L_runs_Runs).rep (Hs []) zc_runs_Runs Z_runs_Runs from zr_runs_Runs)) (Lay.mono _ ent f23)⟩
    refine WL_x0 (RX_stN c22 (Pth.id (L := L_runs_Runs)) (v := x21) (r := (show (L_runs_Runs).rep (Hs []) zc_runs_Runs Z_runs_Runs from zr_runs_Runs)) (rv := ((Lay.mono _ ent f23) : (L_runs_Runs).rep (Hs []) c22 x21)) rfl rfl rfl rfl hc24) (fun _ _ => ?_)
    refine WL_nil ?_
    refine WQ_then ?_
    refine WP_ret ?_
    refine WQ_then_ret ?_
    replace h := Option.some.inj h
    subst h
    refine WQ_bundle (R := []) (H' := [.cells b2 46 c24]) (ks := [0]) rfl (by decide) ?_
    have p26 : (L_runs_Runs).rep (Hs [.ext (blks []) (Hs [])]) c24 x21 := Lay.mono _ ent f25
    exact WQ_ret (.agg c24.toArray, blks [], Hs []) rfl (.agg rfl inferInstance inferInstance (Lay.len _ f25) .nil) ⟨_, rfl, p26⟩ rfl (ks := [0]) rfl (by decide)
  ·
    replace h := cn_f hc h
    refine WP_skip ?_
    refine WQ_then ?_
    refine WP_seq ?_
    obtain ⟨x27, hx27, h⟩ := lt_e h
    obtain ⟨x28, hx28, h⟩ := lt_e h
    refine WP_region ?_
    refine WL_v rfl (VS_move rfl) ?_
    refine WL_v rfl (VS_build (cs := L_runs_Run.enc x27) rfl (by rw [hx27]; rfl)) ?_
    refine WL_x rfl (RX_bs1 L_runs_Run x27 rfl rfl rfl rfl (by decide) (by decide)) (fun b11 _ => ?_)
    obtain ⟨c29, hc29, f30⟩ : ∃ cc, [.slice (some ⟨b11, 0, none⟩) 1 1] = cc ∧ (L_runs_Runs).rep (Hs [.cells b11 57 (L_runs_Run.enc x27)]) cc x28 := ⟨_, rfl, by rw [hx28]; exact ⟨_, rfl, (Fz.cell1 (T := 57) (L := L_runs_Run) x27).mono ent⟩⟩
    refine WL_v rfl (VS_build (cs := c29) rfl (by rw [← hc29]; first | rfl | (simp [fillL, splice, show ∀ k i, (Value.int k i).cells = #[Value.int k i] from fun _ _ => rfl, show ∀ q, (Value.bool q).cells = #[Value.bool q] from fun _ => rfl, show ∀ a, (Value.agg a).cells = a from fun _ => rfl, (Fz.cell1 (T := 57) (L := L_runs_Run) x27).sl.cells, (Fz.cell1 (T := 57) (L := L_runs_Run) x27).sl.size]; try rfl))) ?_
    obtain ⟨c31, hc31, f32⟩ : ∃ cc, splice zc_runs_Runs 0 c29 = cc ∧ (L_runs_Runs).rep (Hs [.cells b11 57 (L_runs_Run.enc x27)]) cc x28 := ⟨_, rfl, (Pth.id (L := L_runs_Runs)).set (Lay.mono _ ent (show (L_runs_Runs).rep (Hs []) zc_runs_Runs Z_runs_Runs from zr_runs_Runs)) (Lay.mono _ ent f30)⟩
    refine WL_x0 (RX_stN c29 (Pth.id (L := L_runs_Runs)) (v := x28) (r := (show (L_runs_Runs).rep (Hs []) zc_runs_Runs Z_runs_Runs from zr_runs_Runs)) (rv := ((Lay.mono _ ent f30) : (L_runs_Runs).rep (Hs [.cells b11 57 (L_runs_Run.enc x27)]) c29 x28)) rfl rfl rfl rfl hc31) (fun _ _ => ?_)
    refine WL_nil ?_
    refine WQ_then ?_
    refine WP_ret ?_
    replace h := Option.some.inj h
    subst h
    refine WQ_bundle (R := [.cells b11 57 (L_runs_Run.enc x27)]) (H' := [.cells b2 46 c31]) (ks := [0, 1]) rfl (by decide) ?_
    have p33 : (L_runs_Runs).rep (Hs [.ext (blks [.cells b11 57 (L_runs_Run.enc x27)]) (Hs [.cells b11 57 (L_runs_Run.enc x27)])]) c31 x28 := Lay.mono _ ent f32
    exact WQ_ret (.agg c31.toArray, blks [.cells b11 57 (L_runs_Run.enc x27)], Hs [.cells b11 57 (L_runs_Run.enc x27)]) rfl (.agg rfl inferInstance inferInstance (Lay.len _ f32) .nil) ⟨_, rfl, p33⟩ rfl (ks := [0]) rfl (by decide)
def ref01_Of (n : Nat) (a0 : Int) : Option (Nat → Bool) :=
  loop2 (fun k28 (x24 : Int) (x25 : (Nat → Bool)) =>
  cn (decide (x24 < 64)) (
  gu (inb x24 64) <|
  lt ((upd x25 (Int.toNat x24) (decide (x24 < a0))) : (Nat → Bool)) fun x30 =>
  k28 (wr .i64 (x24 + 1)) x30) (
  some x25)) n 0 (fun _ => false)
theorem c_ref01_Of {n : Nat} {a0 : Int} {r : (Nat → Bool)}  (h : ref01_Of n a0 = some r) : FnV Try.prog 81 [.int .i64 a0] (.agg ((LA LB 64).enc r).toArray) := by
  unfold ref01_Of at h
  refine fn_of Try.func81 (by kernel_rfl) rfl Try.ntmps81 rfl (fun cx hbs hpre hro => ?_)
  refine WP_seq ?_
  refine WP_region ?_
  refine WL_x rfl (RX_allocL (L := (LA LB 64)) (z := (fun _ => false)) ⟨by kernel_rfl⟩) (fun b2 _ => ?_)
  refine WL_nil ?_
  refine WQ_then ?_
  refine WP_seq ?_
  refine WP_region ?_
  refine WL_x rfl (RX_allocL (L := (LA LB 64)) (z := (fun _ => false)) ⟨by kernel_rfl⟩) (fun b3 _ => ?_)
  refine WL_nil ?_
  refine WQ_then ?_
  refine WP_seq ?_
  refine WP_seq ?_
  refine WP_region ?_
  refine WL_v rfl (VS_assign rfl) ?_
  refine WL_nil ?_
  refine WQ_then ?_
  refine WP_block ?_
  obtain ⟨lb26, hlb26, h⟩ := lp2_i h
  refine WP_loops (α := Nat × Int × (Nat → Bool)) [0, 2, 3] (.cons rfl (.cons rfl (.cons rfl (.nil)))) (fun (m27, x24, x25) => [(4, .int .i64 x24)]) (fun (m27, x24, x25) => [.cells b3 38 ((LA LB 64).enc x25), .cells b2 38 ((LA LB 64).enc (fun _ => false))]) (fun (m27, x24, x25) => loop2 lb26 m27 x24 x25 = some r) (fun (m27, x24, x25) => m27) (n, 0, (fun _ => false)) h (Sub_cons rfl (Sub_nil)) (ks := [0, 1]) rfl (by decide) ?_
  rintro ⟨m27, x24, x25⟩ h
  replace h : loop2 lb26 m27 x24 x25 = some r := h
  replace h := lp2_s hlb26 h
  obtain ⟨m27, rfl, h⟩ := h
  refine WP_seq ?_
  refine WP_seq ?_
  refine WP_region ?_
  refine WL_v rfl (VS_move rfl) ?_
  refine WL_v rfl (VS_lss rfl rfl) ?_
  refine WL_nil ?_
  refine WQ_then ?_
  refine WP_if rfl (fun hc => ?_) (fun hc => ?_)
  ·
    replace h := cn_t hc h
    refine WP_skip ?_
    refine WQ_then ?_
    refine WP_seq ?_
    refine WP_block ?_
    obtain ⟨hg29, h⟩ := gu_e h
    obtain ⟨x30, hx30, h⟩ := lt_e h
    refine WP_region ?_
    refine WL_v rfl (VS_move rfl) ?_
    refine WL_v rfl (VS_move rfl) ?_
    refine WL_v rfl (VS_move rfl) ?_
    refine WL_v rfl (VS_lss rfl rfl) ?_
    refine WL_v rfl (VS_index0 (m := (Int.toNat x24)) rfl rfl (inb_e hg29).1 (inb_e hg29).2) ?_
    refine WL_x0 (RX_st (M := LB) (Pth.idx (L := LB) (m := 64) (k := 1) ((Int.toNat x24)) (inb_e hg29).2 rfl) (decide (x24 < a0)) x30 hx30 rfl rfl rfl rfl) (fun _ _ => ?_)
    refine WL_nil ?_
    refine WQ_block ?_
    refine WQ_then ?_
    refine WP_region ?_
    refine WL_v rfl (VS_move rfl) ?_
    refine WL_v rfl (VS_add rfl rfl rfl) ?_
    refine WL_v rfl (VS_assign rfl) ?_
    refine WL_nil ?_
    exact WQ_loops (m27, wr .i64 (x24 + 1), x30) (Nat.lt_succ_self _) h (Sub_cons rfl (Sub_nil)) (.cons rfl (.cons rfl (.cons rfl (.nil)))) (ks := [0, 1]) rfl (by decide)
  ·
    replace h := cn_f hc h
    refine WP_exit ?_
    refine WQ_then_exit ?_
    refine WQ_then_exit ?_
    refine WQ_block_exit ?_
    refine WQ_then ?_
    refine WP_seq ?_
    refine WP_region ?_
    refine WL_v rfl (VS_lda (M := (LA LB 64)) (Pth.id (L := (LA LB 64))) rfl rfl) ?_
    refine WL_x0 (RX_st (M := (LA LB 64)) (Pth.id (L := (LA LB 64))) x25 x25 rfl rfl rfl rfl rfl) (fun _ _ => ?_)
    refine WL_nil ?_
    refine WQ_then ?_
    refine WP_ret ?_
    replace h := Option.some.inj h
    subst h
    exact WQ_ret () rfl (.agg rfl inferInstance inferInstance (enc_len _ _) .nil) trivial rfl (ks := []) rfl (by decide)
def runs_Runs_Find (n : Nat) (a0 : runs_Runs) (a1 : Int) : Option (Int × Bool) :=
  bd (runs_Runs_each n a0) fun x21 =>
  bd (slices_All_9402_1 n x21) fun x25 =>
  itr1 (fun (e36 : Int × runs_Run) k28 (u27 : Unit) =>
  lt (e36.1 : Int) fun x34 =>
  lt (e36.2 : runs_Run) fun x35 =>
  cn ((decide (1 ≤ a1) && decide (a1 ≤ x35.N))) (
  some (x35.At, true)) (
  k28 ())) (fun (u27 : Unit) =>
  some (0, false)) x25 ()
theorem c_runs_Runs_Find {n : Nat} {a0 : runs_Runs} {a1 : Int} {r : Int × Bool} {K : World → Prop} [Stable K] {cs0 : List Value} (f0 : (L_runs_Runs).rep K cs0 a0) (h : runs_Runs_Find n a0 a1 = some r) : FnW Try.prog 82 [.agg cs0.toArray, .int .i64 a1] K (.tuple #[.int .i64 r.1, .bool r.2]) := by
  unfold runs_Runs_Find at h
  refine fn_of Try.func82 (by kernel_rfl) rfl Try.ntmps82 rfl (fun cx hbs hpre hro => ?_)
  haveI := knf_pre hbs hpre
  refine WP_seq ?_
  refine WP_region ?_
  refine WL_x rfl (RX_boxa rfl) (fun b2 _ => ?_)
  refine WL_x rfl (RX_boxL (LI .i64) a1 rfl rfl) (fun b3 _ => ?_)
  refine WL_x rfl (RX_allocL (L := (LI .i64)) (z := 0) ⟨by kernel_rfl⟩) (fun b4 _ => ?_)
  refine WL_x rfl (RX_allocL (L := LB) (z := false) ⟨by kernel_rfl⟩) (fun b5 _ => ?_)
  refine WL_nil ?_
  refine WQ_then ?_
  refine WP_seq ?_
  refine WP_seq ?_
  obtain ⟨x21, hx21, h⟩ := bd_e h
  refine WP_region ?_
  refine WL_v rfl (VS_loadall rfl (Lay.len _ f0)) ?_
  refine WL_x rfl (RX_call (c_runs_Runs_each (K := K) (Lay.mono _ ent f0) hx21) rfl kn) (fun ⟨b22, c23⟩ f24 => ?_)
  replace f24 : ((LSl L_runs_Run)).rep K c23 x21 := f24
  dsimp only [List.cons_append, List.nil_append]
  refine WL_nil ?_
  refine WQ_then ?_
  refine WP_block ?_
  obtain ⟨x25, hx25, h⟩ := bd_e h
  obtain ⟨ib30, hib30, fi31, hfi31, h⟩ := it1_i h
  refine WP_rangeK (K := K) (α := Unit) (β := Bool × Int) hro rfl (it_slices_All_9402_1 (K := K) (Lay.mono _ ent f24) hx25) (fun _ => rfl) rfl (fun kk29 => fun u27 => itr1 ib30 fi31 (x25.drop kk29) u27 = some r) (fun kk29 => fun u27 => [.cells b5 4 (LB.enc false), .cells b4 3 ((LI .i64).enc 0), .cells b3 3 ((LI .i64).enc a1), .cells b2 46 cs0]) (fun j => fun (x32, x33) => j = Code.ret ∧ some (x33, x32) = some r) (fun (x32, x33) => [.cells b5 4 (LB.enc x32), .cells b4 3 ((LI .i64).enc x33), .cells b3 3 ((LI .i64).enc a1), .cells b2 46 cs0]) () h (ks := [0, 1, 2, 3, 4]) rfl (by decide) ?_ ?_ ?_
  ·
    rintro kk29 u27 lo dd rec c' hk h hrs hrp hro' hsi hT
    replace h : itr1 ib30 fi31 (x25.drop kk29) u27 = some r := h
    replace h := it1_s hib30 hk h
    haveI := knf_in (K := K) hsi
    dsimp only [parF]
    obtain ⟨x34, hx34, h⟩ := lt_e h
    rw [← hx34]
    obtain ⟨x35, hx35, h⟩ := lt_e h
    rw [← hx35]
    refine WP_region ?_
    refine WL_x rfl (RX_allocL (L := L_runs_Run) (z := Z_runs_Run) ⟨by kernel_rfl⟩) (fun b7 _ => ?_)
    refine WL_x0 (RX_st (M := L_runs_Run) (Pth.id (L := L_runs_Run)) x35 x35 rfl rfl rfl rfl rfl) (fun _ _ => ?_)
    refine WL_nil ?_
    refine WQ_begin hrs hro' ?_
    refine WP_block ?_
    refine WP_seq ?_
    refine WP_region ?_
    refine WL_v rfl (VS_ldi (Pth.id (L := (LI .i64))) rfl) ?_
    refine WL_v rfl (VS_geq rfl rfl) ?_
    refine WL_v rfl (VS_move rfl) ?_
    refine WL_g (Gd_b rfl rfl) rfl (fun hb => VS_field0 rfl) ?_
    refine WL_g (Gd_b rfl rfl) rfl (fun hb => VS_ldi P_runs_Run_N (gev rfl hb)) ?_
    refine WL_g (Gd_b rfl rfl) rfl (fun hb => VS_ldi (Pth.id (L := (LI .i64))) rfl) ?_
    refine WL_g (Gd_b rfl rfl) rfl (fun hb => VS_geq (gev rfl hb) (gev rfl hb)) ?_
    refine WL_v rfl (VS_and rfl rfl) ?_
    refine WL_nil ?_
    refine WQ_then ?_
    refine WP_if rfl (fun hc => ?_) (fun hc => ?_)
    ·
      replace h := cn_t hc h
      refine WP_seq ?_
      refine WP_region ?_
      refine WL_v rfl (VS_field0 rfl) ?_
      refine WL_v rfl (VS_ldi P_runs_Run_At rfl) ?_
      refine WL_x0 (RX_st (M := (LI .i64)) (Pth.id (L := (LI .i64))) x35.At x35.At rfl rfl rfl rfl rfl) (fun _ _ => ?_)
      refine WL_x0 (RX_st (M := LB) (Pth.id (L := LB)) true true rfl rfl rfl rfl rfl) (fun _ _ => ?_)
      refine WL_nil ?_
      refine WQ_then ?_
      refine WP_ret ?_
      refine WQ_block_ret ?_
      exact WQ_stop hT (.inl ⟨rfl, rfl⟩) ⟨Code.ret, true, x35.At⟩ ⟨rfl, h⟩ (ks := [1, 2, 3, 4, 5, 6]) rfl (by decide)
    ·
      replace h := cn_f hc h
      refine WP_skip ?_
      refine WQ_block ?_
      exact WQ_next hrs hrp hT () h (ks := [1, 2, 3, 4, 5, 6]) rfl (by decide)
  ·
    rintro dd37 u27 h
    replace h : itr1 ib30 fi31 (x25.drop x25.length) u27 = some r := h
    replace h := it1_n hfi31 rfl h
    dsimp only [List.cons_append, List.nil_append]
    refine WQ_block ?_
    refine WQ_then ?_
    refine WP_seq ?_
    refine WP_region ?_
    refine WL_x0 (RX_st (M := (LI .i64)) (Pth.id (L := (LI .i64))) 0 0 rfl rfl rfl rfl rfl) (fun _ _ => ?_)
    refine WL_x0 (RX_st (M := LB) (Pth.id (L := LB)) false false rfl rfl rfl rfl rfl) (fun _ _ => ?_)
    refine WL_nil ?_
    refine WQ_then ?_
    refine WP_ret ?_
    replace h := Option.some.inj h
    subst h
    exact WQ_retm () rfl (.one rfl inferInstance inferInstance rfl (.one rfl inferInstance inferInstance rfl .nil)) trivial rfl (ks := []) rfl (by decide)
  ·
    rintro dd37 j ⟨x32, x33⟩ ⟨rfl, h⟩
    dsimp only [List.cons_append, List.nil_append]
    refine WP_ret ?_
    refine WQ_block_ret ?_
    refine WQ_then_ret ?_
    replace h := Option.some.inj h
    subst h
    exact WQ_retm () rfl (.one rfl inferInstance inferInstance rfl (.one rfl inferInstance inferInstance rfl .nil)) trivial rfl (ks := []) rfl (by decide)
def slices_Grow_9402__nil0 (n : Nat) (a1 : Int) : Option Unit :=
  lt (fun (u21 : Unit) =>
  cn (decide (0 < (wr .i64 (a1 - 0)))) (
  gu (growok (wr .i64 (a1 - 0)) 16) <|
  some ()) (
  some ())) fun j22 =>
  cn (decide (a1 < 0)) (
  none) (
  j22 ())
theorem c_slices_Grow_9402__nil0 {n : Nat} {a1 : Int} {r : Unit} (h : slices_Grow_9402__nil0 n a1 = some r) : Bw.Fn (α := Value) Try.prog 164 [.slice none 0 0, .int .i64 a1] (fun _ => True) [] (fun v => SlN v 0) (fun v => v) (fun v => [Row v 57 2 L_runs_Run []]) := by
  unfold slices_Grow_9402__nil0 at h
  refine fn_of Try.func164 (by kernel_rfl) rfl Try.ntmps164 rfl (fun cx hbs hpre hro => ?_)
  refine WP_seq ?_
  refine WP_region ?_
  refine WL_v rfl (VS_assign rfl) ?_
  refine WL_nil ?_
  refine WQ_then ?_
  obtain ⟨j22, hj22, h⟩ := lt_e h
  refine WP_cuts (α := Unit) [0, 1] (.cons rfl (.cons rfl (.nil))) (fun u21 => []) (fun u21 => []) (fun u21 => j22 u21 = some r) ?_ ?_
  ·
    refine WP_seq ?_
    refine WP_region ?_
    refine WL_v rfl (VS_move rfl) ?_
    refine WL_v rfl (VS_lss rfl rfl) ?_
    refine WL_nil ?_
    refine WQ_then ?_
    refine WP_if rfl (fun hc => ?_) (fun hc => ?_)
    ·
      replace h := cn_t hc h
      cases h
    ·
      replace h := cn_f hc h
      refine WP_skip ?_
      exact WQ_cuts (()) h (Sub_nil) (.cons rfl (.cons rfl (.nil))) (ks := []) rfl (by decide)
  ·
    rintro u21 h
    replace h : j22 u21 = some r := h
    replace h := jn1_u hj22 h
    refine WP_seq ?_
    refine WP_seq ?_
    refine WP_region ?_
    refine WL_v rfl (VS_move rfl) ?_
    refine WL_v rfl (VS_move rfl) ?_
    refine WL_v rfl (VS_cap0 rfl) ?_
    refine WL_v rfl (VS_move rfl) ?_
    refine WL_v rfl (VS_lenF (Fz.nil (A := Hs []) (L := LB)) rfl) ?_
    refine WL_v rfl (VS_val (VS_sub rfl rfl rfl) rfl) ?_
    refine WL_v rfl (VS_sub rfl rfl rfl) ?_
    refine WL_v rfl (VS_assign rfl) ?_
    refine WL_nil ?_
    refine WQ_then ?_
    refine WP_seq ?_
    refine WP_region ?_
    refine WL_v rfl (VS_move rfl) ?_
    refine WL_v rfl (VS_gtr rfl rfl) ?_
    refine WL_nil ?_
    refine WQ_then ?_
    refine WP_if rfl (fun hc => ?_) (fun hc => ?_)
    ·
      replace h := cn_t hc h
      obtain ⟨hg23, h⟩ := gu_e h
      refine WP_region ?_
      refine WL_v rfl (VS_move rfl) ?_
      refine WL_v rfl (VS_move rfl) ?_
      refine WL_v rfl (VS_cap0 rfl) ?_
      refine WL_v rfl (VS_cutnil rfl rfl) ?_
      refine WL_v rfl (VS_move rfl) ?_
      refine WL_x rfl (RX_appZ (q := .i64) (bytes := 16) L_runs_Run (by kernel_rfl) rfl rfl hg23) (fun ⟨b24, cp25⟩ _ => ?_)
      refine WL_v rfl (VS_move rfl) ?_
      refine WL_v rfl (VS_lenF (Fz.nil (A := Hs []) (L := LB)) rfl) ?_
      refine WL_v rfl (VS_cut00 rfl rfl) ?_
      refine WL_v rfl (VS_assign rfl) ?_
      refine WL_nil ?_
      refine WQ_then ?_
      refine WP_seq ?_
      refine WP_region ?_
      refine WL_v rfl (VS_move rfl) ?_
      refine WL_v rfl (VS_assign rfl) ?_
      refine WL_nil ?_
      refine WQ_then ?_
      refine WP_ret ?_
      replace h := Option.some.inj h
      subst h
      exact WQ_ret (.slice (some ⟨b24, 0, none⟩) 0 cp25) rfl (.tmp rfl .nil) ⟨_, _, rfl⟩ rfl (ks := [0]) rfl (by decide)
    ·
      replace h := cn_f hc h
      refine WP_skip ?_
      refine WQ_then ?_
      refine WP_seq ?_
      refine WP_region ?_
      refine WL_v rfl (VS_move rfl) ?_
      refine WL_v rfl (VS_assign rfl) ?_
      refine WL_nil ?_
      refine WQ_then ?_
      refine WP_ret ?_
      refine WQ_rowN 57 2 L_runs_Run ?_
      replace h := Option.some.inj h
      subst h
      exact WQ_ret (.slice none 0 0) rfl (.tmp rfl .nil) ⟨_, _, rfl⟩ rfl (ks := [0]) rfl (by decide)
def slices_Concat_9402 (n : Nat) (a0 : (List (List runs_Run))) : Option (List runs_Run) :=
  loop2 (fun k27 (x23 : Int) (x24 : Int) =>
  cn (decide (x24 < (a0.length : Int))) (
  gu (inb x24 a0.length) <|
  cn (decide ((wr .i64 (x23 + ((a0.getD (Int.toNat x24) default).length : Int))) < 0)) (
  none) (
  k27 (wr .i64 (x23 + ((a0.getD (Int.toNat x24) default).length : Int))) (wr .i64 (x24 + 1)))) (
  bd (slices_Grow_9402__nil0 n x23) fun x31 =>
  loop2 (fun k45 (x39 : (List runs_Run)) (x42 : Int) =>
  cn (decide (x42 < (a0.length : Int))) (
  gu (inb x42 a0.length) <|
  gu (apok x39.length (a0.getD (Int.toNat x42) default).length 16) <|
  lt (x39 ++ (a0.getD (Int.toNat x42) default) : List runs_Run) fun x50 =>
  k45 x50 (wr .i64 (x42 + 1))) (
  some x39)) n ([] : List runs_Run) 0)) n 0 0
theorem c_slices_Concat_9402 {n : Nat} {a0 : (List (List runs_Run))} {r : (List runs_Run)} {K : World → Prop} [Stable K] {v0 : Value} {ws0 : List Value} (f0 : Fzc K v0 (LSl L_runs_Run) ws0 a0) (h : slices_Concat_9402 n a0 = some r) : FnB Try.prog 146 [v0] K (fun J v => Fz (fun w => K w ∧ J w) v L_runs_Run r) := by
  unfold slices_Concat_9402 at h
  refine fn_of Try.func146 (by kernel_rfl) rfl Try.ntmps146 rfl (fun cx hbs hpre hro => ?_)
  haveI := knf_pre hbs hpre
  refine WP_seq ?_
  refine WP_region ?_
  refine WL_v rfl (VS_assign rfl) ?_
  refine WL_nil ?_
  refine WQ_then ?_
  refine WP_seq ?_
  refine WP_region ?_
  refine WL_v rfl (VS_assign rfl) ?_
  refine WL_nil ?_
  refine WQ_then ?_
  refine WP_seq ?_
  refine WP_seq ?_
  refine WP_region ?_
  refine WL_v rfl (VS_move rfl) ?_
  refine WL_v rfl (VS_lenN f0 rfl) ?_
  refine WL_v rfl (VS_move rfl) ?_
  refine WL_nil ?_
  refine WQ_then ?_
  refine WP_block ?_
  obtain ⟨lb25, hlb25, h⟩ := lp2_i h
  refine WP_loops (α := Nat × Int × Int) [0, 9, 10] (.cons rfl (.cons rfl (.cons rfl (.nil)))) (fun (m26, x23, x24) => [(3, .int .i64 x23), (11, .int .i64 x24)]) (fun (m26, x23, x24) => []) (fun (m26, x23, x24) => loop2 lb25 m26 x23 x24 = some r) (fun (m26, x23, x24) => m26) (n, 0, 0) h (Sub_cons rfl (Sub_cons rfl (Sub_nil))) (ks := []) rfl (by decide) ?_
  rintro ⟨m26, x23, x24⟩ h
  replace h : loop2 lb25 m26 x23 x24 = some r := h
  replace h := lp2_s hlb25 h
  obtain ⟨m26, rfl, h⟩ := h
  refine WP_seq ?_
  refine WP_region ?_
  refine WL_v rfl (VS_lss rfl rfl) ?_
  refine WL_nil ?_
  refine WQ_then ?_
  refine WP_seq ?_
  refine WP_if rfl (fun hc => ?_) (fun hc => ?_)
  ·
    replace h := cn_t hc h
    refine WP_skip ?_
    refine WQ_then ?_
    refine WP_seq ?_
    refine WP_block ?_
    refine WP_seq ?_
    obtain ⟨hg28, h⟩ := gu_e h
    refine WP_region ?_
    refine WL_v rfl (VS_ixN (m := (Int.toNat x24)) f0 rfl rfl rfl (inb_e hg28).1 (inb_e hg28).2) ?_
    obtain ⟨v29, hv29, f30⟩ := (Pth.idx (L := (LSl L_runs_Run)) (m := (a0.length)) (k := 1) ((Int.toNat x24)) (inb_e hg28).2 rfl).sl f0.rep
    refine WL_v rfl (VS_ldvN f0 rfl hv29) ?_
    refine WL_v rfl (VS_assign rfl) ?_
    refine WL_nil ?_
    refine WQ_then ?_
    refine WP_seq ?_
    refine WP_region ?_
    refine WL_v rfl (VS_move rfl) ?_
    refine WL_v rfl (VS_move rfl) ?_
    refine WL_v rfl (VS_lenF f30 rfl) ?_
    refine WL_v rfl (VS_add rfl rfl rfl) ?_
    refine WL_v rfl (VS_assign rfl) ?_
    refine WL_nil ?_
    refine WQ_then ?_
    refine WP_seq ?_
    refine WP_region ?_
    refine WL_v rfl (VS_move rfl) ?_
    refine WL_v rfl (VS_lss rfl rfl) ?_
    refine WL_nil ?_
    refine WQ_then ?_
    refine WP_if rfl (fun hc => ?_) (fun hc => ?_)
    ·
      replace h := cn_t hc h
      cases h
    ·
      replace h := cn_f hc h
      refine WP_skip ?_
      refine WQ_block ?_
      refine WQ_then ?_
      refine WP_region ?_
      refine WL_v rfl (VS_add rfl rfl rfl) ?_
      refine WL_v rfl (VS_move rfl) ?_
      refine WL_nil ?_
      exact WQ_loops (m26, wr .i64 (x23 + ((a0.getD (Int.toNat x24) default).length : Int)), wr .i64 (x24 + 1)) (Nat.lt_succ_self _) h (Sub_cons rfl (Sub_cons rfl (Sub_nil))) (.cons rfl (.cons rfl (.cons rfl (.nil)))) (ks := []) rfl (by decide)
  ·
    replace h := cn_f hc h
    refine WP_exit ?_
    refine WQ_then_exit ?_
    refine WQ_then_exit ?_
    refine WQ_block_exit ?_
    refine WQ_then ?_
    refine WP_seq ?_
    obtain ⟨x31, hx31, h⟩ := bd_e h
    refine WP_region ?_
    refine WL_v rfl (VS_move rfl) ?_
    refine WL_x rfl (RX_call (c_slices_Grow_9402__nil0 hx31) rfl (fun _ _ _ => trivial)) (fun v33 hs34 => ?_)
    dsimp only [List.cons_append, List.nil_append]
    refine WL_v rfl (VS_assign rfl) ?_
    refine WL_nil ?_
    refine WQ_then ?_
    refine WP_seq ?_
    refine WP_seq ?_
    refine WP_region ?_
    refine WL_v rfl (VS_move rfl) ?_
    refine WL_v rfl (VS_lenN f0 rfl) ?_
    refine WL_v rfl (VS_move rfl) ?_
    refine WL_nil ?_
    refine WQ_then ?_
    refine WP_block ?_
    obtain ⟨lb43, hlb43, h⟩ := lp2_i h
    refine WP_loops (α := Nat × (List runs_Run) × Int × Value) [25, 26] (.cons rfl (.cons rfl (.nil))) (fun (m44, x39, x42, v40) => [(6, v40), (27, .int .i64 x42)]) (fun (m44, x39, x42, v40) => [Row v40 57 2 L_runs_Run x39]) (fun (m44, x39, x42, v40) => SlN v40 x39.length ∧ loop2 lb43 m44 x39 x42 = some r) (fun (m44, x39, x42, v40) => m44) (n, ([] : List runs_Run), 0, v33) ⟨hs34, h⟩ (Sub_cons rfl (Sub_cons rfl (Sub_nil))) (ks := [0]) rfl (by decide) ?_
    rintro ⟨m44, x39, x42, v40⟩ ⟨hs41, h⟩
    replace h : loop2 lb43 m44 x39 x42 = some r := h
    replace h := lp2_s hlb43 h
    obtain ⟨m44, rfl, h⟩ := h
    refine WP_seq ?_
    refine WP_region ?_
    refine WL_v rfl (VS_lss rfl rfl) ?_
    refine WL_nil ?_
    refine WQ_then ?_
    refine WP_seq ?_
    refine WP_if rfl (fun hc => ?_) (fun hc => ?_)
    ·
      replace h := cn_t hc h
      refine WP_skip ?_
      refine WQ_then ?_
      refine WP_seq ?_
      refine WP_block ?_
      refine WP_seq ?_
      obtain ⟨hg46, h⟩ := gu_e h
      refine WP_region ?_
      refine WL_v rfl (VS_ixN (m := (Int.toNat x42)) f0 rfl rfl rfl (inb_e hg46).1 (inb_e hg46).2) ?_
      obtain ⟨v47, hv47, f48⟩ := (Pth.idx (L := (LSl L_runs_Run)) (m := (a0.length)) (k := 1) ((Int.toNat x42)) (inb_e hg46).2 rfl).sl f0.rep
      refine WL_v rfl (VS_ldvN f0 rfl hv47) ?_
      refine WL_v rfl (VS_assign rfl) ?_
      refine WL_nil ?_
      refine WQ_then ?_
      obtain ⟨hg49, h⟩ := gu_e h
      obtain ⟨x50, hx50, h⟩ := lt_e h
      refine WP_region ?_
      refine WL_v rfl (VS_move rfl) ?_
      refine WL_v rfl (VS_move rfl) ?_
      refine WL_x rfl (RX_apps (sz := 2) (L := L_runs_Run) (xs := x39) (ys := (a0.getD (Int.toNat x42) default)) (bytes := 16) f48 rfl rfl rfl (apok_e hg49).1 (apok_e hg49).2) (fun v51 hs52 => ?_)
      rw [← hx50] at hs52; rw [← hx50]
      refine WL_v rfl (VS_assign rfl) ?_
      refine WL_nil ?_
      refine WQ_block ?_
      refine WQ_then ?_
      refine WP_region ?_
      refine WL_v rfl (VS_add rfl rfl rfl) ?_
      refine WL_v rfl (VS_move rfl) ?_
      refine WL_nil ?_
      exact WQ_loops (m44, x50, wr .i64 (x42 + 1), v51) (Nat.lt_succ_self _) ⟨hs52, h⟩ (Sub_cons rfl (Sub_cons rfl (Sub_nil))) (.cons rfl (.cons rfl (.nil))) (ks := [0]) rfl (by decide)
    ·
      replace h := cn_f hc h
      refine WP_exit ?_
      refine WQ_then_exit ?_
      refine WQ_then_exit ?_
      refine WQ_block_exit ?_
      refine WQ_then ?_
      refine WP_seq ?_
      refine WP_region ?_
      refine WL_v rfl (VS_move rfl) ?_
      refine WL_v rfl (VS_assign rfl) ?_
      refine WL_nil ?_
      refine WQ_then ?_
      refine WP_ret ?_
      replace h := Option.some.inj h
      subst h
      refine WQ_bundle (R := [Row v40 57 2 L_runs_Run x39]) (H' := []) (ks := [0]) rfl (by decide) ?_
      have p53 : Fz (fun w => K w ∧ (Hs [.ext (blks [Row v40 57 2 L_runs_Run x39]) (Hs [Row v40 57 2 L_runs_Run x39])]) w) v40 L_runs_Run x39 := (Fz.row (e := 57) (sz := 2) (L := L_runs_Run) (xs := x39) rfl hs41).mono ent
      exact WQ_ret (v40, blks [Row v40 57 2 L_runs_Run x39], Hs [Row v40 57 2 L_runs_Run x39]) rfl (.tmp rfl .nil) p53 rfl (ks := [0]) rfl (by decide)
def runs_Runs_Take_1 (n : Nat) (a0 : runs_Run) (a1 : runs_Run) : Option Bool :=
  bd (runs_Run_holds n a0 a1) fun x21 =>
  some x21
theorem c_runs_Runs_Take_1 {n : Nat} {a0 : runs_Run} {a1 : runs_Run} {r : Bool} {q1 : Nat} (h : runs_Runs_Take_1 n a0 a1 = some r) : Bw.Fn (α := Unit) Try.prog 143 [.agg (L_runs_Run.enc a0).toArray, Ptr q1 0] (Fut (blks [.cells q1 57 (L_runs_Run.enc a1)]) (fun _ => True)) [.cells q1 57 (L_runs_Run.enc a1)] (fun _ => True) (fun _ => (.bool r)) (fun _ => [.cells q1 57 (L_runs_Run.enc a1)]) := by
  unfold runs_Runs_Take_1 at h
  refine fn_of Try.func143 (by kernel_rfl) rfl Try.ntmps143 rfl (fun cx hbs hpre hro => ?_)
  refine WP_seq ?_
  refine WP_region ?_
  refine WL_x rfl (RX_boxL L_runs_Run a0 rfl rfl) (fun b2 _ => ?_)
  refine WL_v rfl (VS_assign rfl) ?_
  refine WL_nil ?_
  refine WQ_then ?_
  refine WP_seq ?_
  obtain ⟨x21, hx21, h⟩ := bd_e h
  refine WP_region ?_
  refine WL_v rfl (VS_lda (M := L_runs_Run) (Pth.id (L := L_runs_Run)) rfl rfl) ?_
  refine WL_v rfl (VS_lda (M := L_runs_Run) (Pth.id (L := L_runs_Run)) rfl rfl) ?_
  refine WL_v rfl (VS_call (c_runs_Run_holds hx21) rfl (fun _ _ _ => trivial)) ?_
  refine WL_v rfl (VS_assign rfl) ?_
  refine WL_nil ?_
  refine WQ_then ?_
  refine WP_ret ?_
  replace h := Option.some.inj h
  subst h
  exact WQ_ret () rfl (.tmp rfl .nil) trivial rfl (ks := [1]) rfl (by decide)
def slices_IndexFunc_9402__runs_Runs_Take_1 (n : Nat) (a0 : (List runs_Run)) (a1_0 : runs_Run) : Option Int :=
  loop1 (fun k25 (x22 : Int) =>
  cn (decide (x22 < (a0.length : Int))) (
  gu (inb x22 a0.length) <|
  bd (runs_Runs_Take_1 n (a0.getD (Int.toNat x22) default) a1_0) fun x27 =>
  cn (x27) (
  some x22) (
  k25 (wr .i64 (x22 + 1)))) (
  some (-1))) n 0
theorem c_slices_IndexFunc_9402__runs_Runs_Take_1 {n : Nat} {a0 : (List runs_Run)} {a1_0 : runs_Run} {r : Int} {K : World → Prop} {v0 : Value} (f0 : Fz K v0 L_runs_Run a0) {q1_0 : Nat} (h : slices_IndexFunc_9402__runs_Runs_Take_1 n a0 a1_0 = some r) : Bw.Fn (α := Unit) Try.prog 144 [v0, .func (.func 143) #[] #[Ptr q1_0 0]] (Fut (blks [.cells q1_0 57 (L_runs_Run.enc a1_0)]) K) [.cells q1_0 57 (L_runs_Run.enc a1_0)] (fun _ => True) (fun _ => (.int .i64 r)) (fun _ => [.cells q1_0 57 (L_runs_Run.enc a1_0)]) := by
  unfold slices_IndexFunc_9402__runs_Runs_Take_1 at h
  refine fn_of Try.func144 (by kernel_rfl) rfl Try.ntmps144 rfl (fun cx hbs hpre hro => ?_)
  haveI := knf_fut hbs hpre
  refine WP_seq ?_
  refine WP_region ?_
  refine WL_v rfl (VS_assign rfl) ?_
  refine WL_nil ?_
  refine WQ_then ?_
  refine WP_seq ?_
  refine WP_seq ?_
  refine WP_region ?_
  refine WL_v rfl (VS_move rfl) ?_
  refine WL_v rfl (VS_lenF f0 rfl) ?_
  refine WL_v rfl (VS_move rfl) ?_
  refine WL_nil ?_
  refine WQ_then ?_
  refine WP_block ?_
  obtain ⟨lb23, hlb23, h⟩ := lp1_i h
  refine WP_loops (α := Nat × Int) [0, 1, 7] (.cons rfl (.cons rfl (.cons rfl (.nil)))) (fun (m24, x22) => [(8, .int .i64 x22)]) (fun (m24, x22) => [.cells q1_0 57 (L_runs_Run.enc a1_0)]) (fun (m24, x22) => loop1 lb23 m24 x22 = some r) (fun (m24, x22) => m24) (n, 0) h (Sub_cons rfl (Sub_nil)) (ks := [0]) rfl (by decide) ?_
  rintro ⟨m24, x22⟩ h
  replace h : loop1 lb23 m24 x22 = some r := h
  replace h := lp1_s hlb23 h
  obtain ⟨m24, rfl, h⟩ := h
  refine WP_seq ?_
  refine WP_region ?_
  refine WL_v rfl (VS_lss rfl rfl) ?_
  refine WL_nil ?_
  refine WQ_then ?_
  refine WP_seq ?_
  refine WP_if rfl (fun hc => ?_) (fun hc => ?_)
  ·
    replace h := cn_t hc h
    refine WP_skip ?_
    refine WQ_then ?_
    refine WP_seq ?_
    refine WP_block ?_
    refine WP_seq ?_
    refine WP_region ?_
    refine WL_v rfl (VS_move rfl) ?_
    refine WL_v rfl (VS_assign rfl) ?_
    refine WL_nil ?_
    refine WQ_then ?_
    refine WP_seq ?_
    obtain ⟨hg26, h⟩ := gu_e h
    obtain ⟨x27, hx27, h⟩ := bd_e h
    refine WP_region ?_
    refine WL_v rfl (VS_move rfl) ?_
    refine WL_v rfl (VS_move rfl) ?_
    refine WL_v rfl (VS_move rfl) ?_
    refine WL_v rfl (VS_ixF (m := (Int.toNat x22)) f0 rfl rfl rfl (inb_e hg26).1 (inb_e hg26).2) ?_
    refine WL_v rfl (VS_ldaF (M := L_runs_Run) f0 (Pth.idx (L := L_runs_Run) (m := (a0.length)) (k := 2) ((Int.toNat x22)) (inb_e hg26).2 rfl) rfl rfl (by decide)) ?_
    refine WL_x rfl (RX_callH (K := (fun _ => True)) (Hin := [.cells q1_0 57 (L_runs_Run.enc a1_0)]) (rest := []) (ks := [0]) (c_runs_Runs_Take_1 hx27) rfl rfl rfl rfl (by decide)) (fun _ _ => ?_)
    dsimp only [List.cons_append, List.nil_append]
    refine WL_nil ?_
    refine WQ_then ?_
    refine WP_if rfl (fun hc => ?_) (fun hc => ?_)
    ·
      replace h := cn_t hc h
      refine WP_seq ?_
      refine WP_region ?_
      refine WL_v rfl (VS_move rfl) ?_
      refine WL_v rfl (VS_assign rfl) ?_
      refine WL_nil ?_
      refine WQ_then ?_
      refine WP_ret ?_
      refine WQ_block_ret ?_
      refine WQ_then_ret ?_
      refine WQ_then_ret ?_
      refine WQ_block_ret ?_
      refine WQ_then_ret ?_
      replace h := Option.some.inj h
      subst h
      exact WQ_ret () rfl (.tmp rfl .nil) trivial rfl (ks := [0]) rfl (by decide)
    ·
      replace h := cn_f hc h
      refine WP_skip ?_
      refine WQ_block ?_
      refine WQ_then ?_
      refine WP_region ?_
      refine WL_v rfl (VS_add rfl rfl rfl) ?_
      refine WL_v rfl (VS_move rfl) ?_
      refine WL_nil ?_
      exact WQ_loops (m24, wr .i64 (x22 + 1)) (Nat.lt_succ_self _) h (Sub_cons rfl (Sub_nil)) (.cons rfl (.cons rfl (.cons rfl (.nil)))) (ks := [0]) rfl (by decide)
  ·
    replace h := cn_f hc h
    refine WP_exit ?_
    refine WQ_then_exit ?_
    refine WQ_then_exit ?_
    refine WQ_block_exit ?_
    refine WQ_then ?_
    refine WP_seq ?_
    refine WP_region ?_
    refine WL_v rfl (VS_assign rfl) ?_
    refine WL_nil ?_
    refine WQ_then ?_
    refine WP_ret ?_
    replace h := Option.some.inj h
    subst h
    exact WQ_ret () rfl (.tmp rfl .nil) trivial rfl (ks := [0]) rfl (by decide)
def slices_Concat_9402__lit3 (n : Nat) (a0_0 : (List runs_Run)) (a0_1 : (List runs_Run)) (a0_2 : (List runs_Run)) : Option (List runs_Run) :=
  cn (decide ((wr .i64 (0 + (a0_0.length : Int))) < 0)) (
  none) (
  cn (decide ((wr .i64 ((wr .i64 (0 + (a0_0.length : Int))) + (a0_1.length : Int))) < 0)) (
  none) (
  cn (decide ((wr .i64 ((wr .i64 ((wr .i64 (0 + (a0_0.length : Int))) + (a0_1.length : Int))) + (a0_2.length : Int))) < 0)) (
  none) (
  bd (slices_Grow_9402__nil0 n (wr .i64 ((wr .i64 ((wr .i64 (0 + (a0_0.length : Int))) + (a0_1.length : Int))) + (a0_2.length : Int)))) fun x21 =>
  gu (apok ([] : List runs_Run).length a0_0.length 16) <|
  lt (([] : List runs_Run) ++ a0_0 : List runs_Run) fun x26 =>
  gu (apok x26.length a0_1.length 16) <|
  lt (x26 ++ a0_1 : List runs_Run) fun x30 =>
  gu (apok x30.length a0_2.length 16) <|
  lt (x30 ++ a0_2 : List runs_Run) fun x34 =>
  some x34)))
theorem c_slices_Concat_9402__lit3 {n : Nat} {a0_0 : (List runs_Run)} {a0_1 : (List runs_Run)} {a0_2 : (List runs_Run)} {r : (List runs_Run)} {K : World → Prop} {q0 : Nat} {v0_0 : Value} (f0_0 : Fz K v0_0 L_runs_Run a0_0) {v0_1 : Value} (f0_1 : Fz K v0_1 L_runs_Run a0_1) {v0_2 : Value} (f0_2 : Fz K v0_2 L_runs_Run a0_2) (h : slices_Concat_9402__lit3 n a0_0 a0_1 a0_2 = some r) : FnC Try.prog 146 [.slice (some ⟨q0, 0, none⟩) 3 3] K [.cells q0 44 ([v0_0, v0_1, v0_2])] (fun J v ho => ∃ u0, v = (u0) ∧ ho = [.cells q0 44 ([v0_0, v0_1, v0_2])] ∧ Fz (fun w => K w ∧ J w) u0 L_runs_Run (r)) := by
  unfold slices_Concat_9402__lit3 at h
  refine fn_of Try.func146 (by kernel_rfl) rfl Try.ntmps146 rfl (fun cx hbs hpre hro => ?_)
  haveI := knf_fut hbs hpre
  refine WP_seq ?_
  refine WP_region ?_
  refine WL_v rfl (VS_assign rfl) ?_
  refine WL_nil ?_
  refine WQ_then ?_
  refine WP_seq ?_
  refine WP_region ?_
  refine WL_v rfl (VS_assign rfl) ?_
  refine WL_nil ?_
  refine WQ_then ?_
  refine WP_seq ?_
  refine WP_seq ?_
  refine WP_region ?_
  refine WL_v rfl (VS_move rfl) ?_
  refine WL_v rfl (VS_lenlit rfl) ?_
  refine WL_v rfl (VS_move rfl) ?_
  refine WL_nil ?_
  refine WQ_then ?_
  refine WP_block ?_
  refine WP_rounds 4 ?_
  refine WR_step ?_
  refine WP_seq ?_
  refine WP_region ?_
  refine WL_v rfl (VS_val (VS_lss rfl rfl) rfl) ?_
  refine WL_nil ?_
  refine WQ_then ?_
  refine WP_seq ?_
  refine WP_true rfl ?_
  refine WP_skip ?_
  refine WQ_then ?_
  refine WP_seq ?_
  refine WP_block ?_
  refine WP_seq ?_
  refine WP_region ?_
  refine WL_v rfl (VS_ixlit (m := 0) rfl rfl rfl (by decide)) ?_
  refine WL_v rfl (VS_load rfl rfl) ?_
  refine WL_v rfl (VS_assign rfl) ?_
  refine WL_nil ?_
  refine WQ_then ?_
  refine WP_seq ?_
  refine WP_region ?_
  refine WL_v rfl (VS_move rfl) ?_
  refine WL_v rfl (VS_move rfl) ?_
  refine WL_v rfl (VS_lenF f0_0 rfl) ?_
  refine WL_v rfl (VS_add rfl rfl rfl) ?_
  refine WL_v rfl (VS_assign rfl) ?_
  refine WL_nil ?_
  refine WQ_then ?_
  refine WP_seq ?_
  refine WP_region ?_
  refine WL_v rfl (VS_move rfl) ?_
  refine WL_v rfl (VS_lss rfl rfl) ?_
  refine WL_nil ?_
  refine WQ_then ?_
  refine WP_if rfl (fun hc => ?_) (fun hc => ?_)
  ·
    replace h := cn_t hc h
    cases h
  ·
    replace h := cn_f hc h
    refine WP_skip ?_
    refine WQ_block ?_
    refine WQ_then ?_
    refine WP_region ?_
    refine WL_v rfl (VS_val (VS_add rfl rfl rfl) rfl) ?_
    refine WL_v rfl (VS_move rfl) ?_
    refine WL_nil ?_
    refine WQ_round ?_
    refine WR_step ?_
    refine WP_seq ?_
    refine WP_region ?_
    refine WL_v rfl (VS_val (VS_lss rfl rfl) rfl) ?_
    refine WL_nil ?_
    refine WQ_then ?_
    refine WP_seq ?_
    refine WP_true rfl ?_
    refine WP_skip ?_
    refine WQ_then ?_
    refine WP_seq ?_
    refine WP_block ?_
    refine WP_seq ?_
    refine WP_region ?_
    refine WL_v rfl (VS_ixlit (m := 1) rfl rfl rfl (by decide)) ?_
    refine WL_v rfl (VS_load rfl rfl) ?_
    refine WL_v rfl (VS_assign rfl) ?_
    refine WL_nil ?_
    refine WQ_then ?_
    refine WP_seq ?_
    refine WP_region ?_
    refine WL_v rfl (VS_move rfl) ?_
    refine WL_v rfl (VS_move rfl) ?_
    refine WL_v rfl (VS_lenF f0_1 rfl) ?_
    refine WL_v rfl (VS_add rfl rfl rfl) ?_
    refine WL_v rfl (VS_assign rfl) ?_
    refine WL_nil ?_
    refine WQ_then ?_
    refine WP_seq ?_
    refine WP_region ?_
    refine WL_v rfl (VS_move rfl) ?_
    refine WL_v rfl (VS_lss rfl rfl) ?_
    refine WL_nil ?_
    refine WQ_then ?_
    refine WP_if rfl (fun hc => ?_) (fun hc => ?_)
    ·
      replace h := cn_t hc h
      cases h
    ·
      replace h := cn_f hc h
      refine WP_skip ?_
      refine WQ_block ?_
      refine WQ_then ?_
      refine WP_region ?_
      refine WL_v rfl (VS_val (VS_add rfl rfl rfl) rfl) ?_
      refine WL_v rfl (VS_move rfl) ?_
      refine WL_nil ?_
      refine WQ_round ?_
      refine WR_step ?_
      refine WP_seq ?_
      refine WP_region ?_
      refine WL_v rfl (VS_val (VS_lss rfl rfl) rfl) ?_
      refine WL_nil ?_
      refine WQ_then ?_
      refine WP_seq ?_
      refine WP_true rfl ?_
      refine WP_skip ?_
      refine WQ_then ?_
      refine WP_seq ?_
      refine WP_block ?_
      refine WP_seq ?_
      refine WP_region ?_
      refine WL_v rfl (VS_ixlit (m := 2) rfl rfl rfl (by decide)) ?_
      refine WL_v rfl (VS_load rfl rfl) ?_
      refine WL_v rfl (VS_assign rfl) ?_
      refine WL_nil ?_
      refine WQ_then ?_
      refine WP_seq ?_
      refine WP_region ?_
      refine WL_v rfl (VS_move rfl) ?_
      refine WL_v rfl (VS_move rfl) ?_
      refine WL_v rfl (VS_lenF f0_2 rfl) ?_
      refine WL_v rfl (VS_add rfl rfl rfl) ?_
      refine WL_v rfl (VS_assign rfl) ?_
      refine WL_nil ?_
      refine WQ_then ?_
      refine WP_seq ?_
      refine WP_region ?_
      refine WL_v rfl (VS_move rfl) ?_
      refine WL_v rfl (VS_lss rfl rfl) ?_
      refine WL_nil ?_
      refine WQ_then ?_
      refine WP_if rfl (fun hc => ?_) (fun hc => ?_)
      ·
        replace h := cn_t hc h
        cases h
      ·
        replace h := cn_f hc h
        refine WP_skip ?_
        refine WQ_block ?_
        refine WQ_then ?_
        refine WP_region ?_
        refine WL_v rfl (VS_val (VS_add rfl rfl rfl) rfl) ?_
        refine WL_v rfl (VS_move rfl) ?_
        refine WL_nil ?_
        refine WQ_round ?_
        refine WR_step ?_
        refine WP_seq ?_
        refine WP_region ?_
        refine WL_v rfl (VS_val (VS_lss rfl rfl) rfl) ?_
        refine WL_nil ?_
        refine WQ_then ?_
        refine WP_seq ?_
        refine WP_false rfl ?_
        refine WP_exit ?_
        refine WQ_then_exit ?_
        refine WQ_then_exit ?_
        refine WQ_block_exit ?_
        refine WQ_then ?_
        refine WP_seq ?_
        obtain ⟨x21, hx21, h⟩ := bd_e h
        refine WP_region ?_
        refine WL_v rfl (VS_move rfl) ?_
        refine WL_x rfl (RX_call (c_slices_Grow_9402__nil0 hx21) rfl (fun _ _ _ => trivial)) (fun v23 hs24 => ?_)
        dsimp only [List.cons_append, List.nil_append]
        refine WL_v rfl (VS_assign rfl) ?_
        refine WL_nil ?_
        refine WQ_then ?_
        refine WP_seq ?_
        refine WP_seq ?_
        refine WP_region ?_
        refine WL_v rfl (VS_move rfl) ?_
        refine WL_v rfl (VS_lenlit rfl) ?_
        refine WL_v rfl (VS_move rfl) ?_
        refine WL_nil ?_
        refine WQ_then ?_
        refine WP_block ?_
        refine WP_rounds 4 ?_
        refine WR_step ?_
        refine WP_seq ?_
        refine WP_region ?_
        refine WL_v rfl (VS_val (VS_lss rfl rfl) rfl) ?_
        refine WL_nil ?_
        refine WQ_then ?_
        refine WP_seq ?_
        refine WP_true rfl ?_
        refine WP_skip ?_
        refine WQ_then ?_
        refine WP_seq ?_
        refine WP_block ?_
        refine WP_seq ?_
        refine WP_region ?_
        refine WL_v rfl (VS_ixlit (m := 0) rfl rfl rfl (by decide)) ?_
        refine WL_v rfl (VS_load rfl rfl) ?_
        refine WL_v rfl (VS_assign rfl) ?_
        refine WL_nil ?_
        refine WQ_then ?_
        obtain ⟨hg25, h⟩ := gu_e h
        obtain ⟨x26, hx26, h⟩ := lt_e h
        refine WP_region ?_
        refine WL_v rfl (VS_move rfl) ?_
        refine WL_v rfl (VS_move rfl) ?_
        refine WL_x rfl (RX_apps (sz := 2) (L := L_runs_Run) (xs := ([] : List runs_Run)) (ys := a0_0) (bytes := 16) f0_0 rfl rfl rfl (apok_e hg25).1 (apok_e hg25).2) (fun v27 hs28 => ?_)
        rw [← hx26] at hs28; rw [← hx26]
        refine WL_v rfl (VS_assign rfl) ?_
        refine WL_nil ?_
        refine WQ_block ?_
        refine WQ_then ?_
        refine WP_region ?_
        refine WL_v rfl (VS_val (VS_add rfl rfl rfl) rfl) ?_
        refine WL_v rfl (VS_move rfl) ?_
        refine WL_nil ?_
        refine WQ_round ?_
        refine WR_step ?_
        refine WP_seq ?_
        refine WP_region ?_
        refine WL_v rfl (VS_val (VS_lss rfl rfl) rfl) ?_
        refine WL_nil ?_
        refine WQ_then ?_
        refine WP_seq ?_
        refine WP_true rfl ?_
        refine WP_skip ?_
        refine WQ_then ?_
        refine WP_seq ?_
        refine WP_block ?_
        refine WP_seq ?_
        refine WP_region ?_
        refine WL_v rfl (VS_ixlit (m := 1) rfl rfl rfl (by decide)) ?_
        refine WL_v rfl (VS_load rfl rfl) ?_
        refine WL_v rfl (VS_assign rfl) ?_
        refine WL_nil ?_
        refine WQ_then ?_
        obtain ⟨hg29, h⟩ := gu_e h
        obtain ⟨x30, hx30, h⟩ := lt_e h
        refine WP_region ?_
        refine WL_v rfl (VS_move rfl) ?_
        refine WL_v rfl (VS_move rfl) ?_
        refine WL_x rfl (RX_apps (sz := 2) (L := L_runs_Run) (xs := x26) (ys := a0_1) (bytes := 16) f0_1 rfl rfl rfl (apok_e hg29).1 (apok_e hg29).2) (fun v31 hs32 => ?_)
        rw [← hx30] at hs32; rw [← hx30]
        refine WL_v rfl (VS_assign rfl) ?_
        refine WL_nil ?_
        refine WQ_block ?_
        refine WQ_then ?_
        refine WP_region ?_
        refine WL_v rfl (VS_val (VS_add rfl rfl rfl) rfl) ?_
        refine WL_v rfl (VS_move rfl) ?_
        refine WL_nil ?_
        refine WQ_round ?_
        refine WR_step ?_
        refine WP_seq ?_
        refine WP_region ?_
        refine WL_v rfl (VS_val (VS_lss rfl rfl) rfl) ?_
        refine WL_nil ?_
        refine WQ_then ?_
        refine WP_seq ?_
        refine WP_true rfl ?_
        refine WP_skip ?_
        refine WQ_then ?_
        refine WP_seq ?_
        refine WP_block ?_
        refine WP_seq ?_
        refine WP_region ?_
        refine WL_v rfl (VS_ixlit (m := 2) rfl rfl rfl (by decide)) ?_
        refine WL_v rfl (VS_load rfl rfl) ?_
        refine WL_v rfl (VS_assign rfl) ?_
        refine WL_nil ?_
        refine WQ_then ?_
        obtain ⟨hg33, h⟩ := gu_e h
        obtain ⟨x34, hx34, h⟩ := lt_e h
        refine WP_region ?_
        refine WL_v rfl (VS_move rfl) ?_
        refine WL_v rfl (VS_move rfl) ?_
        refine WL_x rfl (RX_apps (sz := 2) (L := L_runs_Run) (xs := x30) (ys := a0_2) (bytes := 16) f0_2 rfl rfl rfl (apok_e hg33).1 (apok_e hg33).2) (fun v35 hs36 => ?_)
        rw [← hx34] at hs36; rw [← hx34]
        refine WL_v rfl (VS_assign rfl) ?_
        refine WL_nil ?_
        refine WQ_block ?_
        refine WQ_then ?_
        refine WP_region ?_
        refine WL_v rfl (VS_val (VS_add rfl rfl rfl) rfl) ?_
        refine WL_v rfl (VS_move rfl) ?_
        refine WL_nil ?_
        refine WQ_round ?_
        refine WR_step ?_
        refine WP_seq ?_
        refine WP_region ?_
        refine WL_v rfl (VS_val (VS_lss rfl rfl) rfl) ?_
        refine WL_nil ?_
        refine WQ_then ?_
        refine WP_seq ?_
        refine WP_false rfl ?_
        refine WP_exit ?_
        refine WQ_then_exit ?_
        refine WQ_then_exit ?_
        refine WQ_block_exit ?_
        refine WQ_then ?_
        refine WP_seq ?_
        refine WP_region ?_
        refine WL_v rfl (VS_move rfl) ?_
        refine WL_v rfl (VS_assign rfl) ?_
        refine WL_nil ?_
        refine WQ_then ?_
        refine WP_ret ?_
        replace h := Option.some.inj h
        subst h
        refine WQ_bundle (R := [Row v35 57 2 L_runs_Run x34]) (H' := [.cells q0 44 ([v0_0, v0_1, v0_2])]) (ks := [0, 1]) rfl (by decide) ?_
        have p37 : Fz (fun w => K w ∧ (Hs [.ext (blks [Row v35 57 2 L_runs_Run x34]) (Hs [Row v35 57 2 L_runs_Run x34])]) w) v35 L_runs_Run x34 := (Fz.row (e := 57) (sz := 2) (L := L_runs_Run) (xs := x34) rfl hs36).mono ent
        exact WQ_ret (v35, [.cells q0 44 ([v0_0, v0_1, v0_2])], blks [Row v35 57 2 L_runs_Run x34], Hs [Row v35 57 2 L_runs_Run x34]) rfl (.tmp rfl .nil) ⟨_, rfl, rfl, p37⟩ rfl (ks := [0, 1]) rfl (by decide)
def runs_Runs_Take (n : Nat) (a0 : runs_Runs) (a1 : Int) (a2 : Int) : Option (runs_Runs × Bool) :=
  lt ({ At := a1, N := a2 } : runs_Run) fun x21 =>
  bd (runs_Run_may n x21) fun x22 =>
  cn ((!x22)) (
  some (a0, false)) (
  bd (slices_IndexFunc_9402__runs_Runs_Take_1 n a0.l x21) fun x28 =>
  cn (decide (x28 < 0)) (
  some (a0, false)) (
  gu (inb x28 a0.l.length) <|
  lt ((a0.l.getD (Int.toNat x28) default) : runs_Run) fun x35 =>
  lt (fun (x37 : (List runs_Run)) =>
  lt (fun (x48 : (List runs_Run)) =>
  gu (inb x28 (a0.l.length + 1)) <|
  gu (inb (wr .i64 (x28 + 1)) (a0.l.length + 1)) <|
  bd (slices_Concat_9402__lit3 n (a0.l.take (Int.toNat x28)) x48 (a0.l.drop (Int.toNat (wr .i64 (x28 + 1))))) fun x68 =>
  lt ({ l := x68 } : runs_Runs) fun x76 =>
  some (x76, true)) fun j51 =>
  bd (runs_Run_end n x21) fun x52 =>
  bd (runs_Run_end n x35) fun x53 =>
  cn (decide (x52 < x53)) (
  bd (runs_Run_end n x21) fun x54 =>
  bd (runs_Run_end n x35) fun x55 =>
  bd (runs_Run_end n x21) fun x56 =>
  lt ({ At := x54, N := wr .i64 (x55 - x56) } : runs_Run) fun x57 =>
  gu (apok x37.length 1 16) <|
  lt (x37 ++ ([x57]) : List runs_Run) fun x59 =>
  j51 x59) (
  j51 x37)) fun j40 =>
  cn (decide (x35.At < x21.At)) (
  lt ({ At := x35.At, N := wr .i64 (x21.At - x35.At) } : runs_Run) fun x41 =>
  gu (apok ([] : List runs_Run).length 1 16) <|
  lt (([] : List runs_Run) ++ ([x41]) : List runs_Run) fun x44 =>
  j40 x44) (
  j40 ([] : List runs_Run))))
theorem c_runs_Runs_Take {n : Nat} {a0 : runs_Runs} {a1 : Int} {a2 : Int} {r : runs_Runs × Bool} {K : World → Prop} [Stable K] {cs0 : List Value} (f0 : (L_runs_Runs).rep K cs0 a0) (h : runs_Runs_Take n a0 a1 a2 = some r) : FnB Try.prog 83 [.agg cs0.toArray, .int .i64 a1, .int .i64 a2] K (fun J v => ∃ u0, v = (.tuple #[.agg u0.toArray, .bool r.2]) ∧ (L_runs_Runs).rep (fun w => K w ∧ J w) u0 (r.1)) := by
  unfold runs_Runs_Take at h
  refine fn_of Try.func83 (by kernel_rfl) rfl Try.ntmps83 rfl (fun cx hbs hpre hro => ?_)
  haveI := knf_pre hbs hpre
  refine WP_seq ?_
  refine WP_region ?_
  refine WL_x rfl (RX_boxa rfl) (fun b3 _ => ?_)
  refine WL_x rfl (RX_alloc (hz := (⟨by kernel_rfl⟩ : TZero Try.prog 46 zc_runs_Runs))) (fun b6 _ => ?_)
  refine WL_v rfl (VS_assign rfl) ?_
  refine WL_nil ?_
  refine WQ_then ?_
  refine WP_seq ?_
  obtain ⟨x21, hx21, h⟩ := lt_e h
  refine WP_region ?_
  refine WL_v rfl (VS_move rfl) ?_
  refine WL_v rfl (VS_move rfl) ?_
  refine WL_v rfl (VS_build (cs := L_runs_Run.enc x21) rfl (by rw [hx21]; rfl)) ?_
  refine WL_x rfl (RX_allocL (L := L_runs_Run) (z := Z_runs_Run) ⟨by kernel_rfl⟩) (fun b8 _ => ?_)
  refine WL_x0 (RX_st (M := L_runs_Run) (Pth.id (L := L_runs_Run)) x21 x21 rfl rfl rfl rfl rfl) (fun _ _ => ?_)
  refine WL_nil ?_
  refine WQ_then ?_
  refine WP_seq ?_
  refine WP_seq ?_
  obtain ⟨x22, hx22, h⟩ := bd_e h
  refine WP_region ?_
  refine WL_v rfl (VS_lda (M := L_runs_Run) (Pth.id (L := L_runs_Run)) rfl rfl) ?_
  refine WL_v rfl (VS_call (c_runs_Run_may hx22) rfl (fun _ _ _ => trivial)) ?_
  refine WL_v rfl (VS_not rfl) ?_
  refine WL_nil ?_
  refine WQ_then ?_
  refine WP_if rfl (fun hc => ?_) (fun hc => ?_)
  ·
    replace h := cn_t hc h
    refine WP_seq ?_
    refine WP_region ?_
    refine WL_v rfl (VS_loadall rfl (Lay.len _ f0)) ?_
    obtain ⟨c23, hc23, f24⟩ : ∃ cc, splice zc_runs_Runs 0 cs0 = cc ∧ (L_runs_Runs).rep K cc a0 := ⟨_, rfl, (Pth.id (L := L_runs_Runs)).set (Lay.mono _ ent (show (L_runs_Runs).rep (Hs []) zc_runs_Runs Z_runs_Runs from zr_runs_Runs)) (Lay.mono _ ent f0)⟩
    refine WL_x0 (RX_stN cs0 (Pth.id (L := L_runs_Runs)) (v := a0) (r := (show (L_runs_Runs).rep (Hs []) zc_runs_Runs Z_runs_Runs from zr_runs_Runs)) (rv := ((Lay.mono _ ent f0) : (L_runs_Runs).rep K cs0 a0)) rfl rfl rfl rfl hc23) (fun _ _ => ?_)
    refine WL_v rfl (VS_assign rfl) ?_
    refine WL_nil ?_
    refine WQ_then ?_
    refine WP_ret ?_
    refine WQ_then_ret ?_
    replace h := Option.some.inj h
    subst h
    refine WQ_bundle (R := []) (H' := [.cells b6 46 c23]) (ks := [1]) rfl (by decide) ?_
    have p25 : (L_runs_Runs).rep (fun w => K w ∧ (Hs [.ext (blks []) (Hs [])]) w) c23 a0 := Lay.mono _ ent f24
    exact WQ_ret (.tuple #[.agg c23.toArray, .bool false], blks [], Hs []) rfl (.agg rfl inferInstance inferInstance (Lay.len _ f24) (.tmp rfl .nil)) ⟨_, rfl, p25⟩ rfl (ks := [0]) rfl (by decide)
  ·
    replace h := cn_f hc h
    refine WP_skip ?_
    refine WQ_then ?_
    refine WP_seq ?_
    refine WP_region ?_
    refine WL_v rfl (VS_makeFunc rfl) ?_
    refine WL_v rfl (VS_assign rfl) ?_
    refine WL_nil ?_
    refine WQ_then ?_
    refine WP_seq ?_
    obtain ⟨x28, hx28, h⟩ := bd_e h
    refine WP_region ?_
    refine WL_v rfl (VS_field0 rfl) ?_
    obtain ⟨v26, hv26, f27⟩ := P_runs_Runs_l.sl f0
    refine WL_v rfl (VS_load rfl hv26) ?_
    refine WL_v rfl (VS_move rfl) ?_
    refine WL_x rfl (RX_callH (K := K) (Hin := [.cells b8 57 (L_runs_Run.enc x21)]) (rest := [.cells b6 46 zc_runs_Runs, .cells b3 46 cs0]) (ks := [0, 1, 2]) (c_slices_IndexFunc_9402__runs_Runs_Take_1 (K := K) (f27.mono ent) hx28) rfl rfl rfl rfl (by decide)) (fun _ _ => ?_)
    dsimp only [List.cons_append, List.nil_append]
    refine WL_v rfl (VS_assign rfl) ?_
    refine WL_nil ?_
    refine WQ_then ?_
    refine WP_seq ?_
    refine WP_seq ?_
    refine WP_region ?_
    refine WL_v rfl (VS_move rfl) ?_
    refine WL_v rfl (VS_lss rfl rfl) ?_
    refine WL_nil ?_
    refine WQ_then ?_
    refine WP_if rfl (fun hc => ?_) (fun hc => ?_)
    ·
      replace h := cn_t hc h
      refine WP_seq ?_
      refine WP_region ?_
      refine WL_v rfl (VS_loadall rfl (Lay.len _ f0)) ?_
      obtain ⟨c29, hc29, f30⟩ : ∃ cc, splice zc_runs_Runs 0 cs0 = cc ∧ (L_runs_Runs).rep K cc a0 := ⟨_, rfl, (Pth.id (L := L_runs_Runs)).set (Lay.mono _ ent (show (L_runs_Runs).rep (Hs []) zc_runs_Runs Z_runs_Runs from zr_runs_Runs)) (Lay.mono _ ent f0)⟩
      refine WL_x0 (RX_stN cs0 (Pth.id (L := L_runs_Runs)) (v := a0) (r := (show (L_runs_Runs).rep (Hs []) zc_runs_Runs Z_runs_Runs from zr_runs_Runs)) (rv := ((Lay.mono _ ent f0) : (L_runs_Runs).rep K cs0 a0)) rfl rfl rfl rfl hc29) (fun _ _ => ?_)
      refine WL_v rfl (VS_assign rfl) ?_
      refine WL_nil ?_
      refine WQ_then ?_
      refine WP_ret ?_
      refine WQ_then_ret ?_
      replace h := Option.some.inj h
      subst h
      refine WQ_bundle (R := []) (H' := [.cells b6 46 c29]) (ks := [1]) rfl (by decide) ?_
      have p31 : (L_runs_Runs).rep (fun w => K w ∧ (Hs [.ext (blks []) (Hs [])]) w) c29 a0 := Lay.mono _ ent f30
      exact WQ_ret (.tuple #[.agg c29.toArray, .bool false], blks [], Hs []) rfl (.agg rfl inferInstance inferInstance (Lay.len _ f30) (.tmp rfl .nil)) ⟨_, rfl, p31⟩ rfl (ks := [0]) rfl (by decide)
    ·
      replace h := cn_f hc h
      refine WP_skip ?_
      refine WQ_then ?_
      refine WP_seq ?_
      obtain ⟨hg34, h⟩ := gu_e h
      obtain ⟨x35, hx35, h⟩ := lt_e h
      refine WP_region ?_
      refine WL_v rfl (VS_field0 rfl) ?_
      obtain ⟨v32, hv32, f33⟩ := P_runs_Runs_l.sl f0
      refine WL_v rfl (VS_load rfl hv32) ?_
      refine WL_v rfl (VS_move rfl) ?_
      refine WL_v rfl (VS_ixF (m := (Int.toNat x28)) f33 rfl rfl rfl (inb_e hg34).1 (inb_e hg34).2) ?_
      refine WL_v rfl (VS_ldaF (M := L_runs_Run) f33 (Pth.idx (L := L_runs_Run) (m := (a0.l.length)) (k := 2) ((Int.toNat x28)) (inb_e hg34).2 rfl) rfl rfl (by decide)) ?_
      refine WL_x rfl (RX_allocL (L := L_runs_Run) (z := Z_runs_Run) ⟨by kernel_rfl⟩) (fun b11 _ => ?_)
      refine WL_x0 (RX_st (M := L_runs_Run) (Pth.id (L := L_runs_Run)) (a0.l.getD (Int.toNat x28) default) x35 hx35 rfl rfl rfl rfl) (fun _ _ => ?_)
      refine WL_nil ?_
      refine WQ_then ?_
      refine WP_seq ?_
      refine WP_region ?_
      refine WL_v rfl (VS_assign rfl) ?_
      refine WL_nil ?_
      refine WQ_then ?_
      obtain ⟨j40, hj40, h⟩ := lt_e h
      refine WP_cuts (α := (List runs_Run) × Value) [3, 6, 8, 10, 11] (.cons rfl (.cons rfl (.cons rfl (.cons rfl (.cons rfl (.nil)))))) (fun (x37, v38) => [(12, v38)]) (fun (x37, v38) => [Row v38 57 2 L_runs_Run x37, .cells b11 57 (L_runs_Run.enc x35), .cells b8 57 (L_runs_Run.enc x21), .cells b6 46 zc_runs_Runs, .cells b3 46 cs0]) (fun (x37, v38) => SlN v38 x37.length ∧ j40 x37 = some r) ?_ ?_
      ·
        refine WP_seq ?_
        refine WP_region ?_
        refine WL_v rfl (VS_field0 rfl) ?_
        refine WL_v rfl (VS_ldi P_runs_Run_At rfl) ?_
        refine WL_v rfl (VS_field0 rfl) ?_
        refine WL_v rfl (VS_ldi P_runs_Run_At rfl) ?_
        refine WL_v rfl (VS_gtr rfl rfl) ?_
        refine WL_nil ?_
        refine WQ_then ?_
        refine WP_if rfl (fun hc => ?_) (fun hc => ?_)
        ·
          replace h := cn_t hc h
          obtain ⟨x41, hx41, h⟩ := lt_e h
          obtain ⟨hg43, h⟩ := gu_e h
          obtain ⟨x44, hx44, h⟩ := lt_e h
          refine WP_region ?_
          refine WL_v rfl (VS_move rfl) ?_
          refine WL_v rfl (VS_field0 rfl) ?_
          refine WL_v rfl (VS_ldi P_runs_Run_At rfl) ?_
          refine WL_v rfl (VS_field0 rfl) ?_
          refine WL_v rfl (VS_ldi P_runs_Run_At rfl) ?_
          refine WL_v rfl (VS_field0 rfl) ?_
          refine WL_v rfl (VS_ldi P_runs_Run_At rfl) ?_
          refine WL_v rfl (VS_sub rfl rfl rfl) ?_
          refine WL_v rfl (VS_build (cs := L_runs_Run.enc x41) rfl (by rw [hx41]; rfl)) ?_
          refine WL_x rfl (RX_bs1 L_runs_Run x41 rfl rfl rfl rfl (by decide) (by decide)) (fun b47 _ => ?_)
          refine WL_rowN 57 2 L_runs_Run ?_
          refine WL_x rfl (RX_app1 (sz := 2) (L := L_runs_Run) (xs := ([] : List runs_Run)) (y := x41) (bytes := 16) rfl rfl rfl (apok_e hg43).1 (apok_e hg43).2) (fun v45 hs46 => ?_)
          rw [← hx44] at hs46; rw [← hx44]
          refine WL_v rfl (VS_assign rfl) ?_
          refine WL_nil ?_
          exact WQ_cuts (x44, v45) ⟨hs46, h⟩ (Sub_cons rfl (Sub_nil)) (.cons rfl (.cons rfl (.cons rfl (.cons rfl (.cons rfl (.nil)))))) (ks := [0, 2, 3, 4, 5]) rfl (by decide)
        ·
          replace h := cn_f hc h
          refine WP_skip ?_
          refine WQ_rowN 57 2 L_runs_Run ?_
          exact WQ_cuts (([] : List runs_Run), .slice none 0 0) ⟨⟨_, _, rfl⟩, h⟩ (Sub_cons rfl (Sub_nil)) (.cons rfl (.cons rfl (.cons rfl (.cons rfl (.cons rfl (.nil)))))) (ks := [0, 1, 2, 3, 4]) rfl (by decide)
      ·
        rintro ⟨x37, v38⟩ ⟨hs39, h⟩
        replace h : j40 x37 = some r := h
        replace h := jn1_u hj40 h
        obtain ⟨j51, hj51, h⟩ := lt_e h
        refine WP_cuts (α := (List runs_Run) × Value) [3, 6, 10] (.cons rfl (.cons rfl (.cons rfl (.nil)))) (fun (x48, v49) => [(12, v49)]) (fun (x48, v49) => [Row v49 57 2 L_runs_Run x48, .cells b11 57 (L_runs_Run.enc x35), .cells b8 57 (L_runs_Run.enc x21), .cells b6 46 zc_runs_Runs, .cells b3 46 cs0]) (fun (x48, v49) => SlN v49 x48.length ∧ j51 x48 = some r) ?_ ?_
        ·
          refine WP_seq ?_
          obtain ⟨x52, hx52, h⟩ := bd_e h
          obtain ⟨x53, hx53, h⟩ := bd_e h
          refine WP_draw mixed (.fin [] [(0, [8]), (1, [49]), (2, [11]), (3, [51]), (4, [50, 52])]) (by kernel_rfl) ?_
          refine Stg_fin ?_ ?_
          · exact ReOk_nil
          refine NewOk_cons rfl rfl (VG_v rfl (VS_lda (M := L_runs_Run) (Pth.id (L := L_runs_Run)) rfl rfl)) ?_
          refine NewOk_cons rfl rfl (VG_v rfl (VS_call (c_runs_Run_end hx52) rfl (fun _ _ _ => trivial))) ?_
          refine NewOk_cons rfl rfl (VG_v rfl (VS_lda (M := L_runs_Run) (Pth.id (L := L_runs_Run)) rfl rfl)) ?_
          refine NewOk_cons rfl rfl (VG_v rfl (VS_call (c_runs_Run_end hx53) rfl (fun _ _ _ => trivial))) ?_
          refine NewOk_cons rfl rfl (VG_v rfl (VS_lss rfl rfl)) ?_
          refine NewOk_nil ?_
          refine WQ_then ?_
          refine WP_if rfl (fun hc => ?_) (fun hc => ?_)
          ·
            replace h := cn_t hc h
            obtain ⟨x54, hx54, h⟩ := bd_e h
            obtain ⟨x55, hx55, h⟩ := bd_e h
            obtain ⟨x56, hx56, h⟩ := bd_e h
            obtain ⟨x57, hx57, h⟩ := lt_e h
            obtain ⟨hg58, h⟩ := gu_e h
            obtain ⟨x59, hx59, h⟩ := lt_e h
            refine WP_draw mixed (.stg [] [(0, [12]), (1, [8]), (2, [55]), (3, [11]), (4, [57]), (5, [8]), (6, [59]), (7, [58, 60]), (8, [56, 61])] (.alt 9 [62] (.stg [(0, [12])] [] (.alt 10 [54, 63] (.stg [] [] (.alt 11 [64] (.fin [] []) .no)) .no)) .no)) (by kernel_rfl) ?_
            refine Stg_stg ?_ ?_
            · exact ReOk_nil
            refine NewOk_cons rfl rfl (VG_v rfl (VS_move rfl)) ?_
            refine NewOk_cons rfl rfl (VG_v rfl (VS_lda (M := L_runs_Run) (Pth.id (L := L_runs_Run)) rfl rfl)) ?_
            refine NewOk_cons rfl rfl (VG_v rfl (VS_call (c_runs_Run_end hx54) rfl (fun _ _ _ => trivial))) ?_
            refine NewOk_cons rfl rfl (VG_v rfl (VS_lda (M := L_runs_Run) (Pth.id (L := L_runs_Run)) rfl rfl)) ?_
            refine NewOk_cons rfl rfl (VG_v rfl (VS_call (c_runs_Run_end hx55) rfl (fun _ _ _ => trivial))) ?_
            refine NewOk_cons rfl rfl (VG_v rfl (VS_lda (M := L_runs_Run) (Pth.id (L := L_runs_Run)) rfl rfl)) ?_
            refine NewOk_cons rfl rfl (VG_v rfl (VS_call (c_runs_Run_end hx56) rfl (fun _ _ _ => trivial))) ?_
            refine NewOk_cons rfl rfl (VG_v rfl (VS_sub rfl rfl rfl)) ?_
            refine NewOk_cons rfl rfl (VG_v rfl (VS_build (cs := L_runs_Run.enc x57) rfl (by rw [hx57]; rfl))) ?_
            refine NewOk_nil ?_
            refine Stg_some rfl rfl (RG_x rfl (RX_bs1 L_runs_Run x57 rfl rfl rfl rfl (by decide) (by decide))) (fun b63 _ => ?_) Stg_no
            refine Stg_stg ?_ ?_
            ·
              refine ReOk_cons rfl rfl (VG_v rfl (VS_move rfl)) ?_
              exact ReOk_nil
            refine NewOk_nil ?_
            refine Stg_some rfl rfl (RG_x rfl (RX_app1 (sz := 2) (L := L_runs_Run) (xs := x37) (y := x57) (bytes := 16) rfl rfl rfl (apok_e hg58).1 (apok_e hg58).2)) (fun v60 hs61 => ?_) Stg_no
            rw [← hx59] at hs61; rw [← hx59]
            refine Stg_stg ?_ ?_
            · exact ReOk_nil
            refine NewOk_nil ?_
            refine Stg_some rfl rfl (RG_x rfl ((VS_assign rfl).rx)) (fun _ _ => ?_) Stg_no
            refine Stg_fin ?_ ?_
            · exact ReOk_nil
            refine NewOk_nil ?_
            exact WQ_cuts (x59, v60) ⟨hs61, h⟩ (Sub_cons rfl (Sub_nil)) (.cons rfl (.cons rfl (.cons rfl (.nil)))) (ks := [1, 2, 3, 4, 5]) rfl (by decide)
          ·
            replace h := cn_f hc h
            refine WP_skip ?_
            exact WQ_cuts (x37, v38) ⟨hs39, h⟩ (Sub_cons rfl (Sub_nil)) (.cons rfl (.cons rfl (.cons rfl (.nil)))) (ks := [0, 1, 2, 3, 4]) rfl (by decide)
        ·
          rintro ⟨x48, v49⟩ ⟨hs50, h⟩
          replace h : j51 x48 = some r := h
          replace h := jn1_u hj51 h
          refine WP_seq ?_
          obtain ⟨hg64, h⟩ := gu_e h
          obtain ⟨hg67, h⟩ := gu_e h
          obtain ⟨x68, hx68, h⟩ := bd_e h
          obtain ⟨x76, hx76, h⟩ := lt_e h
          refine WP_draw mixed (.stg [] [(0, [3]), (1, [65]), (2, [10]), (3, [66, 67]), (4, [12]), (5, [3]), (6, [70]), (7, [10]), (8, [72]), (9, [71, 73])] (.alt 10 [68, 69, 74] (.stg [] [] (.alt 11 [75] (.stg [] [(12, [76])] (.alt 13 [6, 77] (.stg [] [] (.alt 14 [] (.fin [] []) .no)) .no)) .no)) .no)) (by kernel_rfl) ?_
          refine Stg_stg ?_ ?_
          · exact ReOk_nil
          refine NewOk_cons rfl rfl (VG_v rfl (VS_field0 rfl)) ?_
          obtain ⟨v62, hv62, f63⟩ := P_runs_Runs_l.sl f0
          refine NewOk_cons rfl rfl (VG_v rfl (VS_load rfl hv62)) ?_
          refine NewOk_cons rfl rfl (VG_v rfl (VS_move rfl)) ?_
          refine NewOk_cons rfl rfl (VG_v rfl (VS_cuthiF (m := (Int.toNat x28)) f63 rfl rfl (inb_e hg64).1 (Nat.lt_succ_iff.1 (inb_e hg64).2))) ?_
          refine NewOk_cons rfl rfl (VG_v rfl (VS_move rfl)) ?_
          refine NewOk_cons rfl rfl (VG_v rfl (VS_field0 rfl)) ?_
          obtain ⟨v65, hv65, f66⟩ := P_runs_Runs_l.sl f0
          refine NewOk_cons rfl rfl (VG_v rfl (VS_load rfl hv65)) ?_
          refine NewOk_cons rfl rfl (VG_v rfl (VS_move rfl)) ?_
          refine NewOk_cons rfl rfl (VG_v rfl (VS_add rfl rfl rfl)) ?_
          refine NewOk_cons rfl rfl (VG_v rfl (VS_cutloF (l := (Int.toNat (wr .i64 (x28 + 1)))) f66 rfl rfl (inb_e hg67).1 (Nat.lt_succ_iff.1 (inb_e hg67).2))) ?_
          refine NewOk_nil ?_
          refine Stg_some rfl rfl (RG_x rfl (RX_bsg (cs := [(cutV 0 (Int.toNat x28) 2 v62), v49, (cutV (Int.toNat (wr .i64 (x28 + 1))) a0.l.length 2 v65)]) rfl (by first | rfl | simp [fillL, splice, lvl, (f63.cuthi (Int.toNat x28) 2 rfl (Nat.lt_succ_iff.1 (inb_e hg64).2)).sl.cells, (f63.cuthi (Int.toNat x28) 2 rfl (Nat.lt_succ_iff.1 (inb_e hg64).2)).sl.size, (Fz.row (e := 57) (sz := 2) (L := L_runs_Run) (xs := x48) rfl hs50).sl.cells, (Fz.row (e := 57) (sz := 2) (L := L_runs_Run) (xs := x48) rfl hs50).sl.size, (f66.cutlo (Int.toNat (wr .i64 (x28 + 1))) 2 rfl (Nat.lt_succ_iff.1 (inb_e hg67).2)).sl.cells, (f66.cutlo (Int.toNat (wr .i64 (x28 + 1))) 2 rfl (Nat.lt_succ_iff.1 (inb_e hg67).2)).sl.size]) (by decide) (by decide) (by decide))) (fun b75 _ => ?_) Stg_no
          refine Stg_stg ?_ ?_
          · exact ReOk_nil
          refine NewOk_nil ?_
          refine Stg_some rfl rfl (RG_x rfl (RX_callH (K := (fun w => K w ∧ Hs [Row v49 57 2 L_runs_Run x48] w)) (Hin := [.cells b75 44 ([(cutV 0 (Int.toNat x28) 2 v62), v49, (cutV (Int.toNat (wr .i64 (x28 + 1))) a0.l.length 2 v65)])]) (rest := [Row v49 57 2 L_runs_Run x48, .cells b11 57 (L_runs_Run.enc x35), .cells b8 57 (L_runs_Run.enc x21), .cells b6 46 zc_runs_Runs, .cells b3 46 cs0]) (ks := [0, 1, 2, 3, 4, 5]) (c_slices_Concat_9402__lit3 (K := (fun w => K w ∧ Hs [Row v49 57 2 L_runs_Run x48] w)) ((f63.cuthi (Int.toNat x28) 2 rfl (Nat.lt_succ_iff.1 (inb_e hg64).2)).mono ent) ((Fz.row (e := 57) (sz := 2) (L := L_runs_Run) (xs := x48) rfl hs50).mono ent) ((f66.cutlo (Int.toNat (wr .i64 (x28 + 1))) 2 rfl (Nat.lt_succ_iff.1 (inb_e hg67).2)).mono ent) hx68) rfl rfl rfl rfl (by decide))) (fun ⟨w69, ho75, bs70, J71⟩ hp72 => ?_) Stg_no
          obtain ⟨v74, rfl, rfl, f73⟩ := hp72
          replace f73 : Fz (fun w => (fun w => K w ∧ Hs [Row v49 57 2 L_runs_Run x48] w) w ∧ Hs [.ext bs70 J71] w) w69 L_runs_Run x68 := f73
          dsimp only [List.cons_append, List.nil_append]
          refine Stg_stg ?_ ?_
          · exact ReOk_nil
          obtain ⟨c77, hc77, f78⟩ : ∃ cc, [w69] = cc ∧ (L_runs_Runs).rep (fun w => K w ∧ Hs [.ext bs70 J71, Row v49 57 2 L_runs_Run x48] w) cc x76 := ⟨_, rfl, by rw [hx76]; exact ⟨_, rfl, f73.mono ent⟩⟩
          refine NewOk_cons rfl rfl (VG_v rfl (VS_build (cs := c77) rfl (by rw [← hc77]; first | rfl | (simp [fillL, splice, show ∀ k i, (Value.int k i).cells = #[Value.int k i] from fun _ _ => rfl, show ∀ q, (Value.bool q).cells = #[Value.bool q] from fun _ => rfl, show ∀ a, (Value.agg a).cells = a from fun _ => rfl, f73.sl.cells, f73.sl.size]; try rfl)))) ?_
          refine NewOk_nil ?_
          obtain ⟨c79, hc79, f80⟩ : ∃ cc, splice zc_runs_Runs 0 c77 = cc ∧ (L_runs_Runs).rep (fun w => K w ∧ Hs [.ext bs70 J71, Row v49 57 2 L_runs_Run x48] w) cc x76 := ⟨_, rfl, (Pth.id (L := L_runs_Runs)).set (Lay.mono _ ent (show (L_runs_Runs).rep (Hs []) zc_runs_Runs Z_runs_Runs from zr_runs_Runs)) (Lay.mono _ ent f78)⟩
          refine Stg_none rfl (RG_x rfl (RX_stN c77 (Pth.id (L := L_runs_Runs)) (v := x76) (r := (show (L_runs_Runs).rep (Hs []) zc_runs_Runs Z_runs_Runs from zr_runs_Runs)) (rv := ((Lay.mono _ ent f78) : (L_runs_Runs).rep (fun w => K w ∧ Hs [.ext bs70 J71, Row v49 57 2 L_runs_Run x48] w) c77 x76)) rfl rfl rfl rfl hc79)) (fun _ _ => ?_) Stg_no
          refine Stg_stg ?_ ?_
          · exact ReOk_nil
          refine NewOk_nil ?_
          refine Stg_some rfl rfl (RG_x rfl ((VS_assign rfl).rx)) (fun _ _ => ?_) Stg_no
          refine Stg_fin ?_ ?_
          · exact ReOk_nil
          refine NewOk_nil ?_
          refine WQ_then ?_
          refine WP_ret ?_
          replace h := Option.some.inj h
          subst h
          refine WQ_bundle (R := [.ext bs70 J71, Row v49 57 2 L_runs_Run x48]) (H' := [.cells b6 46 c79]) (ks := [0, 2, 5]) rfl (by decide) ?_
          have p81 : (L_runs_Runs).rep (fun w => K w ∧ (Hs [.ext (blks [.ext bs70 J71, Row v49 57 2 L_runs_Run x48]) (Hs [.ext bs70 J71, Row v49 57 2 L_runs_Run x48])]) w) c79 x76 := Lay.mono _ ent f80
          exact WQ_ret (.tuple #[.agg c79.toArray, .bool true], blks [.ext bs70 J71, Row v49 57 2 L_runs_Run x48], Hs [.ext bs70 J71, Row v49 57 2 L_runs_Run x48]) rfl (.agg rfl inferInstance inferInstance (Lay.len _ f80) (.tmp rfl .nil)) ⟨_, rfl, p81⟩ rfl (ks := [0]) rfl (by decide)
def ref01_Set_Is (n : Nat) (a0 : (Nat → Bool)) (a1 : Int) (a2 : Int) (a3 : Bool) : Option Bool :=
  cn (((((decide (a2 < 1) || decide (64 < a2)) || decide (a1 < 0)) || decide (63 < a1)) || decide (64 < (wr .i64 (a1 + a2))))) (
  some false) (
  loop1 (fun k25 (x22 : Int) =>
  cn (decide (x22 < a2)) (
  gu (inb (wr .i64 (a1 + x22)) 64) <|
  cn (((a0 (Int.toNat (wr .i64 (a1 + x22)))) != a3)) (
  some false) (
  k25 (wr .i64 (x22 + 1)))) (
  some true)) n 0)
theorem c_ref01_Set_Is {n : Nat} {a0 : (Nat → Bool)} {a1 : Int} {a2 : Int} {a3 : Bool} {r : Bool}  (h : ref01_Set_Is n a0 a1 a2 a3 = some r) : FnV Try.prog 147 [.agg ((LA LB 64).enc a0).toArray, .int .i64 a1, .int .i64 a2, .bool a3] (.bool r) := by
  unfold ref01_Set_Is at h
  refine fn_of Try.func147 (by kernel_rfl) rfl Try.ntmps147 rfl (fun cx hbs hpre hro => ?_)
  refine WP_seq ?_
  refine WP_region ?_
  refine WL_x rfl (RX_boxL (LA LB 64) a0 rfl rfl) (fun b4 _ => ?_)
  refine WL_v rfl (VS_assign rfl) ?_
  refine WL_nil ?_
  refine WQ_then ?_
  refine WP_seq ?_
  refine WP_seq ?_
  refine WP_region ?_
  refine WL_v rfl (VS_move rfl) ?_
  refine WL_v rfl (VS_lss rfl rfl) ?_
  refine WL_v rfl (VS_move rfl) ?_
  refine WL_g (Gd_b rfl rfl) rfl (fun hb => VS_move rfl) ?_
  refine WL_g (Gd_b rfl rfl) rfl (fun hb => VS_gtr (gev rfl hb) rfl) ?_
  refine WL_v rfl (VS_or rfl rfl) ?_
  refine WL_v rfl (VS_move rfl) ?_
  refine WL_g (Gd_b rfl rfl) rfl (fun hb => VS_move rfl) ?_
  refine WL_g (Gd_b rfl rfl) rfl (fun hb => VS_lss (gev rfl hb) rfl) ?_
  refine WL_v rfl (VS_or rfl rfl) ?_
  refine WL_v rfl (VS_move rfl) ?_
  refine WL_g (Gd_b rfl rfl) rfl (fun hb => VS_move rfl) ?_
  refine WL_g (Gd_b rfl rfl) rfl (fun hb => VS_gtr (gev rfl hb) rfl) ?_
  refine WL_v rfl (VS_or rfl rfl) ?_
  refine WL_v rfl (VS_move rfl) ?_
  refine WL_g (Gd_b rfl rfl) rfl (fun hb => VS_move rfl) ?_
  refine WL_g (Gd_b rfl rfl) rfl (fun hb => VS_move rfl) ?_
  refine WL_g (Gd_b rfl rfl) rfl (fun hb => VS_add (gev rfl hb) (gev rfl hb) rfl) ?_
  refine WL_g (Gd_b rfl rfl) rfl (fun hb => VS_gtr (gev rfl hb) rfl) ?_
  refine WL_v rfl (VS_or rfl rfl) ?_
  refine WL_nil ?_
  refine WQ_then ?_
  refine WP_if rfl (fun hc => ?_) (fun hc => ?_)
  ·
    replace h := cn_t hc h
    refine WP_seq ?_
    refine WP_region ?_
    refine WL_v rfl (VS_assign rfl) ?_
    refine WL_nil ?_
    refine WQ_then ?_
    refine WP_ret ?_
    refine WQ_then_ret ?_
    replace h := Option.some.inj h
    subst h
    exact WQ_ret () rfl (.tmp rfl .nil) trivial rfl (ks := []) rfl (by decide)
  ·
    replace h := cn_f hc h
    refine WP_skip ?_
    refine WQ_then ?_
    refine WP_seq ?_
    refine WP_seq ?_
    refine WP_region ?_
    refine WL_v rfl (VS_assign rfl) ?_
    refine WL_nil ?_
    refine WQ_then ?_
    refine WP_block ?_
    obtain ⟨lb23, hlb23, h⟩ := lp1_i h
    refine WP_loops (α := Nat × Int) [1, 2, 3, 4] (.cons rfl (.cons rfl (.cons rfl (.cons rfl (.nil))))) (fun (m24, x22) => [(9, .int .i64 x22)]) (fun (m24, x22) => [.cells b4 38 ((LA LB 64).enc a0)]) (fun (m24, x22) => loop1 lb23 m24 x22 = some r) (fun (m24, x22) => m24) (n, 0) h (Sub_cons rfl (Sub_nil)) (ks := [0]) rfl (by decide) ?_
    rintro ⟨m24, x22⟩ h
    replace h : loop1 lb23 m24 x22 = some r := h
    replace h := lp1_s hlb23 h
    obtain ⟨m24, rfl, h⟩ := h
    refine WP_seq ?_
    refine WP_seq ?_
    refine WP_region ?_
    refine WL_v rfl (VS_move rfl) ?_
    refine WL_v rfl (VS_move rfl) ?_
    refine WL_v rfl (VS_lss rfl rfl) ?_
    refine WL_nil ?_
    refine WQ_then ?_
    refine WP_if rfl (fun hc => ?_) (fun hc => ?_)
    ·
      replace h := cn_t hc h
      refine WP_skip ?_
      refine WQ_then ?_
      refine WP_seq ?_
      refine WP_block ?_
      refine WP_seq ?_
      obtain ⟨hg26, h⟩ := gu_e h
      refine WP_region ?_
      refine WL_v rfl (VS_move rfl) ?_
      refine WL_v rfl (VS_move rfl) ?_
      refine WL_v rfl (VS_add rfl rfl rfl) ?_
      refine WL_v rfl (VS_index0 (m := (Int.toNat (wr .i64 (a1 + x22)))) rfl rfl (inb_e hg26).1 (inb_e hg26).2) ?_
      refine WL_v rfl (VS_ldb (Pth.idx (L := LB) (m := 64) (k := 1) ((Int.toNat (wr .i64 (a1 + x22)))) (inb_e hg26).2 rfl) rfl) ?_
      refine WL_v rfl (VS_move rfl) ?_
      refine WL_v rfl (VS_neqb rfl rfl) ?_
      refine WL_nil ?_
      refine WQ_then ?_
      refine WP_if rfl (fun hc => ?_) (fun hc => ?_)
      ·
        replace h := cn_t hc h
        refine WP_seq ?_
        refine WP_region ?_
        refine WL_v rfl (VS_assign rfl) ?_
        refine WL_nil ?_
        refine WQ_then ?_
        refine WP_ret ?_
        refine WQ_block_ret ?_
        refine WQ_then_ret ?_
        refine WQ_then_ret ?_
        refine WQ_block_ret ?_
        refine WQ_then_ret ?_
        replace h := Option.some.inj h
        subst h
        exact WQ_ret () rfl (.tmp rfl .nil) trivial rfl (ks := []) rfl (by decide)
      ·
        replace h := cn_f hc h
        refine WP_skip ?_
        refine WQ_block ?_
        refine WQ_then ?_
        refine WP_region ?_
        refine WL_v rfl (VS_move rfl) ?_
        refine WL_v rfl (VS_add rfl rfl rfl) ?_
        refine WL_v rfl (VS_assign rfl) ?_
        refine WL_nil ?_
        exact WQ_loops (m24, wr .i64 (x22 + 1)) (Nat.lt_succ_self _) h (Sub_cons rfl (Sub_nil)) (.cons rfl (.cons rfl (.cons rfl (.cons rfl (.nil))))) (ks := [0]) rfl (by decide)
    ·
      replace h := cn_f hc h
      refine WP_exit ?_
      refine WQ_then_exit ?_
      refine WQ_then_exit ?_
      refine WQ_block_exit ?_
      refine WQ_then ?_
      refine WP_seq ?_
      refine WP_region ?_
      refine WL_v rfl (VS_assign rfl) ?_
      refine WL_nil ?_
      refine WQ_then ?_
      refine WP_ret ?_
      replace h := Option.some.inj h
      subst h
      exact WQ_ret () rfl (.tmp rfl .nil) trivial rfl (ks := []) rfl (by decide)
def ref01_Set_Find (n : Nat) (a0 : (Nat → Bool)) (a1 : Int) : Option Int :=
  loop1 (fun k25 (x22 : Int) =>
  cn (decide (x22 < 64)) (
  bd (ref01_Set_Is n a0 x22 a1 true) fun x26 =>
  cn (x26) (
  some x22) (
  k25 (wr .i64 (x22 + 1)))) (
  some (-1))) n 0
theorem c_ref01_Set_Find {n : Nat} {a0 : (Nat → Bool)} {a1 : Int} {r : Int}  (h : ref01_Set_Find n a0 a1 = some r) : FnV Try.prog 84 [.agg ((LA LB 64).enc a0).toArray, .int .i64 a1] (.int .i64 r) := by
  unfold ref01_Set_Find at h
  refine fn_of Try.func84 (by kernel_rfl) rfl Try.ntmps84 rfl (fun cx hbs hpre hro => ?_)
  refine WP_seq ?_
  refine WP_region ?_
  refine WL_x rfl (RX_boxL (LA LB 64) a0 rfl rfl) (fun b2 _ => ?_)
  refine WL_v rfl (VS_assign rfl) ?_
  refine WL_nil ?_
  refine WQ_then ?_
  refine WP_seq ?_
  refine WP_seq ?_
  refine WP_region ?_
  refine WL_v rfl (VS_assign rfl) ?_
  refine WL_nil ?_
  refine WQ_then ?_
  refine WP_block ?_
  obtain ⟨lb23, hlb23, h⟩ := lp1_i h
  refine WP_loops (α := Nat × Int) [1, 2] (.cons rfl (.cons rfl (.nil))) (fun (m24, x22) => [(5, .int .i64 x22)]) (fun (m24, x22) => [.cells b2 38 ((LA LB 64).enc a0)]) (fun (m24, x22) => loop1 lb23 m24 x22 = some r) (fun (m24, x22) => m24) (n, 0) h (Sub_cons rfl (Sub_nil)) (ks := [0]) rfl (by decide) ?_
  rintro ⟨m24, x22⟩ h
  replace h : loop1 lb23 m24 x22 = some r := h
  replace h := lp1_s hlb23 h
  obtain ⟨m24, rfl, h⟩ := h
  refine WP_seq ?_
  refine WP_seq ?_
  refine WP_region ?_
  refine WL_v rfl (VS_move rfl) ?_
  refine WL_v rfl (VS_lss rfl rfl) ?_
  refine WL_nil ?_
  refine WQ_then ?_
  refine WP_if rfl (fun hc => ?_) (fun hc => ?_)
  ·
    replace h := cn_t hc h
    refine WP_skip ?_
    refine WQ_then ?_
    refine WP_seq ?_
    refine WP_block ?_
    refine WP_seq ?_
    obtain ⟨x26, hx26, h⟩ := bd_e h
    refine WP_region ?_
    refine WL_v rfl (VS_lda (M := (LA LB 64)) (Pth.id (L := (LA LB 64))) rfl rfl) ?_
    refine WL_v rfl (VS_move rfl) ?_
    refine WL_v rfl (VS_move rfl) ?_
    refine WL_v rfl (VS_call (c_ref01_Set_Is hx26) rfl (fun _ _ _ => trivial)) ?_
    refine WL_nil ?_
    refine WQ_then ?_
    refine WP_if rfl (fun hc => ?_) (fun hc => ?_)
    ·
      replace h := cn_t hc h
      refine WP_seq ?_
      refine WP_region ?_
      refine WL_v rfl (VS_move rfl) ?_
      refine WL_v rfl (VS_assign rfl) ?_
      refine WL_nil ?_
      refine WQ_then ?_
      refine WP_ret ?_
      refine WQ_block_ret ?_
      refine WQ_then_ret ?_
      refine WQ_then_ret ?_
      refine WQ_block_ret ?_
      refine WQ_then_ret ?_
      replace h := Option.some.inj h
      subst h
      exact WQ_ret () rfl (.tmp rfl .nil) trivial rfl (ks := []) rfl (by decide)
    ·
      replace h := cn_f hc h
      refine WP_skip ?_
      refine WQ_block ?_
      refine WQ_then ?_
      refine WP_region ?_
      refine WL_v rfl (VS_move rfl) ?_
      refine WL_v rfl (VS_add rfl rfl rfl) ?_
      refine WL_v rfl (VS_assign rfl) ?_
      refine WL_nil ?_
      exact WQ_loops (m24, wr .i64 (x22 + 1)) (Nat.lt_succ_self _) h (Sub_cons rfl (Sub_nil)) (.cons rfl (.cons rfl (.nil))) (ks := [0]) rfl (by decide)
  ·
    replace h := cn_f hc h
    refine WP_exit ?_
    refine WQ_then_exit ?_
    refine WQ_then_exit ?_
    refine WQ_block_exit ?_
    refine WQ_then ?_
    refine WP_seq ?_
    refine WP_region ?_
    refine WL_v rfl (VS_assign rfl) ?_
    refine WL_nil ?_
    refine WQ_then ?_
    refine WP_ret ?_
    replace h := Option.some.inj h
    subst h
    exact WQ_ret () rfl (.tmp rfl .nil) trivial rfl (ks := []) rfl (by decide)
def ref01_Set_With (n : Nat) (a0 : (Nat → Bool)) (a1 : Int) (a2 : Int) (a3 : Bool) : Option (Nat → Bool) :=
  loop2 (fun k28 (x24 : Int) (x25 : (Nat → Bool)) =>
  cn (decide (x24 < a2)) (
  gu (inb (wr .i64 (a1 + x24)) 64) <|
  lt ((upd x25 (Int.toNat (wr .i64 (a1 + x24))) a3) : (Nat → Bool)) fun x30 =>
  k28 (wr .i64 (x24 + 1)) x30) (
  some x25)) n 0 a0
theorem c_ref01_Set_With {n : Nat} {a0 : (Nat → Bool)} {a1 : Int} {a2 : Int} {a3 : Bool} {r : (Nat → Bool)}  (h : ref01_Set_With n a0 a1 a2 a3 = some r) : FnV Try.prog 85 [.agg ((LA LB 64).enc a0).toArray, .int .i64 a1, .int .i64 a2, .bool a3] (.agg ((LA LB 64).enc r).toArray) := by
  unfold ref01_Set_With at h
  refine fn_of Try.func85 (by kernel_rfl) rfl Try.ntmps85 rfl (fun cx hbs hpre hro => ?_)
  refine WP_seq ?_
  refine WP_region ?_
  refine WL_x rfl (RX_boxL (LA LB 64) a0 rfl rfl) (fun b4 _ => ?_)
  refine WL_x rfl (RX_allocL (L := (LA LB 64)) (z := (fun _ => false)) ⟨by kernel_rfl⟩) (fun b8 _ => ?_)
  refine WL_nil ?_
  refine WQ_then ?_
  refine WP_seq ?_
  refine WP_seq ?_
  refine WP_region ?_
  refine WL_v rfl (VS_assign rfl) ?_
  refine WL_nil ?_
  refine WQ_then ?_
  refine WP_block ?_
  obtain ⟨lb26, hlb26, h⟩ := lp2_i h
  refine WP_loops (α := Nat × Int × (Nat → Bool)) [1, 2, 3, 4, 8] (.cons rfl (.cons rfl (.cons rfl (.cons rfl (.cons rfl (.nil)))))) (fun (m27, x24, x25) => [(9, .int .i64 x24)]) (fun (m27, x24, x25) => [.cells b8 38 ((LA LB 64).enc (fun _ => false)), .cells b4 38 ((LA LB 64).enc x25)]) (fun (m27, x24, x25) => loop2 lb26 m27 x24 x25 = some r) (fun (m27, x24, x25) => m27) (n, 0, a0) h (Sub_cons rfl (Sub_nil)) (ks := [0, 1]) rfl (by decide) ?_
  rintro ⟨m27, x24, x25⟩ h
  replace h : loop2 lb26 m27 x24 x25 = some r := h
  replace h := lp2_s hlb26 h
  obtain ⟨m27, rfl, h⟩ := h
  refine WP_seq ?_
  refine WP_seq ?_
  refine WP_region ?_
  refine WL_v rfl (VS_move rfl) ?_
  refine WL_v rfl (VS_move rfl) ?_
  refine WL_v rfl (VS_lss rfl rfl) ?_
  refine WL_nil ?_
  refine WQ_then ?_
  refine WP_if rfl (fun hc => ?_) (fun hc => ?_)
  ·
    replace h := cn_t hc h
    refine WP_skip ?_
    refine WQ_then ?_
    refine WP_seq ?_
    refine WP_block ?_
    obtain ⟨hg29, h⟩ := gu_e h
    obtain ⟨x30, hx30, h⟩ := lt_e h
    refine WP_region ?_
    refine WL_v rfl (VS_move rfl) ?_
    refine WL_v rfl (VS_move rfl) ?_
    refine WL_v rfl (VS_add rfl rfl rfl) ?_
    refine WL_v rfl (VS_move rfl) ?_
    refine WL_v rfl (VS_index0 (m := (Int.toNat (wr .i64 (a1 + x24)))) rfl rfl (inb_e hg29).1 (inb_e hg29).2) ?_
    refine WL_x0 (RX_st (M := LB) (Pth.idx (L := LB) (m := 64) (k := 1) ((Int.toNat (wr .i64 (a1 + x24)))) (inb_e hg29).2 rfl) a3 x30 hx30 rfl rfl rfl rfl) (fun _ _ => ?_)
    refine WL_nil ?_
    refine WQ_block ?_
    refine WQ_then ?_
    refine WP_region ?_
    refine WL_v rfl (VS_move rfl) ?_
    refine WL_v rfl (VS_add rfl rfl rfl) ?_
    refine WL_v rfl (VS_assign rfl) ?_
    refine WL_nil ?_
    exact WQ_loops (m27, wr .i64 (x24 + 1), x30) (Nat.lt_succ_self _) h (Sub_cons rfl (Sub_nil)) (.cons rfl (.cons rfl (.cons rfl (.cons rfl (.cons rfl (.nil)))))) (ks := [0, 1]) rfl (by decide)
  ·
    replace h := cn_f hc h
    refine WP_exit ?_
    refine WQ_then_exit ?_
    refine WQ_then_exit ?_
    refine WQ_block_exit ?_
    refine WQ_then ?_
    refine WP_seq ?_
    refine WP_region ?_
    refine WL_v rfl (VS_lda (M := (LA LB 64)) (Pth.id (L := (LA LB 64))) rfl rfl) ?_
    refine WL_x0 (RX_st (M := (LA LB 64)) (Pth.id (L := (LA LB 64))) x25 x25 rfl rfl rfl rfl rfl) (fun _ _ => ?_)
    refine WL_nil ?_
    refine WQ_then ?_
    refine WP_ret ?_
    replace h := Option.some.inj h
    subst h
    exact WQ_ret () rfl (.agg rfl inferInstance inferInstance (enc_len _ _) .nil) trivial rfl (ks := []) rfl (by decide)
def runs_Runs_Give (n : Nat) (a0 : runs_Runs) (a1 : Int) (a2 : Int) : Option (runs_Runs × Bool) :=
  lt ({ At := a1, N := a2 } : runs_Run) fun x21 =>
  bd (runs_Run_may n x21) fun x22 =>
  cn ((!x22)) (
  some (a0, false)) (
  bd (runs_Runs_each n a0) fun x26 =>
  bd (slices_All_9402_1 n x26) fun x30 =>
  itr3 (fun (e56 : Int × runs_Run) k42 (x37 : Bool) (x38 : (List runs_Run)) (x41 : runs_Run) =>
  lt (e56.1 : Int) fun x54 =>
  lt (e56.2 : runs_Run) fun x55 =>
  bd (runs_Run_end n x55) fun x57 =>
  cn (decide (x57 < x41.At)) (
  gu (apok x38.length 1 16) <|
  lt (x38 ++ ([x55]) : List runs_Run) fun x59 =>
  k42 x37 x59 x41) (
  bd (runs_Run_end n x41) fun x62 =>
  cn (decide (x62 < x55.At)) (
  lt (fun (x63 : Bool) (x64 : (List runs_Run)) =>
  gu (apok x64.length 1 16) <|
  lt (x64 ++ ([x55]) : List runs_Run) fun x73 =>
  k42 x63 x73 x41) fun j67 =>
  cn ((!x37)) (
  gu (apok x38.length 1 16) <|
  lt (x38 ++ ([x41]) : List runs_Run) fun x69 =>
  j67 true x69) (
  j67 x37 x38)) (
  bd (runs_Run_end n x55) fun x76 =>
  cn ((x76 == x41.At)) (
  lt ({ At := x55.At, N := wr .i64 (x55.N + x41.N) } : runs_Run) fun x77 =>
  k42 x37 x38 x77) (
  bd (runs_Run_end n x41) fun x78 =>
  cn ((x55.At == x78)) (
  lt ({ x41 with N := wr .i64 (x41.N + x55.N) } : runs_Run) fun x79 =>
  k42 x37 x38 x79) (
  some (a0, false)))))) (fun (x37 : Bool) (x38 : (List runs_Run)) (x41 : runs_Run) =>
  cn ((!x37)) (
  gu (apok x38.length 1 16) <|
  lt (x38 ++ ([x41]) : List runs_Run) fun x84 =>
  lt ({ l := x84 } : runs_Runs) fun x87 =>
  some (x87, true)) (
  lt ({ l := x38 } : runs_Runs) fun x93 =>
  some (x93, true))) x30 false ([] : List runs_Run) x21)
theorem c_runs_Runs_Give {n : Nat} {a0 : runs_Runs} {a1 : Int} {a2 : Int} {r : runs_Runs × Bool} {K : World → Prop} [Stable K] {cs0 : List Value} (f0 : (L_runs_Runs).rep K cs0 a0) (h : runs_Runs_Give n a0 a1 a2 = some r) : FnB Try.prog 90 [.agg cs0.toArray, .int .i64 a1, .int .i64 a2] K (fun J v => ∃ u0, v = (.tuple #[.agg u0.toArray, .bool r.2]) ∧ (L_runs_Runs).rep (fun w => K w ∧ J w) u0 (r.1)) := by
  unfold runs_Runs_Give at h
  refine fn_of Try.func90 (by kernel_rfl) rfl Try.ntmps90 rfl (fun cx hbs hpre hro => ?_)
  haveI := knf_pre hbs hpre
  refine WP_seq ?_
  refine WP_region ?_
  refine WL_x rfl (RX_boxa rfl) (fun b3 _ => ?_)
  refine WL_x rfl (RX_alloc (hz := (⟨by kernel_rfl⟩ : TZero Try.prog 46 zc_runs_Runs))) (fun b6 _ => ?_)
  refine WL_x rfl (RX_allocL (L := LB) (z := false) ⟨by kernel_rfl⟩) (fun b7 _ => ?_)
  refine WL_nil ?_
  refine WQ_then ?_
  refine WP_seq ?_
  obtain ⟨x21, hx21, h⟩ := lt_e h
  refine WP_region ?_
  refine WL_v rfl (VS_move rfl) ?_
  refine WL_v rfl (VS_move rfl) ?_
  refine WL_v rfl (VS_build (cs := L_runs_Run.enc x21) rfl (by rw [hx21]; rfl)) ?_
  refine WL_x rfl (RX_allocL (L := L_runs_Run) (z := Z_runs_Run) ⟨by kernel_rfl⟩) (fun b8 _ => ?_)
  refine WL_x0 (RX_st (M := L_runs_Run) (Pth.id (L := L_runs_Run)) x21 x21 rfl rfl rfl rfl rfl) (fun _ _ => ?_)
  refine WL_nil ?_
  refine WQ_then ?_
  refine WP_seq ?_
  refine WP_seq ?_
  obtain ⟨x22, hx22, h⟩ := bd_e h
  refine WP_region ?_
  refine WL_v rfl (VS_lda (M := L_runs_Run) (Pth.id (L := L_runs_Run)) rfl rfl) ?_
  refine WL_v rfl (VS_call (c_runs_Run_may hx22) rfl (fun _ _ _ => trivial)) ?_
  refine WL_v rfl (VS_not rfl) ?_
  refine WL_nil ?_
  refine WQ_then ?_
  refine WP_if rfl (fun hc => ?_) (fun hc => ?_)
  ·
    replace h := cn_t hc h
    refine WP_seq ?_
    refine WP_region ?_
    refine WL_v rfl (VS_loadall rfl (Lay.len _ f0)) ?_
    obtain ⟨c23, hc23, f24⟩ : ∃ cc, splice zc_runs_Runs 0 cs0 = cc ∧ (L_runs_Runs).rep K cc a0 := ⟨_, rfl, (Pth.id (L := L_runs_Runs)).set (Lay.mono _ ent (show (L_runs_Runs).rep (Hs []) zc_runs_Runs Z_runs_Runs from zr_runs_Runs)) (Lay.mono _ ent f0)⟩
    refine WL_x0 (RX_stN cs0 (Pth.id (L := L_runs_Runs)) (v := a0) (r := (show (L_runs_Runs).rep (Hs []) zc_runs_Runs Z_runs_Runs from zr_runs_Runs)) (rv := ((Lay.mono _ ent f0) : (L_runs_Runs).rep K cs0 a0)) rfl rfl rfl rfl hc23) (fun _ _ => ?_)
    refine WL_x0 (RX_st (M := LB) (Pth.id (L := LB)) false false rfl rfl rfl rfl rfl) (fun _ _ => ?_)
    refine WL_nil ?_
    refine WQ_then ?_
    refine WP_ret ?_
    refine WQ_then_ret ?_
    replace h := Option.some.inj h
    subst h
    refine WQ_bundle (R := []) (H' := [.cells b7 4 (LB.enc false), .cells b6 46 c23]) (ks := [1, 2]) rfl (by decide) ?_
    have p25 : (L_runs_Runs).rep (fun w => K w ∧ (Hs [.ext (blks []) (Hs [])]) w) c23 a0 := Lay.mono _ ent f24
    exact WQ_ret (.tuple #[.agg c23.toArray, .bool false], blks [], Hs []) rfl (.agg rfl inferInstance inferInstance (Lay.len _ f24) (.one rfl inferInstance inferInstance rfl .nil)) ⟨_, rfl, p25⟩ rfl (ks := [0]) rfl (by decide)
  ·
    replace h := cn_f hc h
    refine WP_skip ?_
    refine WQ_then ?_
    refine WP_seq ?_
    refine WP_region ?_
    refine WL_x rfl (RX_alloc (hz := (⟨by kernel_rfl⟩ : TZero Try.prog 44 [.slice none 0 0]))) (fun b9 _ => ?_)
    refine WL_nil ?_
    refine WQ_then ?_
    refine WP_seq ?_
    refine WP_region ?_
    refine WL_x rfl (RX_allocL (L := LB) (z := false) ⟨by kernel_rfl⟩) (fun b10 _ => ?_)
    refine WL_x0 (RX_st (M := LB) (Pth.id (L := LB)) false false rfl rfl rfl rfl rfl) (fun _ _ => ?_)
    refine WL_nil ?_
    refine WQ_then ?_
    refine WP_seq ?_
    refine WP_seq ?_
    obtain ⟨x26, hx26, h⟩ := bd_e h
    refine WP_region ?_
    refine WL_v rfl (VS_loadall rfl (Lay.len _ f0)) ?_
    refine WL_x rfl (RX_call (c_runs_Runs_each (K := K) (Lay.mono _ ent f0) hx26) rfl kn) (fun ⟨b27, c28⟩ f29 => ?_)
    replace f29 : ((LSl L_runs_Run)).rep K c28 x26 := f29
    dsimp only [List.cons_append, List.nil_append]
    refine WL_nil ?_
    refine WQ_then ?_
    refine WP_block ?_
    obtain ⟨x30, hx30, h⟩ := bd_e h
    refine WP_rowN 57 2 L_runs_Run ?_
    obtain ⟨ib44, hib44, fi45, hfi45, h⟩ := it3_i h
    refine WP_rangeK (K := K) (α := Bool × (List runs_Run) × runs_Run × Value) (β := Bool × (List runs_Run) × runs_Run × runs_Runs × Value × (List Value)) hro rfl (it_slices_All_9402_1 (K := K) (Lay.mono _ ent f29) hx30) (fun _ => rfl) rfl (fun kk43 => fun (x37, x38, x41, v39) => SlN v39 x38.length ∧ itr3 ib44 fi45 (x30.drop kk43) x37 x38 x41 = some r) (fun kk43 => fun (x37, x38, x41, v39) => [Row v39 57 2 L_runs_Run x38, .cells b10 4 (LB.enc x37), .cells b9 44 ([v39]), .cells b8 57 (L_runs_Run.enc x41), .cells b7 4 (LB.enc false), .cells b6 46 zc_runs_Runs, .cells b3 46 cs0]) (fun j => fun (x46, x47, x50, x51, v48, c52) => j = Code.ret ∧ SlN v48 x47.length ∧ (L_runs_Runs).rep K c52 x51 ∧ some (x51, false) = some r) (fun (x46, x47, x50, x51, v48, c52) => [Row v48 57 2 L_runs_Run x47, .cells b10 4 (LB.enc x46), .cells b9 44 ([v48]), .cells b8 57 (L_runs_Run.enc x50), .cells b7 4 (LB.enc false), .cells b6 46 c52, .cells b3 46 cs0]) ⟨false, ([] : List runs_Run), x21, .slice none 0 0⟩ ⟨⟨_, _, rfl⟩, h⟩ (ks := [1, 0, 2, 3, 4, 5, 6, 7]) rfl (by decide) ?_ ?_ ?_
    ·
      rintro kk43 ⟨x37, x38, x41, v39⟩ lo dd rec c' hk ⟨hs40, h⟩ hrs hrp hro' hsi hT
      replace h : itr3 ib44 fi45 (x30.drop kk43) x37 x38 x41 = some r := h
      replace h := it3_s hib44 hk h
      haveI := knf_in (K := K) hsi
      dsimp only [parF]
      obtain ⟨x54, hx54, h⟩ := lt_e h
      rw [← hx54]
      obtain ⟨x55, hx55, h⟩ := lt_e h
      rw [← hx55]
      refine WP_region ?_
      refine WL_x rfl (RX_allocL (L := L_runs_Run) (z := Z_runs_Run) ⟨by kernel_rfl⟩) (fun b12 _ => ?_)
      refine WL_x0 (RX_st (M := L_runs_Run) (Pth.id (L := L_runs_Run)) x55 x55 rfl rfl rfl rfl rfl) (fun _ _ => ?_)
      refine WL_nil ?_
      refine WQ_begin hrs hro' ?_
      refine WP_block ?_
      refine WP_block ?_
      refine WP_seq ?_
      obtain ⟨x57, hx57, h⟩ := bd_e h
      refine WP_draw mixed (.stg [] [(0, [12]), (1, [26]), (2, [8]), (3, [28]), (4, [27, 29])] (.alt 5 [30] (.fin [] []) .no)) (by kernel_rfl) ?_
      refine Stg_stg ?_ ?_
      · exact ReOk_nil
      refine NewOk_cons rfl rfl (VG_v rfl (VS_lda (M := L_runs_Run) (Pth.id (L := L_runs_Run)) rfl rfl)) ?_
      refine NewOk_cons rfl rfl (VG_v rfl (VS_call (c_runs_Run_end hx57) rfl (fun _ _ _ => trivial))) ?_
      refine NewOk_cons rfl rfl (VG_v rfl (VS_field0 rfl)) ?_
      refine NewOk_cons rfl rfl (VG_v rfl (VS_ldi P_runs_Run_At rfl)) ?_
      refine NewOk_cons rfl rfl (VG_v rfl (VS_lss rfl rfl)) ?_
      refine NewOk_nil ?_
      refine Stg_some rfl rfl (RG_x rfl ((VS_assign rfl).rx)) (fun _ _ => ?_) Stg_no
      refine Stg_fin ?_ ?_
      · exact ReOk_nil
      refine NewOk_nil ?_
      refine WQ_then ?_
      refine WP_if rfl (fun hc => ?_) (fun hc => ?_)
      ·
        replace h := cn_t hc h
        obtain ⟨hg58, h⟩ := gu_e h
        obtain ⟨x59, hx59, h⟩ := lt_e h
        refine WP_region ?_
        refine WL_v rfl (VS_load rfl rfl) ?_
        refine WL_v rfl (VS_lda (M := L_runs_Run) (Pth.id (L := L_runs_Run)) rfl rfl) ?_
        refine WL_x rfl (RX_bs1 L_runs_Run x55 rfl rfl rfl rfl (by decide) (by decide)) (fun b33 _ => ?_)
        refine WL_x rfl (RX_app1 (sz := 2) (L := L_runs_Run) (xs := x38) (y := x55) (bytes := 16) rfl rfl rfl (apok_e hg58).1 (apok_e hg58).2) (fun v60 hs61 => ?_)
        rw [← hx59] at hs61; rw [← hx59]
        refine WL_x0 (RX_stN (cs' := [v60]) [v60] (Pth.id (L := (LSl L_runs_Run))) (v := x59) ⟨_, rfl, (Fz.row (e := 57) (sz := 2) (L := L_runs_Run) (xs := x38) rfl hs40)⟩ (rv := (⟨_, rfl, (Fz.row (e := 57) (sz := 2) (L := L_runs_Run) (xs := x59) rfl hs61)⟩ : ((LSl L_runs_Run)).rep (Hs [Row v60 57 2 L_runs_Run x59]) [v60] x59)) rfl rfl (Fz.row (e := 57) (sz := 2) (L := L_runs_Run) (xs := x59) rfl hs61).sl.cells rfl rfl) (fun _ _ => ?_)
        refine WL_nil ?_
        refine WQ_block ?_
        refine WQ_block ?_
        exact WQ_next hrs hrp hT ⟨x37, x59, x41, v60⟩ ⟨hs61, h⟩ (ks := [2, 3, 4, 5, 6, 7, 8, 9, 10]) rfl (by decide)
      ·
        replace h := cn_f hc h
        refine WP_seq ?_
        obtain ⟨x62, hx62, h⟩ := bd_e h
        refine WP_draw mixed (.stg [] [(0, [12]), (1, [36]), (2, [8]), (3, [38]), (4, [37, 39])] (.alt 5 [40] (.fin [] []) .no)) (by kernel_rfl) ?_
        refine Stg_stg ?_ ?_
        · exact ReOk_nil
        refine NewOk_cons rfl rfl (VG_v rfl (VS_field0 rfl)) ?_
        refine NewOk_cons rfl rfl (VG_v rfl (VS_ldi P_runs_Run_At rfl)) ?_
        refine NewOk_cons rfl rfl (VG_v rfl (VS_lda (M := L_runs_Run) (Pth.id (L := L_runs_Run)) rfl rfl)) ?_
        refine NewOk_cons rfl rfl (VG_v rfl (VS_call (c_runs_Run_end hx62) rfl (fun _ _ _ => trivial))) ?_
        refine NewOk_cons rfl rfl (VG_v rfl (VS_gtr rfl rfl)) ?_
        refine NewOk_nil ?_
        refine Stg_some rfl rfl (RG_x rfl ((VS_assign rfl).rx)) (fun _ _ => ?_) Stg_no
        refine Stg_fin ?_ ?_
        · exact ReOk_nil
        refine NewOk_nil ?_
        refine WQ_then ?_
        refine WP_if rfl (fun hc => ?_) (fun hc => ?_)
        ·
          replace h := cn_t hc h
          obtain ⟨j67, hj67, h⟩ := lt_e h
          refine WP_cuts (α := Bool × (List runs_Run) × Value) [9, 12] (.cons rfl (.cons rfl (.nil))) (fun (x63, x64, v65) => []) (fun (x63, x64, v65) => [.cells b12 57 (L_runs_Run.enc x55), .obj dd (.deferred (some [])), .obj lo (.loop { rec with state := .busy }), Row v65 57 2 L_runs_Run x64, .cells b10 4 (LB.enc x63), .cells b9 44 ([v65]), .cells b8 57 (L_runs_Run.enc x41), .cells b7 4 (LB.enc false), .cells b6 46 zc_runs_Runs, .cells b3 46 cs0]) (fun (x63, x64, v65) => SlN v65 x64.length ∧ j67 x63 x64 = some r) ?_ ?_
          ·
            refine WP_seq ?_
            refine WP_region ?_
            refine WL_v rfl (VS_ldb (Pth.id (L := LB)) rfl) ?_
            refine WL_v rfl (VS_not rfl) ?_
            refine WL_nil ?_
            refine WQ_then ?_
            refine WP_if rfl (fun hc => ?_) (fun hc => ?_)
            ·
              replace h := cn_t hc h
              refine WP_seq ?_
              obtain ⟨hg68, h⟩ := gu_e h
              obtain ⟨x69, hx69, h⟩ := lt_e h
              refine WP_region ?_
              refine WL_v rfl (VS_load rfl rfl) ?_
              refine WL_v rfl (VS_lda (M := L_runs_Run) (Pth.id (L := L_runs_Run)) rfl rfl) ?_
              refine WL_x rfl (RX_bs1 L_runs_Run x41 rfl rfl rfl rfl (by decide) (by decide)) (fun b45 _ => ?_)
              refine WL_x rfl (RX_app1 (sz := 2) (L := L_runs_Run) (xs := x38) (y := x41) (bytes := 16) rfl rfl rfl (apok_e hg68).1 (apok_e hg68).2) (fun v70 hs71 => ?_)
              rw [← hx69] at hs71; rw [← hx69]
              refine WL_x0 (RX_stN (cs' := [v70]) [v70] (Pth.id (L := (LSl L_runs_Run))) (v := x69) ⟨_, rfl, (Fz.row (e := 57) (sz := 2) (L := L_runs_Run) (xs := x38) rfl hs40)⟩ (rv := (⟨_, rfl, (Fz.row (e := 57) (sz := 2) (L := L_runs_Run) (xs := x69) rfl hs71)⟩ : ((LSl L_runs_Run)).rep (Hs [Row v70 57 2 L_runs_Run x69]) [v70] x69)) rfl rfl (Fz.row (e := 57) (sz := 2) (L := L_runs_Run) (xs := x69) rfl hs71).sl.cells rfl rfl) (fun _ _ => ?_)
              refine WL_nil ?_
              refine WQ_then ?_
              refine WP_region ?_
              refine WL_x0 (RX_st (M := LB) (Pth.id (L := LB)) true true rfl rfl rfl rfl rfl) (fun _ _ => ?_)
              refine WL_nil ?_
              exact WQ_cuts (true, x69, v70) ⟨hs71, h⟩ (Sub_nil) (.cons rfl (.cons rfl (.nil))) (ks := [1, 2, 3, 4, 5, 6, 7, 8, 9, 10]) rfl (by decide)
            ·
              replace h := cn_f hc h
              refine WP_skip ?_
              exact WQ_cuts (x37, x38, v39) ⟨hs40, h⟩ (Sub_nil) (.cons rfl (.cons rfl (.nil))) (ks := [0, 1, 2, 3, 4, 5, 6, 7, 8, 9]) rfl (by decide)
          ·
            rintro ⟨x63, x64, v65⟩ ⟨hs66, h⟩
            replace h : j67 x63 x64 = some r := h
            replace h := jn2_u hj67 h
            obtain ⟨hg72, h⟩ := gu_e h
            obtain ⟨x73, hx73, h⟩ := lt_e h
            refine WP_region ?_
            refine WL_v rfl (VS_load rfl rfl) ?_
            refine WL_v rfl (VS_lda (M := L_runs_Run) (Pth.id (L := L_runs_Run)) rfl rfl) ?_
            refine WL_x rfl (RX_bs1 L_runs_Run x55 rfl rfl rfl rfl (by decide) (by decide)) (fun b49 _ => ?_)
            refine WL_x rfl (RX_app1 (sz := 2) (L := L_runs_Run) (xs := x64) (y := x55) (bytes := 16) rfl rfl rfl (apok_e hg72).1 (apok_e hg72).2) (fun v74 hs75 => ?_)
            rw [← hx73] at hs75; rw [← hx73]
            refine WL_x0 (RX_stN (cs' := [v74]) [v74] (Pth.id (L := (LSl L_runs_Run))) (v := x73) ⟨_, rfl, (Fz.row (e := 57) (sz := 2) (L := L_runs_Run) (xs := x64) rfl hs66)⟩ (rv := (⟨_, rfl, (Fz.row (e := 57) (sz := 2) (L := L_runs_Run) (xs := x73) rfl hs75)⟩ : ((LSl L_runs_Run)).rep (Hs [Row v74 57 2 L_runs_Run x73]) [v74] x73)) rfl rfl (Fz.row (e := 57) (sz := 2) (L := L_runs_Run) (xs := x73) rfl hs75).sl.cells rfl rfl) (fun _ _ => ?_)
            refine WL_nil ?_
            refine WQ_block ?_
            refine WQ_block ?_
            exact WQ_next hrs hrp hT ⟨x63, x73, x41, v74⟩ ⟨hs75, h⟩ (ks := [2, 3, 4, 5, 6, 7, 8, 9, 10]) rfl (by decide)
        ·
          replace h := cn_f hc h
          refine WP_seq ?_
          obtain ⟨x76, hx76, h⟩ := bd_e h
          refine WP_draw mixed (.stg [] [(0, [12]), (1, [52]), (2, [8]), (3, [54]), (4, [53, 55])] (.alt 5 [56] (.fin [] []) .no)) (by kernel_rfl) ?_
          refine Stg_stg ?_ ?_
          · exact ReOk_nil
          refine NewOk_cons rfl rfl (VG_v rfl (VS_lda (M := L_runs_Run) (Pth.id (L := L_runs_Run)) rfl rfl)) ?_
          refine NewOk_cons rfl rfl (VG_v rfl (VS_call (c_runs_Run_end hx76) rfl (fun _ _ _ => trivial))) ?_
          refine NewOk_cons rfl rfl (VG_v rfl (VS_field0 rfl)) ?_
          refine NewOk_cons rfl rfl (VG_v rfl (VS_ldi P_runs_Run_At rfl)) ?_
          refine NewOk_cons rfl rfl (VG_v rfl (VS_eql rfl rfl)) ?_
          refine NewOk_nil ?_
          refine Stg_some rfl rfl (RG_x rfl ((VS_assign rfl).rx)) (fun _ _ => ?_) Stg_no
          refine Stg_fin ?_ ?_
          · exact ReOk_nil
          refine NewOk_nil ?_
          refine WQ_then ?_
          refine WP_if rfl (fun hc => ?_) (fun hc => ?_)
          ·
            replace h := cn_t hc h
            obtain ⟨x77, hx77, h⟩ := lt_e h
            refine WP_region ?_
            refine WL_v rfl (VS_field0 rfl) ?_
            refine WL_v rfl (VS_ldi P_runs_Run_At rfl) ?_
            refine WL_v rfl (VS_field0 rfl) ?_
            refine WL_v rfl (VS_ldi P_runs_Run_N rfl) ?_
            refine WL_v rfl (VS_field0 rfl) ?_
            refine WL_v rfl (VS_ldi P_runs_Run_N rfl) ?_
            refine WL_v rfl (VS_add rfl rfl rfl) ?_
            refine WL_v rfl (VS_build (cs := L_runs_Run.enc x77) rfl (by rw [hx77]; rfl)) ?_
            refine WL_x0 (RX_st (M := L_runs_Run) (Pth.id (L := L_runs_Run)) x77 x77 rfl rfl rfl rfl rfl) (fun _ _ => ?_)
            refine WL_nil ?_
            refine WQ_block ?_
            refine WQ_block ?_
            exact WQ_next hrs hrp hT ⟨x37, x38, x77, v39⟩ ⟨hs40, h⟩ (ks := [1, 2, 3, 4, 5, 6, 7, 8, 9]) rfl (by decide)
          ·
            replace h := cn_f hc h
            refine WP_seq ?_
            obtain ⟨x78, hx78, h⟩ := bd_e h
            refine WP_draw mixed (.stg [] [(0, [12]), (1, [66]), (2, [8]), (3, [68]), (4, [67, 69])] (.alt 5 [70] (.fin [] []) .no)) (by kernel_rfl) ?_
            refine Stg_stg ?_ ?_
            · exact ReOk_nil
            refine NewOk_cons rfl rfl (VG_v rfl (VS_field0 rfl)) ?_
            refine NewOk_cons rfl rfl (VG_v rfl (VS_ldi P_runs_Run_At rfl)) ?_
            refine NewOk_cons rfl rfl (VG_v rfl (VS_lda (M := L_runs_Run) (Pth.id (L := L_runs_Run)) rfl rfl)) ?_
            refine NewOk_cons rfl rfl (VG_v rfl (VS_call (c_runs_Run_end hx78) rfl (fun _ _ _ => trivial))) ?_
            refine NewOk_cons rfl rfl (VG_v rfl (VS_eql rfl rfl)) ?_
            refine NewOk_nil ?_
            refine Stg_some rfl rfl (RG_x rfl ((VS_assign rfl).rx)) (fun _ _ => ?_) Stg_no
            refine Stg_fin ?_ ?_
            · exact ReOk_nil
            refine NewOk_nil ?_
            refine WQ_then ?_
            refine WP_if rfl (fun hc => ?_) (fun hc => ?_)
            ·
              replace h := cn_t hc h
              obtain ⟨x79, hx79, h⟩ := lt_e h
              refine WP_region ?_
              refine WL_v rfl (VS_field0 rfl) ?_
              refine WL_v rfl (VS_ldi P_runs_Run_N rfl) ?_
              refine WL_v rfl (VS_field0 rfl) ?_
              refine WL_v rfl (VS_ldi P_runs_Run_N rfl) ?_
              refine WL_v rfl (VS_add rfl rfl rfl) ?_
              refine WL_v rfl (VS_field0 rfl) ?_
              refine WL_x0 (RX_st (M := (LI .i64)) P_runs_Run_N (wr .i64 (x41.N + x55.N)) x79 hx79 rfl rfl rfl rfl) (fun _ _ => ?_)
              refine WL_nil ?_
              refine WQ_block ?_
              refine WQ_block ?_
              exact WQ_next hrs hrp hT ⟨x37, x38, x79, v39⟩ ⟨hs40, h⟩ (ks := [1, 2, 3, 4, 5, 6, 7, 8, 9]) rfl (by decide)
            ·
              replace h := cn_f hc h
              refine WP_seq ?_
              refine WP_region ?_
              refine WL_v rfl (VS_loadall rfl (Lay.len _ f0)) ?_
              obtain ⟨c80, hc80, f81⟩ : ∃ cc, splice zc_runs_Runs 0 cs0 = cc ∧ (L_runs_Runs).rep K cc a0 := ⟨_, rfl, (Pth.id (L := L_runs_Runs)).set (Lay.mono _ ent (show (L_runs_Runs).rep (Hs []) zc_runs_Runs Z_runs_Runs from zr_runs_Runs)) (Lay.mono _ ent f0)⟩
              refine WL_x0 (RX_stN cs0 (Pth.id (L := L_runs_Runs)) (v := a0) (r := (show (L_runs_Runs).rep (Hs []) zc_runs_Runs Z_runs_Runs from zr_runs_Runs)) (rv := ((Lay.mono _ ent f0) : (L_runs_Runs).rep K cs0 a0)) rfl rfl rfl rfl hc80) (fun _ _ => ?_)
              refine WL_x0 (RX_st (M := LB) (Pth.id (L := LB)) false false rfl rfl rfl rfl rfl) (fun _ _ => ?_)
              refine WL_nil ?_
              refine WQ_then ?_
              refine WP_ret ?_
              refine WQ_block_ret ?_
              refine WQ_block_ret ?_
              exact WQ_stop hT (.inl ⟨rfl, rfl⟩) ⟨Code.ret, x37, x38, x41, a0, v39, c80⟩ ⟨rfl, hs40, (Lay.mono _ ent f81), h⟩ (ks := [1, 2, 3, 4, 5, 6, 7, 8, 9]) rfl (by decide)
    ·
      rintro dd82 ⟨x37, x38, x41, v39⟩ ⟨hs40, h⟩
      replace h : itr3 ib44 fi45 (x30.drop x30.length) x37 x38 x41 = some r := h
      replace h := it3_n hfi45 rfl h
      dsimp only [List.cons_append, List.nil_append]
      refine WQ_block ?_
      refine WQ_then ?_
      refine WP_seq ?_
      refine WP_seq ?_
      refine WP_region ?_
      refine WL_v rfl (VS_ldb (Pth.id (L := LB)) rfl) ?_
      refine WL_v rfl (VS_not rfl) ?_
      refine WL_nil ?_
      refine WQ_then ?_
      refine WP_if rfl (fun hc => ?_) (fun hc => ?_)
      ·
        replace h := cn_t hc h
        obtain ⟨hg83, h⟩ := gu_e h
        obtain ⟨x84, hx84, h⟩ := lt_e h
        refine WP_region ?_
        refine WL_v rfl (VS_load rfl rfl) ?_
        refine WL_v rfl (VS_lda (M := L_runs_Run) (Pth.id (L := L_runs_Run)) rfl rfl) ?_
        refine WL_x rfl (RX_bs1 L_runs_Run x41 rfl rfl rfl rfl (by decide) (by decide)) (fun b81 _ => ?_)
        refine WL_x rfl (RX_app1 (sz := 2) (L := L_runs_Run) (xs := x38) (y := x41) (bytes := 16) rfl rfl rfl (apok_e hg83).1 (apok_e hg83).2) (fun v85 hs86 => ?_)
        rw [← hx84] at hs86; rw [← hx84]
        refine WL_x0 (RX_stN (cs' := [v85]) [v85] (Pth.id (L := (LSl L_runs_Run))) (v := x84) ⟨_, rfl, (Fz.row (e := 57) (sz := 2) (L := L_runs_Run) (xs := x38) rfl hs40)⟩ (rv := (⟨_, rfl, (Fz.row (e := 57) (sz := 2) (L := L_runs_Run) (xs := x84) rfl hs86)⟩ : ((LSl L_runs_Run)).rep (Hs [Row v85 57 2 L_runs_Run x84]) [v85] x84)) rfl rfl (Fz.row (e := 57) (sz := 2) (L := L_runs_Run) (xs := x84) rfl hs86).sl.cells rfl rfl) (fun _ _ => ?_)
        refine WL_nil ?_
        refine WQ_then ?_
        refine WP_seq ?_
        obtain ⟨x87, hx87, h⟩ := lt_e h
        refine WP_region ?_
        refine WL_v rfl (VS_load rfl rfl) ?_
        obtain ⟨c88, hc88, f89⟩ : ∃ cc, [v85] = cc ∧ (L_runs_Runs).rep (Hs [Row v85 57 2 L_runs_Run x84]) cc x87 := ⟨_, rfl, by rw [hx87]; exact ⟨_, rfl, (Fz.row (e := 57) (sz := 2) (L := L_runs_Run) (xs := x84) rfl hs86).mono ent⟩⟩
        refine WL_v rfl (VS_build (cs := c88) rfl (by rw [← hc88]; first | rfl | (simp [fillL, splice, show ∀ k i, (Value.int k i).cells = #[Value.int k i] from fun _ _ => rfl, show ∀ q, (Value.bool q).cells = #[Value.bool q] from fun _ => rfl, show ∀ a, (Value.agg a).cells = a from fun _ => rfl, (Fz.row (e := 57) (sz := 2) (L := L_runs_Run) (xs := x84) rfl hs86).sl.cells, (Fz.row (e := 57) (sz := 2) (L := L_runs_Run) (xs := x84) rfl hs86).sl.size]; try rfl))) ?_
        obtain ⟨c90, hc90, f91⟩ : ∃ cc, splice zc_runs_Runs 0 c88 = cc ∧ (L_runs_Runs).rep (Hs [Row v85 57 2 L_runs_Run x84]) cc x87 := ⟨_, rfl, (Pth.id (L := L_runs_Runs)).set (Lay.mono _ ent (show (L_runs_Runs).rep (Hs []) zc_runs_Runs Z_runs_Runs from zr_runs_Runs)) (Lay.mono _ ent f89)⟩
        refine WL_x0 (RX_stN c88 (Pth.id (L := L_runs_Runs)) (v := x87) (r := (show (L_runs_Runs).rep (Hs []) zc_runs_Runs Z_runs_Runs from zr_runs_Runs)) (rv := ((Lay.mono _ ent f89) : (L_runs_Runs).rep (Hs [Row v85 57 2 L_runs_Run x84]) c88 x87)) rfl rfl rfl rfl hc90) (fun _ _ => ?_)
        refine WL_x0 (RX_st (M := LB) (Pth.id (L := LB)) true true rfl rfl rfl rfl rfl) (fun _ _ => ?_)
        refine WL_nil ?_
        refine WQ_then ?_
        refine WP_ret ?_
        replace h := Option.some.inj h
        subst h
        refine WQ_bundle (R := [Row v85 57 2 L_runs_Run x84]) (H' := [.obj dd82 (.deferred (some [])), .cells b7 4 (LB.enc true), .cells b6 46 c90]) (ks := [3, 1, 7, 8]) rfl (by decide) ?_
        have p92 : (L_runs_Runs).rep (fun w => K w ∧ (Hs [.ext (blks [Row v85 57 2 L_runs_Run x84]) (Hs [Row v85 57 2 L_runs_Run x84])]) w) c90 x87 := Lay.mono _ ent f91
        exact WQ_retm (.tuple #[.agg c90.toArray, .bool true], blks [Row v85 57 2 L_runs_Run x84], Hs [Row v85 57 2 L_runs_Run x84]) rfl (.agg rfl inferInstance inferInstance (Lay.len _ f91) (.one rfl inferInstance inferInstance rfl .nil)) ⟨_, rfl, p92⟩ rfl (ks := [0]) rfl (by decide)
      ·
        replace h := cn_f hc h
        refine WP_skip ?_
        refine WQ_then ?_
        refine WP_seq ?_
        obtain ⟨x93, hx93, h⟩ := lt_e h
        refine WP_region ?_
        refine WL_v rfl (VS_load rfl rfl) ?_
        obtain ⟨c94, hc94, f95⟩ : ∃ cc, [v39] = cc ∧ (L_runs_Runs).rep (Hs [Row v39 57 2 L_runs_Run x38]) cc x93 := ⟨_, rfl, by rw [hx93]; exact ⟨_, rfl, (Fz.row (e := 57) (sz := 2) (L := L_runs_Run) (xs := x38) rfl hs40).mono ent⟩⟩
        refine WL_v rfl (VS_build (cs := c94) rfl (by rw [← hc94]; first | rfl | (simp [fillL, splice, show ∀ k i, (Value.int k i).cells = #[Value.int k i] from fun _ _ => rfl, show ∀ q, (Value.bool q).cells = #[Value.bool q] from fun _ => rfl, show ∀ a, (Value.agg a).cells = a from fun _ => rfl, (Fz.row (e := 57) (sz := 2) (L := L_runs_Run) (xs := x38) rfl hs40).sl.cells, (Fz.row (e := 57) (sz := 2) (L := L_runs_Run) (xs := x38) rfl hs40).sl.size]; try rfl))) ?_
        obtain ⟨c96, hc96, f97⟩ : ∃ cc, splice zc_runs_Runs 0 c94 = cc ∧ (L_runs_Runs).rep (Hs [Row v39 57 2 L_runs_Run x38]) cc x93 := ⟨_, rfl, (Pth.id (L := L_runs_Runs)).set (Lay.mono _ ent (show (L_runs_Runs).rep (Hs []) zc_runs_Runs Z_runs_Runs from zr_runs_Runs)) (Lay.mono _ ent f95)⟩
        refine WL_x0 (RX_stN c94 (Pth.id (L := L_runs_Runs)) (v := x93) (r := (show (L_runs_Runs).rep (Hs []) zc_runs_Runs Z_runs_Runs from zr_runs_Runs)) (rv := ((Lay.mono _ ent f95) : (L_runs_Runs).rep (Hs [Row v39 57 2 L_runs_Run x38]) c94 x93)) rfl rfl rfl rfl hc96) (fun _ _ => ?_)
        refine WL_x0 (RX_st (M := LB) (Pth.id (L := LB)) true true rfl rfl rfl rfl rfl) (fun _ _ => ?_)
        refine WL_nil ?_
        refine WQ_then ?_
        refine WP_ret ?_
        replace h := Option.some.inj h
        subst h
        refine WQ_bundle (R := [Row v39 57 2 L_runs_Run x38]) (H' := [.obj dd82 (.deferred (some [])), .cells b7 4 (LB.enc true), .cells b6 46 c96]) (ks := [2, 0, 6, 7]) rfl (by decide) ?_
        have p98 : (L_runs_Runs).rep (fun w => K w ∧ (Hs [.ext (blks [Row v39 57 2 L_runs_Run x38]) (Hs [Row v39 57 2 L_runs_Run x38])]) w) c96 x93 := Lay.mono _ ent f97
        exact WQ_retm (.tuple #[.agg c96.toArray, .bool true], blks [Row v39 57 2 L_runs_Run x38], Hs [Row v39 57 2 L_runs_Run x38]) rfl (.agg rfl inferInstance inferInstance (Lay.len _ f97) (.one rfl inferInstance inferInstance rfl .nil)) ⟨_, rfl, p98⟩ rfl (ks := [0]) rfl (by decide)
    ·
      rintro dd82 j ⟨x46, x47, x50, x51, v48, c52⟩ ⟨rfl, hs49, f53, h⟩
      dsimp only [List.cons_append, List.nil_append]
      refine WP_ret ?_
      refine WQ_block_ret ?_
      refine WQ_then_ret ?_
      replace h := Option.some.inj h
      subst h
      refine WQ_bundle (R := []) (H' := [.obj dd82 (.deferred (some [])), .cells b7 4 (LB.enc false), .cells b6 46 c52]) (ks := [0, 6, 7]) rfl (by decide) ?_
      have p99 : (L_runs_Runs).rep (fun w => K w ∧ (Hs [.ext (blks []) (Hs [])]) w) c52 x51 := Lay.mono _ ent f53
      exact WQ_retm (.tuple #[.agg c52.toArray, .bool false], blks [], Hs []) rfl (.agg rfl inferInstance inferInstance (Lay.len _ f53) (.one rfl inferInstance inferInstance rfl .nil)) ⟨_, rfl, p99⟩ rfl (ks := [0]) rfl (by decide)
end Go.Proofs.Ytmdpbdhkmfjlhaa
