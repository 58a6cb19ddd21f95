/- Decompiled: package extent, its document's answer, its statements. -/
import Derived.Test.YtmdpbdhkmfjlhaaTypes
import Derived.Test.YtmdpbdhkmfjlhaaSl4
import Derived.Test.YtmdpbdhkmfjlhaaDRuns
namespace Go.Proofs.Ytmdpbdhkmfjlhaa
open Go Go.Bw
structure extent_Extent where
  Runs : (List runs_Run)
  Len : Int
abbrev L_extent_Extent : Lay extent_Extent := Lay.via (LP (LSl L_runs_Run) (LI .i64)) (fun x => (x.Runs, x.Len))
abbrev Z_extent_Extent : extent_Extent := ⟨[], 0⟩
instance : Inhabited extent_Extent := ⟨Z_extent_Extent⟩
def zc_extent_Extent : List Value := [.slice none 0 0] ++ ([.int .i64 0])
theorem zr_extent_Extent {A : World → Prop} : L_extent_Extent.rep A zc_extent_Extent Z_extent_Extent := ⟨_, _, rfl, ⟨_, rfl, Fz.nil⟩, rfl⟩
theorem P_extent_Extent_Runs : Pth L_extent_Extent (LSl L_runs_Run) 0 (fun x => x.Runs) (fun x v => { x with Runs := v }) := (Pth.fst Pth.id).via _ _ _ 0 rfl (fun _ => rfl) (fun _ _ => rfl)
theorem P_extent_Extent_Len : Pth L_extent_Extent (LI .i64) 1 (fun x => x.Len) (fun x v => { x with Len := v }) := (Pth.snd Pth.id).via _ _ _ 1 rfl (fun _ => rfl) (fun _ _ => rfl)
def extent_Extent_chunks (n : Nat) (a0 : extent_Extent) : Option extent_Extent :=
  some a0
theorem c_extent_Extent_chunks {n : Nat} {a0 : extent_Extent} {r : extent_Extent} {K : World → Prop} [Stable K] {cs0 : List Value} (f0 : (L_extent_Extent).rep K cs0 a0) (h : extent_Extent_chunks n a0 = some r) : Bw.Fn (α := Nat × List Value) Try.prog 166 [.agg cs0.toArray] K [] (fun (b0, c0) => (L_extent_Extent).rep K c0 r) (fun (b0, c0) => .func (.func 167) #[] #[Ptr b0 0]) (fun (b0, c0) => [.cells b0 71 c0]) := by
  unfold extent_Extent_chunks at h
  refine fn_of Try.func166 (by kernel_rfl) rfl Try.ntmps166 rfl (fun cx hbs hpre hro => ?_)
  haveI := knf_pre hbs hpre
  refine WP_seq ?_
  refine WP_region ?_
  refine WL_x rfl (RX_boxa rfl) (fun b1 _ => ?_)
  refine WL_v rfl (VS_assign rfl) ?_
  refine WL_nil ?_
  refine WQ_then ?_
  refine WP_seq ?_
  refine WP_region ?_
  refine WL_v rfl (VS_makeFunc rfl) ?_
  refine WL_v rfl (VS_assign rfl) ?_
  refine WL_nil ?_
  refine WQ_then ?_
  refine WP_ret ?_
  replace h := Option.some.inj h
  subst h
  exact WQ_ret ⟨b1, cs0⟩ rfl (.tmp rfl .nil) (Lay.mono _ ent f0) rfl (ks := [0]) rfl (by decide)
def extent_Extent_chunks_1 (n : Nat) (a1 : extent_Extent) : Option (List (Int × runs_Run)) :=
  loop2 (fun k39 (x30 : Int) (x31 : Int) =>
  cn (decide (x31 < (a1.Runs.length : Int))) (
  gu (inb x31 a1.Runs.length) <|
  lt ((a1.Runs.getD (Int.toNat x31) default) : runs_Run) fun x41 =>
  yl (x30, x41) <|
  k39 (wr .i64 (x30 + (wr .i64 (x41.N * 32)))) (wr .i64 (x31 + 1))) (
  some [])) n 0 0
theorem it_extent_Extent_chunks_1 {n : Nat} {a1 : extent_Extent} {l : List (Int × runs_Run)} {K : World → Prop} {q1 : Nat} {cs1 : List Value} (f1 : (L_extent_Extent).rep K cs1 a1) (h : extent_Extent_chunks_1 n a1 = some l) : IterK Try.prog 167 [Ptr q1 0] [.cells q1 71 cs1] K (fun k => [.int .i64 ((l.getD k default).1), .agg (L_runs_Run.enc ((l.getD k default).2)).toArray]) l.length := by
  unfold extent_Extent_chunks_1 at h
  refine ⟨fun y J Jx bs => fn_of Try.func167 (by kernel_rfl) rfl Try.ntmps167 rfl (fun cx hbs hpre hro => ?_)⟩
  haveI := knf_fut (show cx.bs = bs ++ blks [.cells q1 71 cs1] from hbs) hpre.1
  have hR : Rnd Try.prog y cx.bs cx.w0 J Jx (fun k => [.int .i64 ((l.getD k default).1), .agg (L_runs_Run.enc ((l.getD k default).2)).toArray]) l.length := by rw [show cx.bs = bs ++ blks [.cells q1 71 cs1] from hbs]; exact hpre.2
  have hd0 : l.drop 0 = l := rfl
  have hk0 : 0 ≤ l.length := Nat.zero_le _
  refine WP_seq ?_
  refine WP_region ?_
  refine WL_v rfl (VS_assign rfl) ?_
  refine WL_nil ?_
  refine WQ_then ?_
  refine WP_seq ?_
  refine WP_region ?_
  refine WL_v rfl (VS_field0 rfl) ?_
  obtain ⟨v21, hv21, f22⟩ := P_extent_Extent_Runs.sl f1
  refine WL_v rfl (VS_load rfl hv21) ?_
  refine WL_v rfl (VS_lenF f22 rfl) ?_
  refine WL_v rfl (VS_move rfl) ?_
  refine WL_nil ?_
  refine WQ_then ?_
  refine WP_block ?_
  obtain ⟨lb37, hlb37, h⟩ := lp2_i h
  refine WP_loops (α := Nat × Int × Int × Nat × (List (Int × runs_Run)) × (List Nat)) [0, 7, 8] (.cons rfl (.cons rfl (.cons rfl (.nil)))) (fun (m38, x30, x31, kk32, r33, es34) => [(3, .int .i64 x30), (9, .int .i64 x31)]) (fun (m38, x30, x31, kk32, r33, es34) => [.ext es34 (J kk32 es34), .cells q1 71 cs1]) (fun (m38, x30, x31, kk32, r33, es34) => l.drop kk32 = r33 ∧ kk32 ≤ l.length ∧ loop2 lb37 m38 x30 x31 = some r33) (fun (m38, x30, x31, kk32, r33, es34) => m38) (n, 0, 0, 0, l, bs) ⟨hd0, hk0, h⟩ (Sub_cons rfl (Sub_cons rfl (Sub_nil))) (ks := [0, 1]) rfl (by decide) ?_
  rintro ⟨m38, x30, x31, kk32, r33, es34⟩ ⟨hd35, hk36, h⟩
  replace h : loop2 lb37 m38 x30 x31 = some r33 := h
  replace h := lp2_s hlb37 h
  obtain ⟨m38, rfl, h⟩ := h
  refine WP_seq ?_
  refine WP_region ?_
  refine WL_v rfl (VS_lss rfl rfl) ?_
  refine WL_nil ?_
  refine WQ_then ?_
  refine WP_seq ?_
  refine WP_if rfl (fun hc => ?_) (fun hc => ?_)
  ·
    replace h := cn_t hc h
    refine WP_skip ?_
    refine WQ_then ?_
    refine WP_seq ?_
    refine WP_block ?_
    refine WP_seq ?_
    obtain ⟨hg40, h⟩ := gu_e h
    obtain ⟨x41, hx41, h⟩ := lt_e h
    refine WP_region ?_
    refine WL_v rfl (VS_ixF (m := (Int.toNat x31)) f22 rfl rfl rfl (inb_e hg40).1 (inb_e hg40).2) ?_
    refine WL_v rfl (VS_ldaF (M := L_runs_Run) f22 (Pth.idx (L := L_runs_Run) (m := (a1.Runs.length)) (k := 2) ((Int.toNat x31)) (inb_e hg40).2 rfl) rfl rfl (by decide)) ?_
    refine WL_x rfl (RX_allocL (L := L_runs_Run) (z := Z_runs_Run) ⟨by kernel_rfl⟩) (fun b5 _ => ?_)
    refine WL_x0 (RX_st (M := L_runs_Run) (Pth.id (L := L_runs_Run)) (a1.Runs.getD (Int.toNat x31) default) x41 hx41 rfl rfl rfl rfl) (fun _ _ => ?_)
    refine WL_nil ?_
    refine WQ_then ?_
    refine WP_seq ?_
    refine WP_seq ?_
    obtain ⟨r42, hr42, h⟩ := yl_e h
    obtain ⟨hk45, hg45, hd45, hl45⟩ := drop_cons (hd35.trans hr42)
    refine WP_region ?_
    refine WL_v rfl (VS_move rfl) ?_
    refine WL_v rfl (VS_move rfl) ?_
    refine WL_v rfl (VS_lda (M := L_runs_Run) (Pth.id (L := L_runs_Run)) rfl rfl) ?_
    refine WL_x rfl (RX_yield (bs := es34) hR hk45 hro rfl (show evs _ _ = some [.int .i64 ((l.getD kk32 default).1), .agg (L_runs_Run.enc ((l.getD kk32 default).2)).toArray] by rw [hg45]; rfl)) (fun ⟨go43, es44⟩ _ => ?_)
    refine WL_v rfl (VS_not rfl) ?_
    refine WL_nil ?_
    refine WQ_then ?_
    refine WP_if rfl (fun hc => ?_) (fun hc => ?_)
    ·
      obtain rfl : go43 = false := by simpa using hc
      dsimp only [cond_true, cond_false]
      refine WP_ret ?_
      refine WQ_then_ret ?_
      refine WQ_block_ret ?_
      refine WQ_then_ret ?_
      refine WQ_then_ret ?_
      refine WQ_block_ret ?_
      exact WQ_ret (false, es44) rfl .nil trivial rfl (ks := [1, 2]) rfl (by decide)
    ·
      obtain rfl : go43 = true := by simpa using hc
      dsimp only [cond_true, cond_false]
      refine WP_skip ?_
      refine WQ_then ?_
      refine WP_region ?_
      refine WL_v rfl (VS_move rfl) ?_
      refine WL_v rfl (VS_field0 rfl) ?_
      refine WL_v rfl (VS_ldi P_runs_Run_N rfl) ?_
      refine WL_v rfl (VS_mul rfl rfl rfl) ?_
      refine WL_v rfl (VS_add rfl rfl rfl) ?_
      refine WL_v rfl (VS_assign rfl) ?_
      refine WL_nil ?_
      refine WQ_block ?_
      refine WQ_then ?_
      refine WP_region ?_
      refine WL_v rfl (VS_add rfl rfl rfl) ?_
      refine WL_v rfl (VS_move rfl) ?_
      refine WL_nil ?_
      exact WQ_loops (m38, wr .i64 (x30 + (wr .i64 (x41.N * 32))), wr .i64 (x31 + 1), kk32 + 1, r42, es44) (Nat.lt_succ_self _) ⟨hd45, hl45, h⟩ (Sub_cons rfl (Sub_cons rfl (Sub_nil))) (.cons rfl (.cons rfl (.cons rfl (.nil)))) (ks := [1, 2]) rfl (by decide)
  ·
    replace h := cn_f hc h
    refine WP_exit ?_
    refine WQ_then_exit ?_
    refine WQ_then_exit ?_
    refine WQ_block_exit ?_
    replace h := Option.some.inj h
    subst h
    have ek46 := drop_nil hd35 hk36
    refine WQ_pick (ks := [0, 1]) (H' := [.ext es34 (J (kk32) es34), .cells q1 71 cs1]) rfl (by decide) ?_
    refine WQ_extk (J := J) (n := l.length) ek46 ?_
    exact WQ_end (true, es34) rfl .nil trivial rfl (ks := [0, 1]) rfl (by decide)
def extent_Extent_Pages (n : Nat) (a0 : extent_Extent) : Option Int :=
  bd (extent_Extent_chunks n a0) fun x21 =>
  bd (extent_Extent_chunks_1 n x21) fun x25 =>
  itr1 (fun (e35 : Int × runs_Run) k29 (x28 : Int) =>
  lt (e35.1 : Int) fun x33 =>
  lt (e35.2 : runs_Run) fun x34 =>
  lt (wr .i64 (x28 + x34.N) : Int) fun x36 =>
  k29 x36) (fun (x28 : Int) =>
  some x28) x25 0
theorem c_extent_Extent_Pages {n : Nat} {a0 : extent_Extent} {r : Int} {K : World → Prop} [Stable K] {cs0 : List Value} (f0 : (L_extent_Extent).rep K cs0 a0) (h : extent_Extent_Pages n a0 = some r) : FnW Try.prog 150 [.agg cs0.toArray] K (.int .i64 r) := by
  unfold extent_Extent_Pages at h
  refine fn_of Try.func150 (by kernel_rfl) rfl Try.ntmps150 rfl (fun cx hbs hpre hro => ?_)
  haveI := knf_pre hbs hpre
  refine WP_seq ?_
  refine WP_region ?_
  refine WL_x rfl (RX_boxa rfl) (fun b1 _ => ?_)
  refine WL_v rfl (VS_assign rfl) ?_
  refine WL_nil ?_
  refine WQ_then ?_
  refine WP_seq ?_
  refine WP_region ?_
  refine WL_x rfl (RX_allocL (L := (LI .i64)) (z := 0) ⟨by kernel_rfl⟩) (fun b3 _ => ?_)
  refine WL_x0 (RX_st (M := (LI .i64)) (Pth.id (L := (LI .i64))) 0 0 rfl rfl rfl rfl rfl) (fun _ _ => ?_)
  refine WL_nil ?_
  refine WQ_then ?_
  refine WP_seq ?_
  refine WP_seq ?_
  obtain ⟨x21, hx21, h⟩ := bd_e h
  refine WP_region ?_
  refine WL_v rfl (VS_loadall rfl (Lay.len _ f0)) ?_
  refine WL_x rfl (RX_call (c_extent_Extent_chunks (K := K) (Lay.mono _ ent f0) hx21) rfl kn) (fun ⟨b22, c23⟩ f24 => ?_)
  replace f24 : (L_extent_Extent).rep K c23 x21 := f24
  dsimp only [List.cons_append, List.nil_append]
  refine WL_nil ?_
  refine WQ_then ?_
  refine WP_block ?_
  obtain ⟨x25, hx25, h⟩ := bd_e h
  obtain ⟨ib31, hib31, fi32, hfi32, h⟩ := it1_i h
  refine WP_rangeK (K := K) (α := Int) (β := Unit) hro rfl (it_extent_Extent_chunks_1 (K := K) (Lay.mono _ ent f24) hx25) (fun _ => rfl) rfl (fun kk30 => fun x28 => itr1 ib31 fi32 (x25.drop kk30) x28 = some r) (fun kk30 => fun x28 => [.cells b3 3 ((LI .i64).enc x28), .cells b1 71 cs0]) (fun _ _ => False) (fun _ => []) 0 h (ks := [0, 1, 2]) rfl (by decide) ?_ ?_ ?_
  ·
    rintro kk30 x28 lo dd rec c' hk h hrs hrp hro' hsi hT
    replace h : itr1 ib31 fi32 (x25.drop kk30) x28 = some r := h
    replace h := it1_s hib31 hk h
    haveI := knf_in (K := K) hsi
    dsimp only [parF]
    obtain ⟨x33, hx33, h⟩ := lt_e h
    rw [← hx33]
    obtain ⟨x34, hx34, h⟩ := lt_e h
    rw [← hx34]
    refine WP_region ?_
    refine WL_x rfl (RX_allocL (L := L_runs_Run) (z := Z_runs_Run) ⟨by kernel_rfl⟩) (fun b5 _ => ?_)
    refine WL_x0 (RX_st (M := L_runs_Run) (Pth.id (L := L_runs_Run)) x34 x34 rfl rfl rfl rfl rfl) (fun _ _ => ?_)
    refine WL_nil ?_
    refine WQ_begin hrs hro' ?_
    refine WP_block ?_
    obtain ⟨x36, hx36, h⟩ := lt_e h
    refine WP_region ?_
    refine WL_v rfl (VS_ldi (Pth.id (L := (LI .i64))) rfl) ?_
    refine WL_v rfl (VS_field0 rfl) ?_
    refine WL_v rfl (VS_ldi P_runs_Run_N rfl) ?_
    refine WL_v rfl (VS_add rfl rfl rfl) ?_
    refine WL_x0 (RX_st (M := (LI .i64)) (Pth.id (L := (LI .i64))) (wr .i64 (x28 + x34.N)) x36 hx36 rfl rfl rfl rfl) (fun _ _ => ?_)
    refine WL_nil ?_
    refine WQ_block ?_
    exact WQ_next hrs hrp hT x36 h (ks := [1, 2, 3, 4]) rfl (by decide)
  ·
    rintro dd37 x28 h
    replace h : itr1 ib31 fi32 (x25.drop x25.length) x28 = some r := h
    replace h := it1_n hfi32 rfl h
    dsimp only [List.cons_append, List.nil_append]
    refine WQ_block ?_
    refine WQ_then ?_
    refine WP_seq ?_
    refine WP_region ?_
    refine WL_v rfl (VS_ldi (Pth.id (L := (LI .i64))) rfl) ?_
    refine WL_v rfl (VS_assign rfl) ?_
    refine WL_nil ?_
    refine WQ_then ?_
    refine WP_ret ?_
    replace h := Option.some.inj h
    subst h
    exact WQ_retm () rfl (.tmp rfl .nil) trivial rfl (ks := []) rfl (by decide)
  ·
    intro dd j i hf; exact hf.elim
def extent_Extent_May (n : Nat) (a0 : extent_Extent) : Option Bool :=
  loop2 (fun k38 (x32 : Int) (x33 : runs_Runs) =>
  cn (decide (x32 < (a0.Runs.length : Int))) (
  gu (inb x32 a0.Runs.length) <|
  lt ((a0.Runs.getD (Int.toNat x32) default) : runs_Run) fun x40 =>
  bd (runs_Runs_Give n x33 x40.At x40.N) fun x41 =>
  cn ((!x41.2)) (
  some false) (
  k38 (wr .i64 (x32 + 1)) x41.1)) (
  cl ((decide (0 ≤ a0.Len)) == true) (extent_Extent_Pages n a0) default fun x52 =>
  some (decide (0 ≤ a0.Len) && decide (a0.Len ≤ (wr .i64 (x52 * 32)))))) n 0 Z_runs_Runs
theorem c_extent_Extent_May {n : Nat} {a0 : extent_Extent} {r : Bool} {K : World → Prop} [Stable K] {cs0 : List Value} (f0 : (L_extent_Extent).rep K cs0 a0) (h : extent_Extent_May n a0 = some r) : FnW Try.prog 103 [.agg cs0.toArray] K (.bool r) := by
  unfold extent_Extent_May at h
  refine fn_of Try.func103 (by kernel_rfl) rfl Try.ntmps103 rfl (fun cx hbs hpre hro => ?_)
  haveI := knf_pre hbs hpre
  refine WP_seq ?_
  refine WP_region ?_
  refine WL_x rfl (RX_boxa rfl) (fun b1 _ => ?_)
  refine WL_v rfl (VS_assign rfl) ?_
  refine WL_nil ?_
  refine WQ_then ?_
  refine WP_seq ?_
  refine WP_region ?_
  refine WL_x rfl (RX_alloc (hz := (⟨by kernel_rfl⟩ : TZero Try.prog 46 zc_runs_Runs))) (fun b3 _ => ?_)
  refine WL_nil ?_
  refine WQ_then ?_
  refine WP_seq ?_
  refine WP_seq ?_
  refine WP_region ?_
  refine WL_v rfl (VS_field0 rfl) ?_
  obtain ⟨v21, hv21, f22⟩ := P_extent_Extent_Runs.sl f0
  refine WL_v rfl (VS_load rfl hv21) ?_
  refine WL_v rfl (VS_lenF f22 rfl) ?_
  refine WL_v rfl (VS_move rfl) ?_
  refine WL_nil ?_
  refine WQ_then ?_
  refine WP_block ?_
  obtain ⟨lb36, hlb36, h⟩ := lp2_i h
  refine WP_ext0 ?_
  refine WP_loops (α := Nat × Int × runs_Runs × (List Value) × (List Nat) × (World → Prop)) [1, 3, 9, 10] (.cons rfl (.cons rfl (.cons rfl (.cons rfl (.nil))))) (fun (m37, x32, x33, c34, bs30, J31) => [(11, .int .i64 x32)]) (fun (m37, x32, x33, c34, bs30, J31) => [.ext bs30 J31, .cells b3 46 c34, .cells b1 71 cs0]) (fun (m37, x32, x33, c34, bs30, J31) => (L_runs_Runs).rep (Hs [.ext bs30 J31]) c34 x33 ∧ loop2 lb36 m37 x32 x33 = some r) (fun (m37, x32, x33, c34, bs30, J31) => m37) (n, 0, Z_runs_Runs, zc_runs_Runs, [], (Hs [])) ⟨(Lay.mono _ ent (show (L_runs_Runs).rep (Hs []) zc_runs_Runs Z_runs_Runs from zr_runs_Runs)), h⟩ (Sub_cons rfl (Sub_nil)) (ks := [0, 1, 2]) rfl (by decide) ?_
  rintro ⟨m37, x32, x33, c34, bs30, J31⟩ ⟨f35, h⟩
  replace h : loop2 lb36 m37 x32 x33 = some r := h
  replace h := lp2_s hlb36 h
  obtain ⟨m37, rfl, h⟩ := h
  refine WP_seq ?_
  refine WP_region ?_
  refine WL_v rfl (VS_lss rfl rfl) ?_
  refine WL_nil ?_
  refine WQ_then ?_
  refine WP_seq ?_
  refine WP_if rfl (fun hc => ?_) (fun hc => ?_)
  ·
    replace h := cn_t hc h
    refine WP_skip ?_
    refine WQ_then ?_
    refine WP_seq ?_
    refine WP_block ?_
    refine WP_seq ?_
    obtain ⟨hg39, h⟩ := gu_e h
    obtain ⟨x40, hx40, h⟩ := lt_e h
    refine WP_region ?_
    refine WL_v rfl (VS_ixF (m := (Int.toNat x32)) f22 rfl rfl rfl (inb_e hg39).1 (inb_e hg39).2) ?_
    refine WL_v rfl (VS_ldaF (M := L_runs_Run) f22 (Pth.idx (L := L_runs_Run) (m := (a0.Runs.length)) (k := 2) ((Int.toNat x32)) (inb_e hg39).2 rfl) rfl rfl (by decide)) ?_
    refine WL_x rfl (RX_allocL (L := L_runs_Run) (z := Z_runs_Run) ⟨by kernel_rfl⟩) (fun b5 _ => ?_)
    refine WL_x0 (RX_st (M := L_runs_Run) (Pth.id (L := L_runs_Run)) (a0.Runs.getD (Int.toNat x32) default) x40 hx40 rfl rfl rfl rfl) (fun _ _ => ?_)
    refine WL_nil ?_
    refine WQ_then ?_
    refine WP_seq ?_
    obtain ⟨x41, hx41, h⟩ := bd_e h
    refine WP_region ?_
    refine WL_v rfl (VS_loadall rfl (Lay.len _ f35)) ?_
    refine WL_v rfl (VS_field0 rfl) ?_
    refine WL_v rfl (VS_ldi P_runs_Run_At rfl) ?_
    refine WL_v rfl (VS_field0 rfl) ?_
    refine WL_v rfl (VS_ldi P_runs_Run_N rfl) ?_
    refine WL_x rfl (RX_callB (c_runs_Runs_Give (K := (Hs [.ext bs30 J31])) (Lay.mono _ ent f35) hx41) rfl) (fun ⟨w42, bs43, J44⟩ hp45 => ?_)
    obtain ⟨c47, rfl, f46⟩ := hp45
    replace f46 : (L_runs_Runs).rep (fun w => (Hs [.ext bs30 J31]) w ∧ Hs [.ext bs43 J44] w) c47 x41.1 := f46
    refine WL_v rfl (VS_move rfl) ?_
    refine WL_v rfl (VS_extract rfl rfl) ?_
    refine WL_v rfl (VS_extract rfl rfl) ?_
    refine WL_x rfl (RX_alloc (hz := (⟨by kernel_rfl⟩ : TZero Try.prog 46 zc_runs_Runs))) (fun b6 _ => ?_)
    obtain ⟨c48, hc48, f49⟩ : ∃ cc, splice zc_runs_Runs 0 c47 = cc ∧ (L_runs_Runs).rep (Hs [.ext bs30 J31, .ext bs43 J44]) cc x41.1 := ⟨_, rfl, (Pth.id (L := L_runs_Runs)).set (Lay.mono _ ent (show (L_runs_Runs).rep (Hs []) zc_runs_Runs Z_runs_Runs from zr_runs_Runs)) (Lay.mono _ ent f46)⟩
    refine WL_x0 (RX_stN c47 (Pth.id (L := L_runs_Runs)) (v := x41.1) (r := (show (L_runs_Runs).rep (Hs []) zc_runs_Runs Z_runs_Runs from zr_runs_Runs)) (rv := ((Lay.mono _ ent f46) : (L_runs_Runs).rep (Hs [.ext bs30 J31, .ext bs43 J44]) c47 x41.1)) rfl rfl rfl rfl hc48) (fun _ _ => ?_)
    refine WL_v rfl (VS_assign rfl) ?_
    refine WL_nil ?_
    refine WQ_then ?_
    refine WP_seq ?_
    refine WP_seq ?_
    refine WP_region ?_
    refine WL_v rfl (VS_move rfl) ?_
    refine WL_v rfl (VS_not rfl) ?_
    refine WL_nil ?_
    refine WQ_then ?_
    refine WP_if rfl (fun hc => ?_) (fun hc => ?_)
    ·
      replace h := cn_t hc h
      refine WP_seq ?_
      refine WP_region ?_
      refine WL_v rfl (VS_assign rfl) ?_
      refine WL_nil ?_
      refine WQ_then ?_
      refine WP_ret ?_
      refine WQ_then_ret ?_
      refine WQ_block_ret ?_
      refine WQ_then_ret ?_
      refine WQ_then_ret ?_
      refine WQ_block_ret ?_
      refine WQ_then_ret ?_
      replace h := Option.some.inj h
      subst h
      exact WQ_ret () rfl (.tmp rfl .nil) trivial rfl (ks := []) rfl (by decide)
    ·
      replace h := cn_f hc h
      refine WP_skip ?_
      refine WQ_then ?_
      refine WP_region ?_
      refine WL_v rfl (VS_loadall rfl (Lay.len _ f49)) ?_
      obtain ⟨c50, hc50, f51⟩ : ∃ cc, splice c34 0 c48 = cc ∧ (L_runs_Runs).rep (Hs [.ext bs30 J31, .ext bs43 J44]) cc x41.1 := ⟨_, rfl, (Pth.id (L := L_runs_Runs)).set (Lay.mono _ ent f35) (Lay.mono _ ent f49)⟩
      refine WL_x0 (RX_stN c48 (Pth.id (L := L_runs_Runs)) (v := x41.1) (r := f35) (rv := ((Lay.mono _ ent f49) : (L_runs_Runs).rep (Hs [.ext bs30 J31, .ext bs43 J44]) c48 x41.1)) rfl rfl rfl rfl hc50) (fun _ _ => ?_)
      refine WL_nil ?_
      refine WQ_block ?_
      refine WQ_then ?_
      refine WP_region ?_
      refine WL_v rfl (VS_add rfl rfl rfl) ?_
      refine WL_v rfl (VS_move rfl) ?_
      refine WL_nil ?_
      refine WQ_bundle (R := [.ext bs43 J44, .ext bs30 J31]) (H' := [.cells b6 46 c48, .cells b5 57 (L_runs_Run.enc x40), .cells b3 46 c50, .cells b1 71 cs0]) (ks := [1, 3, 0, 2, 4, 5]) rfl (by decide) ?_
      exact WQ_loops (m37, wr .i64 (x32 + 1), x41.1, c50, (blks [.ext bs43 J44, .ext bs30 J31]), (Hs [.ext bs43 J44, .ext bs30 J31])) (Nat.lt_succ_self _) ⟨(Lay.mono _ ent f51), h⟩ (Sub_cons rfl (Sub_nil)) (.cons rfl (.cons rfl (.cons rfl (.cons rfl (.nil))))) (ks := [0, 3, 4]) rfl (by decide)
  ·
    replace h := cn_f hc h
    refine WP_exit ?_
    refine WQ_then_exit ?_
    refine WQ_then_exit ?_
    refine WQ_block_exit ?_
    refine WQ_then ?_
    refine WP_seq ?_
    obtain ⟨x52, hx52, _, h⟩ := cl_e h
    refine WP_draw mixed (.stg [] [(0, [1]), (1, [28]), (2, [29]), (3, [30]), (4, [1, 31]), (5, [31, 32]), (6, [1, 31]), (7, [31, 34]), (8, [31, 35]), (9, [31, 33, 36]), (10, [31, 37])] (.alt 11 [38] (.fin [] []) .no)) (by kernel_rfl) ?_
    refine Stg_stg ?_ ?_
    · exact ReOk_nil
    refine NewOk_cons rfl rfl (VG_v rfl (VS_field0 rfl)) ?_
    refine NewOk_cons rfl rfl (VG_v rfl (VS_load rfl (P_extent_Extent_Len.int f0))) ?_
    refine NewOk_cons rfl rfl (VG_v rfl (VS_geq rfl rfl)) ?_
    refine NewOk_cons rfl rfl (VG_v rfl (VS_move rfl)) ?_
    refine NewOk_cons rfl rfl (VG_g (Gd_b rfl rfl) (fun hb => VS_field0 rfl)) ?_
    refine NewOk_cons rfl rfl (VG_g (Gd_b rfl rfl) (fun hb => VS_load (gev rfl hb) (P_extent_Extent_Len.int f0))) ?_
    refine NewOk_cons rfl rfl (VG_g (Gd_b rfl rfl) (fun hb => VS_loadall rfl (Lay.len _ f0))) ?_
    refine NewOk_cons rfl rfl (VG_g (Gd_b rfl rfl) (fun hb => VS_call (c_extent_Extent_Pages (K := K) (Lay.mono _ ent f0) (hx52 hb)) (evs_cons (gev rfl hb) rfl) kn)) ?_
    refine NewOk_cons rfl rfl (VG_g (Gd_b rfl rfl) (fun hb => VS_mul (gev rfl hb) rfl rfl)) ?_
    refine NewOk_cons rfl rfl (VG_g (Gd_b rfl rfl) (fun hb => VS_leq (gev rfl hb) (gev rfl hb))) ?_
    refine NewOk_cons rfl rfl (VG_v rfl (VS_and rfl rfl)) ?_
    refine NewOk_nil ?_
    refine Stg_some rfl rfl (RG_x rfl ((VS_assign rfl).rx)) (fun _ _ => ?_) Stg_no
    refine Stg_fin ?_ ?_
    · exact ReOk_nil
    refine NewOk_nil ?_
    refine WQ_then ?_
    refine WP_ret ?_
    replace h := Option.some.inj h
    subst h
    exact WQ_ret () rfl (.tmp rfl .nil) trivial rfl (ks := []) rfl (by decide)
structure ref04_Extent where
  Runs : (List (Nat → Int))
  Len : Int
abbrev L_ref04_Extent : Lay ref04_Extent := Lay.via (LP (LSl (LA (LI .i64) 2)) (LI .i64)) (fun x => (x.Runs, x.Len))
abbrev Z_ref04_Extent : ref04_Extent := ⟨[], 0⟩
instance : Inhabited ref04_Extent := ⟨Z_ref04_Extent⟩
def zc_ref04_Extent : List Value := [.slice none 0 0] ++ ([.int .i64 0])
theorem zr_ref04_Extent {A : World → Prop} : L_ref04_Extent.rep A zc_ref04_Extent Z_ref04_Extent := ⟨_, _, rfl, ⟨_, rfl, Fz.nil⟩, rfl⟩
theorem P_ref04_Extent_Runs : Pth L_ref04_Extent (LSl (LA (LI .i64) 2)) 0 (fun x => x.Runs) (fun x v => { x with Runs := v }) := (Pth.fst Pth.id).via _ _ _ 0 rfl (fun _ => rfl) (fun _ _ => rfl)
theorem P_ref04_Extent_Len : Pth L_ref04_Extent (LI .i64) 1 (fun x => x.Len) (fun x v => { x with Len := v }) := (Pth.snd Pth.id).via _ _ _ 1 rfl (fun _ => rfl) (fun _ _ => rfl)
def law04_Of (n : Nat) (a0 : ref04_Extent) : Option extent_Extent :=
  lt ({ Runs := [], Len := a0.Len } : extent_Extent) fun x21 =>
  loop2 (fun k36 (x30 : Int) (x31 : extent_Extent) =>
  cn (decide (x30 < (a0.Runs.length : Int))) (
  gu (inb x30 a0.Runs.length) <|
  gu (inb x30 a0.Runs.length) <|
  lt ({ At := ((a0.Runs.getD (Int.toNat x30) default) 0), N := ((a0.Runs.getD (Int.toNat x30) default) 1) } : runs_Run) fun x45 =>
  gu (apok x31.Runs.length 1 16) <|
  lt (x31.Runs ++ ([x45]) : List runs_Run) fun x47 =>
  lt ({ x31 with Runs := x47 } : extent_Extent) fun x50 =>
  k36 (wr .i64 (x30 + 1)) ({ x31 with Runs := x47 })) (
  some x31)) n 0 ({ Runs := ([] : List runs_Run), Len := a0.Len } : extent_Extent)
theorem c_law04_Of {n : Nat} {a0 : ref04_Extent} {r : extent_Extent} {K : World → Prop} [Stable K] {cs0 : List Value} (f0 : (L_ref04_Extent).rep K cs0 a0) (h : law04_Of n a0 = some r) : FnB Try.prog 104 [.agg cs0.toArray] K (fun J v => ∃ u0, v = (.agg u0.toArray) ∧ (L_extent_Extent).rep (fun w => K w ∧ J w) u0 (r)) := by
  unfold law04_Of at h
  refine fn_of Try.func104 (by kernel_rfl) rfl Try.ntmps104 rfl (fun cx hbs hpre hro => ?_)
  haveI := knf_pre hbs hpre
  refine WP_seq ?_
  refine WP_region ?_
  refine WL_x rfl (RX_boxa rfl) (fun b1 _ => ?_)
  refine WL_x rfl (RX_alloc (hz := (⟨by kernel_rfl⟩ : TZero Try.prog 71 zc_extent_Extent))) (fun b2 _ => ?_)
  refine WL_nil ?_
  refine WQ_then ?_
  refine WP_seq ?_
  obtain ⟨x21, hx21, h⟩ := lt_e h
  refine WP_region ?_
  refine WL_v rfl (VS_field0 rfl) ?_
  refine WL_v rfl (VS_load rfl (P_ref04_Extent_Len.int f0)) ?_
  obtain ⟨c22, hc22, f23⟩ : ∃ cc, ([.slice none 0 0] ++ ((LI .i64).enc a0.Len)) = cc ∧ (L_extent_Extent).rep (Hs []) cc x21 := ⟨_, rfl, by rw [hx21]; exact ⟨_, _, rfl, ⟨_, rfl, Fz.nil⟩, (FlatL.iff.2 rfl)⟩⟩
  refine WL_v rfl (VS_build (cs := c22) rfl (by rw [← hc22]; rfl)) ?_
  refine WL_x rfl (RX_alloc (hz := (⟨by kernel_rfl⟩ : TZero Try.prog 71 zc_extent_Extent))) (fun b3 _ => ?_)
  refine WL_rowN 57 2 L_runs_Run ?_
  refine WL_x0 (RX_stN (cs' := ([.slice none 0 0] ++ ((LI .i64).enc a0.Len))) ([.slice none 0 0] ++ ((LI .i64).enc a0.Len)) (Pth.id (L := L_extent_Extent)) (v := ({ Runs := ([] : List runs_Run), Len := a0.Len } : extent_Extent)) (r := (show (L_extent_Extent).rep (Hs []) zc_extent_Extent Z_extent_Extent from zr_extent_Extent)) (rv := (show (L_extent_Extent).rep (Hs [Row (.slice none 0 0) 57 2 L_runs_Run ([] : List runs_Run)]) ([.slice none 0 0] ++ ((LI .i64).enc a0.Len)) ({ Runs := ([] : List runs_Run), Len := a0.Len } : extent_Extent) from ⟨_, _, rfl, ⟨_, rfl, (Fz.row (e := 57) (sz := 2) (L := L_runs_Run) (xs := ([] : List runs_Run)) rfl ⟨_, _, rfl⟩).mono ent⟩, (FlatL.iff.2 rfl)⟩)) rfl rfl (by rw [← hc22]; rfl) rfl rfl) (fun _ _ => ?_)
  refine WL_nil ?_
  refine WQ_then ?_
  refine WP_seq ?_
  refine WP_seq ?_
  refine WP_region ?_
  refine WL_v rfl (VS_assign rfl) ?_
  refine WL_nil ?_
  refine WQ_then ?_
  refine WP_block ?_
  obtain ⟨lb34, hlb34, h⟩ := lp2_i h
  refine WP_loops (α := Nat × Int × extent_Extent × Value) [1, 2, 3] (.cons rfl (.cons rfl (.cons rfl (.nil)))) (fun (m35, x30, x31, v32) => [(4, .int .i64 x30)]) (fun (m35, x30, x31, v32) => [Row v32 57 2 L_runs_Run x31.Runs, .cells b3 71 ([v32] ++ ((LI .i64).enc x31.Len)), .cells b2 71 zc_extent_Extent, .cells b1 80 cs0]) (fun (m35, x30, x31, v32) => SlN v32 x31.Runs.length ∧ loop2 lb34 m35 x30 x31 = some r) (fun (m35, x30, x31, v32) => m35) (n, 0, ({ Runs := ([] : List runs_Run), Len := a0.Len } : extent_Extent), .slice none 0 0) ⟨⟨_, _, rfl⟩, h⟩ (Sub_cons rfl (Sub_nil)) (ks := [0, 1, 2, 3]) rfl (by decide) ?_
  rintro ⟨m35, x30, x31, v32⟩ ⟨hs33, h⟩
  replace h : loop2 lb34 m35 x30 x31 = some r := h
  replace h := lp2_s hlb34 h
  obtain ⟨m35, rfl, h⟩ := h
  refine WP_seq ?_
  refine WP_seq ?_
  refine WP_region ?_
  refine WL_v rfl (VS_move rfl) ?_
  refine WL_v rfl (VS_field0 rfl) ?_
  obtain ⟨v37, hv37, f38⟩ := P_ref04_Extent_Runs.sl f0
  refine WL_v rfl (VS_load rfl hv37) ?_
  refine WL_v rfl (VS_lenF f38 rfl) ?_
  refine WL_v rfl (VS_lss rfl rfl) ?_
  refine WL_nil ?_
  refine WQ_then ?_
  refine WP_if rfl (fun hc => ?_) (fun hc => ?_)
  ·
    replace h := cn_t hc h
    refine WP_skip ?_
    refine WQ_then ?_
    refine WP_seq ?_
    refine WP_block ?_
    obtain ⟨hg41, h⟩ := gu_e h
    obtain ⟨hg44, h⟩ := gu_e h
    obtain ⟨x45, hx45, h⟩ := lt_e h
    obtain ⟨hg46, h⟩ := gu_e h
    obtain ⟨x47, hx47, h⟩ := lt_e h
    obtain ⟨x50, hx50, h⟩ := lt_e h
    refine WP_draw mixed (.stg [] [(0, [3]), (1, [15]), (2, [1]), (3, [17]), (4, [4]), (5, [18, 19]), (6, [20]), (7, [21]), (8, [1]), (9, [23]), (10, [4]), (11, [24, 25]), (12, [26]), (13, [27]), (14, [22, 28])] (.alt 15 [29] (.stg [(0, [3]), (1, [15])] [] (.alt 16 [16, 30] (.stg [] [(17, [3])] (.alt 18 [31, 32] (.fin [] []) .no)) .no)) .no)) (by kernel_rfl) ?_
    refine Stg_stg ?_ ?_
    · exact ReOk_nil
    refine NewOk_cons rfl rfl (VG_v rfl (VS_field0 rfl)) ?_
    refine NewOk_cons rfl rfl (VG_v rfl (VS_load rfl rfl)) ?_
    refine NewOk_cons rfl rfl (VG_v rfl (VS_field0 rfl)) ?_
    obtain ⟨v39, hv39, f40⟩ := P_ref04_Extent_Runs.sl f0
    refine NewOk_cons rfl rfl (VG_v rfl (VS_load rfl hv39)) ?_
    refine NewOk_cons rfl rfl (VG_v rfl (VS_move rfl)) ?_
    refine NewOk_cons rfl rfl (VG_v rfl (VS_ixF (m := (Int.toNat x30)) f40 rfl rfl rfl (inb_e hg41).1 (inb_e hg41).2)) ?_
    refine NewOk_cons rfl rfl (VG_v rfl (VS_ixR (m := 0) f40 rfl rfl (inb_e hg41).2 rfl (by decide))) ?_
    refine NewOk_cons rfl rfl (VG_v rfl (VS_ldiF f40 ((Pth.idx (L := (LA (LI .i64) 2)) (m := (a0.Runs.length)) (k := 2) ((Int.toNat x30)) (inb_e hg41).2 rfl).comp (Pth.idx (L := (LI .i64)) (m := 2) (k := 1) (0) (by decide) rfl)) rfl)) ?_
    refine NewOk_cons rfl rfl (VG_v rfl (VS_field0 rfl)) ?_
    obtain ⟨v42, hv42, f43⟩ := P_ref04_Extent_Runs.sl f0
    refine NewOk_cons rfl rfl (VG_v rfl (VS_load rfl hv42)) ?_
    refine NewOk_cons rfl rfl (VG_v rfl (VS_move rfl)) ?_
    refine NewOk_cons rfl rfl (VG_v rfl (VS_ixF (m := (Int.toNat x30)) f43 rfl rfl rfl (inb_e hg44).1 (inb_e hg44).2)) ?_
    refine NewOk_cons rfl rfl (VG_v rfl (VS_ixR (m := 1) f43 rfl rfl (inb_e hg44).2 rfl (by decide))) ?_
    refine NewOk_cons rfl rfl (VG_v rfl (VS_ldiF f43 ((Pth.idx (L := (LA (LI .i64) 2)) (m := (a0.Runs.length)) (k := 2) ((Int.toNat x30)) (inb_e hg44).2 rfl).comp (Pth.idx (L := (LI .i64)) (m := 2) (k := 1) (1) (by decide) rfl)) rfl)) ?_
    refine NewOk_cons rfl rfl (VG_v rfl (VS_build (cs := L_runs_Run.enc x45) rfl (by rw [hx45]; rfl))) ?_
    refine NewOk_nil ?_
    refine Stg_some rfl rfl (RG_x rfl (RX_bs1 L_runs_Run x45 rfl rfl rfl rfl (by decide) (by decide))) (fun b30 _ => ?_) Stg_no
    refine Stg_stg ?_ ?_
    ·
      refine ReOk_cons rfl rfl (VG_v rfl (VS_field0 rfl)) ?_
      refine ReOk_cons rfl rfl (VG_v rfl (VS_val (VS_load rfl rfl) rfl)) ?_
      exact ReOk_nil
    refine NewOk_nil ?_
    refine Stg_some rfl rfl (RG_x rfl (RX_app1 (sz := 2) (L := L_runs_Run) (xs := x31.Runs) (y := x45) (bytes := 16) rfl rfl rfl (apok_e hg46).1 (apok_e hg46).2)) (fun v48 hs49 => ?_) Stg_no
    rw [← hx47] at hs49; rw [← hx47]
    refine Stg_stg ?_ ?_
    · exact ReOk_nil
    refine NewOk_cons rfl rfl (VG_v rfl (VS_field0 rfl)) ?_
    refine NewOk_nil ?_
    refine Stg_none rfl (RG_x rfl (RX_stN (cs' := ([v48] ++ ((LI .i64).enc x31.Len))) ([v48]) P_extent_Extent_Runs (v := x47) (r := (show (L_extent_Extent).rep (fun _ => False) ([v32] ++ ((LI .i64).enc x31.Len)) x31 from ⟨_, _, rfl, ⟨_, rfl, ⟨hs33, fun _ h => h.elim⟩⟩, (FlatL.iff.2 rfl)⟩)) (rv := (⟨_, rfl, (Fz.row (e := 57) (sz := 2) (L := L_runs_Run) (xs := x47) rfl hs49)⟩ : ((LSl L_runs_Run)).rep (Hs [Row v48 57 2 L_runs_Run x47]) ([v48]) x47)) rfl rfl (Fz.row (e := 57) (sz := 2) (L := L_runs_Run) (xs := x47) rfl hs49).sl.cells rfl rfl)) (fun _ _ => ?_) Stg_no
    refine Stg_fin ?_ ?_
    · exact ReOk_nil
    refine NewOk_nil ?_
    refine WQ_block ?_
    refine WQ_then ?_
    refine WP_region ?_
    refine WL_v rfl (VS_move rfl) ?_
    refine WL_v rfl (VS_add rfl rfl rfl) ?_
    refine WL_v rfl (VS_assign rfl) ?_
    refine WL_nil ?_
    exact WQ_loops (m35, wr .i64 (x30 + 1), { x31 with Runs := x47 }, v48) (Nat.lt_succ_self _) ⟨hs49, h⟩ (Sub_cons rfl (Sub_nil)) (.cons rfl (.cons rfl (.cons rfl (.nil)))) (ks := [1, 2, 3, 4]) rfl (by decide)
  ·
    replace h := cn_f hc h
    refine WP_exit ?_
    refine WQ_then_exit ?_
    refine WQ_then_exit ?_
    refine WQ_block_exit ?_
    refine WQ_then ?_
    refine WP_seq ?_
    refine WP_region ?_
    refine WL_v rfl (VS_loadall rfl (Lay.len _ (show (L_extent_Extent).rep (Hs [Row v32 57 2 L_runs_Run x31.Runs]) ([v32] ++ ((LI .i64).enc x31.Len)) x31 from ⟨_, _, rfl, ⟨_, rfl, (Fz.row (e := 57) (sz := 2) (L := L_runs_Run) (xs := x31.Runs) rfl hs33).mono ent⟩, (FlatL.iff.2 rfl)⟩))) ?_
    obtain ⟨c51, hc51, f52⟩ : ∃ cc, splice zc_extent_Extent 0 ([v32] ++ ((LI .i64).enc x31.Len)) = cc ∧ (L_extent_Extent).rep (Hs [Row v32 57 2 L_runs_Run x31.Runs]) cc x31 := ⟨_, rfl, (Pth.id (L := L_extent_Extent)).set (Lay.mono _ ent (show (L_extent_Extent).rep (Hs []) zc_extent_Extent Z_extent_Extent from zr_extent_Extent)) (Lay.mono _ ent (show (L_extent_Extent).rep (Hs [Row v32 57 2 L_runs_Run x31.Runs]) ([v32] ++ ((LI .i64).enc x31.Len)) x31 from ⟨_, _, rfl, ⟨_, rfl, (Fz.row (e := 57) (sz := 2) (L := L_runs_Run) (xs := x31.Runs) rfl hs33).mono ent⟩, (FlatL.iff.2 rfl)⟩))⟩
    refine WL_x0 (RX_stN ([v32] ++ ((LI .i64).enc x31.Len)) (Pth.id (L := L_extent_Extent)) (v := x31) (r := (show (L_extent_Extent).rep (Hs []) zc_extent_Extent Z_extent_Extent from zr_extent_Extent)) (rv := ((Lay.mono _ ent (show (L_extent_Extent).rep (Hs [Row v32 57 2 L_runs_Run x31.Runs]) ([v32] ++ ((LI .i64).enc x31.Len)) x31 from ⟨_, _, rfl, ⟨_, rfl, (Fz.row (e := 57) (sz := 2) (L := L_runs_Run) (xs := x31.Runs) rfl hs33).mono ent⟩, (FlatL.iff.2 rfl)⟩)) : (L_extent_Extent).rep (Hs [Row v32 57 2 L_runs_Run x31.Runs]) ([v32] ++ ((LI .i64).enc x31.Len)) x31)) rfl rfl rfl rfl hc51) (fun _ _ => ?_)
    refine WL_nil ?_
    refine WQ_then ?_
    refine WP_ret ?_
    replace h := Option.some.inj h
    subst h
    refine WQ_bundle (R := [Row v32 57 2 L_runs_Run x31.Runs]) (H' := [.cells b2 71 c51]) (ks := [0, 2]) rfl (by decide) ?_
    have p53 : (L_extent_Extent).rep (fun w => K w ∧ (Hs [.ext (blks [Row v32 57 2 L_runs_Run x31.Runs]) (Hs [Row v32 57 2 L_runs_Run x31.Runs])]) w) c51 x31 := Lay.mono _ ent f52
    exact WQ_ret (.agg c51.toArray, blks [Row v32 57 2 L_runs_Run x31.Runs], Hs [Row v32 57 2 L_runs_Run x31.Runs]) rfl (.agg rfl inferInstance inferInstance (Lay.len _ f52) .nil) ⟨_, rfl, p53⟩ rfl (ks := [0]) rfl (by decide)
def law04_Same (n : Nat) (a0 : extent_Extent) (a1 : ref04_Extent) : Option Bool :=
  cn ((((a0.Runs.length : Int) != (a1.Runs.length : Int)) || (a0.Len != a1.Len))) (
  some false) (
  loop1 (fun k29 (x26 : Int) =>
  cn (decide (x26 < (a0.Runs.length : Int))) (
  gu (inb x26 a0.Runs.length) <|
  gu (inb x26 a1.Runs.length) <|
  gu (!((((a0.Runs.getD (Int.toNat x26) default).At) != ((a1.Runs.getD (Int.toNat x26) default) 0)) == false) || inb x26 a0.Runs.length) <|
  gu (!((((a0.Runs.getD (Int.toNat x26) default).At) != ((a1.Runs.getD (Int.toNat x26) default) 0)) == false) || inb x26 a1.Runs.length) <|
  cn (((((a0.Runs.getD (Int.toNat x26) default).At) != ((a1.Runs.getD (Int.toNat x26) default) 0)) || (((a0.Runs.getD (Int.toNat x26) default).N) != ((a1.Runs.getD (Int.toNat x26) default) 1)))) (
  some false) (
  k29 (wr .i64 (x26 + 1)))) (
  some true)) n 0)
theorem c_law04_Same {n : Nat} {a0 : extent_Extent} {a1 : ref04_Extent} {r : Bool} {K : World → Prop} [Stable K] {cs0 : List Value} (f0 : (L_extent_Extent).rep K cs0 a0) {cs1 : List Value} (f1 : (L_ref04_Extent).rep K cs1 a1) (h : law04_Same n a0 a1 = some r) : FnW Try.prog 116 [.agg cs0.toArray, .agg cs1.toArray] K (.bool r) := by
  unfold law04_Same at h
  refine fn_of Try.func116 (by kernel_rfl) rfl Try.ntmps116 rfl (fun cx hbs hpre hro => ?_)
  haveI := knf_pre hbs hpre
  refine WP_seq ?_
  refine WP_region ?_
  refine WL_x rfl (RX_boxa rfl) (fun b2 _ => ?_)
  refine WL_x rfl (RX_boxa rfl) (fun b3 _ => ?_)
  refine WL_v rfl (VS_assign rfl) ?_
  refine WL_nil ?_
  refine WQ_then ?_
  refine WP_seq ?_
  refine WP_seq ?_
  refine WP_region ?_
  refine WL_v rfl (VS_field0 rfl) ?_
  obtain ⟨v21, hv21, f22⟩ := P_extent_Extent_Runs.sl f0
  refine WL_v rfl (VS_load rfl hv21) ?_
  refine WL_v rfl (VS_lenF f22 rfl) ?_
  refine WL_v rfl (VS_field0 rfl) ?_
  obtain ⟨v23, hv23, f24⟩ := P_ref04_Extent_Runs.sl f1
  refine WL_v rfl (VS_load rfl hv23) ?_
  refine WL_v rfl (VS_lenF f24 rfl) ?_
  refine WL_v rfl (VS_neq rfl rfl) ?_
  refine WL_v rfl (VS_move rfl) ?_
  refine WL_g (Gd_b rfl rfl) rfl (fun hb => VS_field0 rfl) ?_
  refine WL_g (Gd_b rfl rfl) rfl (fun hb => VS_load (gev rfl hb) (P_extent_Extent_Len.int f0)) ?_
  refine WL_g (Gd_b rfl rfl) rfl (fun hb => VS_field0 rfl) ?_
  refine WL_g (Gd_b rfl rfl) rfl (fun hb => VS_load (gev rfl hb) (P_ref04_Extent_Len.int f1)) ?_
  refine WL_g (Gd_b rfl rfl) rfl (fun hb => VS_neq (gev rfl hb) (gev rfl hb)) ?_
  refine WL_v rfl (VS_or rfl rfl) ?_
  refine WL_nil ?_
  refine WQ_then ?_
  refine WP_if rfl (fun hc => ?_) (fun hc => ?_)
  ·
    replace h := cn_t hc h
    refine WP_seq ?_
    refine WP_region ?_
    refine WL_v rfl (VS_assign rfl) ?_
    refine WL_nil ?_
    refine WQ_then ?_
    refine WP_ret ?_
    refine WQ_then_ret ?_
    replace h := Option.some.inj h
    subst h
    exact WQ_ret () rfl (.tmp rfl .nil) trivial rfl (ks := []) rfl (by decide)
  ·
    replace h := cn_f hc h
    refine WP_skip ?_
    refine WQ_then ?_
    refine WP_seq ?_
    refine WP_seq ?_
    refine WP_region ?_
    refine WL_v rfl (VS_assign rfl) ?_
    refine WL_nil ?_
    refine WQ_then ?_
    refine WP_block ?_
    obtain ⟨lb27, hlb27, h⟩ := lp1_i h
    refine WP_loops (α := Nat × Int) [2, 3] (.cons rfl (.cons rfl (.nil))) (fun (m28, x26) => [(5, .int .i64 x26)]) (fun (m28, x26) => [.cells b3 80 cs1, .cells b2 71 cs0]) (fun (m28, x26) => loop1 lb27 m28 x26 = some r) (fun (m28, x26) => m28) (n, 0) h (Sub_cons rfl (Sub_nil)) (ks := [0, 1]) rfl (by decide) ?_
    rintro ⟨m28, x26⟩ h
    replace h : loop1 lb27 m28 x26 = some r := h
    replace h := lp1_s hlb27 h
    obtain ⟨m28, rfl, h⟩ := h
    refine WP_seq ?_
    refine WP_seq ?_
    refine WP_region ?_
    refine WL_v rfl (VS_move rfl) ?_
    refine WL_v rfl (VS_field0 rfl) ?_
    obtain ⟨v30, hv30, f31⟩ := P_extent_Extent_Runs.sl f0
    refine WL_v rfl (VS_load rfl hv30) ?_
    refine WL_v rfl (VS_lenF f31 rfl) ?_
    refine WL_v rfl (VS_lss rfl rfl) ?_
    refine WL_nil ?_
    refine WQ_then ?_
    refine WP_if rfl (fun hc => ?_) (fun hc => ?_)
    ·
      replace h := cn_t hc h
      refine WP_skip ?_
      refine WQ_then ?_
      refine WP_seq ?_
      refine WP_block ?_
      refine WP_seq ?_
      obtain ⟨hg34, h⟩ := gu_e h
      obtain ⟨hg37, h⟩ := gu_e h
      obtain ⟨hg40, h⟩ := gu_e h
      obtain ⟨hg43, h⟩ := gu_e h
      refine WP_draw mixed (.fin [] [(0, [2]), (1, [27]), (2, [5]), (3, [28, 29]), (4, [30]), (5, [31]), (6, [3]), (7, [33]), (8, [5]), (9, [34, 35]), (10, [36]), (11, [37]), (12, [32, 38]), (13, [39]), (14, [2, 40]), (15, [40, 41]), (16, [5, 40]), (17, [40, 42, 43]), (18, [40, 44]), (19, [40, 45]), (20, [3, 40]), (21, [40, 47]), (22, [5, 40]), (23, [40, 48, 49]), (24, [40, 50]), (25, [40, 51]), (26, [40, 46, 52]), (27, [40, 53])]) (by kernel_rfl) ?_
      refine Stg_fin ?_ ?_
      · exact ReOk_nil
      refine NewOk_cons rfl rfl (VG_v rfl (VS_field0 rfl)) ?_
      obtain ⟨v32, hv32, f33⟩ := P_extent_Extent_Runs.sl f0
      refine NewOk_cons rfl rfl (VG_v rfl (VS_load rfl hv32)) ?_
      refine NewOk_cons rfl rfl (VG_v rfl (VS_move rfl)) ?_
      refine NewOk_cons rfl rfl (VG_v rfl (VS_ixF (m := (Int.toNat x26)) f33 rfl rfl rfl (inb_e hg34).1 (inb_e hg34).2)) ?_
      refine NewOk_cons rfl rfl (VG_v rfl (VS_fldF f33 rfl (inb_e hg34).2)) ?_
      refine NewOk_cons rfl rfl (VG_v rfl (VS_ldiF f33 ((Pth.idx (L := L_runs_Run) (m := (a0.Runs.length)) (k := 2) ((Int.toNat x26)) (inb_e hg34).2 rfl).comp P_runs_Run_At) rfl)) ?_
      refine NewOk_cons rfl rfl (VG_v rfl (VS_field0 rfl)) ?_
      obtain ⟨v35, hv35, f36⟩ := P_ref04_Extent_Runs.sl f1
      refine NewOk_cons rfl rfl (VG_v rfl (VS_load rfl hv35)) ?_
      refine NewOk_cons rfl rfl (VG_v rfl (VS_move rfl)) ?_
      refine NewOk_cons rfl rfl (VG_v rfl (VS_ixF (m := (Int.toNat x26)) f36 rfl rfl rfl (inb_e hg37).1 (inb_e hg37).2)) ?_
      refine NewOk_cons rfl rfl (VG_v rfl (VS_ixR (m := 0) f36 rfl rfl (inb_e hg37).2 rfl (by decide))) ?_
      refine NewOk_cons rfl rfl (VG_v rfl (VS_ldiF f36 ((Pth.idx (L := (LA (LI .i64) 2)) (m := (a1.Runs.length)) (k := 2) ((Int.toNat x26)) (inb_e hg37).2 rfl).comp (Pth.idx (L := (LI .i64)) (m := 2) (k := 1) (0) (by decide) rfl)) rfl)) ?_
      refine NewOk_cons rfl rfl (VG_v rfl (VS_neq rfl rfl)) ?_
      refine NewOk_cons rfl rfl (VG_v rfl (VS_move rfl)) ?_
      refine NewOk_cons rfl rfl (VG_g (Gd_b rfl rfl) (fun hb => VS_field0 rfl)) ?_
      obtain ⟨v38, hv38, f39⟩ := guard_ex (g := ((((a0.Runs.getD (Int.toNat x26) default).At) != ((a1.Runs.getD (Int.toNat x26) default) 0)) == false)) (fun hb => P_extent_Extent_Runs.sl f0)
      refine NewOk_cons rfl rfl (VG_g (Gd_b rfl rfl) (fun hb => VS_load (gev rfl hb) (hv38 hb))) ?_
      refine NewOk_cons rfl rfl (VG_g (Gd_b rfl rfl) (fun hb => VS_move rfl)) ?_
      refine NewOk_cons rfl rfl (VG_g (Gd_b rfl rfl) (fun hb => VS_ixF (m := (Int.toNat x26)) (f39 hb) rfl (gev rfl hb) (gev rfl hb) (inb_e (imp_b hg40 hb)).1 (inb_e (imp_b hg40 hb)).2)) ?_
      refine NewOk_cons rfl rfl (VG_g (Gd_b rfl rfl) (fun hb => VS_fldF (f39 hb) (gev rfl hb) (inb_e (imp_b hg40 hb)).2)) ?_
      refine NewOk_cons rfl rfl (VG_g (Gd_b rfl rfl) (fun hb => VS_ldiF (f39 hb) ((Pth.idx (L := L_runs_Run) (m := (a0.Runs.length)) (k := 2) ((Int.toNat x26)) (inb_e (imp_b hg40 hb)).2 rfl).comp P_runs_Run_N) (gev rfl hb))) ?_
      refine NewOk_cons rfl rfl (VG_g (Gd_b rfl rfl) (fun hb => VS_field0 rfl)) ?_
      obtain ⟨v41, hv41, f42⟩ := guard_ex (g := ((((a0.Runs.getD (Int.toNat x26) default).At) != ((a1.Runs.getD (Int.toNat x26) default) 0)) == false)) (fun hb => P_ref04_Extent_Runs.sl f1)
      refine NewOk_cons rfl rfl (VG_g (Gd_b rfl rfl) (fun hb => VS_load (gev rfl hb) (hv41 hb))) ?_
      refine NewOk_cons rfl rfl (VG_g (Gd_b rfl rfl) (fun hb => VS_move rfl)) ?_
      refine NewOk_cons rfl rfl (VG_g (Gd_b rfl rfl) (fun hb => VS_ixF (m := (Int.toNat x26)) (f42 hb) rfl (gev rfl hb) (gev rfl hb) (inb_e (imp_b hg43 hb)).1 (inb_e (imp_b hg43 hb)).2)) ?_
      refine NewOk_cons rfl rfl (VG_g (Gd_b rfl rfl) (fun hb => VS_ixR (m := 1) (f42 hb) (gev rfl hb) rfl (inb_e (imp_b hg43 hb)).2 rfl (by decide))) ?_
      refine NewOk_cons rfl rfl (VG_g (Gd_b rfl rfl) (fun hb => VS_ldiF (f42 hb) ((Pth.idx (L := (LA (LI .i64) 2)) (m := (a1.Runs.length)) (k := 2) ((Int.toNat x26)) (inb_e (imp_b hg43 hb)).2 rfl).comp (Pth.idx (L := (LI .i64)) (m := 2) (k := 1) (1) (by decide) rfl)) (gev rfl hb))) ?_
      refine NewOk_cons rfl rfl (VG_g (Gd_b rfl rfl) (fun hb => VS_neq (gev rfl hb) (gev rfl hb))) ?_
      refine NewOk_cons rfl rfl (VG_v rfl (VS_or rfl rfl)) ?_
      refine NewOk_nil ?_
      refine WQ_then ?_
      refine WP_if rfl (fun hc => ?_) (fun hc => ?_)
      ·
        replace h := cn_t hc h
        refine WP_seq ?_
        refine WP_region ?_
        refine WL_v rfl (VS_assign rfl) ?_
        refine WL_nil ?_
        refine WQ_then ?_
        refine WP_ret ?_
        refine WQ_block_ret ?_
        refine WQ_then_ret ?_
        refine WQ_then_ret ?_
        refine WQ_block_ret ?_
        refine WQ_then_ret ?_
        replace h := Option.some.inj h
        subst h
        exact WQ_ret () rfl (.tmp rfl .nil) trivial rfl (ks := []) rfl (by decide)
      ·
        replace h := cn_f hc h
        refine WP_skip ?_
        refine WQ_block ?_
        refine WQ_then ?_
        refine WP_region ?_
        refine WL_v rfl (VS_move rfl) ?_
        refine WL_v rfl (VS_add rfl rfl rfl) ?_
        refine WL_v rfl (VS_assign rfl) ?_
        refine WL_nil ?_
        exact WQ_loops (m28, wr .i64 (x26 + 1)) (Nat.lt_succ_self _) h (Sub_cons rfl (Sub_nil)) (.cons rfl (.cons rfl (.nil))) (ks := [0, 1]) rfl (by decide)
    ·
      replace h := cn_f hc h
      refine WP_exit ?_
      refine WQ_then_exit ?_
      refine WQ_then_exit ?_
      refine WQ_block_exit ?_
      refine WQ_then ?_
      refine WP_seq ?_
      refine WP_region ?_
      refine WL_v rfl (VS_assign rfl) ?_
      refine WL_nil ?_
      refine WQ_then ?_
      refine WP_ret ?_
      replace h := Option.some.inj h
      subst h
      exact WQ_ret () rfl (.tmp rfl .nil) trivial rfl (ks := []) rfl (by decide)
def ref04_Extent_May (n : Nat) (a0 : ref04_Extent) : Option Bool :=
  loop3 (fun k31 (x26 : Int) (x27 : Int) (x28 : (Nat → Bool)) =>
  cn (decide (x27 < (a0.Runs.length : Int))) (
  gu (inb x27 a0.Runs.length) <|
  gu (inb x27 a0.Runs.length) <|
  cn (((((decide (((a0.Runs.getD (Int.toNat x27) default) 1) < 1) || decide (64 < ((a0.Runs.getD (Int.toNat x27) default) 1))) || decide (((a0.Runs.getD (Int.toNat x27) default) 0) < 0)) || decide (63 < ((a0.Runs.getD (Int.toNat x27) default) 0))) || decide (64 < (wr .i64 (((a0.Runs.getD (Int.toNat x27) default) 0) + ((a0.Runs.getD (Int.toNat x27) default) 1)))))) (
  some false) (
  loop2 (fun k47 (x43 : Int) (x44 : (Nat → Bool)) =>
  cn (decide (x43 < (wr .i64 (((a0.Runs.getD (Int.toNat x27) default) 0) + ((a0.Runs.getD (Int.toNat x27) default) 1))))) (
  gu (inb x43 64) <|
  cn ((x44 (Int.toNat x43))) (
  some false) (
  gu (inb x43 64) <|
  lt ((upd x44 (Int.toNat x43) true) : (Nat → Bool)) fun x50 =>
  k47 (wr .i64 (x43 + 1)) x50)) (
  k31 (wr .i64 (x26 + ((a0.Runs.getD (Int.toNat x27) default) 1))) (wr .i64 (x27 + 1)) x44)) n ((a0.Runs.getD (Int.toNat x27) default) 0) x28)) (
  some (decide (0 ≤ a0.Len) && decide (a0.Len ≤ (wr .i64 (32 * x26)))))) n 0 0 (fun _ => false)
theorem c_ref04_Extent_May {n : Nat} {a0 : ref04_Extent} {r : Bool} {K : World → Prop} [Stable K] {cs0 : List Value} (f0 : (L_ref04_Extent).rep K cs0 a0) (h : ref04_Extent_May n a0 = some r) : FnW Try.prog 154 [.agg cs0.toArray] K (.bool r) := by
  unfold ref04_Extent_May at h
  refine fn_of Try.func154 (by kernel_rfl) rfl Try.ntmps154 rfl (fun cx hbs hpre hro => ?_)
  haveI := knf_pre hbs hpre
  refine WP_seq ?_
  refine WP_region ?_
  refine WL_x rfl (RX_boxa rfl) (fun b1 _ => ?_)
  refine WL_v rfl (VS_assign rfl) ?_
  refine WL_nil ?_
  refine WQ_then ?_
  refine WP_seq ?_
  refine WP_region ?_
  refine WL_x rfl (RX_allocL (L := (LA LB 64)) (z := (fun _ => false)) ⟨by kernel_rfl⟩) (fun b3 _ => ?_)
  refine WL_nil ?_
  refine WQ_then ?_
  refine WP_seq ?_
  refine WP_region ?_
  refine WL_v rfl (VS_assign rfl) ?_
  refine WL_nil ?_
  refine WQ_then ?_
  refine WP_seq ?_
  refine WP_seq ?_
  refine WP_region ?_
  refine WL_v rfl (VS_assign rfl) ?_
  refine WL_nil ?_
  refine WQ_then ?_
  refine WP_block ?_
  obtain ⟨lb29, hlb29, h⟩ := lp3_i h
  refine WP_loops (α := Nat × Int × Int × (Nat → Bool)) [1, 3] (.cons rfl (.cons rfl (.nil))) (fun (m30, x26, x27, x28) => [(4, .int .i64 x26), (5, .int .i64 x27)]) (fun (m30, x26, x27, x28) => [.cells b3 37 ((LA LB 64).enc x28), .cells b1 80 cs0]) (fun (m30, x26, x27, x28) => loop3 lb29 m30 x26 x27 x28 = some r) (fun (m30, x26, x27, x28) => m30) (n, 0, 0, (fun _ => false)) h (Sub_cons rfl (Sub_cons rfl (Sub_nil))) (ks := [0, 1]) rfl (by decide) ?_
  rintro ⟨m30, x26, x27, x28⟩ h
  replace h : loop3 lb29 m30 x26 x27 x28 = some r := h
  replace h := lp3_s hlb29 h
  obtain ⟨m30, rfl, h⟩ := h
  refine WP_seq ?_
  refine WP_seq ?_
  refine WP_region ?_
  refine WL_v rfl (VS_move rfl) ?_
  refine WL_v rfl (VS_field0 rfl) ?_
  obtain ⟨v32, hv32, f33⟩ := P_ref04_Extent_Runs.sl f0
  refine WL_v rfl (VS_load rfl hv32) ?_
  refine WL_v rfl (VS_lenF f33 rfl) ?_
  refine WL_v rfl (VS_lss rfl rfl) ?_
  refine WL_nil ?_
  refine WQ_then ?_
  refine WP_if rfl (fun hc => ?_) (fun hc => ?_)
  ·
    replace h := cn_t hc h
    refine WP_skip ?_
    refine WQ_then ?_
    refine WP_seq ?_
    refine WP_block ?_
    refine WP_seq ?_
    obtain ⟨hg36, h⟩ := gu_e h
    obtain ⟨hg39, h⟩ := gu_e h
    refine WP_draw mixed (.stg [] [(0, [1]), (1, [16]), (2, [5]), (3, [17, 18]), (4, [19]), (5, [20]), (6, [1]), (7, [22]), (8, [5]), (9, [23, 24]), (10, [25]), (11, [26])] (.alt 12 [21] (.stg [(6, [1]), (7, [22]), (8, [5]), (9, [23, 24]), (10, [25]), (11, [26])] [] (.alt 13 [27] (.fin [] []) .no)) .no)) (by kernel_rfl) ?_
    refine Stg_stg ?_ ?_
    · exact ReOk_nil
    refine NewOk_cons rfl rfl (VG_v rfl (VS_field0 rfl)) ?_
    obtain ⟨v34, hv34, f35⟩ := P_ref04_Extent_Runs.sl f0
    refine NewOk_cons rfl rfl (VG_v rfl (VS_load rfl hv34)) ?_
    refine NewOk_cons rfl rfl (VG_v rfl (VS_move rfl)) ?_
    refine NewOk_cons rfl rfl (VG_v rfl (VS_ixF (m := (Int.toNat x27)) f35 rfl rfl rfl (inb_e hg36).1 (inb_e hg36).2)) ?_
    refine NewOk_cons rfl rfl (VG_v rfl (VS_ixR (m := 0) f35 rfl rfl (inb_e hg36).2 rfl (by decide))) ?_
    refine NewOk_cons rfl rfl (VG_v rfl (VS_ldiF f35 ((Pth.idx (L := (LA (LI .i64) 2)) (m := (a0.Runs.length)) (k := 2) ((Int.toNat x27)) (inb_e hg36).2 rfl).comp (Pth.idx (L := (LI .i64)) (m := 2) (k := 1) (0) (by decide) rfl)) rfl)) ?_
    refine NewOk_cons rfl rfl (VG_v rfl (VS_field0 rfl)) ?_
    obtain ⟨v37, hv37, f38⟩ := P_ref04_Extent_Runs.sl f0
    refine NewOk_cons rfl rfl (VG_v rfl (VS_load rfl hv37)) ?_
    refine NewOk_cons rfl rfl (VG_v rfl (VS_move rfl)) ?_
    refine NewOk_cons rfl rfl (VG_v rfl (VS_ixF (m := (Int.toNat x27)) f38 rfl rfl rfl (inb_e hg39).1 (inb_e hg39).2)) ?_
    refine NewOk_cons rfl rfl (VG_v rfl (VS_ixR (m := 1) f38 rfl rfl (inb_e hg39).2 rfl (by decide))) ?_
    refine NewOk_cons rfl rfl (VG_v rfl (VS_ldiF f38 ((Pth.idx (L := (LA (LI .i64) 2)) (m := (a0.Runs.length)) (k := 2) ((Int.toNat x27)) (inb_e hg39).2 rfl).comp (Pth.idx (L := (LI .i64)) (m := 2) (k := 1) (1) (by decide) rfl)) rfl)) ?_
    refine NewOk_nil ?_
    refine Stg_some rfl rfl (RG_x rfl ((VS_assign rfl).rx)) (fun _ _ => ?_) Stg_no
    refine Stg_stg ?_ ?_
    ·
      refine ReOk_cons rfl rfl (VG_v rfl (VS_field0 rfl)) ?_
      refine ReOk_cons rfl rfl (VG_v rfl (VS_val (VS_load rfl hv37) rfl)) ?_
      refine ReOk_cons rfl rfl (VG_v rfl (VS_move rfl)) ?_
      refine ReOk_cons rfl rfl (VG_v rfl (VS_val (VS_ixF (m := (Int.toNat x27)) f38 rfl rfl rfl (inb_e hg39).1 (inb_e hg39).2) rfl)) ?_
      refine ReOk_cons rfl rfl (VG_v rfl (VS_val (VS_ixR (m := 1) f38 rfl rfl (inb_e hg39).2 rfl (by decide)) rfl)) ?_
      refine ReOk_cons rfl rfl (VG_v rfl (VS_val (VS_ldiF f38 ((Pth.idx (L := (LA (LI .i64) 2)) (m := (a0.Runs.length)) (k := 2) ((Int.toNat x27)) (inb_e hg39).2 rfl).comp (Pth.idx (L := (LI .i64)) (m := 2) (k := 1) (1) (by decide) rfl)) rfl) rfl)) ?_
      exact ReOk_nil
    refine NewOk_nil ?_
    refine Stg_some rfl rfl (RG_x rfl ((VS_assign rfl).rx)) (fun _ _ => ?_) Stg_no
    refine Stg_fin ?_ ?_
    · exact ReOk_nil
    refine NewOk_nil ?_
    refine WQ_then ?_
    refine WP_seq ?_
    refine WP_seq ?_
    refine WP_region ?_
    refine WL_v rfl (VS_move rfl) ?_
    refine WL_v rfl (VS_lss rfl rfl) ?_
    refine WL_v rfl (VS_move rfl) ?_
    refine WL_g (Gd_b rfl rfl) rfl (fun hb => VS_move rfl) ?_
    refine WL_g (Gd_b rfl rfl) rfl (fun hb => VS_gtr (gev rfl hb) rfl) ?_
    refine WL_v rfl (VS_or rfl rfl) ?_
    refine WL_v rfl (VS_move rfl) ?_
    refine WL_g (Gd_b rfl rfl) rfl (fun hb => VS_move rfl) ?_
    refine WL_g (Gd_b rfl rfl) rfl (fun hb => VS_lss (gev rfl hb) rfl) ?_
    refine WL_v rfl (VS_or rfl rfl) ?_
    refine WL_v rfl (VS_move rfl) ?_
    refine WL_g (Gd_b rfl rfl) rfl (fun hb => VS_move rfl) ?_
    refine WL_g (Gd_b rfl rfl) rfl (fun hb => VS_gtr (gev rfl hb) rfl) ?_
    refine WL_v rfl (VS_or rfl rfl) ?_
    refine WL_v rfl (VS_move rfl) ?_
    refine WL_g (Gd_b rfl rfl) rfl (fun hb => VS_move rfl) ?_
    refine WL_g (Gd_b rfl rfl) rfl (fun hb => VS_move rfl) ?_
    refine WL_g (Gd_b rfl rfl) rfl (fun hb => VS_add (gev rfl hb) (gev rfl hb) rfl) ?_
    refine WL_g (Gd_b rfl rfl) rfl (fun hb => VS_gtr (gev rfl hb) rfl) ?_
    refine WL_v rfl (VS_or rfl rfl) ?_
    refine WL_nil ?_
    refine WQ_then ?_
    refine WP_if rfl (fun hc => ?_) (fun hc => ?_)
    ·
      replace h := cn_t hc h
      refine WP_seq ?_
      refine WP_region ?_
      refine WL_v rfl (VS_assign rfl) ?_
      refine WL_nil ?_
      refine WQ_then ?_
      refine WP_ret ?_
      refine WQ_then_ret ?_
      refine WQ_block_ret ?_
      refine WQ_then_ret ?_
      refine WQ_then_ret ?_
      refine WQ_block_ret ?_
      refine WQ_then_ret ?_
      replace h := Option.some.inj h
      subst h
      exact WQ_ret () rfl (.tmp rfl .nil) trivial rfl (ks := []) rfl (by decide)
    ·
      replace h := cn_f hc h
      refine WP_skip ?_
      refine WQ_then ?_
      refine WP_seq ?_
      refine WP_seq ?_
      refine WP_region ?_
      refine WL_v rfl (VS_move rfl) ?_
      refine WL_v rfl (VS_assign rfl) ?_
      refine WL_nil ?_
      refine WQ_then ?_
      refine WP_block ?_
      obtain ⟨lb45, hlb45, h⟩ := lp2_i h
      refine WP_loops (α := Nat × Int × (Nat → Bool)) [1, 3, 4, 5, 6, 7] (.cons rfl (.cons rfl (.cons rfl (.cons rfl (.cons rfl (.cons rfl (.nil))))))) (fun (m46, x43, x44) => [(8, .int .i64 x43)]) (fun (m46, x43, x44) => [.cells b3 37 ((LA LB 64).enc x44), .cells b1 80 cs0]) (fun (m46, x43, x44) => loop2 lb45 m46 x43 x44 = some r) (fun (m46, x43, x44) => m46) (n, ((a0.Runs.getD (Int.toNat x27) default) 0), x28) h (Sub_cons rfl (Sub_nil)) (ks := [0, 1]) rfl (by decide) ?_
      rintro ⟨m46, x43, x44⟩ h
      replace h : loop2 lb45 m46 x43 x44 = some r := h
      replace h := lp2_s hlb45 h
      obtain ⟨m46, rfl, h⟩ := h
      refine WP_seq ?_
      refine WP_seq ?_
      refine WP_region ?_
      refine WL_v rfl (VS_move rfl) ?_
      refine WL_v rfl (VS_move rfl) ?_
      refine WL_v rfl (VS_move rfl) ?_
      refine WL_v rfl (VS_add rfl rfl rfl) ?_
      refine WL_v rfl (VS_lss rfl rfl) ?_
      refine WL_nil ?_
      refine WQ_then ?_
      refine WP_if rfl (fun hc => ?_) (fun hc => ?_)
      ·
        replace h := cn_t hc h
        refine WP_skip ?_
        refine WQ_then ?_
        refine WP_seq ?_
        refine WP_block ?_
        refine WP_seq ?_
        refine WP_seq ?_
        obtain ⟨hg48, h⟩ := gu_e h
        refine WP_region ?_
        refine WL_v rfl (VS_move rfl) ?_
        refine WL_v rfl (VS_index0 (m := (Int.toNat x43)) rfl rfl (inb_e hg48).1 (inb_e hg48).2) ?_
        refine WL_v rfl (VS_ldb (Pth.idx (L := LB) (m := 64) (k := 1) ((Int.toNat x43)) (inb_e hg48).2 rfl) rfl) ?_
        refine WL_nil ?_
        refine WQ_then ?_
        refine WP_if rfl (fun hc => ?_) (fun hc => ?_)
        ·
          replace h := cn_t hc h
          refine WP_seq ?_
          refine WP_region ?_
          refine WL_v rfl (VS_assign rfl) ?_
          refine WL_nil ?_
          refine WQ_then ?_
          refine WP_ret ?_
          refine WQ_then_ret ?_
          refine WQ_block_ret ?_
          refine WQ_then_ret ?_
          refine WQ_then_ret ?_
          refine WQ_block_ret ?_
          refine WQ_then_ret ?_
          refine WQ_block_ret ?_
          refine WQ_then_ret ?_
          refine WQ_then_ret ?_
          refine WQ_block_ret ?_
          refine WQ_then_ret ?_
          replace h := Option.some.inj h
          subst h
          exact WQ_ret () rfl (.tmp rfl .nil) trivial rfl (ks := []) rfl (by decide)
        ·
          replace h := cn_f hc h
          refine WP_skip ?_
          refine WQ_then ?_
          obtain ⟨hg49, h⟩ := gu_e h
          obtain ⟨x50, hx50, h⟩ := lt_e h
          refine WP_region ?_
          refine WL_v rfl (VS_move rfl) ?_
          refine WL_v rfl (VS_index0 (m := (Int.toNat x43)) rfl rfl (inb_e hg49).1 (inb_e hg49).2) ?_
          refine WL_x0 (RX_st (M := LB) (Pth.idx (L := LB) (m := 64) (k := 1) ((Int.toNat x43)) (inb_e hg49).2 rfl) true x50 hx50 rfl rfl rfl rfl) (fun _ _ => ?_)
          refine WL_nil ?_
          refine WQ_block ?_
          refine WQ_then ?_
          refine WP_region ?_
          refine WL_v rfl (VS_move rfl) ?_
          refine WL_v rfl (VS_add rfl rfl rfl) ?_
          refine WL_v rfl (VS_assign rfl) ?_
          refine WL_nil ?_
          exact WQ_loops (m46, wr .i64 (x43 + 1), x50) (Nat.lt_succ_self _) h (Sub_cons rfl (Sub_nil)) (.cons rfl (.cons rfl (.cons rfl (.cons rfl (.cons rfl (.cons rfl (.nil))))))) (ks := [0, 1]) rfl (by decide)
      ·
        replace h := cn_f hc h
        refine WP_exit ?_
        refine WQ_then_exit ?_
        refine WQ_then_exit ?_
        refine WQ_block_exit ?_
        refine WQ_then ?_
        refine WP_region ?_
        refine WL_v rfl (VS_move rfl) ?_
        refine WL_v rfl (VS_move rfl) ?_
        refine WL_v rfl (VS_add rfl rfl rfl) ?_
        refine WL_v rfl (VS_assign rfl) ?_
        refine WL_nil ?_
        refine WQ_block ?_
        refine WQ_then ?_
        refine WP_region ?_
        refine WL_v rfl (VS_move rfl) ?_
        refine WL_v rfl (VS_add rfl rfl rfl) ?_
        refine WL_v rfl (VS_assign rfl) ?_
        refine WL_nil ?_
        exact WQ_loops (m30, wr .i64 (x26 + ((a0.Runs.getD (Int.toNat x27) default) 1)), wr .i64 (x27 + 1), x44) (Nat.lt_succ_self _) h (Sub_cons rfl (Sub_cons rfl (Sub_nil))) (.cons rfl (.cons rfl (.nil))) (ks := [0, 1]) rfl (by decide)
  ·
    replace h := cn_f hc h
    refine WP_exit ?_
    refine WQ_then_exit ?_
    refine WQ_then_exit ?_
    refine WQ_block_exit ?_
    refine WQ_then ?_
    refine WP_seq ?_
    refine WP_region ?_
    refine WL_v rfl (VS_field0 rfl) ?_
    refine WL_v rfl (VS_load rfl (P_ref04_Extent_Len.int f0)) ?_
    refine WL_v rfl (VS_geq rfl rfl) ?_
    refine WL_v rfl (VS_move rfl) ?_
    refine WL_g (Gd_b rfl rfl) rfl (fun hb => VS_field0 rfl) ?_
    refine WL_g (Gd_b rfl rfl) rfl (fun hb => VS_load (gev rfl hb) (P_ref04_Extent_Len.int f0)) ?_
    refine WL_g (Gd_b rfl rfl) rfl (fun hb => VS_move rfl) ?_
    refine WL_g (Gd_b rfl rfl) rfl (fun hb => VS_mul rfl (gev rfl hb) rfl) ?_
    refine WL_g (Gd_b rfl rfl) rfl (fun hb => VS_leq (gev rfl hb) (gev rfl hb)) ?_
    refine WL_v rfl (VS_and rfl rfl) ?_
    refine WL_v rfl (VS_assign rfl) ?_
    refine WL_nil ?_
    refine WQ_then ?_
    refine WP_ret ?_
    replace h := Option.some.inj h
    subst h
    exact WQ_ret () rfl (.tmp rfl .nil) trivial rfl (ks := []) rfl (by decide)
end Go.Proofs.Ytmdpbdhkmfjlhaa
