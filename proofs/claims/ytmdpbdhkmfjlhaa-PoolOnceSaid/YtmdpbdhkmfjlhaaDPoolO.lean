/- Decompiled: what PoolOnce reaches beyond the pool's other statements. -/
import Derived.Test.YtmdpbdhkmfjlhaaDPool
namespace Go.Proofs.Ytmdpbdhkmfjlhaa
open Go Go.Bw
instance : TMap Try.prog 52 3 5 .i64 := ⟨⟨by kernel_rfl, by kernel_rfl⟩⟩
instance : TMap Try.prog 209 69 4 .u32 := ⟨⟨by kernel_rfl, by kernel_rfl⟩⟩
instance : TZv Try.prog 4 (Value.bool false) := ⟨by kernel_rfl⟩
instance : TZv Try.prog 5 (Value.int .u8 0) := ⟨by kernel_rfl⟩
def law02_PoolOnce (n : Nat) (a0 : Int) (a1 : (List law02_Act)) : Option Bool :=
  cn (((decide (200 < (a1.length : Int)) || decide (a0 < 1)) || decide (64 < a0))) (
  bd (law02_wakes n ) fun x21 =>
  some x21) (
  bd (pool_New n (wr .i64 a0)) fun x22 =>
  oc x22.1 (
  some false) fun px22 =>
  cn ((false || (x22.2 != 0))) (
  some false) (
  loop4 (fun k47 (x39 : Int) (x40 : (List (Int × Int))) (x41 : (List (Int × Int))) (x42 : pool_Pool) =>
  cn (decide (x39 < (a1.length : Int))) (
  gu (inb x39 a1.length) <|
  lt ((a1.getD (Int.toNat x39) default) : law02_Act) fun x49 =>
  cn ((x49.Do == 0)) (
  bd (pool_Pool_Claim n x42 (wr .i64 (1 + (Int.tmod (Int.tmod (wr .i64 ((Int.tmod x49.N 64) + 64)) 64) 5)))) fun x50 =>
  loop4 (fun k77 (x69 : Int) (x70 : pool_Pool) (x73 : (List (Int × Int))) (x74 : (List (Int × Int))) =>
  cn ((decide (x69 < (wr .i64 (x50.1 + (wr .i64 (1 + (Int.tmod (Int.tmod (wr .i64 ((Int.tmod x49.N 64) + 64)) 64) 5)))))) && (x50.2.1 == 0))) (
  cl ((((mhas x74 x69) || decide (x69 < 0)) || decide ((wr .i64 a0) ≤ x69)) == false) (pool_Pool_Clear n x70 x69) default fun x78 =>
  lt (bif ((((mhas x74 x69) || decide (x69 < 0)) || decide ((wr .i64 a0) ≤ x69)) == false) then x78.2 else x70 : pool_Pool) fun x83 =>
  cn (((((mhas x74 x69) || decide (x69 < 0)) || decide ((wr .i64 a0) ≤ x69)) || (x78.1 != 0))) (
  some false) (
  lt (mset x74 x69 (Int.tmod x49.B 4) : (List (Int × Int))) fun x84 =>
  loop2 (fun k92 (x88 : Int) (x89 : (List (Int × Int))) =>
  cn (decide (x88 < 32)) (
  lt (mset x89 (wr .i64 ((wr .i64 (x69 * 32)) + x88)) 0 : (List (Int × Int))) fun x93 =>
  k92 (wr .i64 (x88 + 1)) x93) (
  k77 (wr .i64 (x69 + 1)) x83 x89 x84)) n 0 x73)) (
  k47 (wr .i64 (x39 + 1)) x73 x74 x70)) n x50.1 x50.2.2 x40 x41) (
  cn ((((x49.Do == 2) && (mhas x41 (Int.tmod (wr .i64 ((Int.tmod x49.N 64) + 64)) 64))) && ((mget x41 (Int.tmod (wr .i64 ((Int.tmod x49.N 64) + 64)) 64) 0) == (Int.tmod x49.B 4)))) (
  bd (pool_Pool_Back n x42 (Int.tmod (wr .i64 ((Int.tmod x49.N 64) + 64)) 64)) fun x94 =>
  cn ((x94.1 != 0)) (
  some false) (
  lt (mdel x41 (Int.tmod (wr .i64 ((Int.tmod x49.N 64) + 64)) 64) : (List (Int × Int))) fun x102 =>
  k47 (wr .i64 (x39 + 1)) x40 x102 x94.2)) (
  cn (((mhas x41 (Int.tmod (wr .i64 ((Int.tmod x49.N 64) + 64)) 64)) && ((mget x41 (Int.tmod (wr .i64 ((Int.tmod x49.N 64) + 64)) 64) 0) == (Int.tmod x49.B 4)))) (
  bd (pool_Pool_Write n x42 (wr .i64 ((wr .i64 ((Int.tmod (wr .i64 ((Int.tmod x49.N 64) + 64)) 64) * 32)) + (Int.tmod (wr .i64 x49.Do) 32))) x49.B) fun x103 =>
  cn ((x103.1 != 0)) (
  some false) (
  lt (mset x40 (wr .i64 ((wr .i64 ((Int.tmod (wr .i64 ((Int.tmod x49.N 64) + 64)) 64) * 32)) + (Int.tmod (wr .i64 x49.Do) 32))) x49.B : (List (Int × Int))) fun x111 =>
  k47 (wr .i64 (x39 + 1)) x111 x41 x103.2)) (
  k47 (wr .i64 (x39 + 1)) x40 x41 x42)))) (
  loop2 (fun k127 (x121 : Int) (x122 : pool_Pool) =>
  cn (decide (x121 < (wr .i64 a0))) (
  bd (pool_Pool_Free n x122) fun x128 =>
  bd (runs_Runs_Has n x128 x121) fun x136 =>
  cn ((x136 == (mhas x41 x121))) (
  some false) (
  loop1 (fun k141 (x138 : Int) =>
  cn ((decide (x138 < 32) && (mhas x41 x121))) (
  bd (pool_Pool_Read n x122 (wr .i64 ((wr .i64 (x121 * 32)) + x138))) fun x142 =>
  cn (((x142.2 != 0) || (x142.1 != (mget x40 (wr .i64 ((wr .i64 (x121 * 32)) + x138)) 0)))) (
  some false) (
  k141 (wr .i64 (x138 + 1)))) (
  cl ((mhas x41 x121) == true) (pool_Pool_Back n x122 x121) default fun x143 =>
  lt (bif ((mhas x41 x121) == true) then x143.2 else x122 : pool_Pool) fun x148 =>
  cn (((mhas x41 x121) && (x143.1 != 0))) (
  some false) (
  k127 (wr .i64 (x121 + 1)) x148))) n 0)) (
  bd (pool_Pool_Free n x122) fun x149 =>
  bd (runs_Runs_All n x149) fun x157 =>
  gu (!(((x157.length : Int) == 1) == true) || inb 0 x157.length) <|
  gu (!((((x157.length : Int) == 1) && (((x157.getD (Int.toNat 0) default).At) == 0)) == true) || inb 0 x157.length) <|
  cl (((((x157.length : Int) == 1) && (((x157.getD (Int.toNat 0) default).At) == 0)) && (((x157.getD (Int.toNat 0) default).N) == (wr .i64 a0))) == true) (law02_wakes n ) default fun x166 =>
  some (((((x157.length : Int) == 1) && (((x157.getD (Int.toNat 0) default).At) == 0)) && (((x157.getD (Int.toNat 0) default).N) == (wr .i64 a0))) && x166))) n 0 x42)) n 0 ([] : List (Int × Int)) ([] : List (Int × Int)) px22))
theorem c_law02_PoolOnce {n : Nat} {a0 : Int} {a1 : (List law02_Act)} {r : Bool} {K : World → Prop} [Stable K] {v1 : Value} (f1 : Fz K v1 L_law02_Act a1) (h : law02_PoolOnce n a0 a1 = some r) : FnW Try.prog 5 [.int .u8 a0, v1] K (.bool r) := by
  unfold law02_PoolOnce at h
  refine fn_of Try.func5 (by kernel_rfl) rfl Try.ntmps5 rfl (fun cx hbs hpre hro => ?_)
  haveI := knf_pre hbs hpre
  refine WP_seq ?_
  refine WP_region ?_
  refine WL_v rfl (VS_assign rfl) ?_
  refine WL_nil ?_
  refine WQ_then ?_
  refine WP_seq ?_
  refine WP_seq ?_
  refine WP_region ?_
  refine WL_v rfl (VS_move rfl) ?_
  refine WL_v rfl (VS_lenF f1 rfl) ?_
  refine WL_v rfl (VS_gtr rfl rfl) ?_
  refine WL_v rfl (VS_move rfl) ?_
  refine WL_g (Gd_b rfl rfl) rfl (fun hb => VS_move rfl) ?_
  refine WL_g (Gd_b rfl rfl) rfl (fun hb => VS_lss (gev rfl hb) rfl) ?_
  refine WL_v rfl (VS_or rfl rfl) ?_
  refine WL_v rfl (VS_move rfl) ?_
  refine WL_g (Gd_b rfl rfl) rfl (fun hb => VS_move rfl) ?_
  refine WL_g (Gd_b rfl rfl) rfl (fun hb => VS_gtr (gev rfl hb) rfl) ?_
  refine WL_v rfl (VS_or rfl rfl) ?_
  refine WL_nil ?_
  refine WQ_then ?_
  refine WP_if rfl (fun hc => ?_) (fun hc => ?_)
  ·
    replace h := cn_t hc h
    refine WP_seq ?_
    obtain ⟨x21, hx21, h⟩ := bd_e h
    refine WP_region ?_
    refine WL_v rfl (VS_call (c_law02_wakes hx21) rfl (fun _ _ _ => trivial)) ?_
    refine WL_v rfl (VS_assign rfl) ?_
    refine WL_nil ?_
    refine WQ_then ?_
    refine WP_ret ?_
    refine WQ_then_ret ?_
    replace h := Option.some.inj h
    subst h
    exact WQ_ret () rfl (.tmp rfl .nil) trivial rfl (ks := []) rfl (by decide)
  ·
    replace h := cn_f hc h
    refine WP_skip ?_
    refine WQ_then ?_
    refine WP_seq ?_
    obtain ⟨x22, hx22, h⟩ := bd_e h
    rcases hqx22 : x22.1 with _ | px22
    ·
      replace h := oc_n hqx22 h
      refine WP_region ?_
      refine WL_v rfl (VS_move rfl) ?_
      refine WL_v rfl (VS_conv rfl rfl) ?_
      refine WL_x rfl (RX_call (FnP.nil (g := (fun v => .tuple #[v, .int .i64 x22.2])) (c_pool_New hx22) hqx22) rfl (fun _ _ _ => trivial)) (fun _ _ => ?_)
      dsimp only [List.cons_append, List.nil_append]
      refine WL_v rfl (VS_move rfl) ?_
      refine WL_v rfl (VS_extract rfl rfl) ?_
      refine WL_v rfl (VS_extract rfl rfl) ?_
      refine WL_v rfl (VS_assign rfl) ?_
      refine WL_v rfl (VS_assign rfl) ?_
      refine WL_nil ?_
      refine WQ_then ?_
      refine WP_seq ?_
      refine WP_seq ?_
      refine WP_region ?_
      refine WL_v rfl (VS_move rfl) ?_
      refine WL_v rfl (VS_eqlP0 (by kernel_rfl) rfl rfl) ?_
      refine WL_v rfl (VS_move rfl) ?_
      refine WL_g (Gd_b rfl rfl) rfl (fun hb => VS_move rfl) ?_
      refine WL_g (Gd_b rfl rfl) rfl (fun hb => VS_neq (gev rfl hb) rfl) ?_
      refine WL_v rfl (VS_or rfl rfl) ?_
      refine WL_nil ?_
      refine WQ_then ?_
      refine WP_true rfl ?_
      refine WP_seq ?_
      refine WP_region ?_
      refine WL_v rfl (VS_assign rfl) ?_
      refine WL_nil ?_
      refine WQ_then ?_
      refine WP_ret ?_
      refine WQ_then_ret ?_
      replace h := Option.some.inj h
      subst h
      exact WQ_ret () rfl (.tmp rfl .nil) trivial rfl (ks := []) rfl (by decide)
    ·
      replace h := oc_s hqx22 h
      refine WP_region ?_
      refine WL_v rfl (VS_move rfl) ?_
      refine WL_v rfl (VS_conv rfl rfl) ?_
      refine WL_x rfl (RX_call (FnP.some (g := (fun v => .tuple #[v, .int .i64 x22.2])) (c_pool_New hx22) hqx22) rfl (fun _ _ _ => trivial)) (fun ⟨b23, c24, bs25, J26⟩ f27 => ?_)
      dsimp only [List.cons_append, List.nil_append]
      dsimp only at f27
      refine WL_v rfl (VS_move rfl) ?_
      refine WL_v rfl (VS_extract rfl rfl) ?_
      refine WL_v rfl (VS_extract rfl rfl) ?_
      refine WL_v rfl (VS_assign rfl) ?_
      refine WL_v rfl (VS_assign rfl) ?_
      refine WL_nil ?_
      refine WQ_then ?_
      refine WP_seq ?_
      refine WP_seq ?_
      refine WP_region ?_
      refine WL_v rfl (VS_move rfl) ?_
      refine WL_v rfl (VS_eqlP (by kernel_rfl) rfl rfl) ?_
      refine WL_v rfl (VS_move rfl) ?_
      refine WL_g (Gd_b rfl rfl) rfl (fun hb => VS_move rfl) ?_
      refine WL_g (Gd_b rfl rfl) rfl (fun hb => VS_neq (gev rfl hb) rfl) ?_
      refine WL_v rfl (VS_or rfl rfl) ?_
      refine WL_nil ?_
      refine WQ_then ?_
      refine WP_if rfl (fun hc => ?_) (fun hc => ?_)
      ·
        replace h := cn_t hc h
        refine WP_seq ?_
        refine WP_region ?_
        refine WL_v rfl (VS_assign rfl) ?_
        refine WL_nil ?_
        refine WQ_then ?_
        refine WP_ret ?_
        refine WQ_then_ret ?_
        replace h := Option.some.inj h
        subst h
        exact WQ_ret () rfl (.tmp rfl .nil) trivial rfl (ks := []) rfl (by decide)
      ·
        replace h := cn_f hc h
        refine WP_skip ?_
        refine WQ_then ?_
        refine WP_seq ?_
        refine WP_region ?_
        refine WL_x rfl (RX_makeMap .i64 (Value.int .u8)) (fun b54 _ => ?_)
        refine WL_v rfl (VS_assign rfl) ?_
        refine WL_nil ?_
        refine WQ_then ?_
        refine WP_seq ?_
        refine WP_region ?_
        refine WL_x rfl (RX_makeMap .i64 (Value.int .u8)) (fun b55 _ => ?_)
        refine WL_v rfl (VS_assign rfl) ?_
        refine WL_nil ?_
        refine WQ_then ?_
        refine WP_seq ?_
        refine WP_seq ?_
        refine WP_region ?_
        refine WL_v rfl (VS_assign rfl) ?_
        refine WL_nil ?_
        refine WQ_then ?_
        refine WP_block ?_
        obtain ⟨lb45, hlb45, h⟩ := lp4_i h
        refine WP_ext0 ?_
        refine WP_loops (α := Nat × Int × (List (Int × Int)) × (List (Int × Int)) × pool_Pool × (List Value) × (List Nat) × (World → Prop)) [0, 1, 5, 7, 8] (.cons rfl (.cons rfl (.cons rfl (.cons rfl (.cons rfl (.nil)))))) (fun (m46, x39, x40, x41, x42, c43, bs37, J38) => [(9, .int .i64 x39)]) (fun (m46, x39, x40, x41, x42, c43, bs37, J38) => [.ext bs37 J38, Mp b55 .i64 (Value.int .u8) x40, Mp b54 .i64 (Value.int .u8) x41, .cells b23 159 c43, .ext bs25 J26]) (fun (m46, x39, x40, x41, x42, c43, bs37, J38) => (L_pool_Pool).rep (Hs [.ext bs25 J26, .ext bs37 J38]) c43 x42 ∧ loop4 lb45 m46 x39 x40 x41 x42 = some r) (fun (m46, x39, x40, x41, x42, c43, bs37, J38) => m46) (n, 0, ([] : List (Int × Int)), ([] : List (Int × Int)), px22, c24, [], (Hs [])) ⟨(Lay.mono _ ent f27), h⟩ (Sub_cons rfl (Sub_nil)) (ks := [0, 1, 2, 3, 4]) rfl (by decide) ?_
        rintro ⟨m46, x39, x40, x41, x42, c43, bs37, J38⟩ ⟨f44, h⟩
        replace h : loop4 lb45 m46 x39 x40 x41 x42 = some r := h
        replace h := lp4_s hlb45 h
        obtain ⟨m46, rfl, h⟩ := h
        refine WP_seq ?_
        refine WP_seq ?_
        refine WP_region ?_
        refine WL_v rfl (VS_move rfl) ?_
        refine WL_v rfl (VS_move rfl) ?_
        refine WL_v rfl (VS_lenF f1 rfl) ?_
        refine WL_v rfl (VS_lss rfl rfl) ?_
        refine WL_nil ?_
        refine WQ_then ?_
        refine WP_if rfl (fun hc => ?_) (fun hc => ?_)
        ·
          replace h := cn_t hc h
          refine WP_skip ?_
          refine WQ_then ?_
          refine WP_seq ?_
          refine WP_block ?_
          refine WP_seq ?_
          obtain ⟨hg48, h⟩ := gu_e h
          obtain ⟨x49, hx49, h⟩ := lt_e h
          refine WP_region ?_
          refine WL_v rfl (VS_move rfl) ?_
          refine WL_v rfl (VS_move rfl) ?_
          refine WL_v rfl (VS_ixF (m := (Int.toNat x39)) f1 rfl rfl rfl (inb_e hg48).1 (inb_e hg48).2) ?_
          refine WL_v rfl (VS_ldaF (M := L_law02_Act) f1 (Pth.idx (L := L_law02_Act) (m := (a1.length)) (k := 3) ((Int.toNat x39)) (inb_e hg48).2 rfl) rfl rfl (by decide)) ?_
          refine WL_x rfl (RX_allocL (L := L_law02_Act) (z := Z_law02_Act) ⟨by kernel_rfl⟩) (fun b10 _ => ?_)
          refine WL_x0 (RX_st (M := L_law02_Act) (Pth.id (L := L_law02_Act)) (a1.getD (Int.toNat x39) default) x49 hx49 rfl rfl rfl rfl) (fun _ _ => ?_)
          refine WL_nil ?_
          refine WQ_then ?_
          refine WP_seq ?_
          refine WP_region ?_
          refine WL_v rfl (VS_field0 rfl) ?_
          refine WL_v rfl (VS_ldi P_law02_Act_B rfl) ?_
          refine WL_v rfl (VS_rem rfl rfl (by decide) rfl) ?_
          refine WL_v rfl (VS_assign rfl) ?_
          refine WL_nil ?_
          refine WQ_then ?_
          refine WP_seq ?_
          refine WP_region ?_
          refine WL_v rfl (VS_field0 rfl) ?_
          refine WL_v rfl (VS_ldi P_law02_Act_N rfl) ?_
          refine WL_v rfl (VS_rem rfl rfl (by decide) rfl) ?_
          refine WL_v rfl (VS_add rfl rfl rfl) ?_
          refine WL_v rfl (VS_rem rfl rfl (by decide) rfl) ?_
          refine WL_v rfl (VS_assign rfl) ?_
          refine WL_nil ?_
          refine WQ_then ?_
          refine WP_seq ?_
          refine WP_region ?_
          refine WL_v rfl (VS_move rfl) ?_
          refine WL_v rfl (VS_move rfl) ?_
          refine WL_v rfl (VS_lookup2 0 rfl rfl) ?_
          refine WL_v rfl (VS_move rfl) ?_
          refine WL_v rfl (VS_extract rfl rfl) ?_
          refine WL_v rfl (VS_extract rfl rfl) ?_
          refine WL_v rfl (VS_assign rfl) ?_
          refine WL_v rfl (VS_assign rfl) ?_
          refine WL_nil ?_
          refine WQ_then ?_
          refine WP_block ?_
          refine WP_seq ?_
          refine WP_region ?_
          refine WL_v rfl (VS_field0 rfl) ?_
          refine WL_v rfl (VS_ldi P_law02_Act_Do rfl) ?_
          refine WL_v rfl (VS_eql rfl rfl) ?_
          refine WL_v rfl (VS_assign rfl) ?_
          refine WL_nil ?_
          refine WQ_then ?_
          refine WP_if rfl (fun hc => ?_) (fun hc => ?_)
          ·
            replace h := cn_t hc h
            refine WP_seq ?_
            refine WP_region ?_
            refine WL_v rfl (VS_move rfl) ?_
            refine WL_v rfl (VS_rem rfl rfl (by decide) rfl) ?_
            refine WL_v rfl (VS_add rfl rfl rfl) ?_
            refine WL_v rfl (VS_assign rfl) ?_
            refine WL_nil ?_
            refine WQ_then ?_
            refine WP_seq ?_
            obtain ⟨x50, hx50, h⟩ := bd_e h
            refine WP_region ?_
            refine WL_v rfl (VS_move rfl) ?_
            refine WL_v rfl (VS_move rfl) ?_
            refine WL_x rfl (RX_callH (K := (Hs [.ext bs25 J26, .ext bs37 J38])) (Hin := [.cells b23 159 c43]) (rest := [.cells b10 31 (L_law02_Act.enc x49), .ext bs37 J38, Mp b55 .i64 (Value.int .u8) x40, Mp b54 .i64 (Value.int .u8) x41, .ext bs25 J26]) (ks := [4, 0, 1, 2, 3, 5]) (c_pool_Pool_Claim (K := (Hs [.ext bs25 J26, .ext bs37 J38])) (Lay.mono _ ent f44) hx50) rfl rfl rfl rfl (by decide)) (fun ⟨w51, ho57, bs52, J53⟩ hp54 => ?_)
            obtain ⟨c56, rfl, rfl, f55⟩ := hp54
            replace f55 : (L_pool_Pool).rep (fun w => (Hs [.ext bs25 J26, .ext bs37 J38]) w ∧ Hs [.ext bs52 J53] w) c56 x50.2.2 := f55
            dsimp only [List.cons_append, List.nil_append]
            refine WL_v rfl (VS_move rfl) ?_
            refine WL_v rfl (VS_extract rfl rfl) ?_
            refine WL_v rfl (VS_extract rfl rfl) ?_
            refine WL_v rfl (VS_assign rfl) ?_
            refine WL_v rfl (VS_assign rfl) ?_
            refine WL_nil ?_
            refine WQ_then ?_
            refine WP_seq ?_
            refine WP_region ?_
            refine WL_v rfl (VS_move rfl) ?_
            refine WL_v rfl (VS_assign rfl) ?_
            refine WL_nil ?_
            refine WQ_then ?_
            refine WP_block ?_
            obtain ⟨lb75, hlb75, h⟩ := lp4_i h
            refine WP_ext0 ?_
            refine WP_loops (α := Nat × Int × pool_Pool × (List (Int × Int)) × (List (Int × Int)) × (List Value) × (List Nat) × (World → Prop)) [0, 1, 5, 7, 8, 9, 11, 15, 16, 17] (.cons rfl (.cons rfl (.cons rfl (.cons rfl (.cons rfl (.cons rfl (.cons rfl (.cons rfl (.cons rfl (.cons rfl (.nil))))))))))) (fun (m76, x69, x70, x73, x74, c71, bs67, J68) => [(18, .int .i64 x69)]) (fun (m76, x69, x70, x73, x74, c71, bs67, J68) => [.ext bs67 J68, .ext bs52 J53, .cells b23 159 c71, .cells b10 31 (L_law02_Act.enc x49), .ext bs37 J38, Mp b55 .i64 (Value.int .u8) x73, Mp b54 .i64 (Value.int .u8) x74, .ext bs25 J26]) (fun (m76, x69, x70, x73, x74, c71, bs67, J68) => (L_pool_Pool).rep (Hs [.ext bs25 J26, .ext bs37 J38, .ext bs52 J53, .ext bs67 J68]) c71 x70 ∧ loop4 lb75 m76 x69 x70 x73 x74 = some r) (fun (m76, x69, x70, x73, x74, c71, bs67, J68) => m76) (n, x50.1, x50.2.2, x40, x41, c56, [], (Hs [])) ⟨(Lay.mono _ ent f55), h⟩ (Sub_cons rfl (Sub_nil)) (ks := [0, 1, 2, 3, 4, 5, 6, 7]) rfl (by decide) ?_
            rintro ⟨m76, x69, x70, x73, x74, c71, bs67, J68⟩ ⟨f72, h⟩
            replace h : loop4 lb75 m76 x69 x70 x73 x74 = some r := h
            replace h := lp4_s hlb75 h
            obtain ⟨m76, rfl, h⟩ := h
            refine WP_seq ?_
            refine WP_seq ?_
            refine WP_region ?_
            refine WL_v rfl (VS_move rfl) ?_
            refine WL_v rfl (VS_move rfl) ?_
            refine WL_v rfl (VS_move rfl) ?_
            refine WL_v rfl (VS_add rfl rfl rfl) ?_
            refine WL_v rfl (VS_lss rfl rfl) ?_
            refine WL_v rfl (VS_move rfl) ?_
            refine WL_g (Gd_b rfl rfl) rfl (fun hb => VS_move rfl) ?_
            refine WL_g (Gd_b rfl rfl) rfl (fun hb => VS_eql (gev rfl hb) rfl) ?_
            refine WL_v rfl (VS_and rfl rfl) ?_
            refine WL_nil ?_
            refine WQ_then ?_
            refine WP_if rfl (fun hc => ?_) (fun hc => ?_)
            ·
              replace h := cn_t hc h
              refine WP_skip ?_
              refine WQ_then ?_
              refine WP_seq ?_
              refine WP_block ?_
              refine WP_seq ?_
              refine WP_region ?_
              refine WL_v rfl (VS_move rfl) ?_
              refine WL_v rfl (VS_move rfl) ?_
              refine WL_v rfl (VS_lookup2 0 rfl rfl) ?_
              refine WL_v rfl (VS_move rfl) ?_
              refine WL_v rfl (VS_extract rfl rfl) ?_
              refine WL_v rfl (VS_extract rfl rfl) ?_
              refine WL_v rfl (VS_assign rfl) ?_
              refine WL_v rfl (VS_assign rfl) ?_
              refine WL_nil ?_
              refine WQ_then ?_
              refine WP_seq ?_
              refine WP_seq ?_
              obtain ⟨x78, hx78, _, h⟩ := cl_e h
              obtain ⟨x83, hx83, h⟩ := lt_e h
              refine WP_region ?_
              refine WL_v rfl (VS_move rfl) ?_
              refine WL_v rfl (VS_move rfl) ?_
              refine WL_g (Gd_b rfl rfl) rfl (fun hb => VS_move rfl) ?_
              refine WL_g (Gd_b rfl rfl) rfl (fun hb => VS_lss (gev rfl hb) rfl) ?_
              refine WL_v rfl (VS_or rfl rfl) ?_
              refine WL_v rfl (VS_move rfl) ?_
              refine WL_g (Gd_b rfl rfl) rfl (fun hb => VS_move rfl) ?_
              refine WL_g (Gd_b rfl rfl) rfl (fun hb => VS_move rfl) ?_
              refine WL_g (Gd_b rfl rfl) rfl (fun hb => VS_conv (gev rfl hb) rfl) ?_
              refine WL_g (Gd_b rfl rfl) rfl (fun hb => VS_geq (gev rfl hb) (gev rfl hb)) ?_
              refine WL_v rfl (VS_or rfl rfl) ?_
              refine WL_v rfl (VS_move rfl) ?_
              refine WL_g (Gd_b rfl rfl) rfl (fun hb => VS_move rfl) ?_
              refine WL_g (Gd_b rfl rfl) rfl (fun hb => VS_move rfl) ?_
              refine WL_callX (Gd_b rfl rfl) rfl (q := (fun z : List Value × List Nat × (World → Prop) => (L_pool_Pool).rep (fun w => (Hs [.ext bs25 J26, .ext bs37 J38, .ext bs52 J53, .ext bs67 J68]) w ∧ Hs [.ext z.2.1 z.2.2] w) z.1 x83)) (gv := .int .i64 x78.1) (gH := (fun z => .ext z.2.1 z.2.2 :: [(.cells b23 159 z.1)])) (fun hb => c_pool_Pool_Clear (K := (Hs [.ext bs25 J26, .ext bs37 J38, .ext bs52 J53, .ext bs67 J68])) (Lay.mono _ ent f72) (hx78 hb)) (fun hb ⟨_, _, bs, J⟩ ⟨o, e1, e2, e3⟩ => ⟨(o, bs, J), by rw [hx83, hb]; exact e3, e1, by rw [show _ = _ from e2]⟩) (fun hb => ⟨(c71, [], Hs []), by rw [hx83, hb]; exact (Lay.mono _ ent f72), rfl⟩) (fun hb => rfl) (fun hb => (evs_cons (gev rfl hb) (evs_cons (gev rfl hb) rfl))) rfl (Hin := [.cells b23 159 c71]) (rst := [.ext bs67 J68, .ext bs52 J53, .cells b10 31 (L_law02_Act.enc x49), .ext bs37 J38, Mp b55 .i64 (Value.int .u8) x73, Mp b54 .i64 (Value.int .u8) x74, .ext bs25 J26]) (ks := [2, 0, 1, 3, 4, 5, 6, 7]) rfl (by decide) (fun hb => inferInstance) (fun ⟨c79, bs80, J81⟩ f82 => ?_)
              replace f82 : (L_pool_Pool).rep (fun w => (Hs [.ext bs25 J26, .ext bs37 J38, .ext bs52 J53, .ext bs67 J68]) w ∧ Hs [.ext bs80 J81] w) c79 x83 := f82
              dsimp only [List.cons_append, List.nil_append]
              refine WL_g (Gd_b rfl rfl) rfl (fun hb => VS_neq (gev rfl hb) rfl) ?_
              refine WL_v rfl (VS_or rfl rfl) ?_
              refine WL_nil ?_
              refine WQ_then ?_
              refine WP_if rfl (fun hc => ?_) (fun hc => ?_)
              ·
                replace h := cn_t hc h
                refine WP_seq ?_
                refine WP_region ?_
                refine WL_v rfl (VS_assign rfl) ?_
                refine WL_nil ?_
                refine WQ_then ?_
                refine WP_ret ?_
                refine WQ_then_ret ?_
                refine WQ_block_ret ?_
                refine WQ_then_ret ?_
                refine WQ_then_ret ?_
                refine WQ_block_ret ?_
                refine WQ_block_ret ?_
                refine WQ_block_ret ?_
                refine WQ_then_ret ?_
                refine WQ_then_ret ?_
                refine WQ_block_ret ?_
                refine WQ_then_ret ?_
                replace h := Option.some.inj h
                subst h
                exact WQ_ret () rfl (.tmp rfl .nil) trivial rfl (ks := []) rfl (by decide)
              ·
                replace h := cn_f hc h
                refine WP_skip ?_
                refine WQ_then ?_
                refine WP_seq ?_
                obtain ⟨x84, hx84, h⟩ := lt_e h
                refine WP_region ?_
                refine WL_v rfl (VS_move rfl) ?_
                refine WL_v rfl (VS_move rfl) ?_
                refine WL_v rfl (VS_move rfl) ?_
                refine WL_x0 (RX_mapUpdate (Int.tmod x49.B 4) rfl rfl rfl rfl) (fun _ _ => ?_)
                rw [← hx84]
                refine WL_nil ?_
                refine WQ_then ?_
                refine WP_seq ?_
                refine WP_region ?_
                refine WL_v rfl (VS_assign rfl) ?_
                refine WL_nil ?_
                refine WQ_then ?_
                refine WP_block ?_
                obtain ⟨lb90, hlb90, h⟩ := lp2_i h
                refine WP_loops (α := Nat × Int × (List (Int × Int))) [0, 1, 5, 7, 8, 9, 11, 15, 16, 17, 18] (.cons rfl (.cons rfl (.cons rfl (.cons rfl (.cons rfl (.cons rfl (.cons rfl (.cons rfl (.cons rfl (.cons rfl (.cons rfl (.nil)))))))))))) (fun (m91, x88, x89) => [(21, .int .i64 x88)]) (fun (m91, x88, x89) => [.ext bs80 J81, .cells b23 159 c79, .ext bs67 J68, .ext bs52 J53, .cells b10 31 (L_law02_Act.enc x49), .ext bs37 J38, Mp b55 .i64 (Value.int .u8) x89, Mp b54 .i64 (Value.int .u8) x84, .ext bs25 J26]) (fun (m91, x88, x89) => loop2 lb90 m91 x88 x89 = some r) (fun (m91, x88, x89) => m91) (n, 0, x73) h (Sub_cons rfl (Sub_nil)) (ks := [0, 1, 2, 3, 4, 5, 6, 7, 8]) rfl (by decide) ?_
                rintro ⟨m91, x88, x89⟩ h
                replace h : loop2 lb90 m91 x88 x89 = some r := h
                replace h := lp2_s hlb90 h
                obtain ⟨m91, rfl, h⟩ := h
                refine WP_seq ?_
                refine WP_seq ?_
                refine WP_region ?_
                refine WL_v rfl (VS_move rfl) ?_
                refine WL_v rfl (VS_lss rfl rfl) ?_
                refine WL_nil ?_
                refine WQ_then ?_
                refine WP_if rfl (fun hc => ?_) (fun hc => ?_)
                ·
                  replace h := cn_t hc h
                  refine WP_skip ?_
                  refine WQ_then ?_
                  refine WP_seq ?_
                  refine WP_block ?_
                  obtain ⟨x93, hx93, h⟩ := lt_e h
                  refine WP_region ?_
                  refine WL_v rfl (VS_move rfl) ?_
                  refine WL_v rfl (VS_move rfl) ?_
                  refine WL_v rfl (VS_mul rfl rfl rfl) ?_
                  refine WL_v rfl (VS_move rfl) ?_
                  refine WL_v rfl (VS_add rfl rfl rfl) ?_
                  refine WL_x0 (RX_mapUpdate 0 rfl rfl rfl rfl) (fun _ _ => ?_)
                  rw [← hx93]
                  refine WL_nil ?_
                  refine WQ_block ?_
                  refine WQ_then ?_
                  refine WP_region ?_
                  refine WL_v rfl (VS_move rfl) ?_
                  refine WL_v rfl (VS_add rfl rfl rfl) ?_
                  refine WL_v rfl (VS_assign rfl) ?_
                  refine WL_nil ?_
                  exact WQ_loops (m91, wr .i64 (x88 + 1), x93) (Nat.lt_succ_self _) h (Sub_cons rfl (Sub_nil)) (.cons rfl (.cons rfl (.cons rfl (.cons rfl (.cons rfl (.cons rfl (.cons rfl (.cons rfl (.cons rfl (.cons rfl (.cons rfl (.nil)))))))))))) (ks := [0, 1, 2, 3, 4, 5, 6, 7, 8]) rfl (by decide)
                ·
                  replace h := cn_f hc h
                  refine WP_exit ?_
                  refine WQ_then_exit ?_
                  refine WQ_then_exit ?_
                  refine WQ_block_exit ?_
                  refine WQ_block ?_
                  refine WQ_then ?_
                  refine WP_region ?_
                  refine WL_v rfl (VS_move rfl) ?_
                  refine WL_v rfl (VS_add rfl rfl rfl) ?_
                  refine WL_v rfl (VS_assign rfl) ?_
                  refine WL_nil ?_
                  refine WQ_bundle (R := [.ext bs80 J81, .ext bs67 J68]) (H' := [.cells b23 159 c79, .ext bs52 J53, .cells b10 31 (L_law02_Act.enc x49), .ext bs37 J38, Mp b55 .i64 (Value.int .u8) x89, Mp b54 .i64 (Value.int .u8) x84, .ext bs25 J26]) (ks := [0, 2, 1, 3, 4, 5, 6, 7, 8]) rfl (by decide) ?_
                  exact WQ_loops (m76, wr .i64 (x69 + 1), x83, x89, x84, c79, (blks [.ext bs80 J81, .ext bs67 J68]), (Hs [.ext bs80 J81, .ext bs67 J68])) (Nat.lt_succ_self _) ⟨(Lay.mono _ ent f82), h⟩ (Sub_cons rfl (Sub_nil)) (.cons rfl (.cons rfl (.cons rfl (.cons rfl (.cons rfl (.cons rfl (.cons rfl (.cons rfl (.cons rfl (.cons rfl (.nil))))))))))) (ks := [0, 2, 1, 3, 4, 5, 6, 7]) rfl (by decide)
            ·
              replace h := cn_f hc h
              refine WP_exit ?_
              refine WQ_then_exit ?_
              refine WQ_then_exit ?_
              refine WQ_block_exit ?_
              refine WQ_block ?_
              refine WQ_block ?_
              refine WQ_then ?_
              refine WP_region ?_
              refine WL_v rfl (VS_move rfl) ?_
              refine WL_v rfl (VS_add rfl rfl rfl) ?_
              refine WL_v rfl (VS_assign rfl) ?_
              refine WL_nil ?_
              refine WQ_bundle (R := [.ext bs67 J68, .ext bs52 J53, .ext bs37 J38]) (H' := [.cells b23 159 c71, .cells b10 31 (L_law02_Act.enc x49), Mp b55 .i64 (Value.int .u8) x73, Mp b54 .i64 (Value.int .u8) x74, .ext bs25 J26]) (ks := [0, 1, 4, 2, 3, 5, 6, 7]) rfl (by decide) ?_
              exact WQ_loops (m46, wr .i64 (x39 + 1), x73, x74, x70, c71, (blks [.ext bs67 J68, .ext bs52 J53, .ext bs37 J38]), (Hs [.ext bs67 J68, .ext bs52 J53, .ext bs37 J38])) (Nat.lt_succ_self _) ⟨(Lay.mono _ ent f72), h⟩ (Sub_cons rfl (Sub_nil)) (.cons rfl (.cons rfl (.cons rfl (.cons rfl (.cons rfl (.nil)))))) (ks := [0, 3, 4, 1, 5]) rfl (by decide)
          ·
            replace h := cn_f hc h
            refine WP_seq ?_
            refine WP_region ?_
            refine WL_v rfl (VS_field0 rfl) ?_
            refine WL_v rfl (VS_ldi P_law02_Act_Do rfl) ?_
            refine WL_v rfl (VS_eql rfl rfl) ?_
            refine WL_v rfl (VS_move rfl) ?_
            refine WL_g (Gd_b rfl rfl) rfl (fun hb => VS_move rfl) ?_
            refine WL_v rfl (VS_and rfl rfl) ?_
            refine WL_v rfl (VS_move rfl) ?_
            refine WL_g (Gd_b rfl rfl) rfl (fun hb => VS_move rfl) ?_
            refine WL_g (Gd_b rfl rfl) rfl (fun hb => VS_move rfl) ?_
            refine WL_g (Gd_b rfl rfl) rfl (fun hb => VS_eql (gev rfl hb) (gev rfl hb)) ?_
            refine WL_v rfl (VS_and rfl rfl) ?_
            refine WL_v rfl (VS_assign rfl) ?_
            refine WL_nil ?_
            refine WQ_then ?_
            refine WP_if rfl (fun hc => ?_) (fun hc => ?_)
            ·
              replace h := cn_t hc h
              refine WP_seq ?_
              refine WP_seq ?_
              obtain ⟨x94, hx94, h⟩ := bd_e h
              refine WP_region ?_
              refine WL_v rfl (VS_move rfl) ?_
              refine WL_v rfl (VS_move rfl) ?_
              refine WL_x rfl (RX_callH (K := (Hs [.ext bs25 J26, .ext bs37 J38])) (Hin := [.cells b23 159 c43]) (rest := [.cells b10 31 (L_law02_Act.enc x49), .ext bs37 J38, Mp b55 .i64 (Value.int .u8) x40, Mp b54 .i64 (Value.int .u8) x41, .ext bs25 J26]) (ks := [4, 0, 1, 2, 3, 5]) (c_pool_Pool_Back (K := (Hs [.ext bs25 J26, .ext bs37 J38])) (Lay.mono _ ent f44) hx94) rfl rfl rfl rfl (by decide)) (fun ⟨w95, ho101, bs96, J97⟩ hp98 => ?_)
              obtain ⟨c100, rfl, rfl, f99⟩ := hp98
              replace f99 : (L_pool_Pool).rep (fun w => (Hs [.ext bs25 J26, .ext bs37 J38]) w ∧ Hs [.ext bs96 J97] w) c100 x94.2 := f99
              dsimp only [List.cons_append, List.nil_append]
              refine WL_v rfl (VS_neq rfl rfl) ?_
              refine WL_nil ?_
              refine WQ_then ?_
              refine WP_if rfl (fun hc => ?_) (fun hc => ?_)
              ·
                replace h := cn_t hc h
                refine WP_seq ?_
                refine WP_region ?_
                refine WL_v rfl (VS_assign rfl) ?_
                refine WL_nil ?_
                refine WQ_then ?_
                refine WP_ret ?_
                refine WQ_then_ret ?_
                refine WQ_block_ret ?_
                refine WQ_block_ret ?_
                refine WQ_then_ret ?_
                refine WQ_then_ret ?_
                refine WQ_block_ret ?_
                refine WQ_then_ret ?_
                replace h := Option.some.inj h
                subst h
                exact WQ_ret () rfl (.tmp rfl .nil) trivial rfl (ks := []) rfl (by decide)
              ·
                replace h := cn_f hc h
                refine WP_skip ?_
                refine WQ_then ?_
                obtain ⟨x102, hx102, h⟩ := lt_e h
                refine WP_region ?_
                refine WL_v rfl (VS_move rfl) ?_
                refine WL_v rfl (VS_move rfl) ?_
                refine WL_x0 (RX_delete rfl rfl) (fun _ _ => ?_)
                rw [← hx102]
                refine WL_nil ?_
                refine WQ_block ?_
                refine WQ_block ?_
                refine WQ_then ?_
                refine WP_region ?_
                refine WL_v rfl (VS_move rfl) ?_
                refine WL_v rfl (VS_add rfl rfl rfl) ?_
                refine WL_v rfl (VS_assign rfl) ?_
                refine WL_nil ?_
                refine WQ_bundle (R := [.ext bs96 J97, .ext bs37 J38]) (H' := [.cells b23 159 c100, .cells b10 31 (L_law02_Act.enc x49), Mp b55 .i64 (Value.int .u8) x40, Mp b54 .i64 (Value.int .u8) x102, .ext bs25 J26]) (ks := [0, 3, 1, 2, 4, 5, 6]) rfl (by decide) ?_
                exact WQ_loops (m46, wr .i64 (x39 + 1), x40, x102, x94.2, c100, (blks [.ext bs96 J97, .ext bs37 J38]), (Hs [.ext bs96 J97, .ext bs37 J38])) (Nat.lt_succ_self _) ⟨(Lay.mono _ ent f99), h⟩ (Sub_cons rfl (Sub_nil)) (.cons rfl (.cons rfl (.cons rfl (.cons rfl (.cons rfl (.nil)))))) (ks := [0, 3, 4, 1, 5]) rfl (by decide)
            ·
              replace h := cn_f hc h
              refine WP_seq ?_
              refine WP_region ?_
              refine WL_v rfl (VS_move rfl) ?_
              refine WL_v rfl (VS_move rfl) ?_
              refine WL_g (Gd_b rfl rfl) rfl (fun hb => VS_move rfl) ?_
              refine WL_g (Gd_b rfl rfl) rfl (fun hb => VS_move rfl) ?_
              refine WL_g (Gd_b rfl rfl) rfl (fun hb => VS_eql (gev rfl hb) (gev rfl hb)) ?_
              refine WL_v rfl (VS_and rfl rfl) ?_
              refine WL_v rfl (VS_assign rfl) ?_
              refine WL_nil ?_
              refine WQ_then ?_
              refine WP_if rfl (fun hc => ?_) (fun hc => ?_)
              ·
                replace h := cn_t hc h
                refine WP_seq ?_
                refine WP_region ?_
                refine WL_v rfl (VS_move rfl) ?_
                refine WL_v rfl (VS_mul rfl rfl rfl) ?_
                refine WL_v rfl (VS_field0 rfl) ?_
                refine WL_v rfl (VS_ldi P_law02_Act_Do rfl) ?_
                refine WL_v rfl (VS_conv rfl rfl) ?_
                refine WL_v rfl (VS_rem rfl rfl (by decide) rfl) ?_
                refine WL_v rfl (VS_add rfl rfl rfl) ?_
                refine WL_v rfl (VS_assign rfl) ?_
                refine WL_nil ?_
                refine WQ_then ?_
                refine WP_seq ?_
                refine WP_seq ?_
                obtain ⟨x103, hx103, h⟩ := bd_e h
                refine WP_region ?_
                refine WL_v rfl (VS_move rfl) ?_
                refine WL_v rfl (VS_move rfl) ?_
                refine WL_v rfl (VS_field0 rfl) ?_
                refine WL_v rfl (VS_ldi P_law02_Act_B rfl) ?_
                refine WL_x rfl (RX_callH (K := (Hs [.ext bs25 J26, .ext bs37 J38])) (Hin := [.cells b23 159 c43]) (rest := [.cells b10 31 (L_law02_Act.enc x49), .ext bs37 J38, Mp b55 .i64 (Value.int .u8) x40, Mp b54 .i64 (Value.int .u8) x41, .ext bs25 J26]) (ks := [4, 0, 1, 2, 3, 5]) (c_pool_Pool_Write (K := (Hs [.ext bs25 J26, .ext bs37 J38])) (Lay.mono _ ent f44) hx103) rfl rfl rfl rfl (by decide)) (fun ⟨w104, ho110, bs105, J106⟩ hp107 => ?_)
                obtain ⟨c109, rfl, rfl, f108⟩ := hp107
                replace f108 : (L_pool_Pool).rep (fun w => (Hs [.ext bs25 J26, .ext bs37 J38]) w ∧ Hs [.ext bs105 J106] w) c109 x103.2 := f108
                dsimp only [List.cons_append, List.nil_append]
                refine WL_v rfl (VS_neq rfl rfl) ?_
                refine WL_nil ?_
                refine WQ_then ?_
                refine WP_if rfl (fun hc => ?_) (fun hc => ?_)
                ·
                  replace h := cn_t hc h
                  refine WP_seq ?_
                  refine WP_region ?_
                  refine WL_v rfl (VS_assign rfl) ?_
                  refine WL_nil ?_
                  refine WQ_then ?_
                  refine WP_ret ?_
                  refine WQ_then_ret ?_
                  refine WQ_block_ret ?_
                  refine WQ_block_ret ?_
                  refine WQ_then_ret ?_
                  refine WQ_then_ret ?_
                  refine WQ_block_ret ?_
                  refine WQ_then_ret ?_
                  replace h := Option.some.inj h
                  subst h
                  exact WQ_ret () rfl (.tmp rfl .nil) trivial rfl (ks := []) rfl (by decide)
                ·
                  replace h := cn_f hc h
                  refine WP_skip ?_
                  refine WQ_then ?_
                  obtain ⟨x111, hx111, h⟩ := lt_e h
                  refine WP_region ?_
                  refine WL_v rfl (VS_move rfl) ?_
                  refine WL_v rfl (VS_move rfl) ?_
                  refine WL_v rfl (VS_field0 rfl) ?_
                  refine WL_v rfl (VS_ldi P_law02_Act_B rfl) ?_
                  refine WL_x0 (RX_mapUpdate x49.B rfl rfl rfl rfl) (fun _ _ => ?_)
                  rw [← hx111]
                  refine WL_nil ?_
                  refine WQ_block ?_
                  refine WQ_block ?_
                  refine WQ_then ?_
                  refine WP_region ?_
                  refine WL_v rfl (VS_move rfl) ?_
                  refine WL_v rfl (VS_add rfl rfl rfl) ?_
                  refine WL_v rfl (VS_assign rfl) ?_
                  refine WL_nil ?_
                  refine WQ_bundle (R := [.ext bs105 J106, .ext bs37 J38]) (H' := [.cells b23 159 c109, .cells b10 31 (L_law02_Act.enc x49), Mp b55 .i64 (Value.int .u8) x111, Mp b54 .i64 (Value.int .u8) x41, .ext bs25 J26]) (ks := [0, 3, 1, 2, 4, 5, 6]) rfl (by decide) ?_
                  exact WQ_loops (m46, wr .i64 (x39 + 1), x111, x41, x103.2, c109, (blks [.ext bs105 J106, .ext bs37 J38]), (Hs [.ext bs105 J106, .ext bs37 J38])) (Nat.lt_succ_self _) ⟨(Lay.mono _ ent f108), h⟩ (Sub_cons rfl (Sub_nil)) (.cons rfl (.cons rfl (.cons rfl (.cons rfl (.cons rfl (.nil)))))) (ks := [0, 3, 4, 1, 5]) rfl (by decide)
              ·
                replace h := cn_f hc h
                refine WP_skip ?_
                refine WQ_block ?_
                refine WQ_block ?_
                refine WQ_then ?_
                refine WP_region ?_
                refine WL_v rfl (VS_move rfl) ?_
                refine WL_v rfl (VS_add rfl rfl rfl) ?_
                refine WL_v rfl (VS_assign rfl) ?_
                refine WL_nil ?_
                refine WQ_bundle (R := [.ext bs37 J38]) (H' := [.cells b10 31 (L_law02_Act.enc x49), Mp b55 .i64 (Value.int .u8) x40, Mp b54 .i64 (Value.int .u8) x41, .cells b23 159 c43, .ext bs25 J26]) (ks := [1, 0, 2, 3, 4, 5]) rfl (by decide) ?_
                exact WQ_loops (m46, wr .i64 (x39 + 1), x40, x41, x42, c43, (blks [.ext bs37 J38]), (Hs [.ext bs37 J38])) (Nat.lt_succ_self _) ⟨(Lay.mono _ ent f44), h⟩ (Sub_cons rfl (Sub_nil)) (.cons rfl (.cons rfl (.cons rfl (.cons rfl (.cons rfl (.nil)))))) (ks := [0, 2, 3, 4, 5]) rfl (by decide)
        ·
          replace h := cn_f hc h
          refine WP_exit ?_
          refine WQ_then_exit ?_
          refine WQ_then_exit ?_
          refine WQ_block_exit ?_
          refine WQ_then ?_
          refine WP_seq ?_
          refine WP_seq ?_
          refine WP_region ?_
          refine WL_v rfl (VS_assign rfl) ?_
          refine WL_nil ?_
          refine WQ_then ?_
          refine WP_block ?_
          obtain ⟨lb125, hlb125, h⟩ := lp2_i h
          refine WP_ext0 ?_
          refine WP_loops (α := Nat × Int × pool_Pool × (List Value) × (List Nat) × (World → Prop)) [0, 5, 7, 8] (.cons rfl (.cons rfl (.cons rfl (.cons rfl (.nil))))) (fun (m126, x121, x122, c123, bs119, J120) => [(23, .int .i64 x121)]) (fun (m126, x121, x122, c123, bs119, J120) => [.ext bs119 J120, .ext bs37 J38, Mp b55 .i64 (Value.int .u8) x40, Mp b54 .i64 (Value.int .u8) x41, .cells b23 159 c123, .ext bs25 J26]) (fun (m126, x121, x122, c123, bs119, J120) => (L_pool_Pool).rep (Hs [.ext bs119 J120, .ext bs25 J26, .ext bs37 J38]) c123 x122 ∧ loop2 lb125 m126 x121 x122 = some r) (fun (m126, x121, x122, c123, bs119, J120) => m126) (n, 0, x42, c43, [], (Hs [])) ⟨(Lay.mono _ ent f44), h⟩ (Sub_cons rfl (Sub_nil)) (ks := [0, 1, 2, 3, 4, 5]) rfl (by decide) ?_
          rintro ⟨m126, x121, x122, c123, bs119, J120⟩ ⟨f124, h⟩
          replace h : loop2 lb125 m126 x121 x122 = some r := h
          replace h := lp2_s hlb125 h
          obtain ⟨m126, rfl, h⟩ := h
          refine WP_seq ?_
          refine WP_seq ?_
          refine WP_region ?_
          refine WL_v rfl (VS_move rfl) ?_
          refine WL_v rfl (VS_move rfl) ?_
          refine WL_v rfl (VS_conv rfl rfl) ?_
          refine WL_v rfl (VS_lss rfl rfl) ?_
          refine WL_nil ?_
          refine WQ_then ?_
          refine WP_if rfl (fun hc => ?_) (fun hc => ?_)
          ·
            replace h := cn_t hc h
            refine WP_skip ?_
            refine WQ_then ?_
            refine WP_seq ?_
            refine WP_block ?_
            refine WP_seq ?_
            refine WP_region ?_
            refine WL_v rfl (VS_move rfl) ?_
            refine WL_v rfl (VS_move rfl) ?_
            refine WL_v rfl (VS_lookup2 0 rfl rfl) ?_
            refine WL_v rfl (VS_move rfl) ?_
            refine WL_v rfl (VS_extract rfl rfl) ?_
            refine WL_v rfl (VS_extract rfl rfl) ?_
            refine WL_v rfl (VS_assign rfl) ?_
            refine WL_v rfl (VS_assign rfl) ?_
            refine WL_nil ?_
            refine WQ_then ?_
            refine WP_seq ?_
            refine WP_seq ?_
            obtain ⟨x128, hx128, h⟩ := bd_e h
            obtain ⟨x136, hx136, h⟩ := bd_e h
            refine WP_region ?_
            refine WL_v rfl (VS_move rfl) ?_
            refine WL_x rfl (RX_callH (K := (Hs [.ext bs119 J120, .ext bs25 J26, .ext bs37 J38])) (Hin := [.cells b23 159 c123]) (rest := [.ext bs119 J120, .ext bs37 J38, Mp b55 .i64 (Value.int .u8) x40, Mp b54 .i64 (Value.int .u8) x41, .ext bs25 J26]) (ks := [4, 0, 1, 2, 3, 5]) (c_pool_Pool_Free (K := (Hs [.ext bs119 J120, .ext bs25 J26, .ext bs37 J38])) (Lay.mono _ ent f124) hx128) rfl rfl rfl rfl (by decide)) (fun ⟨w129, ho135, bs130, J131⟩ hp132 => ?_)
            obtain ⟨c134, rfl, rfl, f133⟩ := hp132
            replace f133 : (L_runs_Runs).rep (fun w => (Hs [.ext bs119 J120, .ext bs25 J26, .ext bs37 J38]) w ∧ Hs [.ext bs130 J131] w) c134 x128 := f133
            dsimp only [List.cons_append, List.nil_append]
            refine WL_v rfl (VS_move rfl) ?_
            refine WL_v rfl (VS_call (c_runs_Runs_Has (K := (Hs [.ext bs119 J120, .ext bs130 J131, .ext bs25 J26, .ext bs37 J38])) (Lay.mono _ ent f133) hx136) rfl kn) ?_
            refine WL_v rfl (VS_move rfl) ?_
            refine WL_v rfl (VS_eqlb rfl rfl) ?_
            refine WL_nil ?_
            refine WQ_then ?_
            refine WP_if rfl (fun hc => ?_) (fun hc => ?_)
            ·
              replace h := cn_t hc h
              refine WP_seq ?_
              refine WP_region ?_
              refine WL_v rfl (VS_assign rfl) ?_
              refine WL_nil ?_
              refine WQ_then ?_
              refine WP_ret ?_
              refine WQ_then_ret ?_
              refine WQ_block_ret ?_
              refine WQ_then_ret ?_
              refine WQ_then_ret ?_
              refine WQ_block_ret ?_
              refine WQ_then_ret ?_
              replace h := Option.some.inj h
              subst h
              exact WQ_ret () rfl (.tmp rfl .nil) trivial rfl (ks := []) rfl (by decide)
            ·
              replace h := cn_f hc h
              refine WP_skip ?_
              refine WQ_then ?_
              refine WP_seq ?_
              refine WP_seq ?_
              refine WP_region ?_
              refine WL_v rfl (VS_assign rfl) ?_
              refine WL_nil ?_
              refine WQ_then ?_
              refine WP_block ?_
              obtain ⟨lb139, hlb139, h⟩ := lp1_i h
              refine WP_loops (α := Nat × Int) [0, 5, 7, 8, 23, 25] (.cons rfl (.cons rfl (.cons rfl (.cons rfl (.cons rfl (.cons rfl (.nil))))))) (fun (m140, x138) => [(26, .int .i64 x138)]) (fun (m140, x138) => [.ext bs130 J131, .cells b23 159 c123, .ext bs119 J120, .ext bs37 J38, Mp b55 .i64 (Value.int .u8) x40, Mp b54 .i64 (Value.int .u8) x41, .ext bs25 J26]) (fun (m140, x138) => loop1 lb139 m140 x138 = some r) (fun (m140, x138) => m140) (n, 0) h (Sub_cons rfl (Sub_nil)) (ks := [0, 1, 2, 3, 4, 5, 6]) rfl (by decide) ?_
              rintro ⟨m140, x138⟩ h
              replace h : loop1 lb139 m140 x138 = some r := h
              replace h := lp1_s hlb139 h
              obtain ⟨m140, rfl, h⟩ := h
              refine WP_seq ?_
              refine WP_seq ?_
              refine WP_region ?_
              refine WL_v rfl (VS_move rfl) ?_
              refine WL_v rfl (VS_lss rfl rfl) ?_
              refine WL_v rfl (VS_move rfl) ?_
              refine WL_g (Gd_b rfl rfl) rfl (fun hb => VS_move rfl) ?_
              refine WL_v rfl (VS_and rfl rfl) ?_
              refine WL_nil ?_
              refine WQ_then ?_
              refine WP_if rfl (fun hc => ?_) (fun hc => ?_)
              ·
                replace h := cn_t hc h
                refine WP_skip ?_
                refine WQ_then ?_
                refine WP_seq ?_
                refine WP_block ?_
                refine WP_seq ?_
                obtain ⟨x142, hx142, h⟩ := bd_e h
                refine WP_region ?_
                refine WL_v rfl (VS_move rfl) ?_
                refine WL_v rfl (VS_move rfl) ?_
                refine WL_v rfl (VS_mul rfl rfl rfl) ?_
                refine WL_v rfl (VS_move rfl) ?_
                refine WL_v rfl (VS_add rfl rfl rfl) ?_
                refine WL_x rfl (RX_callH (K := (Hs [.ext bs119 J120, .ext bs25 J26, .ext bs37 J38])) (Hin := [.cells b23 159 c123]) (rest := [.ext bs130 J131, .ext bs119 J120, .ext bs37 J38, Mp b55 .i64 (Value.int .u8) x40, Mp b54 .i64 (Value.int .u8) x41, .ext bs25 J26]) (ks := [1, 0, 2, 3, 4, 5, 6]) (c_pool_Pool_Read (K := (Hs [.ext bs119 J120, .ext bs25 J26, .ext bs37 J38])) (Lay.mono _ ent f124) hx142) rfl rfl rfl rfl (by decide)) (fun _ _ => ?_)
                dsimp only [List.cons_append, List.nil_append]
                refine WL_v rfl (VS_move rfl) ?_
                refine WL_v rfl (VS_extract rfl rfl) ?_
                refine WL_v rfl (VS_extract rfl rfl) ?_
                refine WL_v rfl (VS_assign rfl) ?_
                refine WL_v rfl (VS_assign rfl) ?_
                refine WL_nil ?_
                refine WQ_then ?_
                refine WP_seq ?_
                refine WP_region ?_
                refine WL_v rfl (VS_move rfl) ?_
                refine WL_v rfl (VS_neq rfl rfl) ?_
                refine WL_v rfl (VS_move rfl) ?_
                refine WL_g (Gd_b rfl rfl) rfl (fun hb => VS_move rfl) ?_
                refine WL_g (Gd_b rfl rfl) rfl (fun hb => VS_move rfl) ?_
                refine WL_g (Gd_b rfl rfl) rfl (fun hb => VS_move rfl) ?_
                refine WL_g (Gd_b rfl rfl) rfl (fun hb => VS_mul (gev rfl hb) rfl rfl) ?_
                refine WL_g (Gd_b rfl rfl) rfl (fun hb => VS_move rfl) ?_
                refine WL_g (Gd_b rfl rfl) rfl (fun hb => VS_add (gev rfl hb) (gev rfl hb) rfl) ?_
                refine WL_g (Gd_b rfl rfl) rfl (fun hb => VS_lookup 0 (gev rfl hb) (gev rfl hb)) ?_
                refine WL_g (Gd_b rfl rfl) rfl (fun hb => VS_neq (gev rfl hb) (gev rfl hb)) ?_
                refine WL_v rfl (VS_or rfl rfl) ?_
                refine WL_nil ?_
                refine WQ_then ?_
                refine WP_if rfl (fun hc => ?_) (fun hc => ?_)
                ·
                  replace h := cn_t hc h
                  refine WP_seq ?_
                  refine WP_region ?_
                  refine WL_v rfl (VS_assign rfl) ?_
                  refine WL_nil ?_
                  refine WQ_then ?_
                  refine WP_ret ?_
                  refine WQ_block_ret ?_
                  refine WQ_then_ret ?_
                  refine WQ_then_ret ?_
                  refine WQ_block_ret ?_
                  refine WQ_then_ret ?_
                  refine WQ_block_ret ?_
                  refine WQ_then_ret ?_
                  refine WQ_then_ret ?_
                  refine WQ_block_ret ?_
                  refine WQ_then_ret ?_
                  replace h := Option.some.inj h
                  subst h
                  exact WQ_ret () rfl (.tmp rfl .nil) trivial rfl (ks := []) rfl (by decide)
                ·
                  replace h := cn_f hc h
                  refine WP_skip ?_
                  refine WQ_block ?_
                  refine WQ_then ?_
                  refine WP_region ?_
                  refine WL_v rfl (VS_move rfl) ?_
                  refine WL_v rfl (VS_add rfl rfl rfl) ?_
                  refine WL_v rfl (VS_assign rfl) ?_
                  refine WL_nil ?_
                  exact WQ_loops (m140, wr .i64 (x138 + 1)) (Nat.lt_succ_self _) h (Sub_cons rfl (Sub_nil)) (.cons rfl (.cons rfl (.cons rfl (.cons rfl (.cons rfl (.cons rfl (.nil))))))) (ks := [1, 0, 2, 3, 4, 5, 6]) rfl (by decide)
              ·
                replace h := cn_f hc h
                refine WP_exit ?_
                refine WQ_then_exit ?_
                refine WQ_then_exit ?_
                refine WQ_block_exit ?_
                refine WQ_then ?_
                refine WP_seq ?_
                obtain ⟨x143, hx143, _, h⟩ := cl_e h
                obtain ⟨x148, hx148, h⟩ := lt_e h
                refine WP_region ?_
                refine WL_v rfl (VS_move rfl) ?_
                refine WL_v rfl (VS_move rfl) ?_
                refine WL_g (Gd_b rfl rfl) rfl (fun hb => VS_move rfl) ?_
                refine WL_g (Gd_b rfl rfl) rfl (fun hb => VS_move rfl) ?_
                refine WL_callX (Gd_b rfl rfl) rfl (q := (fun z : List Value × List Nat × (World → Prop) => (L_pool_Pool).rep (fun w => (Hs [.ext bs119 J120, .ext bs25 J26, .ext bs37 J38]) w ∧ Hs [.ext z.2.1 z.2.2] w) z.1 x148)) (gv := .int .i64 x143.1) (gH := (fun z => .ext z.2.1 z.2.2 :: [(.cells b23 159 z.1)])) (fun hb => c_pool_Pool_Back (K := (Hs [.ext bs119 J120, .ext bs25 J26, .ext bs37 J38])) (Lay.mono _ ent f124) (hx143 hb)) (fun hb ⟨_, _, bs, J⟩ ⟨o, e1, e2, e3⟩ => ⟨(o, bs, J), by rw [hx148, hb]; exact e3, e1, by rw [show _ = _ from e2]⟩) (fun hb => ⟨(c123, [], Hs []), by rw [hx148, hb]; exact (Lay.mono _ ent f124), rfl⟩) (fun hb => rfl) (fun hb => (evs_cons (gev rfl hb) (evs_cons (gev rfl hb) rfl))) rfl (Hin := [.cells b23 159 c123]) (rst := [.ext bs130 J131, .ext bs119 J120, .ext bs37 J38, Mp b55 .i64 (Value.int .u8) x40, Mp b54 .i64 (Value.int .u8) x41, .ext bs25 J26]) (ks := [1, 0, 2, 3, 4, 5, 6]) rfl (by decide) (fun hb => inferInstance) (fun ⟨c144, bs145, J146⟩ f147 => ?_)
                replace f147 : (L_pool_Pool).rep (fun w => (Hs [.ext bs119 J120, .ext bs25 J26, .ext bs37 J38]) w ∧ Hs [.ext bs145 J146] w) c144 x148 := f147
                dsimp only [List.cons_append, List.nil_append]
                refine WL_g (Gd_b rfl rfl) rfl (fun hb => VS_neq (gev rfl hb) rfl) ?_
                refine WL_v rfl (VS_and rfl rfl) ?_
                refine WL_nil ?_
                refine WQ_then ?_
                refine WP_if rfl (fun hc => ?_) (fun hc => ?_)
                ·
                  replace h := cn_t hc h
                  refine WP_seq ?_
                  refine WP_region ?_
                  refine WL_v rfl (VS_assign rfl) ?_
                  refine WL_nil ?_
                  refine WQ_then ?_
                  refine WP_ret ?_
                  refine WQ_block_ret ?_
                  refine WQ_then_ret ?_
                  refine WQ_then_ret ?_
                  refine WQ_block_ret ?_
                  refine WQ_then_ret ?_
                  replace h := Option.some.inj h
                  subst h
                  exact WQ_ret () rfl (.tmp rfl .nil) trivial rfl (ks := []) rfl (by decide)
                ·
                  replace h := cn_f hc h
                  refine WP_skip ?_
                  refine WQ_block ?_
                  refine WQ_then ?_
                  refine WP_region ?_
                  refine WL_v rfl (VS_move rfl) ?_
                  refine WL_v rfl (VS_add rfl rfl rfl) ?_
                  refine WL_v rfl (VS_assign rfl) ?_
                  refine WL_nil ?_
                  refine WQ_bundle (R := [.ext bs145 J146, .ext bs119 J120]) (H' := [.cells b23 159 c144, .ext bs130 J131, .ext bs37 J38, Mp b55 .i64 (Value.int .u8) x40, Mp b54 .i64 (Value.int .u8) x41, .ext bs25 J26]) (ks := [0, 3, 1, 2, 4, 5, 6, 7]) rfl (by decide) ?_
                  exact WQ_loops (m126, wr .i64 (x121 + 1), x148, c144, (blks [.ext bs145 J146, .ext bs119 J120]), (Hs [.ext bs145 J146, .ext bs119 J120])) (Nat.lt_succ_self _) ⟨(Lay.mono _ ent f147), h⟩ (Sub_cons rfl (Sub_nil)) (.cons rfl (.cons rfl (.cons rfl (.cons rfl (.nil))))) (ks := [0, 3, 4, 5, 1, 6]) rfl (by decide)
          ·
            replace h := cn_f hc h
            refine WP_exit ?_
            refine WQ_then_exit ?_
            refine WQ_then_exit ?_
            refine WQ_block_exit ?_
            refine WQ_then ?_
            refine WP_seq ?_
            obtain ⟨x149, hx149, h⟩ := bd_e h
            obtain ⟨x157, hx157, h⟩ := bd_e h
            refine WP_region ?_
            refine WL_v rfl (VS_move rfl) ?_
            refine WL_x rfl (RX_callH (K := (Hs [.ext bs119 J120, .ext bs25 J26, .ext bs37 J38])) (Hin := [.cells b23 159 c123]) (rest := [.ext bs119 J120, .ext bs37 J38, Mp b55 .i64 (Value.int .u8) x40, Mp b54 .i64 (Value.int .u8) x41, .ext bs25 J26]) (ks := [4, 0, 1, 2, 3, 5]) (c_pool_Pool_Free (K := (Hs [.ext bs119 J120, .ext bs25 J26, .ext bs37 J38])) (Lay.mono _ ent f124) hx149) rfl rfl rfl rfl (by decide)) (fun ⟨w150, ho156, bs151, J152⟩ hp153 => ?_)
            obtain ⟨c155, rfl, rfl, f154⟩ := hp153
            replace f154 : (L_runs_Runs).rep (fun w => (Hs [.ext bs119 J120, .ext bs25 J26, .ext bs37 J38]) w ∧ Hs [.ext bs151 J152] w) c155 x149 := f154
            dsimp only [List.cons_append, List.nil_append]
            refine WL_x rfl (RX_callB (c_runs_Runs_All (K := (Hs [.ext bs119 J120, .ext bs151 J152, .ext bs25 J26, .ext bs37 J38])) (Lay.mono _ ent f154) hx157) rfl) (fun ⟨w158, bs159, J160⟩ hp161 => ?_)
            have f162 : Fz (fun w => (Hs [.ext bs119 J120, .ext bs151 J152, .ext bs25 J26, .ext bs37 J38]) w ∧ Hs [.ext bs159 J160] w) w158 L_runs_Run x157 := hp161
            refine WL_v rfl (VS_assign rfl) ?_
            refine WL_nil ?_
            refine WQ_then ?_
            refine WP_seq ?_
            obtain ⟨hg164, h⟩ := gu_e h
            obtain ⟨hg165, h⟩ := gu_e h
            obtain ⟨x166, hx166, _, h⟩ := cl_e h
            refine WP_region ?_
            refine WL_v rfl (VS_move rfl) ?_
            refine WL_v rfl (VS_lenF f162 rfl) ?_
            refine WL_v rfl (VS_eql rfl rfl) ?_
            refine WL_v rfl (VS_move rfl) ?_
            refine WL_g (Gd_b rfl rfl) rfl (fun hb => VS_move rfl) ?_
            refine WL_g (Gd_b rfl rfl) rfl (fun hb => VS_ixF (m := (Int.toNat 0)) f162 rfl (gev rfl hb) rfl (inb_e (imp_b hg164 hb)).1 (inb_e (imp_b hg164 hb)).2) ?_
            refine WL_g (Gd_b rfl rfl) rfl (fun hb => VS_fldF f162 (gev rfl hb) (inb_e (imp_b hg164 hb)).2) ?_
            refine WL_g (Gd_b rfl rfl) rfl (fun hb => VS_ldiF f162 ((Pth.idx (L := L_runs_Run) (m := (x157.length)) (k := 2) ((Int.toNat 0)) (inb_e (imp_b hg164 hb)).2 rfl).comp P_runs_Run_At) (gev rfl hb)) ?_
            refine WL_g (Gd_b rfl rfl) rfl (fun hb => VS_eql (gev rfl hb) rfl) ?_
            refine WL_v rfl (VS_and rfl rfl) ?_
            refine WL_v rfl (VS_move rfl) ?_
            refine WL_g (Gd_b rfl rfl) rfl (fun hb => VS_move rfl) ?_
            refine WL_g (Gd_b rfl rfl) rfl (fun hb => VS_ixF (m := (Int.toNat 0)) f162 rfl (gev rfl hb) rfl (inb_e (imp_b hg165 hb)).1 (inb_e (imp_b hg165 hb)).2) ?_
            refine WL_g (Gd_b rfl rfl) rfl (fun hb => VS_fldF f162 (gev rfl hb) (inb_e (imp_b hg165 hb)).2) ?_
            refine WL_g (Gd_b rfl rfl) rfl (fun hb => VS_ldiF f162 ((Pth.idx (L := L_runs_Run) (m := (x157.length)) (k := 2) ((Int.toNat 0)) (inb_e (imp_b hg165 hb)).2 rfl).comp P_runs_Run_N) (gev rfl hb)) ?_
            refine WL_g (Gd_b rfl rfl) rfl (fun hb => VS_move rfl) ?_
            refine WL_g (Gd_b rfl rfl) rfl (fun hb => VS_conv (gev rfl hb) rfl) ?_
            refine WL_g (Gd_b rfl rfl) rfl (fun hb => VS_eql (gev rfl hb) (gev rfl hb)) ?_
            refine WL_v rfl (VS_and rfl rfl) ?_
            refine WL_v rfl (VS_move rfl) ?_
            refine WL_g (Gd_b rfl rfl) rfl (fun hb => VS_call (c_law02_wakes (hx166 hb)) rfl (fun _ _ _ => trivial)) ?_
            refine WL_v rfl (VS_and rfl rfl) ?_
            refine WL_v rfl (VS_assign rfl) ?_
            refine WL_nil ?_
            refine WQ_then ?_
            refine WP_ret ?_
            replace h := Option.some.inj h
            subst h
            exact WQ_ret () rfl (.tmp rfl .nil) trivial rfl (ks := []) rfl (by decide)
end Go.Proofs.Ytmdpbdhkmfjlhaa
