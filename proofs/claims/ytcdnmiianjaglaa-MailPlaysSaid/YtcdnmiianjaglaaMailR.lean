/- The document's mailbox: its walks. -/
import Derived.Test.YtcdnmiianjaglaaMailOrder
namespace Go.Proofs.Ytcdnmiianjaglaa
open Go Go.Bw

def Msg.renc (m : Msg) : List Value := [.int .i64 m.frm, .int .u64 m.word, .int .i64 m.reg, .bool m.share]
@[simp] theorem renc_len (m : Msg) : m.renc.length = 4 := rfl
@[simp] theorem one_renc (m : Msg) : OneC m.renc := OneC_of rfl
def Msg.wf (m : Msg) : Prop := (0 ≤ m.frm ∧ m.frm ≤ 255) ∧ 0 ≤ m.reg ∧ m.reg ≤ 4294967295
def rmsgs (r : Nat → Msg) (f n : Nat) : List Value := flat (fun i => (r ((f + i) % 4)).renc) n
theorem rmsgs_len (r : Nat → Msg) (f n : Nat) : (rmsgs r f n).length = n * 4 := flat_len fun _ _ => renc_len _
theorem rmsgs_one (r : Nat → Msg) (f n : Nat) : OneC (rmsgs r f n) := OneC.flat fun _ _ => one_renc _
theorem msgs_at (r : Nat → Msg) (f n i : Nat) (h : i < n) : ((msgs r f n).drop (i * 4)).take 4 = (r ((f + i) % 4)).enc := (flat_sub (g := fun i => (r ((f + i) % 4)).enc) (j := 0) (m := 4) (k := 4) (fun _ _ => rfl) h (by decide)).trans rfl
theorem rmsgs_at (r : Nat → Msg) (f n i : Nat) (h : i < n) : ((rmsgs r f n).drop (i * 4)).take 4 = (r ((f + i) % 4)).renc := (flat_sub (g := fun i => (r ((f + i) % 4)).renc) (j := 0) (m := 4) (k := 4) (fun _ _ => rfl) h (by decide)).trans rfl

theorem fn_of11 (m : Msg) (hm : m.wf) : FnV Try.prog 21 [.agg m.enc.toArray] (.agg m.renc.toArray) := by
  obtain ⟨⟨h1, h2⟩, h3, h4⟩ := hm
  refine fn_of Try.func21 (by kernel_rfl) rfl Try.ntmps21 rfl (fun cx hbs hpre hro => ?_)
  refine WP_seq ?_
  refine WP_region ?_
  refine WL_x rfl (RX_boxa rfl) (fun b1 _ => ?_)
  refine WL_x rfl (RX_alloc) (fun b2 _ => ?_)
  refine WL_nil ?_
  refine WQ_then ?_
  refine WP_seq ?_
  refine WP_region ?_
  first | refine WL_v rfl (VS_field0 rfl) ?_ | refine WL_v rfl (VS_field rfl) ?_
  refine WL_v rfl (VS_load rfl rfl) ?_
  first | refine WL_v rfl (VS_conv rfl (IntWalk.i64_in _ (by omega))) ?_ | refine WL_v rfl (VS_conv rfl rfl) ?_
  first | refine WL_v rfl (VS_field0 rfl) ?_ | refine WL_v rfl (VS_field rfl) ?_
  refine WL_v rfl (VS_load rfl rfl) ?_
  first | refine WL_v rfl (VS_field0 rfl) ?_ | refine WL_v rfl (VS_field rfl) ?_
  refine WL_v rfl (VS_load rfl rfl) ?_
  first | refine WL_v rfl (VS_conv rfl (IntWalk.i64_in _ (by omega))) ?_ | refine WL_v rfl (VS_conv rfl rfl) ?_
  first | refine WL_v rfl (VS_field0 rfl) ?_ | refine WL_v rfl (VS_field rfl) ?_
  refine WL_v rfl (VS_load rfl rfl) ?_
  refine WL_v rfl (VS_build rfl rfl) ?_
  refine WL_x0 (RX_storea rfl rfl (by first | rfl | (simp; done)) (by first | rfl | (simp; done)) (by first | exact OneC_of rfl | (simp; done) | (simp [OneC]; done) | assumption)) (fun _ _ => ?_)
  refine WL_nil ?_
  refine WQ_then ?_
  refine WP_ret ?_
  exact WQ_ret () rfl (.agg rfl inferInstance inferInstance (by first | rfl | (simp; done)) .nil) trivial rfl (ks := []) rfl (by decide)

/-- the document's Put: a new row, or what there was -/
theorem fn_rput (a : Option Addr) (cp n : Nat) (xs : List Value) (c : Bool) (m : Msg) (hx : OneC xs) (hl : xs.length = n * 4) (hn : n ≤ 4) :
    Bw.Fn (α := Option Addr × Nat) Try.prog 23 [.agg #[.slice a n cp, .bool c], .agg m.renc.toArray] (fun w => Ro w (.slice a n cp) 4 n xs) []
      (fun x => (c || n == 4) = true → x = (a, cp))
      (fun x => .tuple #[.agg #[.slice x.1 (putN n c) x.2, .bool c], .int .i64 (putE n c)])
      (fun x => [pool (bif c || n == 4 then [] else [⟨.slice x.1 (putN n c) x.2, 4, putN n c, xs ++ m.renc⟩])]) := by
  refine fn_of Try.func23 (by kernel_rfl) rfl Try.ntmps23 rfl (fun cx hbs hpre hro => ?_)
  haveI : ∀ H, RowAt cx H (.slice a n cp) 4 n xs := fun H => rowAt_ro hpre hbs
  refine WP_seq ?_
  refine WP_region ?_
  refine WL_x rfl (RX_boxa rfl) (fun b2 _ => ?_)
  refine WL_x rfl (RX_boxa rfl) (fun b3 _ => ?_)
  refine WL_x rfl (RX_alloc) (fun b4 _ => ?_)
  refine WL_v rfl (VS_assign rfl) ?_
  refine WL_nil ?_
  refine WQ_then ?_
  refine WP_seq ?_
  refine WP_seq ?_
  refine WP_region ?_
  first | refine WL_v rfl (VS_field0 rfl) ?_ | refine WL_v rfl (VS_field rfl) ?_
  refine WL_v rfl (VS_load rfl rfl) ?_
  refine WL_nil ?_
  refine WQ_then ?_
  refine WP_cond rfl (fun h0 => ?_) (fun h0 => ?_)
  ·
    refine WP_seq ?_
    refine WP_region ?_
    first | refine WL_v rfl (VS_loadall rfl (by first | rfl | (simp; done))) ?_ | refine WL_v rfl (VS_loadpart rfl rfl rfl) ?_
    refine WL_x0 (RX_storea rfl rfl (by first | rfl | (simp; done)) (by first | rfl | (simp; done)) (by first | exact OneC_of rfl | (simp; done) | (simp [OneC]; done) | assumption)) (fun _ _ => ?_)
    refine WL_v rfl (VS_assign rfl) ?_
    refine WL_nil ?_
    refine WQ_then ?_
    refine WP_ret ?_
    refine WQ_then_ret ?_
    refine WQ_pool0 ?_
    have h0 : c = true := h0
    subst h0
    exact WQ_ret (a, cp) rfl (.agg rfl inferInstance inferInstance (by first | rfl | (simp; done)) (.tmp rfl .nil)) (fun _ => rfl) (by simp [retV, putN, putE]) (ks := [0]) rfl (by decide)
  ·
    refine WP_skip ?_
    refine WQ_then ?_
    refine WP_seq ?_
    refine WP_seq ?_
    refine WP_region ?_
    first | refine WL_v rfl (VS_field0 rfl) ?_ | refine WL_v rfl (VS_field rfl) ?_
    refine WL_v rfl (VS_load rfl rfl) ?_
    refine WL_v rfl (VS_len rfl) ?_
    refine WL_v rfl (VS_gtr rfl rfl) ?_
    refine WL_nil ?_
    refine WQ_then ?_
    refine WP_cond rfl (fun h1 => ?_) (fun h1 => ?_)
    ·
      refine WP_seq ?_
      refine WP_region ?_
      first | refine WL_v rfl (VS_loadall rfl (by first | rfl | (simp; done))) ?_ | refine WL_v rfl (VS_loadpart rfl rfl rfl) ?_
      refine WL_x0 (RX_storea rfl rfl (by first | rfl | (simp; done)) (by first | rfl | (simp; done)) (by first | exact OneC_of rfl | (simp; done) | (simp [OneC]; done) | assumption)) (fun _ _ => ?_)
      refine WL_v rfl (VS_assign rfl) ?_
      refine WL_nil ?_
      refine WQ_then ?_
      refine WP_ret ?_
      refine WQ_then_ret ?_
      refine WQ_pool0 ?_
      obtain rfl : c = false := by simpa using h0
      obtain rfl : n = 4 := by omega
      exact WQ_ret (a, cp) rfl (.agg rfl inferInstance inferInstance (by first | rfl | (simp; done)) (.tmp rfl .nil)) (fun _ => rfl) (by simp [retV, putN, putE]) (ks := [0]) rfl (by decide)
    ·
      refine WP_skip ?_
      refine WQ_then ?_
      refine WP_seq ?_
      have hn4 : n ≠ 4 := by omega
      obtain rfl : c = false := by simpa using h0
      refine WP_row0 47 4 ?_
      refine WP_draw mixed (.stg [] [(0, [2]), (1, [14]), (3, [3])] (.alt 2 [15] (.stg [(0, [2]), (3, [3])] [] (.alt 4 [17] (.stg [(0, [2])] [] (.alt 5 [16, 18] (.stg [(0, [2])] [(6, [19])] (.alt 7 [4, 20] (.stg [] [] (.alt 8 [] (.fin [] []) .no)) .no)) .no)) .no)) (.alt 4 [17] (.stg [(0, [2]), (1, [14])] [] (.alt 2 [15] (.stg [(0, [2])] [] (.alt 5 [16, 18] (.stg [(0, [2])] [(6, [19])] (.alt 7 [4, 20] (.stg [] [] (.alt 8 [] (.fin [] []) .no)) .no)) .no)) .no)) .no))) (by kernel_rfl) ?_
      refine Stg_stg ?_ ?_
      · exact ReOk_nil
      first | refine NewOk_cons rfl rfl (VG_v rfl (VS_field0 rfl)) ?_ | refine NewOk_cons rfl rfl (VG_v rfl (VS_field rfl)) ?_
      refine NewOk_cons rfl rfl (VG_v rfl (VS_load rfl rfl)) ?_
      first | refine NewOk_cons rfl rfl (VG_v rfl (VS_loadall rfl (by first | rfl | (simp; done)))) ?_ | refine NewOk_cons rfl rfl (VG_v rfl (VS_loadpart rfl rfl rfl)) ?_
      refine NewOk_nil ?_
      refine Stg_some rfl rfl (RG_x rfl (RX_append_ro (bytes := 32) rfl rfl hx (by omega) (by omega))) (fun v1 hv1 => ?_) ?_
      ·
        refine Stg_stg ?_ ?_
        ·
          first | refine ReOk_cons rfl rfl (VG_v rfl (VS_field0 rfl)) ?_ | refine ReOk_cons rfl rfl (VG_v rfl (VS_field rfl)) ?_
          first | refine ReOk_cons rfl rfl (VG_v rfl (VS_loadall rfl (by first | rfl | (simp; done)))) ?_ | refine ReOk_cons rfl rfl (VG_v rfl (VS_loadpart rfl rfl rfl)) ?_
          exact ReOk_nil
        refine NewOk_nil ?_
        refine Stg_some rfl rfl (RG_x rfl (RX_buildSlice1 (sz := 4) (zs := Msg.zero.renc) (cs := m.renc) rfl rfl rfl rfl (by decide) (by decide))) (fun b10 _ => ?_) Stg_no
        refine Stg_stg ?_ ?_
        ·
          first | refine ReOk_cons rfl rfl (VG_v rfl (VS_field0 rfl)) ?_ | refine ReOk_cons rfl rfl (VG_v rfl (VS_field rfl)) ?_
          exact ReOk_nil
        refine NewOk_nil ?_
        refine Stg_some rfl rfl (RG_x rfl (RX_append (bytes := 32) (b := b10) rfl rfl (by simp) (one_renc m) (by omega) (by omega))) (fun v2 hv2 => ?_) Stg_no
        refine Stg_stg ?_ ?_
        ·
          first | refine ReOk_cons rfl rfl (VG_v rfl (VS_field0 rfl)) ?_ | refine ReOk_cons rfl rfl (VG_v rfl (VS_field rfl)) ?_
          exact ReOk_nil
        obtain ⟨a2, c2, rfl⟩ := hv2
        refine NewOk_cons rfl rfl (VG_v rfl (VS_build rfl rfl)) ?_
        refine NewOk_nil ?_
        refine Stg_none rfl (RG_x rfl (RX_storea (vs := [.slice a2 (0 + n + 1) c2, .bool false]) rfl rfl (by rfl) (by rfl) (by simp [OneC]))) (fun _ _ => ?_) Stg_no
        refine Stg_stg ?_ ?_
        · exact ReOk_nil
        refine NewOk_nil ?_
        refine Stg_some rfl rfl (RG_x rfl ((VS_assign rfl).rx)) (fun _ _ => ?_) Stg_no
        refine Stg_fin ?_ ?_
        · exact ReOk_nil
        refine NewOk_nil ?_
        refine WQ_then ?_
        refine WP_ret ?_
        have hpn : putN n false = n + 1 := by simp [putN, hn4]
        have hb : (false || n == 4) = false := by simp [hn4]
        simp only [Nat.zero_add, List.nil_append]
        refine WQ_rowpool (.slice a2 (n + 1) c2) ?_
        simp only [hpn, hb, cond_false]
        exact WQ_ret (a2, c2) rfl (.agg rfl inferInstance inferInstance (by first | rfl | (simp; done)) (.tmp rfl .nil)) (fun h => by simp at h) (by simp [retV, putE, hn4]) (ks := [1]) rfl (by decide)
      refine Stg_some rfl rfl (RG_x rfl (RX_buildSlice1 (sz := 4) (zs := Msg.zero.renc) (cs := m.renc) rfl rfl rfl rfl (by decide) (by decide))) (fun b10 _ => ?_) ?_
      ·
        refine Stg_stg ?_ ?_
        ·
          first | refine ReOk_cons rfl rfl (VG_v rfl (VS_field0 rfl)) ?_ | refine ReOk_cons rfl rfl (VG_v rfl (VS_field rfl)) ?_
          refine ReOk_cons rfl rfl (VG_v rfl (VS_load rfl rfl)) ?_
          exact ReOk_nil
        refine NewOk_nil ?_
        refine Stg_some rfl rfl (RG_x rfl (RX_append_ro (bytes := 32) rfl rfl hx (by omega) (by omega))) (fun v1 hv1 => ?_) Stg_no
        refine Stg_stg ?_ ?_
        ·
          first | refine ReOk_cons rfl rfl (VG_v rfl (VS_field0 rfl)) ?_ | refine ReOk_cons rfl rfl (VG_v rfl (VS_field rfl)) ?_
          exact ReOk_nil
        refine NewOk_nil ?_
        refine Stg_some rfl rfl (RG_x rfl (RX_append (bytes := 32) (b := b10) rfl rfl (by simp) (one_renc m) (by omega) (by omega))) (fun v2 hv2 => ?_) Stg_no
        refine Stg_stg ?_ ?_
        ·
          first | refine ReOk_cons rfl rfl (VG_v rfl (VS_field0 rfl)) ?_ | refine ReOk_cons rfl rfl (VG_v rfl (VS_field rfl)) ?_
          exact ReOk_nil
        obtain ⟨a2, c2, rfl⟩ := hv2
        refine NewOk_cons rfl rfl (VG_v rfl (VS_build rfl rfl)) ?_
        refine NewOk_nil ?_
        refine Stg_none rfl (RG_x rfl (RX_storea (vs := [.slice a2 (0 + n + 1) c2, .bool false]) rfl rfl (by rfl) (by rfl) (by simp [OneC]))) (fun _ _ => ?_) Stg_no
        refine Stg_stg ?_ ?_
        · exact ReOk_nil
        refine NewOk_nil ?_
        refine Stg_some rfl rfl (RG_x rfl ((VS_assign rfl).rx)) (fun _ _ => ?_) Stg_no
        refine Stg_fin ?_ ?_
        · exact ReOk_nil
        refine NewOk_nil ?_
        refine WQ_then ?_
        refine WP_ret ?_
        have hpn : putN n false = n + 1 := by simp [putN, hn4]
        have hb : (false || n == 4) = false := by simp [hn4]
        simp only [Nat.zero_add, List.nil_append]
        refine WQ_rowpool (.slice a2 (n + 1) c2) ?_
        simp only [hpn, hb, cond_false]
        exact WQ_ret (a2, c2) rfl (.agg rfl inferInstance inferInstance (by first | rfl | (simp; done)) (.tmp rfl .nil)) (fun h => by simp at h) (by simp [retV, putE, hn4]) (ks := [1]) rfl (by decide)
      exact Stg_no

def rtA (n : Nat) (a : Option Addr) (cp : Nat) : Option Addr := if n = 0 then a else if cp = 1 then a else a.map (·.add 4)
def rtCp (n cp : Nat) : Nat := if n = 0 then cp else cp - 1
theorem rt_cut {n cp : Nat} {a : Option Addr} (h : n ≠ 0) : cutV 1 n 4 (.slice a n cp) = .slice (rtA n a cp) (n - 1) (rtCp n cp) := by simp [cutV, rtA, rtCp, h]
theorem rmsgs_tail (r : Nat → Msg) (f n : Nat) (h : n ≠ 0) : ((rmsgs r f n).drop (1 * 4)).take ((n - 1) * 4) = rmsgs r (takeF f n) (n - 1) := by
  obtain ⟨m, rfl⟩ := Nat.exists_eq_succ_of_ne_zero h
  have h1 := flat_tail (g := fun i => (r ((f + i) % 4)).renc) (k := 4) (fun _ => rfl) m
  have h2 : (flat (fun i => (r ((f + (i + 1)) % 4)).renc) m) = rmsgs r (takeF f (m + 1)) m := flat_congr fun i _ => by
    show _ = (r ((takeF f (m + 1) + i) % 4)).renc
    rw [show (takeF f (m + 1) + i) % 4 = (f + (i + 1)) % 4 by simp [takeF]; omega]
  show ((flat (fun i => (r ((f + i) % 4)).renc) (m + 1)).drop (1 * 4)).take (m * 4) = rmsgs r (takeF f (m + 1)) m
  rw [Nat.one_mul, h1, h2, List.take_of_length_le (by rw [rmsgs_len]; exact Nat.le_refl _)]
theorem ro_take {w : World} {r : Nat → Msg} {a : Option Addr} {f n cp : Nat} (h : Ro w (.slice a n cp) 4 n (rmsgs r f n)) : Ro w (.slice (rtA n a cp) (n - 1) (rtCp n cp)) 4 (n - 1) (rmsgs r (takeF f n) (n - 1)) := by
  by_cases e : n = 0
  · subst e; simpa [rtA, rtCp, takeF] using h
  · have := h.cut (l := 1) (h := n) (by omega) (Nat.le_refl _)
    rwa [rt_cut e, rmsgs_tail r f n e] at this
theorem rtA_blk (n cp : Nat) (a : Option Addr) : (Value.slice (rtA n a cp) (n - 1) (rtCp n cp)).ownBlock = (Value.slice a n cp).ownBlock := by
  by_cases e : n = 0
  · subst e; simp [rtA, rtCp]
  · rw [← rt_cut e]; exact cutV_blk _ _ _ _
theorem fn_rtake (a : Option Addr) (cp n : Nat) (r : Nat → Msg) (f : Nat) (c : Bool) (hf : f < 4) :
    FnW Try.prog 20 [.agg #[.slice a n cp, .bool c]] (fun w => Ro w (.slice a n cp) 4 n (rmsgs r f n))
      (.tuple #[.agg #[.slice (rtA n a cp) (n - 1) (rtCp n cp), .bool c], .agg (takeM r f n).renc.toArray, .int .i64 (takeE n c)]) := by
  refine fn_of Try.func20 (by kernel_rfl) rfl Try.ntmps20 rfl (fun cx hbs hpre hro => ?_)
  haveI : ∀ H, RowAt cx H (.slice a n cp) 4 n (rmsgs r f n) := fun H => rowAt_ro hpre hbs
  refine WP_seq ?_
  refine WP_region ?_
  refine WL_x rfl (RX_boxa rfl) (fun b1 _ => ?_)
  refine WL_x rfl (RX_alloc) (fun b2 _ => ?_)
  refine WL_x rfl (RX_alloc) (fun b3 _ => ?_)
  refine WL_v rfl (VS_assign rfl) ?_
  refine WL_nil ?_
  refine WQ_then ?_
  refine WP_seq ?_
  refine WP_seq ?_
  refine WP_region ?_
  first | refine WL_v rfl (VS_field0 rfl) ?_ | refine WL_v rfl (VS_field rfl) ?_
  refine WL_v rfl (VS_load rfl rfl) ?_
  refine WL_v rfl (VS_len rfl) ?_
  refine WL_v rfl (VS_gtr rfl rfl) ?_
  refine WL_nil ?_
  refine WQ_then ?_
  refine WP_cond rfl (fun h0 => ?_) (fun h0 => ?_)
  ·
    refine WP_seq ?_
    refine WP_draw mixed (.stg [] [(0, [1]), (1, [9]), (2, [10]), (3, [1]), (4, [12]), (5, [11, 13]), (6, [1]), (7, [15]), (8, [16]), (9, [17])] (.alt 10 [2, 14] (.stg [(6, [1]), (7, [15]), (8, [16]), (9, [17])] [] (.alt 11 [3, 18] (.stg [] [] (.alt 12 [] (.fin [] []) .no)) .no)) .no)) (by kernel_rfl) ?_
    refine Stg_stg ?_ ?_
    · exact ReOk_nil
    first | refine NewOk_cons rfl rfl (VG_v rfl (VS_field0 rfl)) ?_ | refine NewOk_cons rfl rfl (VG_v rfl (VS_field rfl)) ?_
    refine NewOk_cons rfl rfl (VG_v rfl (VS_load rfl rfl)) ?_
    refine NewOk_cons rfl rfl (VG_v rfl (VS_cut_lo 1 rfl rfl (by omega))) ?_
    first | refine NewOk_cons rfl rfl (VG_v rfl (VS_field0 rfl)) ?_ | refine NewOk_cons rfl rfl (VG_v rfl (VS_field rfl)) ?_
    refine NewOk_cons rfl rfl (VG_v rfl (VS_load rfl rfl)) ?_
    refine NewOk_cons rfl rfl (VG_v rfl (VS_build rfl rfl)) ?_
    first | refine NewOk_cons rfl rfl (VG_v rfl (VS_field0 rfl)) ?_ | refine NewOk_cons rfl rfl (VG_v rfl (VS_field rfl)) ?_
    refine NewOk_cons rfl rfl (VG_v rfl (VS_load rfl rfl)) ?_
    refine NewOk_cons rfl rfl (VG_v rfl (VS_index_row (m := 0) rfl rfl rfl (by omega))) ?_
    refine NewOk_cons rfl rfl (VG_v rfl (VS_loada_row (us := (r f).renc) rfl (by have := rmsgs_at r f n 0 (by omega); simpa [Nat.mod_eq_of_lt hf] using this) rfl (by simp))) ?_
    refine NewOk_nil ?_
    refine Stg_none rfl (RG_x rfl (RX_storea (vs := [cutV 1 n 4 (.slice a n cp), .bool c]) rfl rfl (by rfl) (by rfl) (by simp [OneC, cutV]))) (fun _ _ => ?_) Stg_no
    refine Stg_stg ?_ ?_
    ·
      first | refine ReOk_cons rfl rfl (VG_v rfl (VS_field0 rfl)) ?_ | refine ReOk_cons rfl rfl (VG_v rfl (VS_field rfl)) ?_
      refine ReOk_cons rfl rfl (VG_v rfl (VS_load rfl rfl)) ?_
      refine ReOk_cons rfl rfl (VG_v rfl (VS_index_row (m := 0) rfl rfl rfl (by omega))) ?_
      refine ReOk_cons rfl rfl (VG_v rfl (VS_loada_row (us := (r f).renc) rfl (by have := rmsgs_at r f n 0 (by omega); simpa [Nat.mod_eq_of_lt hf] using this) rfl (by simp))) ?_
      exact ReOk_nil
    refine NewOk_nil ?_
    refine Stg_none rfl (RG_x rfl (RX_storea rfl rfl (by first | rfl | (simp; done)) (by first | rfl | (simp; done)) (by first | exact OneC_of rfl | (simp; done) | (simp [OneC]; done) | assumption))) (fun _ _ => ?_) Stg_no
    refine Stg_stg ?_ ?_
    · exact ReOk_nil
    refine NewOk_nil ?_
    refine Stg_some rfl rfl (RG_x rfl ((VS_assign rfl).rx)) (fun _ _ => ?_) Stg_no
    refine Stg_fin ?_ ?_
    · exact ReOk_nil
    refine NewOk_nil ?_
    refine WQ_then ?_
    refine WP_ret ?_
    refine WQ_then_ret ?_
    exact WQ_ret () rfl (.agg rfl inferInstance inferInstance (by first | rfl | (simp; done)) (.agg rfl inferInstance inferInstance (by first | rfl | (simp; done)) (.tmp rfl .nil))) trivial (by simp [retV, rt_cut (show n ≠ 0 by omega), takeM, takeE, show n ≠ 0 by omega]) (ks := []) rfl (by decide)
  ·
    refine WP_skip ?_
    refine WQ_then ?_
    refine WP_seq ?_
    refine WP_seq ?_
    refine WP_region ?_
    first | refine WL_v rfl (VS_field0 rfl) ?_ | refine WL_v rfl (VS_field rfl) ?_
    refine WL_v rfl (VS_load rfl rfl) ?_
    refine WL_nil ?_
    refine WQ_then ?_
    refine WP_cond rfl (fun h1 => ?_) (fun h1 => ?_)
    ·
      refine WP_seq ?_
      refine WP_region ?_
      first | refine WL_v rfl (VS_loadall rfl (by first | rfl | (simp; done))) ?_ | refine WL_v rfl (VS_loadpart rfl rfl rfl) ?_
      refine WL_v rfl (VS_build rfl rfl) ?_
      refine WL_x0 (RX_storea (vs := [.slice a n cp, .bool c]) rfl rfl (by rfl) (by rfl) (by simp [OneC])) (fun _ _ => ?_)
      refine WL_x0 (RX_storea rfl rfl (by first | rfl | (simp; done)) (by first | rfl | (simp; done)) (by first | exact OneC_of rfl | (simp; done) | (simp [OneC]; done) | assumption)) (fun _ _ => ?_)
      refine WL_v rfl (VS_assign rfl) ?_
      refine WL_nil ?_
      refine WQ_then ?_
      refine WP_ret ?_
      refine WQ_then_ret ?_
      exact WQ_ret () rfl (.agg rfl inferInstance inferInstance (by first | rfl | (simp; done)) (.agg rfl inferInstance inferInstance (by first | rfl | (simp; done)) (.tmp rfl .nil))) trivial (by simp [retV, rtA, rtCp, takeM, takeE, show n = 0 by omega, h1]; rfl) (ks := []) rfl (by decide)
    ·
      refine WP_skip ?_
      refine WQ_then ?_
      refine WP_seq ?_
      refine WP_region ?_
      first | refine WL_v rfl (VS_loadall rfl (by first | rfl | (simp; done))) ?_ | refine WL_v rfl (VS_loadpart rfl rfl rfl) ?_
      refine WL_v rfl (VS_build rfl rfl) ?_
      refine WL_x0 (RX_storea (vs := [.slice a n cp, .bool c]) rfl rfl (by rfl) (by rfl) (by simp [OneC])) (fun _ _ => ?_)
      refine WL_x0 (RX_storea rfl rfl (by first | rfl | (simp; done)) (by first | rfl | (simp; done)) (by first | exact OneC_of rfl | (simp; done) | (simp [OneC]; done) | assumption)) (fun _ _ => ?_)
      refine WL_v rfl (VS_assign rfl) ?_
      refine WL_nil ?_
      refine WQ_then ?_
      refine WP_ret ?_
      exact WQ_ret () rfl (.agg rfl inferInstance inferInstance (by first | rfl | (simp; done)) (.agg rfl inferInstance inferInstance (by first | rfl | (simp; done)) (.tmp rfl .nil))) trivial (by simp [retV, rtA, rtCp, takeM, takeE, show n = 0 by omega, h1]; rfl) (ks := []) rfl (by decide)

theorem fn_same11 (a : Option Addr) (cp n : Nat) (r : Nat → Msg) (f : Nat) (c : Bool) (hf : f < 4) (hn : n ≤ 4) (hw : ∀ j, (r j).wf) :
    FnW Try.prog 24 [.agg (encBox r f n c).toArray, .agg #[.slice a n cp, .bool c]] (fun w => Ro w (.slice a n cp) 4 n (rmsgs r f n)) (.bool true) := by
  refine fn_of Try.func24 (by kernel_rfl) rfl Try.ntmps24 rfl (fun cx hbs hpre hro => ?_)
  haveI : ∀ H, RowAt cx H (.slice a n cp) 4 n (rmsgs r f n) := fun H => rowAt_ro hpre hbs
  refine WP_seq ?_
  refine WP_region ?_
  refine WL_x rfl (RX_boxa rfl) (fun b2 _ => ?_)
  refine WL_x rfl (RX_boxa rfl) (fun b3 _ => ?_)
  refine WL_v rfl (VS_assign rfl) ?_
  refine WL_nil ?_
  refine WQ_then ?_
  refine WP_seq ?_
  refine WP_region ?_
  first | refine WL_v rfl (VS_loadall rfl (by first | rfl | (simp; done))) ?_ | refine WL_v rfl (VS_loadpart rfl rfl rfl) ?_
  refine WL_x rfl (RX_call (fn_all r f n c hf hn) rfl (fun _ _ _ => trivial)) (fun va hva => ?_)
  dsimp only [List.cons_append, List.nil_append]
  refine WL_v rfl (VS_assign rfl) ?_
  refine WL_nil ?_
  refine WQ_then ?_
  refine WP_seq ?_
  refine WP_seq ?_
  refine WP_draw mixed (.fin [] [(0, [5]), (1, [9]), (2, [3]), (3, [11]), (4, [12]), (5, [10, 13]), (6, [14]), (7, [2, 15]), (8, [15, 16]), (9, [3, 15]), (10, [15, 18]), (11, [15, 17, 19]), (12, [15, 20])]) (by kernel_rfl) ?_
  refine Stg_fin ?_ ?_
  · exact ReOk_nil
  refine NewOk_cons rfl rfl (VG_v rfl (VS_move rfl)) ?_
  refine NewOk_cons rfl rfl (VG_v rfl (VS_len rfl)) ?_
  first | refine NewOk_cons rfl rfl (VG_v rfl (VS_field0 rfl)) ?_ | refine NewOk_cons rfl rfl (VG_v rfl (VS_field rfl)) ?_
  refine NewOk_cons rfl rfl (VG_v rfl (VS_load rfl rfl)) ?_
  refine NewOk_cons rfl rfl (VG_v rfl (VS_len rfl)) ?_
  refine NewOk_cons rfl rfl (VG_v rfl (VS_neq rfl rfl)) ?_
  refine NewOk_cons rfl rfl (VG_v rfl (VS_move rfl)) ?_
  first | refine NewOk_cons rfl rfl (VG_g (Gd_b rfl rfl) (fun hb => VS_loadall rfl (by first | rfl | (simp; done)))) ?_ | refine NewOk_cons rfl rfl (VG_g (Gd_b rfl rfl) (fun hb => VS_loadpart rfl rfl rfl)) ?_
  refine NewOk_cons rfl rfl (VG_g (Gd_b rfl rfl) (fun hb => VS_call (fn_closed r f n c) (evs_cons (gev rfl hb) rfl) (fun _ _ _ => trivial))) ?_
  first | refine NewOk_cons rfl rfl (VG_g (Gd_b rfl rfl) (fun hb => VS_field0 rfl)) ?_ | refine NewOk_cons rfl rfl (VG_g (Gd_b rfl rfl) (fun hb => VS_field rfl)) ?_
  refine NewOk_cons rfl rfl (VG_g (Gd_b rfl rfl) (fun hb => VS_load (gev rfl hb) rfl)) ?_
  refine NewOk_cons rfl rfl (VG_g (Gd_b rfl rfl) (fun hb => VS_neqb (gev rfl hb) (gev rfl hb))) ?_
  refine NewOk_cons rfl rfl (VG_v rfl (VS_or rfl rfl)) ?_
  refine NewOk_nil ?_
  refine WQ_then ?_
  refine WP_cond rfl (fun h0 => ?_) (fun h0 => ?_)
  ·
    exfalso
    simp at h0
  ·
    refine WP_skip ?_
    refine WQ_then ?_
    refine WP_seq ?_
    refine WP_seq ?_
    refine WP_region ?_
    refine WL_v rfl (VS_assign rfl) ?_
    refine WL_nil ?_
    refine WQ_then ?_
    refine WP_block ?_
    refine WP_loops (α := Nat) [0, 1, 7, 8, 9, 10, 11, 12, 13, 14, 15, 16, 17, 18, 19, 20, 21] (.cons rfl (.cons rfl (.cons rfl (.cons rfl (.cons rfl (.cons rfl (.cons rfl (.cons rfl (.cons rfl (.cons rfl (.cons rfl (.cons rfl (.cons rfl (.cons rfl (.cons rfl (.cons rfl (.cons rfl (.nil)))))))))))))))))) (fun k => [(2, Ptr b2 0), (3, Ptr b3 0), (5, va), (6, .int .i64 k)]) (fun k => [.cells b2 31 (encBox r f n c), .cells b3 45 [.slice a n cp, .bool c], .sl va 4 n (msgs r f n)]) (fun k => k ≤ n) (fun k => n - k) 0 (Nat.zero_le _) (by repeat' (first | exact Sub_nil | refine Sub_cons ?_ ?_ | rfl | (simp [lk]; done) | (simp [lk]; omega))) (ks := [2, 1, 0]) rfl (by decide) ?_
    rintro k hp
    have hp : k ≤ n := hp
    refine WP_seq ?_
    refine WP_seq ?_
    refine WP_region ?_
    refine WL_v rfl (VS_move rfl) ?_
    refine WL_v rfl (VS_move rfl) ?_
    refine WL_v rfl (VS_len rfl) ?_
    refine WL_v rfl (VS_lss rfl rfl) ?_
    refine WL_nil ?_
    refine WQ_then ?_
    refine WP_cond rfl (fun h1 => ?_) (fun h1 => ?_)
    ·
      refine WP_skip ?_
      refine WQ_then ?_
      refine WP_seq ?_
      refine WP_block ?_
      refine WP_seq ?_
      refine WP_draw mixed (.fin [] [(0, [5]), (1, [6]), (2, [28, 29]), (3, [30]), (4, [31]), (5, [3]), (6, [33]), (7, [6]), (8, [34, 35]), (9, [36]), (10, [32, 37])]) (by kernel_rfl) ?_
      refine Stg_fin ?_ ?_
      · exact ReOk_nil
      refine NewOk_cons rfl rfl (VG_v rfl (VS_move rfl)) ?_
      refine NewOk_cons rfl rfl (VG_v rfl (VS_move rfl)) ?_
      refine NewOk_cons rfl rfl (VG_v rfl (VS_index_row (v := va) (m := k) rfl rfl rfl (by omega))) ?_
      refine NewOk_cons rfl rfl (VG_v rfl (VS_loada_row (us := (r ((f + k) % 4)).enc) rfl (msgs_at r f n k (by omega)) rfl (by decide))) ?_
      refine NewOk_cons rfl rfl (VG_v rfl (VS_call (fn_of11 (r ((f + k) % 4)) (hw _)) rfl (fun _ _ _ => trivial))) ?_
      first | refine NewOk_cons rfl rfl (VG_v rfl (VS_field0 rfl)) ?_ | refine NewOk_cons rfl rfl (VG_v rfl (VS_field rfl)) ?_
      refine NewOk_cons rfl rfl (VG_v rfl (VS_load rfl rfl)) ?_
      refine NewOk_cons rfl rfl (VG_v rfl (VS_move rfl)) ?_
      refine NewOk_cons rfl rfl (VG_v rfl (VS_index_row (m := k) rfl rfl rfl (by omega))) ?_
      refine NewOk_cons rfl rfl (VG_v rfl (VS_loada_row (us := (r ((f + k) % 4)).renc) rfl (rmsgs_at r f n k (by omega)) rfl (by decide))) ?_
      refine NewOk_cons rfl rfl (VG_v rfl (VS_neqs rfl rfl rfl rfl)) ?_
      refine NewOk_nil ?_
      refine WQ_then ?_
      refine WP_cond rfl (fun h2 => ?_) (fun h2 => ?_)
      ·
        exfalso
        simp [eqAt_refl (ks := [(0, some .i64), (1, some .u64), (2, some .i64), (3, none)]) (cs := (r ((f + k) % 4)).renc) rfl] at h2
      ·
        refine WP_skip ?_
        refine WQ_block ?_
        refine WQ_then ?_
        refine WP_region ?_
        refine WL_v rfl (VS_move rfl) ?_
        first | refine WL_v rfl (VS_add rfl rfl (IntWalk.i64_in _ (by omega))) ?_ | refine WL_v rfl (VS_add rfl rfl rfl) ?_
        refine WL_v rfl (VS_assign rfl) ?_
        refine WL_nil ?_
        refine WQ_loops (k + 1) (by first | omega | (simp; omega)) (by omega) (by repeat' (first | exact Sub_nil | refine Sub_cons ?_ ?_ | rfl | (simp [lk]; done) | (simp [lk]; omega))) (.cons rfl (.cons rfl (.cons rfl (.cons rfl (.cons rfl (.cons rfl (.cons rfl (.cons rfl (.cons rfl (.cons rfl (.cons rfl (.cons rfl (.cons rfl (.cons rfl (.cons rfl (.cons rfl (.cons rfl (.nil)))))))))))))))))) (ks := [0, 1, 2]) rfl (by decide)
    ·
      refine WP_exit ?_
      refine WQ_then_exit ?_
      refine WQ_then_exit ?_
      refine WQ_block_exit ?_
      refine WQ_then ?_
      refine WP_seq ?_
      refine WP_region ?_
      refine WL_v rfl (VS_assign rfl) ?_
      refine WL_nil ?_
      refine WQ_then ?_
      refine WP_ret ?_
      exact WQ_ret () rfl (.tmp rfl .nil) trivial rfl (ks := []) rfl (by decide)

end Go.Proofs.Ytcdnmiianjaglaa
