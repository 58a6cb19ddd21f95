/- The walk of MailPlays. -/
import Derived.Test.YtcdnmiianjaglaaMailR
namespace Go.Proofs.Ytcdnmiianjaglaa
open Go Go.Bw

theorem ro_nil (w : World) (r : Nat → Msg) (f cp : Nat) (a : Option Addr) : Ro w (.slice a 0 cp) 4 0 (rmsgs r f 0) := ⟨by simp [rmsgs, flat], .inl ⟨⟨_, _, rfl⟩, rfl⟩⟩
theorem zs_wf : ∀ j, (zs j).wf := fun _ => by refine ⟨⟨?_, ?_⟩, ?_, ?_⟩ <;> simp [zs, Msg.zero]
theorem put_wf {r : Nat → Msg} {f n : Nat} {c : Bool} {m : Msg} (h : ∀ j, (r j).wf) (hm : m.wf) : ∀ j, (putR r f n c m j).wf := fun j => by
  unfold putR Box.put
  split
  · exact h j
  · simp only [upd]
    split
    · exact hm
    · exact h j
theorem rput_msgs (r : Nat → Msg) (f n : Nat) (m : Msg) (h : n < 4) : rmsgs r f n ++ m.renc = rmsgs (putR r f n false m) f (n + 1) := by
  have e : putR r f n false m = upd r ((f + n) % 4) m := by simp [putR, Box.put, show n ≠ 4 by omega]
  show _ = flat _ n ++ _
  rw [e]
  congr 1
  · exact flat_congr fun i hi => by rw [upd_other _ _ (by omega)]
  · show m.renc = (upd r ((f + n) % 4) m ((f + n) % 4)).renc
    rw [upd_same]

/-- what the document's list is, behind a Put -/
theorem pool_put {w : World} {r : Nat → Msg} {a a' : Option Addr} {cp cp' f n : Nat} {c : Bool} {m : Msg} (hn : n ≤ 4) (hp : (c || n == 4) = true → (a', cp') = (a, cp))
    (h1 : ∀ q ∈ (bif c || n == 4 then [] else [(⟨.slice a' (putN n c) cp', 4, putN n c, rmsgs r f n ++ m.renc⟩ : Sl)]), q.ok w) (h2 : Ro w (.slice a n cp) 4 n (rmsgs r f n)) :
    Ro w (.slice a' (putN n c) cp') 4 (putN n c) (rmsgs (putR r f n c m) f (putN n c)) := by
  by_cases e : (c || n == 4) = true
  · obtain ⟨rfl, rfl⟩ := Prod.mk.inj (hp e)
    simpa [putN, putR, e] using h2
  · have e' : (c || n == 4) = false := by simpa using e
    rw [e'] at h1
    have e2 : c = false ∧ n ≠ 4 := by cases c <;> simp_all
    have h3 := h1 ⟨.slice a' (putN n c) cp', 4, putN n c, rmsgs r f n ++ m.renc⟩ (by simp)
    have h3 : Ro w (.slice a' (putN n c) cp') 4 (putN n c) (rmsgs r f n ++ m.renc) := h3
    have e3 : putN n c = n + 1 := by simp [putN, e']
    rw [e3]
    obtain ⟨rfl, _⟩ := e2
    have h4 : Ro w (.slice a' (n + 1) cp') 4 (n + 1) (rmsgs r f n ++ m.renc) := by have := h3; rwa [e3] at this
    rw [rput_msgs r f n m (by omega)] at h4
    exact h4

theorem pool_put_blk {a a' a2 : Option Addr} {cp cp' cp2 n n2 : Nat} {c : Bool} {ys xs zs ws : List Value} {b : Nat} (hp : (c || n == 4) = true → (a', cp') = (a, cp))
    (h : b ∈ poolBs [⟨.slice a' (putN n c) cp', 4, putN n c, ys⟩, ⟨.slice a2 n2 cp2, 4, n2, ws⟩]) :
    b ∈ poolBs ((bif c || n == 4 then [] else [(⟨.slice a' (putN n c) cp', 4, putN n c, xs⟩ : Sl)]) ++ [⟨.slice a n cp, 4, n, zs⟩, ⟨.slice a2 n2 cp2, 4, n2, ws⟩]) := by
  by_cases e : (c || n == 4) = true
  · obtain ⟨rfl, rfl⟩ := Prod.mk.inj (hp e)
    have e3 : putN n c = n := by simp [putN, e]
    rw [e3] at h
    simpa [poolBs, e] using h
  · have e' : (c || n == 4) = false := by simpa using e
    rw [e']
    simp only [poolBs, cond_false, List.flatMap_append, List.flatMap_cons, List.flatMap_nil, List.append_nil, List.mem_append] at h ⊢
    rcases h with h | h
    · exact .inl h
    · exact .inr (.inr h)
theorem take_wf {r : Nat → Msg} {f n : Nat} (h : ∀ j, (r j).wf) : (takeM r f n).wf := by
  unfold takeM
  split
  · exact zs_wf 0
  · exact h f

set_option maxHeartbeats 4000000 in
theorem fn_plays11 (g : Nat → MAct) (len : Nat) (v : Value) (hw : ∀ i, i < len → (g i).m.wf) :
    FnW Try.prog 4 [v] (fun w => Ro w v 5 len (mrow g len)) (.bool true) := by
  refine fn_of Try.func4 (by kernel_rfl) rfl Try.ntmps4 rfl (fun cx hbs hpre hro => ?_)
  haveI : ∀ H, RowAt cx H v 5 len (mrow g len) := fun H => rowAt_ro hpre hbs
  refine WP_seq ?_
  refine WP_region ?_
  refine WL_v rfl (VS_assign rfl) ?_
  refine WL_nil ?_
  refine WQ_then ?_
  refine WP_seq ?_
  refine WP_seq ?_
  refine WP_region ?_
  refine WL_v rfl (VS_move rfl) ?_
  refine WL_v rfl (VS_len rfl) ?_
  refine WL_v rfl (VS_gtr rfl rfl) ?_
  refine WL_nil ?_
  refine WQ_then ?_
  refine WP_cond rfl (fun hlen => ?_) (fun hlen => ?_)
  ·
    refine WP_seq ?_
    refine WP_region ?_
    refine WL_v rfl (VS_call (fn_wakes11) rfl (fun _ _ _ => trivial)) ?_
    refine WL_v rfl (VS_assign rfl) ?_
    refine WL_nil ?_
    refine WQ_then ?_
    refine WP_ret ?_
    refine WQ_then_ret ?_
    exact WQ_ret () rfl (.tmp rfl .nil) trivial rfl (ks := []) rfl (by decide)
  ·
    refine WP_skip ?_
    refine WQ_then ?_
    refine WP_seq ?_
    refine WP_region ?_
    refine WL_x rfl (RX_alloc) (fun b3 _ => ?_)
    refine WL_x rfl (RX_alloc) (fun b4 _ => ?_)
    refine WL_nil ?_
    refine WQ_then ?_
    refine WP_seq ?_
    refine WP_region ?_
    refine WL_x rfl (RX_alloc) (fun b5 _ => ?_)
    refine WL_x rfl (RX_alloc) (fun b6 _ => ?_)
    refine WL_nil ?_
    refine WQ_then ?_
    refine WP_seq ?_
    refine WP_seq ?_
    have hlen : len ≤ 200 := by omega
    refine WP_region ?_
    refine WL_v rfl (VS_assign rfl) ?_
    refine WL_nil ?_
    refine WQ_then ?_
    refine WP_block ?_
    refine WP_pool0 ?_
    refine WP_pool [⟨.slice none 0 0, 4, 0, rmsgs zs 0 0⟩, ⟨.slice none 0 0, 4, 0, rmsgs zs 0 0⟩] (fun w _ q hq => by simp at hq; subst hq; exact ro_nil w zs 0 0 none) (fun b hb => by simp [poolBs, Value.ownBlock] at hb) ?_
    refine WP_loops (α := Nat × ((Nat → Msg) × Nat × Nat × Bool × Option Addr × Nat) × ((Nat → Msg) × Nat × Nat × Bool × Option Addr × Nat)) [19, 20, 21] (.cons rfl (.cons rfl (.cons rfl (.nil)))) (fun ⟨k, ⟨r, f, n, c, a, cp⟩, ⟨r2, f2, n2, c2, a2, cp2⟩⟩ => [(0, v), (3, Ptr b3 0), (4, Ptr b4 0), (5, Ptr b5 0), (6, Ptr b6 0), (7, .int .i64 k)]) (fun ⟨k, ⟨r, f, n, c, a, cp⟩, ⟨r2, f2, n2, c2, a2, cp2⟩⟩ => [.cells b3 31 (encBox r f n c), .cells b4 31 (encBox r2 f2 n2 c2), .cells b5 45 [.slice a n cp, .bool c], .cells b6 45 [.slice a2 n2 cp2, .bool c2], pool [⟨.slice a n cp, 4, n, rmsgs r f n⟩, ⟨.slice a2 n2 cp2, 4, n2, rmsgs r2 f2 n2⟩]]) (fun ⟨k, ⟨r, f, n, c, a, cp⟩, ⟨r2, f2, n2, c2, a2, cp2⟩⟩ => k ≤ len ∧ (f < 4 ∧ n ≤ 4 ∧ ∀ j, (r j).wf) ∧ (f2 < 4 ∧ n2 ≤ 4 ∧ ∀ j, (r2 j).wf)) (fun ⟨k, ⟨r, f, n, c, a, cp⟩, ⟨r2, f2, n2, c2, a2, cp2⟩⟩ => len - k) (0, (zs, 0, 0, false, none, 0), (zs, 0, 0, false, none, 0)) ⟨Nat.zero_le _, ⟨by decide, by decide, zs_wf⟩, ⟨by decide, by decide, zs_wf⟩⟩ (by repeat' (first | exact Sub_nil | refine Sub_cons ?_ ?_ | rfl | (simp [lk]; done) | (simp [lk]; omega))) (ks := [4, 3, 2, 1, 0]) rfl (by decide) ?_
    rintro ⟨k, ⟨r, f, n, c, a, cp⟩, ⟨r2, f2, n2, c2, a2, cp2⟩⟩ hp
    have hp : k ≤ len ∧ (f < 4 ∧ n ≤ 4 ∧ ∀ j, (r j).wf) ∧ (f2 < 4 ∧ n2 ≤ 4 ∧ ∀ j, (r2 j).wf) := hp
    obtain ⟨hk, ⟨hf, hn, hwf⟩, ⟨hf2, hn2, hwf2⟩⟩ := hp
    refine WP_seq ?_
    refine WP_seq ?_
    refine WP_region ?_
    refine WL_v rfl (VS_move rfl) ?_
    refine WL_v rfl (VS_move rfl) ?_
    refine WL_v rfl (VS_len rfl) ?_
    refine WL_v rfl (VS_lss rfl rfl) ?_
    refine WL_nil ?_
    refine WQ_then ?_
    refine WP_cond rfl (fun h1 => ?_) (fun h1 => ?_)
    ·
      refine WP_skip ?_
      refine WQ_then ?_
      refine WP_seq ?_
      refine WP_block ?_
      refine WP_seq ?_
      refine WP_region ?_
      refine WL_v rfl (VS_assign rfl) ?_
      refine WL_v rfl (VS_assign rfl) ?_
      refine WL_nil ?_
      refine WQ_then ?_
      refine WP_cuts (α := ((Nat → Msg) × Nat × Nat × Bool × Option Addr × Nat) × Int) [19, 20, 21, 23, 24, 25, 26] (.cons rfl (.cons rfl (.cons rfl (.cons rfl (.cons rfl (.cons rfl (.cons rfl (.nil)))))))) (fun ⟨⟨r, f, n, c, a, cp⟩, e⟩ => [(0, v), (3, Ptr b3 0), (4, Ptr b4 0), (5, Ptr b5 0), (6, Ptr b6 0), (7, .int .i64 k), (8, .int .i64 e), (9, .int .i64 e)]) (fun ⟨⟨r, f, n, c, a, cp⟩, e⟩ => [.cells b3 31 (encBox r f n c), .cells b4 31 (encBox r2 f2 n2 c2), .cells b5 45 [.slice a n cp, .bool c], .cells b6 45 [.slice a2 n2 cp2, .bool c2], pool [⟨.slice a n cp, 4, n, rmsgs r f n⟩, ⟨.slice a2 n2 cp2, 4, n2, rmsgs r2 f2 n2⟩]]) (fun ⟨⟨r, f, n, c, a, cp⟩, e⟩ => f < 4 ∧ n ≤ 4 ∧ ∀ j, (r j).wf) ?_ ?_
      ·
        refine WP_seq ?_
        refine WP_region ?_
        refine WL_v rfl (VS_move rfl) ?_
        refine WL_v rfl (VS_move rfl) ?_
        refine WL_v rfl (VS_index_row (m := k) rfl rfl rfl (by omega)) ?_
        refine WL_v rfl (VS_field_row (m := k) rfl (by omega)) ?_
        refine WL_v rfl (VS_load_row rfl (mrow_do g len k (by omega))) ?_
        refine WL_nil ?_
        refine WQ_then ?_
        refine WP_block ?_
        refine WP_seq ?_
        refine WP_region ?_
        refine WL_v rfl (VS_eql rfl rfl) ?_
        refine WL_v rfl (VS_assign rfl) ?_
        refine WL_nil ?_
        refine WQ_then ?_
        refine WP_cond rfl (fun h2 => ?_) (fun h2 => ?_)
        ·
          refine WP_seq ?_
          refine WP_region ?_
          first | refine WL_v rfl (VS_loadall rfl (by first | rfl | (simp; done))) ?_ | refine WL_v rfl (VS_loadpart rfl rfl rfl) ?_
          refine WL_v rfl (VS_call (fn_take' r f n c hf hn) rfl (fun _ _ _ => trivial)) ?_
          refine WL_v rfl (VS_move rfl) ?_
          refine WL_v rfl (VS_extract rfl rfl) ?_
          refine WL_v rfl (VS_extract rfl rfl) ?_
          refine WL_v rfl (VS_extract rfl rfl) ?_
          refine WL_x rfl (RX_alloc) (fun b10 _ => ?_)
          refine WL_x rfl (RX_alloc) (fun b11 _ => ?_)
          refine WL_x0 (RX_storea rfl rfl (by first | rfl | (simp; done)) (by first | rfl | (simp; done)) (by first | exact OneC_of rfl | (simp; done) | (simp [OneC]; done) | assumption)) (fun _ _ => ?_)
          refine WL_x0 (RX_storea rfl rfl (by first | rfl | (simp; done)) (by first | rfl | (simp; done)) (by first | exact OneC_of rfl | (simp; done) | (simp [OneC]; done) | assumption)) (fun _ _ => ?_)
          refine WL_v rfl (VS_assign rfl) ?_
          refine WL_nil ?_
          refine WQ_then ?_
          refine WP_seq ?_
          refine WP_region ?_
          first | refine WL_v rfl (VS_loadall rfl (by first | rfl | (simp; done))) ?_ | refine WL_v rfl (VS_loadpart rfl rfl rfl) ?_
          refine WL_v rfl (VS_call (fn_rtake a cp n r f c hf) rfl pre_row) ?_
          refine WL_v rfl (VS_move rfl) ?_
          refine WL_v rfl (VS_extract rfl rfl) ?_
          refine WL_v rfl (VS_extract rfl rfl) ?_
          refine WL_v rfl (VS_extract rfl rfl) ?_
          refine WL_x rfl (RX_alloc) (fun b13 _ => ?_)
          refine WL_x rfl (RX_alloc) (fun b14 _ => ?_)
          refine WL_x0 (RX_storea rfl rfl (by first | rfl | (simp; done)) (by first | rfl | (simp; done)) (by first | exact OneC_of rfl | (simp; done) | (simp [OneC]; done) | assumption)) (fun _ _ => ?_)
          refine WL_x0 (RX_storea rfl rfl (by first | rfl | (simp; done)) (by first | rfl | (simp; done)) (by first | exact OneC_of rfl | (simp; done) | (simp [OneC]; done) | assumption)) (fun _ _ => ?_)
          refine WL_v rfl (VS_assign rfl) ?_
          refine WL_nil ?_
          refine WQ_then ?_
          refine WP_seq ?_
          refine WP_draw mixed (.stg [] [(0, [10]), (1, [13]), (2, [12]), (3, [15])] (.alt 4 [3, 69] (.stg [(1, [13]), (2, [12]), (3, [15])] [] (.alt 5 [5, 70] (.stg [(2, [12]), (3, [15])] [] (.alt 6 [71] (.stg [(3, [15])] [] (.alt 7 [72] (.fin [] []) .no)) .no)) .no)) .no)) (by kernel_rfl) ?_
          refine Stg_stg ?_ ?_
          · exact ReOk_nil
          first | refine NewOk_cons rfl rfl (VG_v rfl (VS_loadall rfl (by first | rfl | (simp; done)))) ?_ | refine NewOk_cons rfl rfl (VG_v rfl (VS_loadpart rfl rfl rfl)) ?_
          first | refine NewOk_cons rfl rfl (VG_v rfl (VS_loadall rfl (by first | rfl | (simp; done)))) ?_ | refine NewOk_cons rfl rfl (VG_v rfl (VS_loadpart rfl rfl rfl)) ?_
          refine NewOk_cons rfl rfl (VG_v rfl (VS_move rfl)) ?_
          refine NewOk_cons rfl rfl (VG_v rfl (VS_move rfl)) ?_
          refine NewOk_nil ?_
          refine Stg_none rfl (RG_x rfl (RX_storea rfl rfl (by first | rfl | (simp; done)) (by first | rfl | (simp; done)) (by first | exact OneC_of rfl | (simp; done) | (simp [OneC]; done) | assumption))) (fun _ _ => ?_) Stg_no
          refine Stg_stg ?_ ?_
          ·
            first | refine ReOk_cons rfl rfl (VG_v rfl (VS_loadall rfl (by first | rfl | (simp; done)))) ?_ | refine ReOk_cons rfl rfl (VG_v rfl (VS_loadpart rfl rfl rfl)) ?_
            refine ReOk_cons rfl rfl (VG_v rfl (VS_move rfl)) ?_
            refine ReOk_cons rfl rfl (VG_v rfl (VS_move rfl)) ?_
            exact ReOk_nil
          refine NewOk_nil ?_
          refine Stg_none rfl (RG_x rfl (RX_storea rfl rfl (by first | rfl | (simp; done)) (by first | rfl | (simp; done)) (by first | exact OneC_of rfl | (simp; done) | (simp [OneC]; done) | assumption))) (fun _ _ => ?_) Stg_no
          refine Stg_stg ?_ ?_
          ·
            refine ReOk_cons rfl rfl (VG_v rfl (VS_move rfl)) ?_
            refine ReOk_cons rfl rfl (VG_v rfl (VS_move rfl)) ?_
            exact ReOk_nil
          refine NewOk_nil ?_
          refine Stg_some rfl rfl (RG_x rfl ((VS_assign rfl).rx)) (fun _ _ => ?_) Stg_no
          refine Stg_stg ?_ ?_
          ·
            refine ReOk_cons rfl rfl (VG_v rfl (VS_move rfl)) ?_
            exact ReOk_nil
          refine NewOk_nil ?_
          refine Stg_some rfl rfl (RG_x rfl ((VS_assign rfl).rx)) (fun _ _ => ?_) Stg_no
          refine Stg_fin ?_ ?_
          · exact ReOk_nil
          refine NewOk_nil ?_
          refine WQ_then ?_
          refine WP_seq ?_
          refine WP_draw mixed (.fin [] [(0, [11]), (1, [73]), (2, [14]), (3, [74, 75])]) (by kernel_rfl) ?_
          refine Stg_fin ?_ ?_
          · exact ReOk_nil
          first | refine NewOk_cons rfl rfl (VG_v rfl (VS_loadall rfl (by first | rfl | (simp; done)))) ?_ | refine NewOk_cons rfl rfl (VG_v rfl (VS_loadpart rfl rfl rfl)) ?_
          refine NewOk_cons rfl rfl (VG_v rfl (VS_call (fn_of11 (takeM r f n) (take_wf hwf)) rfl (fun _ _ _ => trivial))) ?_
          first | refine NewOk_cons rfl rfl (VG_v rfl (VS_loadall rfl (by first | rfl | (simp; done)))) ?_ | refine NewOk_cons rfl rfl (VG_v rfl (VS_loadpart rfl rfl rfl)) ?_
          refine NewOk_cons rfl rfl (VG_v rfl (VS_neqs rfl rfl rfl rfl)) ?_
          refine NewOk_nil ?_
          refine WQ_then ?_
          refine WP_cond rfl (fun h3 => ?_) (fun h3 => ?_)
          ·
            exfalso
            simp [eqAt_refl (ks := [(0, some .i64), (1, some .u64), (2, some .i64), (3, none)]) (cs := (takeM r f n).renc) rfl] at h3
          ·
            refine WP_skip ?_
            refine WQ_block ?_
            refine WQ_pool [⟨.slice (rtA n a cp) (n - 1) (rtCp n cp), 4, n - 1, rmsgs r (takeF f n) (n - 1)⟩, ⟨.slice a2 n2 cp2, 4, n2, rmsgs r2 f2 n2⟩] (fun w h q hq => ?_) (fun b hb => ?_) ?_
            · simp at hq; rcases hq with rfl | rfl
              · exact ro_take (h ⟨.slice a n cp, 4, n, rmsgs r f n⟩ (by simp))
              · exact h _ (by simp)
            · simpa [poolBs, rtA_blk] using hb
            refine WQ_cuts ((r, takeF f n, n - 1, c, rtA n a cp, rtCp n cp), takeE n c) ⟨takeF_lt hf, by omega, hwf⟩ (by repeat' (first | exact Sub_nil | refine Sub_cons ?_ ?_ | rfl | (simp [lk]; done) | (simp [lk]; omega))) (.cons rfl (.cons rfl (.cons rfl (.cons rfl (.cons rfl (.cons rfl (.cons rfl (.nil)))))))) (ks := [4, 5, 6, 7, 8]) rfl (by decide)
        ·
          refine WP_seq ?_
          refine WP_region ?_
          refine WL_v rfl (VS_eql rfl rfl) ?_
          refine WL_v rfl (VS_assign rfl) ?_
          refine WL_nil ?_
          refine WQ_then ?_
          refine WP_cond rfl (fun h4 => ?_) (fun h4 => ?_)
          ·
            refine WP_seq ?_
            refine WP_region ?_
            first | refine WL_v rfl (VS_loadall rfl (by first | rfl | (simp; done))) ?_ | refine WL_v rfl (VS_loadpart rfl rfl rfl) ?_
            refine WL_v rfl (VS_call (fn_close r f n c) rfl (fun _ _ _ => trivial)) ?_
            refine WL_v rfl (VS_move rfl) ?_
            refine WL_v rfl (VS_extract rfl rfl) ?_
            refine WL_v rfl (VS_extract rfl rfl) ?_
            refine WL_x0 (RX_storea rfl rfl (by first | rfl | (simp; done)) (by first | rfl | (simp; done)) (by first | exact OneC_of rfl | (simp; done) | (simp [OneC]; done) | assumption)) (fun _ _ => ?_)
            refine WL_v rfl (VS_assign rfl) ?_
            refine WL_nil ?_
            refine WQ_then ?_
            refine WP_seq ?_
            refine WP_seq ?_
            refine WP_region ?_
            first | refine WL_v rfl (VS_field0 rfl) ?_ | refine WL_v rfl (VS_field rfl) ?_
            refine WL_v rfl (VS_load rfl rfl) ?_
            refine WL_nil ?_
            refine WQ_then ?_
            refine WP_cond rfl (fun h5 => ?_) (fun h5 => ?_)
            ·
              obtain rfl : c = true := h5
              refine WP_region ?_
              refine WL_v rfl (VS_assign rfl) ?_
              refine WL_nil ?_
              refine WQ_then ?_
              refine WP_region ?_
              first | refine WL_v rfl (VS_field0 rfl) ?_ | refine WL_v rfl (VS_field rfl) ?_
              refine WL_x0 (RX_store1 rfl rfl rfl (by first | decide | (simp; done) | omega | (simp; omega)) rfl) (fun _ _ => ?_)
              refine WL_nil ?_
              refine WQ_block ?_
              refine WQ_cuts ((r, f, n, true, a, cp), 11) ⟨hf, hn, hwf⟩ (by repeat' (first | exact Sub_nil | refine Sub_cons ?_ ?_ | rfl | (simp [lk]; done) | (simp [lk]; omega))) (.cons rfl (.cons rfl (.cons rfl (.cons rfl (.cons rfl (.cons rfl (.cons rfl (.nil)))))))) (ks := [0, 1, 2, 3, 4]) rfl (by decide)
            ·
              obtain rfl : c = false := by simpa using h5
              refine WP_skip ?_
              refine WQ_then ?_
              refine WP_region ?_
              first | refine WL_v rfl (VS_field0 rfl) ?_ | refine WL_v rfl (VS_field rfl) ?_
              refine WL_x0 (RX_store1 rfl rfl rfl (by first | decide | (simp; done) | omega | (simp; omega)) rfl) (fun _ _ => ?_)
              refine WL_nil ?_
              refine WQ_block ?_
              refine WQ_cuts ((r, f, n, true, a, cp), 0) ⟨hf, hn, hwf⟩ (by repeat' (first | exact Sub_nil | refine Sub_cons ?_ ?_ | rfl | (simp [lk]; done) | (simp [lk]; omega))) (.cons rfl (.cons rfl (.cons rfl (.cons rfl (.cons rfl (.cons rfl (.cons rfl (.nil)))))))) (ks := [0, 1, 2, 3, 4]) rfl (by decide)
          ·
            refine WP_seq ?_
            refine WP_region ?_
            refine WL_v rfl (VS_eql rfl rfl) ?_
            refine WL_v rfl (VS_assign rfl) ?_
            refine WL_nil ?_
            refine WQ_then ?_
            refine WP_cond rfl (fun h6 => ?_) (fun h6 => ?_)
            ·
              refine WP_seq ?_
              refine WP_region ?_
              first | refine WL_v rfl (VS_loadall rfl (by first | rfl | (simp; done))) ?_ | refine WL_v rfl (VS_loadpart rfl rfl rfl) ?_
              refine WL_x rfl (RX_call (fn_drain r f n c hf hn) rfl (fun _ _ _ => trivial)) (fun va hva => ?_)
              dsimp only [List.cons_append, List.nil_append]
              refine WL_v rfl (VS_move rfl) ?_
              refine WL_v rfl (VS_extract rfl rfl) ?_
              refine WL_v rfl (VS_extract rfl rfl) ?_
              refine WL_x rfl (RX_alloc) (fun b16 _ => ?_)
              refine WL_x0 (RX_storea rfl rfl (by first | rfl | (simp; done)) (by first | rfl | (simp; done)) (by first | exact OneC_of rfl | (simp; done) | (simp [OneC]; done) | assumption)) (fun _ _ => ?_)
              refine WL_v rfl (VS_assign rfl) ?_
              refine WL_nil ?_
              refine WQ_then ?_
              refine WP_seq ?_
              refine WP_seq ?_
              refine WP_region ?_
              refine WL_v rfl (VS_move rfl) ?_
              refine WL_v rfl (VS_len rfl) ?_
              first | refine WL_v rfl (VS_field0 rfl) ?_ | refine WL_v rfl (VS_field rfl) ?_
              refine WL_v rfl (VS_load rfl rfl) ?_
              refine WL_v rfl (VS_len rfl) ?_
              refine WL_v rfl (VS_neq rfl rfl) ?_
              refine WL_nil ?_
              refine WQ_then ?_
              refine WP_cond rfl (fun h7 => ?_) (fun h7 => ?_)
              ·
                exfalso
                simp at h7
              ·
                refine WP_skip ?_
                refine WQ_then ?_
                refine WP_seq ?_
                refine WP_seq ?_
                refine WP_region ?_
                refine WL_v rfl (VS_assign rfl) ?_
                refine WL_nil ?_
                refine WQ_then ?_
                refine WP_block ?_
                refine WP_loops (α := Nat) [0, 3, 4, 5, 6, 7, 8, 9, 16, 17, 19, 20, 21, 23, 24, 25, 26, 29, 30, 31, 32, 33, 55, 56, 77, 78, 87, 88, 89, 90, 91, 92, 93, 94, 95, 96, 97, 98, 99] (.cons rfl (.cons rfl (.cons rfl (.cons rfl (.cons rfl (.cons rfl (.cons rfl (.cons rfl (.cons rfl (.cons rfl (.cons rfl (.cons rfl (.cons rfl (.cons rfl (.cons rfl (.cons rfl (.cons rfl (.cons rfl (.cons rfl (.cons rfl (.cons rfl (.cons rfl (.cons rfl (.cons rfl (.cons rfl (.cons rfl (.cons rfl (.cons rfl (.cons rfl (.cons rfl (.cons rfl (.cons rfl (.cons rfl (.cons rfl (.cons rfl (.cons rfl (.cons rfl (.cons rfl (.cons rfl (.nil)))))))))))))))))))))))))))))))))))))))) (fun i => [(18, .int .i64 i)]) (fun i => [.cells b3 31 (encBox r f n c), .cells b4 31 (encBox r2 f2 n2 c2), .cells b5 45 [.slice a n cp, .bool c], .cells b6 45 [.slice a2 n2 cp2, .bool c2], pool [⟨.slice a n cp, 4, n, rmsgs r f n⟩, ⟨.slice a2 n2 cp2, 4, n2, rmsgs r2 f2 n2⟩], .sl va 4 n (msgs r f n), .cells b16 31 (encBox (fun _ => Msg.zero) 0 0 true)]) (fun i => i ≤ n) (fun i => n - i) 0 (Nat.zero_le _) (by repeat' (first | exact Sub_nil | refine Sub_cons ?_ ?_ | rfl | (simp [lk]; done) | (simp [lk]; omega))) (ks := [2, 3, 4, 5, 6, 1, 0]) rfl (by decide) ?_
                rintro i hp
                have hp : i ≤ n := hp
                refine WP_seq ?_
                refine WP_seq ?_
                refine WP_region ?_
                refine WL_v rfl (VS_move rfl) ?_
                refine WL_v rfl (VS_move rfl) ?_
                refine WL_v rfl (VS_len rfl) ?_
                refine WL_v rfl (VS_lss rfl rfl) ?_
                refine WL_nil ?_
                refine WQ_then ?_
                refine WP_cond rfl (fun h8 => ?_) (fun h8 => ?_)
                ·
                  refine WP_skip ?_
                  refine WQ_then ?_
                  refine WP_seq ?_
                  refine WP_block ?_
                  refine WP_seq ?_
                  refine WP_draw mixed (.fin [] [(0, [17]), (1, [18]), (2, [106, 107]), (3, [108]), (4, [109]), (5, [5]), (6, [111]), (7, [18]), (8, [112, 113]), (9, [114]), (10, [110, 115])]) (by kernel_rfl) ?_
                  refine Stg_fin ?_ ?_
                  · exact ReOk_nil
                  refine NewOk_cons rfl rfl (VG_v rfl (VS_move rfl)) ?_
                  refine NewOk_cons rfl rfl (VG_v rfl (VS_move rfl)) ?_
                  refine NewOk_cons rfl rfl (VG_v rfl (VS_index_row (v := va) (m := i) rfl rfl rfl (by omega))) ?_
                  refine NewOk_cons rfl rfl (VG_v rfl (VS_loada_row (us := (r ((f + i) % 4)).enc) rfl (msgs_at r f n i (by omega)) rfl (by decide))) ?_
                  refine NewOk_cons rfl rfl (VG_v rfl (VS_call (fn_of11 (r ((f + i) % 4)) (hwf _)) rfl (fun _ _ _ => trivial))) ?_
                  first | refine NewOk_cons rfl rfl (VG_v rfl (VS_field0 rfl)) ?_ | refine NewOk_cons rfl rfl (VG_v rfl (VS_field rfl)) ?_
                  refine NewOk_cons rfl rfl (VG_v rfl (VS_load rfl rfl)) ?_
                  refine NewOk_cons rfl rfl (VG_v rfl (VS_move rfl)) ?_
                  refine NewOk_cons rfl rfl (VG_v rfl (VS_index_row (m := i) rfl rfl rfl (by omega))) ?_
                  refine NewOk_cons rfl rfl (VG_v rfl (VS_loada_row (us := (r ((f + i) % 4)).renc) rfl (rmsgs_at r f n i (by omega)) rfl (by decide))) ?_
                  refine NewOk_cons rfl rfl (VG_v rfl (VS_neqs rfl rfl rfl rfl)) ?_
                  refine NewOk_nil ?_
                  refine WQ_then ?_
                  refine WP_cond rfl (fun h9 => ?_) (fun h9 => ?_)
                  ·
                    exfalso
                    simp [eqAt_refl (ks := [(0, some .i64), (1, some .u64), (2, some .i64), (3, none)]) (cs := (r ((f + i) % 4)).renc) rfl] at h9
                  ·
                    refine WP_skip ?_
                    refine WQ_block ?_
                    refine WQ_then ?_
                    refine WP_region ?_
                    refine WL_v rfl (VS_move rfl) ?_
                    first | refine WL_v rfl (VS_add rfl rfl (IntWalk.i64_in _ (by omega))) ?_ | refine WL_v rfl (VS_add rfl rfl rfl) ?_
                    refine WL_v rfl (VS_assign rfl) ?_
                    refine WL_nil ?_
                    refine WQ_loops (i + 1) (by first | omega | (simp; omega)) (by omega) (by repeat' (first | exact Sub_nil | refine Sub_cons ?_ ?_ | rfl | (simp [lk]; done) | (simp [lk]; omega))) (.cons rfl (.cons rfl (.cons rfl (.cons rfl (.cons rfl (.cons rfl (.cons rfl (.cons rfl (.cons rfl (.cons rfl (.cons rfl (.cons rfl (.cons rfl (.cons rfl (.cons rfl (.cons rfl (.cons rfl (.cons rfl (.cons rfl (.cons rfl (.cons rfl (.cons rfl (.cons rfl (.cons rfl (.cons rfl (.cons rfl (.cons rfl (.cons rfl (.cons rfl (.cons rfl (.cons rfl (.cons rfl (.cons rfl (.cons rfl (.cons rfl (.cons rfl (.cons rfl (.cons rfl (.cons rfl (.nil)))))))))))))))))))))))))))))))))))))))) (ks := [0, 1, 2, 3, 4, 5, 6]) rfl (by decide)
                ·
                  refine WP_exit ?_
                  refine WQ_then_exit ?_
                  refine WQ_then_exit ?_
                  refine WQ_block_exit ?_
                  refine WQ_then ?_
                  refine WP_seq ?_
                  refine WP_region ?_
                  first | refine WL_v rfl (VS_loadall rfl (by first | rfl | (simp; done))) ?_ | refine WL_v rfl (VS_loadpart rfl rfl rfl) ?_
                  refine WL_x0 (RX_storea rfl rfl (by first | rfl | (simp; done)) (by first | rfl | (simp; done)) (by first | exact OneC_of rfl | (simp; done) | (simp [OneC]; done) | assumption)) (fun _ _ => ?_)
                  refine WL_nil ?_
                  refine WQ_then ?_
                  refine WP_region ?_
                  refine WL_v rfl (VS_build rfl rfl) ?_
                  refine WL_x0 (RX_storea (vs := [.slice none 0 0, .bool true]) rfl rfl (by rfl) (by rfl) (by simp [OneC])) (fun _ _ => ?_)
                  refine WL_nil ?_
                  refine WQ_block ?_
                  refine WQ_pool [⟨.slice none 0 0, 4, 0, rmsgs zs 0 0⟩, ⟨.slice a2 n2 cp2, 4, n2, rmsgs r2 f2 n2⟩] (fun w h q hq => ?_) (fun b hb => ?_) ?_
                  · simp at hq; rcases hq with rfl | rfl
                    · exact ro_nil w zs 0 0 none
                    · exact h _ (by simp)
                  · simp [poolBs, Value.ownBlock] at hb ⊢; exact .inr hb
                  refine WQ_cuts ((zs, 0, 0, true, none, 0), 0) ⟨by decide, by decide, zs_wf⟩ (by repeat' (first | exact Sub_nil | refine Sub_cons ?_ ?_ | rfl | (simp [lk]; done) | (simp [lk]; omega))) (.cons rfl (.cons rfl (.cons rfl (.cons rfl (.cons rfl (.cons rfl (.cons rfl (.nil)))))))) (ks := [0, 1, 2, 3, 4]) rfl (by decide)
            ·
              refine WP_seq ?_
              refine WP_draw mixed (.stg [] [(0, [3]), (1, [0]), (2, [7]), (3, [36, 37]), (4, [38]), (5, [39]), (6, [35, 40]), (7, [41]), (8, [34]), (9, [34])] (.alt 10 [3, 42] (.stg [(9, [34])] [] (.alt 11 [43] (.fin [] []) .no)) .no)) (by kernel_rfl) ?_
              refine Stg_stg ?_ ?_
              · exact ReOk_nil
              first | refine NewOk_cons rfl rfl (VG_v rfl (VS_loadall rfl (by first | rfl | (simp; done)))) ?_ | refine NewOk_cons rfl rfl (VG_v rfl (VS_loadpart rfl rfl rfl)) ?_
              refine NewOk_cons rfl rfl (VG_v rfl (VS_move rfl)) ?_
              refine NewOk_cons rfl rfl (VG_v rfl (VS_move rfl)) ?_
              refine NewOk_cons rfl rfl (VG_v rfl (VS_index_row (m := k) rfl rfl rfl (by omega))) ?_
              refine NewOk_cons rfl rfl (VG_v rfl (VS_field_row (m := k) rfl (by omega))) ?_
              refine NewOk_cons rfl rfl (VG_v rfl (VS_loada_row rfl (mrow_m g len k (by omega)) rfl (by decide))) ?_
              refine NewOk_cons rfl rfl (VG_v rfl (VS_call (fn_put' r f n c (g k).m hf hn) rfl (fun _ _ _ => trivial))) ?_
              refine NewOk_cons rfl rfl (VG_v rfl (VS_move rfl)) ?_
              refine NewOk_cons rfl rfl (VG_v rfl (VS_extract rfl rfl)) ?_
              refine NewOk_cons rfl rfl (VG_v rfl (VS_extract rfl rfl)) ?_
              refine NewOk_nil ?_
              refine Stg_none rfl (RG_x rfl (RX_storea rfl rfl (by first | rfl | (simp; done)) (by first | rfl | (simp; done)) (by first | exact OneC_of rfl | (simp; done) | (simp [OneC]; done) | assumption))) (fun _ _ => ?_) Stg_no
              refine Stg_stg ?_ ?_
              ·
                refine ReOk_cons rfl rfl (VG_v rfl (VS_extract rfl rfl)) ?_
                exact ReOk_nil
              refine NewOk_nil ?_
              refine Stg_some rfl rfl (RG_x rfl ((VS_assign rfl).rx)) (fun _ _ => ?_) Stg_no
              refine Stg_fin ?_ ?_
              · exact ReOk_nil
              refine NewOk_nil ?_
              refine WQ_then ?_
              refine WP_draw mixed (.stg [] [(0, [5]), (1, [0]), (2, [7]), (3, [46, 47]), (4, [48]), (5, [49]), (6, [50])] (.alt 7 [45, 51] (.stg [(1, [0]), (2, [7]), (3, [46, 47]), (4, [48]), (5, [49])] [(8, [52]), (9, [44]), (10, [44])] (.alt 11 [5, 53] (.stg [(10, [44])] [] (.alt 12 [54] (.fin [] []) .no)) .no)) .no)) (by kernel_rfl) ?_
              refine Stg_stg ?_ ?_
              · exact ReOk_nil
              first | refine NewOk_cons rfl rfl (VG_v rfl (VS_loadall rfl (by first | rfl | (simp; done)))) ?_ | refine NewOk_cons rfl rfl (VG_v rfl (VS_loadpart rfl rfl rfl)) ?_
              refine NewOk_cons rfl rfl (VG_v rfl (VS_move rfl)) ?_
              refine NewOk_cons rfl rfl (VG_v rfl (VS_move rfl)) ?_
              refine NewOk_cons rfl rfl (VG_v rfl (VS_index_row (m := k) rfl rfl rfl (by omega))) ?_
              refine NewOk_cons rfl rfl (VG_v rfl (VS_field_row (m := k) rfl (by omega))) ?_
              refine NewOk_cons rfl rfl (VG_v rfl (VS_loada_row rfl (mrow_m g len k (by omega)) rfl (by decide))) ?_
              refine NewOk_cons rfl rfl (VG_v rfl (VS_call (fn_of11 (g k).m (hw k (by omega))) rfl (fun _ _ _ => trivial))) ?_
              refine NewOk_nil ?_
              refine Stg_some rfl rfl (RG_x rfl (RX_call (fn_rput a cp n (rmsgs r f n) c (g k).m (rmsgs_one _ _ _) (rmsgs_len _ _ _) hn) rfl pre_row)) (fun ⟨a', cp'⟩ hx => ?_) Stg_no
              dsimp only [List.cons_append, List.nil_append]
              refine Stg_stg ?_ ?_
              ·
                refine ReOk_cons rfl rfl (VG_v rfl (VS_move rfl)) ?_
                refine ReOk_cons rfl rfl (VG_v rfl (VS_move rfl)) ?_
                refine ReOk_cons rfl rfl (VG_v rfl (VS_index_row (m := k) rfl rfl rfl (by omega))) ?_
                refine ReOk_cons rfl rfl (VG_v rfl (VS_field_row (m := k) rfl (by omega))) ?_
                refine ReOk_cons rfl rfl (VG_v rfl (VS_loada_row rfl (mrow_m g len k (by omega)) rfl (by decide))) ?_
                exact ReOk_nil
              refine NewOk_cons rfl rfl (VG_v rfl (VS_move rfl)) ?_
              refine NewOk_cons rfl rfl (VG_v rfl (VS_extract rfl rfl)) ?_
              refine NewOk_cons rfl rfl (VG_v rfl (VS_extract rfl rfl)) ?_
              refine NewOk_nil ?_
              refine Stg_none rfl (RG_x rfl (RX_storea rfl rfl (by first | rfl | (simp; done)) (by first | rfl | (simp; done)) (by first | exact OneC_of rfl | (simp; done) | (simp [OneC]; done) | assumption))) (fun _ _ => ?_) Stg_no
              refine Stg_stg ?_ ?_
              ·
                refine ReOk_cons rfl rfl (VG_v rfl (VS_extract rfl rfl)) ?_
                exact ReOk_nil
              refine NewOk_nil ?_
              refine Stg_some rfl rfl (RG_x rfl ((VS_assign rfl).rx)) (fun _ _ => ?_) Stg_no
              refine Stg_fin ?_ ?_
              · exact ReOk_nil
              refine NewOk_nil ?_
              refine WQ_block ?_
              refine WQ_merge ?_
              refine WQ_pool [⟨.slice a' (putN n c) cp', 4, putN n c, rmsgs (putR r f n c (g k).m) f (putN n c)⟩, ⟨.slice a2 n2 cp2, 4, n2, rmsgs r2 f2 n2⟩] (fun w h q hq => ?_) (fun b hb => ?_) ?_
              · simp only [List.mem_cons, List.not_mem_nil, or_false] at hq; rcases hq with rfl | rfl
                · exact pool_put hn hx (fun q hq => h q (List.mem_append_left _ hq)) (h ⟨.slice a n cp, 4, n, rmsgs r f n⟩ (by simp))
                · exact h _ (by simp)
              · exact pool_put_blk hx hb
              refine WQ_cuts ((putR r f n c (g k).m, f, putN n c, c, a', cp'), putE n c) ⟨hf, by unfold putN; split <;> simp_all <;> omega, put_wf hwf (hw k (by omega))⟩ (by repeat' (first | exact Sub_nil | refine Sub_cons ?_ ?_ | rfl | (simp [lk]; done) | (simp [lk]; omega))) (.cons rfl (.cons rfl (.cons rfl (.cons rfl (.cons rfl (.cons rfl (.cons rfl (.nil)))))))) (ks := [0, 1, 2, 3, 4]) rfl (by decide)
      ·
        rintro ⟨⟨r, f, n, c, a, cp⟩, e⟩ hp
        have hp : f < 4 ∧ n ≤ 4 ∧ ∀ j, (r j).wf := hp
        obtain ⟨hf, hn, hwf⟩ := hp
        refine WP_seq ?_
        refine WP_seq ?_
        refine WP_region ?_
        refine WL_v rfl (VS_move rfl) ?_
        refine WL_v rfl (VS_move rfl) ?_
        refine WL_v rfl (VS_neq rfl rfl) ?_
        refine WL_v rfl (VS_move rfl) ?_
        first | refine WL_g (Gd_b rfl rfl) rfl (fun hb => VS_loadall rfl (by first | rfl | (simp; done))) ?_ | refine WL_g (Gd_b rfl rfl) rfl (fun hb => VS_loadpart rfl rfl rfl) ?_
        first | refine WL_g (Gd_b rfl rfl) rfl (fun hb => VS_loadall rfl (by first | rfl | (simp; done))) ?_ | refine WL_g (Gd_b rfl rfl) rfl (fun hb => VS_loadpart rfl rfl rfl) ?_
        refine WL_g (Gd_b rfl rfl) rfl (fun hb => VS_call (fn_same11 a cp n r f c hf hn hwf) (evs_cons (gev rfl hb) (evs_cons (gev rfl hb) rfl)) pre_row) ?_
        refine WL_g (Gd_b rfl rfl) rfl (fun hb => VS_not (gev rfl hb)) ?_
        refine WL_v rfl (VS_or rfl rfl) ?_
        refine WL_nil ?_
        refine WQ_then ?_
        refine WP_cond rfl (fun h10 => ?_) (fun h10 => ?_)
        ·
          exfalso
          simp at h10
        ·
          refine WP_skip ?_
          refine WQ_then ?_
          refine WP_seq ?_
          refine WP_region ?_
          refine WL_v rfl (VS_move rfl) ?_
          refine WL_v rfl (VS_move rfl) ?_
          refine WL_v rfl (VS_len rfl) ?_
          first | refine WL_v rfl (VS_quo rfl rfl (by omega) (IntWalk.i64_quo _ _ (by omega))) ?_ | refine WL_v rfl (VS_quo rfl rfl (by omega) rfl) ?_
          refine WL_v rfl (VS_eql rfl rfl) ?_
          refine WL_nil ?_
          refine WQ_then ?_
          refine WP_cond rfl (fun h11 => ?_) (fun h11 => ?_)
          ·
            refine WP_seq ?_
            refine WP_region ?_
            first | refine WL_v rfl (VS_loadall rfl (by first | rfl | (simp; done))) ?_ | refine WL_v rfl (VS_loadpart rfl rfl rfl) ?_
            refine WL_x0 (RX_storea rfl rfl (by first | rfl | (simp; done)) (by first | rfl | (simp; done)) (by first | exact OneC_of rfl | (simp; done) | (simp [OneC]; done) | assumption)) (fun _ _ => ?_)
            refine WL_nil ?_
            refine WQ_then ?_
            refine WP_region ?_
            first | refine WL_v rfl (VS_loadall rfl (by first | rfl | (simp; done))) ?_ | refine WL_v rfl (VS_loadpart rfl rfl rfl) ?_
            refine WL_x0 (RX_storea rfl rfl (by first | rfl | (simp; done)) (by first | rfl | (simp; done)) (by first | exact OneC_of rfl | (simp; done) | (simp [OneC]; done) | assumption)) (fun _ _ => ?_)
            refine WL_nil ?_
            refine WQ_block ?_
            refine WQ_then ?_
            refine WP_region ?_
            refine WL_v rfl (VS_move rfl) ?_
            first | refine WL_v rfl (VS_add rfl rfl (IntWalk.i64_in _ (by omega))) ?_ | refine WL_v rfl (VS_add rfl rfl rfl) ?_
            refine WL_v rfl (VS_assign rfl) ?_
            refine WL_nil ?_
            refine WQ_pool [⟨.slice a n cp, 4, n, rmsgs r f n⟩, ⟨.slice a n cp, 4, n, rmsgs r f n⟩] (fun w h q hq => h q (by simp at hq; subst hq; simp)) (fun b hb => by simp [poolBs] at hb ⊢; exact .inl hb) ?_
            refine WQ_loops (k + 1, (r, f, n, c, a, cp), (r, f, n, c, a, cp)) (by first | omega | (simp; omega)) ⟨by omega, ⟨hf, hn, hwf⟩, ⟨hf, hn, hwf⟩⟩ (by repeat' (first | exact Sub_nil | refine Sub_cons ?_ ?_ | rfl | (simp [lk]; done) | (simp [lk]; omega))) (.cons rfl (.cons rfl (.cons rfl (.nil)))) (ks := [0, 1, 2, 3, 4]) rfl (by decide)
          ·
            refine WP_skip ?_
            refine WQ_block ?_
            refine WQ_then ?_
            refine WP_region ?_
            refine WL_v rfl (VS_move rfl) ?_
            first | refine WL_v rfl (VS_add rfl rfl (IntWalk.i64_in _ (by omega))) ?_ | refine WL_v rfl (VS_add rfl rfl rfl) ?_
            refine WL_v rfl (VS_assign rfl) ?_
            refine WL_nil ?_
            refine WQ_loops (k + 1, (r, f, n, c, a, cp), (r2, f2, n2, c2, a2, cp2)) (by first | omega | (simp; omega)) ⟨by omega, ⟨hf, hn, hwf⟩, ⟨hf2, hn2, hwf2⟩⟩ (by repeat' (first | exact Sub_nil | refine Sub_cons ?_ ?_ | rfl | (simp [lk]; done) | (simp [lk]; omega))) (.cons rfl (.cons rfl (.cons rfl (.nil)))) (ks := [0, 1, 2, 3, 4]) rfl (by decide)
    ·
      refine WP_exit ?_
      refine WQ_then_exit ?_
      refine WQ_then_exit ?_
      refine WQ_block_exit ?_
      refine WQ_then ?_
      refine WP_seq ?_
      refine WP_region ?_
      first | refine WL_v rfl (VS_loadall rfl (by first | rfl | (simp; done))) ?_ | refine WL_v rfl (VS_loadpart rfl rfl rfl) ?_
      first | refine WL_v rfl (VS_loadall rfl (by first | rfl | (simp; done))) ?_ | refine WL_v rfl (VS_loadpart rfl rfl rfl) ?_
      refine WL_v rfl (VS_call (fn_same11 a2 cp2 n2 r2 f2 c2 hf2 hn2 hwf2) rfl pre_row) ?_
      refine WL_v rfl (VS_move rfl) ?_
      refine WL_g (Gd_b rfl rfl) rfl (fun hb => VS_call (fn_wakes11) rfl (fun _ _ _ => trivial)) ?_
      refine WL_v rfl (VS_and rfl rfl) ?_
      refine WL_v rfl (VS_assign rfl) ?_
      refine WL_nil ?_
      refine WQ_then ?_
      refine WP_ret ?_
      exact WQ_ret () rfl (.tmp rfl .nil) trivial rfl (ks := []) rfl (by decide)

end Go.Proofs.Ytcdnmiianjaglaa
