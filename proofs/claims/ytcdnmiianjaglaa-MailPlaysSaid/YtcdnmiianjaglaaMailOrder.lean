/- The walk of MailOrder. -/
import Derived.Test.YtcdnmiianjaglaaMailW
namespace Go.Proofs.Ytcdnmiianjaglaa
open Go Go.Bw

structure MAct where
  act : Int
  m : Msg
def MAct.enc (a : MAct) : List Value := .int .u8 a.act :: a.m.enc
def mrow (g : Nat → MAct) (n : Nat) : List Value := flat (fun i => (g i).enc) n
theorem mrow_do (g : Nat → MAct) (n k : Nat) (hk : k < n) : (mrow g n)[k * 5 + 0]? = some (.int .u8 (g k).act) := (flat_get (g := fun i => (g i).enc) (fun _ _ => rfl) hk (by decide)).trans rfl
theorem mrow_m (g : Nat → MAct) (n k : Nat) (hk : k < n) : ((mrow g n).drop (k * 5 + 1)).take 4 = (g k).m.enc := (flat_sub (g := fun i => (g i).enc) (fun _ _ => rfl) hk (by decide)).trans rfl

/-- what is put is numbered -/
def Numbered (r : Nat → Msg) (f n t : Nat) : Prop := ∀ j, j < n → (r ((f + j) % 4)).word = ((t + j : Nat) : Int)
theorem takeE_0 {n : Nat} {c : Bool} : takeE n c = 0 ↔ n ≠ 0 := by unfold takeE; cases c <;> by_cases h : n = 0 <;> simp [h]
theorem putE_0 {n : Nat} {c : Bool} : putE n c = 0 ↔ c = false ∧ n ≠ 4 := by unfold putE; cases c <;> by_cases h : n = 4 <;> simp [h]
theorem takeF_lt {f n : Nat} (h : f < 4) : takeF f n < 4 := by unfold takeF; split <;> omega
theorem num_take {r : Nat → Msg} {f n t : Nat} (h : Numbered r f n t) (e : n ≠ 0) : Numbered r (takeF f n) (n - 1) (t + 1) := fun j hj => by
  have := h (j + 1) (by omega)
  have e2 : (takeF f n + j) % 4 = (f + (j + 1)) % 4 := by simp only [takeF, e, if_false]; omega
  rw [e2, this]; congr 1; omega
theorem num_take0 {r : Nat → Msg} {f n t : Nat} (e : n = 0) : Numbered r (takeF f n) (n - 1) t := fun j hj => by omega
theorem num_put {r : Nat → Msg} {f n t : Nat} {c : Bool} {m : Msg} (h : Numbered r f n t) (hn : n < 4) (hc : c = false) (hm : m.word = ((t + n : Nat) : Int)) : Numbered (putR r f n c m) f (n + 1) t := fun j hj => by
  have e : putR r f n c m = upd r ((f + n) % 4) m := by subst hc; simp [putR, Box.put, show n ≠ 4 by omega]
  rw [e]
  by_cases e2 : j = n
  · subst e2; rw [upd_same, hm]
  · rw [upd_other _ _ (by omega)]; exact h j (by omega)
theorem num_put0 {r : Nat → Msg} {f n t : Nat} {c : Bool} {m : Msg} (h : Numbered r f n t) (hc : ¬(c = false ∧ n ≠ 4)) : Numbered (putR r f n c m) f (putN n c) t := by
  have e : (c || n == 4) = true := by cases c <;> simp_all
  simpa [putR, putN, e] using h
theorem dead4 {r : Nat → Msg} {f n t p : Nat} {c : Bool} (hp : p = t + n) (h : Numbered r f n t) (hf : f < 4) : ¬(((takeE n c == 0) != decide ((t : Int) < p)) = true ∨ takeE n c = 0 ∧ (takeM r f n).word ≠ (t : Int)) := by
  subst hp
  by_cases e : n = 0
  · subst e
    have h1 : takeE 0 c ≠ 0 := fun q => takeE_0.1 q rfl
    simp [h1]
  · have h1 : takeE n c = 0 := takeE_0.2 e
    have h2 : (takeM r f n).word = (t : Int) := by have := h 0 (by omega); simp only [takeM, e, if_false]; simpa [Nat.mod_eq_of_lt hf] using this
    simp [h1, h2, show (t : Int) < t + n by omega]

theorem dead7 {n t p : Nat} {c : Bool} (hp : p = t + n) (hn : n ≤ 4) : ¬((putE n c == 0) != (!c && decide ((p : Int) - t < 4))) = true := by
  subst hp
  have h1 := @putE_0 n c
  cases c
  · by_cases e : n = 4
    · subst e
      simp [show putE 4 false = 7 from rfl]; omega
    · have h2 : putE n false = 0 := h1.2 ⟨rfl, e⟩
      simp [h2]; omega
  · have h2 : putE n true ≠ 0 := fun q => absurd (h1.1 q).1 (by decide)
    simp [h2]

theorem fn_order (g : Nat → MAct) (len : Nat) (v : Value) :
    FnW Try.prog 3 [v] (fun w => Ro w v 5 len (mrow g len)) (.bool true) := by
  refine fn_of Try.func3 (by kernel_rfl) rfl Try.ntmps3 rfl (fun cx hbs hpre hro => ?_)
  haveI : ∀ H, RowAt cx H v 5 len (mrow g len) := fun H => rowAt_ro hpre hbs
  refine WP_seq ?_
  refine WP_region ?_
  refine WL_v rfl (VS_assign rfl) ?_
  refine WL_nil ?_
  refine WQ_then ?_
  refine WP_seq ?_
  refine WP_seq ?_
  refine WP_region ?_
  refine WL_v rfl (VS_move rfl) ?_
  refine WL_v rfl (VS_len rfl) ?_
  refine WL_v rfl (VS_gtr rfl rfl) ?_
  refine WL_nil ?_
  refine WQ_then ?_
  refine WP_cond rfl (fun hlen => ?_) (fun hlen => ?_)
  ·
    refine WP_seq ?_
    refine WP_region ?_
    refine WL_v rfl (VS_call (fn_wakes11) rfl (fun _ _ _ => trivial)) ?_
    refine WL_v rfl (VS_assign rfl) ?_
    refine WL_nil ?_
    refine WQ_then ?_
    refine WP_ret ?_
    refine WQ_then_ret ?_
    exact WQ_ret () rfl (.tmp rfl .nil) trivial rfl (ks := []) rfl (by decide)
  ·
    refine WP_skip ?_
    refine WQ_then ?_
    refine WP_seq ?_
    refine WP_region ?_
    refine WL_x rfl (RX_alloc) (fun b3 _ => ?_)
    refine WL_nil ?_
    refine WQ_then ?_
    refine WP_seq ?_
    refine WP_region ?_
    refine WL_v rfl (VS_assign rfl) ?_
    refine WL_v rfl (VS_assign rfl) ?_
    refine WL_nil ?_
    refine WQ_then ?_
    refine WP_seq ?_
    refine WP_region ?_
    refine WL_v rfl (VS_assign rfl) ?_
    refine WL_nil ?_
    refine WQ_then ?_
    refine WP_seq ?_
    refine WP_seq ?_
    refine WP_region ?_
    refine WL_v rfl (VS_assign rfl) ?_
    refine WL_nil ?_
    refine WQ_then ?_
    refine WP_block ?_
    refine WP_loops (α := Nat × (Nat → Msg) × Nat × Nat × Bool × Nat × Nat) [14, 15, 16] (.cons rfl (.cons rfl (.cons rfl (.nil)))) (fun ⟨k, r, f, n, c, p, t⟩ => [(0, v), (3, Ptr b3 0), (4, .int .u64 p), (5, .int .u64 t), (6, .bool c), (7, .int .i64 k)]) (fun ⟨k, r, f, n, c, p, t⟩ => [.cells b3 31 (encBox r f n c)]) (fun ⟨k, r, f, n, c, p, t⟩ => k ≤ len ∧ f < 4 ∧ n ≤ 4 ∧ p = t + n ∧ p ≤ k ∧ Numbered r f n t) (fun ⟨k, r, f, n, c, p, t⟩ => len - k) (0, zs, 0, 0, false, 0, 0) ⟨Nat.zero_le _, by decide, by decide, rfl, Nat.le_refl _, fun j hj => by omega⟩ (by repeat' (first | exact Sub_nil | refine Sub_cons ?_ ?_ | rfl | (simp [lk]; done) | (simp [lk]; omega))) (ks := [0]) rfl (by decide) ?_
    rintro ⟨k, r, f, n, c, p, t⟩ hp
    have hp : k ≤ len ∧ f < 4 ∧ n ≤ 4 ∧ p = t + n ∧ p ≤ k ∧ Numbered r f n t := hp
    obtain ⟨hk, hf, hn, hpt, hpk, hnum⟩ := hp
    refine WP_seq ?_
    refine WP_seq ?_
    refine WP_region ?_
    have hlen : len ≤ 200 := by omega
    refine WL_v rfl (VS_move rfl) ?_
    refine WL_v rfl (VS_move rfl) ?_
    refine WL_v rfl (VS_len rfl) ?_
    refine WL_v rfl (VS_lss rfl rfl) ?_
    refine WL_nil ?_
    refine WQ_then ?_
    refine WP_cond rfl (fun h1 => ?_) (fun h1 => ?_)
    ·
      refine WP_skip ?_
      refine WQ_then ?_
      refine WP_seq ?_
      refine WP_block ?_
      refine WP_cuts (α := (Nat → Msg) × Nat × Nat × Bool × Nat × Nat) [14, 15, 16, 18, 19, 20, 21] (.cons rfl (.cons rfl (.cons rfl (.cons rfl (.cons rfl (.cons rfl (.cons rfl (.nil)))))))) (fun ⟨r, f, n, c, p, t⟩ => [(0, v), (3, Ptr b3 0), (4, .int .u64 p), (5, .int .u64 t), (6, .bool c), (7, .int .i64 k)]) (fun ⟨r, f, n, c, p, t⟩ => [.cells b3 31 (encBox r f n c)]) (fun ⟨r, f, n, c, p, t⟩ => f < 4 ∧ n ≤ 4 ∧ p = t + n ∧ p ≤ k + 1 ∧ Numbered r f n t) ?_ ?_
      ·
        refine WP_seq ?_
        refine WP_region ?_
        refine WL_v rfl (VS_move rfl) ?_
        refine WL_v rfl (VS_move rfl) ?_
        refine WL_v rfl (VS_index_row (m := k) rfl rfl rfl (by omega)) ?_
        refine WL_v rfl (VS_field_row (m := k) rfl (by omega)) ?_
        refine WL_v rfl (VS_load_row rfl (mrow_do g len k (by omega))) ?_
        refine WL_nil ?_
        refine WQ_then ?_
        refine WP_block ?_
        refine WP_seq ?_
        refine WP_seq ?_
        refine WP_region ?_
        refine WL_v rfl (VS_eql rfl rfl) ?_
        refine WL_v rfl (VS_assign rfl) ?_
        refine WL_nil ?_
        refine WQ_then ?_
        refine WP_cond rfl (fun h2 => ?_) (fun h2 => ?_)
        ·
          refine WP_skip ?_
          refine WQ_then ?_
          refine WP_cond rfl (fun h3 => ?_) (fun h3 => ?_)
          ·
            refine WP_seq ?_
            refine WP_region ?_
            first | refine WL_v rfl (VS_loadall rfl (by first | rfl | (simp; done))) ?_ | refine WL_v rfl (VS_loadpart rfl rfl rfl) ?_
            refine WL_v rfl (VS_call (fn_take' r f n c hf hn) rfl (fun _ _ _ => trivial)) ?_
            refine WL_v rfl (VS_move rfl) ?_
            refine WL_v rfl (VS_extract rfl rfl) ?_
            refine WL_v rfl (VS_extract rfl rfl) ?_
            refine WL_v rfl (VS_extract rfl rfl) ?_
            refine WL_x rfl (RX_alloc) (fun b8 _ => ?_)
            refine WL_x rfl (RX_alloc) (fun b9 _ => ?_)
            refine WL_x0 (RX_storea rfl rfl (by first | rfl | (simp; done)) (by first | rfl | (simp; done)) (by first | exact OneC_of rfl | (simp; done) | (simp [OneC]; done) | assumption)) (fun _ _ => ?_)
            refine WL_x0 (RX_storea rfl rfl (by first | rfl | (simp; done)) (by first | rfl | (simp; done)) (by first | exact OneC_of rfl | (simp; done) | (simp [OneC]; done) | assumption)) (fun _ _ => ?_)
            refine WL_v rfl (VS_assign rfl) ?_
            refine WL_nil ?_
            refine WQ_then ?_
            refine WP_seq ?_
            refine WP_seq ?_
            refine WP_region ?_
            refine WL_v rfl (VS_move rfl) ?_
            refine WL_v rfl (VS_eql rfl rfl) ?_
            refine WL_v rfl (VS_move rfl) ?_
            refine WL_v rfl (VS_move rfl) ?_
            refine WL_v rfl (VS_lss rfl rfl) ?_
            refine WL_v rfl (VS_neqb rfl rfl) ?_
            refine WL_v rfl (VS_move rfl) ?_
            refine WL_g (Gd_b rfl rfl) rfl (fun hb => VS_move rfl) ?_
            refine WL_g (Gd_b rfl rfl) rfl (fun hb => VS_eql (gev rfl hb) rfl) ?_
            refine WL_g (Gd_b rfl rfl) rfl (fun hb => VS_move (gev rfl hb)) ?_
            first | refine WL_g (Gd_g rfl rfl) rfl (fun hb => VS_field0 rfl) ?_ | refine WL_g (Gd_g rfl rfl) rfl (fun hb => VS_field rfl) ?_
            refine WL_g (Gd_g rfl rfl) rfl (fun hb => VS_load (gev rfl hb) rfl) ?_
            refine WL_g (Gd_g rfl rfl) rfl (fun hb => VS_move rfl) ?_
            refine WL_g (Gd_g rfl rfl) rfl (fun hb => VS_neq (gev rfl hb) (gev rfl hb)) ?_
            refine WL_g (Gd_b rfl rfl) rfl (fun hb => VS_and (gev rfl hb) (gev2 rfl hb)) ?_
            refine WL_v rfl (VS_or rfl rfl) ?_
            refine WL_nil ?_
            refine WQ_then ?_
            refine WP_cond rfl (fun h4 => ?_) (fun h4 => ?_)
            ·
              exfalso
              exact dead4 hpt hnum hf h4
            ·
              refine WP_skip ?_
              refine WQ_then ?_
              refine WP_seq ?_
              refine WP_seq ?_
              refine WP_region ?_
              refine WL_v rfl (VS_move rfl) ?_
              refine WL_v rfl (VS_eql rfl rfl) ?_
              refine WL_nil ?_
              refine WQ_then ?_
              refine WP_cond rfl (fun h5 => ?_) (fun h5 => ?_)
              ·
                have e : n ≠ 0 := takeE_0.1 h5
                refine WP_region ?_
                refine WL_v rfl (VS_move rfl) ?_
                first | refine WL_v rfl (VS_add rfl rfl (IntWalk.u64_in _ (by omega))) ?_ | refine WL_v rfl (VS_add rfl rfl rfl) ?_
                refine WL_v rfl (VS_assign rfl) ?_
                refine WL_nil ?_
                refine WQ_then ?_
                refine WP_region ?_
                first | refine WL_v rfl (VS_loadall rfl (by first | rfl | (simp; done))) ?_ | refine WL_v rfl (VS_loadpart rfl rfl rfl) ?_
                refine WL_x0 (RX_storea rfl rfl (by first | rfl | (simp; done)) (by first | rfl | (simp; done)) (by first | exact OneC_of rfl | (simp; done) | (simp [OneC]; done) | assumption)) (fun _ _ => ?_)
                refine WL_nil ?_
                refine WQ_block ?_
                refine WQ_cuts (r, takeF f n, n - 1, c, p, t + 1) ⟨takeF_lt hf, by omega, by omega, by omega, num_take hnum e⟩ (by repeat' (first | exact Sub_nil | refine Sub_cons ?_ ?_ | rfl | (simp [lk]; done) | (simp [lk]; omega))) (.cons rfl (.cons rfl (.cons rfl (.cons rfl (.cons rfl (.cons rfl (.cons rfl (.nil)))))))) (ks := [2]) rfl (by decide)
              ·
                have e : n = 0 := by have := takeE_0 (n := n) (c := c); omega
                refine WP_skip ?_
                refine WQ_then ?_
                refine WP_region ?_
                first | refine WL_v rfl (VS_loadall rfl (by first | rfl | (simp; done))) ?_ | refine WL_v rfl (VS_loadpart rfl rfl rfl) ?_
                refine WL_x0 (RX_storea rfl rfl (by first | rfl | (simp; done)) (by first | rfl | (simp; done)) (by first | exact OneC_of rfl | (simp; done) | (simp [OneC]; done) | assumption)) (fun _ _ => ?_)
                refine WL_nil ?_
                refine WQ_block ?_
                refine WQ_cuts (r, takeF f n, n - 1, c, p, t) ⟨takeF_lt hf, by omega, by omega, by omega, num_take0 e⟩ (by repeat' (first | exact Sub_nil | refine Sub_cons ?_ ?_ | rfl | (simp [lk]; done) | (simp [lk]; omega))) (.cons rfl (.cons rfl (.cons rfl (.cons rfl (.cons rfl (.cons rfl (.cons rfl (.nil)))))))) (ks := [2]) rfl (by decide)
          ·
            exfalso
            omega
        ·
          refine WP_region ?_
          refine WL_v rfl (VS_eql rfl rfl) ?_
          refine WL_v rfl (VS_assign rfl) ?_
          refine WL_nil ?_
          refine WQ_then ?_
          refine WP_cond rfl (fun h3 => ?_) (fun h3 => ?_)
          ·
            refine WP_seq ?_
            refine WP_region ?_
            first | refine WL_v rfl (VS_loadall rfl (by first | rfl | (simp; done))) ?_ | refine WL_v rfl (VS_loadpart rfl rfl rfl) ?_
            refine WL_v rfl (VS_call (fn_take' r f n c hf hn) rfl (fun _ _ _ => trivial)) ?_
            refine WL_v rfl (VS_move rfl) ?_
            refine WL_v rfl (VS_extract rfl rfl) ?_
            refine WL_v rfl (VS_extract rfl rfl) ?_
            refine WL_v rfl (VS_extract rfl rfl) ?_
            refine WL_x rfl (RX_alloc) (fun b8 _ => ?_)
            refine WL_x rfl (RX_alloc) (fun b9 _ => ?_)
            refine WL_x0 (RX_storea rfl rfl (by first | rfl | (simp; done)) (by first | rfl | (simp; done)) (by first | exact OneC_of rfl | (simp; done) | (simp [OneC]; done) | assumption)) (fun _ _ => ?_)
            refine WL_x0 (RX_storea rfl rfl (by first | rfl | (simp; done)) (by first | rfl | (simp; done)) (by first | exact OneC_of rfl | (simp; done) | (simp [OneC]; done) | assumption)) (fun _ _ => ?_)
            refine WL_v rfl (VS_assign rfl) ?_
            refine WL_nil ?_
            refine WQ_then ?_
            refine WP_seq ?_
            refine WP_seq ?_
            refine WP_region ?_
            refine WL_v rfl (VS_move rfl) ?_
            refine WL_v rfl (VS_eql rfl rfl) ?_
            refine WL_v rfl (VS_move rfl) ?_
            refine WL_v rfl (VS_move rfl) ?_
            refine WL_v rfl (VS_lss rfl rfl) ?_
            refine WL_v rfl (VS_neqb rfl rfl) ?_
            refine WL_v rfl (VS_move rfl) ?_
            refine WL_g (Gd_b rfl rfl) rfl (fun hb => VS_move rfl) ?_
            refine WL_g (Gd_b rfl rfl) rfl (fun hb => VS_eql (gev rfl hb) rfl) ?_
            refine WL_g (Gd_b rfl rfl) rfl (fun hb => VS_move (gev rfl hb)) ?_
            first | refine WL_g (Gd_g rfl rfl) rfl (fun hb => VS_field0 rfl) ?_ | refine WL_g (Gd_g rfl rfl) rfl (fun hb => VS_field rfl) ?_
            refine WL_g (Gd_g rfl rfl) rfl (fun hb => VS_load (gev rfl hb) rfl) ?_
            refine WL_g (Gd_g rfl rfl) rfl (fun hb => VS_move rfl) ?_
            refine WL_g (Gd_g rfl rfl) rfl (fun hb => VS_neq (gev rfl hb) (gev rfl hb)) ?_
            refine WL_g (Gd_b rfl rfl) rfl (fun hb => VS_and (gev rfl hb) (gev2 rfl hb)) ?_
            refine WL_v rfl (VS_or rfl rfl) ?_
            refine WL_nil ?_
            refine WQ_then ?_
            refine WP_cond rfl (fun h4 => ?_) (fun h4 => ?_)
            ·
              exfalso
              exact dead4 hpt hnum hf h4
            ·
              refine WP_skip ?_
              refine WQ_then ?_
              refine WP_seq ?_
              refine WP_seq ?_
              refine WP_region ?_
              refine WL_v rfl (VS_move rfl) ?_
              refine WL_v rfl (VS_eql rfl rfl) ?_
              refine WL_nil ?_
              refine WQ_then ?_
              refine WP_cond rfl (fun h5 => ?_) (fun h5 => ?_)
              ·
                have e : n ≠ 0 := takeE_0.1 h5
                refine WP_region ?_
                refine WL_v rfl (VS_move rfl) ?_
                first | refine WL_v rfl (VS_add rfl rfl (IntWalk.u64_in _ (by omega))) ?_ | refine WL_v rfl (VS_add rfl rfl rfl) ?_
                refine WL_v rfl (VS_assign rfl) ?_
                refine WL_nil ?_
                refine WQ_then ?_
                refine WP_region ?_
                first | refine WL_v rfl (VS_loadall rfl (by first | rfl | (simp; done))) ?_ | refine WL_v rfl (VS_loadpart rfl rfl rfl) ?_
                refine WL_x0 (RX_storea rfl rfl (by first | rfl | (simp; done)) (by first | rfl | (simp; done)) (by first | exact OneC_of rfl | (simp; done) | (simp [OneC]; done) | assumption)) (fun _ _ => ?_)
                refine WL_nil ?_
                refine WQ_block ?_
                refine WQ_cuts (r, takeF f n, n - 1, c, p, t + 1) ⟨takeF_lt hf, by omega, by omega, by omega, num_take hnum e⟩ (by repeat' (first | exact Sub_nil | refine Sub_cons ?_ ?_ | rfl | (simp [lk]; done) | (simp [lk]; omega))) (.cons rfl (.cons rfl (.cons rfl (.cons rfl (.cons rfl (.cons rfl (.cons rfl (.nil)))))))) (ks := [2]) rfl (by decide)
              ·
                have e : n = 0 := by have := takeE_0 (n := n) (c := c); omega
                refine WP_skip ?_
                refine WQ_then ?_
                refine WP_region ?_
                first | refine WL_v rfl (VS_loadall rfl (by first | rfl | (simp; done))) ?_ | refine WL_v rfl (VS_loadpart rfl rfl rfl) ?_
                refine WL_x0 (RX_storea rfl rfl (by first | rfl | (simp; done)) (by first | rfl | (simp; done)) (by first | exact OneC_of rfl | (simp; done) | (simp [OneC]; done) | assumption)) (fun _ _ => ?_)
                refine WL_nil ?_
                refine WQ_block ?_
                refine WQ_cuts (r, takeF f n, n - 1, c, p, t) ⟨takeF_lt hf, by omega, by omega, by omega, num_take0 e⟩ (by repeat' (first | exact Sub_nil | refine Sub_cons ?_ ?_ | rfl | (simp [lk]; done) | (simp [lk]; omega))) (.cons rfl (.cons rfl (.cons rfl (.cons rfl (.cons rfl (.cons rfl (.cons rfl (.nil)))))))) (ks := [2]) rfl (by decide)
          ·
            refine WP_seq ?_
            refine WP_region ?_
            refine WL_v rfl (VS_eql rfl rfl) ?_
            refine WL_v rfl (VS_assign rfl) ?_
            refine WL_nil ?_
            refine WQ_then ?_
            refine WP_cond rfl (fun h6 => ?_) (fun h6 => ?_)
            ·
              refine WP_seq ?_
              refine WP_region ?_
              first | refine WL_v rfl (VS_loadall rfl (by first | rfl | (simp; done))) ?_ | refine WL_v rfl (VS_loadpart rfl rfl rfl) ?_
              refine WL_v rfl (VS_call (fn_close r f n c) rfl (fun _ _ _ => trivial)) ?_
              refine WL_v rfl (VS_move rfl) ?_
              refine WL_v rfl (VS_extract rfl rfl) ?_
              refine WL_v rfl (VS_extract rfl rfl) ?_
              refine WL_x0 (RX_storea rfl rfl (by first | rfl | (simp; done)) (by first | rfl | (simp; done)) (by first | exact OneC_of rfl | (simp; done) | (simp [OneC]; done) | assumption)) (fun _ _ => ?_)
              refine WL_nil ?_
              refine WQ_then ?_
              refine WP_region ?_
              refine WL_v rfl (VS_assign rfl) ?_
              refine WL_nil ?_
              refine WQ_block ?_
              refine WQ_cuts (r, f, n, true, p, t) ⟨hf, hn, hpt, by omega, hnum⟩ (by repeat' (first | exact Sub_nil | refine Sub_cons ?_ ?_ | rfl | (simp [lk]; done) | (simp [lk]; omega))) (.cons rfl (.cons rfl (.cons rfl (.cons rfl (.cons rfl (.cons rfl (.cons rfl (.nil)))))))) (ks := [0]) rfl (by decide)
            ·
              refine WP_seq ?_
              refine WP_region ?_
              refine WL_v rfl (VS_move rfl) ?_
              refine WL_v rfl (VS_move rfl) ?_
              refine WL_v rfl (VS_index_row (m := k) rfl rfl rfl (by omega)) ?_
              refine WL_v rfl (VS_field_row (m := k) rfl (by omega)) ?_
              refine WL_v rfl (VS_loada_row rfl (mrow_m g len k (by omega)) rfl (by decide)) ?_
              refine WL_x rfl (RX_alloc) (fun b11 _ => ?_)
              refine WL_x0 (RX_storea rfl rfl (by first | rfl | (simp; done)) (by first | rfl | (simp; done)) (by first | exact OneC_of rfl | (simp; done) | (simp [OneC]; done) | assumption)) (fun _ _ => ?_)
              refine WL_nil ?_
              refine WQ_then ?_
              refine WP_seq ?_
              refine WP_region ?_
              refine WL_v rfl (VS_move rfl) ?_
              first | refine WL_v rfl (VS_field0 rfl) ?_ | refine WL_v rfl (VS_field rfl) ?_
              refine WL_x0 (RX_store1 rfl rfl rfl (by first | decide | (simp; done) | omega | (simp; omega)) rfl) (fun _ _ => ?_)
              refine WL_nil ?_
              refine WQ_then ?_
              refine WP_seq ?_
              refine WP_region ?_
              first | refine WL_v rfl (VS_loadall rfl (by first | rfl | (simp; done))) ?_ | refine WL_v rfl (VS_loadpart rfl rfl rfl) ?_
              first | refine WL_v rfl (VS_loadall rfl (by first | rfl | (simp; done))) ?_ | refine WL_v rfl (VS_loadpart rfl rfl rfl) ?_
              refine WL_v rfl (VS_call (fn_put' r f n c ⟨(g k).m.frm, p, (g k).m.reg, (g k).m.share⟩ hf hn) rfl (fun _ _ _ => trivial)) ?_
              refine WL_v rfl (VS_move rfl) ?_
              refine WL_v rfl (VS_extract rfl rfl) ?_
              refine WL_v rfl (VS_extract rfl rfl) ?_
              refine WL_x rfl (RX_alloc) (fun b12 _ => ?_)
              refine WL_x0 (RX_storea rfl rfl (by first | rfl | (simp; done)) (by first | rfl | (simp; done)) (by first | exact OneC_of rfl | (simp; done) | (simp [OneC]; done) | assumption)) (fun _ _ => ?_)
              refine WL_v rfl (VS_assign rfl) ?_
              refine WL_nil ?_
              refine WQ_then ?_
              refine WP_seq ?_
              refine WP_seq ?_
              refine WP_region ?_
              refine WL_v rfl (VS_move rfl) ?_
              refine WL_v rfl (VS_eql rfl rfl) ?_
              refine WL_v rfl (VS_move rfl) ?_
              refine WL_v rfl (VS_not rfl) ?_
              refine WL_v rfl (VS_move rfl) ?_
              refine WL_g (Gd_b rfl rfl) rfl (fun hb => VS_move rfl) ?_
              refine WL_g (Gd_b rfl rfl) rfl (fun hb => VS_move rfl) ?_
              first | refine WL_g (Gd_b rfl rfl) rfl (fun hb => VS_sub (gev rfl hb) (gev rfl hb) (IntWalk.u64_in _ (by omega))) ?_ | refine WL_g (Gd_b rfl rfl) rfl (fun hb => VS_sub (gev rfl hb) (gev rfl hb) rfl) ?_
              refine WL_g (Gd_b rfl rfl) rfl (fun hb => VS_lss (gev rfl hb) rfl) ?_
              refine WL_v rfl (VS_and rfl rfl) ?_
              refine WL_v rfl (VS_neqb rfl rfl) ?_
              refine WL_nil ?_
              refine WQ_then ?_
              refine WP_cond rfl (fun h7 => ?_) (fun h7 => ?_)
              ·
                exfalso
                exact dead7 hpt hn h7
              ·
                refine WP_skip ?_
                refine WQ_then ?_
                refine WP_seq ?_
                refine WP_seq ?_
                refine WP_region ?_
                refine WL_v rfl (VS_move rfl) ?_
                refine WL_v rfl (VS_eql rfl rfl) ?_
                refine WL_nil ?_
                refine WQ_then ?_
                refine WP_cond rfl (fun h8 => ?_) (fun h8 => ?_)
                ·
                  obtain ⟨hc, hn4⟩ := putE_0.1 h8
                  have hpn : putN n c = n + 1 := by simp [putN, hc, hn4]
                  refine WP_region ?_
                  refine WL_v rfl (VS_move rfl) ?_
                  first | refine WL_v rfl (VS_add rfl rfl (IntWalk.u64_in _ (by omega))) ?_ | refine WL_v rfl (VS_add rfl rfl rfl) ?_
                  refine WL_v rfl (VS_assign rfl) ?_
                  refine WL_nil ?_
                  refine WQ_then ?_
                  refine WP_region ?_
                  first | refine WL_v rfl (VS_loadall rfl (by first | rfl | (simp; done))) ?_ | refine WL_v rfl (VS_loadpart rfl rfl rfl) ?_
                  refine WL_x0 (RX_storea rfl rfl (by first | rfl | (simp; done)) (by first | rfl | (simp; done)) (by first | exact OneC_of rfl | (simp; done) | (simp [OneC]; done) | assumption)) (fun _ _ => ?_)
                  refine WL_nil ?_
                  refine WQ_block ?_
                  refine WQ_cuts (putR r f n c ⟨(g k).m.frm, p, (g k).m.reg, (g k).m.share⟩, f, putN n c, c, p + 1, t) ⟨hf, by omega, by omega, by omega, by rw [hpn]; exact num_put hnum (by omega) hc (by simp; omega)⟩ (by repeat' (first | exact Sub_nil | refine Sub_cons ?_ ?_ | rfl | (simp [lk]; done) | (simp [lk]; omega))) (.cons rfl (.cons rfl (.cons rfl (.cons rfl (.cons rfl (.cons rfl (.cons rfl (.nil)))))))) (ks := [2]) rfl (by decide)
                ·
                  have hc : ¬(c = false ∧ n ≠ 4) := fun q => h8 (putE_0.2 q)
                  have hpn : putN n c = n := by simp only [putN, putE] at *; cases c <;> simp_all
                  refine WP_skip ?_
                  refine WQ_then ?_
                  refine WP_region ?_
                  first | refine WL_v rfl (VS_loadall rfl (by first | rfl | (simp; done))) ?_ | refine WL_v rfl (VS_loadpart rfl rfl rfl) ?_
                  refine WL_x0 (RX_storea rfl rfl (by first | rfl | (simp; done)) (by first | rfl | (simp; done)) (by first | exact OneC_of rfl | (simp; done) | (simp [OneC]; done) | assumption)) (fun _ _ => ?_)
                  refine WL_nil ?_
                  refine WQ_block ?_
                  refine WQ_cuts (putR r f n c ⟨(g k).m.frm, p, (g k).m.reg, (g k).m.share⟩, f, putN n c, c, p, t) ⟨hf, by omega, by omega, by omega, num_put0 hnum hc⟩ (by repeat' (first | exact Sub_nil | refine Sub_cons ?_ ?_ | rfl | (simp [lk]; done) | (simp [lk]; omega))) (.cons rfl (.cons rfl (.cons rfl (.cons rfl (.cons rfl (.cons rfl (.cons rfl (.nil)))))))) (ks := [2]) rfl (by decide)
      ·
        rintro ⟨r, f, n, c, p, t⟩ hp
        have hp : f < 4 ∧ n ≤ 4 ∧ p = t + n ∧ p ≤ k + 1 ∧ Numbered r f n t := hp
        obtain ⟨hf, hn, hpt, hpk, hnum⟩ := hp
        refine WP_seq ?_
        refine WP_region ?_
        first | refine WL_v rfl (VS_loadall rfl (by first | rfl | (simp; done))) ?_ | refine WL_v rfl (VS_loadpart rfl rfl rfl) ?_
        refine WL_x rfl (RX_call (fn_all r f n c hf hn) rfl (fun _ _ _ => trivial)) (fun va hv => ?_)
        dsimp only [List.cons_append, List.nil_append]
        refine WL_v rfl (VS_len rfl) ?_
        first | refine WL_v rfl (VS_conv rfl (IntWalk.u64_in _ (by omega))) ?_ | refine WL_v rfl (VS_conv rfl rfl) ?_
        refine WL_v rfl (VS_move rfl) ?_
        refine WL_v rfl (VS_move rfl) ?_
        first | refine WL_v rfl (VS_sub rfl rfl (IntWalk.u64_in _ (by omega))) ?_ | refine WL_v rfl (VS_sub rfl rfl rfl) ?_
        refine WL_v rfl (VS_neq rfl rfl) ?_
        refine WL_nil ?_
        refine WQ_then ?_
        refine WP_cond rfl (fun h9 => ?_) (fun h9 => ?_)
        ·
          exfalso
          omega
        ·
          refine WP_skip ?_
          refine WQ_block ?_
          refine WQ_then ?_
          refine WP_region ?_
          refine WL_v rfl (VS_move rfl) ?_
          first | refine WL_v rfl (VS_add rfl rfl (IntWalk.i64_in _ (by omega))) ?_ | refine WL_v rfl (VS_add rfl rfl rfl) ?_
          refine WL_v rfl (VS_assign rfl) ?_
          refine WL_nil ?_
          refine WQ_loops (k + 1, r, f, n, c, p, t) (by first | omega | (simp; omega)) ⟨by omega, hf, hn, hpt, hpk, hnum⟩ (by repeat' (first | exact Sub_nil | refine Sub_cons ?_ ?_ | rfl | (simp [lk]; done) | (simp [lk]; omega))) (.cons rfl (.cons rfl (.cons rfl (.nil)))) (ks := [1]) rfl (by decide)
    ·
      refine WP_exit ?_
      refine WQ_then_exit ?_
      refine WQ_then_exit ?_
      refine WQ_block_exit ?_
      refine WQ_then ?_
      refine WP_seq ?_
      refine WP_region ?_
      refine WL_v rfl (VS_call (fn_wakes11) rfl (fun _ _ _ => trivial)) ?_
      refine WL_v rfl (VS_assign rfl) ?_
      refine WL_nil ?_
      refine WQ_then ?_
      refine WP_ret ?_
      exact WQ_ret () rfl (.tmp rfl .nil) trivial rfl (ks := []) rfl (by decide)

end Go.Proofs.Ytcdnmiianjaglaa
