/- Decompiled: package token, its document's answer, its statements. -/
import Derived.Test.YtcdnmiianjaglaaTypes
import Derived.Test.YtcdnmiianjaglaaMap2
import Derived.Test.YtcdnmiianjaglaaSl4
import Derived.Test.YtcdnmiianjaglaaDLaw03
namespace Go.Proofs.Ytcdnmiianjaglaa
open Go Go.Bw
instance : TMap Try.prog 84 26 4 .u32 := ⟨⟨by kernel_rfl, by kernel_rfl⟩⟩
instance : TMap Try.prog 140 3 3 .i64 := ⟨⟨by kernel_rfl, by kernel_rfl⟩⟩
instance : TZv Try.prog 3 (Value.int .i64 0) := ⟨by kernel_rfl⟩
instance : TZv Try.prog 4 (Value.bool false) := ⟨by kernel_rfl⟩
structure ref09_Token where
  Region : Int
  By : Int
  To : Int
  Mutable : Bool
  Above : Int
abbrev L_ref09_Token : Lay ref09_Token := Lay.via (LP (LI .i64) (LP (LI .i64) (LP (LI .i64) (LP LB (LI .i64))))) (fun x => (x.Region, x.By, x.To, x.Mutable, x.Above))
abbrev Z_ref09_Token : ref09_Token := ⟨0, 0, 0, false, 0⟩
instance : Inhabited ref09_Token := ⟨Z_ref09_Token⟩
theorem P_ref09_Token_Region : Pth L_ref09_Token (LI .i64) 0 (fun x => x.Region) (fun x v => { x with Region := v }) := (Pth.fst Pth.id).via _ _ _ 0 rfl (fun _ => rfl) (fun _ _ => rfl)
theorem P_ref09_Token_By : Pth L_ref09_Token (LI .i64) 1 (fun x => x.By) (fun x v => { x with By := v }) := (Pth.snd (Pth.fst Pth.id)).via _ _ _ 1 rfl (fun _ => rfl) (fun _ _ => rfl)
theorem P_ref09_Token_To : Pth L_ref09_Token (LI .i64) 2 (fun x => x.To) (fun x v => { x with To := v }) := (Pth.snd (Pth.snd (Pth.fst Pth.id))).via _ _ _ 2 rfl (fun _ => rfl) (fun _ _ => rfl)
theorem P_ref09_Token_Mutable : Pth L_ref09_Token LB 3 (fun x => x.Mutable) (fun x v => { x with Mutable := v }) := (Pth.snd (Pth.snd (Pth.snd (Pth.fst Pth.id)))).via _ _ _ 3 rfl (fun _ => rfl) (fun _ _ => rfl)
theorem P_ref09_Token_Above : Pth L_ref09_Token (LI .i64) 4 (fun x => x.Above) (fun x v => { x with Above := v }) := (Pth.snd (Pth.snd (Pth.snd (Pth.snd Pth.id)))).via _ _ _ 4 rfl (fun _ => rfl) (fun _ _ => rfl)
def EQ_ref09_Token (x y : ref09_Token) : Bool := x.Region == y.Region && x.By == y.By && x.To == y.To && x.Mutable == y.Mutable && x.Above == y.Above
theorem EQv_ref09_Token (x y : ref09_Token) : Value.bool (eqAt [(0, some .i64), (1, some .i64), (2, some .i64), (3, none), (4, some .i64)] (L_ref09_Token.enc x) (L_ref09_Token.enc y)) = .bool (EQ_ref09_Token x y) := congrArg Value.bool (by show ((x.Region == y.Region) && ((x.By == y.By) && ((x.To == y.To) && ((x.Mutable == y.Mutable) && ((x.Above == y.Above) && true))))) = (x.Region == y.Region && x.By == y.By && x.To == y.To && x.Mutable == y.Mutable && x.Above == y.Above); simp [Bool.and_assoc])
theorem EQvn_ref09_Token (x y : ref09_Token) : Value.bool (!(eqAt [(0, some .i64), (1, some .i64), (2, some .i64), (3, none), (4, some .i64)] (L_ref09_Token.enc x) (L_ref09_Token.enc y))) = .bool (!(EQ_ref09_Token x y)) := congrArg (fun v => match v with | Value.bool b => Value.bool (!b) | v => v) (EQv_ref09_Token x y)
structure ref09_Tokens where
  B : ref03_Book
  T : (Nat → ref09_Token)
abbrev L_ref09_Tokens : Lay ref09_Tokens := Lay.via (LP L_ref03_Book (LA L_ref09_Token 32)) (fun x => (x.B, x.T))
abbrev Z_ref09_Tokens : ref09_Tokens := ⟨Z_ref03_Book, (fun _ => Z_ref09_Token)⟩
instance : Inhabited ref09_Tokens := ⟨Z_ref09_Tokens⟩
theorem P_ref09_Tokens_B : Pth L_ref09_Tokens L_ref03_Book 0 (fun x => x.B) (fun x v => { x with B := v }) := (Pth.fst Pth.id).via _ _ _ 0 rfl (fun _ => rfl) (fun _ _ => rfl)
theorem P_ref09_Tokens_T : Pth L_ref09_Tokens (LA L_ref09_Token 32) 64 (fun x => x.T) (fun x v => { x with T := v }) := (Pth.snd Pth.id).via _ _ _ 64 rfl (fun _ => rfl) (fun _ _ => rfl)
def ref09_Tokens_Those (n : Nat) (a0 : ref09_Tokens) (a1 : Int) (a2 : Int) : Option (List Int) :=
  loop2 (fun k33 (x27 : (List Int)) (x30 : Int) =>
  cn (decide (x30 < 32)) (
  gu (inb x30 32) <|
  gu (!((((a0.B.Is (Int.toNat x30)) == 1) == true) && ((decide (a1 < 0)) == false)) || inb x30 32) <|
  gu (!(((((a0.B.Is (Int.toNat x30)) == 1) && (decide (a1 < 0) || (((a0.T (Int.toNat x30)).Region) == a1))) == true) && ((decide (a2 < 0)) == false)) || inb x30 32) <|
  cn (((((a0.B.Is (Int.toNat x30)) == 1) && (decide (a1 < 0) || (((a0.T (Int.toNat x30)).Region) == a1))) && (decide (a2 < 0) || (((a0.T (Int.toNat x30)).To) == a2)))) (
  bd (ref03_Book_Of n a0.B x30) fun x37 =>
  gu (apok x27.length 1 8) <|
  lt (x27 ++ ([x37]) : List Int) fun x39 =>
  k33 x39 (wr .i64 (x30 + 1))) (
  k33 x27 (wr .i64 (x30 + 1)))) (
  some x27)) n ([]) 0
theorem c_ref09_Tokens_Those {n : Nat} {a0 : ref09_Tokens} {a1 : Int} {a2 : Int} {r : (List Int)}  (h : ref09_Tokens_Those n a0 a1 a2 = some r) : FnB Try.prog 91 [.agg (L_ref09_Tokens.enc a0).toArray, .int .i64 a1, .int .i64 a2] (fun _ => True) (fun J v => Fz J v (LI .i64) r) := by
  unfold ref09_Tokens_Those at h
  refine fn_of Try.func91 (by kernel_rfl) rfl Try.ntmps91 rfl (fun cx hbs hpre hro => ?_)
  refine WP_seq ?_
  refine WP_region ?_
  refine WL_x rfl (RX_boxL L_ref09_Tokens a0 rfl rfl) (fun b3 _ => ?_)
  refine WL_v rfl (VS_assign rfl) ?_
  refine WL_nil ?_
  refine WQ_then ?_
  refine WP_seq ?_
  refine WP_region ?_
  refine WL_v rfl (VS_assign rfl) ?_
  refine WL_nil ?_
  refine WQ_then ?_
  refine WP_seq ?_
  refine WP_seq ?_
  refine WP_region ?_
  refine WL_v rfl (VS_assign rfl) ?_
  refine WL_nil ?_
  refine WQ_then ?_
  refine WP_block ?_
  refine WP_rowN 3 1 (LI .i64) ?_
  obtain ⟨lb31, hlb31, h⟩ := lp2_i h
  refine WP_loops (α := Nat × (List Int) × Int × Value) [1, 2, 3] (.cons rfl (.cons rfl (.cons rfl (.nil)))) (fun (m32, x27, x30, v28) => [(7, v28), (8, .int .i64 x30)]) (fun (m32, x27, x30, v28) => [Row v28 3 1 (LI .i64) x27, .cells b3 171 (L_ref09_Tokens.enc a0)]) (fun (m32, x27, x30, v28) => SlN v28 x27.length ∧ loop2 lb31 m32 x27 x30 = some r) (fun (m32, x27, x30, v28) => m32) (n, [], 0, .slice none 0 0) ⟨⟨_, _, rfl⟩, h⟩ (Sub_cons rfl (Sub_cons rfl (Sub_nil))) (ks := [0, 1]) rfl (by decide) ?_
  rintro ⟨m32, x27, x30, v28⟩ ⟨hs29, h⟩
  replace h : loop2 lb31 m32 x27 x30 = some r := h
  replace h := lp2_s hlb31 h
  obtain ⟨m32, rfl, h⟩ := h
  refine WP_seq ?_
  refine WP_seq ?_
  refine WP_region ?_
  refine WL_v rfl (VS_move rfl) ?_
  refine WL_v rfl (VS_lss rfl rfl) ?_
  refine WL_nil ?_
  refine WQ_then ?_
  refine WP_if rfl (fun hc => ?_) (fun hc => ?_)
  ·
    replace h := cn_t hc h
    refine WP_skip ?_
    refine WQ_then ?_
    refine WP_seq ?_
    refine WP_block ?_
    refine WP_seq ?_
    obtain ⟨hg34, h⟩ := gu_e h
    obtain ⟨hg35, h⟩ := gu_e h
    obtain ⟨hg36, h⟩ := gu_e h
    refine WP_region ?_
    refine WL_v rfl (VS_move rfl) ?_
    refine WL_v rfl (VS_field0 rfl) ?_
    refine WL_v rfl (VS_field0 rfl) ?_
    refine WL_v rfl (VS_index (m := (Int.toNat x30)) rfl rfl (inb_e hg34).1 (inb_e hg34).2) ?_
    refine WL_v rfl (VS_ldi ((P_ref09_Tokens_B.c0 P_ref03_Book_Is).comp (Pth.idx (L := (LI .i64)) (m := 32) (k := 1) ((Int.toNat x30)) (inb_e hg34).2 rfl)) rfl) ?_
    refine WL_v rfl (VS_eql rfl rfl) ?_
    refine WL_v rfl (VS_move rfl) ?_
    refine WL_g (Gd_b rfl rfl) rfl (fun hb => VS_move rfl) ?_
    refine WL_g (Gd_b rfl rfl) rfl (fun hb => VS_lss (gev rfl hb) rfl) ?_
    refine WL_g (Gd_b rfl rfl) rfl (fun hb => VS_move (gev rfl hb)) ?_
    refine WL_g (Gd_g rfl rfl) rfl (fun hb => VS_move rfl) ?_
    refine WL_g (Gd_g rfl rfl) rfl (fun hb => VS_field0 rfl) ?_
    refine WL_g (Gd_g rfl rfl) rfl (fun hb => VS_index (m := (Int.toNat x30)) (gev rfl hb) (gev rfl hb) (inb_e (imp_b hg35 hb)).1 (inb_e (imp_b hg35 hb)).2) ?_
    refine WL_g (Gd_g rfl rfl) rfl (fun hb => VS_field (gev rfl hb)) ?_
    refine WL_g (Gd_g rfl rfl) rfl (fun hb => VS_ldi ((P_ref09_Tokens_T.comp (Pth.idx (L := L_ref09_Token) (m := 32) (k := 5) ((Int.toNat x30)) (inb_e (imp_b hg35 hb)).2 rfl)).comp P_ref09_Token_Region) (gev rfl hb)) ?_
    refine WL_g (Gd_g rfl rfl) rfl (fun hb => VS_move rfl) ?_
    refine WL_g (Gd_g rfl rfl) rfl (fun hb => VS_eql (gev rfl hb) (gev rfl hb)) ?_
    refine WL_g (Gd_b rfl rfl) rfl (fun hb => VS_or (gev rfl hb) (gev2 rfl hb)) ?_
    refine WL_v rfl (VS_and rfl rfl) ?_
    refine WL_v rfl (VS_move rfl) ?_
    refine WL_g (Gd_b rfl rfl) rfl (fun hb => VS_move rfl) ?_
    refine WL_g (Gd_b rfl rfl) rfl (fun hb => VS_lss (gev rfl hb) rfl) ?_
    refine WL_g (Gd_b rfl rfl) rfl (fun hb => VS_move (gev rfl hb)) ?_
    refine WL_g (Gd_g rfl rfl) rfl (fun hb => VS_move rfl) ?_
    refine WL_g (Gd_g rfl rfl) rfl (fun hb => VS_field0 rfl) ?_
    refine WL_g (Gd_g rfl rfl) rfl (fun hb => VS_index (m := (Int.toNat x30)) (gev rfl hb) (gev rfl hb) (inb_e (imp_b hg36 hb)).1 (inb_e (imp_b hg36 hb)).2) ?_
    refine WL_g (Gd_g rfl rfl) rfl (fun hb => VS_field (gev rfl hb)) ?_
    refine WL_g (Gd_g rfl rfl) rfl (fun hb => VS_ldi ((P_ref09_Tokens_T.comp (Pth.idx (L := L_ref09_Token) (m := 32) (k := 5) ((Int.toNat x30)) (inb_e (imp_b hg36 hb)).2 rfl)).comp P_ref09_Token_To) (gev rfl hb)) ?_
    refine WL_g (Gd_g rfl rfl) rfl (fun hb => VS_move rfl) ?_
    refine WL_g (Gd_g rfl rfl) rfl (fun hb => VS_eql (gev rfl hb) (gev rfl hb)) ?_
    refine WL_g (Gd_b rfl rfl) rfl (fun hb => VS_or (gev rfl hb) (gev2 rfl hb)) ?_
    refine WL_v rfl (VS_and rfl rfl) ?_
    refine WL_nil ?_
    refine WQ_then ?_
    refine WP_if rfl (fun hc => ?_) (fun hc => ?_)
    ·
      replace h := cn_t hc h
      obtain ⟨x37, hx37, h⟩ := bd_e h
      obtain ⟨hg38, h⟩ := gu_e h
      obtain ⟨x39, hx39, h⟩ := lt_e h
      refine WP_region ?_
      refine WL_v rfl (VS_move rfl) ?_
      refine WL_v rfl (VS_field0 rfl) ?_
      refine WL_v rfl (VS_lda (M := L_ref03_Book) P_ref09_Tokens_B rfl rfl) ?_
      refine WL_v rfl (VS_move rfl) ?_
      refine WL_v rfl (VS_call (c_ref03_Book_Of hx37) rfl (fun _ _ _ => trivial)) ?_
      refine WL_x rfl (RX_bs1 (LI .i64) x37 rfl rfl rfl rfl (by decide) (by decide)) (fun b50 _ => ?_)
      refine WL_x rfl (RX_app1 (sz := 1) (L := (LI .i64)) (xs := x27) (y := x37) (bytes := 8) rfl rfl rfl (apok_e hg38).1 (apok_e hg38).2) (fun v40 hs41 => ?_)
      rw [← hx39] at hs41; rw [← hx39]
      refine WL_v rfl (VS_assign rfl) ?_
      refine WL_nil ?_
      refine WQ_block ?_
      refine WQ_then ?_
      refine WP_region ?_
      refine WL_v rfl (VS_move rfl) ?_
      refine WL_v rfl (VS_add rfl rfl rfl) ?_
      refine WL_v rfl (VS_assign rfl) ?_
      refine WL_nil ?_
      exact WQ_loops (m32, x39, wr .i64 (x30 + 1), v40) (Nat.lt_succ_self _) ⟨hs41, h⟩ (Sub_cons rfl (Sub_cons rfl (Sub_nil))) (.cons rfl (.cons rfl (.cons rfl (.nil)))) (ks := [1, 2]) rfl (by decide)
    ·
      replace h := cn_f hc h
      refine WP_skip ?_
      refine WQ_block ?_
      refine WQ_then ?_
      refine WP_region ?_
      refine WL_v rfl (VS_move rfl) ?_
      refine WL_v rfl (VS_add rfl rfl rfl) ?_
      refine WL_v rfl (VS_assign rfl) ?_
      refine WL_nil ?_
      exact WQ_loops (m32, x27, wr .i64 (x30 + 1), v28) (Nat.lt_succ_self _) ⟨hs29, h⟩ (Sub_cons rfl (Sub_cons rfl (Sub_nil))) (.cons rfl (.cons rfl (.cons rfl (.nil)))) (ks := [0, 1]) rfl (by decide)
  ·
    replace h := cn_f hc h
    refine WP_exit ?_
    refine WQ_then_exit ?_
    refine WQ_then_exit ?_
    refine WQ_block_exit ?_
    refine WQ_then ?_
    refine WP_seq ?_
    refine WP_region ?_
    refine WL_v rfl (VS_move rfl) ?_
    refine WL_v rfl (VS_assign rfl) ?_
    refine WL_nil ?_
    refine WQ_then ?_
    refine WP_ret ?_
    replace h := Option.some.inj h
    subst h
    refine WQ_bundle (R := [Row v28 3 1 (LI .i64) x27]) (H' := []) (ks := [0]) rfl (by decide) ?_
    have p42 : Fz (Hs [.ext (blks [Row v28 3 1 (LI .i64) x27]) (Hs [Row v28 3 1 (LI .i64) x27])]) v28 (LI .i64) x27 := (Fz.row (e := 3) (sz := 1) (L := (LI .i64)) (xs := x27) rfl hs29).mono ent
    exact WQ_ret (v28, blks [Row v28 3 1 (LI .i64) x27], Hs [Row v28 3 1 (LI .i64) x27]) rfl (.tmp rfl .nil) p42 rfl (ks := [0]) rfl (by decide)
def ref09_Tokens_Clear (n : Nat) (a0 : ref09_Tokens) (a1 : Int) : Option ref09_Tokens :=
  bd (ref09_Tokens_Those n a0 a1 (-1)) fun x21 =>
  loop2 (fun k35 (x31 : Int) (x32 : ref09_Tokens) =>
  cn (decide (x31 < (x21.length : Int))) (
  gu (inb x31 x21.length) <|
  bd (ref03_Book_Void n x32.B (x21.getD (Int.toNat x31) default)) fun x37 =>
  lt ({ x32 with B := x37.1 } : ref09_Tokens) fun x38 =>
  k35 (wr .i64 (x31 + 1)) x38) (
  some x32)) n 0 a0
theorem c_ref09_Tokens_Clear {n : Nat} {a0 : ref09_Tokens} {a1 : Int} {r : ref09_Tokens}  (h : ref09_Tokens_Clear n a0 a1 = some r) : FnV Try.prog 84 [.agg (L_ref09_Tokens.enc a0).toArray, .int .i64 a1] (.agg (L_ref09_Tokens.enc r).toArray) := by
  unfold ref09_Tokens_Clear at h
  refine fn_of Try.func84 (by kernel_rfl) rfl Try.ntmps84 rfl (fun cx hbs hpre hro => ?_)
  refine WP_seq ?_
  refine WP_region ?_
  refine WL_x rfl (RX_boxL L_ref09_Tokens a0 rfl rfl) (fun b2 _ => ?_)
  refine WL_x rfl (RX_allocL (L := L_ref09_Tokens) (z := Z_ref09_Tokens) ⟨by kernel_rfl⟩) (fun b4 _ => ?_)
  refine WL_nil ?_
  refine WQ_then ?_
  refine WP_seq ?_
  obtain ⟨x21, hx21, h⟩ := bd_e h
  refine WP_region ?_
  refine WL_v rfl (VS_lda (M := L_ref09_Tokens) (Pth.id (L := L_ref09_Tokens)) rfl rfl) ?_
  refine WL_v rfl (VS_move rfl) ?_
  refine WL_x rfl (RX_callB (c_ref09_Tokens_Those hx21) rfl) (fun ⟨w22, bs23, J24⟩ hp25 => ?_)
  have f26 : Fz (Hs [.ext bs23 J24]) w22 (LI .i64) x21 := hp25
  refine WL_v rfl (VS_assign rfl) ?_
  refine WL_nil ?_
  refine WQ_then ?_
  refine WP_seq ?_
  refine WP_seq ?_
  refine WP_region ?_
  refine WL_v rfl (VS_assign rfl) ?_
  refine WL_nil ?_
  refine WQ_then ?_
  refine WP_block ?_
  obtain ⟨lb33, hlb33, h⟩ := lp2_i h
  refine WP_loops (α := Nat × Int × ref09_Tokens) [2, 4, 5] (.cons rfl (.cons rfl (.cons rfl (.nil)))) (fun (m34, x31, x32) => [(6, .int .i64 x31)]) (fun (m34, x31, x32) => [.ext bs23 J24, .cells b4 171 (L_ref09_Tokens.enc Z_ref09_Tokens), .cells b2 171 (L_ref09_Tokens.enc x32)]) (fun (m34, x31, x32) => loop2 lb33 m34 x31 x32 = some r) (fun (m34, x31, x32) => m34) (n, 0, a0) h (Sub_cons rfl (Sub_nil)) (ks := [0, 1, 2]) rfl (by decide) ?_
  rintro ⟨m34, x31, x32⟩ h
  replace h : loop2 lb33 m34 x31 x32 = some r := h
  replace h := lp2_s hlb33 h
  obtain ⟨m34, rfl, h⟩ := h
  refine WP_seq ?_
  refine WP_seq ?_
  refine WP_region ?_
  refine WL_v rfl (VS_move rfl) ?_
  refine WL_v rfl (VS_move rfl) ?_
  refine WL_v rfl (VS_lenF f26 rfl) ?_
  refine WL_v rfl (VS_lss rfl rfl) ?_
  refine WL_nil ?_
  refine WQ_then ?_
  refine WP_if rfl (fun hc => ?_) (fun hc => ?_)
  ·
    replace h := cn_t hc h
    refine WP_skip ?_
    refine WQ_then ?_
    refine WP_seq ?_
    refine WP_block ?_
    obtain ⟨hg36, h⟩ := gu_e h
    obtain ⟨x37, hx37, h⟩ := bd_e h
    obtain ⟨x38, hx38, h⟩ := lt_e h
    refine WP_draw mixed (.stg [] [(0, [2]), (1, [17]), (2, [5]), (3, [6]), (4, [19, 20]), (5, [21]), (6, [18, 22]), (7, [23]), (8, [16]), (9, [16]), (10, [2])] (.alt 11 [24, 26] (.fin [(9, [16])] []) .no)) (by kernel_rfl) ?_
    refine Stg_stg ?_ ?_
    · exact ReOk_nil
    refine NewOk_cons rfl rfl (VG_v rfl (VS_field0 rfl)) ?_
    refine NewOk_cons rfl rfl (VG_v rfl (VS_lda (M := L_ref03_Book) P_ref09_Tokens_B rfl rfl)) ?_
    refine NewOk_cons rfl rfl (VG_v rfl (VS_move rfl)) ?_
    refine NewOk_cons rfl rfl (VG_v rfl (VS_move rfl)) ?_
    refine NewOk_cons rfl rfl (VG_v rfl (VS_ixF (m := (Int.toNat x31)) f26 rfl rfl rfl (inb_e hg36).1 (inb_e hg36).2)) ?_
    refine NewOk_cons rfl rfl (VG_v rfl (VS_ldiF f26 (Pth.idx (L := (LI .i64)) (m := (x21.length)) (k := 1) ((Int.toNat x31)) (inb_e hg36).2 rfl) rfl)) ?_
    refine NewOk_cons rfl rfl (VG_v rfl (VS_call (c_ref03_Book_Void hx37) rfl (fun _ _ _ => trivial))) ?_
    refine NewOk_cons rfl rfl (VG_v rfl (VS_move rfl)) ?_
    refine NewOk_cons rfl rfl (VG_v rfl (VS_extract rfl rfl)) ?_
    refine NewOk_cons rfl rfl (VG_v rfl (VS_extract rfl rfl)) ?_
    refine NewOk_cons rfl rfl (VG_v rfl (VS_field0 rfl)) ?_
    refine NewOk_nil ?_
    refine Stg_none rfl (RG_x rfl (RX_st (M := L_ref03_Book) P_ref09_Tokens_B x37.1 x38 hx38 rfl rfl rfl rfl)) (fun _ _ => ?_) Stg_no
    refine Stg_fin ?_ ?_
    ·
      refine ReOk_cons rfl rfl (VG_v rfl (VS_val (VS_extract rfl rfl) rfl)) ?_
      exact ReOk_nil
    refine NewOk_nil ?_
    refine WQ_block ?_
    refine WQ_then ?_
    refine WP_region ?_
    refine WL_v rfl (VS_move rfl) ?_
    refine WL_v rfl (VS_add rfl rfl rfl) ?_
    refine WL_v rfl (VS_assign rfl) ?_
    refine WL_nil ?_
    exact WQ_loops (m34, wr .i64 (x31 + 1), x38) (Nat.lt_succ_self _) h (Sub_cons rfl (Sub_nil)) (.cons rfl (.cons rfl (.cons rfl (.nil)))) (ks := [0, 1, 2]) rfl (by decide)
  ·
    replace h := cn_f hc h
    refine WP_exit ?_
    refine WQ_then_exit ?_
    refine WQ_then_exit ?_
    refine WQ_block_exit ?_
    refine WQ_then ?_
    refine WP_seq ?_
    refine WP_region ?_
    refine WL_v rfl (VS_lda (M := L_ref09_Tokens) (Pth.id (L := L_ref09_Tokens)) rfl rfl) ?_
    refine WL_x0 (RX_st (M := L_ref09_Tokens) (Pth.id (L := L_ref09_Tokens)) x32 x32 rfl rfl rfl rfl rfl) (fun _ _ => ?_)
    refine WL_nil ?_
    refine WQ_then ?_
    refine WP_ret ?_
    replace h := Option.some.inj h
    subst h
    exact WQ_ret () rfl (.agg rfl inferInstance inferInstance (enc_len _ _) .nil) trivial rfl (ks := []) rfl (by decide)
def ref09_Tokens_right (n : Nat) (a0 : ref09_Tokens) (a1 : Int) (a2 : Int) (a3 : Int) : Option Bool :=
  gu (inb a1 32) <|
  gu (!(((a0.B.Is (Int.toNat a1)) == 1) == true) || inb a1 32) <|
  gu (!((((a0.B.Is (Int.toNat a1)) == 1) && (((a0.T (Int.toNat a1)).Region) == a2)) == true) || inb a1 32) <|
  some ((((a0.B.Is (Int.toNat a1)) == 1) && (((a0.T (Int.toNat a1)).Region) == a2)) && (((a0.T (Int.toNat a1)).Above) == a3))
theorem c_ref09_Tokens_right {n : Nat} {a0 : ref09_Tokens} {a1 : Int} {a2 : Int} {a3 : Int} {r : Bool}  (h : ref09_Tokens_right n a0 a1 a2 a3 = some r) : FnV Try.prog 135 [.agg (L_ref09_Tokens.enc a0).toArray, .int .i64 a1, .int .i64 a2, .int .i64 a3] (.bool r) := by
  unfold ref09_Tokens_right at h
  refine fn_of Try.func135 (by kernel_rfl) rfl Try.ntmps135 rfl (fun cx hbs hpre hro => ?_)
  refine WP_seq ?_
  refine WP_region ?_
  refine WL_x rfl (RX_boxL L_ref09_Tokens a0 rfl rfl) (fun b4 _ => ?_)
  refine WL_v rfl (VS_assign rfl) ?_
  refine WL_nil ?_
  refine WQ_then ?_
  refine WP_seq ?_
  obtain ⟨hg21, h⟩ := gu_e h
  obtain ⟨hg22, h⟩ := gu_e h
  obtain ⟨hg23, h⟩ := gu_e h
  refine WP_region ?_
  refine WL_v rfl (VS_move rfl) ?_
  refine WL_v rfl (VS_field0 rfl) ?_
  refine WL_v rfl (VS_field0 rfl) ?_
  refine WL_v rfl (VS_index (m := (Int.toNat a1)) rfl rfl (inb_e hg21).1 (inb_e hg21).2) ?_
  refine WL_v rfl (VS_ldi ((P_ref09_Tokens_B.c0 P_ref03_Book_Is).comp (Pth.idx (L := (LI .i64)) (m := 32) (k := 1) ((Int.toNat a1)) (inb_e hg21).2 rfl)) rfl) ?_
  refine WL_v rfl (VS_eql rfl rfl) ?_
  refine WL_v rfl (VS_move rfl) ?_
  refine WL_g (Gd_b rfl rfl) rfl (fun hb => VS_move rfl) ?_
  refine WL_g (Gd_b rfl rfl) rfl (fun hb => VS_field0 rfl) ?_
  refine WL_g (Gd_b rfl rfl) rfl (fun hb => VS_index (m := (Int.toNat a1)) (gev rfl hb) (gev rfl hb) (inb_e (imp_b hg22 hb)).1 (inb_e (imp_b hg22 hb)).2) ?_
  refine WL_g (Gd_b rfl rfl) rfl (fun hb => VS_field (gev rfl hb)) ?_
  refine WL_g (Gd_b rfl rfl) rfl (fun hb => VS_ldi ((P_ref09_Tokens_T.comp (Pth.idx (L := L_ref09_Token) (m := 32) (k := 5) ((Int.toNat a1)) (inb_e (imp_b hg22 hb)).2 rfl)).comp P_ref09_Token_Region) (gev rfl hb)) ?_
  refine WL_g (Gd_b rfl rfl) rfl (fun hb => VS_move rfl) ?_
  refine WL_g (Gd_b rfl rfl) rfl (fun hb => VS_eql (gev rfl hb) (gev rfl hb)) ?_
  refine WL_v rfl (VS_and rfl rfl) ?_
  refine WL_v rfl (VS_move rfl) ?_
  refine WL_g (Gd_b rfl rfl) rfl (fun hb => VS_move rfl) ?_
  refine WL_g (Gd_b rfl rfl) rfl (fun hb => VS_field0 rfl) ?_
  refine WL_g (Gd_b rfl rfl) rfl (fun hb => VS_index (m := (Int.toNat a1)) (gev rfl hb) (gev rfl hb) (inb_e (imp_b hg23 hb)).1 (inb_e (imp_b hg23 hb)).2) ?_
  refine WL_g (Gd_b rfl rfl) rfl (fun hb => VS_field (gev rfl hb)) ?_
  refine WL_g (Gd_b rfl rfl) rfl (fun hb => VS_ldi ((P_ref09_Tokens_T.comp (Pth.idx (L := L_ref09_Token) (m := 32) (k := 5) ((Int.toNat a1)) (inb_e (imp_b hg23 hb)).2 rfl)).comp P_ref09_Token_Above) (gev rfl hb)) ?_
  refine WL_g (Gd_b rfl rfl) rfl (fun hb => VS_move rfl) ?_
  refine WL_g (Gd_b rfl rfl) rfl (fun hb => VS_eql (gev rfl hb) (gev rfl hb)) ?_
  refine WL_v rfl (VS_and rfl rfl) ?_
  refine WL_v rfl (VS_assign rfl) ?_
  refine WL_nil ?_
  refine WQ_then ?_
  refine WP_ret ?_
  replace h := Option.some.inj h
  subst h
  exact WQ_ret () rfl (.tmp rfl .nil) trivial rfl (ks := []) rfl (by decide)
def ref09_Tokens_Reads (n : Nat) (a0 : ref09_Tokens) (a1 : Int) (a2 : Int) : Option Bool :=
  loop1 (fun k25 (x22 : Int) =>
  cn (decide (x22 < 32)) (
  bd (ref09_Tokens_right n a0 x22 a1 a2) fun x26 =>
  gu (!(x26 == true) || inb x22 32) <|
  cn ((x26 && (a0.T (Int.toNat x22)).Mutable)) (
  some false) (
  k25 (wr .i64 (x22 + 1)))) (
  cl ((a2 == 0) == false) (ref03_Book_Slot n a0.B a2) default fun x28 =>
  some ((a2 == 0) || decide (0 ≤ x28)))) n 0
theorem c_ref09_Tokens_Reads {n : Nat} {a0 : ref09_Tokens} {a1 : Int} {a2 : Int} {r : Bool}  (h : ref09_Tokens_Reads n a0 a1 a2 = some r) : FnV Try.prog 93 [.agg (L_ref09_Tokens.enc a0).toArray, .int .i64 a1, .int .i64 a2] (.bool r) := by
  unfold ref09_Tokens_Reads at h
  refine fn_of Try.func93 (by kernel_rfl) rfl Try.ntmps93 rfl (fun cx hbs hpre hro => ?_)
  refine WP_seq ?_
  refine WP_region ?_
  refine WL_x rfl (RX_boxL L_ref09_Tokens a0 rfl rfl) (fun b3 _ => ?_)
  refine WL_v rfl (VS_assign rfl) ?_
  refine WL_nil ?_
  refine WQ_then ?_
  refine WP_seq ?_
  refine WP_seq ?_
  refine WP_region ?_
  refine WL_v rfl (VS_assign rfl) ?_
  refine WL_nil ?_
  refine WQ_then ?_
  refine WP_block ?_
  obtain ⟨lb23, hlb23, h⟩ := lp1_i h
  refine WP_loops (α := Nat × Int) [1, 2, 3] (.cons rfl (.cons rfl (.cons rfl (.nil)))) (fun (m24, x22) => [(7, .int .i64 x22)]) (fun (m24, x22) => [.cells b3 171 (L_ref09_Tokens.enc a0)]) (fun (m24, x22) => loop1 lb23 m24 x22 = some r) (fun (m24, x22) => m24) (n, 0) h (Sub_cons rfl (Sub_nil)) (ks := [0]) rfl (by decide) ?_
  rintro ⟨m24, x22⟩ h
  replace h : loop1 lb23 m24 x22 = some r := h
  replace h := lp1_s hlb23 h
  obtain ⟨m24, rfl, h⟩ := h
  refine WP_seq ?_
  refine WP_seq ?_
  refine WP_region ?_
  refine WL_v rfl (VS_move rfl) ?_
  refine WL_v rfl (VS_lss rfl rfl) ?_
  refine WL_nil ?_
  refine WQ_then ?_
  refine WP_if rfl (fun hc => ?_) (fun hc => ?_)
  ·
    replace h := cn_t hc h
    refine WP_skip ?_
    refine WQ_then ?_
    refine WP_seq ?_
    refine WP_block ?_
    refine WP_seq ?_
    obtain ⟨x26, hx26, h⟩ := bd_e h
    obtain ⟨hg27, h⟩ := gu_e h
    refine WP_region ?_
    refine WL_v rfl (VS_lda (M := L_ref09_Tokens) (Pth.id (L := L_ref09_Tokens)) rfl rfl) ?_
    refine WL_v rfl (VS_move rfl) ?_
    refine WL_v rfl (VS_move rfl) ?_
    refine WL_v rfl (VS_move rfl) ?_
    refine WL_v rfl (VS_call (c_ref09_Tokens_right hx26) rfl (fun _ _ _ => trivial)) ?_
    refine WL_v rfl (VS_move rfl) ?_
    refine WL_g (Gd_b rfl rfl) rfl (fun hb => VS_move rfl) ?_
    refine WL_g (Gd_b rfl rfl) rfl (fun hb => VS_field0 rfl) ?_
    refine WL_g (Gd_b rfl rfl) rfl (fun hb => VS_index (m := (Int.toNat x22)) (gev rfl hb) (gev rfl hb) (inb_e (imp_b hg27 hb)).1 (inb_e (imp_b hg27 hb)).2) ?_
    refine WL_g (Gd_b rfl rfl) rfl (fun hb => VS_field (gev rfl hb)) ?_
    refine WL_g (Gd_b rfl rfl) rfl (fun hb => VS_ldb ((P_ref09_Tokens_T.comp (Pth.idx (L := L_ref09_Token) (m := 32) (k := 5) ((Int.toNat x22)) (inb_e (imp_b hg27 hb)).2 rfl)).comp P_ref09_Token_Mutable) (gev rfl hb)) ?_
    refine WL_v rfl (VS_and rfl rfl) ?_
    refine WL_nil ?_
    refine WQ_then ?_
    refine WP_if rfl (fun hc => ?_) (fun hc => ?_)
    ·
      replace h := cn_t hc h
      refine WP_seq ?_
      refine WP_region ?_
      refine WL_v rfl (VS_assign rfl) ?_
      refine WL_nil ?_
      refine WQ_then ?_
      refine WP_ret ?_
      refine WQ_block_ret ?_
      refine WQ_then_ret ?_
      refine WQ_then_ret ?_
      refine WQ_block_ret ?_
      refine WQ_then_ret ?_
      replace h := Option.some.inj h
      subst h
      exact WQ_ret () rfl (.tmp rfl .nil) trivial rfl (ks := []) rfl (by decide)
    ·
      replace h := cn_f hc h
      refine WP_skip ?_
      refine WQ_block ?_
      refine WQ_then ?_
      refine WP_region ?_
      refine WL_v rfl (VS_move rfl) ?_
      refine WL_v rfl (VS_add rfl rfl rfl) ?_
      refine WL_v rfl (VS_assign rfl) ?_
      refine WL_nil ?_
      exact WQ_loops (m24, wr .i64 (x22 + 1)) (Nat.lt_succ_self _) h (Sub_cons rfl (Sub_nil)) (.cons rfl (.cons rfl (.cons rfl (.nil)))) (ks := [0]) rfl (by decide)
  ·
    replace h := cn_f hc h
    refine WP_exit ?_
    refine WQ_then_exit ?_
    refine WQ_then_exit ?_
    refine WQ_block_exit ?_
    refine WQ_then ?_
    refine WP_seq ?_
    obtain ⟨x28, hx28, _, h⟩ := cl_e h
    refine WP_region ?_
    refine WL_v rfl (VS_move rfl) ?_
    refine WL_v rfl (VS_eql rfl rfl) ?_
    refine WL_v rfl (VS_move rfl) ?_
    refine WL_g (Gd_b rfl rfl) rfl (fun hb => VS_field0 rfl) ?_
    refine WL_g (Gd_b rfl rfl) rfl (fun hb => VS_lda (M := L_ref03_Book) P_ref09_Tokens_B (gev rfl hb) rfl) ?_
    refine WL_g (Gd_b rfl rfl) rfl (fun hb => VS_move rfl) ?_
    refine WL_g (Gd_b rfl rfl) rfl (fun hb => VS_call (c_ref03_Book_Slot (hx28 hb)) (evs_cons (gev rfl hb) (evs_cons (gev rfl hb) rfl)) (fun _ _ _ => trivial)) ?_
    refine WL_g (Gd_b rfl rfl) rfl (fun hb => VS_geq (gev rfl hb) rfl) ?_
    refine WL_v rfl (VS_or rfl rfl) ?_
    refine WL_v rfl (VS_assign rfl) ?_
    refine WL_nil ?_
    refine WQ_then ?_
    refine WP_ret ?_
    replace h := Option.some.inj h
    subst h
    exact WQ_ret () rfl (.tmp rfl .nil) trivial rfl (ks := []) rfl (by decide)
def ref09_Tokens_Writes (n : Nat) (a0 : ref09_Tokens) (a1 : Int) (a2 : Int) : Option Bool :=
  loop1 (fun k25 (x22 : Int) =>
  cn (decide (x22 < 32)) (
  bd (ref09_Tokens_right n a0 x22 a1 a2) fun x26 =>
  cn (x26) (
  some false) (
  k25 (wr .i64 (x22 + 1)))) (
  cl ((a2 == 0) == false) (ref03_Book_Slot n a0.B a2) default fun x27 =>
  some ((a2 == 0) || decide (0 ≤ x27)))) n 0
theorem c_ref09_Tokens_Writes {n : Nat} {a0 : ref09_Tokens} {a1 : Int} {a2 : Int} {r : Bool}  (h : ref09_Tokens_Writes n a0 a1 a2 = some r) : FnV Try.prog 95 [.agg (L_ref09_Tokens.enc a0).toArray, .int .i64 a1, .int .i64 a2] (.bool r) := by
  unfold ref09_Tokens_Writes at h
  refine fn_of Try.func95 (by kernel_rfl) rfl Try.ntmps95 rfl (fun cx hbs hpre hro => ?_)
  refine WP_seq ?_
  refine WP_region ?_
  refine WL_x rfl (RX_boxL L_ref09_Tokens a0 rfl rfl) (fun b3 _ => ?_)
  refine WL_v rfl (VS_assign rfl) ?_
  refine WL_nil ?_
  refine WQ_then ?_
  refine WP_seq ?_
  refine WP_seq ?_
  refine WP_region ?_
  refine WL_v rfl (VS_assign rfl) ?_
  refine WL_nil ?_
  refine WQ_then ?_
  refine WP_block ?_
  obtain ⟨lb23, hlb23, h⟩ := lp1_i h
  refine WP_loops (α := Nat × Int) [1, 2, 3] (.cons rfl (.cons rfl (.cons rfl (.nil)))) (fun (m24, x22) => [(7, .int .i64 x22)]) (fun (m24, x22) => [.cells b3 171 (L_ref09_Tokens.enc a0)]) (fun (m24, x22) => loop1 lb23 m24 x22 = some r) (fun (m24, x22) => m24) (n, 0) h (Sub_cons rfl (Sub_nil)) (ks := [0]) rfl (by decide) ?_
  rintro ⟨m24, x22⟩ h
  replace h : loop1 lb23 m24 x22 = some r := h
  replace h := lp1_s hlb23 h
  obtain ⟨m24, rfl, h⟩ := h
  refine WP_seq ?_
  refine WP_seq ?_
  refine WP_region ?_
  refine WL_v rfl (VS_move rfl) ?_
  refine WL_v rfl (VS_lss rfl rfl) ?_
  refine WL_nil ?_
  refine WQ_then ?_
  refine WP_if rfl (fun hc => ?_) (fun hc => ?_)
  ·
    replace h := cn_t hc h
    refine WP_skip ?_
    refine WQ_then ?_
    refine WP_seq ?_
    refine WP_block ?_
    refine WP_seq ?_
    obtain ⟨x26, hx26, h⟩ := bd_e h
    refine WP_region ?_
    refine WL_v rfl (VS_lda (M := L_ref09_Tokens) (Pth.id (L := L_ref09_Tokens)) rfl rfl) ?_
    refine WL_v rfl (VS_move rfl) ?_
    refine WL_v rfl (VS_move rfl) ?_
    refine WL_v rfl (VS_move rfl) ?_
    refine WL_v rfl (VS_call (c_ref09_Tokens_right hx26) rfl (fun _ _ _ => trivial)) ?_
    refine WL_nil ?_
    refine WQ_then ?_
    refine WP_if rfl (fun hc => ?_) (fun hc => ?_)
    ·
      replace h := cn_t hc h
      refine WP_seq ?_
      refine WP_region ?_
      refine WL_v rfl (VS_assign rfl) ?_
      refine WL_nil ?_
      refine WQ_then ?_
      refine WP_ret ?_
      refine WQ_block_ret ?_
      refine WQ_then_ret ?_
      refine WQ_then_ret ?_
      refine WQ_block_ret ?_
      refine WQ_then_ret ?_
      replace h := Option.some.inj h
      subst h
      exact WQ_ret () rfl (.tmp rfl .nil) trivial rfl (ks := []) rfl (by decide)
    ·
      replace h := cn_f hc h
      refine WP_skip ?_
      refine WQ_block ?_
      refine WQ_then ?_
      refine WP_region ?_
      refine WL_v rfl (VS_move rfl) ?_
      refine WL_v rfl (VS_add rfl rfl rfl) ?_
      refine WL_v rfl (VS_assign rfl) ?_
      refine WL_nil ?_
      exact WQ_loops (m24, wr .i64 (x22 + 1)) (Nat.lt_succ_self _) h (Sub_cons rfl (Sub_nil)) (.cons rfl (.cons rfl (.cons rfl (.nil)))) (ks := [0]) rfl (by decide)
  ·
    replace h := cn_f hc h
    refine WP_exit ?_
    refine WQ_then_exit ?_
    refine WQ_then_exit ?_
    refine WQ_block_exit ?_
    refine WQ_then ?_
    refine WP_seq ?_
    obtain ⟨x27, hx27, _, h⟩ := cl_e h
    refine WP_region ?_
    refine WL_v rfl (VS_move rfl) ?_
    refine WL_v rfl (VS_eql rfl rfl) ?_
    refine WL_v rfl (VS_move rfl) ?_
    refine WL_g (Gd_b rfl rfl) rfl (fun hb => VS_field0 rfl) ?_
    refine WL_g (Gd_b rfl rfl) rfl (fun hb => VS_lda (M := L_ref03_Book) P_ref09_Tokens_B (gev rfl hb) rfl) ?_
    refine WL_g (Gd_b rfl rfl) rfl (fun hb => VS_move rfl) ?_
    refine WL_g (Gd_b rfl rfl) rfl (fun hb => VS_call (c_ref03_Book_Slot (hx27 hb)) (evs_cons (gev rfl hb) (evs_cons (gev rfl hb) rfl)) (fun _ _ _ => trivial)) ?_
    refine WL_g (Gd_b rfl rfl) rfl (fun hb => VS_geq (gev rfl hb) rfl) ?_
    refine WL_v rfl (VS_or rfl rfl) ?_
    refine WL_v rfl (VS_assign rfl) ?_
    refine WL_nil ?_
    refine WQ_then ?_
    refine WP_ret ?_
    replace h := Option.some.inj h
    subst h
    exact WQ_ret () rfl (.tmp rfl .nil) trivial rfl (ks := []) rfl (by decide)
def ref09_Tokens_Lend (n : Nat) (a0 : ref09_Tokens) (a1 : ref09_Token) : Option (ref09_Tokens × Int × Int) :=
  cl ((a1.Above != 0) == true) (ref03_Book_Slot n a0.B a1.Above) default fun x21 =>
  cn (((a1.Above != 0) && decide (x21 < 0))) (
  some (a0, 0, 4)) (
  cn ((((decide (7 < a1.By) || decide (7 < a1.To)) || (a1.By == a1.To)) || (a1.Region == 0))) (
  some (a0, 0, 2)) (
  lt (fun (u22 : Unit) =>
  bd (ref09_Tokens_Reads n a0 a1.Region a1.Above) fun x27 =>
  cl (((!x27) == false) && (a1.Mutable == true)) (ref09_Tokens_Writes n a0 a1.Region a1.Above) default fun x28 =>
  cn (((!x27) || (a1.Mutable && (!x28)))) (
  some (a0, 0, 5)) (
  bd (ref03_Book_Issue n a0.B) fun x29 =>
  cl ((x29.2 == 0) == false) (ref03_Book_Slot n x29.1 x29.2) default fun x30 =>
  cn (((x29.2 == 0) || decide (15 < x30))) (
  some (a0, 0, 7)) (
  lt ({ a0 with B := x29.1 } : ref09_Tokens) fun x31 =>
  bd (ref03_Book_Slot n x29.1 x29.2) fun x32 =>
  gu (inb x32 32) <|
  lt ({ x31 with T := (upd x31.T (Int.toNat x32) a1) } : ref09_Tokens) fun x34 =>
  some (x34, x29.2, 0)))) fun j23 =>
  cn ((a1.Above != 0)) (
  bd (ref03_Book_Slot n a0.B a1.Above) fun x24 =>
  gu (inb x24 32) <|
  lt ((a0.T (Int.toNat x24)) : ref09_Token) fun x26 =>
  cn ((((x26.Region != a1.Region) || (x26.To != a1.By)) || (a1.Mutable && (!x26.Mutable)))) (
  some (a0, 0, 12)) (
  j23 ())) (
  j23 ())))
theorem c_ref09_Tokens_Lend {n : Nat} {a0 : ref09_Tokens} {a1 : ref09_Token} {r : ref09_Tokens × Int × Int}  (h : ref09_Tokens_Lend n a0 a1 = some r) : FnV Try.prog 86 [.agg (L_ref09_Tokens.enc a0).toArray, .agg (L_ref09_Token.enc a1).toArray] (.tuple #[.agg (L_ref09_Tokens.enc r.1).toArray, .int .i64 r.2.1, .int .i64 r.2.2]) := by
  unfold ref09_Tokens_Lend at h
  refine fn_of Try.func86 (by kernel_rfl) rfl Try.ntmps86 rfl (fun cx hbs hpre hro => ?_)
  refine WP_seq ?_
  refine WP_region ?_
  refine WL_x rfl (RX_boxL L_ref09_Tokens a0 rfl rfl) (fun b2 _ => ?_)
  refine WL_x rfl (RX_boxL L_ref09_Token a1 rfl rfl) (fun b3 _ => ?_)
  refine WL_x rfl (RX_allocL (L := L_ref09_Tokens) (z := Z_ref09_Tokens) ⟨by kernel_rfl⟩) (fun b4 _ => ?_)
  refine WL_v rfl (VS_assign rfl) ?_
  refine WL_v rfl (VS_assign rfl) ?_
  refine WL_nil ?_
  refine WQ_then ?_
  refine WP_seq ?_
  refine WP_seq ?_
  obtain ⟨x21, hx21, _, h⟩ := cl_e h
  refine WP_region ?_
  refine WL_v rfl (VS_field0 rfl) ?_
  refine WL_v rfl (VS_ldi P_ref09_Token_Above rfl) ?_
  refine WL_v rfl (VS_neq rfl rfl) ?_
  refine WL_v rfl (VS_move rfl) ?_
  refine WL_g (Gd_b rfl rfl) rfl (fun hb => VS_field0 rfl) ?_
  refine WL_g (Gd_b rfl rfl) rfl (fun hb => VS_lda (M := L_ref03_Book) P_ref09_Tokens_B (gev rfl hb) rfl) ?_
  refine WL_g (Gd_b rfl rfl) rfl (fun hb => VS_field0 rfl) ?_
  refine WL_g (Gd_b rfl rfl) rfl (fun hb => VS_ldi P_ref09_Token_Above (gev rfl hb)) ?_
  refine WL_g (Gd_b rfl rfl) rfl (fun hb => VS_call (c_ref03_Book_Slot (hx21 hb)) (evs_cons (gev rfl hb) (evs_cons (gev rfl hb) rfl)) (fun _ _ _ => trivial)) ?_
  refine WL_g (Gd_b rfl rfl) rfl (fun hb => VS_lss (gev rfl hb) rfl) ?_
  refine WL_v rfl (VS_and rfl rfl) ?_
  refine WL_nil ?_
  refine WQ_then ?_
  refine WP_if rfl (fun hc => ?_) (fun hc => ?_)
  ·
    replace h := cn_t hc h
    refine WP_seq ?_
    refine WP_region ?_
    refine WL_v rfl (VS_lda (M := L_ref09_Tokens) (Pth.id (L := L_ref09_Tokens)) rfl rfl) ?_
    refine WL_x0 (RX_st (M := L_ref09_Tokens) (Pth.id (L := L_ref09_Tokens)) a0 a0 rfl rfl rfl rfl rfl) (fun _ _ => ?_)
    refine WL_v rfl (VS_assign rfl) ?_
    refine WL_v rfl (VS_assign rfl) ?_
    refine WL_nil ?_
    refine WQ_then ?_
    refine WP_ret ?_
    refine WQ_then_ret ?_
    replace h := Option.some.inj h
    subst h
    exact WQ_ret () rfl (.agg rfl inferInstance inferInstance (enc_len _ _) (.tmp rfl (.tmp rfl .nil))) trivial rfl (ks := []) rfl (by decide)
  ·
    replace h := cn_f hc h
    refine WP_skip ?_
    refine WQ_then ?_
    refine WP_seq ?_
    refine WP_seq ?_
    refine WP_region ?_
    refine WL_v rfl (VS_field0 rfl) ?_
    refine WL_v rfl (VS_ldi P_ref09_Token_By rfl) ?_
    refine WL_v rfl (VS_gtr rfl rfl) ?_
    refine WL_v rfl (VS_move rfl) ?_
    refine WL_g (Gd_b rfl rfl) rfl (fun hb => VS_field0 rfl) ?_
    refine WL_g (Gd_b rfl rfl) rfl (fun hb => VS_ldi P_ref09_Token_To (gev rfl hb)) ?_
    refine WL_g (Gd_b rfl rfl) rfl (fun hb => VS_gtr (gev rfl hb) rfl) ?_
    refine WL_v rfl (VS_or rfl rfl) ?_
    refine WL_v rfl (VS_move rfl) ?_
    refine WL_g (Gd_b rfl rfl) rfl (fun hb => VS_field0 rfl) ?_
    refine WL_g (Gd_b rfl rfl) rfl (fun hb => VS_ldi P_ref09_Token_By (gev rfl hb)) ?_
    refine WL_g (Gd_b rfl rfl) rfl (fun hb => VS_field0 rfl) ?_
    refine WL_g (Gd_b rfl rfl) rfl (fun hb => VS_ldi P_ref09_Token_To (gev rfl hb)) ?_
    refine WL_g (Gd_b rfl rfl) rfl (fun hb => VS_eql (gev rfl hb) (gev rfl hb)) ?_
    refine WL_v rfl (VS_or rfl rfl) ?_
    refine WL_v rfl (VS_move rfl) ?_
    refine WL_g (Gd_b rfl rfl) rfl (fun hb => VS_field0 rfl) ?_
    refine WL_g (Gd_b rfl rfl) rfl (fun hb => VS_ldi P_ref09_Token_Region (gev rfl hb)) ?_
    refine WL_g (Gd_b rfl rfl) rfl (fun hb => VS_eql (gev rfl hb) rfl) ?_
    refine WL_v rfl (VS_or rfl rfl) ?_
    refine WL_nil ?_
    refine WQ_then ?_
    refine WP_if rfl (fun hc => ?_) (fun hc => ?_)
    ·
      replace h := cn_t hc h
      refine WP_seq ?_
      refine WP_region ?_
      refine WL_v rfl (VS_lda (M := L_ref09_Tokens) (Pth.id (L := L_ref09_Tokens)) rfl rfl) ?_
      refine WL_x0 (RX_st (M := L_ref09_Tokens) (Pth.id (L := L_ref09_Tokens)) a0 a0 rfl rfl rfl rfl rfl) (fun _ _ => ?_)
      refine WL_v rfl (VS_assign rfl) ?_
      refine WL_v rfl (VS_assign rfl) ?_
      refine WL_nil ?_
      refine WQ_then ?_
      refine WP_ret ?_
      refine WQ_then_ret ?_
      replace h := Option.some.inj h
      subst h
      exact WQ_ret () rfl (.agg rfl inferInstance inferInstance (enc_len _ _) (.tmp rfl (.tmp rfl .nil))) trivial rfl (ks := []) rfl (by decide)
    ·
      replace h := cn_f hc h
      refine WP_skip ?_
      refine WQ_then ?_
      obtain ⟨j23, hj23, h⟩ := lt_e h
      refine WP_cuts (α := Unit) [2, 3, 4] (.cons rfl (.cons rfl (.cons rfl (.nil)))) (fun u22 => []) (fun u22 => [.cells b4 171 (L_ref09_Tokens.enc Z_ref09_Tokens), .cells b3 168 (L_ref09_Token.enc a1), .cells b2 171 (L_ref09_Tokens.enc a0)]) (fun u22 => j23 u22 = some r) ?_ ?_
      ·
        refine WP_seq ?_
        refine WP_region ?_
        refine WL_v rfl (VS_field0 rfl) ?_
        refine WL_v rfl (VS_ldi P_ref09_Token_Above rfl) ?_
        refine WL_v rfl (VS_neq rfl rfl) ?_
        refine WL_nil ?_
        refine WQ_then ?_
        refine WP_if rfl (fun hc => ?_) (fun hc => ?_)
        ·
          replace h := cn_t hc h
          refine WP_seq ?_
          obtain ⟨x24, hx24, h⟩ := bd_e h
          obtain ⟨hg25, h⟩ := gu_e h
          obtain ⟨x26, hx26, h⟩ := lt_e h
          refine WP_region ?_
          refine WL_v rfl (VS_field0 rfl) ?_
          refine WL_v rfl (VS_lda (M := L_ref03_Book) P_ref09_Tokens_B rfl rfl) ?_
          refine WL_v rfl (VS_field0 rfl) ?_
          refine WL_v rfl (VS_ldi P_ref09_Token_Above rfl) ?_
          refine WL_v rfl (VS_call (c_ref03_Book_Slot hx24) rfl (fun _ _ _ => trivial)) ?_
          refine WL_v rfl (VS_field0 rfl) ?_
          refine WL_v rfl (VS_index (m := (Int.toNat x24)) rfl rfl (inb_e hg25).1 (inb_e hg25).2) ?_
          refine WL_v rfl (VS_lda (M := L_ref09_Token) (P_ref09_Tokens_T.comp (Pth.idx (L := L_ref09_Token) (m := 32) (k := 5) ((Int.toNat x24)) (inb_e hg25).2 rfl)) rfl rfl) ?_
          refine WL_x rfl (RX_allocL (L := L_ref09_Token) (z := Z_ref09_Token) ⟨by kernel_rfl⟩) (fun b7 _ => ?_)
          refine WL_x0 (RX_st (M := L_ref09_Token) (Pth.id (L := L_ref09_Token)) (a0.T (Int.toNat x24)) x26 hx26 rfl rfl rfl rfl) (fun _ _ => ?_)
          refine WL_nil ?_
          refine WQ_then ?_
          refine WP_seq ?_
          refine WP_region ?_
          refine WL_v rfl (VS_field0 rfl) ?_
          refine WL_v rfl (VS_ldi P_ref09_Token_Region rfl) ?_
          refine WL_v rfl (VS_field0 rfl) ?_
          refine WL_v rfl (VS_ldi P_ref09_Token_Region rfl) ?_
          refine WL_v rfl (VS_neq rfl rfl) ?_
          refine WL_v rfl (VS_move rfl) ?_
          refine WL_g (Gd_b rfl rfl) rfl (fun hb => VS_field0 rfl) ?_
          refine WL_g (Gd_b rfl rfl) rfl (fun hb => VS_ldi P_ref09_Token_To (gev rfl hb)) ?_
          refine WL_g (Gd_b rfl rfl) rfl (fun hb => VS_field0 rfl) ?_
          refine WL_g (Gd_b rfl rfl) rfl (fun hb => VS_ldi P_ref09_Token_By (gev rfl hb)) ?_
          refine WL_g (Gd_b rfl rfl) rfl (fun hb => VS_neq (gev rfl hb) (gev rfl hb)) ?_
          refine WL_v rfl (VS_or rfl rfl) ?_
          refine WL_v rfl (VS_move rfl) ?_
          refine WL_g (Gd_b rfl rfl) rfl (fun hb => VS_field0 rfl) ?_
          refine WL_g (Gd_b rfl rfl) rfl (fun hb => VS_ldb P_ref09_Token_Mutable (gev rfl hb)) ?_
          refine WL_g (Gd_b rfl rfl) rfl (fun hb => VS_move (gev rfl hb)) ?_
          refine WL_g (Gd_g rfl rfl) rfl (fun hb => VS_field0 rfl) ?_
          refine WL_g (Gd_g rfl rfl) rfl (fun hb => VS_ldb P_ref09_Token_Mutable (gev rfl hb)) ?_
          refine WL_g (Gd_g rfl rfl) rfl (fun hb => VS_not (gev rfl hb)) ?_
          refine WL_g (Gd_b rfl rfl) rfl (fun hb => VS_and (gev rfl hb) (gev2 rfl hb)) ?_
          refine WL_v rfl (VS_or rfl rfl) ?_
          refine WL_nil ?_
          refine WQ_then ?_
          refine WP_if rfl (fun hc => ?_) (fun hc => ?_)
          ·
            replace h := cn_t hc h
            refine WP_seq ?_
            refine WP_region ?_
            refine WL_v rfl (VS_lda (M := L_ref09_Tokens) (Pth.id (L := L_ref09_Tokens)) rfl rfl) ?_
            refine WL_x0 (RX_st (M := L_ref09_Tokens) (Pth.id (L := L_ref09_Tokens)) a0 a0 rfl rfl rfl rfl rfl) (fun _ _ => ?_)
            refine WL_v rfl (VS_assign rfl) ?_
            refine WL_v rfl (VS_assign rfl) ?_
            refine WL_nil ?_
            refine WQ_then ?_
            refine WP_ret ?_
            refine WQ_then_ret ?_
            replace h := Option.some.inj h
            subst h
            exact WQ_ret () rfl (.agg rfl inferInstance inferInstance (enc_len _ _) (.tmp rfl (.tmp rfl .nil))) trivial rfl (ks := []) rfl (by decide)
          ·
            replace h := cn_f hc h
            refine WP_skip ?_
            exact WQ_cuts (()) h (Sub_nil) (.cons rfl (.cons rfl (.cons rfl (.nil)))) (ks := [1, 2, 3]) rfl (by decide)
        ·
          replace h := cn_f hc h
          refine WP_skip ?_
          exact WQ_cuts (()) h (Sub_nil) (.cons rfl (.cons rfl (.cons rfl (.nil)))) (ks := [0, 1, 2]) rfl (by decide)
      ·
        rintro u22 h
        replace h : j23 u22 = some r := h
        replace h := jn1_u hj23 h
        refine WP_seq ?_
        refine WP_seq ?_
        obtain ⟨x27, hx27, h⟩ := bd_e h
        obtain ⟨x28, hx28, _, h⟩ := cl_e h
        refine WP_region ?_
        refine WL_v rfl (VS_lda (M := L_ref09_Tokens) (Pth.id (L := L_ref09_Tokens)) rfl rfl) ?_
        refine WL_v rfl (VS_field0 rfl) ?_
        refine WL_v rfl (VS_ldi P_ref09_Token_Region rfl) ?_
        refine WL_v rfl (VS_field0 rfl) ?_
        refine WL_v rfl (VS_ldi P_ref09_Token_Above rfl) ?_
        refine WL_v rfl (VS_call (c_ref09_Tokens_Reads hx27) rfl (fun _ _ _ => trivial)) ?_
        refine WL_v rfl (VS_not rfl) ?_
        refine WL_v rfl (VS_move rfl) ?_
        refine WL_g (Gd_b rfl rfl) rfl (fun hb => VS_field0 rfl) ?_
        refine WL_g (Gd_b rfl rfl) rfl (fun hb => VS_ldb P_ref09_Token_Mutable (gev rfl hb)) ?_
        refine WL_g (Gd_b rfl rfl) rfl (fun hb => VS_move (gev rfl hb)) ?_
        refine WL_g (Gd_g rfl rfl) rfl (fun hb => VS_lda (M := L_ref09_Tokens) (Pth.id (L := L_ref09_Tokens)) rfl rfl) ?_
        refine WL_g (Gd_g rfl rfl) rfl (fun hb => VS_field0 rfl) ?_
        refine WL_g (Gd_g rfl rfl) rfl (fun hb => VS_ldi P_ref09_Token_Region (gev rfl hb)) ?_
        refine WL_g (Gd_g rfl rfl) rfl (fun hb => VS_field0 rfl) ?_
        refine WL_g (Gd_g rfl rfl) rfl (fun hb => VS_ldi P_ref09_Token_Above (gev rfl hb)) ?_
        refine WL_g (Gd_g rfl rfl) rfl (fun hb => VS_call (c_ref09_Tokens_Writes (hx28 hb)) (evs_cons (gev rfl hb) (evs_cons (gev rfl hb) (evs_cons (gev rfl hb) rfl))) (fun _ _ _ => trivial)) ?_
        refine WL_g (Gd_g rfl rfl) rfl (fun hb => VS_not (gev rfl hb)) ?_
        refine WL_g (Gd_b rfl rfl) rfl (fun hb => VS_and (gev rfl hb) (gev2 rfl hb)) ?_
        refine WL_v rfl (VS_or rfl rfl) ?_
        refine WL_nil ?_
        refine WQ_then ?_
        refine WP_if rfl (fun hc => ?_) (fun hc => ?_)
        ·
          replace h := cn_t hc h
          refine WP_seq ?_
          refine WP_region ?_
          refine WL_v rfl (VS_lda (M := L_ref09_Tokens) (Pth.id (L := L_ref09_Tokens)) rfl rfl) ?_
          refine WL_x0 (RX_st (M := L_ref09_Tokens) (Pth.id (L := L_ref09_Tokens)) a0 a0 rfl rfl rfl rfl rfl) (fun _ _ => ?_)
          refine WL_v rfl (VS_assign rfl) ?_
          refine WL_v rfl (VS_assign rfl) ?_
          refine WL_nil ?_
          refine WQ_then ?_
          refine WP_ret ?_
          refine WQ_then_ret ?_
          replace h := Option.some.inj h
          subst h
          exact WQ_ret () rfl (.agg rfl inferInstance inferInstance (enc_len _ _) (.tmp rfl (.tmp rfl .nil))) trivial rfl (ks := []) rfl (by decide)
        ·
          replace h := cn_f hc h
          refine WP_skip ?_
          refine WQ_then ?_
          refine WP_seq ?_
          obtain ⟨x29, hx29, h⟩ := bd_e h
          refine WP_region ?_
          refine WL_v rfl (VS_field0 rfl) ?_
          refine WL_v rfl (VS_lda (M := L_ref03_Book) P_ref09_Tokens_B rfl rfl) ?_
          refine WL_v rfl (VS_call (c_ref03_Book_Issue hx29) rfl (fun _ _ _ => trivial)) ?_
          refine WL_v rfl (VS_move rfl) ?_
          refine WL_v rfl (VS_extract rfl rfl) ?_
          refine WL_v rfl (VS_extract rfl rfl) ?_
          refine WL_x rfl (RX_allocL (L := L_ref03_Book) (z := Z_ref03_Book) ⟨by kernel_rfl⟩) (fun b8 _ => ?_)
          refine WL_x0 (RX_st (M := L_ref03_Book) (Pth.id (L := L_ref03_Book)) x29.1 x29.1 rfl rfl rfl rfl rfl) (fun _ _ => ?_)
          refine WL_v rfl (VS_assign rfl) ?_
          refine WL_nil ?_
          refine WQ_then ?_
          refine WP_seq ?_
          refine WP_seq ?_
          obtain ⟨x30, hx30, _, h⟩ := cl_e h
          refine WP_region ?_
          refine WL_v rfl (VS_move rfl) ?_
          refine WL_v rfl (VS_eql rfl rfl) ?_
          refine WL_v rfl (VS_move rfl) ?_
          refine WL_g (Gd_b rfl rfl) rfl (fun hb => VS_lda (M := L_ref03_Book) (Pth.id (L := L_ref03_Book)) rfl rfl) ?_
          refine WL_g (Gd_b rfl rfl) rfl (fun hb => VS_move rfl) ?_
          refine WL_g (Gd_b rfl rfl) rfl (fun hb => VS_call (c_ref03_Book_Slot (hx30 hb)) (evs_cons (gev rfl hb) (evs_cons (gev rfl hb) rfl)) (fun _ _ _ => trivial)) ?_
          refine WL_g (Gd_b rfl rfl) rfl (fun hb => VS_gtr (gev rfl hb) rfl) ?_
          refine WL_v rfl (VS_or rfl rfl) ?_
          refine WL_nil ?_
          refine WQ_then ?_
          refine WP_if rfl (fun hc => ?_) (fun hc => ?_)
          ·
            replace h := cn_t hc h
            refine WP_seq ?_
            refine WP_region ?_
            refine WL_v rfl (VS_lda (M := L_ref09_Tokens) (Pth.id (L := L_ref09_Tokens)) rfl rfl) ?_
            refine WL_x0 (RX_st (M := L_ref09_Tokens) (Pth.id (L := L_ref09_Tokens)) a0 a0 rfl rfl rfl rfl rfl) (fun _ _ => ?_)
            refine WL_v rfl (VS_assign rfl) ?_
            refine WL_v rfl (VS_assign rfl) ?_
            refine WL_nil ?_
            refine WQ_then ?_
            refine WP_ret ?_
            refine WQ_then_ret ?_
            replace h := Option.some.inj h
            subst h
            exact WQ_ret () rfl (.agg rfl inferInstance inferInstance (enc_len _ _) (.tmp rfl (.tmp rfl .nil))) trivial rfl (ks := []) rfl (by decide)
          ·
            replace h := cn_f hc h
            refine WP_skip ?_
            refine WQ_then ?_
            refine WP_seq ?_
            obtain ⟨x31, hx31, h⟩ := lt_e h
            refine WP_region ?_
            refine WL_v rfl (VS_lda (M := L_ref03_Book) (Pth.id (L := L_ref03_Book)) rfl rfl) ?_
            refine WL_v rfl (VS_field0 rfl) ?_
            refine WL_x0 (RX_st (M := L_ref03_Book) P_ref09_Tokens_B x29.1 x31 hx31 rfl rfl rfl rfl) (fun _ _ => ?_)
            refine WL_nil ?_
            refine WQ_then ?_
            refine WP_seq ?_
            obtain ⟨x32, hx32, h⟩ := bd_e h
            obtain ⟨hg33, h⟩ := gu_e h
            obtain ⟨x34, hx34, h⟩ := lt_e h
            refine WP_draw mixed (.stg [] [(0, [8]), (1, [9]), (2, [114, 115]), (3, [3]), (4, [2]), (5, [116, 118])] (.alt 6 [117, 119] (.fin [] []) .no)) (by kernel_rfl) ?_
            refine Stg_stg ?_ ?_
            · exact ReOk_nil
            refine NewOk_cons rfl rfl (VG_v rfl (VS_lda (M := L_ref03_Book) (Pth.id (L := L_ref03_Book)) rfl rfl)) ?_
            refine NewOk_cons rfl rfl (VG_v rfl (VS_move rfl)) ?_
            refine NewOk_cons rfl rfl (VG_v rfl (VS_call (c_ref03_Book_Slot hx32) rfl (fun _ _ _ => trivial))) ?_
            refine NewOk_cons rfl rfl (VG_v rfl (VS_lda (M := L_ref09_Token) (Pth.id (L := L_ref09_Token)) rfl rfl)) ?_
            refine NewOk_cons rfl rfl (VG_v rfl (VS_field0 rfl)) ?_
            refine NewOk_cons rfl rfl (VG_v rfl (VS_index (m := (Int.toNat x32)) rfl rfl (inb_e hg33).1 (inb_e hg33).2)) ?_
            refine NewOk_nil ?_
            refine Stg_none rfl (RG_x rfl (RX_st (M := L_ref09_Token) (P_ref09_Tokens_T.comp (Pth.idx (L := L_ref09_Token) (m := 32) (k := 5) ((Int.toNat x32)) (inb_e hg33).2 rfl)) a1 x34 hx34 rfl rfl rfl rfl)) (fun _ _ => ?_) Stg_no
            refine Stg_fin ?_ ?_
            · exact ReOk_nil
            refine NewOk_nil ?_
            refine WQ_then ?_
            refine WP_seq ?_
            refine WP_region ?_
            refine WL_v rfl (VS_lda (M := L_ref09_Tokens) (Pth.id (L := L_ref09_Tokens)) rfl rfl) ?_
            refine WL_v rfl (VS_move rfl) ?_
            refine WL_x0 (RX_st (M := L_ref09_Tokens) (Pth.id (L := L_ref09_Tokens)) x34 x34 rfl rfl rfl rfl rfl) (fun _ _ => ?_)
            refine WL_v rfl (VS_assign rfl) ?_
            refine WL_v rfl (VS_assign rfl) ?_
            refine WL_nil ?_
            refine WQ_then ?_
            refine WP_ret ?_
            replace h := Option.some.inj h
            subst h
            exact WQ_ret () rfl (.agg rfl inferInstance inferInstance (enc_len _ _) (.tmp rfl (.tmp rfl .nil))) trivial rfl (ks := []) rfl (by decide)
def ref09_Tokens_Return (n : Nat) (a0 : ref09_Tokens) (a1 : Int) : Option (ref09_Tokens × (List Int) × Int) :=
  bd (ref03_Book_Slot n a0.B a1) fun x21 =>
  cn (decide (x21 < 0)) (
  some (a0, ([] : List Int), 4)) (
  bd (ref03_Book_Slot n a0.B a1) fun x23 =>
  gu (inb x23 32) <|
  lt ((upd (fun _ => false) (Int.toNat x23) true) : (Nat → Bool)) fun x25 =>
  loop2 (fun k33 (x29 : Bool) (x30 : (Nat → Bool)) =>
  cn (x29) (
  loop3 (fun k44 (x39 : Bool) (x40 : Int) (x41 : (Nat → Bool)) =>
  cn (decide (x40 < 32)) (
  gu (inb x40 32) <|
  bd (ref03_Book_Slot n a0.B ((a0.T (Int.toNat x40)).Above)) fun x46 =>
  gu (inb x40 32) <|
  gu (!(((a0.B.Is (Int.toNat x40)) == 1) == true) || inb x40 32) <|
  gu (!(((((a0.B.Is (Int.toNat x40)) == 1) && (!(x41 (Int.toNat x40)))) && decide (0 ≤ x46)) == true) || inb x46 32) <|
  cn ((((((a0.B.Is (Int.toNat x40)) == 1) && (!(x41 (Int.toNat x40)))) && decide (0 ≤ x46)) && (x41 (Int.toNat x46)))) (
  gu (inb x40 32) <|
  lt ((upd x41 (Int.toNat x40) true) : (Nat → Bool)) fun x51 =>
  k44 true (wr .i64 (x40 + 1)) x51) (
  k44 x39 (wr .i64 (x40 + 1)) x41)) (
  k33 x39 x41)) n false 0 x30) (
  loop3 (fun k66 (x59 : (List Int)) (x62 : Int) (x63 : ref09_Tokens) =>
  cn (decide (x62 < 32)) (
  gu (inb x62 32) <|
  cn ((x30 (Int.toNat x62))) (
  bd (ref03_Book_Of n a0.B x62) fun x68 =>
  gu (apok x59.length 1 8) <|
  lt (x59 ++ ([x68]) : List Int) fun x70 =>
  bd (ref03_Book_Of n a0.B x62) fun x73 =>
  bd (ref03_Book_Void n x63.B x73) fun x74 =>
  lt ({ x63 with B := x74.1 } : ref09_Tokens) fun x75 =>
  k66 x70 (wr .i64 (x62 + 1)) x75) (
  k66 x59 (wr .i64 (x62 + 1)) x63)) (
  some (x63, x59, 0))) n ([]) 0 a0)) n true x25)
theorem c_ref09_Tokens_Return {n : Nat} {a0 : ref09_Tokens} {a1 : Int} {r : ref09_Tokens × (List Int) × Int}  (h : ref09_Tokens_Return n a0 a1 = some r) : FnB Try.prog 81 [.agg (L_ref09_Tokens.enc a0).toArray, .int .i64 a1] (fun _ => True) (fun J v => ∃ u1, v = (.tuple #[.agg (L_ref09_Tokens.enc r.1).toArray, u1, .int .i64 r.2.2]) ∧ Fz J u1 (LI .i64) (r.2.1)) := by
  unfold ref09_Tokens_Return at h
  refine fn_of Try.func81 (by kernel_rfl) rfl Try.ntmps81 rfl (fun cx hbs hpre hro => ?_)
  refine WP_seq ?_
  refine WP_region ?_
  refine WL_x rfl (RX_boxL L_ref09_Tokens a0 rfl rfl) (fun b2 _ => ?_)
  refine WL_x rfl (RX_allocL (L := L_ref09_Tokens) (z := Z_ref09_Tokens) ⟨by kernel_rfl⟩) (fun b4 _ => ?_)
  refine WL_v rfl (VS_assign rfl) ?_
  refine WL_v rfl (VS_assign rfl) ?_
  refine WL_nil ?_
  refine WQ_then ?_
  refine WP_seq ?_
  refine WP_seq ?_
  obtain ⟨x21, hx21, h⟩ := bd_e h
  refine WP_region ?_
  refine WL_v rfl (VS_field0 rfl) ?_
  refine WL_v rfl (VS_lda (M := L_ref03_Book) P_ref09_Tokens_B rfl rfl) ?_
  refine WL_v rfl (VS_move rfl) ?_
  refine WL_v rfl (VS_call (c_ref03_Book_Slot hx21) rfl (fun _ _ _ => trivial)) ?_
  refine WL_v rfl (VS_lss rfl rfl) ?_
  refine WL_nil ?_
  refine WQ_then ?_
  refine WP_if rfl (fun hc => ?_) (fun hc => ?_)
  ·
    replace h := cn_t hc h
    refine WP_seq ?_
    refine WP_region ?_
    refine WL_v rfl (VS_lda (M := L_ref09_Tokens) (Pth.id (L := L_ref09_Tokens)) rfl rfl) ?_
    refine WL_x0 (RX_st (M := L_ref09_Tokens) (Pth.id (L := L_ref09_Tokens)) a0 a0 rfl rfl rfl rfl rfl) (fun _ _ => ?_)
    refine WL_v rfl (VS_assign rfl) ?_
    refine WL_v rfl (VS_assign rfl) ?_
    refine WL_nil ?_
    refine WQ_then ?_
    refine WP_ret ?_
    refine WQ_then_ret ?_
    replace h := Option.some.inj h
    subst h
    refine WQ_bundle (R := []) (H' := [.cells b4 171 (L_ref09_Tokens.enc a0)]) (ks := [0]) rfl (by decide) ?_
    have p22 : Fz (Hs [.ext (blks []) (Hs [])]) (.slice none 0 0) (LI .i64) ([] : List Int) := (Fz.nil (A := Hs [])).mono ent
    exact WQ_ret (.tuple #[.agg (L_ref09_Tokens.enc a0).toArray, .slice none 0 0, .int .i64 4], blks [], Hs []) rfl (.agg rfl inferInstance inferInstance (enc_len _ _) (.tmp rfl (.tmp rfl .nil))) ⟨_, rfl, p22⟩ rfl (ks := [0]) rfl (by decide)
  ·
    replace h := cn_f hc h
    refine WP_skip ?_
    refine WQ_then ?_
    refine WP_seq ?_
    refine WP_region ?_
    refine WL_x rfl (RX_allocL (L := (LA LB 32)) (z := (fun _ => false)) ⟨by kernel_rfl⟩) (fun b7 _ => ?_)
    refine WL_nil ?_
    refine WQ_then ?_
    refine WP_seq ?_
    obtain ⟨x23, hx23, h⟩ := bd_e h
    obtain ⟨hg24, h⟩ := gu_e h
    obtain ⟨x25, hx25, h⟩ := lt_e h
    refine WP_region ?_
    refine WL_v rfl (VS_field0 rfl) ?_
    refine WL_v rfl (VS_lda (M := L_ref03_Book) P_ref09_Tokens_B rfl rfl) ?_
    refine WL_v rfl (VS_move rfl) ?_
    refine WL_v rfl (VS_call (c_ref03_Book_Slot hx23) rfl (fun _ _ _ => trivial)) ?_
    refine WL_v rfl (VS_index0 (m := (Int.toNat x23)) rfl rfl (inb_e hg24).1 (inb_e hg24).2) ?_
    refine WL_x0 (RX_st (M := LB) (Pth.idx (L := LB) (m := 32) (k := 1) ((Int.toNat x23)) (inb_e hg24).2 rfl) true x25 hx25 rfl rfl rfl rfl) (fun _ _ => ?_)
    refine WL_nil ?_
    refine WQ_then ?_
    refine WP_seq ?_
    refine WP_seq ?_
    refine WP_region ?_
    refine WL_v rfl (VS_assign rfl) ?_
    refine WL_nil ?_
    refine WQ_then ?_
    refine WP_block ?_
    obtain ⟨lb31, hlb31, h⟩ := lp2_i h
    refine WP_loops (α := Nat × Bool × (Nat → Bool)) [2, 4, 7] (.cons rfl (.cons rfl (.cons rfl (.nil)))) (fun (m32, x29, x30) => [(8, .bool x29)]) (fun (m32, x29, x30) => [.cells b7 221 ((LA LB 32).enc x30), .cells b4 171 (L_ref09_Tokens.enc Z_ref09_Tokens), .cells b2 171 (L_ref09_Tokens.enc a0)]) (fun (m32, x29, x30) => loop2 lb31 m32 x29 x30 = some r) (fun (m32, x29, x30) => m32) (n, true, x25) h (Sub_cons rfl (Sub_nil)) (ks := [0, 1, 2]) rfl (by decide) ?_
    rintro ⟨m32, x29, x30⟩ h
    replace h : loop2 lb31 m32 x29 x30 = some r := h
    replace h := lp2_s hlb31 h
    obtain ⟨m32, rfl, h⟩ := h
    refine WP_seq ?_
    refine WP_seq ?_
    refine WP_region ?_
    refine WL_v rfl (VS_move rfl) ?_
    refine WL_nil ?_
    refine WQ_then ?_
    refine WP_if rfl (fun hc => ?_) (fun hc => ?_)
    ·
      replace h := cn_t hc h
      refine WP_skip ?_
      refine WQ_then ?_
      refine WP_block ?_
      refine WP_seq ?_
      refine WP_region ?_
      refine WL_v rfl (VS_assign rfl) ?_
      refine WL_nil ?_
      refine WQ_then ?_
      refine WP_seq ?_
      refine WP_region ?_
      refine WL_v rfl (VS_assign rfl) ?_
      refine WL_nil ?_
      refine WQ_then ?_
      refine WP_block ?_
      obtain ⟨lb42, hlb42, h⟩ := lp3_i h
      refine WP_loops (α := Nat × Bool × Int × (Nat → Bool)) [2, 4, 7] (.cons rfl (.cons rfl (.cons rfl (.nil)))) (fun (m43, x39, x40, x41) => [(8, .bool x39), (9, .int .i64 x40)]) (fun (m43, x39, x40, x41) => [.cells b7 221 ((LA LB 32).enc x41), .cells b4 171 (L_ref09_Tokens.enc Z_ref09_Tokens), .cells b2 171 (L_ref09_Tokens.enc a0)]) (fun (m43, x39, x40, x41) => loop3 lb42 m43 x39 x40 x41 = some r) (fun (m43, x39, x40, x41) => m43) (n, false, 0, x30) h (Sub_cons rfl (Sub_cons rfl (Sub_nil))) (ks := [0, 1, 2]) rfl (by decide) ?_
      rintro ⟨m43, x39, x40, x41⟩ h
      replace h : loop3 lb42 m43 x39 x40 x41 = some r := h
      replace h := lp3_s hlb42 h
      obtain ⟨m43, rfl, h⟩ := h
      refine WP_seq ?_
      refine WP_seq ?_
      refine WP_region ?_
      refine WL_v rfl (VS_move rfl) ?_
      refine WL_v rfl (VS_lss rfl rfl) ?_
      refine WL_nil ?_
      refine WQ_then ?_
      refine WP_if rfl (fun hc => ?_) (fun hc => ?_)
      ·
        replace h := cn_t hc h
        refine WP_skip ?_
        refine WQ_then ?_
        refine WP_seq ?_
        refine WP_block ?_
        refine WP_seq ?_
        obtain ⟨hg45, h⟩ := gu_e h
        obtain ⟨x46, hx46, h⟩ := bd_e h
        refine WP_draw mixed (.stg [] [(0, [2]), (1, [30]), (2, [9]), (3, [2]), (4, [32, 33]), (5, [34]), (6, [35]), (7, [31, 36])] (.alt 8 [37] (.fin [] []) .no)) (by kernel_rfl) ?_
        refine Stg_stg ?_ ?_
        · exact ReOk_nil
        refine NewOk_cons rfl rfl (VG_v rfl (VS_field0 rfl)) ?_
        refine NewOk_cons rfl rfl (VG_v rfl (VS_lda (M := L_ref03_Book) P_ref09_Tokens_B rfl rfl)) ?_
        refine NewOk_cons rfl rfl (VG_v rfl (VS_move rfl)) ?_
        refine NewOk_cons rfl rfl (VG_v rfl (VS_field0 rfl)) ?_
        refine NewOk_cons rfl rfl (VG_v rfl (VS_index (m := (Int.toNat x40)) rfl rfl (inb_e hg45).1 (inb_e hg45).2)) ?_
        refine NewOk_cons rfl rfl (VG_v rfl (VS_field rfl)) ?_
        refine NewOk_cons rfl rfl (VG_v rfl (VS_ldi ((P_ref09_Tokens_T.comp (Pth.idx (L := L_ref09_Token) (m := 32) (k := 5) ((Int.toNat x40)) (inb_e hg45).2 rfl)).comp P_ref09_Token_Above) rfl)) ?_
        refine NewOk_cons rfl rfl (VG_v rfl (VS_call (c_ref03_Book_Slot hx46) rfl (fun _ _ _ => trivial))) ?_
        refine NewOk_nil ?_
        refine Stg_some rfl rfl (RG_x rfl ((VS_assign rfl).rx)) (fun _ _ => ?_) Stg_no
        refine Stg_fin ?_ ?_
        · exact ReOk_nil
        refine NewOk_nil ?_
        refine WQ_then ?_
        refine WP_seq ?_
        obtain ⟨hg47, h⟩ := gu_e h
        obtain ⟨hg48, h⟩ := gu_e h
        obtain ⟨hg49, h⟩ := gu_e h
        refine WP_region ?_
        refine WL_v rfl (VS_move rfl) ?_
        refine WL_v rfl (VS_field0 rfl) ?_
        refine WL_v rfl (VS_field0 rfl) ?_
        refine WL_v rfl (VS_index (m := (Int.toNat x40)) rfl rfl (inb_e hg47).1 (inb_e hg47).2) ?_
        refine WL_v rfl (VS_ldi ((P_ref09_Tokens_B.c0 P_ref03_Book_Is).comp (Pth.idx (L := (LI .i64)) (m := 32) (k := 1) ((Int.toNat x40)) (inb_e hg47).2 rfl)) rfl) ?_
        refine WL_v rfl (VS_eql rfl rfl) ?_
        refine WL_v rfl (VS_move rfl) ?_
        refine WL_g (Gd_b rfl rfl) rfl (fun hb => VS_move rfl) ?_
        refine WL_g (Gd_b rfl rfl) rfl (fun hb => VS_index0 (m := (Int.toNat x40)) rfl (gev rfl hb) (inb_e (imp_b hg48 hb)).1 (inb_e (imp_b hg48 hb)).2) ?_
        refine WL_g (Gd_b rfl rfl) rfl (fun hb => VS_ldb (Pth.idx (L := LB) (m := 32) (k := 1) ((Int.toNat x40)) (inb_e (imp_b hg48 hb)).2 rfl) (gev rfl hb)) ?_
        refine WL_g (Gd_b rfl rfl) rfl (fun hb => VS_not (gev rfl hb)) ?_
        refine WL_v rfl (VS_and rfl rfl) ?_
        refine WL_v rfl (VS_move rfl) ?_
        refine WL_g (Gd_b rfl rfl) rfl (fun hb => VS_move rfl) ?_
        refine WL_g (Gd_b rfl rfl) rfl (fun hb => VS_geq (gev rfl hb) rfl) ?_
        refine WL_v rfl (VS_and rfl rfl) ?_
        refine WL_v rfl (VS_move rfl) ?_
        refine WL_g (Gd_b rfl rfl) rfl (fun hb => VS_move rfl) ?_
        refine WL_g (Gd_b rfl rfl) rfl (fun hb => VS_index0 (m := (Int.toNat x46)) rfl (gev rfl hb) (inb_e (imp_b hg49 hb)).1 (inb_e (imp_b hg49 hb)).2) ?_
        refine WL_g (Gd_b rfl rfl) rfl (fun hb => VS_ldb (Pth.idx (L := LB) (m := 32) (k := 1) ((Int.toNat x46)) (inb_e (imp_b hg49 hb)).2 rfl) (gev rfl hb)) ?_
        refine WL_v rfl (VS_and rfl rfl) ?_
        refine WL_nil ?_
        refine WQ_then ?_
        refine WP_if rfl (fun hc => ?_) (fun hc => ?_)
        ·
          replace h := cn_t hc h
          refine WP_seq ?_
          obtain ⟨hg50, h⟩ := gu_e h
          obtain ⟨x51, hx51, h⟩ := lt_e h
          refine WP_region ?_
          refine WL_v rfl (VS_move rfl) ?_
          refine WL_v rfl (VS_index0 (m := (Int.toNat x40)) rfl rfl (inb_e hg50).1 (inb_e hg50).2) ?_
          refine WL_x0 (RX_st (M := LB) (Pth.idx (L := LB) (m := 32) (k := 1) ((Int.toNat x40)) (inb_e hg50).2 rfl) true x51 hx51 rfl rfl rfl rfl) (fun _ _ => ?_)
          refine WL_nil ?_
          refine WQ_then ?_
          refine WP_region ?_
          refine WL_v rfl (VS_assign rfl) ?_
          refine WL_nil ?_
          refine WQ_block ?_
          refine WQ_then ?_
          refine WP_region ?_
          refine WL_v rfl (VS_move rfl) ?_
          refine WL_v rfl (VS_add rfl rfl rfl) ?_
          refine WL_v rfl (VS_assign rfl) ?_
          refine WL_nil ?_
          exact WQ_loops (m43, true, wr .i64 (x40 + 1), x51) (Nat.lt_succ_self _) h (Sub_cons rfl (Sub_cons rfl (Sub_nil))) (.cons rfl (.cons rfl (.cons rfl (.nil)))) (ks := [0, 1, 2]) rfl (by decide)
        ·
          replace h := cn_f hc h
          refine WP_skip ?_
          refine WQ_block ?_
          refine WQ_then ?_
          refine WP_region ?_
          refine WL_v rfl (VS_move rfl) ?_
          refine WL_v rfl (VS_add rfl rfl rfl) ?_
          refine WL_v rfl (VS_assign rfl) ?_
          refine WL_nil ?_
          exact WQ_loops (m43, x39, wr .i64 (x40 + 1), x41) (Nat.lt_succ_self _) h (Sub_cons rfl (Sub_cons rfl (Sub_nil))) (.cons rfl (.cons rfl (.cons rfl (.nil)))) (ks := [0, 1, 2]) rfl (by decide)
      ·
        replace h := cn_f hc h
        refine WP_exit ?_
        refine WQ_then_exit ?_
        refine WQ_then_exit ?_
        refine WQ_block_exit ?_
        refine WQ_block ?_
        exact WQ_loops (m32, x39, x41) (Nat.lt_succ_self _) h (Sub_cons rfl (Sub_nil)) (.cons rfl (.cons rfl (.cons rfl (.nil)))) (ks := [0, 1, 2]) rfl (by decide)
    ·
      replace h := cn_f hc h
      refine WP_exit ?_
      refine WQ_then_exit ?_
      refine WQ_then_exit ?_
      refine WQ_block_exit ?_
      refine WQ_then ?_
      refine WP_seq ?_
      refine WP_region ?_
      refine WL_v rfl (VS_assign rfl) ?_
      refine WL_nil ?_
      refine WQ_then ?_
      refine WP_seq ?_
      refine WP_region ?_
      refine WL_v rfl (VS_lda (M := L_ref09_Tokens) (Pth.id (L := L_ref09_Tokens)) rfl rfl) ?_
      refine WL_x rfl (RX_allocL (L := L_ref09_Tokens) (z := Z_ref09_Tokens) ⟨by kernel_rfl⟩) (fun b12 _ => ?_)
      refine WL_x0 (RX_st (M := L_ref09_Tokens) (Pth.id (L := L_ref09_Tokens)) a0 a0 rfl rfl rfl rfl rfl) (fun _ _ => ?_)
      refine WL_nil ?_
      refine WQ_then ?_
      refine WP_seq ?_
      refine WP_seq ?_
      refine WP_region ?_
      refine WL_v rfl (VS_assign rfl) ?_
      refine WL_nil ?_
      refine WQ_then ?_
      refine WP_block ?_
      refine WP_rowN 3 1 (LI .i64) ?_
      obtain ⟨lb64, hlb64, h⟩ := lp3_i h
      refine WP_loops (α := Nat × (List Int) × Int × ref09_Tokens × Value) [2, 4, 7, 12] (.cons rfl (.cons rfl (.cons rfl (.cons rfl (.nil))))) (fun (m65, x59, x62, x63, v60) => [(11, v60), (13, .int .i64 x62)]) (fun (m65, x59, x62, x63, v60) => [Row v60 3 1 (LI .i64) x59, .cells b12 171 (L_ref09_Tokens.enc x63), .cells b7 221 ((LA LB 32).enc x30), .cells b4 171 (L_ref09_Tokens.enc Z_ref09_Tokens), .cells b2 171 (L_ref09_Tokens.enc a0)]) (fun (m65, x59, x62, x63, v60) => SlN v60 x59.length ∧ loop3 lb64 m65 x59 x62 x63 = some r) (fun (m65, x59, x62, x63, v60) => m65) (n, [], 0, a0, .slice none 0 0) ⟨⟨_, _, rfl⟩, h⟩ (Sub_cons rfl (Sub_cons rfl (Sub_nil))) (ks := [0, 1, 2, 3, 4]) rfl (by decide) ?_
      rintro ⟨m65, x59, x62, x63, v60⟩ ⟨hs61, h⟩
      replace h : loop3 lb64 m65 x59 x62 x63 = some r := h
      replace h := lp3_s hlb64 h
      obtain ⟨m65, rfl, h⟩ := h
      refine WP_seq ?_
      refine WP_seq ?_
      refine WP_region ?_
      refine WL_v rfl (VS_move rfl) ?_
      refine WL_v rfl (VS_lss rfl rfl) ?_
      refine WL_nil ?_
      refine WQ_then ?_
      refine WP_if rfl (fun hc => ?_) (fun hc => ?_)
      ·
        replace h := cn_t hc h
        refine WP_skip ?_
        refine WQ_then ?_
        refine WP_seq ?_
        refine WP_block ?_
        refine WP_seq ?_
        obtain ⟨hg67, h⟩ := gu_e h
        refine WP_region ?_
        refine WL_v rfl (VS_move rfl) ?_
        refine WL_v rfl (VS_index0 (m := (Int.toNat x62)) rfl rfl (inb_e hg67).1 (inb_e hg67).2) ?_
        refine WL_v rfl (VS_ldb (Pth.idx (L := LB) (m := 32) (k := 1) ((Int.toNat x62)) (inb_e hg67).2 rfl) rfl) ?_
        refine WL_nil ?_
        refine WQ_then ?_
        refine WP_if rfl (fun hc => ?_) (fun hc => ?_)
        ·
          replace h := cn_t hc h
          refine WP_seq ?_
          obtain ⟨x68, hx68, h⟩ := bd_e h
          obtain ⟨hg69, h⟩ := gu_e h
          obtain ⟨x70, hx70, h⟩ := lt_e h
          refine WP_region ?_
          refine WL_v rfl (VS_move rfl) ?_
          refine WL_v rfl (VS_field0 rfl) ?_
          refine WL_v rfl (VS_lda (M := L_ref03_Book) P_ref09_Tokens_B rfl rfl) ?_
          refine WL_v rfl (VS_move rfl) ?_
          refine WL_v rfl (VS_call (c_ref03_Book_Of hx68) rfl (fun _ _ _ => trivial)) ?_
          refine WL_x rfl (RX_bs1 (LI .i64) x68 rfl rfl rfl rfl (by decide) (by decide)) (fun b74 _ => ?_)
          refine WL_x rfl (RX_app1 (sz := 1) (L := (LI .i64)) (xs := x59) (y := x68) (bytes := 8) rfl rfl rfl (apok_e hg69).1 (apok_e hg69).2) (fun v71 hs72 => ?_)
          rw [← hx70] at hs72; rw [← hx70]
          refine WL_v rfl (VS_assign rfl) ?_
          refine WL_nil ?_
          refine WQ_then ?_
          obtain ⟨x73, hx73, h⟩ := bd_e h
          obtain ⟨x74, hx74, h⟩ := bd_e h
          obtain ⟨x75, hx75, h⟩ := lt_e h
          refine WP_draw mixed (.stg [] [(0, [12]), (1, [77]), (2, [2]), (3, [79]), (4, [13]), (5, [80, 81]), (6, [78, 82]), (7, [83]), (8, [76]), (9, [76]), (10, [12])] (.alt 11 [84, 86] (.fin [(9, [76])] []) .no)) (by kernel_rfl) ?_
          refine Stg_stg ?_ ?_
          · exact ReOk_nil
          refine NewOk_cons rfl rfl (VG_v rfl (VS_field0 rfl)) ?_
          refine NewOk_cons rfl rfl (VG_v rfl (VS_lda (M := L_ref03_Book) P_ref09_Tokens_B rfl rfl)) ?_
          refine NewOk_cons rfl rfl (VG_v rfl (VS_field0 rfl)) ?_
          refine NewOk_cons rfl rfl (VG_v rfl (VS_lda (M := L_ref03_Book) P_ref09_Tokens_B rfl rfl)) ?_
          refine NewOk_cons rfl rfl (VG_v rfl (VS_move rfl)) ?_
          refine NewOk_cons rfl rfl (VG_v rfl (VS_call (c_ref03_Book_Of hx73) rfl (fun _ _ _ => trivial))) ?_
          refine NewOk_cons rfl rfl (VG_v rfl (VS_call (c_ref03_Book_Void hx74) rfl (fun _ _ _ => trivial))) ?_
          refine NewOk_cons rfl rfl (VG_v rfl (VS_move rfl)) ?_
          refine NewOk_cons rfl rfl (VG_v rfl (VS_extract rfl rfl)) ?_
          refine NewOk_cons rfl rfl (VG_v rfl (VS_extract rfl rfl)) ?_
          refine NewOk_cons rfl rfl (VG_v rfl (VS_field0 rfl)) ?_
          refine NewOk_nil ?_
          refine Stg_none rfl (RG_x rfl (RX_st (M := L_ref03_Book) P_ref09_Tokens_B x74.1 x75 hx75 rfl rfl rfl rfl)) (fun _ _ => ?_) Stg_no
          refine Stg_fin ?_ ?_
          ·
            refine ReOk_cons rfl rfl (VG_v rfl (VS_val (VS_extract rfl rfl) rfl)) ?_
            exact ReOk_nil
          refine NewOk_nil ?_
          refine WQ_block ?_
          refine WQ_then ?_
          refine WP_region ?_
          refine WL_v rfl (VS_move rfl) ?_
          refine WL_v rfl (VS_add rfl rfl rfl) ?_
          refine WL_v rfl (VS_assign rfl) ?_
          refine WL_nil ?_
          exact WQ_loops (m65, x70, wr .i64 (x62 + 1), x75, v71) (Nat.lt_succ_self _) ⟨hs72, h⟩ (Sub_cons rfl (Sub_cons rfl (Sub_nil))) (.cons rfl (.cons rfl (.cons rfl (.cons rfl (.nil))))) (ks := [1, 2, 3, 4, 5]) rfl (by decide)
        ·
          replace h := cn_f hc h
          refine WP_skip ?_
          refine WQ_block ?_
          refine WQ_then ?_
          refine WP_region ?_
          refine WL_v rfl (VS_move rfl) ?_
          refine WL_v rfl (VS_add rfl rfl rfl) ?_
          refine WL_v rfl (VS_assign rfl) ?_
          refine WL_nil ?_
          exact WQ_loops (m65, x59, wr .i64 (x62 + 1), x63, v60) (Nat.lt_succ_self _) ⟨hs61, h⟩ (Sub_cons rfl (Sub_cons rfl (Sub_nil))) (.cons rfl (.cons rfl (.cons rfl (.cons rfl (.nil))))) (ks := [0, 1, 2, 3, 4]) rfl (by decide)
      ·
        replace h := cn_f hc h
        refine WP_exit ?_
        refine WQ_then_exit ?_
        refine WQ_then_exit ?_
        refine WQ_block_exit ?_
        refine WQ_then ?_
        refine WP_seq ?_
        refine WP_region ?_
        refine WL_v rfl (VS_lda (M := L_ref09_Tokens) (Pth.id (L := L_ref09_Tokens)) rfl rfl) ?_
        refine WL_v rfl (VS_move rfl) ?_
        refine WL_x0 (RX_st (M := L_ref09_Tokens) (Pth.id (L := L_ref09_Tokens)) x63 x63 rfl rfl rfl rfl rfl) (fun _ _ => ?_)
        refine WL_v rfl (VS_assign rfl) ?_
        refine WL_v rfl (VS_assign rfl) ?_
        refine WL_nil ?_
        refine WQ_then ?_
        refine WP_ret ?_
        replace h := Option.some.inj h
        subst h
        refine WQ_bundle (R := [Row v60 3 1 (LI .i64) x59]) (H' := [.cells b4 171 (L_ref09_Tokens.enc x63)]) (ks := [0, 3]) rfl (by decide) ?_
        have p76 : Fz (Hs [.ext (blks [Row v60 3 1 (LI .i64) x59]) (Hs [Row v60 3 1 (LI .i64) x59])]) v60 (LI .i64) x59 := (Fz.row (e := 3) (sz := 1) (L := (LI .i64)) (xs := x59) rfl hs61).mono ent
        exact WQ_ret (.tuple #[.agg (L_ref09_Tokens.enc x63).toArray, v60, .int .i64 0], blks [Row v60 3 1 (LI .i64) x59], Hs [Row v60 3 1 (LI .i64) x59]) rfl (.agg rfl inferInstance inferInstance (enc_len _ _) (.tmp rfl (.tmp rfl .nil))) ⟨_, rfl, p76⟩ rfl (ks := [0]) rfl (by decide)
structure token_Token where
  Region : Int
  By : Int
  To : Int
  Mutable : Bool
  Above : Int
abbrev L_token_Token : Lay token_Token := Lay.via (LP (LI .u32) (LP (LI .u8) (LP (LI .u8) (LP LB (LI .u32))))) (fun x => (x.Region, x.By, x.To, x.Mutable, x.Above))
abbrev Z_token_Token : token_Token := ⟨0, 0, 0, false, 0⟩
instance : Inhabited token_Token := ⟨Z_token_Token⟩
theorem P_token_Token_Region : Pth L_token_Token (LI .u32) 0 (fun x => x.Region) (fun x v => { x with Region := v }) := (Pth.fst Pth.id).via _ _ _ 0 rfl (fun _ => rfl) (fun _ _ => rfl)
theorem P_token_Token_By : Pth L_token_Token (LI .u8) 1 (fun x => x.By) (fun x v => { x with By := v }) := (Pth.snd (Pth.fst Pth.id)).via _ _ _ 1 rfl (fun _ => rfl) (fun _ _ => rfl)
theorem P_token_Token_To : Pth L_token_Token (LI .u8) 2 (fun x => x.To) (fun x v => { x with To := v }) := (Pth.snd (Pth.snd (Pth.fst Pth.id))).via _ _ _ 2 rfl (fun _ => rfl) (fun _ _ => rfl)
theorem P_token_Token_Mutable : Pth L_token_Token LB 3 (fun x => x.Mutable) (fun x v => { x with Mutable := v }) := (Pth.snd (Pth.snd (Pth.snd (Pth.fst Pth.id)))).via _ _ _ 3 rfl (fun _ => rfl) (fun _ _ => rfl)
theorem P_token_Token_Above : Pth L_token_Token (LI .u32) 4 (fun x => x.Above) (fun x v => { x with Above := v }) := (Pth.snd (Pth.snd (Pth.snd (Pth.snd Pth.id)))).via _ _ _ 4 rfl (fun _ => rfl) (fun _ _ => rfl)
def EQ_token_Token (x y : token_Token) : Bool := x.Region == y.Region && x.By == y.By && x.To == y.To && x.Mutable == y.Mutable && x.Above == y.Above
theorem EQv_token_Token (x y : token_Token) : Value.bool (eqAt [(0, some .u32), (1, some .u8), (2, some .u8), (3, none), (4, some .u32)] (L_token_Token.enc x) (L_token_Token.enc y)) = .bool (EQ_token_Token x y) := congrArg Value.bool (by show ((x.Region == y.Region) && ((x.By == y.By) && ((x.To == y.To) && ((x.Mutable == y.Mutable) && ((x.Above == y.Above) && true))))) = (x.Region == y.Region && x.By == y.By && x.To == y.To && x.Mutable == y.Mutable && x.Above == y.Above); simp [Bool.and_assoc])
theorem EQvn_token_Token (x y : token_Token) : Value.bool (!(eqAt [(0, some .u32), (1, some .u8), (2, some .u8), (3, none), (4, some .u32)] (L_token_Token.enc x) (L_token_Token.enc y))) = .bool (!(EQ_token_Token x y)) := congrArg (fun v => match v with | Value.bool b => Value.bool (!b) | v => v) (EQv_token_Token x y)
structure token_Tokens where
  book : handle_Book
  slots : (Nat → token_Token)
abbrev L_token_Tokens : Lay token_Tokens := Lay.via (LP L_handle_Book (LA L_token_Token 16)) (fun x => (x.book, x.slots))
abbrev Z_token_Tokens : token_Tokens := ⟨Z_handle_Book, (fun _ => Z_token_Token)⟩
instance : Inhabited token_Tokens := ⟨Z_token_Tokens⟩
theorem P_token_Tokens_book : Pth L_token_Tokens L_handle_Book 0 (fun x => x.book) (fun x v => { x with book := v }) := (Pth.fst Pth.id).via _ _ _ 0 rfl (fun _ => rfl) (fun _ _ => rfl)
theorem P_token_Tokens_slots : Pth L_token_Tokens (LA L_token_Token 16) 96 (fun x => x.slots) (fun x v => { x with slots := v }) := (Pth.snd Pth.id).via _ _ _ 96 rfl (fun _ => rfl) (fun _ _ => rfl)
def token_Tokens_Get (n : Nat) (a0 : token_Tokens) (a1 : Int) : Option (token_Token × Int) :=
  bd (handle_Book_Good n a0.book a1) fun x21 =>
  cn ((!x21)) (
  lt ({ Region := 0, By := 0, To := 0, Mutable := false, Above := 0 } : token_Token) fun x22 =>
  some (x22, 4)) (
  bd (handle_Handle_Slot n a1) fun x23 =>
  gu (inb x23.1 16) <|
  lt ((a0.slots (Int.toNat x23.1)) : token_Token) fun x25 =>
  some (x25, 0))
theorem c_token_Tokens_Get {n : Nat} {a0 : token_Tokens} {a1 : Int} {r : token_Token × Int}  (h : token_Tokens_Get n a0 a1 = some r) : FnV Try.prog 96 [.agg (L_token_Tokens.enc a0).toArray, .int .u32 a1] (.tuple #[.agg (L_token_Token.enc r.1).toArray, .int .i64 r.2]) := by
  unfold token_Tokens_Get at h
  refine fn_of Try.func96 (by kernel_rfl) rfl Try.ntmps96 rfl (fun cx hbs hpre hro => ?_)
  refine WP_seq ?_
  refine WP_region ?_
  refine WL_x rfl (RX_boxL L_token_Tokens a0 rfl rfl) (fun b2 _ => ?_)
  refine WL_x rfl (RX_allocL (L := L_token_Token) (z := Z_token_Token) ⟨by kernel_rfl⟩) (fun b4 _ => ?_)
  refine WL_v rfl (VS_assign rfl) ?_
  refine WL_nil ?_
  refine WQ_then ?_
  refine WP_seq ?_
  refine WP_seq ?_
  obtain ⟨x21, hx21, h⟩ := bd_e h
  refine WP_region ?_
  refine WL_v rfl (VS_field0 rfl) ?_
  refine WL_v rfl (VS_lda (M := L_handle_Book) P_token_Tokens_book rfl rfl) ?_
  refine WL_v rfl (VS_move rfl) ?_
  refine WL_v rfl (VS_call (c_handle_Book_Good hx21) rfl (fun _ _ _ => trivial)) ?_
  refine WL_v rfl (VS_not rfl) ?_
  refine WL_nil ?_
  refine WQ_then ?_
  refine WP_if rfl (fun hc => ?_) (fun hc => ?_)
  ·
    replace h := cn_t hc h
    refine WP_seq ?_
    obtain ⟨x22, hx22, h⟩ := lt_e h
    refine WP_region ?_
    refine WL_v rfl (VS_build (cs := L_token_Token.enc x22) rfl (by rw [hx22]; rfl)) ?_
    refine WL_x0 (RX_st (M := L_token_Token) (Pth.id (L := L_token_Token)) x22 x22 rfl rfl rfl rfl rfl) (fun _ _ => ?_)
    refine WL_v rfl (VS_assign rfl) ?_
    refine WL_nil ?_
    refine WQ_then ?_
    refine WP_ret ?_
    refine WQ_then_ret ?_
    replace h := Option.some.inj h
    subst h
    exact WQ_ret () rfl (.agg rfl inferInstance inferInstance (enc_len _ _) (.tmp rfl .nil)) trivial rfl (ks := []) rfl (by decide)
  ·
    replace h := cn_f hc h
    refine WP_skip ?_
    refine WQ_then ?_
    refine WP_seq ?_
    obtain ⟨x23, hx23, h⟩ := bd_e h
    refine WP_region ?_
    refine WL_v rfl (VS_move rfl) ?_
    refine WL_v rfl (VS_call (c_handle_Handle_Slot hx23) rfl (fun _ _ _ => trivial)) ?_
    refine WL_v rfl (VS_move rfl) ?_
    refine WL_v rfl (VS_extract rfl rfl) ?_
    refine WL_v rfl (VS_extract rfl rfl) ?_
    refine WL_v rfl (VS_assign rfl) ?_
    refine WL_v rfl (VS_assign rfl) ?_
    refine WL_nil ?_
    refine WQ_then ?_
    refine WP_seq ?_
    obtain ⟨hg24, h⟩ := gu_e h
    obtain ⟨x25, hx25, h⟩ := lt_e h
    refine WP_region ?_
    refine WL_v rfl (VS_move rfl) ?_
    refine WL_v rfl (VS_field0 rfl) ?_
    refine WL_v rfl (VS_index (m := (Int.toNat x23.1)) rfl rfl (inb_e hg24).1 (inb_e hg24).2) ?_
    refine WL_v rfl (VS_lda (M := L_token_Token) (P_token_Tokens_slots.comp (Pth.idx (L := L_token_Token) (m := 16) (k := 5) ((Int.toNat x23.1)) (inb_e hg24).2 rfl)) rfl rfl) ?_
    refine WL_x0 (RX_st (M := L_token_Token) (Pth.id (L := L_token_Token)) (a0.slots (Int.toNat x23.1)) x25 hx25 rfl rfl rfl rfl) (fun _ _ => ?_)
    refine WL_v rfl (VS_assign rfl) ?_
    refine WL_nil ?_
    refine WQ_then ?_
    refine WP_ret ?_
    replace h := Option.some.inj h
    subst h
    exact WQ_ret () rfl (.agg rfl inferInstance inferInstance (enc_len _ _) (.tmp rfl .nil)) trivial rfl (ks := []) rfl (by decide)
def token_Tokens_On_1 (n : Nat) (a0 : token_Token) (a1 : Int) : Option Bool :=
  some (a0.Region == a1)
theorem c_token_Tokens_On_1 {n : Nat} {a0 : token_Token} {a1 : Int} {r : Bool} {q1 : Nat} (h : token_Tokens_On_1 n a0 a1 = some r) : Bw.Fn (α := Unit) Try.prog 132 [.agg (L_token_Token.enc a0).toArray, Ptr q1 0] (Fut (blks [.cells q1 26 ((LI .u32).enc a1)]) (fun _ => True)) [.cells q1 26 ((LI .u32).enc a1)] (fun _ => True) (fun _ => (.bool r)) (fun _ => [.cells q1 26 ((LI .u32).enc a1)]) := by
  unfold token_Tokens_On_1 at h
  refine fn_of Try.func132 (by kernel_rfl) rfl Try.ntmps132 rfl (fun cx hbs hpre hro => ?_)
  refine WP_seq ?_
  refine WP_region ?_
  refine WL_x rfl (RX_boxL L_token_Token a0 rfl rfl) (fun b2 _ => ?_)
  refine WL_v rfl (VS_assign rfl) ?_
  refine WL_nil ?_
  refine WQ_then ?_
  refine WP_seq ?_
  refine WP_region ?_
  refine WL_v rfl (VS_field0 rfl) ?_
  refine WL_v rfl (VS_ldi P_token_Token_Region rfl) ?_
  refine WL_v rfl (VS_ldi (Pth.id (L := (LI .u32))) rfl) ?_
  refine WL_v rfl (VS_eql rfl rfl) ?_
  refine WL_v rfl (VS_assign rfl) ?_
  refine WL_nil ?_
  refine WQ_then ?_
  refine WP_ret ?_
  replace h := Option.some.inj h
  subst h
  exact WQ_ret () rfl (.tmp rfl .nil) trivial rfl (ks := [1]) rfl (by decide)
def token_Tokens_those__token_Tokens_On_1 (n : Nat) (a0 : token_Tokens) (a1_0 : Int) : Option (List Int) :=
  bd (handle_Book_Issued n a0.book) fun x21 =>
  loop2 (fun k40 (x34 : (List Int)) (x37 : Int) =>
  cn (decide (x37 < (x21.length : Int))) (
  gu (inb x37 x21.length) <|
  bd (token_Tokens_Get n a0 (x21.getD (Int.toNat x37) default)) fun x42 =>
  bd (token_Tokens_On_1 n x42.1 a1_0) fun x43 =>
  cn (x43) (
  gu (apok x34.length 1 4) <|
  lt (x34 ++ ([(x21.getD (Int.toNat x37) default)]) : List Int) fun x45 =>
  k40 x45 (wr .i64 (x37 + 1))) (
  k40 x34 (wr .i64 (x37 + 1)))) (
  some x34)) n ([]) 0
theorem c_token_Tokens_those__token_Tokens_On_1 {n : Nat} {a0 : token_Tokens} {a1_0 : Int} {r : (List Int)} {q1_0 : Nat} (h : token_Tokens_those__token_Tokens_On_1 n a0 a1_0 = some r) : FnC Try.prog 126 [.agg (L_token_Tokens.enc a0).toArray, .func (.func 132) #[] #[Ptr q1_0 0]] (fun _ => True) [.cells q1_0 26 ((LI .u32).enc a1_0)] (fun J v ho => ∃ u0, v = (u0) ∧ ho = [.cells q1_0 26 ((LI .u32).enc a1_0)] ∧ Fz J u0 (LI .u32) (r)) := by
  unfold token_Tokens_those__token_Tokens_On_1 at h
  refine fn_of Try.func126 (by kernel_rfl) rfl Try.ntmps126 rfl (fun cx hbs hpre hro => ?_)
  refine WP_seq ?_
  refine WP_region ?_
  refine WL_x rfl (RX_boxL L_token_Tokens a0 rfl rfl) (fun b2 _ => ?_)
  refine WL_v rfl (VS_assign rfl) ?_
  refine WL_nil ?_
  refine WQ_then ?_
  refine WP_seq ?_
  refine WP_region ?_
  refine WL_v rfl (VS_assign rfl) ?_
  refine WL_nil ?_
  refine WQ_then ?_
  refine WP_seq ?_
  refine WP_seq ?_
  obtain ⟨x21, hx21, h⟩ := bd_e h
  refine WP_region ?_
  refine WL_v rfl (VS_field0 rfl) ?_
  refine WL_v rfl (VS_lda (M := L_handle_Book) P_token_Tokens_book rfl rfl) ?_
  refine WL_x rfl (RX_callB (c_handle_Book_Issued hx21) rfl) (fun ⟨w22, bs23, J24⟩ hp25 => ?_)
  have f26 : Fz (Hs [.ext bs23 J24]) w22 (LI .u32) x21 := hp25
  refine WL_v rfl (VS_lenF f26 rfl) ?_
  refine WL_v rfl (VS_move rfl) ?_
  refine WL_nil ?_
  refine WQ_then ?_
  refine WP_block ?_
  refine WP_rowN 26 1 (LI .u32) ?_
  obtain ⟨lb38, hlb38, h⟩ := lp2_i h
  refine WP_loops (α := Nat × (List Int) × Int × Value) [1, 2, 12, 13] (.cons rfl (.cons rfl (.cons rfl (.cons rfl (.nil))))) (fun (m39, x34, x37, v35) => [(5, v35), (14, .int .i64 x37)]) (fun (m39, x34, x37, v35) => [Row v35 26 1 (LI .u32) x34, .ext bs23 J24, .cells b2 166 (L_token_Tokens.enc a0), .cells q1_0 26 ((LI .u32).enc a1_0)]) (fun (m39, x34, x37, v35) => SlN v35 x34.length ∧ loop2 lb38 m39 x34 x37 = some r) (fun (m39, x34, x37, v35) => m39) (n, [], 0, .slice none 0 0) ⟨⟨_, _, rfl⟩, h⟩ (Sub_cons rfl (Sub_cons rfl (Sub_nil))) (ks := [0, 1, 2, 3]) rfl (by decide) ?_
  rintro ⟨m39, x34, x37, v35⟩ ⟨hs36, h⟩
  replace h : loop2 lb38 m39 x34 x37 = some r := h
  replace h := lp2_s hlb38 h
  obtain ⟨m39, rfl, h⟩ := h
  refine WP_seq ?_
  refine WP_region ?_
  refine WL_v rfl (VS_lss rfl rfl) ?_
  refine WL_nil ?_
  refine WQ_then ?_
  refine WP_seq ?_
  refine WP_if rfl (fun hc => ?_) (fun hc => ?_)
  ·
    replace h := cn_t hc h
    refine WP_skip ?_
    refine WQ_then ?_
    refine WP_seq ?_
    refine WP_block ?_
    refine WP_seq ?_
    obtain ⟨hg41, h⟩ := gu_e h
    refine WP_region ?_
    refine WL_v rfl (VS_ixF (m := (Int.toNat x37)) f26 rfl rfl rfl (inb_e hg41).1 (inb_e hg41).2) ?_
    refine WL_v rfl (VS_ldiF f26 (Pth.idx (L := (LI .u32)) (m := (x21.length)) (k := 1) ((Int.toNat x37)) (inb_e hg41).2 rfl) rfl) ?_
    refine WL_v rfl (VS_assign rfl) ?_
    refine WL_nil ?_
    refine WQ_then ?_
    refine WP_seq ?_
    obtain ⟨x42, hx42, h⟩ := bd_e h
    refine WP_region ?_
    refine WL_v rfl (VS_lda (M := L_token_Tokens) (Pth.id (L := L_token_Tokens)) rfl rfl) ?_
    refine WL_v rfl (VS_move rfl) ?_
    refine WL_v rfl (VS_call (c_token_Tokens_Get hx42) rfl (fun _ _ _ => trivial)) ?_
    refine WL_v rfl (VS_move rfl) ?_
    refine WL_v rfl (VS_extract rfl rfl) ?_
    refine WL_v rfl (VS_extract rfl rfl) ?_
    refine WL_x rfl (RX_allocL (L := L_token_Token) (z := Z_token_Token) ⟨by kernel_rfl⟩) (fun b8 _ => ?_)
    refine WL_x0 (RX_st (M := L_token_Token) (Pth.id (L := L_token_Token)) x42.1 x42.1 rfl rfl rfl rfl rfl) (fun _ _ => ?_)
    refine WL_v rfl (VS_assign rfl) ?_
    refine WL_nil ?_
    refine WQ_then ?_
    refine WP_seq ?_
    obtain ⟨x43, hx43, h⟩ := bd_e h
    refine WP_region ?_
    refine WL_v rfl (VS_move rfl) ?_
    refine WL_v rfl (VS_lda (M := L_token_Token) (Pth.id (L := L_token_Token)) rfl rfl) ?_
    refine WL_x rfl (RX_callH (K := (fun _ => True)) (Hin := [.cells q1_0 26 ((LI .u32).enc a1_0)]) (rest := [.cells b8 163 (L_token_Token.enc x42.1), Row v35 26 1 (LI .u32) x34, .ext bs23 J24, .cells b2 166 (L_token_Tokens.enc a0)]) (ks := [4, 0, 1, 2, 3]) (c_token_Tokens_On_1 hx43) rfl rfl rfl rfl (by decide)) (fun _ _ => ?_)
    dsimp only [List.cons_append, List.nil_append]
    refine WL_nil ?_
    refine WQ_then ?_
    refine WP_if rfl (fun hc => ?_) (fun hc => ?_)
    ·
      replace h := cn_t hc h
      obtain ⟨hg44, h⟩ := gu_e h
      obtain ⟨x45, hx45, h⟩ := lt_e h
      refine WP_region ?_
      refine WL_v rfl (VS_move rfl) ?_
      refine WL_v rfl (VS_move rfl) ?_
      refine WL_x rfl (RX_bs1 (LI .u32) (x21.getD (Int.toNat x37) default) rfl rfl rfl rfl (by decide) (by decide)) (fun b29 _ => ?_)
      refine WL_x rfl (RX_app1 (sz := 1) (L := (LI .u32)) (xs := x34) (y := (x21.getD (Int.toNat x37) default)) (bytes := 4) rfl rfl rfl (apok_e hg44).1 (apok_e hg44).2) (fun v46 hs47 => ?_)
      rw [← hx45] at hs47; rw [← hx45]
      refine WL_v rfl (VS_assign rfl) ?_
      refine WL_nil ?_
      refine WQ_block ?_
      refine WQ_then ?_
      refine WP_region ?_
      refine WL_v rfl (VS_add rfl rfl rfl) ?_
      refine WL_v rfl (VS_move rfl) ?_
      refine WL_nil ?_
      exact WQ_loops (m39, x45, wr .i64 (x37 + 1), v46) (Nat.lt_succ_self _) ⟨hs47, h⟩ (Sub_cons rfl (Sub_cons rfl (Sub_nil))) (.cons rfl (.cons rfl (.cons rfl (.cons rfl (.nil))))) (ks := [3, 4, 5, 1]) rfl (by decide)
    ·
      replace h := cn_f hc h
      refine WP_skip ?_
      refine WQ_block ?_
      refine WQ_then ?_
      refine WP_region ?_
      refine WL_v rfl (VS_add rfl rfl rfl) ?_
      refine WL_v rfl (VS_move rfl) ?_
      refine WL_nil ?_
      exact WQ_loops (m39, x34, wr .i64 (x37 + 1), v35) (Nat.lt_succ_self _) ⟨hs36, h⟩ (Sub_cons rfl (Sub_cons rfl (Sub_nil))) (.cons rfl (.cons rfl (.cons rfl (.cons rfl (.nil))))) (ks := [2, 3, 4, 0]) rfl (by decide)
  ·
    replace h := cn_f hc h
    refine WP_exit ?_
    refine WQ_then_exit ?_
    refine WQ_then_exit ?_
    refine WQ_block_exit ?_
    refine WQ_then ?_
    refine WP_seq ?_
    refine WP_region ?_
    refine WL_v rfl (VS_move rfl) ?_
    refine WL_v rfl (VS_assign rfl) ?_
    refine WL_nil ?_
    refine WQ_then ?_
    refine WP_ret ?_
    replace h := Option.some.inj h
    subst h
    refine WQ_bundle (R := [Row v35 26 1 (LI .u32) x34]) (H' := [.cells q1_0 26 ((LI .u32).enc a1_0)]) (ks := [0, 3]) rfl (by decide) ?_
    have p48 : Fz (Hs [.ext (blks [Row v35 26 1 (LI .u32) x34]) (Hs [Row v35 26 1 (LI .u32) x34])]) v35 (LI .u32) x34 := (Fz.row (e := 26) (sz := 1) (L := (LI .u32)) (xs := x34) rfl hs36).mono ent
    exact WQ_ret (v35, [.cells q1_0 26 ((LI .u32).enc a1_0)], blks [Row v35 26 1 (LI .u32) x34], Hs [Row v35 26 1 (LI .u32) x34]) rfl (.tmp rfl .nil) ⟨_, rfl, rfl, p48⟩ rfl (ks := [0, 1]) rfl (by decide)
def token_Tokens_On (n : Nat) (a0 : token_Tokens) (a1 : Int) : Option (List Int) :=
  bd (token_Tokens_those__token_Tokens_On_1 n a0 a1) fun x21 =>
  some x21
theorem c_token_Tokens_On {n : Nat} {a0 : token_Tokens} {a1 : Int} {r : (List Int)}  (h : token_Tokens_On n a0 a1 = some r) : FnB Try.prog 90 [.agg (L_token_Tokens.enc a0).toArray, .int .u32 a1] (fun _ => True) (fun J v => Fz J v (LI .u32) r) := by
  unfold token_Tokens_On at h
  refine fn_of Try.func90 (by kernel_rfl) rfl Try.ntmps90 rfl (fun cx hbs hpre hro => ?_)
  refine WP_seq ?_
  refine WP_region ?_
  refine WL_x rfl (RX_boxL L_token_Tokens a0 rfl rfl) (fun b2 _ => ?_)
  refine WL_x rfl (RX_boxL (LI .u32) a1 rfl rfl) (fun b3 _ => ?_)
  refine WL_v rfl (VS_assign rfl) ?_
  refine WL_nil ?_
  refine WQ_then ?_
  refine WP_seq ?_
  obtain ⟨x21, hx21, h⟩ := bd_e h
  refine WP_region ?_
  refine WL_v rfl (VS_lda (M := L_token_Tokens) (Pth.id (L := L_token_Tokens)) rfl rfl) ?_
  refine WL_v rfl (VS_makeFunc rfl) ?_
  refine WL_x rfl (RX_callH (K := (fun _ => True)) (Hin := [.cells b3 26 ((LI .u32).enc a1)]) (rest := [.cells b2 166 (L_token_Tokens.enc a0)]) (ks := [0, 1]) (c_token_Tokens_those__token_Tokens_On_1 hx21) rfl rfl rfl rfl (by decide)) (fun ⟨w22, ho28, bs23, J24⟩ hp25 => ?_)
  obtain ⟨v27, rfl, rfl, f26⟩ := hp25
  replace f26 : Fz (Hs [.ext bs23 J24]) w22 (LI .u32) x21 := f26
  dsimp only [List.cons_append, List.nil_append]
  refine WL_v rfl (VS_assign rfl) ?_
  refine WL_nil ?_
  refine WQ_then ?_
  refine WP_ret ?_
  replace h := Option.some.inj h
  subst h
  refine WQ_bundle (R := [.ext bs23 J24]) (H' := []) (ks := [0]) rfl (by decide) ?_
  have p29 : Fz (Hs [.ext (blks [.ext bs23 J24]) (Hs [.ext bs23 J24])]) w22 (LI .u32) x21 := f26.mono ent
  exact WQ_ret (w22, blks [.ext bs23 J24], Hs [.ext bs23 J24]) rfl (.tmp rfl .nil) p29 rfl (ks := [0]) rfl (by decide)
def token_Tokens_without (n : Nat) (a0 : token_Tokens) (a1 : (List Int)) : Option token_Tokens :=
  loop2 (fun k28 (x24 : Int) (x25 : token_Tokens) =>
  cn (decide (x24 < (a1.length : Int))) (
  gu (inb x24 a1.length) <|
  bd (handle_Book_Void n x25.book (a1.getD (Int.toNat x24) default)) fun x30 =>
  lt ({ x25 with book := x30.1 } : token_Tokens) fun x31 =>
  k28 (wr .i64 (x24 + 1)) x31) (
  some x25)) n 0 a0
theorem c_token_Tokens_without {n : Nat} {a0 : token_Tokens} {a1 : (List Int)} {r : token_Tokens} {K : World → Prop} [Stable K] {v1 : Value} (f1 : Fz K v1 (LI .u32) a1) (h : token_Tokens_without n a0 a1 = some r) : FnW Try.prog 128 [.agg (L_token_Tokens.enc a0).toArray, v1] K (.agg (L_token_Tokens.enc r).toArray) := by
  unfold token_Tokens_without at h
  refine fn_of Try.func128 (by kernel_rfl) rfl Try.ntmps128 rfl (fun cx hbs hpre hro => ?_)
  haveI := knf_pre hbs hpre
  refine WP_seq ?_
  refine WP_region ?_
  refine WL_x rfl (RX_boxL L_token_Tokens a0 rfl rfl) (fun b2 _ => ?_)
  refine WL_x rfl (RX_allocL (L := L_token_Tokens) (z := Z_token_Tokens) ⟨by kernel_rfl⟩) (fun b4 _ => ?_)
  refine WL_nil ?_
  refine WQ_then ?_
  refine WP_seq ?_
  refine WP_seq ?_
  refine WP_region ?_
  refine WL_v rfl (VS_move rfl) ?_
  refine WL_v rfl (VS_lenF f1 rfl) ?_
  refine WL_v rfl (VS_move rfl) ?_
  refine WL_nil ?_
  refine WQ_then ?_
  refine WP_block ?_
  obtain ⟨lb26, hlb26, h⟩ := lp2_i h
  refine WP_loops (α := Nat × Int × token_Tokens) [2, 4, 7, 8] (.cons rfl (.cons rfl (.cons rfl (.cons rfl (.nil))))) (fun (m27, x24, x25) => [(9, .int .i64 x24)]) (fun (m27, x24, x25) => [.cells b4 166 (L_token_Tokens.enc Z_token_Tokens), .cells b2 166 (L_token_Tokens.enc x25)]) (fun (m27, x24, x25) => loop2 lb26 m27 x24 x25 = some r) (fun (m27, x24, x25) => m27) (n, 0, a0) h (Sub_cons rfl (Sub_nil)) (ks := [0, 1]) rfl (by decide) ?_
  rintro ⟨m27, x24, x25⟩ h
  replace h : loop2 lb26 m27 x24 x25 = some r := h
  replace h := lp2_s hlb26 h
  obtain ⟨m27, rfl, h⟩ := h
  refine WP_seq ?_
  refine WP_region ?_
  refine WL_v rfl (VS_lss rfl rfl) ?_
  refine WL_nil ?_
  refine WQ_then ?_
  refine WP_seq ?_
  refine WP_if rfl (fun hc => ?_) (fun hc => ?_)
  ·
    replace h := cn_t hc h
    refine WP_skip ?_
    refine WQ_then ?_
    refine WP_seq ?_
    refine WP_block ?_
    refine WP_seq ?_
    obtain ⟨hg29, h⟩ := gu_e h
    refine WP_region ?_
    refine WL_v rfl (VS_ixF (m := (Int.toNat x24)) f1 rfl rfl rfl (inb_e hg29).1 (inb_e hg29).2) ?_
    refine WL_v rfl (VS_ldiF f1 (Pth.idx (L := (LI .u32)) (m := (a1.length)) (k := 1) ((Int.toNat x24)) (inb_e hg29).2 rfl) rfl) ?_
    refine WL_v rfl (VS_assign rfl) ?_
    refine WL_nil ?_
    refine WQ_then ?_
    obtain ⟨x30, hx30, h⟩ := bd_e h
    obtain ⟨x31, hx31, h⟩ := lt_e h
    refine WP_region ?_
    refine WL_v rfl (VS_field0 rfl) ?_
    refine WL_v rfl (VS_lda (M := L_handle_Book) P_token_Tokens_book rfl rfl) ?_
    refine WL_v rfl (VS_move rfl) ?_
    refine WL_v rfl (VS_call (c_handle_Book_Void hx30) rfl (fun _ _ _ => trivial)) ?_
    refine WL_v rfl (VS_move rfl) ?_
    refine WL_v rfl (VS_extract rfl rfl) ?_
    refine WL_v rfl (VS_extract rfl rfl) ?_
    refine WL_v rfl (VS_field0 rfl) ?_
    refine WL_x0 (RX_st (M := L_handle_Book) P_token_Tokens_book x30.1 x31 hx31 rfl rfl rfl rfl) (fun _ _ => ?_)
    refine WL_nil ?_
    refine WQ_block ?_
    refine WQ_then ?_
    refine WP_region ?_
    refine WL_v rfl (VS_add rfl rfl rfl) ?_
    refine WL_v rfl (VS_move rfl) ?_
    refine WL_nil ?_
    exact WQ_loops (m27, wr .i64 (x24 + 1), x31) (Nat.lt_succ_self _) h (Sub_cons rfl (Sub_nil)) (.cons rfl (.cons rfl (.cons rfl (.cons rfl (.nil))))) (ks := [0, 1]) rfl (by decide)
  ·
    replace h := cn_f hc h
    refine WP_exit ?_
    refine WQ_then_exit ?_
    refine WQ_then_exit ?_
    refine WQ_block_exit ?_
    refine WQ_then ?_
    refine WP_seq ?_
    refine WP_region ?_
    refine WL_v rfl (VS_lda (M := L_token_Tokens) (Pth.id (L := L_token_Tokens)) rfl rfl) ?_
    refine WL_x0 (RX_st (M := L_token_Tokens) (Pth.id (L := L_token_Tokens)) x25 x25 rfl rfl rfl rfl rfl) (fun _ _ => ?_)
    refine WL_nil ?_
    refine WQ_then ?_
    refine WP_ret ?_
    replace h := Option.some.inj h
    subst h
    exact WQ_ret () rfl (.agg rfl inferInstance inferInstance (enc_len _ _) .nil) trivial rfl (ks := []) rfl (by decide)
def token_Tokens_Clear (n : Nat) (a0 : token_Tokens) (a1 : Int) : Option token_Tokens :=
  bd (token_Tokens_On n a0 a1) fun x21 =>
  bd (token_Tokens_without n a0 x21) fun x28 =>
  some x28
theorem c_token_Tokens_Clear {n : Nat} {a0 : token_Tokens} {a1 : Int} {r : token_Tokens}  (h : token_Tokens_Clear n a0 a1 = some r) : FnV Try.prog 83 [.agg (L_token_Tokens.enc a0).toArray, .int .u32 a1] (.agg (L_token_Tokens.enc r).toArray) := by
  unfold token_Tokens_Clear at h
  refine fn_of Try.func83 (by kernel_rfl) rfl Try.ntmps83 rfl (fun cx hbs hpre hro => ?_)
  refine WP_seq ?_
  refine WP_region ?_
  refine WL_x rfl (RX_boxL L_token_Tokens a0 rfl rfl) (fun b2 _ => ?_)
  refine WL_x rfl (RX_allocL (L := L_token_Tokens) (z := Z_token_Tokens) ⟨by kernel_rfl⟩) (fun b4 _ => ?_)
  refine WL_nil ?_
  refine WQ_then ?_
  refine WP_seq ?_
  obtain ⟨x21, hx21, h⟩ := bd_e h
  obtain ⟨x28, hx28, h⟩ := bd_e h
  refine WP_draw mixed (.stg [] [(0, [2]), (1, [2]), (2, [1])] (.alt 3 [6, 7] (.stg [(0, [2])] [(4, [5, 8])] (.alt 5 [4, 9] (.fin [] []) .no)) .no)) (by kernel_rfl) ?_
  refine Stg_stg ?_ ?_
  · exact ReOk_nil
  refine NewOk_cons rfl rfl (VG_v rfl (VS_lda (M := L_token_Tokens) (Pth.id (L := L_token_Tokens)) rfl rfl)) ?_
  refine NewOk_cons rfl rfl (VG_v rfl (VS_lda (M := L_token_Tokens) (Pth.id (L := L_token_Tokens)) rfl rfl)) ?_
  refine NewOk_cons rfl rfl (VG_v rfl (VS_move rfl)) ?_
  refine NewOk_nil ?_
  refine Stg_some rfl rfl (RG_x rfl (RX_callB (c_token_Tokens_On hx21) rfl)) (fun ⟨w22, bs23, J24⟩ hp25 => ?_) Stg_no
  have f26 : Fz (Hs [.ext bs23 J24]) w22 (LI .u32) x21 := hp25
  refine Stg_stg ?_ ?_
  ·
    refine ReOk_cons rfl rfl (VG_v rfl (VS_val (VS_lda (M := L_token_Tokens) (Pth.id (L := L_token_Tokens)) rfl rfl) rfl)) ?_
    exact ReOk_nil
  refine NewOk_cons rfl rfl (VG_v rfl (VS_call (c_token_Tokens_without (K := (Hs [.ext bs23 J24])) (f26.mono ent) hx28) rfl kn)) ?_
  refine NewOk_nil ?_
  refine Stg_none rfl (RG_x rfl (RX_st (M := L_token_Tokens) (Pth.id (L := L_token_Tokens)) x28 x28 rfl rfl rfl rfl rfl)) (fun _ _ => ?_) Stg_no
  refine Stg_fin ?_ ?_
  · exact ReOk_nil
  refine NewOk_nil ?_
  refine WQ_then ?_
  refine WP_ret ?_
  replace h := Option.some.inj h
  subst h
  exact WQ_ret () rfl (.agg rfl inferInstance inferInstance (enc_len _ _) .nil) trivial rfl (ks := []) rfl (by decide)
def token_Tokens_good (n : Nat) (a0 : token_Tokens) (a1 : Int) : Option Bool :=
  cl ((a1 == 0) == false) (handle_Book_Good n a0.book a1) default fun x21 =>
  some ((a1 == 0) || x21)
theorem c_token_Tokens_good {n : Nat} {a0 : token_Tokens} {a1 : Int} {r : Bool}  (h : token_Tokens_good n a0 a1 = some r) : FnV Try.prog 134 [.agg (L_token_Tokens.enc a0).toArray, .int .u32 a1] (.bool r) := by
  unfold token_Tokens_good at h
  refine fn_of Try.func134 (by kernel_rfl) rfl Try.ntmps134 rfl (fun cx hbs hpre hro => ?_)
  refine WP_seq ?_
  refine WP_region ?_
  refine WL_x rfl (RX_boxL L_token_Tokens a0 rfl rfl) (fun b2 _ => ?_)
  refine WL_v rfl (VS_assign rfl) ?_
  refine WL_nil ?_
  refine WQ_then ?_
  refine WP_seq ?_
  obtain ⟨x21, hx21, _, h⟩ := cl_e h
  refine WP_region ?_
  refine WL_v rfl (VS_move rfl) ?_
  refine WL_v rfl (VS_eql rfl rfl) ?_
  refine WL_v rfl (VS_move rfl) ?_
  refine WL_g (Gd_b rfl rfl) rfl (fun hb => VS_field0 rfl) ?_
  refine WL_g (Gd_b rfl rfl) rfl (fun hb => VS_lda (M := L_handle_Book) P_token_Tokens_book (gev rfl hb) rfl) ?_
  refine WL_g (Gd_b rfl rfl) rfl (fun hb => VS_move rfl) ?_
  refine WL_g (Gd_b rfl rfl) rfl (fun hb => VS_call (c_handle_Book_Good (hx21 hb)) (evs_cons (gev rfl hb) (evs_cons (gev rfl hb) rfl)) (fun _ _ _ => trivial)) ?_
  refine WL_v rfl (VS_or rfl rfl) ?_
  refine WL_v rfl (VS_assign rfl) ?_
  refine WL_nil ?_
  refine WQ_then ?_
  refine WP_ret ?_
  replace h := Option.some.inj h
  subst h
  exact WQ_ret () rfl (.tmp rfl .nil) trivial rfl (ks := []) rfl (by decide)
def token_Tokens_right_1 (n : Nat) (a0 : token_Token) (a1 : Int) (a2 : Int) (a3 : Bool) : Option (Bool × Bool) :=
  lt ((a3 || (((a0.Region == a1) && (a0.Above == a2)) && a0.Mutable)) : Bool) fun x21 =>
  some (((a0.Region == a1) && (a0.Above == a2)), x21)
theorem c_token_Tokens_right_1 {n : Nat} {a0 : token_Token} {a1 : Int} {a2 : Int} {a3 : Bool} {r : Bool × Bool} {q1 : Nat} {q2 : Nat} {q3 : Nat} (h : token_Tokens_right_1 n a0 a1 a2 a3 = some r) : Bw.Fn (α := Unit) Try.prog 142 [.agg (L_token_Token.enc a0).toArray, Ptr q1 0, Ptr q2 0, Ptr q3 0] (Fut (blks [.cells q1 26 ((LI .u32).enc a1), .cells q2 26 ((LI .u32).enc a2), .cells q3 4 (LB.enc a3)]) (fun _ => True)) [.cells q1 26 ((LI .u32).enc a1), .cells q2 26 ((LI .u32).enc a2), .cells q3 4 (LB.enc a3)] (fun _ => True) (fun _ => (.bool r.1)) (fun _ => [.cells q1 26 ((LI .u32).enc a1), .cells q2 26 ((LI .u32).enc a2), .cells q3 4 (LB.enc r.2)]) := by
  unfold token_Tokens_right_1 at h
  refine fn_of Try.func142 (by kernel_rfl) rfl Try.ntmps142 rfl (fun cx hbs hpre hro => ?_)
  refine WP_seq ?_
  refine WP_region ?_
  refine WL_x rfl (RX_boxL L_token_Token a0 rfl rfl) (fun b4 _ => ?_)
  refine WL_v rfl (VS_assign rfl) ?_
  refine WL_nil ?_
  refine WQ_then ?_
  refine WP_seq ?_
  refine WP_region ?_
  refine WL_v rfl (VS_field0 rfl) ?_
  refine WL_v rfl (VS_ldi P_token_Token_Region rfl) ?_
  refine WL_v rfl (VS_ldi (Pth.id (L := (LI .u32))) rfl) ?_
  refine WL_v rfl (VS_eql rfl rfl) ?_
  refine WL_v rfl (VS_move rfl) ?_
  refine WL_g (Gd_b rfl rfl) rfl (fun hb => VS_field0 rfl) ?_
  refine WL_g (Gd_b rfl rfl) rfl (fun hb => VS_ldi P_token_Token_Above (gev rfl hb)) ?_
  refine WL_g (Gd_b rfl rfl) rfl (fun hb => VS_ldi (Pth.id (L := (LI .u32))) rfl) ?_
  refine WL_g (Gd_b rfl rfl) rfl (fun hb => VS_eql (gev rfl hb) (gev rfl hb)) ?_
  refine WL_v rfl (VS_and rfl rfl) ?_
  refine WL_v rfl (VS_assign rfl) ?_
  refine WL_nil ?_
  refine WQ_then ?_
  refine WP_seq ?_
  obtain ⟨x21, hx21, h⟩ := lt_e h
  refine WP_region ?_
  refine WL_v rfl (VS_ldb (Pth.id (L := LB)) rfl) ?_
  refine WL_v rfl (VS_move rfl) ?_
  refine WL_g (Gd_b rfl rfl) rfl (fun hb => VS_move rfl) ?_
  refine WL_g (Gd_b rfl rfl) rfl (fun hb => VS_move (gev rfl hb)) ?_
  refine WL_g (Gd_g rfl rfl) rfl (fun hb => VS_field0 rfl) ?_
  refine WL_g (Gd_g rfl rfl) rfl (fun hb => VS_ldb P_token_Token_Mutable (gev rfl hb)) ?_
  refine WL_g (Gd_b rfl rfl) rfl (fun hb => VS_and (gev rfl hb) (gev2 rfl hb)) ?_
  refine WL_v rfl (VS_or rfl rfl) ?_
  refine WL_x0 (RX_st (M := LB) (Pth.id (L := LB)) (a3 || (((a0.Region == a1) && (a0.Above == a2)) && a0.Mutable)) x21 hx21 rfl rfl rfl rfl) (fun _ _ => ?_)
  refine WL_nil ?_
  refine WQ_then ?_
  refine WP_seq ?_
  refine WP_region ?_
  refine WL_v rfl (VS_move rfl) ?_
  refine WL_v rfl (VS_assign rfl) ?_
  refine WL_nil ?_
  refine WQ_then ?_
  refine WP_ret ?_
  replace h := Option.some.inj h
  subst h
  exact WQ_ret () rfl (.tmp rfl .nil) trivial rfl (ks := [1, 2, 3]) rfl (by decide)
def token_Tokens_those__token_Tokens_right_1 (n : Nat) (a0 : token_Tokens) (a1_0 : Int) (a1_1 : Int) (a1_2 : Bool) : Option ((List Int) × Bool) :=
  bd (handle_Book_Issued n a0.book) fun x21 =>
  loop3 (fun k42 (x35 : (List Int)) (x38 : Int) (x39 : Bool) =>
  cn (decide (x38 < (x21.length : Int))) (
  gu (inb x38 x21.length) <|
  bd (token_Tokens_Get n a0 (x21.getD (Int.toNat x38) default)) fun x44 =>
  bd (token_Tokens_right_1 n x44.1 a1_0 a1_1 x39) fun x45 =>
  cn (x45.1) (
  gu (apok x35.length 1 4) <|
  lt (x35 ++ ([(x21.getD (Int.toNat x38) default)]) : List Int) fun x47 =>
  k42 x47 (wr .i64 (x38 + 1)) x45.2) (
  k42 x35 (wr .i64 (x38 + 1)) x45.2)) (
  some (x35, x39))) n ([]) 0 a1_2
theorem c_token_Tokens_those__token_Tokens_right_1 {n : Nat} {a0 : token_Tokens} {a1_0 : Int} {a1_1 : Int} {a1_2 : Bool} {r : (List Int) × Bool} {q1_0 : Nat} {q1_1 : Nat} {q1_2 : Nat} (h : token_Tokens_those__token_Tokens_right_1 n a0 a1_0 a1_1 a1_2 = some r) : FnC Try.prog 126 [.agg (L_token_Tokens.enc a0).toArray, .func (.func 142) #[] #[Ptr q1_0 0, Ptr q1_1 0, Ptr q1_2 0]] (fun _ => True) [.cells q1_0 26 ((LI .u32).enc a1_0), .cells q1_1 26 ((LI .u32).enc a1_1), .cells q1_2 4 (LB.enc a1_2)] (fun J v ho => ∃ u0, v = (u0) ∧ ho = [.cells q1_0 26 ((LI .u32).enc a1_0), .cells q1_1 26 ((LI .u32).enc a1_1), .cells q1_2 4 (LB.enc r.2)] ∧ Fz J u0 (LI .u32) (r.1)) := by
  unfold token_Tokens_those__token_Tokens_right_1 at h
  refine fn_of Try.func126 (by kernel_rfl) rfl Try.ntmps126 rfl (fun cx hbs hpre hro => ?_)
  refine WP_seq ?_
  refine WP_region ?_
  refine WL_x rfl (RX_boxL L_token_Tokens a0 rfl rfl) (fun b2 _ => ?_)
  refine WL_v rfl (VS_assign rfl) ?_
  refine WL_nil ?_
  refine WQ_then ?_
  refine WP_seq ?_
  refine WP_region ?_
  refine WL_v rfl (VS_assign rfl) ?_
  refine WL_nil ?_
  refine WQ_then ?_
  refine WP_seq ?_
  refine WP_seq ?_
  obtain ⟨x21, hx21, h⟩ := bd_e h
  refine WP_region ?_
  refine WL_v rfl (VS_field0 rfl) ?_
  refine WL_v rfl (VS_lda (M := L_handle_Book) P_token_Tokens_book rfl rfl) ?_
  refine WL_x rfl (RX_callB (c_handle_Book_Issued hx21) rfl) (fun ⟨w22, bs23, J24⟩ hp25 => ?_)
  have f26 : Fz (Hs [.ext bs23 J24]) w22 (LI .u32) x21 := hp25
  refine WL_v rfl (VS_lenF f26 rfl) ?_
  refine WL_v rfl (VS_move rfl) ?_
  refine WL_nil ?_
  refine WQ_then ?_
  refine WP_block ?_
  refine WP_rowN 26 1 (LI .u32) ?_
  obtain ⟨lb40, hlb40, h⟩ := lp3_i h
  refine WP_loops (α := Nat × (List Int) × Int × Bool × Value) [1, 2, 12, 13] (.cons rfl (.cons rfl (.cons rfl (.cons rfl (.nil))))) (fun (m41, x35, x38, x39, v36) => [(5, v36), (14, .int .i64 x38)]) (fun (m41, x35, x38, x39, v36) => [Row v36 26 1 (LI .u32) x35, .ext bs23 J24, .cells b2 166 (L_token_Tokens.enc a0), .cells q1_0 26 ((LI .u32).enc a1_0), .cells q1_1 26 ((LI .u32).enc a1_1), .cells q1_2 4 (LB.enc x39)]) (fun (m41, x35, x38, x39, v36) => SlN v36 x35.length ∧ loop3 lb40 m41 x35 x38 x39 = some r) (fun (m41, x35, x38, x39, v36) => m41) (n, [], 0, a1_2, .slice none 0 0) ⟨⟨_, _, rfl⟩, h⟩ (Sub_cons rfl (Sub_cons rfl (Sub_nil))) (ks := [0, 1, 2, 3, 4, 5]) rfl (by decide) ?_
  rintro ⟨m41, x35, x38, x39, v36⟩ ⟨hs37, h⟩
  replace h : loop3 lb40 m41 x35 x38 x39 = some r := h
  replace h := lp3_s hlb40 h
  obtain ⟨m41, rfl, h⟩ := h
  refine WP_seq ?_
  refine WP_region ?_
  refine WL_v rfl (VS_lss rfl rfl) ?_
  refine WL_nil ?_
  refine WQ_then ?_
  refine WP_seq ?_
  refine WP_if rfl (fun hc => ?_) (fun hc => ?_)
  ·
    replace h := cn_t hc h
    refine WP_skip ?_
    refine WQ_then ?_
    refine WP_seq ?_
    refine WP_block ?_
    refine WP_seq ?_
    obtain ⟨hg43, h⟩ := gu_e h
    refine WP_region ?_
    refine WL_v rfl (VS_ixF (m := (Int.toNat x38)) f26 rfl rfl rfl (inb_e hg43).1 (inb_e hg43).2) ?_
    refine WL_v rfl (VS_ldiF f26 (Pth.idx (L := (LI .u32)) (m := (x21.length)) (k := 1) ((Int.toNat x38)) (inb_e hg43).2 rfl) rfl) ?_
    refine WL_v rfl (VS_assign rfl) ?_
    refine WL_nil ?_
    refine WQ_then ?_
    refine WP_seq ?_
    obtain ⟨x44, hx44, h⟩ := bd_e h
    refine WP_region ?_
    refine WL_v rfl (VS_lda (M := L_token_Tokens) (Pth.id (L := L_token_Tokens)) rfl rfl) ?_
    refine WL_v rfl (VS_move rfl) ?_
    refine WL_v rfl (VS_call (c_token_Tokens_Get hx44) rfl (fun _ _ _ => trivial)) ?_
    refine WL_v rfl (VS_move rfl) ?_
    refine WL_v rfl (VS_extract rfl rfl) ?_
    refine WL_v rfl (VS_extract rfl rfl) ?_
    refine WL_x rfl (RX_allocL (L := L_token_Token) (z := Z_token_Token) ⟨by kernel_rfl⟩) (fun b8 _ => ?_)
    refine WL_x0 (RX_st (M := L_token_Token) (Pth.id (L := L_token_Token)) x44.1 x44.1 rfl rfl rfl rfl rfl) (fun _ _ => ?_)
    refine WL_v rfl (VS_assign rfl) ?_
    refine WL_nil ?_
    refine WQ_then ?_
    refine WP_seq ?_
    obtain ⟨x45, hx45, h⟩ := bd_e h
    refine WP_region ?_
    refine WL_v rfl (VS_move rfl) ?_
    refine WL_v rfl (VS_lda (M := L_token_Token) (Pth.id (L := L_token_Token)) rfl rfl) ?_
    refine WL_x rfl (RX_callH (K := (fun _ => True)) (Hin := [.cells q1_0 26 ((LI .u32).enc a1_0), .cells q1_1 26 ((LI .u32).enc a1_1), .cells q1_2 4 (LB.enc x39)]) (rest := [.cells b8 163 (L_token_Token.enc x44.1), Row v36 26 1 (LI .u32) x35, .ext bs23 J24, .cells b2 166 (L_token_Tokens.enc a0)]) (ks := [4, 5, 6, 0, 1, 2, 3]) (c_token_Tokens_right_1 hx45) rfl rfl rfl rfl (by decide)) (fun _ _ => ?_)
    dsimp only [List.cons_append, List.nil_append]
    refine WL_nil ?_
    refine WQ_then ?_
    refine WP_if rfl (fun hc => ?_) (fun hc => ?_)
    ·
      replace h := cn_t hc h
      obtain ⟨hg46, h⟩ := gu_e h
      obtain ⟨x47, hx47, h⟩ := lt_e h
      refine WP_region ?_
      refine WL_v rfl (VS_move rfl) ?_
      refine WL_v rfl (VS_move rfl) ?_
      refine WL_x rfl (RX_bs1 (LI .u32) (x21.getD (Int.toNat x38) default) rfl rfl rfl rfl (by decide) (by decide)) (fun b29 _ => ?_)
      refine WL_x rfl (RX_app1 (sz := 1) (L := (LI .u32)) (xs := x35) (y := (x21.getD (Int.toNat x38) default)) (bytes := 4) rfl rfl rfl (apok_e hg46).1 (apok_e hg46).2) (fun v48 hs49 => ?_)
      rw [← hx47] at hs49; rw [← hx47]
      refine WL_v rfl (VS_assign rfl) ?_
      refine WL_nil ?_
      refine WQ_block ?_
      refine WQ_then ?_
      refine WP_region ?_
      refine WL_v rfl (VS_add rfl rfl rfl) ?_
      refine WL_v rfl (VS_move rfl) ?_
      refine WL_nil ?_
      exact WQ_loops (m41, x47, wr .i64 (x38 + 1), x45.2, v48) (Nat.lt_succ_self _) ⟨hs49, h⟩ (Sub_cons rfl (Sub_cons rfl (Sub_nil))) (.cons rfl (.cons rfl (.cons rfl (.cons rfl (.nil))))) (ks := [5, 6, 7, 1, 2, 3]) rfl (by decide)
    ·
      replace h := cn_f hc h
      refine WP_skip ?_
      refine WQ_block ?_
      refine WQ_then ?_
      refine WP_region ?_
      refine WL_v rfl (VS_add rfl rfl rfl) ?_
      refine WL_v rfl (VS_move rfl) ?_
      refine WL_nil ?_
      exact WQ_loops (m41, x35, wr .i64 (x38 + 1), x45.2, v36) (Nat.lt_succ_self _) ⟨hs37, h⟩ (Sub_cons rfl (Sub_cons rfl (Sub_nil))) (.cons rfl (.cons rfl (.cons rfl (.cons rfl (.nil))))) (ks := [4, 5, 6, 0, 1, 2]) rfl (by decide)
  ·
    replace h := cn_f hc h
    refine WP_exit ?_
    refine WQ_then_exit ?_
    refine WQ_then_exit ?_
    refine WQ_block_exit ?_
    refine WQ_then ?_
    refine WP_seq ?_
    refine WP_region ?_
    refine WL_v rfl (VS_move rfl) ?_
    refine WL_v rfl (VS_assign rfl) ?_
    refine WL_nil ?_
    refine WQ_then ?_
    refine WP_ret ?_
    replace h := Option.some.inj h
    subst h
    refine WQ_bundle (R := [Row v36 26 1 (LI .u32) x35]) (H' := [.cells q1_0 26 ((LI .u32).enc a1_0), .cells q1_1 26 ((LI .u32).enc a1_1), .cells q1_2 4 (LB.enc x39)]) (ks := [0, 3, 4, 5]) rfl (by decide) ?_
    have p50 : Fz (Hs [.ext (blks [Row v36 26 1 (LI .u32) x35]) (Hs [Row v36 26 1 (LI .u32) x35])]) v36 (LI .u32) x35 := (Fz.row (e := 26) (sz := 1) (L := (LI .u32)) (xs := x35) rfl hs37).mono ent
    exact WQ_ret (v36, [.cells q1_0 26 ((LI .u32).enc a1_0), .cells q1_1 26 ((LI .u32).enc a1_1), .cells q1_2 4 (LB.enc x39)], blks [Row v36 26 1 (LI .u32) x35], Hs [Row v36 26 1 (LI .u32) x35]) rfl (.tmp rfl .nil) ⟨_, rfl, rfl, p50⟩ rfl (ks := [0, 1, 2, 3]) rfl (by decide)
def token_Tokens_right (n : Nat) (a0 : token_Tokens) (a1 : Int) (a2 : Int) : Option (Int × Bool) :=
  bd (token_Tokens_those__token_Tokens_right_1 n a0 a1 a2 false) fun x21 =>
  some ((x21.1.length : Int), x21.2)
theorem c_token_Tokens_right {n : Nat} {a0 : token_Tokens} {a1 : Int} {a2 : Int} {r : Int × Bool}  (h : token_Tokens_right n a0 a1 a2 = some r) : FnV Try.prog 133 [.agg (L_token_Tokens.enc a0).toArray, .int .u32 a1, .int .u32 a2] (.tuple #[.int .i64 r.1, .bool r.2]) := by
  unfold token_Tokens_right at h
  refine fn_of Try.func133 (by kernel_rfl) rfl Try.ntmps133 rfl (fun cx hbs hpre hro => ?_)
  refine WP_seq ?_
  refine WP_region ?_
  refine WL_x rfl (RX_boxL L_token_Tokens a0 rfl rfl) (fun b3 _ => ?_)
  refine WL_x rfl (RX_boxL (LI .u32) a1 rfl rfl) (fun b4 _ => ?_)
  refine WL_x rfl (RX_boxL (LI .u32) a2 rfl rfl) (fun b5 _ => ?_)
  refine WL_v rfl (VS_assign rfl) ?_
  refine WL_v rfl (VS_assign rfl) ?_
  refine WL_nil ?_
  refine WQ_then ?_
  refine WP_seq ?_
  refine WP_region ?_
  refine WL_x rfl (RX_allocL (L := LB) (z := false) ⟨by kernel_rfl⟩) (fun b8 _ => ?_)
  refine WL_x0 (RX_st (M := LB) (Pth.id (L := LB)) false false rfl rfl rfl rfl rfl) (fun _ _ => ?_)
  refine WL_nil ?_
  refine WQ_then ?_
  refine WP_seq ?_
  obtain ⟨x21, hx21, h⟩ := bd_e h
  refine WP_region ?_
  refine WL_v rfl (VS_lda (M := L_token_Tokens) (Pth.id (L := L_token_Tokens)) rfl rfl) ?_
  refine WL_v rfl (VS_makeFunc rfl) ?_
  refine WL_x rfl (RX_callH (K := (fun _ => True)) (Hin := [.cells b4 26 ((LI .u32).enc a1), .cells b5 26 ((LI .u32).enc a2), .cells b8 4 (LB.enc false)]) (rest := [.cells b3 166 (L_token_Tokens.enc a0)]) (ks := [2, 1, 0, 3]) (c_token_Tokens_those__token_Tokens_right_1 hx21) rfl rfl rfl rfl (by decide)) (fun ⟨w22, ho28, bs23, J24⟩ hp25 => ?_)
  obtain ⟨v27, rfl, rfl, f26⟩ := hp25
  replace f26 : Fz (Hs [.ext bs23 J24]) w22 (LI .u32) x21.1 := f26
  dsimp only [List.cons_append, List.nil_append]
  refine WL_v rfl (VS_assign rfl) ?_
  refine WL_nil ?_
  refine WQ_then ?_
  refine WP_seq ?_
  refine WP_draw mixed (.stg [] [(0, [9]), (1, [13]), (2, [8])] (.alt 3 [14] (.stg [(2, [8])] [] (.alt 4 [15] (.fin [] []) .no)) .no)) (by kernel_rfl) ?_
  refine Stg_stg ?_ ?_
  · exact ReOk_nil
  refine NewOk_cons rfl rfl (VG_v rfl (VS_move rfl)) ?_
  refine NewOk_cons rfl rfl (VG_v rfl (VS_lenF f26 rfl)) ?_
  refine NewOk_cons rfl rfl (VG_v rfl (VS_ldb (Pth.id (L := LB)) rfl)) ?_
  refine NewOk_nil ?_
  refine Stg_some rfl rfl (RG_x rfl ((VS_assign rfl).rx)) (fun _ _ => ?_) Stg_no
  refine Stg_stg ?_ ?_
  ·
    refine ReOk_cons rfl rfl (VG_v rfl (VS_val (VS_ldb (Pth.id (L := LB)) rfl) rfl)) ?_
    exact ReOk_nil
  refine NewOk_nil ?_
  refine Stg_some rfl rfl (RG_x rfl ((VS_assign rfl).rx)) (fun _ _ => ?_) Stg_no
  refine Stg_fin ?_ ?_
  · exact ReOk_nil
  refine NewOk_nil ?_
  refine WQ_then ?_
  refine WP_ret ?_
  replace h := Option.some.inj h
  subst h
  exact WQ_ret () rfl (.tmp rfl (.tmp rfl .nil)) trivial rfl (ks := []) rfl (by decide)
def token_Tokens_may (n : Nat) (a0 : token_Tokens) (a1 : token_Token) : Option Int :=
  bd (token_Tokens_Get n a0 a1.Above) fun x21 =>
  bd (token_Tokens_right n a0 a1.Region a1.Above) fun x22 =>
  bd (token_Tokens_good n a0 a1.Above) fun x23 =>
  cn ((!x23)) (
  some 4) (
  cn ((((decide (8 ≤ a1.By) || decide (8 ≤ a1.To)) || (a1.By == a1.To)) || (a1.Region == 0))) (
  some 2) (
  cn (((a1.Above != 0) && (((x21.1.Region != a1.Region) || (x21.1.To != a1.By)) || (a1.Mutable && (!x21.1.Mutable))))) (
  some 12) (
  cn ((x22.2 || (a1.Mutable && decide (0 < x22.1)))) (
  some 5) (
  some 0))))
theorem c_token_Tokens_may {n : Nat} {a0 : token_Tokens} {a1 : token_Token} {r : Int}  (h : token_Tokens_may n a0 a1 = some r) : FnV Try.prog 129 [.agg (L_token_Tokens.enc a0).toArray, .agg (L_token_Token.enc a1).toArray] (.int .i64 r) := by
  unfold token_Tokens_may at h
  refine fn_of Try.func129 (by kernel_rfl) rfl Try.ntmps129 rfl (fun cx hbs hpre hro => ?_)
  refine WP_seq ?_
  refine WP_region ?_
  refine WL_x rfl (RX_boxL L_token_Tokens a0 rfl rfl) (fun b2 _ => ?_)
  refine WL_x rfl (RX_boxL L_token_Token a1 rfl rfl) (fun b3 _ => ?_)
  refine WL_v rfl (VS_assign rfl) ?_
  refine WL_nil ?_
  refine WQ_then ?_
  refine WP_seq ?_
  obtain ⟨x21, hx21, h⟩ := bd_e h
  refine WP_region ?_
  refine WL_v rfl (VS_lda (M := L_token_Tokens) (Pth.id (L := L_token_Tokens)) rfl rfl) ?_
  refine WL_v rfl (VS_field0 rfl) ?_
  refine WL_v rfl (VS_ldi P_token_Token_Above rfl) ?_
  refine WL_v rfl (VS_call (c_token_Tokens_Get hx21) rfl (fun _ _ _ => trivial)) ?_
  refine WL_v rfl (VS_move rfl) ?_
  refine WL_v rfl (VS_extract rfl rfl) ?_
  refine WL_v rfl (VS_extract rfl rfl) ?_
  refine WL_x rfl (RX_allocL (L := L_token_Token) (z := Z_token_Token) ⟨by kernel_rfl⟩) (fun b5 _ => ?_)
  refine WL_x0 (RX_st (M := L_token_Token) (Pth.id (L := L_token_Token)) x21.1 x21.1 rfl rfl rfl rfl rfl) (fun _ _ => ?_)
  refine WL_v rfl (VS_assign rfl) ?_
  refine WL_nil ?_
  refine WQ_then ?_
  refine WP_seq ?_
  obtain ⟨x22, hx22, h⟩ := bd_e h
  refine WP_region ?_
  refine WL_v rfl (VS_lda (M := L_token_Tokens) (Pth.id (L := L_token_Tokens)) rfl rfl) ?_
  refine WL_v rfl (VS_field0 rfl) ?_
  refine WL_v rfl (VS_ldi P_token_Token_Region rfl) ?_
  refine WL_v rfl (VS_field0 rfl) ?_
  refine WL_v rfl (VS_ldi P_token_Token_Above rfl) ?_
  refine WL_v rfl (VS_call (c_token_Tokens_right hx22) rfl (fun _ _ _ => trivial)) ?_
  refine WL_v rfl (VS_move rfl) ?_
  refine WL_v rfl (VS_extract rfl rfl) ?_
  refine WL_v rfl (VS_extract rfl rfl) ?_
  refine WL_v rfl (VS_assign rfl) ?_
  refine WL_v rfl (VS_assign rfl) ?_
  refine WL_nil ?_
  refine WQ_then ?_
  refine WP_seq ?_
  refine WP_block ?_
  refine WP_seq ?_
  obtain ⟨x23, hx23, h⟩ := bd_e h
  refine WP_region ?_
  refine WL_v rfl (VS_lda (M := L_token_Tokens) (Pth.id (L := L_token_Tokens)) rfl rfl) ?_
  refine WL_v rfl (VS_field0 rfl) ?_
  refine WL_v rfl (VS_ldi P_token_Token_Above rfl) ?_
  refine WL_v rfl (VS_call (c_token_Tokens_good hx23) rfl (fun _ _ _ => trivial)) ?_
  refine WL_v rfl (VS_not rfl) ?_
  refine WL_v rfl (VS_assign rfl) ?_
  refine WL_nil ?_
  refine WQ_then ?_
  refine WP_if rfl (fun hc => ?_) (fun hc => ?_)
  ·
    replace h := cn_t hc h
    refine WP_seq ?_
    refine WP_region ?_
    refine WL_v rfl (VS_assign rfl) ?_
    refine WL_nil ?_
    refine WQ_then ?_
    refine WP_ret ?_
    refine WQ_block_ret ?_
    refine WQ_then_ret ?_
    replace h := Option.some.inj h
    subst h
    exact WQ_ret () rfl (.tmp rfl .nil) trivial rfl (ks := []) rfl (by decide)
  ·
    replace h := cn_f hc h
    refine WP_seq ?_
    refine WP_region ?_
    refine WL_v rfl (VS_field0 rfl) ?_
    refine WL_v rfl (VS_ldi P_token_Token_By rfl) ?_
    refine WL_v rfl (VS_geq rfl rfl) ?_
    refine WL_v rfl (VS_move rfl) ?_
    refine WL_g (Gd_b rfl rfl) rfl (fun hb => VS_field0 rfl) ?_
    refine WL_g (Gd_b rfl rfl) rfl (fun hb => VS_ldi P_token_Token_To (gev rfl hb)) ?_
    refine WL_g (Gd_b rfl rfl) rfl (fun hb => VS_geq (gev rfl hb) rfl) ?_
    refine WL_v rfl (VS_or rfl rfl) ?_
    refine WL_v rfl (VS_move rfl) ?_
    refine WL_g (Gd_b rfl rfl) rfl (fun hb => VS_field0 rfl) ?_
    refine WL_g (Gd_b rfl rfl) rfl (fun hb => VS_ldi P_token_Token_By (gev rfl hb)) ?_
    refine WL_g (Gd_b rfl rfl) rfl (fun hb => VS_field0 rfl) ?_
    refine WL_g (Gd_b rfl rfl) rfl (fun hb => VS_ldi P_token_Token_To (gev rfl hb)) ?_
    refine WL_g (Gd_b rfl rfl) rfl (fun hb => VS_eql (gev rfl hb) (gev rfl hb)) ?_
    refine WL_v rfl (VS_or rfl rfl) ?_
    refine WL_v rfl (VS_move rfl) ?_
    refine WL_g (Gd_b rfl rfl) rfl (fun hb => VS_field0 rfl) ?_
    refine WL_g (Gd_b rfl rfl) rfl (fun hb => VS_ldi P_token_Token_Region (gev rfl hb)) ?_
    refine WL_g (Gd_b rfl rfl) rfl (fun hb => VS_eql (gev rfl hb) rfl) ?_
    refine WL_v rfl (VS_or rfl rfl) ?_
    refine WL_v rfl (VS_assign rfl) ?_
    refine WL_nil ?_
    refine WQ_then ?_
    refine WP_if rfl (fun hc => ?_) (fun hc => ?_)
    ·
      replace h := cn_t hc h
      refine WP_seq ?_
      refine WP_region ?_
      refine WL_v rfl (VS_assign rfl) ?_
      refine WL_nil ?_
      refine WQ_then ?_
      refine WP_ret ?_
      refine WQ_block_ret ?_
      refine WQ_then_ret ?_
      replace h := Option.some.inj h
      subst h
      exact WQ_ret () rfl (.tmp rfl .nil) trivial rfl (ks := []) rfl (by decide)
    ·
      replace h := cn_f hc h
      refine WP_seq ?_
      refine WP_region ?_
      refine WL_v rfl (VS_field0 rfl) ?_
      refine WL_v rfl (VS_ldi P_token_Token_Above rfl) ?_
      refine WL_v rfl (VS_neq rfl rfl) ?_
      refine WL_v rfl (VS_move rfl) ?_
      refine WL_g (Gd_b rfl rfl) rfl (fun hb => VS_field0 rfl) ?_
      refine WL_g (Gd_b rfl rfl) rfl (fun hb => VS_ldi P_token_Token_Region (gev rfl hb)) ?_
      refine WL_g (Gd_b rfl rfl) rfl (fun hb => VS_field0 rfl) ?_
      refine WL_g (Gd_b rfl rfl) rfl (fun hb => VS_ldi P_token_Token_Region (gev rfl hb)) ?_
      refine WL_g (Gd_b rfl rfl) rfl (fun hb => VS_neq (gev rfl hb) (gev rfl hb)) ?_
      refine WL_g (Gd_b rfl rfl) rfl (fun hb => VS_move (gev rfl hb)) ?_
      refine WL_g (Gd_g rfl rfl) rfl (fun hb => VS_field0 rfl) ?_
      refine WL_g (Gd_g rfl rfl) rfl (fun hb => VS_ldi P_token_Token_To (gev rfl hb)) ?_
      refine WL_g (Gd_g rfl rfl) rfl (fun hb => VS_field0 rfl) ?_
      refine WL_g (Gd_g rfl rfl) rfl (fun hb => VS_ldi P_token_Token_By (gev rfl hb)) ?_
      refine WL_g (Gd_g rfl rfl) rfl (fun hb => VS_neq (gev rfl hb) (gev rfl hb)) ?_
      refine WL_g (Gd_b rfl rfl) rfl (fun hb => VS_or (gev rfl hb) (gev2 rfl hb)) ?_
      refine WL_g (Gd_b rfl rfl) rfl (fun hb => VS_move (gev rfl hb)) ?_
      refine WL_g (Gd_g rfl rfl) rfl (fun hb => VS_field0 rfl) ?_
      refine WL_g (Gd_g rfl rfl) rfl (fun hb => VS_ldb P_token_Token_Mutable (gev rfl hb)) ?_
      refine WL_g (Gd_g rfl rfl) rfl (fun hb => VS_move (gev rfl hb)) ?_
      refine WL_g (Gd_g rfl rfl) rfl (fun hb => VS_field0 rfl) ?_
      refine WL_g (Gd_g rfl rfl) rfl (fun hb => VS_ldb P_token_Token_Mutable (gev rfl hb)) ?_
      refine WL_g (Gd_g rfl rfl) rfl (fun hb => VS_not (gev rfl hb)) ?_
      refine WL_g (Gd_g rfl rfl) rfl (fun hb => VS_and (gev rfl hb) (gev2 rfl hb)) ?_
      refine WL_g (Gd_b rfl rfl) rfl (fun hb => VS_or (gev rfl hb) (gev2 rfl hb)) ?_
      refine WL_v rfl (VS_and rfl rfl) ?_
      refine WL_v rfl (VS_assign rfl) ?_
      refine WL_nil ?_
      refine WQ_then ?_
      refine WP_if rfl (fun hc => ?_) (fun hc => ?_)
      ·
        replace h := cn_t hc h
        refine WP_seq ?_
        refine WP_region ?_
        refine WL_v rfl (VS_assign rfl) ?_
        refine WL_nil ?_
        refine WQ_then ?_
        refine WP_ret ?_
        refine WQ_block_ret ?_
        refine WQ_then_ret ?_
        replace h := Option.some.inj h
        subst h
        exact WQ_ret () rfl (.tmp rfl .nil) trivial rfl (ks := []) rfl (by decide)
      ·
        replace h := cn_f hc h
        refine WP_seq ?_
        refine WP_region ?_
        refine WL_v rfl (VS_move rfl) ?_
        refine WL_v rfl (VS_move rfl) ?_
        refine WL_g (Gd_b rfl rfl) rfl (fun hb => VS_field0 rfl) ?_
        refine WL_g (Gd_b rfl rfl) rfl (fun hb => VS_ldb P_token_Token_Mutable (gev rfl hb)) ?_
        refine WL_g (Gd_b rfl rfl) rfl (fun hb => VS_move (gev rfl hb)) ?_
        refine WL_g (Gd_g rfl rfl) rfl (fun hb => VS_move rfl) ?_
        refine WL_g (Gd_g rfl rfl) rfl (fun hb => VS_gtr (gev rfl hb) rfl) ?_
        refine WL_g (Gd_b rfl rfl) rfl (fun hb => VS_and (gev rfl hb) (gev2 rfl hb)) ?_
        refine WL_v rfl (VS_or rfl rfl) ?_
        refine WL_v rfl (VS_assign rfl) ?_
        refine WL_nil ?_
        refine WQ_then ?_
        refine WP_if rfl (fun hc => ?_) (fun hc => ?_)
        ·
          replace h := cn_t hc h
          refine WP_seq ?_
          refine WP_region ?_
          refine WL_v rfl (VS_assign rfl) ?_
          refine WL_nil ?_
          refine WQ_then ?_
          refine WP_ret ?_
          refine WQ_block_ret ?_
          refine WQ_then_ret ?_
          replace h := Option.some.inj h
          subst h
          exact WQ_ret () rfl (.tmp rfl .nil) trivial rfl (ks := []) rfl (by decide)
        ·
          replace h := cn_f hc h
          refine WP_skip ?_
          refine WQ_block ?_
          refine WQ_then ?_
          refine WP_seq ?_
          refine WP_region ?_
          refine WL_v rfl (VS_assign rfl) ?_
          refine WL_nil ?_
          refine WQ_then ?_
          refine WP_ret ?_
          replace h := Option.some.inj h
          subst h
          exact WQ_ret () rfl (.tmp rfl .nil) trivial rfl (ks := []) rfl (by decide)
def token_Tokens_Lend (n : Nat) (a0 : token_Tokens) (a1 : token_Token) : Option (token_Tokens × Int × Int) :=
  bd (token_Tokens_may n a0 a1) fun x21 =>
  cn ((x21 != 0)) (
  some (a0, 0, x21)) (
  bd (handle_Book_Issue n a0.book) fun x22 =>
  bd (handle_Handle_Slot n x22.2.1) fun x23 =>
  cn (((!x23.2) || decide (16 ≤ x23.1))) (
  some (a0, 0, 7)) (
  lt ({ a0 with book := x22.1 } : token_Tokens) fun x24 =>
  gu (inb x23.1 16) <|
  lt ({ x24 with slots := (upd x24.slots (Int.toNat x23.1) a1) } : token_Tokens) fun x26 =>
  some (x26, x22.2.1, 0)))
theorem c_token_Tokens_Lend {n : Nat} {a0 : token_Tokens} {a1 : token_Token} {r : token_Tokens × Int × Int}  (h : token_Tokens_Lend n a0 a1 = some r) : FnV Try.prog 85 [.agg (L_token_Tokens.enc a0).toArray, .agg (L_token_Token.enc a1).toArray] (.tuple #[.agg (L_token_Tokens.enc r.1).toArray, .int .u32 r.2.1, .int .i64 r.2.2]) := by
  unfold token_Tokens_Lend at h
  refine fn_of Try.func85 (by kernel_rfl) rfl Try.ntmps85 rfl (fun cx hbs hpre hro => ?_)
  refine WP_seq ?_
  refine WP_region ?_
  refine WL_x rfl (RX_boxL L_token_Tokens a0 rfl rfl) (fun b2 _ => ?_)
  refine WL_x rfl (RX_boxL L_token_Token a1 rfl rfl) (fun b3 _ => ?_)
  refine WL_x rfl (RX_allocL (L := L_token_Tokens) (z := Z_token_Tokens) ⟨by kernel_rfl⟩) (fun b4 _ => ?_)
  refine WL_v rfl (VS_assign rfl) ?_
  refine WL_v rfl (VS_assign rfl) ?_
  refine WL_nil ?_
  refine WQ_then ?_
  refine WP_seq ?_
  refine WP_seq ?_
  obtain ⟨x21, hx21, h⟩ := bd_e h
  refine WP_region ?_
  refine WL_v rfl (VS_lda (M := L_token_Tokens) (Pth.id (L := L_token_Tokens)) rfl rfl) ?_
  refine WL_v rfl (VS_lda (M := L_token_Token) (Pth.id (L := L_token_Token)) rfl rfl) ?_
  refine WL_v rfl (VS_call (c_token_Tokens_may hx21) rfl (fun _ _ _ => trivial)) ?_
  refine WL_v rfl (VS_assign rfl) ?_
  refine WL_nil ?_
  refine WQ_then ?_
  refine WP_seq ?_
  refine WP_region ?_
  refine WL_v rfl (VS_move rfl) ?_
  refine WL_v rfl (VS_neq rfl rfl) ?_
  refine WL_nil ?_
  refine WQ_then ?_
  refine WP_if rfl (fun hc => ?_) (fun hc => ?_)
  ·
    replace h := cn_t hc h
    refine WP_seq ?_
    refine WP_region ?_
    refine WL_v rfl (VS_lda (M := L_token_Tokens) (Pth.id (L := L_token_Tokens)) rfl rfl) ?_
    refine WL_v rfl (VS_move rfl) ?_
    refine WL_x0 (RX_st (M := L_token_Tokens) (Pth.id (L := L_token_Tokens)) a0 a0 rfl rfl rfl rfl rfl) (fun _ _ => ?_)
    refine WL_v rfl (VS_assign rfl) ?_
    refine WL_v rfl (VS_assign rfl) ?_
    refine WL_nil ?_
    refine WQ_then ?_
    refine WP_ret ?_
    refine WQ_then_ret ?_
    replace h := Option.some.inj h
    subst h
    exact WQ_ret () rfl (.agg rfl inferInstance inferInstance (enc_len _ _) (.tmp rfl (.tmp rfl .nil))) trivial rfl (ks := []) rfl (by decide)
  ·
    replace h := cn_f hc h
    refine WP_skip ?_
    refine WQ_then ?_
    refine WP_seq ?_
    obtain ⟨x22, hx22, h⟩ := bd_e h
    refine WP_region ?_
    refine WL_v rfl (VS_field0 rfl) ?_
    refine WL_v rfl (VS_lda (M := L_handle_Book) P_token_Tokens_book rfl rfl) ?_
    refine WL_v rfl (VS_call (c_handle_Book_Issue hx22) rfl (fun _ _ _ => trivial)) ?_
    refine WL_v rfl (VS_move rfl) ?_
    refine WL_v rfl (VS_extract rfl rfl) ?_
    refine WL_v rfl (VS_extract rfl rfl) ?_
    refine WL_v rfl (VS_extract rfl rfl) ?_
    refine WL_x rfl (RX_allocL (L := L_handle_Book) (z := Z_handle_Book) ⟨by kernel_rfl⟩) (fun b8 _ => ?_)
    refine WL_x0 (RX_st (M := L_handle_Book) (Pth.id (L := L_handle_Book)) x22.1 x22.1 rfl rfl rfl rfl rfl) (fun _ _ => ?_)
    refine WL_v rfl (VS_assign rfl) ?_
    refine WL_v rfl (VS_assign rfl) ?_
    refine WL_nil ?_
    refine WQ_then ?_
    refine WP_seq ?_
    obtain ⟨x23, hx23, h⟩ := bd_e h
    refine WP_region ?_
    refine WL_v rfl (VS_move rfl) ?_
    refine WL_v rfl (VS_call (c_handle_Handle_Slot hx23) rfl (fun _ _ _ => trivial)) ?_
    refine WL_v rfl (VS_move rfl) ?_
    refine WL_v rfl (VS_extract rfl rfl) ?_
    refine WL_v rfl (VS_extract rfl rfl) ?_
    refine WL_v rfl (VS_assign rfl) ?_
    refine WL_v rfl (VS_assign rfl) ?_
    refine WL_nil ?_
    refine WQ_then ?_
    refine WP_seq ?_
    refine WP_seq ?_
    refine WP_region ?_
    refine WL_v rfl (VS_move rfl) ?_
    refine WL_v rfl (VS_not rfl) ?_
    refine WL_v rfl (VS_move rfl) ?_
    refine WL_g (Gd_b rfl rfl) rfl (fun hb => VS_move rfl) ?_
    refine WL_g (Gd_b rfl rfl) rfl (fun hb => VS_geq (gev rfl hb) rfl) ?_
    refine WL_v rfl (VS_or rfl rfl) ?_
    refine WL_nil ?_
    refine WQ_then ?_
    refine WP_if rfl (fun hc => ?_) (fun hc => ?_)
    ·
      replace h := cn_t hc h
      refine WP_seq ?_
      refine WP_region ?_
      refine WL_v rfl (VS_lda (M := L_token_Tokens) (Pth.id (L := L_token_Tokens)) rfl rfl) ?_
      refine WL_x0 (RX_st (M := L_token_Tokens) (Pth.id (L := L_token_Tokens)) a0 a0 rfl rfl rfl rfl rfl) (fun _ _ => ?_)
      refine WL_v rfl (VS_assign rfl) ?_
      refine WL_v rfl (VS_assign rfl) ?_
      refine WL_nil ?_
      refine WQ_then ?_
      refine WP_ret ?_
      refine WQ_then_ret ?_
      replace h := Option.some.inj h
      subst h
      exact WQ_ret () rfl (.agg rfl inferInstance inferInstance (enc_len _ _) (.tmp rfl (.tmp rfl .nil))) trivial rfl (ks := []) rfl (by decide)
    ·
      replace h := cn_f hc h
      refine WP_skip ?_
      refine WQ_then ?_
      refine WP_seq ?_
      obtain ⟨x24, hx24, h⟩ := lt_e h
      obtain ⟨hg25, h⟩ := gu_e h
      obtain ⟨x26, hx26, h⟩ := lt_e h
      refine WP_draw mixed (.stg [] [(0, [11]), (1, [8]), (2, [3]), (3, [2]), (5, [2])] (.alt 4 [40, 42] (.stg [(0, [11]), (2, [3]), (5, [2])] [(6, [39, 43])] (.alt 7 [41, 44] (.fin [] []) .no)) .no)) (by kernel_rfl) ?_
      refine Stg_stg ?_ ?_
      · exact ReOk_nil
      refine NewOk_cons rfl rfl (VG_v rfl (VS_move rfl)) ?_
      refine NewOk_cons rfl rfl (VG_v rfl (VS_lda (M := L_handle_Book) (Pth.id (L := L_handle_Book)) rfl rfl)) ?_
      refine NewOk_cons rfl rfl (VG_v rfl (VS_lda (M := L_token_Token) (Pth.id (L := L_token_Token)) rfl rfl)) ?_
      refine NewOk_cons rfl rfl (VG_v rfl (VS_field0 rfl)) ?_
      refine NewOk_cons rfl rfl (VG_v rfl (VS_field0 rfl)) ?_
      refine NewOk_nil ?_
      refine Stg_none rfl (RG_x rfl (RX_st (M := L_handle_Book) P_token_Tokens_book x22.1 x24 hx24 rfl rfl rfl rfl)) (fun _ _ => ?_) Stg_no
      refine Stg_stg ?_ ?_
      ·
        refine ReOk_cons rfl rfl (VG_v rfl (VS_move rfl)) ?_
        refine ReOk_cons rfl rfl (VG_v rfl (VS_val (VS_lda (M := L_token_Token) (Pth.id (L := L_token_Token)) rfl rfl) rfl)) ?_
        refine ReOk_cons rfl rfl (VG_v rfl (VS_field0 rfl)) ?_
        exact ReOk_nil
      refine NewOk_cons rfl rfl (VG_v rfl (VS_index (m := (Int.toNat x23.1)) rfl rfl (inb_e hg25).1 (inb_e hg25).2)) ?_
      refine NewOk_nil ?_
      refine Stg_none rfl (RG_x rfl (RX_st (M := L_token_Token) (P_token_Tokens_slots.comp (Pth.idx (L := L_token_Token) (m := 16) (k := 5) ((Int.toNat x23.1)) (inb_e hg25).2 rfl)) a1 x26 hx26 rfl rfl rfl rfl)) (fun _ _ => ?_) Stg_no
      refine Stg_fin ?_ ?_
      · exact ReOk_nil
      refine NewOk_nil ?_
      refine WQ_then ?_
      refine WP_seq ?_
      refine WP_region ?_
      refine WL_v rfl (VS_lda (M := L_token_Tokens) (Pth.id (L := L_token_Tokens)) rfl rfl) ?_
      refine WL_v rfl (VS_move rfl) ?_
      refine WL_x0 (RX_st (M := L_token_Tokens) (Pth.id (L := L_token_Tokens)) x26 x26 rfl rfl rfl rfl rfl) (fun _ _ => ?_)
      refine WL_v rfl (VS_assign rfl) ?_
      refine WL_v rfl (VS_assign rfl) ?_
      refine WL_nil ?_
      refine WQ_then ?_
      refine WP_ret ?_
      replace h := Option.some.inj h
      subst h
      exact WQ_ret () rfl (.agg rfl inferInstance inferInstance (enc_len _ _) (.tmp rfl (.tmp rfl .nil))) trivial rfl (ks := []) rfl (by decide)
def token_Tokens_Of_1 (n : Nat) (a0 : token_Token) (a1 : Int) : Option Bool :=
  some ((wr .i64 a0.To) == a1)
theorem c_token_Tokens_Of_1 {n : Nat} {a0 : token_Token} {a1 : Int} {r : Bool} {q1 : Nat} (h : token_Tokens_Of_1 n a0 a1 = some r) : Bw.Fn (α := Unit) Try.prog 131 [.agg (L_token_Token.enc a0).toArray, Ptr q1 0] (Fut (blks [.cells q1 3 ((LI .i64).enc a1)]) (fun _ => True)) [.cells q1 3 ((LI .i64).enc a1)] (fun _ => True) (fun _ => (.bool r)) (fun _ => [.cells q1 3 ((LI .i64).enc a1)]) := by
  unfold token_Tokens_Of_1 at h
  refine fn_of Try.func131 (by kernel_rfl) rfl Try.ntmps131 rfl (fun cx hbs hpre hro => ?_)
  refine WP_seq ?_
  refine WP_region ?_
  refine WL_x rfl (RX_boxL L_token_Token a0 rfl rfl) (fun b2 _ => ?_)
  refine WL_v rfl (VS_assign rfl) ?_
  refine WL_nil ?_
  refine WQ_then ?_
  refine WP_seq ?_
  refine WP_region ?_
  refine WL_v rfl (VS_field0 rfl) ?_
  refine WL_v rfl (VS_ldi P_token_Token_To rfl) ?_
  refine WL_v rfl (VS_conv rfl rfl) ?_
  refine WL_v rfl (VS_ldi (Pth.id (L := (LI .i64))) rfl) ?_
  refine WL_v rfl (VS_eql rfl rfl) ?_
  refine WL_v rfl (VS_assign rfl) ?_
  refine WL_nil ?_
  refine WQ_then ?_
  refine WP_ret ?_
  replace h := Option.some.inj h
  subst h
  exact WQ_ret () rfl (.tmp rfl .nil) trivial rfl (ks := [1]) rfl (by decide)
def token_Tokens_those__token_Tokens_Of_1 (n : Nat) (a0 : token_Tokens) (a1_0 : Int) : Option (List Int) :=
  bd (handle_Book_Issued n a0.book) fun x21 =>
  loop2 (fun k40 (x34 : (List Int)) (x37 : Int) =>
  cn (decide (x37 < (x21.length : Int))) (
  gu (inb x37 x21.length) <|
  bd (token_Tokens_Get n a0 (x21.getD (Int.toNat x37) default)) fun x42 =>
  bd (token_Tokens_Of_1 n x42.1 a1_0) fun x43 =>
  cn (x43) (
  gu (apok x34.length 1 4) <|
  lt (x34 ++ ([(x21.getD (Int.toNat x37) default)]) : List Int) fun x45 =>
  k40 x45 (wr .i64 (x37 + 1))) (
  k40 x34 (wr .i64 (x37 + 1)))) (
  some x34)) n ([]) 0
theorem c_token_Tokens_those__token_Tokens_Of_1 {n : Nat} {a0 : token_Tokens} {a1_0 : Int} {r : (List Int)} {q1_0 : Nat} (h : token_Tokens_those__token_Tokens_Of_1 n a0 a1_0 = some r) : FnC Try.prog 126 [.agg (L_token_Tokens.enc a0).toArray, .func (.func 131) #[] #[Ptr q1_0 0]] (fun _ => True) [.cells q1_0 3 ((LI .i64).enc a1_0)] (fun J v ho => ∃ u0, v = (u0) ∧ ho = [.cells q1_0 3 ((LI .i64).enc a1_0)] ∧ Fz J u0 (LI .u32) (r)) := by
  unfold token_Tokens_those__token_Tokens_Of_1 at h
  refine fn_of Try.func126 (by kernel_rfl) rfl Try.ntmps126 rfl (fun cx hbs hpre hro => ?_)
  refine WP_seq ?_
  refine WP_region ?_
  refine WL_x rfl (RX_boxL L_token_Tokens a0 rfl rfl) (fun b2 _ => ?_)
  refine WL_v rfl (VS_assign rfl) ?_
  refine WL_nil ?_
  refine WQ_then ?_
  refine WP_seq ?_
  refine WP_region ?_
  refine WL_v rfl (VS_assign rfl) ?_
  refine WL_nil ?_
  refine WQ_then ?_
  refine WP_seq ?_
  refine WP_seq ?_
  obtain ⟨x21, hx21, h⟩ := bd_e h
  refine WP_region ?_
  refine WL_v rfl (VS_field0 rfl) ?_
  refine WL_v rfl (VS_lda (M := L_handle_Book) P_token_Tokens_book rfl rfl) ?_
  refine WL_x rfl (RX_callB (c_handle_Book_Issued hx21) rfl) (fun ⟨w22, bs23, J24⟩ hp25 => ?_)
  have f26 : Fz (Hs [.ext bs23 J24]) w22 (LI .u32) x21 := hp25
  refine WL_v rfl (VS_lenF f26 rfl) ?_
  refine WL_v rfl (VS_move rfl) ?_
  refine WL_nil ?_
  refine WQ_then ?_
  refine WP_block ?_
  refine WP_rowN 26 1 (LI .u32) ?_
  obtain ⟨lb38, hlb38, h⟩ := lp2_i h
  refine WP_loops (α := Nat × (List Int) × Int × Value) [1, 2, 12, 13] (.cons rfl (.cons rfl (.cons rfl (.cons rfl (.nil))))) (fun (m39, x34, x37, v35) => [(5, v35), (14, .int .i64 x37)]) (fun (m39, x34, x37, v35) => [Row v35 26 1 (LI .u32) x34, .ext bs23 J24, .cells b2 166 (L_token_Tokens.enc a0), .cells q1_0 3 ((LI .i64).enc a1_0)]) (fun (m39, x34, x37, v35) => SlN v35 x34.length ∧ loop2 lb38 m39 x34 x37 = some r) (fun (m39, x34, x37, v35) => m39) (n, [], 0, .slice none 0 0) ⟨⟨_, _, rfl⟩, h⟩ (Sub_cons rfl (Sub_cons rfl (Sub_nil))) (ks := [0, 1, 2, 3]) rfl (by decide) ?_
  rintro ⟨m39, x34, x37, v35⟩ ⟨hs36, h⟩
  replace h : loop2 lb38 m39 x34 x37 = some r := h
  replace h := lp2_s hlb38 h
  obtain ⟨m39, rfl, h⟩ := h
  refine WP_seq ?_
  refine WP_region ?_
  refine WL_v rfl (VS_lss rfl rfl) ?_
  refine WL_nil ?_
  refine WQ_then ?_
  refine WP_seq ?_
  refine WP_if rfl (fun hc => ?_) (fun hc => ?_)
  ·
    replace h := cn_t hc h
    refine WP_skip ?_
    refine WQ_then ?_
    refine WP_seq ?_
    refine WP_block ?_
    refine WP_seq ?_
    obtain ⟨hg41, h⟩ := gu_e h
    refine WP_region ?_
    refine WL_v rfl (VS_ixF (m := (Int.toNat x37)) f26 rfl rfl rfl (inb_e hg41).1 (inb_e hg41).2) ?_
    refine WL_v rfl (VS_ldiF f26 (Pth.idx (L := (LI .u32)) (m := (x21.length)) (k := 1) ((Int.toNat x37)) (inb_e hg41).2 rfl) rfl) ?_
    refine WL_v rfl (VS_assign rfl) ?_
    refine WL_nil ?_
    refine WQ_then ?_
    refine WP_seq ?_
    obtain ⟨x42, hx42, h⟩ := bd_e h
    refine WP_region ?_
    refine WL_v rfl (VS_lda (M := L_token_Tokens) (Pth.id (L := L_token_Tokens)) rfl rfl) ?_
    refine WL_v rfl (VS_move rfl) ?_
    refine WL_v rfl (VS_call (c_token_Tokens_Get hx42) rfl (fun _ _ _ => trivial)) ?_
    refine WL_v rfl (VS_move rfl) ?_
    refine WL_v rfl (VS_extract rfl rfl) ?_
    refine WL_v rfl (VS_extract rfl rfl) ?_
    refine WL_x rfl (RX_allocL (L := L_token_Token) (z := Z_token_Token) ⟨by kernel_rfl⟩) (fun b8 _ => ?_)
    refine WL_x0 (RX_st (M := L_token_Token) (Pth.id (L := L_token_Token)) x42.1 x42.1 rfl rfl rfl rfl rfl) (fun _ _ => ?_)
    refine WL_v rfl (VS_assign rfl) ?_
    refine WL_nil ?_
    refine WQ_then ?_
    refine WP_seq ?_
    obtain ⟨x43, hx43, h⟩ := bd_e h
    refine WP_region ?_
    refine WL_v rfl (VS_move rfl) ?_
    refine WL_v rfl (VS_lda (M := L_token_Token) (Pth.id (L := L_token_Token)) rfl rfl) ?_
    refine WL_x rfl (RX_callH (K := (fun _ => True)) (Hin := [.cells q1_0 3 ((LI .i64).enc a1_0)]) (rest := [.cells b8 163 (L_token_Token.enc x42.1), Row v35 26 1 (LI .u32) x34, .ext bs23 J24, .cells b2 166 (L_token_Tokens.enc a0)]) (ks := [4, 0, 1, 2, 3]) (c_token_Tokens_Of_1 hx43) rfl rfl rfl rfl (by decide)) (fun _ _ => ?_)
    dsimp only [List.cons_append, List.nil_append]
    refine WL_nil ?_
    refine WQ_then ?_
    refine WP_if rfl (fun hc => ?_) (fun hc => ?_)
    ·
      replace h := cn_t hc h
      obtain ⟨hg44, h⟩ := gu_e h
      obtain ⟨x45, hx45, h⟩ := lt_e h
      refine WP_region ?_
      refine WL_v rfl (VS_move rfl) ?_
      refine WL_v rfl (VS_move rfl) ?_
      refine WL_x rfl (RX_bs1 (LI .u32) (x21.getD (Int.toNat x37) default) rfl rfl rfl rfl (by decide) (by decide)) (fun b29 _ => ?_)
      refine WL_x rfl (RX_app1 (sz := 1) (L := (LI .u32)) (xs := x34) (y := (x21.getD (Int.toNat x37) default)) (bytes := 4) rfl rfl rfl (apok_e hg44).1 (apok_e hg44).2) (fun v46 hs47 => ?_)
      rw [← hx45] at hs47; rw [← hx45]
      refine WL_v rfl (VS_assign rfl) ?_
      refine WL_nil ?_
      refine WQ_block ?_
      refine WQ_then ?_
      refine WP_region ?_
      refine WL_v rfl (VS_add rfl rfl rfl) ?_
      refine WL_v rfl (VS_move rfl) ?_
      refine WL_nil ?_
      exact WQ_loops (m39, x45, wr .i64 (x37 + 1), v46) (Nat.lt_succ_self _) ⟨hs47, h⟩ (Sub_cons rfl (Sub_cons rfl (Sub_nil))) (.cons rfl (.cons rfl (.cons rfl (.cons rfl (.nil))))) (ks := [3, 4, 5, 1]) rfl (by decide)
    ·
      replace h := cn_f hc h
      refine WP_skip ?_
      refine WQ_block ?_
      refine WQ_then ?_
      refine WP_region ?_
      refine WL_v rfl (VS_add rfl rfl rfl) ?_
      refine WL_v rfl (VS_move rfl) ?_
      refine WL_nil ?_
      exact WQ_loops (m39, x34, wr .i64 (x37 + 1), v35) (Nat.lt_succ_self _) ⟨hs36, h⟩ (Sub_cons rfl (Sub_cons rfl (Sub_nil))) (.cons rfl (.cons rfl (.cons rfl (.cons rfl (.nil))))) (ks := [2, 3, 4, 0]) rfl (by decide)
  ·
    replace h := cn_f hc h
    refine WP_exit ?_
    refine WQ_then_exit ?_
    refine WQ_then_exit ?_
    refine WQ_block_exit ?_
    refine WQ_then ?_
    refine WP_seq ?_
    refine WP_region ?_
    refine WL_v rfl (VS_move rfl) ?_
    refine WL_v rfl (VS_assign rfl) ?_
    refine WL_nil ?_
    refine WQ_then ?_
    refine WP_ret ?_
    replace h := Option.some.inj h
    subst h
    refine WQ_bundle (R := [Row v35 26 1 (LI .u32) x34]) (H' := [.cells q1_0 3 ((LI .i64).enc a1_0)]) (ks := [0, 3]) rfl (by decide) ?_
    have p48 : Fz (Hs [.ext (blks [Row v35 26 1 (LI .u32) x34]) (Hs [Row v35 26 1 (LI .u32) x34])]) v35 (LI .u32) x34 := (Fz.row (e := 26) (sz := 1) (L := (LI .u32)) (xs := x34) rfl hs36).mono ent
    exact WQ_ret (v35, [.cells q1_0 3 ((LI .i64).enc a1_0)], blks [Row v35 26 1 (LI .u32) x34], Hs [Row v35 26 1 (LI .u32) x34]) rfl (.tmp rfl .nil) ⟨_, rfl, rfl, p48⟩ rfl (ks := [0, 1]) rfl (by decide)
def token_Tokens_Of (n : Nat) (a0 : token_Tokens) (a1 : Int) : Option (List Int) :=
  bd (token_Tokens_those__token_Tokens_Of_1 n a0 a1) fun x21 =>
  some x21
theorem c_token_Tokens_Of {n : Nat} {a0 : token_Tokens} {a1 : Int} {r : (List Int)}  (h : token_Tokens_Of n a0 a1 = some r) : FnB Try.prog 89 [.agg (L_token_Tokens.enc a0).toArray, .int .i64 a1] (fun _ => True) (fun J v => Fz J v (LI .u32) r) := by
  unfold token_Tokens_Of at h
  refine fn_of Try.func89 (by kernel_rfl) rfl Try.ntmps89 rfl (fun cx hbs hpre hro => ?_)
  refine WP_seq ?_
  refine WP_region ?_
  refine WL_x rfl (RX_boxL L_token_Tokens a0 rfl rfl) (fun b2 _ => ?_)
  refine WL_x rfl (RX_boxL (LI .i64) a1 rfl rfl) (fun b3 _ => ?_)
  refine WL_v rfl (VS_assign rfl) ?_
  refine WL_nil ?_
  refine WQ_then ?_
  refine WP_seq ?_
  obtain ⟨x21, hx21, h⟩ := bd_e h
  refine WP_region ?_
  refine WL_v rfl (VS_lda (M := L_token_Tokens) (Pth.id (L := L_token_Tokens)) rfl rfl) ?_
  refine WL_v rfl (VS_makeFunc rfl) ?_
  refine WL_x rfl (RX_callH (K := (fun _ => True)) (Hin := [.cells b3 3 ((LI .i64).enc a1)]) (rest := [.cells b2 166 (L_token_Tokens.enc a0)]) (ks := [0, 1]) (c_token_Tokens_those__token_Tokens_Of_1 hx21) rfl rfl rfl rfl (by decide)) (fun ⟨w22, ho28, bs23, J24⟩ hp25 => ?_)
  obtain ⟨v27, rfl, rfl, f26⟩ := hp25
  replace f26 : Fz (Hs [.ext bs23 J24]) w22 (LI .u32) x21 := f26
  dsimp only [List.cons_append, List.nil_append]
  refine WL_v rfl (VS_assign rfl) ?_
  refine WL_nil ?_
  refine WQ_then ?_
  refine WP_ret ?_
  replace h := Option.some.inj h
  subst h
  refine WQ_bundle (R := [.ext bs23 J24]) (H' := []) (ks := [0]) rfl (by decide) ?_
  have p29 : Fz (Hs [.ext (blks [.ext bs23 J24]) (Hs [.ext bs23 J24])]) w22 (LI .u32) x21 := f26.mono ent
  exact WQ_ret (w22, blks [.ext bs23 J24], Hs [.ext bs23 J24]) rfl (.tmp rfl .nil) p29 rfl (ks := [0]) rfl (by decide)
def token_Tokens_Reads (n : Nat) (a0 : token_Tokens) (a1 : Int) (a2 : Int) : Option Bool :=
  bd (token_Tokens_right n a0 a1 a2) fun x21 =>
  bd (token_Tokens_good n a0 a2) fun x22 =>
  some (x22 && (!x21.2))
theorem c_token_Tokens_Reads {n : Nat} {a0 : token_Tokens} {a1 : Int} {a2 : Int} {r : Bool}  (h : token_Tokens_Reads n a0 a1 a2 = some r) : FnV Try.prog 92 [.agg (L_token_Tokens.enc a0).toArray, .int .u32 a1, .int .u32 a2] (.bool r) := by
  unfold token_Tokens_Reads at h
  refine fn_of Try.func92 (by kernel_rfl) rfl Try.ntmps92 rfl (fun cx hbs hpre hro => ?_)
  refine WP_seq ?_
  refine WP_region ?_
  refine WL_x rfl (RX_boxL L_token_Tokens a0 rfl rfl) (fun b3 _ => ?_)
  refine WL_v rfl (VS_assign rfl) ?_
  refine WL_nil ?_
  refine WQ_then ?_
  refine WP_seq ?_
  obtain ⟨x21, hx21, h⟩ := bd_e h
  refine WP_region ?_
  refine WL_v rfl (VS_lda (M := L_token_Tokens) (Pth.id (L := L_token_Tokens)) rfl rfl) ?_
  refine WL_v rfl (VS_move rfl) ?_
  refine WL_v rfl (VS_move rfl) ?_
  refine WL_v rfl (VS_call (c_token_Tokens_right hx21) rfl (fun _ _ _ => trivial)) ?_
  refine WL_v rfl (VS_move rfl) ?_
  refine WL_v rfl (VS_extract rfl rfl) ?_
  refine WL_v rfl (VS_extract rfl rfl) ?_
  refine WL_v rfl (VS_assign rfl) ?_
  refine WL_v rfl (VS_assign rfl) ?_
  refine WL_nil ?_
  refine WQ_then ?_
  refine WP_seq ?_
  obtain ⟨x22, hx22, h⟩ := bd_e h
  refine WP_region ?_
  refine WL_v rfl (VS_lda (M := L_token_Tokens) (Pth.id (L := L_token_Tokens)) rfl rfl) ?_
  refine WL_v rfl (VS_move rfl) ?_
  refine WL_v rfl (VS_call (c_token_Tokens_good hx22) rfl (fun _ _ _ => trivial)) ?_
  refine WL_v rfl (VS_move rfl) ?_
  refine WL_g (Gd_b rfl rfl) rfl (fun hb => VS_move rfl) ?_
  refine WL_g (Gd_b rfl rfl) rfl (fun hb => VS_not (gev rfl hb)) ?_
  refine WL_v rfl (VS_and rfl rfl) ?_
  refine WL_v rfl (VS_assign rfl) ?_
  refine WL_nil ?_
  refine WQ_then ?_
  refine WP_ret ?_
  replace h := Option.some.inj h
  subst h
  exact WQ_ret () rfl (.tmp rfl .nil) trivial rfl (ks := []) rfl (by decide)
def token_Tokens_Return_1_1 (n : Nat) (a0 : token_Token) (a1 : Int) : Option Bool :=
  some (a0.Above == a1)
theorem c_token_Tokens_Return_1_1 {n : Nat} {a0 : token_Token} {a1 : Int} {r : Bool} {q1 : Nat} (h : token_Tokens_Return_1_1 n a0 a1 = some r) : Bw.Fn (α := Unit) Try.prog 127 [.agg (L_token_Token.enc a0).toArray, Ptr q1 0] (Fut (blks [.cells q1 26 ((LI .u32).enc a1)]) (fun _ => True)) [.cells q1 26 ((LI .u32).enc a1)] (fun _ => True) (fun _ => (.bool r)) (fun _ => [.cells q1 26 ((LI .u32).enc a1)]) := by
  unfold token_Tokens_Return_1_1 at h
  refine fn_of Try.func127 (by kernel_rfl) rfl Try.ntmps127 rfl (fun cx hbs hpre hro => ?_)
  refine WP_seq ?_
  refine WP_region ?_
  refine WL_x rfl (RX_boxL L_token_Token a0 rfl rfl) (fun b2 _ => ?_)
  refine WL_v rfl (VS_assign rfl) ?_
  refine WL_nil ?_
  refine WQ_then ?_
  refine WP_seq ?_
  refine WP_region ?_
  refine WL_v rfl (VS_field0 rfl) ?_
  refine WL_v rfl (VS_ldi P_token_Token_Above rfl) ?_
  refine WL_v rfl (VS_ldi (Pth.id (L := (LI .u32))) rfl) ?_
  refine WL_v rfl (VS_eql rfl rfl) ?_
  refine WL_v rfl (VS_assign rfl) ?_
  refine WL_nil ?_
  refine WQ_then ?_
  refine WP_ret ?_
  replace h := Option.some.inj h
  subst h
  exact WQ_ret () rfl (.tmp rfl .nil) trivial rfl (ks := [1]) rfl (by decide)
def token_Tokens_those__token_Tokens_Return_1_1 (n : Nat) (a0 : token_Tokens) (a1_0 : Int) : Option (List Int) :=
  bd (handle_Book_Issued n a0.book) fun x21 =>
  loop2 (fun k40 (x34 : (List Int)) (x37 : Int) =>
  cn (decide (x37 < (x21.length : Int))) (
  gu (inb x37 x21.length) <|
  bd (token_Tokens_Get n a0 (x21.getD (Int.toNat x37) default)) fun x42 =>
  bd (token_Tokens_Return_1_1 n x42.1 a1_0) fun x43 =>
  cn (x43) (
  gu (apok x34.length 1 4) <|
  lt (x34 ++ ([(x21.getD (Int.toNat x37) default)]) : List Int) fun x45 =>
  k40 x45 (wr .i64 (x37 + 1))) (
  k40 x34 (wr .i64 (x37 + 1)))) (
  some x34)) n ([]) 0
theorem c_token_Tokens_those__token_Tokens_Return_1_1 {n : Nat} {a0 : token_Tokens} {a1_0 : Int} {r : (List Int)} {q1_0 : Nat} (h : token_Tokens_those__token_Tokens_Return_1_1 n a0 a1_0 = some r) : FnC Try.prog 126 [.agg (L_token_Tokens.enc a0).toArray, .func (.func 127) #[] #[Ptr q1_0 0]] (fun _ => True) [.cells q1_0 26 ((LI .u32).enc a1_0)] (fun J v ho => ∃ u0, v = (u0) ∧ ho = [.cells q1_0 26 ((LI .u32).enc a1_0)] ∧ Fz J u0 (LI .u32) (r)) := by
  unfold token_Tokens_those__token_Tokens_Return_1_1 at h
  refine fn_of Try.func126 (by kernel_rfl) rfl Try.ntmps126 rfl (fun cx hbs hpre hro => ?_)
  refine WP_seq ?_
  refine WP_region ?_
  refine WL_x rfl (RX_boxL L_token_Tokens a0 rfl rfl) (fun b2 _ => ?_)
  refine WL_v rfl (VS_assign rfl) ?_
  refine WL_nil ?_
  refine WQ_then ?_
  refine WP_seq ?_
  refine WP_region ?_
  refine WL_v rfl (VS_assign rfl) ?_
  refine WL_nil ?_
  refine WQ_then ?_
  refine WP_seq ?_
  refine WP_seq ?_
  obtain ⟨x21, hx21, h⟩ := bd_e h
  refine WP_region ?_
  refine WL_v rfl (VS_field0 rfl) ?_
  refine WL_v rfl (VS_lda (M := L_handle_Book) P_token_Tokens_book rfl rfl) ?_
  refine WL_x rfl (RX_callB (c_handle_Book_Issued hx21) rfl) (fun ⟨w22, bs23, J24⟩ hp25 => ?_)
  have f26 : Fz (Hs [.ext bs23 J24]) w22 (LI .u32) x21 := hp25
  refine WL_v rfl (VS_lenF f26 rfl) ?_
  refine WL_v rfl (VS_move rfl) ?_
  refine WL_nil ?_
  refine WQ_then ?_
  refine WP_block ?_
  refine WP_rowN 26 1 (LI .u32) ?_
  obtain ⟨lb38, hlb38, h⟩ := lp2_i h
  refine WP_loops (α := Nat × (List Int) × Int × Value) [1, 2, 12, 13] (.cons rfl (.cons rfl (.cons rfl (.cons rfl (.nil))))) (fun (m39, x34, x37, v35) => [(5, v35), (14, .int .i64 x37)]) (fun (m39, x34, x37, v35) => [Row v35 26 1 (LI .u32) x34, .ext bs23 J24, .cells b2 166 (L_token_Tokens.enc a0), .cells q1_0 26 ((LI .u32).enc a1_0)]) (fun (m39, x34, x37, v35) => SlN v35 x34.length ∧ loop2 lb38 m39 x34 x37 = some r) (fun (m39, x34, x37, v35) => m39) (n, [], 0, .slice none 0 0) ⟨⟨_, _, rfl⟩, h⟩ (Sub_cons rfl (Sub_cons rfl (Sub_nil))) (ks := [0, 1, 2, 3]) rfl (by decide) ?_
  rintro ⟨m39, x34, x37, v35⟩ ⟨hs36, h⟩
  replace h : loop2 lb38 m39 x34 x37 = some r := h
  replace h := lp2_s hlb38 h
  obtain ⟨m39, rfl, h⟩ := h
  refine WP_seq ?_
  refine WP_region ?_
  refine WL_v rfl (VS_lss rfl rfl) ?_
  refine WL_nil ?_
  refine WQ_then ?_
  refine WP_seq ?_
  refine WP_if rfl (fun hc => ?_) (fun hc => ?_)
  ·
    replace h := cn_t hc h
    refine WP_skip ?_
    refine WQ_then ?_
    refine WP_seq ?_
    refine WP_block ?_
    refine WP_seq ?_
    obtain ⟨hg41, h⟩ := gu_e h
    refine WP_region ?_
    refine WL_v rfl (VS_ixF (m := (Int.toNat x37)) f26 rfl rfl rfl (inb_e hg41).1 (inb_e hg41).2) ?_
    refine WL_v rfl (VS_ldiF f26 (Pth.idx (L := (LI .u32)) (m := (x21.length)) (k := 1) ((Int.toNat x37)) (inb_e hg41).2 rfl) rfl) ?_
    refine WL_v rfl (VS_assign rfl) ?_
    refine WL_nil ?_
    refine WQ_then ?_
    refine WP_seq ?_
    obtain ⟨x42, hx42, h⟩ := bd_e h
    refine WP_region ?_
    refine WL_v rfl (VS_lda (M := L_token_Tokens) (Pth.id (L := L_token_Tokens)) rfl rfl) ?_
    refine WL_v rfl (VS_move rfl) ?_
    refine WL_v rfl (VS_call (c_token_Tokens_Get hx42) rfl (fun _ _ _ => trivial)) ?_
    refine WL_v rfl (VS_move rfl) ?_
    refine WL_v rfl (VS_extract rfl rfl) ?_
    refine WL_v rfl (VS_extract rfl rfl) ?_
    refine WL_x rfl (RX_allocL (L := L_token_Token) (z := Z_token_Token) ⟨by kernel_rfl⟩) (fun b8 _ => ?_)
    refine WL_x0 (RX_st (M := L_token_Token) (Pth.id (L := L_token_Token)) x42.1 x42.1 rfl rfl rfl rfl rfl) (fun _ _ => ?_)
    refine WL_v rfl (VS_assign rfl) ?_
    refine WL_nil ?_
    refine WQ_then ?_
    refine WP_seq ?_
    obtain ⟨x43, hx43, h⟩ := bd_e h
    refine WP_region ?_
    refine WL_v rfl (VS_move rfl) ?_
    refine WL_v rfl (VS_lda (M := L_token_Token) (Pth.id (L := L_token_Token)) rfl rfl) ?_
    refine WL_x rfl (RX_callH (K := (fun _ => True)) (Hin := [.cells q1_0 26 ((LI .u32).enc a1_0)]) (rest := [.cells b8 163 (L_token_Token.enc x42.1), Row v35 26 1 (LI .u32) x34, .ext bs23 J24, .cells b2 166 (L_token_Tokens.enc a0)]) (ks := [4, 0, 1, 2, 3]) (c_token_Tokens_Return_1_1 hx43) rfl rfl rfl rfl (by decide)) (fun _ _ => ?_)
    dsimp only [List.cons_append, List.nil_append]
    refine WL_nil ?_
    refine WQ_then ?_
    refine WP_if rfl (fun hc => ?_) (fun hc => ?_)
    ·
      replace h := cn_t hc h
      obtain ⟨hg44, h⟩ := gu_e h
      obtain ⟨x45, hx45, h⟩ := lt_e h
      refine WP_region ?_
      refine WL_v rfl (VS_move rfl) ?_
      refine WL_v rfl (VS_move rfl) ?_
      refine WL_x rfl (RX_bs1 (LI .u32) (x21.getD (Int.toNat x37) default) rfl rfl rfl rfl (by decide) (by decide)) (fun b29 _ => ?_)
      refine WL_x rfl (RX_app1 (sz := 1) (L := (LI .u32)) (xs := x34) (y := (x21.getD (Int.toNat x37) default)) (bytes := 4) rfl rfl rfl (apok_e hg44).1 (apok_e hg44).2) (fun v46 hs47 => ?_)
      rw [← hx45] at hs47; rw [← hx45]
      refine WL_v rfl (VS_assign rfl) ?_
      refine WL_nil ?_
      refine WQ_block ?_
      refine WQ_then ?_
      refine WP_region ?_
      refine WL_v rfl (VS_add rfl rfl rfl) ?_
      refine WL_v rfl (VS_move rfl) ?_
      refine WL_nil ?_
      exact WQ_loops (m39, x45, wr .i64 (x37 + 1), v46) (Nat.lt_succ_self _) ⟨hs47, h⟩ (Sub_cons rfl (Sub_cons rfl (Sub_nil))) (.cons rfl (.cons rfl (.cons rfl (.cons rfl (.nil))))) (ks := [3, 4, 5, 1]) rfl (by decide)
    ·
      replace h := cn_f hc h
      refine WP_skip ?_
      refine WQ_block ?_
      refine WQ_then ?_
      refine WP_region ?_
      refine WL_v rfl (VS_add rfl rfl rfl) ?_
      refine WL_v rfl (VS_move rfl) ?_
      refine WL_nil ?_
      exact WQ_loops (m39, x34, wr .i64 (x37 + 1), v35) (Nat.lt_succ_self _) ⟨hs36, h⟩ (Sub_cons rfl (Sub_cons rfl (Sub_nil))) (.cons rfl (.cons rfl (.cons rfl (.cons rfl (.nil))))) (ks := [2, 3, 4, 0]) rfl (by decide)
  ·
    replace h := cn_f hc h
    refine WP_exit ?_
    refine WQ_then_exit ?_
    refine WQ_then_exit ?_
    refine WQ_block_exit ?_
    refine WQ_then ?_
    refine WP_seq ?_
    refine WP_region ?_
    refine WL_v rfl (VS_move rfl) ?_
    refine WL_v rfl (VS_assign rfl) ?_
    refine WL_nil ?_
    refine WQ_then ?_
    refine WP_ret ?_
    replace h := Option.some.inj h
    subst h
    refine WQ_bundle (R := [Row v35 26 1 (LI .u32) x34]) (H' := [.cells q1_0 26 ((LI .u32).enc a1_0)]) (ks := [0, 3]) rfl (by decide) ?_
    have p48 : Fz (Hs [.ext (blks [Row v35 26 1 (LI .u32) x34]) (Hs [Row v35 26 1 (LI .u32) x34])]) v35 (LI .u32) x34 := (Fz.row (e := 26) (sz := 1) (L := (LI .u32)) (xs := x34) rfl hs36).mono ent
    exact WQ_ret (v35, [.cells q1_0 26 ((LI .u32).enc a1_0)], blks [Row v35 26 1 (LI .u32) x34], Hs [Row v35 26 1 (LI .u32) x34]) rfl (.tmp rfl .nil) ⟨_, rfl, rfl, p48⟩ rfl (ks := [0, 1]) rfl (by decide)
def token_Tokens_Return_1 : Nat → Int → (List (Int × Bool)) → token_Tokens → Option (List (Int × Bool))
  | 0, _, _, _ => none
  | n + 1, a0, a1, a2 =>
  lt (mset a1 a0 true : (List (Int × Bool))) fun x21 =>
  bd (token_Tokens_those__token_Tokens_Return_1_1 n a2 a0) fun x22 =>
  loop2 (fun k37 (x33 : Int) (x34 : (List (Int × Bool))) =>
  cn (decide (x33 < (x22.length : Int))) (
  gu (inb x33 x22.length) <|
  bd (token_Tokens_Return_1 n (x22.getD (Int.toNat x33) default) x34 a2) fun x39 =>
  k37 (wr .i64 (x33 + 1)) x39) (
  some x34)) n 0 x21
theorem c_token_Tokens_Return_1 {n : Nat} {a0 : Int} {a1 : (List (Int × Bool))} {a2 : token_Tokens} {r : (List (Int × Bool))} {q1 m1 : Nat} {q2 : Nat} {q3 : Nat} (h : token_Tokens_Return_1 n a0 a1 a2 = some r) : Bw.Fn (α := Unit) Try.prog 125 [.int .u32 a0, Ptr q1 0, Ptr q2 0, Ptr q3 0] (Fut (blks [.cells q1 84 [.map (some m1)], Mp m1 .u32 Value.bool a1, .cells q2 166 (L_token_Tokens.enc a2), .cells q3 217 [.func (.func 125) #[] #[Ptr q1 0, Ptr q2 0, Ptr q3 0]]]) (fun _ => True)) [.cells q1 84 [.map (some m1)], Mp m1 .u32 Value.bool a1, .cells q2 166 (L_token_Tokens.enc a2), .cells q3 217 [.func (.func 125) #[] #[Ptr q1 0, Ptr q2 0, Ptr q3 0]]] (fun _ => True) (fun _ => (.tuple #[])) (fun _ => [.cells q1 84 [.map (some m1)], Mp m1 .u32 Value.bool r, .cells q2 166 (L_token_Tokens.enc a2), .cells q3 217 [.func (.func 125) #[] #[Ptr q1 0, Ptr q2 0, Ptr q3 0]]]) := by
  induction n generalizing a0 a1 a2 r q1 m1 q2 q3 with
  | zero => cases h
  | succ n ih =>
  rw [token_Tokens_Return_1] at h
  refine fn_of Try.func125 (by kernel_rfl) rfl Try.ntmps125 rfl (fun cx hbs hpre hro => ?_)
  refine WP_seq ?_
  refine WP_region ?_
  refine WL_x rfl (RX_boxL (LI .u32) a0 rfl rfl) (fun b4 _ => ?_)
  refine WL_nil ?_
  refine WQ_then ?_
  refine WP_seq ?_
  obtain ⟨x21, hx21, h⟩ := lt_e h
  refine WP_region ?_
  refine WL_v rfl (VS_load rfl rfl) ?_
  refine WL_v rfl (VS_ldi (Pth.id (L := (LI .u32))) rfl) ?_
  refine WL_x0 (RX_mapUpdate true rfl rfl rfl rfl) (fun _ _ => ?_)
  rw [← hx21]
  refine WL_nil ?_
  refine WQ_then ?_
  refine WP_seq ?_
  obtain ⟨x22, hx22, h⟩ := bd_e h
  refine WP_region ?_
  refine WL_v rfl (VS_lda (M := L_token_Tokens) (Pth.id (L := L_token_Tokens)) rfl rfl) ?_
  refine WL_v rfl (VS_makeFunc rfl) ?_
  refine WL_x rfl (RX_callH (K := (fun _ => True)) (Hin := [.cells b4 26 ((LI .u32).enc a0)]) (rest := [.cells q1 84 [.map (some m1)], Mp m1 .u32 Value.bool x21, .cells q2 166 (L_token_Tokens.enc a2), .cells q3 217 [.func (.func 125) #[] #[Ptr q1 0, Ptr q2 0, Ptr q3 0]]]) (ks := [0, 1, 2, 3, 4]) (c_token_Tokens_those__token_Tokens_Return_1_1 hx22) rfl rfl rfl rfl (by decide)) (fun ⟨w23, ho29, bs24, J25⟩ hp26 => ?_)
  obtain ⟨v28, rfl, rfl, f27⟩ := hp26
  replace f27 : Fz (Hs [.ext bs24 J25]) w23 (LI .u32) x22 := f27
  dsimp only [List.cons_append, List.nil_append]
  refine WL_v rfl (VS_lenF f27 rfl) ?_
  refine WL_v rfl (VS_move rfl) ?_
  refine WL_nil ?_
  refine WQ_then ?_
  refine WP_block ?_
  obtain ⟨lb35, hlb35, h⟩ := lp2_i h
  refine WP_loops (α := Nat × Int × (List (Int × Bool))) [3, 11, 12] (.cons rfl (.cons rfl (.cons rfl (.nil)))) (fun (m36, x33, x34) => [(13, .int .i64 x33)]) (fun (m36, x33, x34) => [.ext bs24 J25, .cells b4 26 ((LI .u32).enc a0), .cells q1 84 [.map (some m1)], Mp m1 .u32 Value.bool x34, .cells q2 166 (L_token_Tokens.enc a2), .cells q3 217 [.func (.func 125) #[] #[Ptr q1 0, Ptr q2 0, Ptr q3 0]]]) (fun (m36, x33, x34) => loop2 lb35 m36 x33 x34 = some r) (fun (m36, x33, x34) => m36) (n, 0, x21) h (Sub_cons rfl (Sub_nil)) (ks := [0, 1, 2, 3, 4, 5]) rfl (by decide) ?_
  rintro ⟨m36, x33, x34⟩ h
  replace h : loop2 lb35 m36 x33 x34 = some r := h
  replace h := lp2_s hlb35 h
  obtain ⟨m36, rfl, h⟩ := h
  refine WP_seq ?_
  refine WP_region ?_
  refine WL_v rfl (VS_lss rfl rfl) ?_
  refine WL_nil ?_
  refine WQ_then ?_
  refine WP_seq ?_
  refine WP_if rfl (fun hc => ?_) (fun hc => ?_)
  ·
    replace h := cn_t hc h
    refine WP_skip ?_
    refine WQ_then ?_
    refine WP_seq ?_
    refine WP_block ?_
    refine WP_seq ?_
    obtain ⟨hg38, h⟩ := gu_e h
    refine WP_region ?_
    refine WL_v rfl (VS_ixF (m := (Int.toNat x33)) f27 rfl rfl rfl (inb_e hg38).1 (inb_e hg38).2) ?_
    refine WL_v rfl (VS_ldiF f27 (Pth.idx (L := (LI .u32)) (m := (x22.length)) (k := 1) ((Int.toNat x33)) (inb_e hg38).2 rfl) rfl) ?_
    refine WL_v rfl (VS_assign rfl) ?_
    refine WL_nil ?_
    refine WQ_then ?_
    obtain ⟨x39, hx39, h⟩ := bd_e h
    refine WP_region ?_
    refine WL_v rfl (VS_load rfl rfl) ?_
    refine WL_v rfl (VS_move rfl) ?_
    refine WL_x rfl (RX_callH (K := (fun _ => True)) (Hin := [.cells q1 84 [.map (some m1)], Mp m1 .u32 Value.bool x34, .cells q2 166 (L_token_Tokens.enc a2), .cells q3 217 [.func (.func 125) #[] #[Ptr q1 0, Ptr q2 0, Ptr q3 0]]]) (rest := [.ext bs24 J25, .cells b4 26 ((LI .u32).enc a0)]) (ks := [2, 3, 4, 5, 0, 1]) (ih hx39) rfl rfl rfl rfl (by decide)) (fun _ _ => ?_)
    dsimp only [List.cons_append, List.nil_append]
    refine WL_nil ?_
    refine WQ_block ?_
    refine WQ_then ?_
    refine WP_region ?_
    refine WL_v rfl (VS_add rfl rfl rfl) ?_
    refine WL_v rfl (VS_move rfl) ?_
    refine WL_nil ?_
    exact WQ_loops (m36, wr .i64 (x33 + 1), x39) (Nat.lt_succ_self _) h (Sub_cons rfl (Sub_nil)) (.cons rfl (.cons rfl (.cons rfl (.nil)))) (ks := [4, 5, 0, 1, 2, 3]) rfl (by decide)
  ·
    replace h := cn_f hc h
    refine WP_exit ?_
    refine WQ_then_exit ?_
    refine WQ_then_exit ?_
    refine WQ_block_exit ?_
    replace h := Option.some.inj h
    subst h
    exact WQ_end () rfl .nil trivial rfl (ks := [2, 3, 4, 5]) rfl (by decide)
def token_Tokens_Return (n : Nat) (a0 : token_Tokens) (a1 : Int) : Option (token_Tokens × (List Int) × Int) :=
  bd (handle_Book_Good n a0.book a1) fun x21 =>
  cn ((!x21)) (
  some (a0, ([] : List Int), 4)) (
  bd (token_Tokens_Return_1 n a1 ([] : List (Int × Bool)) a0) fun x23 =>
  bd (handle_Book_Issued n a0.book) fun x24 =>
  loop2 (fun k43 (x37 : (List Int)) (x40 : Int) =>
  cn (decide (x40 < (x24.length : Int))) (
  gu (inb x40 x24.length) <|
  cn ((mget x23 (x24.getD (Int.toNat x40) default) false)) (
  gu (apok x37.length 1 4) <|
  lt (x37 ++ ([(x24.getD (Int.toNat x40) default)]) : List Int) fun x46 =>
  k43 x46 (wr .i64 (x40 + 1))) (
  k43 x37 (wr .i64 (x40 + 1)))) (
  bd (token_Tokens_without n a0 x37) fun x49 =>
  some (x49, x37, 0))) n ([]) 0)
theorem c_token_Tokens_Return {n : Nat} {a0 : token_Tokens} {a1 : Int} {r : token_Tokens × (List Int) × Int}  (h : token_Tokens_Return n a0 a1 = some r) : FnB Try.prog 80 [.agg (L_token_Tokens.enc a0).toArray, .int .u32 a1] (fun _ => True) (fun J v => ∃ u1, v = (.tuple #[.agg (L_token_Tokens.enc r.1).toArray, u1, .int .i64 r.2.2]) ∧ Fz J u1 (LI .u32) (r.2.1)) := by
  unfold token_Tokens_Return at h
  refine fn_of Try.func80 (by kernel_rfl) rfl Try.ntmps80 rfl (fun cx hbs hpre hro => ?_)
  refine WP_seq ?_
  refine WP_region ?_
  refine WL_x rfl (RX_boxL L_token_Tokens a0 rfl rfl) (fun b2 _ => ?_)
  refine WL_x rfl (RX_allocL (L := L_token_Tokens) (z := Z_token_Tokens) ⟨by kernel_rfl⟩) (fun b4 _ => ?_)
  refine WL_v rfl (VS_assign rfl) ?_
  refine WL_v rfl (VS_assign rfl) ?_
  refine WL_nil ?_
  refine WQ_then ?_
  refine WP_seq ?_
  refine WP_seq ?_
  obtain ⟨x21, hx21, h⟩ := bd_e h
  refine WP_region ?_
  refine WL_v rfl (VS_field0 rfl) ?_
  refine WL_v rfl (VS_lda (M := L_handle_Book) P_token_Tokens_book rfl rfl) ?_
  refine WL_v rfl (VS_move rfl) ?_
  refine WL_v rfl (VS_call (c_handle_Book_Good hx21) rfl (fun _ _ _ => trivial)) ?_
  refine WL_v rfl (VS_not rfl) ?_
  refine WL_nil ?_
  refine WQ_then ?_
  refine WP_if rfl (fun hc => ?_) (fun hc => ?_)
  ·
    replace h := cn_t hc h
    refine WP_seq ?_
    refine WP_region ?_
    refine WL_v rfl (VS_lda (M := L_token_Tokens) (Pth.id (L := L_token_Tokens)) rfl rfl) ?_
    refine WL_x0 (RX_st (M := L_token_Tokens) (Pth.id (L := L_token_Tokens)) a0 a0 rfl rfl rfl rfl rfl) (fun _ _ => ?_)
    refine WL_v rfl (VS_assign rfl) ?_
    refine WL_v rfl (VS_assign rfl) ?_
    refine WL_nil ?_
    refine WQ_then ?_
    refine WP_ret ?_
    refine WQ_then_ret ?_
    replace h := Option.some.inj h
    subst h
    refine WQ_bundle (R := []) (H' := [.cells b4 166 (L_token_Tokens.enc a0)]) (ks := [0]) rfl (by decide) ?_
    have p22 : Fz (Hs [.ext (blks []) (Hs [])]) (.slice none 0 0) (LI .u32) ([] : List Int) := (Fz.nil (A := Hs [])).mono ent
    exact WQ_ret (.tuple #[.agg (L_token_Tokens.enc a0).toArray, .slice none 0 0, .int .i64 4], blks [], Hs []) rfl (.agg rfl inferInstance inferInstance (enc_len _ _) (.tmp rfl (.tmp rfl .nil))) ⟨_, rfl, p22⟩ rfl (ks := [0]) rfl (by decide)
  ·
    replace h := cn_f hc h
    refine WP_skip ?_
    refine WQ_then ?_
    refine WP_seq ?_
    refine WP_region ?_
    refine WL_x rfl (RX_makeMap .u32 Value.bool) (fun b18 _ => ?_)
    refine WL_x rfl (RX_alloc (hz := (⟨by kernel_rfl⟩ : TZero Try.prog 84 [.map none]))) (fun b7 _ => ?_)
    refine WL_x0 (RX_store (n := 1) (cs' := [.map (some b18)]) rfl rfl rfl rfl (by decide) (OneC_of rfl) rfl) (fun _ _ => ?_)
    refine WL_nil ?_
    refine WQ_then ?_
    refine WP_seq ?_
    refine WP_region ?_
    refine WL_x rfl (RX_alloc (hz := (⟨by kernel_rfl⟩ : TZero Try.prog 217 [.nilFunc]))) (fun b8 _ => ?_)
    refine WL_nil ?_
    refine WQ_then ?_
    refine WP_seq ?_
    refine WP_region ?_
    refine WL_v rfl (VS_makeFunc rfl) ?_
    refine WL_x0 (RX_store (n := 1) (cs' := [.func (.func 125) #[] #[Ptr b7 0, Ptr b2 0, Ptr b8 0]]) rfl rfl rfl rfl (by decide) (OneC_of rfl) rfl) (fun _ _ => ?_)
    refine WL_nil ?_
    refine WQ_then ?_
    refine WP_seq ?_
    obtain ⟨x23, hx23, h⟩ := bd_e h
    refine WP_region ?_
    refine WL_v rfl (VS_load rfl rfl) ?_
    refine WL_v rfl (VS_move rfl) ?_
    refine WL_x rfl (RX_callH (K := (fun _ => True)) (Hin := [.cells b7 84 [.map (some b18)], Mp b18 .u32 Value.bool ([] : List (Int × Bool)), .cells b2 166 (L_token_Tokens.enc a0), .cells b8 217 [.func (.func 125) #[] #[Ptr b7 0, Ptr b2 0, Ptr b8 0]]]) (rest := [.cells b4 166 (L_token_Tokens.enc Z_token_Tokens)]) (ks := [1, 2, 4, 0, 3]) (c_token_Tokens_Return_1 hx23) rfl rfl rfl rfl (by decide)) (fun _ _ => ?_)
    dsimp only [List.cons_append, List.nil_append]
    refine WL_nil ?_
    refine WQ_then ?_
    refine WP_seq ?_
    refine WP_region ?_
    refine WL_v rfl (VS_assign rfl) ?_
    refine WL_nil ?_
    refine WQ_then ?_
    refine WP_seq ?_
    refine WP_seq ?_
    obtain ⟨x24, hx24, h⟩ := bd_e h
    refine WP_region ?_
    refine WL_v rfl (VS_field0 rfl) ?_
    refine WL_v rfl (VS_lda (M := L_handle_Book) P_token_Tokens_book rfl rfl) ?_
    refine WL_x rfl (RX_callB (c_handle_Book_Issued hx24) rfl) (fun ⟨w25, bs26, J27⟩ hp28 => ?_)
    have f29 : Fz (Hs [.ext bs26 J27]) w25 (LI .u32) x24 := hp28
    refine WL_v rfl (VS_lenF f29 rfl) ?_
    refine WL_v rfl (VS_move rfl) ?_
    refine WL_nil ?_
    refine WQ_then ?_
    refine WP_block ?_
    refine WP_rowN 26 1 (LI .u32) ?_
    obtain ⟨lb41, hlb41, h⟩ := lp2_i h
    refine WP_loops (α := Nat × (List Int) × Int × Value) [2, 4, 7, 25, 26] (.cons rfl (.cons rfl (.cons rfl (.cons rfl (.cons rfl (.nil)))))) (fun (m42, x37, x40, v38) => [(9, v38), (27, .int .i64 x40)]) (fun (m42, x37, x40, v38) => [Row v38 26 1 (LI .u32) x37, .ext bs26 J27, .cells b7 84 [.map (some b18)], Mp b18 .u32 Value.bool x23, .cells b2 166 (L_token_Tokens.enc a0), .cells b8 217 [.func (.func 125) #[] #[Ptr b7 0, Ptr b2 0, Ptr b8 0]], .cells b4 166 (L_token_Tokens.enc Z_token_Tokens)]) (fun (m42, x37, x40, v38) => SlN v38 x37.length ∧ loop2 lb41 m42 x37 x40 = some r) (fun (m42, x37, x40, v38) => m42) (n, [], 0, .slice none 0 0) ⟨⟨_, _, rfl⟩, h⟩ (Sub_cons rfl (Sub_cons rfl (Sub_nil))) (ks := [0, 1, 2, 3, 4, 5, 6]) rfl (by decide) ?_
    rintro ⟨m42, x37, x40, v38⟩ ⟨hs39, h⟩
    replace h : loop2 lb41 m42 x37 x40 = some r := h
    replace h := lp2_s hlb41 h
    obtain ⟨m42, rfl, h⟩ := h
    refine WP_seq ?_
    refine WP_region ?_
    refine WL_v rfl (VS_lss rfl rfl) ?_
    refine WL_nil ?_
    refine WQ_then ?_
    refine WP_seq ?_
    refine WP_if rfl (fun hc => ?_) (fun hc => ?_)
    ·
      replace h := cn_t hc h
      refine WP_skip ?_
      refine WQ_then ?_
      refine WP_seq ?_
      refine WP_block ?_
      refine WP_seq ?_
      obtain ⟨hg44, h⟩ := gu_e h
      refine WP_region ?_
      refine WL_v rfl (VS_ixF (m := (Int.toNat x40)) f29 rfl rfl rfl (inb_e hg44).1 (inb_e hg44).2) ?_
      refine WL_v rfl (VS_ldiF f29 (Pth.idx (L := (LI .u32)) (m := (x24.length)) (k := 1) ((Int.toNat x40)) (inb_e hg44).2 rfl) rfl) ?_
      refine WL_v rfl (VS_assign rfl) ?_
      refine WL_nil ?_
      refine WQ_then ?_
      refine WP_seq ?_
      refine WP_region ?_
      refine WL_v rfl (VS_load rfl rfl) ?_
      refine WL_v rfl (VS_move rfl) ?_
      refine WL_v rfl (VS_lookup false rfl rfl) ?_
      refine WL_nil ?_
      refine WQ_then ?_
      refine WP_if rfl (fun hc => ?_) (fun hc => ?_)
      ·
        replace h := cn_t hc h
        obtain ⟨hg45, h⟩ := gu_e h
        obtain ⟨x46, hx46, h⟩ := lt_e h
        refine WP_region ?_
        refine WL_v rfl (VS_move rfl) ?_
        refine WL_v rfl (VS_move rfl) ?_
        refine WL_x rfl (RX_bs1 (LI .u32) (x24.getD (Int.toNat x40) default) rfl rfl rfl rfl (by decide) (by decide)) (fun b36 _ => ?_)
        refine WL_x rfl (RX_app1 (sz := 1) (L := (LI .u32)) (xs := x37) (y := (x24.getD (Int.toNat x40) default)) (bytes := 4) rfl rfl rfl (apok_e hg45).1 (apok_e hg45).2) (fun v47 hs48 => ?_)
        rw [← hx46] at hs48; rw [← hx46]
        refine WL_v rfl (VS_assign rfl) ?_
        refine WL_nil ?_
        refine WQ_block ?_
        refine WQ_then ?_
        refine WP_region ?_
        refine WL_v rfl (VS_add rfl rfl rfl) ?_
        refine WL_v rfl (VS_move rfl) ?_
        refine WL_nil ?_
        exact WQ_loops (m42, x46, wr .i64 (x40 + 1), v47) (Nat.lt_succ_self _) ⟨hs48, h⟩ (Sub_cons rfl (Sub_cons rfl (Sub_nil))) (.cons rfl (.cons rfl (.cons rfl (.cons rfl (.cons rfl (.nil)))))) (ks := [1, 2, 3, 4, 5, 6, 7]) rfl (by decide)
      ·
        replace h := cn_f hc h
        refine WP_skip ?_
        refine WQ_block ?_
        refine WQ_then ?_
        refine WP_region ?_
        refine WL_v rfl (VS_add rfl rfl rfl) ?_
        refine WL_v rfl (VS_move rfl) ?_
        refine WL_nil ?_
        exact WQ_loops (m42, x37, wr .i64 (x40 + 1), v38) (Nat.lt_succ_self _) ⟨hs39, h⟩ (Sub_cons rfl (Sub_cons rfl (Sub_nil))) (.cons rfl (.cons rfl (.cons rfl (.cons rfl (.cons rfl (.nil)))))) (ks := [0, 1, 2, 3, 4, 5, 6]) rfl (by decide)
    ·
      replace h := cn_f hc h
      refine WP_exit ?_
      refine WQ_then_exit ?_
      refine WQ_then_exit ?_
      refine WQ_block_exit ?_
      refine WQ_then ?_
      refine WP_seq ?_
      obtain ⟨x49, hx49, h⟩ := bd_e h
      refine WP_region ?_
      refine WL_v rfl (VS_lda (M := L_token_Tokens) (Pth.id (L := L_token_Tokens)) rfl rfl) ?_
      refine WL_v rfl (VS_move rfl) ?_
      refine WL_v rfl (VS_call (c_token_Tokens_without (K := (Hs [Row v38 26 1 (LI .u32) x37])) ((Fz.row (e := 26) (sz := 1) (L := (LI .u32)) (xs := x37) rfl hs39).mono ent) hx49) rfl kn) ?_
      refine WL_v rfl (VS_move rfl) ?_
      refine WL_x0 (RX_st (M := L_token_Tokens) (Pth.id (L := L_token_Tokens)) x49 x49 rfl rfl rfl rfl rfl) (fun _ _ => ?_)
      refine WL_v rfl (VS_assign rfl) ?_
      refine WL_v rfl (VS_assign rfl) ?_
      refine WL_nil ?_
      refine WQ_then ?_
      refine WP_ret ?_
      replace h := Option.some.inj h
      subst h
      refine WQ_bundle (R := [Row v38 26 1 (LI .u32) x37]) (H' := [.cells b4 166 (L_token_Tokens.enc x49)]) (ks := [0, 6]) rfl (by decide) ?_
      have p50 : Fz (Hs [.ext (blks [Row v38 26 1 (LI .u32) x37]) (Hs [Row v38 26 1 (LI .u32) x37])]) v38 (LI .u32) x37 := (Fz.row (e := 26) (sz := 1) (L := (LI .u32)) (xs := x37) rfl hs39).mono ent
      exact WQ_ret (.tuple #[.agg (L_token_Tokens.enc x49).toArray, v38, .int .i64 0], blks [Row v38 26 1 (LI .u32) x37], Hs [Row v38 26 1 (LI .u32) x37]) rfl (.agg rfl inferInstance inferInstance (enc_len _ _) (.tmp rfl (.tmp rfl .nil))) ⟨_, rfl, p50⟩ rfl (ks := [0]) rfl (by decide)
def token_Tokens_Writes (n : Nat) (a0 : token_Tokens) (a1 : Int) (a2 : Int) : Option Bool :=
  bd (token_Tokens_right n a0 a1 a2) fun x21 =>
  bd (token_Tokens_good n a0 a2) fun x22 =>
  some (x22 && (x21.1 == 0))
theorem c_token_Tokens_Writes {n : Nat} {a0 : token_Tokens} {a1 : Int} {a2 : Int} {r : Bool}  (h : token_Tokens_Writes n a0 a1 a2 = some r) : FnV Try.prog 94 [.agg (L_token_Tokens.enc a0).toArray, .int .u32 a1, .int .u32 a2] (.bool r) := by
  unfold token_Tokens_Writes at h
  refine fn_of Try.func94 (by kernel_rfl) rfl Try.ntmps94 rfl (fun cx hbs hpre hro => ?_)
  refine WP_seq ?_
  refine WP_region ?_
  refine WL_x rfl (RX_boxL L_token_Tokens a0 rfl rfl) (fun b3 _ => ?_)
  refine WL_v rfl (VS_assign rfl) ?_
  refine WL_nil ?_
  refine WQ_then ?_
  refine WP_seq ?_
  obtain ⟨x21, hx21, h⟩ := bd_e h
  refine WP_region ?_
  refine WL_v rfl (VS_lda (M := L_token_Tokens) (Pth.id (L := L_token_Tokens)) rfl rfl) ?_
  refine WL_v rfl (VS_move rfl) ?_
  refine WL_v rfl (VS_move rfl) ?_
  refine WL_v rfl (VS_call (c_token_Tokens_right hx21) rfl (fun _ _ _ => trivial)) ?_
  refine WL_v rfl (VS_move rfl) ?_
  refine WL_v rfl (VS_extract rfl rfl) ?_
  refine WL_v rfl (VS_extract rfl rfl) ?_
  refine WL_v rfl (VS_assign rfl) ?_
  refine WL_v rfl (VS_assign rfl) ?_
  refine WL_nil ?_
  refine WQ_then ?_
  refine WP_seq ?_
  obtain ⟨x22, hx22, h⟩ := bd_e h
  refine WP_region ?_
  refine WL_v rfl (VS_lda (M := L_token_Tokens) (Pth.id (L := L_token_Tokens)) rfl rfl) ?_
  refine WL_v rfl (VS_move rfl) ?_
  refine WL_v rfl (VS_call (c_token_Tokens_good hx22) rfl (fun _ _ _ => trivial)) ?_
  refine WL_v rfl (VS_move rfl) ?_
  refine WL_g (Gd_b rfl rfl) rfl (fun hb => VS_move rfl) ?_
  refine WL_g (Gd_b rfl rfl) rfl (fun hb => VS_eql (gev rfl hb) rfl) ?_
  refine WL_v rfl (VS_and rfl rfl) ?_
  refine WL_v rfl (VS_assign rfl) ?_
  refine WL_nil ?_
  refine WQ_then ?_
  refine WP_ret ?_
  replace h := Option.some.inj h
  subst h
  exact WQ_ret () rfl (.tmp rfl .nil) trivial rfl (ks := []) rfl (by decide)
def law09_Of (n : Nat) (a0 : token_Token) : Option ref09_Token :=
  lt ({ Region := wr .i64 a0.Region, By := wr .i64 a0.By, To := wr .i64 a0.To, Mutable := a0.Mutable, Above := wr .i64 a0.Above } : ref09_Token) fun x21 =>
  some x21
theorem c_law09_Of {n : Nat} {a0 : token_Token} {r : ref09_Token}  (h : law09_Of n a0 = some r) : FnV Try.prog 87 [.agg (L_token_Token.enc a0).toArray] (.agg (L_ref09_Token.enc r).toArray) := by
  unfold law09_Of at h
  refine fn_of Try.func87 (by kernel_rfl) rfl Try.ntmps87 rfl (fun cx hbs hpre hro => ?_)
  refine WP_seq ?_
  refine WP_region ?_
  refine WL_x rfl (RX_boxL L_token_Token a0 rfl rfl) (fun b1 _ => ?_)
  refine WL_x rfl (RX_allocL (L := L_ref09_Token) (z := Z_ref09_Token) ⟨by kernel_rfl⟩) (fun b2 _ => ?_)
  refine WL_nil ?_
  refine WQ_then ?_
  refine WP_seq ?_
  obtain ⟨x21, hx21, h⟩ := lt_e h
  refine WP_region ?_
  refine WL_v rfl (VS_field0 rfl) ?_
  refine WL_v rfl (VS_ldi P_token_Token_Region rfl) ?_
  refine WL_v rfl (VS_conv rfl rfl) ?_
  refine WL_v rfl (VS_field0 rfl) ?_
  refine WL_v rfl (VS_ldi P_token_Token_By rfl) ?_
  refine WL_v rfl (VS_conv rfl rfl) ?_
  refine WL_v rfl (VS_field0 rfl) ?_
  refine WL_v rfl (VS_ldi P_token_Token_To rfl) ?_
  refine WL_v rfl (VS_conv rfl rfl) ?_
  refine WL_v rfl (VS_field0 rfl) ?_
  refine WL_v rfl (VS_ldb P_token_Token_Mutable rfl) ?_
  refine WL_v rfl (VS_field0 rfl) ?_
  refine WL_v rfl (VS_ldi P_token_Token_Above rfl) ?_
  refine WL_v rfl (VS_conv rfl rfl) ?_
  refine WL_v rfl (VS_build (cs := L_ref09_Token.enc x21) rfl (by rw [hx21]; rfl)) ?_
  refine WL_x0 (RX_st (M := L_ref09_Token) (Pth.id (L := L_ref09_Token)) x21 x21 rfl rfl rfl rfl rfl) (fun _ _ => ?_)
  refine WL_nil ?_
  refine WQ_then ?_
  refine WP_ret ?_
  replace h := Option.some.inj h
  subst h
  exact WQ_ret () rfl (.agg rfl inferInstance inferInstance (enc_len _ _) .nil) trivial rfl (ks := []) rfl (by decide)
def ref09_Tokens_Get (n : Nat) (a0 : ref09_Tokens) (a1 : Int) : Option (ref09_Token × Int) :=
  bd (ref03_Book_Slot n a0.B a1) fun x21 =>
  cn (decide (x21 < 0)) (
  lt ({ Region := 0, By := 0, To := 0, Mutable := false, Above := 0 } : ref09_Token) fun x22 =>
  some (x22, 4)) (
  gu (inb x21 32) <|
  lt ((a0.T (Int.toNat x21)) : ref09_Token) fun x24 =>
  some (x24, 0))
theorem c_ref09_Tokens_Get {n : Nat} {a0 : ref09_Tokens} {a1 : Int} {r : ref09_Token × Int}  (h : ref09_Tokens_Get n a0 a1 = some r) : FnV Try.prog 130 [.agg (L_ref09_Tokens.enc a0).toArray, .int .i64 a1] (.tuple #[.agg (L_ref09_Token.enc r.1).toArray, .int .i64 r.2]) := by
  unfold ref09_Tokens_Get at h
  refine fn_of Try.func130 (by kernel_rfl) rfl Try.ntmps130 rfl (fun cx hbs hpre hro => ?_)
  refine WP_seq ?_
  refine WP_region ?_
  refine WL_x rfl (RX_boxL L_ref09_Tokens a0 rfl rfl) (fun b2 _ => ?_)
  refine WL_x rfl (RX_allocL (L := L_ref09_Token) (z := Z_ref09_Token) ⟨by kernel_rfl⟩) (fun b4 _ => ?_)
  refine WL_v rfl (VS_assign rfl) ?_
  refine WL_nil ?_
  refine WQ_then ?_
  refine WP_seq ?_
  obtain ⟨x21, hx21, h⟩ := bd_e h
  refine WP_region ?_
  refine WL_v rfl (VS_field0 rfl) ?_
  refine WL_v rfl (VS_lda (M := L_ref03_Book) P_ref09_Tokens_B rfl rfl) ?_
  refine WL_v rfl (VS_move rfl) ?_
  refine WL_v rfl (VS_call (c_ref03_Book_Slot hx21) rfl (fun _ _ _ => trivial)) ?_
  refine WL_v rfl (VS_assign rfl) ?_
  refine WL_nil ?_
  refine WQ_then ?_
  refine WP_seq ?_
  refine WP_seq ?_
  refine WP_region ?_
  refine WL_v rfl (VS_move rfl) ?_
  refine WL_v rfl (VS_lss rfl rfl) ?_
  refine WL_nil ?_
  refine WQ_then ?_
  refine WP_if rfl (fun hc => ?_) (fun hc => ?_)
  ·
    replace h := cn_t hc h
    refine WP_seq ?_
    obtain ⟨x22, hx22, h⟩ := lt_e h
    refine WP_region ?_
    refine WL_v rfl (VS_build (cs := L_ref09_Token.enc x22) rfl (by rw [hx22]; rfl)) ?_
    refine WL_x0 (RX_st (M := L_ref09_Token) (Pth.id (L := L_ref09_Token)) x22 x22 rfl rfl rfl rfl rfl) (fun _ _ => ?_)
    refine WL_v rfl (VS_assign rfl) ?_
    refine WL_nil ?_
    refine WQ_then ?_
    refine WP_ret ?_
    refine WQ_then_ret ?_
    replace h := Option.some.inj h
    subst h
    exact WQ_ret () rfl (.agg rfl inferInstance inferInstance (enc_len _ _) (.tmp rfl .nil)) trivial rfl (ks := []) rfl (by decide)
  ·
    replace h := cn_f hc h
    refine WP_skip ?_
    refine WQ_then ?_
    refine WP_seq ?_
    obtain ⟨hg23, h⟩ := gu_e h
    obtain ⟨x24, hx24, h⟩ := lt_e h
    refine WP_region ?_
    refine WL_v rfl (VS_move rfl) ?_
    refine WL_v rfl (VS_field0 rfl) ?_
    refine WL_v rfl (VS_index (m := (Int.toNat x21)) rfl rfl (inb_e hg23).1 (inb_e hg23).2) ?_
    refine WL_v rfl (VS_lda (M := L_ref09_Token) (P_ref09_Tokens_T.comp (Pth.idx (L := L_ref09_Token) (m := 32) (k := 5) ((Int.toNat x21)) (inb_e hg23).2 rfl)) rfl rfl) ?_
    refine WL_x0 (RX_st (M := L_ref09_Token) (Pth.id (L := L_ref09_Token)) (a0.T (Int.toNat x21)) x24 hx24 rfl rfl rfl rfl) (fun _ _ => ?_)
    refine WL_v rfl (VS_assign rfl) ?_
    refine WL_nil ?_
    refine WQ_then ?_
    refine WP_ret ?_
    replace h := Option.some.inj h
    subst h
    exact WQ_ret () rfl (.agg rfl inferInstance inferInstance (enc_len _ _) (.tmp rfl .nil)) trivial rfl (ks := []) rfl (by decide)
def law09_Same (n : Nat) (a0 : token_Tokens) (a1 : ref09_Tokens) : Option Bool :=
  loop1 (fun k25 (x22 : Int) =>
  cn (decide (x22 < 32)) (
  bd (ref03_Book_Of n a1.B x22) fun x26 =>
  bd (token_Tokens_Get n a0 (wr .u32 x26)) fun x27 =>
  bd (ref09_Tokens_Get n a1 x26) fun x28 =>
  cl (((x27.2 != x28.2) == false) && ((x27.2 == 0) == true)) (law09_Of n x27.1) default fun x29 =>
  cl (((x27.2 != x28.2) || ((x27.2 == 0) && (!(EQ_ref09_Token x29 x28.1)))) == false) (token_Tokens_Reads n a0 x27.1.Region (wr .u32 x26)) default fun x30 =>
  cl (((x27.2 != x28.2) || ((x27.2 == 0) && (!(EQ_ref09_Token x29 x28.1)))) == false) (ref09_Tokens_Reads n a1 (wr .i64 x27.1.Region) x26) default fun x31 =>
  cl ((((x27.2 != x28.2) || ((x27.2 == 0) && (!(EQ_ref09_Token x29 x28.1)))) || (x30 != x31)) == false) (token_Tokens_Writes n a0 x27.1.Region (wr .u32 x26)) default fun x32 =>
  cl ((((x27.2 != x28.2) || ((x27.2 == 0) && (!(EQ_ref09_Token x29 x28.1)))) || (x30 != x31)) == false) (ref09_Tokens_Writes n a1 (wr .i64 x27.1.Region) x26) default fun x33 =>
  cn (((((x27.2 != x28.2) || ((x27.2 == 0) && (!(EQ_ref09_Token x29 x28.1)))) || (x30 != x31)) || (x32 != x33))) (
  some false) (
  k25 (wr .i64 (x22 + 1)))) (
  some true)) n 0
theorem c_law09_Same {n : Nat} {a0 : token_Tokens} {a1 : ref09_Tokens} {r : Bool}  (h : law09_Same n a0 a1 = some r) : FnV Try.prog 88 [.agg (L_token_Tokens.enc a0).toArray, .agg (L_ref09_Tokens.enc a1).toArray] (.bool r) := by
  unfold law09_Same at h
  refine fn_of Try.func88 (by kernel_rfl) rfl Try.ntmps88 rfl (fun cx hbs hpre hro => ?_)
  refine WP_seq ?_
  refine WP_region ?_
  refine WL_x rfl (RX_boxL L_token_Tokens a0 rfl rfl) (fun b2 _ => ?_)
  refine WL_x rfl (RX_boxL L_ref09_Tokens a1 rfl rfl) (fun b3 _ => ?_)
  refine WL_v rfl (VS_assign rfl) ?_
  refine WL_nil ?_
  refine WQ_then ?_
  refine WP_seq ?_
  refine WP_seq ?_
  refine WP_region ?_
  refine WL_v rfl (VS_assign rfl) ?_
  refine WL_nil ?_
  refine WQ_then ?_
  refine WP_block ?_
  obtain ⟨lb23, hlb23, h⟩ := lp1_i h
  refine WP_loops (α := Nat × Int) [2, 3] (.cons rfl (.cons rfl (.nil))) (fun (m24, x22) => [(5, .int .i64 x22)]) (fun (m24, x22) => [.cells b3 171 (L_ref09_Tokens.enc a1), .cells b2 166 (L_token_Tokens.enc a0)]) (fun (m24, x22) => loop1 lb23 m24 x22 = some r) (fun (m24, x22) => m24) (n, 0) h (Sub_cons rfl (Sub_nil)) (ks := [0, 1]) rfl (by decide) ?_
  rintro ⟨m24, x22⟩ h
  replace h : loop1 lb23 m24 x22 = some r := h
  replace h := lp1_s hlb23 h
  obtain ⟨m24, rfl, h⟩ := h
  refine WP_seq ?_
  refine WP_seq ?_
  refine WP_region ?_
  refine WL_v rfl (VS_move rfl) ?_
  refine WL_v rfl (VS_lss rfl rfl) ?_
  refine WL_nil ?_
  refine WQ_then ?_
  refine WP_if rfl (fun hc => ?_) (fun hc => ?_)
  ·
    replace h := cn_t hc h
    refine WP_skip ?_
    refine WQ_then ?_
    refine WP_seq ?_
    refine WP_block ?_
    refine WP_seq ?_
    obtain ⟨x26, hx26, h⟩ := bd_e h
    refine WP_region ?_
    refine WL_v rfl (VS_field0 rfl) ?_
    refine WL_v rfl (VS_lda (M := L_ref03_Book) P_ref09_Tokens_B rfl rfl) ?_
    refine WL_v rfl (VS_move rfl) ?_
    refine WL_v rfl (VS_call (c_ref03_Book_Of hx26) rfl (fun _ _ _ => trivial)) ?_
    refine WL_v rfl (VS_assign rfl) ?_
    refine WL_nil ?_
    refine WQ_then ?_
    refine WP_seq ?_
    obtain ⟨x27, hx27, h⟩ := bd_e h
    refine WP_region ?_
    refine WL_v rfl (VS_lda (M := L_token_Tokens) (Pth.id (L := L_token_Tokens)) rfl rfl) ?_
    refine WL_v rfl (VS_move rfl) ?_
    refine WL_v rfl (VS_conv rfl rfl) ?_
    refine WL_v rfl (VS_call (c_token_Tokens_Get hx27) rfl (fun _ _ _ => trivial)) ?_
    refine WL_v rfl (VS_move rfl) ?_
    refine WL_v rfl (VS_extract rfl rfl) ?_
    refine WL_v rfl (VS_extract rfl rfl) ?_
    refine WL_x rfl (RX_allocL (L := L_token_Token) (z := Z_token_Token) ⟨by kernel_rfl⟩) (fun b7 _ => ?_)
    refine WL_x0 (RX_st (M := L_token_Token) (Pth.id (L := L_token_Token)) x27.1 x27.1 rfl rfl rfl rfl rfl) (fun _ _ => ?_)
    refine WL_v rfl (VS_assign rfl) ?_
    refine WL_nil ?_
    refine WQ_then ?_
    refine WP_seq ?_
    obtain ⟨x28, hx28, h⟩ := bd_e h
    refine WP_region ?_
    refine WL_v rfl (VS_lda (M := L_ref09_Tokens) (Pth.id (L := L_ref09_Tokens)) rfl rfl) ?_
    refine WL_v rfl (VS_move rfl) ?_
    refine WL_v rfl (VS_call (c_ref09_Tokens_Get hx28) rfl (fun _ _ _ => trivial)) ?_
    refine WL_v rfl (VS_move rfl) ?_
    refine WL_v rfl (VS_extract rfl rfl) ?_
    refine WL_v rfl (VS_extract rfl rfl) ?_
    refine WL_x rfl (RX_allocL (L := L_ref09_Token) (z := Z_ref09_Token) ⟨by kernel_rfl⟩) (fun b9 _ => ?_)
    refine WL_x0 (RX_st (M := L_ref09_Token) (Pth.id (L := L_ref09_Token)) x28.1 x28.1 rfl rfl rfl rfl rfl) (fun _ _ => ?_)
    refine WL_v rfl (VS_assign rfl) ?_
    refine WL_nil ?_
    refine WQ_then ?_
    refine WP_seq ?_
    obtain ⟨x29, hx29, _, h⟩ := cl_e h
    obtain ⟨x30, hx30, _, h⟩ := cl_e h
    obtain ⟨x31, hx31, _, h⟩ := cl_e h
    obtain ⟨x32, hx32, _, h⟩ := cl_e h
    obtain ⟨x33, hx33, _, h⟩ := cl_e h
    refine WP_draw mixed (.fin [] [(0, [8]), (1, [10]), (2, [32, 33]), (3, [34]), (4, [8, 35]), (5, [35, 36]), (6, [35, 37]), (7, [7, 38]), (8, [38, 39]), (9, [9, 38]), (10, [38, 40, 41]), (11, [35, 38, 42]), (12, [35, 43]), (13, [44]), (14, [2, 45]), (15, [7, 45]), (16, [45, 47]), (17, [6, 45]), (18, [45, 49]), (19, [45, 46, 48, 50]), (20, [3, 45]), (21, [7, 45]), (22, [45, 53]), (23, [45, 54]), (24, [6, 45]), (25, [45, 52, 55, 56]), (26, [45, 51, 57]), (27, [45, 58]), (28, [59]), (29, [2, 60]), (30, [7, 60]), (31, [60, 62]), (32, [6, 60]), (33, [60, 64]), (34, [60, 61, 63, 65]), (35, [3, 60]), (36, [7, 60]), (37, [60, 68]), (38, [60, 69]), (39, [6, 60]), (40, [60, 67, 70, 71]), (41, [60, 66, 72]), (42, [60, 73])]) (by kernel_rfl) ?_
    refine Stg_fin ?_ ?_
    · exact ReOk_nil
    refine NewOk_cons rfl rfl (VG_v rfl (VS_move rfl)) ?_
    refine NewOk_cons rfl rfl (VG_v rfl (VS_move rfl)) ?_
    refine NewOk_cons rfl rfl (VG_v rfl (VS_neq rfl rfl)) ?_
    refine NewOk_cons rfl rfl (VG_v rfl (VS_move rfl)) ?_
    refine NewOk_cons rfl rfl (VG_g (Gd_b rfl rfl) (fun hb => VS_move rfl)) ?_
    refine NewOk_cons rfl rfl (VG_g (Gd_b rfl rfl) (fun hb => VS_eql (gev rfl hb) rfl)) ?_
    refine NewOk_cons rfl rfl (VG_g (Gd_b rfl rfl) (fun hb => VS_move (gev rfl hb))) ?_
    refine NewOk_cons rfl rfl (VG_g (Gd_g rfl rfl) (fun hb => VS_lda (M := L_token_Token) (Pth.id (L := L_token_Token)) rfl rfl)) ?_
    refine NewOk_cons rfl rfl (VG_g (Gd_g rfl rfl) (fun hb => VS_call (c_law09_Of (hx29 hb)) (evs_cons (gev rfl hb) rfl) (fun _ _ _ => trivial))) ?_
    refine NewOk_cons rfl rfl (VG_g (Gd_g rfl rfl) (fun hb => VS_lda (M := L_ref09_Token) (Pth.id (L := L_ref09_Token)) rfl rfl)) ?_
    refine NewOk_cons rfl rfl (VG_g (Gd_g rfl rfl) (fun hb => VS_val (VS_neqs (cs := L_ref09_Token.enc x29) (ds := L_ref09_Token.enc x28.1) (gev rfl hb) (gev rfl hb) rfl rfl) (EQvn_ref09_Token _ _))) ?_
    refine NewOk_cons rfl rfl (VG_g (Gd_b rfl rfl) (fun hb => VS_and (gev rfl hb) (gev2 rfl hb))) ?_
    refine NewOk_cons rfl rfl (VG_v rfl (VS_or rfl rfl)) ?_
    refine NewOk_cons rfl rfl (VG_v rfl (VS_move rfl)) ?_
    refine NewOk_cons rfl rfl (VG_g (Gd_b rfl rfl) (fun hb => VS_lda (M := L_token_Tokens) (Pth.id (L := L_token_Tokens)) rfl rfl)) ?_
    refine NewOk_cons rfl rfl (VG_g (Gd_b rfl rfl) (fun hb => VS_field0 rfl)) ?_
    refine NewOk_cons rfl rfl (VG_g (Gd_b rfl rfl) (fun hb => VS_ldi P_token_Token_Region (gev rfl hb))) ?_
    refine NewOk_cons rfl rfl (VG_g (Gd_b rfl rfl) (fun hb => VS_move rfl)) ?_
    refine NewOk_cons rfl rfl (VG_g (Gd_b rfl rfl) (fun hb => VS_conv (gev rfl hb) rfl)) ?_
    refine NewOk_cons rfl rfl (VG_g (Gd_b rfl rfl) (fun hb => VS_call (c_token_Tokens_Reads (hx30 hb)) (evs_cons (gev rfl hb) (evs_cons (gev rfl hb) (evs_cons (gev rfl hb) rfl))) (fun _ _ _ => trivial))) ?_
    refine NewOk_cons rfl rfl (VG_g (Gd_b rfl rfl) (fun hb => VS_lda (M := L_ref09_Tokens) (Pth.id (L := L_ref09_Tokens)) rfl rfl)) ?_
    refine NewOk_cons rfl rfl (VG_g (Gd_b rfl rfl) (fun hb => VS_field0 rfl)) ?_
    refine NewOk_cons rfl rfl (VG_g (Gd_b rfl rfl) (fun hb => VS_ldi P_token_Token_Region (gev rfl hb))) ?_
    refine NewOk_cons rfl rfl (VG_g (Gd_b rfl rfl) (fun hb => VS_conv (gev rfl hb) rfl)) ?_
    refine NewOk_cons rfl rfl (VG_g (Gd_b rfl rfl) (fun hb => VS_move rfl)) ?_
    refine NewOk_cons rfl rfl (VG_g (Gd_b rfl rfl) (fun hb => VS_call (c_ref09_Tokens_Reads (hx31 hb)) (evs_cons (gev rfl hb) (evs_cons (gev rfl hb) (evs_cons (gev rfl hb) rfl))) (fun _ _ _ => trivial))) ?_
    refine NewOk_cons rfl rfl (VG_g (Gd_b rfl rfl) (fun hb => VS_neqb (gev rfl hb) (gev rfl hb))) ?_
    refine NewOk_cons rfl rfl (VG_v rfl (VS_or rfl rfl)) ?_
    refine NewOk_cons rfl rfl (VG_v rfl (VS_move rfl)) ?_
    refine NewOk_cons rfl rfl (VG_g (Gd_b rfl rfl) (fun hb => VS_lda (M := L_token_Tokens) (Pth.id (L := L_token_Tokens)) rfl rfl)) ?_
    refine NewOk_cons rfl rfl (VG_g (Gd_b rfl rfl) (fun hb => VS_field0 rfl)) ?_
    refine NewOk_cons rfl rfl (VG_g (Gd_b rfl rfl) (fun hb => VS_ldi P_token_Token_Region (gev rfl hb))) ?_
    refine NewOk_cons rfl rfl (VG_g (Gd_b rfl rfl) (fun hb => VS_move rfl)) ?_
    refine NewOk_cons rfl rfl (VG_g (Gd_b rfl rfl) (fun hb => VS_conv (gev rfl hb) rfl)) ?_
    refine NewOk_cons rfl rfl (VG_g (Gd_b rfl rfl) (fun hb => VS_call (c_token_Tokens_Writes (hx32 hb)) (evs_cons (gev rfl hb) (evs_cons (gev rfl hb) (evs_cons (gev rfl hb) rfl))) (fun _ _ _ => trivial))) ?_
    refine NewOk_cons rfl rfl (VG_g (Gd_b rfl rfl) (fun hb => VS_lda (M := L_ref09_Tokens) (Pth.id (L := L_ref09_Tokens)) rfl rfl)) ?_
    refine NewOk_cons rfl rfl (VG_g (Gd_b rfl rfl) (fun hb => VS_field0 rfl)) ?_
    refine NewOk_cons rfl rfl (VG_g (Gd_b rfl rfl) (fun hb => VS_ldi P_token_Token_Region (gev rfl hb))) ?_
    refine NewOk_cons rfl rfl (VG_g (Gd_b rfl rfl) (fun hb => VS_conv (gev rfl hb) rfl)) ?_
    refine NewOk_cons rfl rfl (VG_g (Gd_b rfl rfl) (fun hb => VS_move rfl)) ?_
    refine NewOk_cons rfl rfl (VG_g (Gd_b rfl rfl) (fun hb => VS_call (c_ref09_Tokens_Writes (hx33 hb)) (evs_cons (gev rfl hb) (evs_cons (gev rfl hb) (evs_cons (gev rfl hb) rfl))) (fun _ _ _ => trivial))) ?_
    refine NewOk_cons rfl rfl (VG_g (Gd_b rfl rfl) (fun hb => VS_neqb (gev rfl hb) (gev rfl hb))) ?_
    refine NewOk_cons rfl rfl (VG_v rfl (VS_or rfl rfl)) ?_
    refine NewOk_nil ?_
    refine WQ_then ?_
    refine WP_if rfl (fun hc => ?_) (fun hc => ?_)
    ·
      replace h := cn_t hc h
      refine WP_seq ?_
      refine WP_region ?_
      refine WL_v rfl (VS_assign rfl) ?_
      refine WL_nil ?_
      refine WQ_then ?_
      refine WP_ret ?_
      refine WQ_block_ret ?_
      refine WQ_then_ret ?_
      refine WQ_then_ret ?_
      refine WQ_block_ret ?_
      refine WQ_then_ret ?_
      replace h := Option.some.inj h
      subst h
      exact WQ_ret () rfl (.tmp rfl .nil) trivial rfl (ks := []) rfl (by decide)
    ·
      replace h := cn_f hc h
      refine WP_skip ?_
      refine WQ_block ?_
      refine WQ_then ?_
      refine WP_region ?_
      refine WL_v rfl (VS_move rfl) ?_
      refine WL_v rfl (VS_add rfl rfl rfl) ?_
      refine WL_v rfl (VS_assign rfl) ?_
      refine WL_nil ?_
      exact WQ_loops (m24, wr .i64 (x22 + 1)) (Nat.lt_succ_self _) h (Sub_cons rfl (Sub_nil)) (.cons rfl (.cons rfl (.nil))) (ks := [2, 3]) rfl (by decide)
  ·
    replace h := cn_f hc h
    refine WP_exit ?_
    refine WQ_then_exit ?_
    refine WQ_then_exit ?_
    refine WQ_block_exit ?_
    refine WQ_then ?_
    refine WP_seq ?_
    refine WP_region ?_
    refine WL_v rfl (VS_assign rfl) ?_
    refine WL_nil ?_
    refine WQ_then ?_
    refine WP_ret ?_
    replace h := Option.some.inj h
    subst h
    exact WQ_ret () rfl (.tmp rfl .nil) trivial rfl (ks := []) rfl (by decide)
def law09_name (n : Nat) (a0 : ref09_Tokens) (a1 : Int) : Option Int :=
  gu (!((decide (1 ≤ a1) && decide (a1 ≤ 16)) == true) || inb (wr .u32 (a1 - 1)) 32) <|
  cn (((decide (1 ≤ a1) && decide (a1 ≤ 16)) && ((a0.B.Is (Int.toNat (wr .u32 (a1 - 1)))) == 1))) (
  bd (ref03_Book_Of n a0.B (wr .i64 (wr .u32 (a1 - 1)))) fun x22 =>
  some x22) (
  some (wr .i64 a1))
theorem c_law09_name {n : Nat} {a0 : ref09_Tokens} {a1 : Int} {r : Int}  (h : law09_name n a0 a1 = some r) : FnV Try.prog 79 [.agg (L_ref09_Tokens.enc a0).toArray, .int .u32 a1] (.int .i64 r) := by
  unfold law09_name at h
  refine fn_of Try.func79 (by kernel_rfl) rfl Try.ntmps79 rfl (fun cx hbs hpre hro => ?_)
  refine WP_seq ?_
  refine WP_region ?_
  refine WL_x rfl (RX_boxL L_ref09_Tokens a0 rfl rfl) (fun b2 _ => ?_)
  refine WL_v rfl (VS_assign rfl) ?_
  refine WL_nil ?_
  refine WQ_then ?_
  refine WP_seq ?_
  refine WP_seq ?_
  obtain ⟨hg21, h⟩ := gu_e h
  refine WP_region ?_
  refine WL_v rfl (VS_move rfl) ?_
  refine WL_v rfl (VS_geq rfl rfl) ?_
  refine WL_v rfl (VS_move rfl) ?_
  refine WL_g (Gd_b rfl rfl) rfl (fun hb => VS_move rfl) ?_
  refine WL_g (Gd_b rfl rfl) rfl (fun hb => VS_leq (gev rfl hb) rfl) ?_
  refine WL_v rfl (VS_and rfl rfl) ?_
  refine WL_v rfl (VS_move rfl) ?_
  refine WL_g (Gd_b rfl rfl) rfl (fun hb => VS_move rfl) ?_
  refine WL_g (Gd_b rfl rfl) rfl (fun hb => VS_sub (gev rfl hb) rfl rfl) ?_
  refine WL_g (Gd_b rfl rfl) rfl (fun hb => VS_field0 rfl) ?_
  refine WL_g (Gd_b rfl rfl) rfl (fun hb => VS_field0 (gev rfl hb)) ?_
  refine WL_g (Gd_b rfl rfl) rfl (fun hb => VS_index (m := (Int.toNat (wr .u32 (a1 - 1)))) (gev rfl hb) (gev rfl hb) (inb_e (imp_b hg21 hb)).1 (inb_e (imp_b hg21 hb)).2) ?_
  refine WL_g (Gd_b rfl rfl) rfl (fun hb => VS_ldi ((P_ref09_Tokens_B.c0 P_ref03_Book_Is).comp (Pth.idx (L := (LI .i64)) (m := 32) (k := 1) ((Int.toNat (wr .u32 (a1 - 1)))) (inb_e (imp_b hg21 hb)).2 rfl)) (gev rfl hb)) ?_
  refine WL_g (Gd_b rfl rfl) rfl (fun hb => VS_eql (gev rfl hb) rfl) ?_
  refine WL_v rfl (VS_and rfl rfl) ?_
  refine WL_nil ?_
  refine WQ_then ?_
  refine WP_if rfl (fun hc => ?_) (fun hc => ?_)
  ·
    replace h := cn_t hc h
    refine WP_seq ?_
    obtain ⟨x22, hx22, h⟩ := bd_e h
    refine WP_region ?_
    refine WL_v rfl (VS_field0 rfl) ?_
    refine WL_v rfl (VS_lda (M := L_ref03_Book) P_ref09_Tokens_B rfl rfl) ?_
    refine WL_v rfl (VS_move rfl) ?_
    refine WL_v rfl (VS_sub rfl rfl rfl) ?_
    refine WL_v rfl (VS_conv rfl rfl) ?_
    refine WL_v rfl (VS_call (c_ref03_Book_Of hx22) rfl (fun _ _ _ => trivial)) ?_
    refine WL_v rfl (VS_assign rfl) ?_
    refine WL_nil ?_
    refine WQ_then ?_
    refine WP_ret ?_
    refine WQ_then_ret ?_
    replace h := Option.some.inj h
    subst h
    exact WQ_ret () rfl (.tmp rfl .nil) trivial rfl (ks := []) rfl (by decide)
  ·
    replace h := cn_f hc h
    refine WP_skip ?_
    refine WQ_then ?_
    refine WP_seq ?_
    refine WP_region ?_
    refine WL_v rfl (VS_move rfl) ?_
    refine WL_v rfl (VS_conv rfl rfl) ?_
    refine WL_v rfl (VS_assign rfl) ?_
    refine WL_nil ?_
    refine WQ_then ?_
    refine WP_ret ?_
    replace h := Option.some.inj h
    subst h
    exact WQ_ret () rfl (.tmp rfl .nil) trivial rfl (ks := []) rfl (by decide)
def law09_row (n : Nat) (a0 : (List Int)) (a1 : (List Int)) : Option Bool :=
  cn (((a0.length : Int) != (a1.length : Int))) (
  some false) (
  loop1 (fun k25 (x22 : Int) =>
  cn (decide (x22 < (a0.length : Int))) (
  gu (inb x22 a0.length) <|
  gu (inb x22 a1.length) <|
  cn (((wr .i64 (a0.getD (Int.toNat x22) default)) != (a1.getD (Int.toNat x22) default))) (
  some false) (
  k25 (wr .i64 (x22 + 1)))) (
  some true)) n 0)
theorem c_law09_row {n : Nat} {a0 : (List Int)} {a1 : (List Int)} {r : Bool} {K : World → Prop} [Stable K] {v0 : Value} (f0 : Fz K v0 (LI .u32) a0) {v1 : Value} (f1 : Fz K v1 (LI .i64) a1) (h : law09_row n a0 a1 = some r) : FnW Try.prog 82 [v0, v1] K (.bool r) := by
  unfold law09_row at h
  refine fn_of Try.func82 (by kernel_rfl) rfl Try.ntmps82 rfl (fun cx hbs hpre hro => ?_)
  haveI := knf_pre hbs hpre
  refine WP_seq ?_
  refine WP_region ?_
  refine WL_v rfl (VS_assign rfl) ?_
  refine WL_nil ?_
  refine WQ_then ?_
  refine WP_seq ?_
  refine WP_seq ?_
  refine WP_region ?_
  refine WL_v rfl (VS_move rfl) ?_
  refine WL_v rfl (VS_lenF f0 rfl) ?_
  refine WL_v rfl (VS_move rfl) ?_
  refine WL_v rfl (VS_lenF f1 rfl) ?_
  refine WL_v rfl (VS_neq rfl rfl) ?_
  refine WL_nil ?_
  refine WQ_then ?_
  refine WP_if rfl (fun hc => ?_) (fun hc => ?_)
  ·
    replace h := cn_t hc h
    refine WP_seq ?_
    refine WP_region ?_
    refine WL_v rfl (VS_assign rfl) ?_
    refine WL_nil ?_
    refine WQ_then ?_
    refine WP_ret ?_
    refine WQ_then_ret ?_
    replace h := Option.some.inj h
    subst h
    exact WQ_ret () rfl (.tmp rfl .nil) trivial rfl (ks := []) rfl (by decide)
  ·
    replace h := cn_f hc h
    refine WP_skip ?_
    refine WQ_then ?_
    refine WP_seq ?_
    refine WP_seq ?_
    refine WP_region ?_
    refine WL_v rfl (VS_assign rfl) ?_
    refine WL_nil ?_
    refine WQ_then ?_
    refine WP_block ?_
    obtain ⟨lb23, hlb23, h⟩ := lp1_i h
    refine WP_loops (α := Nat × Int) [0, 1] (.cons rfl (.cons rfl (.nil))) (fun (m24, x22) => [(5, .int .i64 x22)]) (fun (m24, x22) => []) (fun (m24, x22) => loop1 lb23 m24 x22 = some r) (fun (m24, x22) => m24) (n, 0) h (Sub_cons rfl (Sub_nil)) (ks := []) rfl (by decide) ?_
    rintro ⟨m24, x22⟩ h
    replace h : loop1 lb23 m24 x22 = some r := h
    replace h := lp1_s hlb23 h
    obtain ⟨m24, rfl, h⟩ := h
    refine WP_seq ?_
    refine WP_seq ?_
    refine WP_region ?_
    refine WL_v rfl (VS_move rfl) ?_
    refine WL_v rfl (VS_move rfl) ?_
    refine WL_v rfl (VS_lenF f0 rfl) ?_
    refine WL_v rfl (VS_lss rfl rfl) ?_
    refine WL_nil ?_
    refine WQ_then ?_
    refine WP_if rfl (fun hc => ?_) (fun hc => ?_)
    ·
      replace h := cn_t hc h
      refine WP_skip ?_
      refine WQ_then ?_
      refine WP_seq ?_
      refine WP_block ?_
      refine WP_seq ?_
      obtain ⟨hg26, h⟩ := gu_e h
      obtain ⟨hg27, h⟩ := gu_e h
      refine WP_draw mixed (.fin [] [(0, [0]), (1, [5]), (2, [17, 18]), (3, [19]), (4, [20]), (5, [1]), (6, [5]), (7, [22, 23]), (8, [24]), (9, [21, 25])]) (by kernel_rfl) ?_
      refine Stg_fin ?_ ?_
      · exact ReOk_nil
      refine NewOk_cons rfl rfl (VG_v rfl (VS_move rfl)) ?_
      refine NewOk_cons rfl rfl (VG_v rfl (VS_move rfl)) ?_
      refine NewOk_cons rfl rfl (VG_v rfl (VS_ixF (m := (Int.toNat x22)) f0 rfl rfl rfl (inb_e hg26).1 (inb_e hg26).2)) ?_
      refine NewOk_cons rfl rfl (VG_v rfl (VS_ldiF f0 (Pth.idx (L := (LI .u32)) (m := (a0.length)) (k := 1) ((Int.toNat x22)) (inb_e hg26).2 rfl) rfl)) ?_
      refine NewOk_cons rfl rfl (VG_v rfl (VS_conv rfl rfl)) ?_
      refine NewOk_cons rfl rfl (VG_v rfl (VS_move rfl)) ?_
      refine NewOk_cons rfl rfl (VG_v rfl (VS_move rfl)) ?_
      refine NewOk_cons rfl rfl (VG_v rfl (VS_ixF (m := (Int.toNat x22)) f1 rfl rfl rfl (inb_e hg27).1 (inb_e hg27).2)) ?_
      refine NewOk_cons rfl rfl (VG_v rfl (VS_ldiF f1 (Pth.idx (L := (LI .i64)) (m := (a1.length)) (k := 1) ((Int.toNat x22)) (inb_e hg27).2 rfl) rfl)) ?_
      refine NewOk_cons rfl rfl (VG_v rfl (VS_neq rfl rfl)) ?_
      refine NewOk_nil ?_
      refine WQ_then ?_
      refine WP_if rfl (fun hc => ?_) (fun hc => ?_)
      ·
        replace h := cn_t hc h
        refine WP_seq ?_
        refine WP_region ?_
        refine WL_v rfl (VS_assign rfl) ?_
        refine WL_nil ?_
        refine WQ_then ?_
        refine WP_ret ?_
        refine WQ_block_ret ?_
        refine WQ_then_ret ?_
        refine WQ_then_ret ?_
        refine WQ_block_ret ?_
        refine WQ_then_ret ?_
        replace h := Option.some.inj h
        subst h
        exact WQ_ret () rfl (.tmp rfl .nil) trivial rfl (ks := []) rfl (by decide)
      ·
        replace h := cn_f hc h
        refine WP_skip ?_
        refine WQ_block ?_
        refine WQ_then ?_
        refine WP_region ?_
        refine WL_v rfl (VS_move rfl) ?_
        refine WL_v rfl (VS_add rfl rfl rfl) ?_
        refine WL_v rfl (VS_assign rfl) ?_
        refine WL_nil ?_
        exact WQ_loops (m24, wr .i64 (x22 + 1)) (Nat.lt_succ_self _) h (Sub_cons rfl (Sub_nil)) (.cons rfl (.cons rfl (.nil))) (ks := []) rfl (by decide)
    ·
      replace h := cn_f hc h
      refine WP_exit ?_
      refine WQ_then_exit ?_
      refine WQ_then_exit ?_
      refine WQ_block_exit ?_
      refine WQ_then ?_
      refine WP_seq ?_
      refine WP_region ?_
      refine WL_v rfl (VS_assign rfl) ?_
      refine WL_nil ?_
      refine WQ_then ?_
      refine WP_ret ?_
      replace h := Option.some.inj h
      subst h
      exact WQ_ret () rfl (.tmp rfl .nil) trivial rfl (ks := []) rfl (by decide)
def law09_wakes (n : Nat)  : Option Bool :=
  lt ({ Region := 1, By := 0, To := 1, Mutable := true, Above := 0 } : token_Token) fun x21 =>
  bd (token_Tokens_Lend n Z_token_Tokens x21) fun x22 =>
  lt ({ Region := 1, By := 1, To := 2, Mutable := false, Above := 1 } : token_Token) fun x23 =>
  bd (token_Tokens_Lend n x22.1 x23) fun x24 =>
  lt ({ Region := 1, By := 0, To := 2, Mutable := false, Above := 0 } : token_Token) fun x25 =>
  bd (token_Tokens_Lend n x24.1 x25) fun x26 =>
  bd (token_Tokens_Writes n x24.1 1 1) fun x27 =>
  bd (token_Tokens_Reads n x24.1 1 1) fun x28 =>
  bd (token_Tokens_Return n x24.1 1) fun x29 =>
  cl (((((((((x22.2.1 == 1) && (x22.2.2 == 0)) && (x24.2.1 == 2)) && (x24.2.2 == 0)) && (x26.2.2 == 5)) && (!x27)) && x28) && (x29.2.2 == 0)) == true) (law09_row n x29.2.1 ([1, 2] : List Int)) default fun x41 =>
  cl ((((((((((x22.2.1 == 1) && (x22.2.2 == 0)) && (x24.2.1 == 2)) && (x24.2.2 == 0)) && (x26.2.2 == 5)) && (!x27)) && x28) && (x29.2.2 == 0)) && x41) == true) (token_Tokens_On n x29.1 1) default fun x42 =>
  cl (((((((((((x22.2.1 == 1) && (x22.2.2 == 0)) && (x24.2.1 == 2)) && (x24.2.2 == 0)) && (x26.2.2 == 5)) && (!x27)) && x28) && (x29.2.2 == 0)) && x41) && ((x42.length : Int) == 0)) == true) (token_Tokens_On n x24.1 1) default fun x48 =>
  cl ((((((((((((x22.2.1 == 1) && (x22.2.2 == 0)) && (x24.2.1 == 2)) && (x24.2.2 == 0)) && (x26.2.2 == 5)) && (!x27)) && x28) && (x29.2.2 == 0)) && x41) && ((x42.length : Int) == 0)) && ((x48.length : Int) == 2)) == true) (token_Tokens_Of n x24.1 2) default fun x54 =>
  some ((((((((((((x22.2.1 == 1) && (x22.2.2 == 0)) && (x24.2.1 == 2)) && (x24.2.2 == 0)) && (x26.2.2 == 5)) && (!x27)) && x28) && (x29.2.2 == 0)) && x41) && ((x42.length : Int) == 0)) && ((x48.length : Int) == 2)) && ((x54.length : Int) == 1))
theorem c_law09_wakes {n : Nat}  {r : Bool}  (h : law09_wakes n  = some r) : FnV Try.prog 78 [] (.bool r) := by
  unfold law09_wakes at h
  refine fn_of Try.func78 (by kernel_rfl) rfl Try.ntmps78 rfl (fun cx hbs hpre hro => ?_)
  refine WP_seq ?_
  refine WP_region ?_
  refine WL_v rfl (VS_assign rfl) ?_
  refine WL_nil ?_
  refine WQ_then ?_
  refine WP_seq ?_
  refine WP_region ?_
  refine WL_x rfl (RX_allocL (L := L_token_Tokens) (z := Z_token_Tokens) ⟨by kernel_rfl⟩) (fun b1 _ => ?_)
  refine WL_nil ?_
  refine WQ_then ?_
  refine WP_seq ?_
  obtain ⟨x21, hx21, h⟩ := lt_e h
  obtain ⟨x22, hx22, h⟩ := bd_e h
  refine WP_region ?_
  refine WL_v rfl (VS_lda (M := L_token_Tokens) (Pth.id (L := L_token_Tokens)) rfl rfl) ?_
  refine WL_v rfl (VS_build (cs := L_token_Token.enc x21) rfl (by rw [hx21]; rfl)) ?_
  refine WL_v rfl (VS_call (c_token_Tokens_Lend hx22) rfl (fun _ _ _ => trivial)) ?_
  refine WL_v rfl (VS_move rfl) ?_
  refine WL_v rfl (VS_extract rfl rfl) ?_
  refine WL_v rfl (VS_extract rfl rfl) ?_
  refine WL_v rfl (VS_extract rfl rfl) ?_
  refine WL_x0 (RX_st (M := L_token_Tokens) (Pth.id (L := L_token_Tokens)) x22.1 x22.1 rfl rfl rfl rfl rfl) (fun _ _ => ?_)
  refine WL_v rfl (VS_assign rfl) ?_
  refine WL_v rfl (VS_assign rfl) ?_
  refine WL_nil ?_
  refine WQ_then ?_
  refine WP_seq ?_
  obtain ⟨x23, hx23, h⟩ := lt_e h
  obtain ⟨x24, hx24, h⟩ := bd_e h
  refine WP_region ?_
  refine WL_v rfl (VS_lda (M := L_token_Tokens) (Pth.id (L := L_token_Tokens)) rfl rfl) ?_
  refine WL_v rfl (VS_build (cs := L_token_Token.enc x23) rfl (by rw [hx23]; rfl)) ?_
  refine WL_v rfl (VS_call (c_token_Tokens_Lend hx24) rfl (fun _ _ _ => trivial)) ?_
  refine WL_v rfl (VS_move rfl) ?_
  refine WL_v rfl (VS_extract rfl rfl) ?_
  refine WL_v rfl (VS_extract rfl rfl) ?_
  refine WL_v rfl (VS_extract rfl rfl) ?_
  refine WL_x0 (RX_st (M := L_token_Tokens) (Pth.id (L := L_token_Tokens)) x24.1 x24.1 rfl rfl rfl rfl rfl) (fun _ _ => ?_)
  refine WL_v rfl (VS_assign rfl) ?_
  refine WL_v rfl (VS_assign rfl) ?_
  refine WL_nil ?_
  refine WQ_then ?_
  refine WP_seq ?_
  obtain ⟨x25, hx25, h⟩ := lt_e h
  obtain ⟨x26, hx26, h⟩ := bd_e h
  refine WP_region ?_
  refine WL_v rfl (VS_lda (M := L_token_Tokens) (Pth.id (L := L_token_Tokens)) rfl rfl) ?_
  refine WL_v rfl (VS_build (cs := L_token_Token.enc x25) rfl (by rw [hx25]; rfl)) ?_
  refine WL_v rfl (VS_call (c_token_Tokens_Lend hx26) rfl (fun _ _ _ => trivial)) ?_
  refine WL_v rfl (VS_move rfl) ?_
  refine WL_v rfl (VS_extract rfl rfl) ?_
  refine WL_v rfl (VS_extract rfl rfl) ?_
  refine WL_v rfl (VS_extract rfl rfl) ?_
  refine WL_x rfl (RX_allocL (L := L_token_Tokens) (z := Z_token_Tokens) ⟨by kernel_rfl⟩) (fun b6 _ => ?_)
  refine WL_x0 (RX_st (M := L_token_Tokens) (Pth.id (L := L_token_Tokens)) x26.1 x26.1 rfl rfl rfl rfl rfl) (fun _ _ => ?_)
  refine WL_v rfl (VS_assign rfl) ?_
  refine WL_v rfl (VS_assign rfl) ?_
  refine WL_nil ?_
  refine WQ_then ?_
  refine WP_seq ?_
  obtain ⟨x27, hx27, h⟩ := bd_e h
  obtain ⟨x28, hx28, h⟩ := bd_e h
  refine WP_draw mixed (.stg [] [(0, [1]), (1, [35]), (2, [1]), (3, [37])] (.alt 4 [36] (.stg [] [] (.alt 5 [38] (.fin [] []) .no)) .no)) (by kernel_rfl) ?_
  refine Stg_stg ?_ ?_
  · exact ReOk_nil
  refine NewOk_cons rfl rfl (VG_v rfl (VS_lda (M := L_token_Tokens) (Pth.id (L := L_token_Tokens)) rfl rfl)) ?_
  refine NewOk_cons rfl rfl (VG_v rfl (VS_call (c_token_Tokens_Writes hx27) rfl (fun _ _ _ => trivial))) ?_
  refine NewOk_cons rfl rfl (VG_v rfl (VS_lda (M := L_token_Tokens) (Pth.id (L := L_token_Tokens)) rfl rfl)) ?_
  refine NewOk_cons rfl rfl (VG_v rfl (VS_call (c_token_Tokens_Reads hx28) rfl (fun _ _ _ => trivial))) ?_
  refine NewOk_nil ?_
  refine Stg_some rfl rfl (RG_x rfl ((VS_assign rfl).rx)) (fun _ _ => ?_) Stg_no
  refine Stg_stg ?_ ?_
  · exact ReOk_nil
  refine NewOk_nil ?_
  refine Stg_some rfl rfl (RG_x rfl ((VS_assign rfl).rx)) (fun _ _ => ?_) Stg_no
  refine Stg_fin ?_ ?_
  · exact ReOk_nil
  refine NewOk_nil ?_
  refine WQ_then ?_
  refine WP_seq ?_
  obtain ⟨x29, hx29, h⟩ := bd_e h
  refine WP_region ?_
  refine WL_v rfl (VS_lda (M := L_token_Tokens) (Pth.id (L := L_token_Tokens)) rfl rfl) ?_
  refine WL_x rfl (RX_callB (c_token_Tokens_Return hx29) rfl) (fun ⟨w30, bs31, J32⟩ hp33 => ?_)
  obtain ⟨v35, rfl, f34⟩ := hp33
  replace f34 : Fz (Hs [.ext bs31 J32]) v35 (LI .u32) x29.2.1 := f34
  refine WL_v rfl (VS_move rfl) ?_
  refine WL_v rfl (VS_extract rfl rfl) ?_
  refine WL_v rfl (VS_extract rfl rfl) ?_
  refine WL_v rfl (VS_extract rfl rfl) ?_
  refine WL_x rfl (RX_allocL (L := L_token_Tokens) (z := Z_token_Tokens) ⟨by kernel_rfl⟩) (fun b11 _ => ?_)
  refine WL_x0 (RX_st (M := L_token_Tokens) (Pth.id (L := L_token_Tokens)) x29.1 x29.1 rfl rfl rfl rfl rfl) (fun _ _ => ?_)
  refine WL_v rfl (VS_assign rfl) ?_
  refine WL_v rfl (VS_assign rfl) ?_
  refine WL_nil ?_
  refine WQ_then ?_
  refine WP_seq ?_
  obtain ⟨x41, hx41, _, h⟩ := cl_e h
  obtain ⟨x42, hx42, _, h⟩ := cl_e h
  obtain ⟨x48, hx48, _, h⟩ := cl_e h
  obtain ⟨x54, hx54, _, h⟩ := cl_e h
  refine WP_region ?_
  refine WL_v rfl (VS_move rfl) ?_
  refine WL_v rfl (VS_eql rfl rfl) ?_
  refine WL_v rfl (VS_move rfl) ?_
  refine WL_g (Gd_b rfl rfl) rfl (fun hb => VS_move rfl) ?_
  refine WL_g (Gd_b rfl rfl) rfl (fun hb => VS_eql (gev rfl hb) rfl) ?_
  refine WL_v rfl (VS_and rfl rfl) ?_
  refine WL_v rfl (VS_move rfl) ?_
  refine WL_g (Gd_b rfl rfl) rfl (fun hb => VS_move rfl) ?_
  refine WL_g (Gd_b rfl rfl) rfl (fun hb => VS_eql (gev rfl hb) rfl) ?_
  refine WL_v rfl (VS_and rfl rfl) ?_
  refine WL_v rfl (VS_move rfl) ?_
  refine WL_g (Gd_b rfl rfl) rfl (fun hb => VS_move rfl) ?_
  refine WL_g (Gd_b rfl rfl) rfl (fun hb => VS_eql (gev rfl hb) rfl) ?_
  refine WL_v rfl (VS_and rfl rfl) ?_
  refine WL_v rfl (VS_move rfl) ?_
  refine WL_g (Gd_b rfl rfl) rfl (fun hb => VS_move rfl) ?_
  refine WL_g (Gd_b rfl rfl) rfl (fun hb => VS_eql (gev rfl hb) rfl) ?_
  refine WL_v rfl (VS_and rfl rfl) ?_
  refine WL_v rfl (VS_move rfl) ?_
  refine WL_g (Gd_b rfl rfl) rfl (fun hb => VS_move rfl) ?_
  refine WL_g (Gd_b rfl rfl) rfl (fun hb => VS_not (gev rfl hb)) ?_
  refine WL_v rfl (VS_and rfl rfl) ?_
  refine WL_v rfl (VS_move rfl) ?_
  refine WL_g (Gd_b rfl rfl) rfl (fun hb => VS_move rfl) ?_
  refine WL_v rfl (VS_and rfl rfl) ?_
  refine WL_v rfl (VS_move rfl) ?_
  refine WL_g (Gd_b rfl rfl) rfl (fun hb => VS_move rfl) ?_
  refine WL_g (Gd_b rfl rfl) rfl (fun hb => VS_eql (gev rfl hb) rfl) ?_
  refine WL_v rfl (VS_and rfl rfl) ?_
  refine WL_v rfl (VS_move rfl) ?_
  refine WL_g (Gd_b rfl rfl) rfl (fun hb => VS_move rfl) ?_
  refine WL_bsc (Gd_b rfl rfl) rfl (L := (LI .i64)) (xs := ([1, 2] : List Int)) (e := 3) (fun hb => RX_bsg (cs := rowC (LI .i64) ([1, 2] : List Int)) (evs_cons rfl (evs_cons rfl rfl)) rfl (by decide) (by decide) (by decide)) (fun ⟨w36, bs37, J38⟩ hp39 => ?_)
  have f40 : (((((((((x22.2.1 == 1) && (x22.2.2 == 0)) && (x24.2.1 == 2)) && (x24.2.2 == 0)) && (x26.2.2 == 5)) && (!x27)) && x28) && (x29.2.2 == 0)) == true) = true → Fz (Hs [.ext bs37 J38]) w36 (LI .i64) ([1, 2] : List Int) := hp39
  refine WL_g (Gd_b rfl rfl) rfl (fun hb => VS_call (c_law09_row (K := (Hs [.ext bs31 J32, .ext bs37 J38])) (f34.mono ent) ((f40 hb).mono ent) (hx41 hb)) (evs_cons (gev rfl hb) (evs_cons (gev rfl hb) rfl)) kn) ?_
  refine WL_v rfl (VS_and rfl rfl) ?_
  refine WL_v rfl (VS_move rfl) ?_
  refine WL_g (Gd_b rfl rfl) rfl (fun hb => VS_lda (M := L_token_Tokens) (Pth.id (L := L_token_Tokens)) rfl rfl) ?_
  refine WL_callBg (Gd_b rfl rfl) rfl (fun hb => c_token_Tokens_On (hx42 hb)) (fun hb => (evs_cons (gev rfl hb) (evs_cons rfl rfl))) (fun hb => inferInstance) (fun ⟨w43, bs44, J45⟩ hp46 => ?_)
  have f47 : ((((((((((x22.2.1 == 1) && (x22.2.2 == 0)) && (x24.2.1 == 2)) && (x24.2.2 == 0)) && (x26.2.2 == 5)) && (!x27)) && x28) && (x29.2.2 == 0)) && x41) == true) = true → Fz (Hs [.ext bs44 J45]) w43 (LI .u32) x42 := hp46
  refine WL_g (Gd_b rfl rfl) rfl (fun hb => VS_lenF (f47 hb) (gev rfl hb)) ?_
  refine WL_g (Gd_b rfl rfl) rfl (fun hb => VS_eql (gev rfl hb) rfl) ?_
  refine WL_v rfl (VS_and rfl rfl) ?_
  refine WL_v rfl (VS_move rfl) ?_
  refine WL_g (Gd_b rfl rfl) rfl (fun hb => VS_lda (M := L_token_Tokens) (Pth.id (L := L_token_Tokens)) rfl rfl) ?_
  refine WL_callBg (Gd_b rfl rfl) rfl (fun hb => c_token_Tokens_On (hx48 hb)) (fun hb => (evs_cons (gev rfl hb) (evs_cons rfl rfl))) (fun hb => inferInstance) (fun ⟨w49, bs50, J51⟩ hp52 => ?_)
  have f53 : (((((((((((x22.2.1 == 1) && (x22.2.2 == 0)) && (x24.2.1 == 2)) && (x24.2.2 == 0)) && (x26.2.2 == 5)) && (!x27)) && x28) && (x29.2.2 == 0)) && x41) && ((x42.length : Int) == 0)) == true) = true → Fz (Hs [.ext bs50 J51]) w49 (LI .u32) x48 := hp52
  refine WL_g (Gd_b rfl rfl) rfl (fun hb => VS_lenF (f53 hb) (gev rfl hb)) ?_
  refine WL_g (Gd_b rfl rfl) rfl (fun hb => VS_eql (gev rfl hb) rfl) ?_
  refine WL_v rfl (VS_and rfl rfl) ?_
  refine WL_v rfl (VS_move rfl) ?_
  refine WL_g (Gd_b rfl rfl) rfl (fun hb => VS_lda (M := L_token_Tokens) (Pth.id (L := L_token_Tokens)) rfl rfl) ?_
  refine WL_callBg (Gd_b rfl rfl) rfl (fun hb => c_token_Tokens_Of (hx54 hb)) (fun hb => (evs_cons (gev rfl hb) (evs_cons rfl rfl))) (fun hb => inferInstance) (fun ⟨w55, bs56, J57⟩ hp58 => ?_)
  have f59 : ((((((((((((x22.2.1 == 1) && (x22.2.2 == 0)) && (x24.2.1 == 2)) && (x24.2.2 == 0)) && (x26.2.2 == 5)) && (!x27)) && x28) && (x29.2.2 == 0)) && x41) && ((x42.length : Int) == 0)) && ((x48.length : Int) == 2)) == true) = true → Fz (Hs [.ext bs56 J57]) w55 (LI .u32) x54 := hp58
  refine WL_g (Gd_b rfl rfl) rfl (fun hb => VS_lenF (f59 hb) (gev rfl hb)) ?_
  refine WL_g (Gd_b rfl rfl) rfl (fun hb => VS_eql (gev rfl hb) rfl) ?_
  refine WL_v rfl (VS_and rfl rfl) ?_
  refine WL_v rfl (VS_assign rfl) ?_
  refine WL_nil ?_
  refine WQ_then ?_
  refine WP_ret ?_
  replace h := Option.some.inj h
  subst h
  exact WQ_ret () rfl (.tmp rfl .nil) trivial rfl (ks := []) rfl (by decide)
structure law09_Act where
  Do : Int
  H : Int
  X : token_Token
abbrev L_law09_Act : Lay law09_Act := Lay.via (LP (LI .u8) (LP (LI .u32) L_token_Token)) (fun x => (x.Do, x.H, x.X))
abbrev Z_law09_Act : law09_Act := ⟨0, 0, Z_token_Token⟩
instance : Inhabited law09_Act := ⟨Z_law09_Act⟩
theorem P_law09_Act_Do : Pth L_law09_Act (LI .u8) 0 (fun x => x.Do) (fun x v => { x with Do := v }) := (Pth.fst Pth.id).via _ _ _ 0 rfl (fun _ => rfl) (fun _ _ => rfl)
theorem P_law09_Act_H : Pth L_law09_Act (LI .u32) 1 (fun x => x.H) (fun x v => { x with H := v }) := (Pth.snd (Pth.fst Pth.id)).via _ _ _ 1 rfl (fun _ => rfl) (fun _ _ => rfl)
theorem P_law09_Act_X : Pth L_law09_Act L_token_Token 2 (fun x => x.X) (fun x v => { x with X := v }) := (Pth.snd (Pth.snd Pth.id)).via _ _ _ 2 rfl (fun _ => rfl) (fun _ _ => rfl)
def law09_TokenPlays (n : Nat) (a0 : (List law09_Act)) (a1 : Int) (a2 : Int) : Option Bool :=
  cn (decide (150 < (a0.length : Int))) (
  bd (law09_wakes n ) fun x21 =>
  some x21) (
  loop5 (fun k35 (x28 : Int) (x29 : ref09_Tokens) (x30 : ref09_Tokens) (x31 : token_Tokens) (x32 : token_Tokens) =>
  cn (decide (x28 < (a0.length : Int))) (
  gu (inb x28 a0.length) <|
  lt ((a0.getD (Int.toNat x28) default) : law09_Act) fun x37 =>
  bd (law09_name n x30 x37.H) fun x38 =>
  lt (fun (x39 : ref09_Tokens) (x40 : token_Tokens) =>
  bd (law09_Same n x40 x39) fun x64 =>
  cn ((!x64)) (
  some false) (
  cn ((x28 == (wr .i64 (Int.tdiv (a0.length : Int) 2)))) (
  k35 (wr .i64 (x28 + 1)) x39 x39 x40 x40) (
  k35 (wr .i64 (x28 + 1)) x29 x39 x31 x40))) fun j41 =>
  cn ((x37.Do == 0)) (
  bd (token_Tokens_Return n x32 (wr .u32 x38)) fun x42 =>
  bd (ref09_Tokens_Return n x30 x38) fun x49 =>
  cl ((x42.2.2 != x49.2.2) == false) (law09_row n x42.2.1 x49.2.1) default fun x56 =>
  cn (((x42.2.2 != x49.2.2) || (!x56))) (
  some false) (
  j41 x49.1 x42.1)) (
  cn ((x37.Do == 1)) (
  bd (token_Tokens_Clear n x32 x37.X.Region) fun x57 =>
  bd (ref09_Tokens_Clear n x30 (wr .i64 x37.X.Region)) fun x58 =>
  j41 x58 x57) (
  bd (law09_name n x30 x37.X.Above) fun x59 =>
  lt ({ x37.X with Above := wr .u32 x59 } : token_Token) fun x60 =>
  bd (token_Tokens_Lend n x32 x60) fun x61 =>
  bd (law09_Of n x60) fun x62 =>
  bd (ref09_Tokens_Lend n x30 x62) fun x63 =>
  cn (((x61.2.2 != x63.2.2) || ((wr .i64 x61.2.1) != x63.2.1))) (
  some false) (
  j41 x63.1 x61.1)))) (
  cn (decide (a2 < 0)) (
  bd (token_Tokens_Of n x32 a2) fun x65 =>
  cl (((x65.length : Int) == 0) == true) (law09_wakes n ) default fun x72 =>
  some (((x65.length : Int) == 0) && x72)) (
  bd (law09_Same n x31 x29) fun x73 =>
  cl (x73 == true) (token_Tokens_On n x32 a1) default fun x74 =>
  cl (x73 == true) (ref09_Tokens_Those n x30 (wr .i64 a1) (-1)) default fun x80 =>
  cl (x73 == true) (law09_row n x74 x80) default fun x86 =>
  cl ((x73 && x86) == true) (token_Tokens_Of n x32 a2) default fun x87 =>
  cl ((x73 && x86) == true) (ref09_Tokens_Those n x30 (-1) a2) default fun x93 =>
  cl ((x73 && x86) == true) (law09_row n x87 x93) default fun x99 =>
  cl (((x73 && x86) && x99) == true) (token_Tokens_Reads n x32 a1 0) default fun x100 =>
  cl (((x73 && x86) && x99) == true) (ref09_Tokens_Reads n x30 (wr .i64 a1) 0) default fun x101 =>
  cl ((((x73 && x86) && x99) && (x100 == x101)) == true) (token_Tokens_Writes n x32 a1 0) default fun x102 =>
  cl ((((x73 && x86) && x99) && (x100 == x101)) == true) (ref09_Tokens_Writes n x30 (wr .i64 a1) 0) default fun x103 =>
  cl (((((x73 && x86) && x99) && (x100 == x101)) && (x102 == x103)) == true) (law09_wakes n ) default fun x104 =>
  some (((((x73 && x86) && x99) && (x100 == x101)) && (x102 == x103)) && x104)))) n 0 Z_ref09_Tokens Z_ref09_Tokens Z_token_Tokens Z_token_Tokens)
theorem c_law09_TokenPlays {n : Nat} {a0 : (List law09_Act)} {a1 : Int} {a2 : Int} {r : Bool} {K : World → Prop} [Stable K] {v0 : Value} (f0 : Fz K v0 L_law09_Act a0) (h : law09_TokenPlays n a0 a1 a2 = some r) : FnW Try.prog 13 [v0, .int .u32 a1, .int .i64 a2] K (.bool r) := by
  unfold law09_TokenPlays at h
  refine fn_of Try.func13 (by kernel_rfl) rfl Try.ntmps13 rfl (fun cx hbs hpre hro => ?_)
  haveI := knf_pre hbs hpre
  refine WP_seq ?_
  refine WP_region ?_
  refine WL_v rfl (VS_assign rfl) ?_
  refine WL_nil ?_
  refine WQ_then ?_
  refine WP_seq ?_
  refine WP_seq ?_
  refine WP_region ?_
  refine WL_v rfl (VS_move rfl) ?_
  refine WL_v rfl (VS_lenF f0 rfl) ?_
  refine WL_v rfl (VS_gtr rfl rfl) ?_
  refine WL_nil ?_
  refine WQ_then ?_
  refine WP_if rfl (fun hc => ?_) (fun hc => ?_)
  ·
    replace h := cn_t hc h
    refine WP_seq ?_
    obtain ⟨x21, hx21, h⟩ := bd_e h
    refine WP_region ?_
    refine WL_v rfl (VS_call (c_law09_wakes hx21) rfl (fun _ _ _ => trivial)) ?_
    refine WL_v rfl (VS_assign rfl) ?_
    refine WL_nil ?_
    refine WQ_then ?_
    refine WP_ret ?_
    refine WQ_then_ret ?_
    replace h := Option.some.inj h
    subst h
    exact WQ_ret () rfl (.tmp rfl .nil) trivial rfl (ks := []) rfl (by decide)
  ·
    replace h := cn_f hc h
    refine WP_skip ?_
    refine WQ_then ?_
    refine WP_seq ?_
    refine WP_region ?_
    refine WL_x rfl (RX_allocL (L := L_token_Tokens) (z := Z_token_Tokens) ⟨by kernel_rfl⟩) (fun b7 _ => ?_)
    refine WL_x rfl (RX_allocL (L := L_token_Tokens) (z := Z_token_Tokens) ⟨by kernel_rfl⟩) (fun b8 _ => ?_)
    refine WL_nil ?_
    refine WQ_then ?_
    refine WP_seq ?_
    refine WP_region ?_
    refine WL_x rfl (RX_allocL (L := L_ref09_Tokens) (z := Z_ref09_Tokens) ⟨by kernel_rfl⟩) (fun b9 _ => ?_)
    refine WL_x rfl (RX_allocL (L := L_ref09_Tokens) (z := Z_ref09_Tokens) ⟨by kernel_rfl⟩) (fun b10 _ => ?_)
    refine WL_nil ?_
    refine WQ_then ?_
    refine WP_seq ?_
    refine WP_seq ?_
    refine WP_region ?_
    refine WL_v rfl (VS_assign rfl) ?_
    refine WL_nil ?_
    refine WQ_then ?_
    refine WP_block ?_
    obtain ⟨lb33, hlb33, h⟩ := lp5_i h
    refine WP_loops (α := Nat × Int × ref09_Tokens × ref09_Tokens × token_Tokens × token_Tokens) [0, 1, 2, 7, 8, 9, 10] (.cons rfl (.cons rfl (.cons rfl (.cons rfl (.cons rfl (.cons rfl (.cons rfl (.nil)))))))) (fun (m34, x28, x29, x30, x31, x32) => [(11, .int .i64 x28)]) (fun (m34, x28, x29, x30, x31, x32) => [.cells b10 171 (L_ref09_Tokens.enc x29), .cells b9 171 (L_ref09_Tokens.enc x30), .cells b8 166 (L_token_Tokens.enc x31), .cells b7 166 (L_token_Tokens.enc x32)]) (fun (m34, x28, x29, x30, x31, x32) => loop5 lb33 m34 x28 x29 x30 x31 x32 = some r) (fun (m34, x28, x29, x30, x31, x32) => m34) (n, 0, Z_ref09_Tokens, Z_ref09_Tokens, Z_token_Tokens, Z_token_Tokens) h (Sub_cons rfl (Sub_nil)) (ks := [0, 1, 2, 3]) rfl (by decide) ?_
    rintro ⟨m34, x28, x29, x30, x31, x32⟩ h
    replace h : loop5 lb33 m34 x28 x29 x30 x31 x32 = some r := h
    replace h := lp5_s hlb33 h
    obtain ⟨m34, rfl, h⟩ := h
    refine WP_seq ?_
    refine WP_seq ?_
    refine WP_region ?_
    refine WL_v rfl (VS_move rfl) ?_
    refine WL_v rfl (VS_move rfl) ?_
    refine WL_v rfl (VS_lenF f0 rfl) ?_
    refine WL_v rfl (VS_lss rfl rfl) ?_
    refine WL_nil ?_
    refine WQ_then ?_
    refine WP_if rfl (fun hc => ?_) (fun hc => ?_)
    ·
      replace h := cn_t hc h
      refine WP_skip ?_
      refine WQ_then ?_
      refine WP_seq ?_
      refine WP_block ?_
      refine WP_seq ?_
      obtain ⟨hg36, h⟩ := gu_e h
      obtain ⟨x37, hx37, h⟩ := lt_e h
      refine WP_region ?_
      refine WL_v rfl (VS_move rfl) ?_
      refine WL_v rfl (VS_move rfl) ?_
      refine WL_v rfl (VS_ixF (m := (Int.toNat x28)) f0 rfl rfl rfl (inb_e hg36).1 (inb_e hg36).2) ?_
      refine WL_v rfl (VS_ldaF (M := L_law09_Act) f0 (Pth.idx (L := L_law09_Act) (m := (a0.length)) (k := 7) ((Int.toNat x28)) (inb_e hg36).2 rfl) rfl rfl (by decide)) ?_
      refine WL_x rfl (RX_allocL (L := L_law09_Act) (z := Z_law09_Act) ⟨by kernel_rfl⟩) (fun b12 _ => ?_)
      refine WL_x0 (RX_st (M := L_law09_Act) (Pth.id (L := L_law09_Act)) (a0.getD (Int.toNat x28) default) x37 hx37 rfl rfl rfl rfl) (fun _ _ => ?_)
      refine WL_nil ?_
      refine WQ_then ?_
      refine WP_seq ?_
      obtain ⟨x38, hx38, h⟩ := bd_e h
      refine WP_region ?_
      refine WL_v rfl (VS_lda (M := L_ref09_Tokens) (Pth.id (L := L_ref09_Tokens)) rfl rfl) ?_
      refine WL_v rfl (VS_field0 rfl) ?_
      refine WL_v rfl (VS_ldi P_law09_Act_H rfl) ?_
      refine WL_v rfl (VS_call (c_law09_name hx38) rfl (fun _ _ _ => trivial)) ?_
      refine WL_v rfl (VS_assign rfl) ?_
      refine WL_nil ?_
      refine WQ_then ?_
      obtain ⟨j41, hj41, h⟩ := lt_e h
      refine WP_cuts (α := ref09_Tokens × token_Tokens) [0, 1, 2, 7, 8, 9, 10, 11] (.cons rfl (.cons rfl (.cons rfl (.cons rfl (.cons rfl (.cons rfl (.cons rfl (.cons rfl (.nil))))))))) (fun (x39, x40) => []) (fun (x39, x40) => [.cells b12 173 (L_law09_Act.enc x37), .cells b10 171 (L_ref09_Tokens.enc x29), .cells b9 171 (L_ref09_Tokens.enc x39), .cells b8 166 (L_token_Tokens.enc x31), .cells b7 166 (L_token_Tokens.enc x40)]) (fun (x39, x40) => j41 x39 x40 = some r) ?_ ?_
      ·
        refine WP_seq ?_
        refine WP_region ?_
        refine WL_v rfl (VS_field0 rfl) ?_
        refine WL_v rfl (VS_ldi P_law09_Act_Do rfl) ?_
        refine WL_nil ?_
        refine WQ_then ?_
        refine WP_block ?_
        refine WP_seq ?_
        refine WP_region ?_
        refine WL_v rfl (VS_eql rfl rfl) ?_
        refine WL_v rfl (VS_assign rfl) ?_
        refine WL_nil ?_
        refine WQ_then ?_
        refine WP_if rfl (fun hc => ?_) (fun hc => ?_)
        ·
          replace h := cn_t hc h
          refine WP_seq ?_
          obtain ⟨x42, hx42, h⟩ := bd_e h
          refine WP_region ?_
          refine WL_v rfl (VS_lda (M := L_token_Tokens) (Pth.id (L := L_token_Tokens)) rfl rfl) ?_
          refine WL_v rfl (VS_move rfl) ?_
          refine WL_v rfl (VS_conv rfl rfl) ?_
          refine WL_x rfl (RX_callB (c_token_Tokens_Return hx42) rfl) (fun ⟨w43, bs44, J45⟩ hp46 => ?_)
          obtain ⟨v48, rfl, f47⟩ := hp46
          replace f47 : Fz (Hs [.ext bs44 J45]) v48 (LI .u32) x42.2.1 := f47
          refine WL_v rfl (VS_move rfl) ?_
          refine WL_v rfl (VS_extract rfl rfl) ?_
          refine WL_v rfl (VS_extract rfl rfl) ?_
          refine WL_v rfl (VS_extract rfl rfl) ?_
          refine WL_x rfl (RX_allocL (L := L_token_Tokens) (z := Z_token_Tokens) ⟨by kernel_rfl⟩) (fun b14 _ => ?_)
          refine WL_x0 (RX_st (M := L_token_Tokens) (Pth.id (L := L_token_Tokens)) x42.1 x42.1 rfl rfl rfl rfl rfl) (fun _ _ => ?_)
          refine WL_v rfl (VS_assign rfl) ?_
          refine WL_v rfl (VS_assign rfl) ?_
          refine WL_nil ?_
          refine WQ_then ?_
          refine WP_seq ?_
          obtain ⟨x49, hx49, h⟩ := bd_e h
          refine WP_region ?_
          refine WL_v rfl (VS_lda (M := L_ref09_Tokens) (Pth.id (L := L_ref09_Tokens)) rfl rfl) ?_
          refine WL_v rfl (VS_move rfl) ?_
          refine WL_x rfl (RX_callB (c_ref09_Tokens_Return hx49) rfl) (fun ⟨w50, bs51, J52⟩ hp53 => ?_)
          obtain ⟨v55, rfl, f54⟩ := hp53
          replace f54 : Fz (Hs [.ext bs51 J52]) v55 (LI .i64) x49.2.1 := f54
          refine WL_v rfl (VS_move rfl) ?_
          refine WL_v rfl (VS_extract rfl rfl) ?_
          refine WL_v rfl (VS_extract rfl rfl) ?_
          refine WL_v rfl (VS_extract rfl rfl) ?_
          refine WL_x rfl (RX_allocL (L := L_ref09_Tokens) (z := Z_ref09_Tokens) ⟨by kernel_rfl⟩) (fun b17 _ => ?_)
          refine WL_x0 (RX_st (M := L_ref09_Tokens) (Pth.id (L := L_ref09_Tokens)) x49.1 x49.1 rfl rfl rfl rfl rfl) (fun _ _ => ?_)
          refine WL_v rfl (VS_assign rfl) ?_
          refine WL_v rfl (VS_assign rfl) ?_
          refine WL_nil ?_
          refine WQ_then ?_
          refine WP_seq ?_
          refine WP_draw mixed (.stg [] [(0, [14]), (1, [17])] (.alt 2 [7, 99] (.stg [(1, [17])] [] (.alt 3 [9, 100] (.fin [] []) .no)) .no)) (by kernel_rfl) ?_
          refine Stg_stg ?_ ?_
          · exact ReOk_nil
          refine NewOk_cons rfl rfl (VG_v rfl (VS_lda (M := L_token_Tokens) (Pth.id (L := L_token_Tokens)) rfl rfl)) ?_
          refine NewOk_cons rfl rfl (VG_v rfl (VS_lda (M := L_ref09_Tokens) (Pth.id (L := L_ref09_Tokens)) rfl rfl)) ?_
          refine NewOk_nil ?_
          refine Stg_none rfl (RG_x rfl (RX_st (M := L_token_Tokens) (Pth.id (L := L_token_Tokens)) x42.1 x42.1 rfl rfl rfl rfl rfl)) (fun _ _ => ?_) Stg_no
          refine Stg_stg ?_ ?_
          ·
            refine ReOk_cons rfl rfl (VG_v rfl (VS_val (VS_lda (M := L_ref09_Tokens) (Pth.id (L := L_ref09_Tokens)) rfl rfl) rfl)) ?_
            exact ReOk_nil
          refine NewOk_nil ?_
          refine Stg_none rfl (RG_x rfl (RX_st (M := L_ref09_Tokens) (Pth.id (L := L_ref09_Tokens)) x49.1 x49.1 rfl rfl rfl rfl rfl)) (fun _ _ => ?_) Stg_no
          refine Stg_fin ?_ ?_
          · exact ReOk_nil
          refine NewOk_nil ?_
          refine WQ_then ?_
          refine WP_seq ?_
          obtain ⟨x56, hx56, _, h⟩ := cl_e h
          refine WP_region ?_
          refine WL_v rfl (VS_move rfl) ?_
          refine WL_v rfl (VS_move rfl) ?_
          refine WL_v rfl (VS_neq rfl rfl) ?_
          refine WL_v rfl (VS_move rfl) ?_
          refine WL_g (Gd_b rfl rfl) rfl (fun hb => VS_move rfl) ?_
          refine WL_g (Gd_b rfl rfl) rfl (fun hb => VS_move rfl) ?_
          refine WL_g (Gd_b rfl rfl) rfl (fun hb => VS_call (c_law09_row (K := (Hs [.ext bs44 J45, .ext bs51 J52])) (f47.mono ent) (f54.mono ent) (hx56 hb)) (evs_cons (gev rfl hb) (evs_cons (gev rfl hb) rfl)) kn) ?_
          refine WL_g (Gd_b rfl rfl) rfl (fun hb => VS_not (gev rfl hb)) ?_
          refine WL_v rfl (VS_or rfl rfl) ?_
          refine WL_nil ?_
          refine WQ_then ?_
          refine WP_if rfl (fun hc => ?_) (fun hc => ?_)
          ·
            replace h := cn_t hc h
            refine WP_seq ?_
            refine WP_region ?_
            refine WL_v rfl (VS_assign rfl) ?_
            refine WL_nil ?_
            refine WQ_then ?_
            refine WP_ret ?_
            refine WQ_block_ret ?_
            refine WQ_then_ret ?_
            refine WQ_block_ret ?_
            refine WQ_then_ret ?_
            refine WQ_then_ret ?_
            refine WQ_block_ret ?_
            refine WQ_then_ret ?_
            replace h := Option.some.inj h
            subst h
            exact WQ_ret () rfl (.tmp rfl .nil) trivial rfl (ks := []) rfl (by decide)
          ·
            replace h := cn_f hc h
            refine WP_skip ?_
            refine WQ_block ?_
            exact WQ_cuts (x49.1, x42.1) h (Sub_nil) (.cons rfl (.cons rfl (.cons rfl (.cons rfl (.cons rfl (.cons rfl (.cons rfl (.cons rfl (.nil))))))))) (ks := [4, 5, 6, 7, 8]) rfl (by decide)
        ·
          replace h := cn_f hc h
          refine WP_seq ?_
          refine WP_region ?_
          refine WL_v rfl (VS_eql rfl rfl) ?_
          refine WL_v rfl (VS_assign rfl) ?_
          refine WL_nil ?_
          refine WQ_then ?_
          refine WP_if rfl (fun hc => ?_) (fun hc => ?_)
          ·
            replace h := cn_t hc h
            refine WP_seq ?_
            obtain ⟨x57, hx57, h⟩ := bd_e h
            refine WP_region ?_
            refine WL_v rfl (VS_lda (M := L_token_Tokens) (Pth.id (L := L_token_Tokens)) rfl rfl) ?_
            refine WL_v rfl (VS_field0 rfl) ?_
            refine WL_v rfl (VS_field rfl) ?_
            refine WL_v rfl (VS_ldi (P_law09_Act_X.comp P_token_Token_Region) rfl) ?_
            refine WL_v rfl (VS_call (c_token_Tokens_Clear hx57) rfl (fun _ _ _ => trivial)) ?_
            refine WL_x0 (RX_st (M := L_token_Tokens) (Pth.id (L := L_token_Tokens)) x57 x57 rfl rfl rfl rfl rfl) (fun _ _ => ?_)
            refine WL_nil ?_
            refine WQ_then ?_
            obtain ⟨x58, hx58, h⟩ := bd_e h
            refine WP_region ?_
            refine WL_v rfl (VS_lda (M := L_ref09_Tokens) (Pth.id (L := L_ref09_Tokens)) rfl rfl) ?_
            refine WL_v rfl (VS_field0 rfl) ?_
            refine WL_v rfl (VS_field rfl) ?_
            refine WL_v rfl (VS_ldi (P_law09_Act_X.comp P_token_Token_Region) rfl) ?_
            refine WL_v rfl (VS_conv rfl rfl) ?_
            refine WL_v rfl (VS_call (c_ref09_Tokens_Clear hx58) rfl (fun _ _ _ => trivial)) ?_
            refine WL_x0 (RX_st (M := L_ref09_Tokens) (Pth.id (L := L_ref09_Tokens)) x58 x58 rfl rfl rfl rfl rfl) (fun _ _ => ?_)
            refine WL_nil ?_
            refine WQ_block ?_
            exact WQ_cuts (x58, x57) h (Sub_nil) (.cons rfl (.cons rfl (.cons rfl (.cons rfl (.cons rfl (.cons rfl (.cons rfl (.cons rfl (.nil))))))))) (ks := [0, 1, 2, 3, 4]) rfl (by decide)
          ·
            replace h := cn_f hc h
            refine WP_seq ?_
            refine WP_region ?_
            refine WL_v rfl (VS_field0 rfl) ?_
            refine WL_v rfl (VS_lda (M := L_token_Token) P_law09_Act_X rfl rfl) ?_
            refine WL_x rfl (RX_allocL (L := L_token_Token) (z := Z_token_Token) ⟨by kernel_rfl⟩) (fun b20 _ => ?_)
            refine WL_x0 (RX_st (M := L_token_Token) (Pth.id (L := L_token_Token)) x37.X x37.X rfl rfl rfl rfl rfl) (fun _ _ => ?_)
            refine WL_nil ?_
            refine WQ_then ?_
            refine WP_seq ?_
            obtain ⟨x59, hx59, h⟩ := bd_e h
            obtain ⟨x60, hx60, h⟩ := lt_e h
            refine WP_region ?_
            refine WL_v rfl (VS_lda (M := L_ref09_Tokens) (Pth.id (L := L_ref09_Tokens)) rfl rfl) ?_
            refine WL_v rfl (VS_field0 rfl) ?_
            refine WL_v rfl (VS_ldi P_token_Token_Above rfl) ?_
            refine WL_v rfl (VS_call (c_law09_name hx59) rfl (fun _ _ _ => trivial)) ?_
            refine WL_v rfl (VS_conv rfl rfl) ?_
            refine WL_v rfl (VS_field0 rfl) ?_
            refine WL_x0 (RX_st (M := (LI .u32)) P_token_Token_Above (wr .u32 x59) x60 hx60 rfl rfl rfl rfl) (fun _ _ => ?_)
            refine WL_nil ?_
            refine WQ_then ?_
            refine WP_seq ?_
            obtain ⟨x61, hx61, h⟩ := bd_e h
            refine WP_region ?_
            refine WL_v rfl (VS_lda (M := L_token_Tokens) (Pth.id (L := L_token_Tokens)) rfl rfl) ?_
            refine WL_v rfl (VS_lda (M := L_token_Token) (Pth.id (L := L_token_Token)) rfl rfl) ?_
            refine WL_v rfl (VS_call (c_token_Tokens_Lend hx61) rfl (fun _ _ _ => trivial)) ?_
            refine WL_v rfl (VS_move rfl) ?_
            refine WL_v rfl (VS_extract rfl rfl) ?_
            refine WL_v rfl (VS_extract rfl rfl) ?_
            refine WL_v rfl (VS_extract rfl rfl) ?_
            refine WL_x rfl (RX_allocL (L := L_token_Tokens) (z := Z_token_Tokens) ⟨by kernel_rfl⟩) (fun b21 _ => ?_)
            refine WL_x0 (RX_st (M := L_token_Tokens) (Pth.id (L := L_token_Tokens)) x61.1 x61.1 rfl rfl rfl rfl rfl) (fun _ _ => ?_)
            refine WL_v rfl (VS_assign rfl) ?_
            refine WL_v rfl (VS_assign rfl) ?_
            refine WL_nil ?_
            refine WQ_then ?_
            refine WP_seq ?_
            obtain ⟨x62, hx62, h⟩ := bd_e h
            obtain ⟨x63, hx63, h⟩ := bd_e h
            refine WP_draw mixed (.stg [] [(0, [9]), (1, [20]), (2, [65]), (3, [64, 66]), (4, [67]), (5, [63]), (6, [63]), (7, [63])] (.alt 8 [] (.stg [(0, [9]), (1, [20]), (2, [65]), (3, [64, 66]), (4, [67]), (5, [63]), (6, [63]), (7, [63])] [] (.alt 9 [24, 68] (.stg [(6, [63]), (7, [63])] [] (.alt 10 [69] (.stg [(7, [63])] [] (.alt 11 [70] (.fin [] []) .no)) .no)) .no)) .no)) (by kernel_rfl) ?_
            refine Stg_stg ?_ ?_
            · exact ReOk_nil
            refine NewOk_cons rfl rfl (VG_v rfl (VS_lda (M := L_ref09_Tokens) (Pth.id (L := L_ref09_Tokens)) rfl rfl)) ?_
            refine NewOk_cons rfl rfl (VG_v rfl (VS_lda (M := L_token_Token) (Pth.id (L := L_token_Token)) rfl rfl)) ?_
            refine NewOk_cons rfl rfl (VG_v rfl (VS_call (c_law09_Of hx62) rfl (fun _ _ _ => trivial))) ?_
            refine NewOk_cons rfl rfl (VG_v rfl (VS_call (c_ref09_Tokens_Lend hx63) rfl (fun _ _ _ => trivial))) ?_
            refine NewOk_cons rfl rfl (VG_v rfl (VS_move rfl)) ?_
            refine NewOk_cons rfl rfl (VG_v rfl (VS_extract rfl rfl)) ?_
            refine NewOk_cons rfl rfl (VG_v rfl (VS_extract rfl rfl)) ?_
            refine NewOk_cons rfl rfl (VG_v rfl (VS_extract rfl rfl)) ?_
            refine NewOk_nil ?_
            refine Stg_some rfl rfl (RG_x rfl (RX_allocL (L := L_ref09_Tokens) (z := Z_ref09_Tokens) ⟨by kernel_rfl⟩)) (fun b24 _ => ?_) Stg_no
            refine Stg_stg ?_ ?_
            ·
              refine ReOk_cons rfl rfl (VG_v rfl (VS_val (VS_lda (M := L_ref09_Tokens) (Pth.id (L := L_ref09_Tokens)) rfl rfl) rfl)) ?_
              refine ReOk_cons rfl rfl (VG_v rfl (VS_val (VS_lda (M := L_token_Token) (Pth.id (L := L_token_Token)) rfl rfl) rfl)) ?_
              refine ReOk_cons rfl rfl (VG_v rfl (VS_val (VS_call (c_law09_Of hx62) rfl (fun _ _ _ => trivial)) rfl)) ?_
              refine ReOk_cons rfl rfl (VG_v rfl (VS_val (VS_call (c_ref09_Tokens_Lend hx63) rfl (fun _ _ _ => trivial)) rfl)) ?_
              refine ReOk_cons rfl rfl (VG_v rfl (VS_move rfl)) ?_
              refine ReOk_cons rfl rfl (VG_v rfl (VS_val (VS_extract rfl rfl) rfl)) ?_
              refine ReOk_cons rfl rfl (VG_v rfl (VS_val (VS_extract rfl rfl) rfl)) ?_
              refine ReOk_cons rfl rfl (VG_v rfl (VS_val (VS_extract rfl rfl) rfl)) ?_
              exact ReOk_nil
            refine NewOk_nil ?_
            refine Stg_none rfl (RG_x rfl (RX_st (M := L_ref09_Tokens) (Pth.id (L := L_ref09_Tokens)) x63.1 x63.1 rfl rfl rfl rfl rfl)) (fun _ _ => ?_) Stg_no
            refine Stg_stg ?_ ?_
            ·
              refine ReOk_cons rfl rfl (VG_v rfl (VS_val (VS_extract rfl rfl) rfl)) ?_
              refine ReOk_cons rfl rfl (VG_v rfl (VS_val (VS_extract rfl rfl) rfl)) ?_
              exact ReOk_nil
            refine NewOk_nil ?_
            refine Stg_some rfl rfl (RG_x rfl ((VS_assign rfl).rx)) (fun _ _ => ?_) Stg_no
            refine Stg_stg ?_ ?_
            ·
              refine ReOk_cons rfl rfl (VG_v rfl (VS_val (VS_extract rfl rfl) rfl)) ?_
              exact ReOk_nil
            refine NewOk_nil ?_
            refine Stg_some rfl rfl (RG_x rfl ((VS_assign rfl).rx)) (fun _ _ => ?_) Stg_no
            refine Stg_fin ?_ ?_
            · exact ReOk_nil
            refine NewOk_nil ?_
            refine WQ_then ?_
            refine WP_seq ?_
            refine WP_draw mixed (.stg [] [(0, [21]), (1, [24])] (.alt 2 [7, 71] (.stg [(1, [24])] [] (.alt 3 [9, 72] (.fin [] []) .no)) .no)) (by kernel_rfl) ?_
            refine Stg_stg ?_ ?_
            · exact ReOk_nil
            refine NewOk_cons rfl rfl (VG_v rfl (VS_lda (M := L_token_Tokens) (Pth.id (L := L_token_Tokens)) rfl rfl)) ?_
            refine NewOk_cons rfl rfl (VG_v rfl (VS_lda (M := L_ref09_Tokens) (Pth.id (L := L_ref09_Tokens)) rfl rfl)) ?_
            refine NewOk_nil ?_
            refine Stg_none rfl (RG_x rfl (RX_st (M := L_token_Tokens) (Pth.id (L := L_token_Tokens)) x61.1 x61.1 rfl rfl rfl rfl rfl)) (fun _ _ => ?_) Stg_no
            refine Stg_stg ?_ ?_
            ·
              refine ReOk_cons rfl rfl (VG_v rfl (VS_val (VS_lda (M := L_ref09_Tokens) (Pth.id (L := L_ref09_Tokens)) rfl rfl) rfl)) ?_
              exact ReOk_nil
            refine NewOk_nil ?_
            refine Stg_none rfl (RG_x rfl (RX_st (M := L_ref09_Tokens) (Pth.id (L := L_ref09_Tokens)) x63.1 x63.1 rfl rfl rfl rfl rfl)) (fun _ _ => ?_) Stg_no
            refine Stg_fin ?_ ?_
            · exact ReOk_nil
            refine NewOk_nil ?_
            refine WQ_then ?_
            refine WP_seq ?_
            refine WP_region ?_
            refine WL_v rfl (VS_move rfl) ?_
            refine WL_v rfl (VS_move rfl) ?_
            refine WL_v rfl (VS_neq rfl rfl) ?_
            refine WL_v rfl (VS_move rfl) ?_
            refine WL_g (Gd_b rfl rfl) rfl (fun hb => VS_move rfl) ?_
            refine WL_g (Gd_b rfl rfl) rfl (fun hb => VS_conv (gev rfl hb) rfl) ?_
            refine WL_g (Gd_b rfl rfl) rfl (fun hb => VS_move rfl) ?_
            refine WL_g (Gd_b rfl rfl) rfl (fun hb => VS_neq (gev rfl hb) (gev rfl hb)) ?_
            refine WL_v rfl (VS_or rfl rfl) ?_
            refine WL_nil ?_
            refine WQ_then ?_
            refine WP_if rfl (fun hc => ?_) (fun hc => ?_)
            ·
              replace h := cn_t hc h
              refine WP_seq ?_
              refine WP_region ?_
              refine WL_v rfl (VS_assign rfl) ?_
              refine WL_nil ?_
              refine WQ_then ?_
              refine WP_ret ?_
              refine WQ_block_ret ?_
              refine WQ_then_ret ?_
              refine WQ_block_ret ?_
              refine WQ_then_ret ?_
              refine WQ_then_ret ?_
              refine WQ_block_ret ?_
              refine WQ_then_ret ?_
              replace h := Option.some.inj h
              subst h
              exact WQ_ret () rfl (.tmp rfl .nil) trivial rfl (ks := []) rfl (by decide)
            ·
              replace h := cn_f hc h
              refine WP_skip ?_
              refine WQ_block ?_
              exact WQ_cuts (x63.1, x61.1) h (Sub_nil) (.cons rfl (.cons rfl (.cons rfl (.cons rfl (.cons rfl (.cons rfl (.cons rfl (.cons rfl (.nil))))))))) (ks := [3, 4, 5, 6, 7]) rfl (by decide)
      ·
        rintro ⟨x39, x40⟩ h
        replace h : j41 x39 x40 = some r := h
        replace h := jn2_u hj41 h
        refine WP_seq ?_
        refine WP_seq ?_
        obtain ⟨x64, hx64, h⟩ := bd_e h
        refine WP_region ?_
        refine WL_v rfl (VS_lda (M := L_token_Tokens) (Pth.id (L := L_token_Tokens)) rfl rfl) ?_
        refine WL_v rfl (VS_lda (M := L_ref09_Tokens) (Pth.id (L := L_ref09_Tokens)) rfl rfl) ?_
        refine WL_v rfl (VS_call (c_law09_Same hx64) rfl (fun _ _ _ => trivial)) ?_
        refine WL_v rfl (VS_not rfl) ?_
        refine WL_nil ?_
        refine WQ_then ?_
        refine WP_if rfl (fun hc => ?_) (fun hc => ?_)
        ·
          replace h := cn_t hc h
          refine WP_seq ?_
          refine WP_region ?_
          refine WL_v rfl (VS_assign rfl) ?_
          refine WL_nil ?_
          refine WQ_then ?_
          refine WP_ret ?_
          refine WQ_then_ret ?_
          refine WQ_block_ret ?_
          refine WQ_then_ret ?_
          refine WQ_then_ret ?_
          refine WQ_block_ret ?_
          refine WQ_then_ret ?_
          replace h := Option.some.inj h
          subst h
          exact WQ_ret () rfl (.tmp rfl .nil) trivial rfl (ks := []) rfl (by decide)
        ·
          replace h := cn_f hc h
          refine WP_skip ?_
          refine WQ_then ?_
          refine WP_seq ?_
          refine WP_region ?_
          refine WL_v rfl (VS_move rfl) ?_
          refine WL_v rfl (VS_move rfl) ?_
          refine WL_v rfl (VS_lenF f0 rfl) ?_
          refine WL_v rfl (VS_quo rfl rfl (by decide) rfl) ?_
          refine WL_v rfl (VS_eql rfl rfl) ?_
          refine WL_nil ?_
          refine WQ_then ?_
          refine WP_if rfl (fun hc => ?_) (fun hc => ?_)
          ·
            replace h := cn_t hc h
            refine WP_seq ?_
            refine WP_region ?_
            refine WL_v rfl (VS_lda (M := L_token_Tokens) (Pth.id (L := L_token_Tokens)) rfl rfl) ?_
            refine WL_x0 (RX_st (M := L_token_Tokens) (Pth.id (L := L_token_Tokens)) x40 x40 rfl rfl rfl rfl rfl) (fun _ _ => ?_)
            refine WL_nil ?_
            refine WQ_then ?_
            refine WP_region ?_
            refine WL_v rfl (VS_lda (M := L_ref09_Tokens) (Pth.id (L := L_ref09_Tokens)) rfl rfl) ?_
            refine WL_x0 (RX_st (M := L_ref09_Tokens) (Pth.id (L := L_ref09_Tokens)) x39 x39 rfl rfl rfl rfl rfl) (fun _ _ => ?_)
            refine WL_nil ?_
            refine WQ_block ?_
            refine WQ_then ?_
            refine WP_region ?_
            refine WL_v rfl (VS_move rfl) ?_
            refine WL_v rfl (VS_add rfl rfl rfl) ?_
            refine WL_v rfl (VS_assign rfl) ?_
            refine WL_nil ?_
            exact WQ_loops (m34, wr .i64 (x28 + 1), x39, x39, x40, x40) (Nat.lt_succ_self _) h (Sub_cons rfl (Sub_nil)) (.cons rfl (.cons rfl (.cons rfl (.cons rfl (.cons rfl (.cons rfl (.cons rfl (.nil)))))))) (ks := [1, 2, 3, 4]) rfl (by decide)
          ·
            replace h := cn_f hc h
            refine WP_skip ?_
            refine WQ_block ?_
            refine WQ_then ?_
            refine WP_region ?_
            refine WL_v rfl (VS_move rfl) ?_
            refine WL_v rfl (VS_add rfl rfl rfl) ?_
            refine WL_v rfl (VS_assign rfl) ?_
            refine WL_nil ?_
            exact WQ_loops (m34, wr .i64 (x28 + 1), x29, x39, x31, x40) (Nat.lt_succ_self _) h (Sub_cons rfl (Sub_nil)) (.cons rfl (.cons rfl (.cons rfl (.cons rfl (.cons rfl (.cons rfl (.cons rfl (.nil)))))))) (ks := [1, 2, 3, 4]) rfl (by decide)
    ·
      replace h := cn_f hc h
      refine WP_exit ?_
      refine WQ_then_exit ?_
      refine WQ_then_exit ?_
      refine WQ_block_exit ?_
      refine WQ_then ?_
      refine WP_seq ?_
      refine WP_region ?_
      refine WL_v rfl (VS_move rfl) ?_
      refine WL_v rfl (VS_assign rfl) ?_
      refine WL_nil ?_
      refine WQ_then ?_
      refine WP_seq ?_
      refine WP_seq ?_
      refine WP_region ?_
      refine WL_v rfl (VS_move rfl) ?_
      refine WL_v rfl (VS_lss rfl rfl) ?_
      refine WL_nil ?_
      refine WQ_then ?_
      refine WP_if rfl (fun hc => ?_) (fun hc => ?_)
      ·
        replace h := cn_t hc h
        refine WP_seq ?_
        obtain ⟨x65, hx65, h⟩ := bd_e h
        obtain ⟨x72, hx72, _, h⟩ := cl_e h
        refine WP_region ?_
        refine WL_v rfl (VS_lda (M := L_token_Tokens) (Pth.id (L := L_token_Tokens)) rfl rfl) ?_
        refine WL_v rfl (VS_move rfl) ?_
        refine WL_x rfl (RX_callB (c_token_Tokens_Of hx65) rfl) (fun ⟨w66, bs67, J68⟩ hp69 => ?_)
        have f70 : Fz (Hs [.ext bs67 J68]) w66 (LI .u32) x65 := hp69
        refine WL_v rfl (VS_lenF f70 rfl) ?_
        refine WL_v rfl (VS_eql rfl rfl) ?_
        refine WL_v rfl (VS_move rfl) ?_
        refine WL_g (Gd_b rfl rfl) rfl (fun hb => VS_call (c_law09_wakes (hx72 hb)) rfl (fun _ _ _ => trivial)) ?_
        refine WL_v rfl (VS_and rfl rfl) ?_
        refine WL_v rfl (VS_assign rfl) ?_
        refine WL_nil ?_
        refine WQ_then ?_
        refine WP_ret ?_
        refine WQ_then_ret ?_
        replace h := Option.some.inj h
        subst h
        exact WQ_ret () rfl (.tmp rfl .nil) trivial rfl (ks := []) rfl (by decide)
      ·
        replace h := cn_f hc h
        refine WP_skip ?_
        refine WQ_then ?_
        refine WP_seq ?_
        obtain ⟨x73, hx73, h⟩ := bd_e h
        obtain ⟨x74, hx74, _, h⟩ := cl_e h
        obtain ⟨x80, hx80, _, h⟩ := cl_e h
        obtain ⟨x86, hx86, _, h⟩ := cl_e h
        obtain ⟨x87, hx87, _, h⟩ := cl_e h
        obtain ⟨x93, hx93, _, h⟩ := cl_e h
        obtain ⟨x99, hx99, _, h⟩ := cl_e h
        obtain ⟨x100, hx100, _, h⟩ := cl_e h
        obtain ⟨x101, hx101, _, h⟩ := cl_e h
        obtain ⟨x102, hx102, _, h⟩ := cl_e h
        obtain ⟨x103, hx103, _, h⟩ := cl_e h
        obtain ⟨x104, hx104, _, h⟩ := cl_e h
        refine WP_draw mixed (.stg [] [(0, [8]), (1, [10]), (2, [145, 146]), (3, [147]), (4, [7, 148]), (5, [27, 148]), (7, [9, 148]), (8, [1, 148]), (9, [148, 153])] (.alt 6 [148, 149, 150] (.stg [(7, [9, 148]), (8, [1, 148]), (9, [148, 153])] [] (.alt 10 [148, 152, 154] (.stg [] [(11, [148, 151, 155]), (12, [148, 156]), (13, [157]), (14, [7, 158]), (15, [2, 158]), (17, [9, 158]), (18, [2, 158])] (.alt 16 [158, 159, 160] (.stg [(17, [9, 158]), (18, [2, 158])] [] (.alt 19 [158, 162, 163] (.stg [] [(20, [158, 161, 164]), (21, [158, 165]), (22, [166]), (23, [7, 167]), (24, [27, 167]), (25, [167, 168, 169]), (26, [9, 167]), (27, [1, 167]), (28, [167, 172]), (29, [167, 171, 173]), (30, [167, 170, 174]), (31, [167, 175]), (32, [176]), (33, [7, 177]), (34, [27, 177]), (35, [177, 178, 179]), (36, [9, 177]), (37, [1, 177]), (38, [177, 182]), (39, [177, 181, 183]), (40, [177, 180, 184]), (41, [177, 185]), (42, [186]), (43, [187]), (44, [187, 188])] (.alt 45 [189] (.fin [] []) .no)) .no)) .no)) .no)) .no)) (by kernel_rfl) ?_
        refine Stg_stg ?_ ?_
        · exact ReOk_nil
        refine NewOk_cons rfl rfl (VG_v rfl (VS_lda (M := L_token_Tokens) (Pth.id (L := L_token_Tokens)) rfl rfl)) ?_
        refine NewOk_cons rfl rfl (VG_v rfl (VS_lda (M := L_ref09_Tokens) (Pth.id (L := L_ref09_Tokens)) rfl rfl)) ?_
        refine NewOk_cons rfl rfl (VG_v rfl (VS_call (c_law09_Same hx73) rfl (fun _ _ _ => trivial))) ?_
        refine NewOk_cons rfl rfl (VG_v rfl (VS_move rfl)) ?_
        refine NewOk_cons rfl rfl (VG_g (Gd_b rfl rfl) (fun hb => VS_lda (M := L_token_Tokens) (Pth.id (L := L_token_Tokens)) rfl rfl)) ?_
        refine NewOk_cons rfl rfl (VG_g (Gd_b rfl rfl) (fun hb => VS_move rfl)) ?_
        refine NewOk_cons rfl rfl (VG_g (Gd_b rfl rfl) (fun hb => VS_lda (M := L_ref09_Tokens) (Pth.id (L := L_ref09_Tokens)) rfl rfl)) ?_
        refine NewOk_cons rfl rfl (VG_g (Gd_b rfl rfl) (fun hb => VS_move rfl)) ?_
        refine NewOk_cons rfl rfl (VG_g (Gd_b rfl rfl) (fun hb => VS_conv (gev rfl hb) rfl)) ?_
        refine NewOk_nil ?_
        refine Stg_some rfl rfl (RG_callB (Gd_b rfl rfl) (fun hb => c_token_Tokens_On (hx74 hb)) (fun hb => (evs_cons (gev rfl hb) (evs_cons (gev rfl hb) rfl))) (fun hb => inferInstance)) (fun ⟨w75, bs76, J77⟩ hp78 => ?_) Stg_no
        have f79 : (x73 == true) = true → Fz (Hs [.ext bs76 J77]) w75 (LI .u32) x74 := hp78
        refine Stg_stg ?_ ?_
        ·
          refine ReOk_cons rfl rfl (VG_g (Gd_b rfl rfl) (fun hb => VS_val (VS_lda (M := L_ref09_Tokens) (Pth.id (L := L_ref09_Tokens)) rfl rfl) rfl)) ?_
          refine ReOk_cons rfl rfl (VG_g (Gd_b rfl rfl) (fun hb => VS_move rfl)) ?_
          refine ReOk_cons rfl rfl (VG_g (Gd_b rfl rfl) (fun hb => VS_val (VS_conv (gev rfl hb) rfl) rfl)) ?_
          exact ReOk_nil
        refine NewOk_nil ?_
        refine Stg_some rfl rfl (RG_callB (Gd_b rfl rfl) (fun hb => c_ref09_Tokens_Those (hx80 hb)) (fun hb => (evs_cons (gev rfl hb) (evs_cons (gev rfl hb) (evs_cons rfl rfl)))) (fun hb => inferInstance)) (fun ⟨w81, bs82, J83⟩ hp84 => ?_) Stg_no
        have f85 : (x73 == true) = true → Fz (Hs [.ext bs82 J83]) w81 (LI .i64) x80 := hp84
        refine Stg_stg ?_ ?_
        · exact ReOk_nil
        refine NewOk_cons rfl rfl (VG_g (Gd_b rfl rfl) (fun hb => VS_call (c_law09_row (K := (Hs [.ext bs76 J77, .ext bs82 J83])) ((f79 hb).mono ent) ((f85 hb).mono ent) (hx86 hb)) (evs_cons (gev rfl hb) (evs_cons (gev rfl hb) rfl)) kn)) ?_
        refine NewOk_cons rfl rfl (VG_v rfl (VS_and rfl rfl)) ?_
        refine NewOk_cons rfl rfl (VG_v rfl (VS_move rfl)) ?_
        refine NewOk_cons rfl rfl (VG_g (Gd_b rfl rfl) (fun hb => VS_lda (M := L_token_Tokens) (Pth.id (L := L_token_Tokens)) rfl rfl)) ?_
        refine NewOk_cons rfl rfl (VG_g (Gd_b rfl rfl) (fun hb => VS_move rfl)) ?_
        refine NewOk_cons rfl rfl (VG_g (Gd_b rfl rfl) (fun hb => VS_lda (M := L_ref09_Tokens) (Pth.id (L := L_ref09_Tokens)) rfl rfl)) ?_
        refine NewOk_cons rfl rfl (VG_g (Gd_b rfl rfl) (fun hb => VS_move rfl)) ?_
        refine NewOk_nil ?_
        refine Stg_some rfl rfl (RG_callB (Gd_b rfl rfl) (fun hb => c_token_Tokens_Of (hx87 hb)) (fun hb => (evs_cons (gev rfl hb) (evs_cons (gev rfl hb) rfl))) (fun hb => inferInstance)) (fun ⟨w88, bs89, J90⟩ hp91 => ?_) Stg_no
        have f92 : ((x73 && x86) == true) = true → Fz (Hs [.ext bs89 J90]) w88 (LI .u32) x87 := hp91
        refine Stg_stg ?_ ?_
        ·
          refine ReOk_cons rfl rfl (VG_g (Gd_b rfl rfl) (fun hb => VS_val (VS_lda (M := L_ref09_Tokens) (Pth.id (L := L_ref09_Tokens)) rfl rfl) rfl)) ?_
          refine ReOk_cons rfl rfl (VG_g (Gd_b rfl rfl) (fun hb => VS_move rfl)) ?_
          exact ReOk_nil
        refine NewOk_nil ?_
        refine Stg_some rfl rfl (RG_callB (Gd_b rfl rfl) (fun hb => c_ref09_Tokens_Those (hx93 hb)) (fun hb => (evs_cons (gev rfl hb) (evs_cons rfl (evs_cons (gev rfl hb) rfl)))) (fun hb => inferInstance)) (fun ⟨w94, bs95, J96⟩ hp97 => ?_) Stg_no
        have f98 : ((x73 && x86) == true) = true → Fz (Hs [.ext bs95 J96]) w94 (LI .i64) x93 := hp97
        refine Stg_stg ?_ ?_
        · exact ReOk_nil
        refine NewOk_cons rfl rfl (VG_g (Gd_b rfl rfl) (fun hb => VS_call (c_law09_row (K := (Hs [.ext bs89 J90, .ext bs95 J96])) ((f92 hb).mono ent) ((f98 hb).mono ent) (hx99 hb)) (evs_cons (gev rfl hb) (evs_cons (gev rfl hb) rfl)) kn)) ?_
        refine NewOk_cons rfl rfl (VG_v rfl (VS_and rfl rfl)) ?_
        refine NewOk_cons rfl rfl (VG_v rfl (VS_move rfl)) ?_
        refine NewOk_cons rfl rfl (VG_g (Gd_b rfl rfl) (fun hb => VS_lda (M := L_token_Tokens) (Pth.id (L := L_token_Tokens)) rfl rfl)) ?_
        refine NewOk_cons rfl rfl (VG_g (Gd_b rfl rfl) (fun hb => VS_move rfl)) ?_
        refine NewOk_cons rfl rfl (VG_g (Gd_b rfl rfl) (fun hb => VS_call (c_token_Tokens_Reads (hx100 hb)) (evs_cons (gev rfl hb) (evs_cons (gev rfl hb) (evs_cons rfl rfl))) (fun _ _ _ => trivial))) ?_
        refine NewOk_cons rfl rfl (VG_g (Gd_b rfl rfl) (fun hb => VS_lda (M := L_ref09_Tokens) (Pth.id (L := L_ref09_Tokens)) rfl rfl)) ?_
        refine NewOk_cons rfl rfl (VG_g (Gd_b rfl rfl) (fun hb => VS_move rfl)) ?_
        refine NewOk_cons rfl rfl (VG_g (Gd_b rfl rfl) (fun hb => VS_conv (gev rfl hb) rfl)) ?_
        refine NewOk_cons rfl rfl (VG_g (Gd_b rfl rfl) (fun hb => VS_call (c_ref09_Tokens_Reads (hx101 hb)) (evs_cons (gev rfl hb) (evs_cons (gev rfl hb) (evs_cons rfl rfl))) (fun _ _ _ => trivial))) ?_
        refine NewOk_cons rfl rfl (VG_g (Gd_b rfl rfl) (fun hb => VS_eqlb (gev rfl hb) (gev rfl hb))) ?_
        refine NewOk_cons rfl rfl (VG_v rfl (VS_and rfl rfl)) ?_
        refine NewOk_cons rfl rfl (VG_v rfl (VS_move rfl)) ?_
        refine NewOk_cons rfl rfl (VG_g (Gd_b rfl rfl) (fun hb => VS_lda (M := L_token_Tokens) (Pth.id (L := L_token_Tokens)) rfl rfl)) ?_
        refine NewOk_cons rfl rfl (VG_g (Gd_b rfl rfl) (fun hb => VS_move rfl)) ?_
        refine NewOk_cons rfl rfl (VG_g (Gd_b rfl rfl) (fun hb => VS_call (c_token_Tokens_Writes (hx102 hb)) (evs_cons (gev rfl hb) (evs_cons (gev rfl hb) (evs_cons rfl rfl))) (fun _ _ _ => trivial))) ?_
        refine NewOk_cons rfl rfl (VG_g (Gd_b rfl rfl) (fun hb => VS_lda (M := L_ref09_Tokens) (Pth.id (L := L_ref09_Tokens)) rfl rfl)) ?_
        refine NewOk_cons rfl rfl (VG_g (Gd_b rfl rfl) (fun hb => VS_move rfl)) ?_
        refine NewOk_cons rfl rfl (VG_g (Gd_b rfl rfl) (fun hb => VS_conv (gev rfl hb) rfl)) ?_
        refine NewOk_cons rfl rfl (VG_g (Gd_b rfl rfl) (fun hb => VS_call (c_ref09_Tokens_Writes (hx103 hb)) (evs_cons (gev rfl hb) (evs_cons (gev rfl hb) (evs_cons rfl rfl))) (fun _ _ _ => trivial))) ?_
        refine NewOk_cons rfl rfl (VG_g (Gd_b rfl rfl) (fun hb => VS_eqlb (gev rfl hb) (gev rfl hb))) ?_
        refine NewOk_cons rfl rfl (VG_v rfl (VS_and rfl rfl)) ?_
        refine NewOk_cons rfl rfl (VG_v rfl (VS_move rfl)) ?_
        refine NewOk_cons rfl rfl (VG_g (Gd_b rfl rfl) (fun hb => VS_call (c_law09_wakes (hx104 hb)) rfl (fun _ _ _ => trivial))) ?_
        refine NewOk_cons rfl rfl (VG_v rfl (VS_and rfl rfl)) ?_
        refine NewOk_nil ?_
        refine Stg_some rfl rfl (RG_x rfl ((VS_assign rfl).rx)) (fun _ _ => ?_) Stg_no
        refine Stg_fin ?_ ?_
        · exact ReOk_nil
        refine NewOk_nil ?_
        refine WQ_then ?_
        refine WP_ret ?_
        replace h := Option.some.inj h
        subst h
        exact WQ_ret () rfl (.tmp rfl .nil) trivial rfl (ks := []) rfl (by decide)
def law09_TokenOneWriter (n : Nat) (a0 : (List law09_Act)) : Option Bool :=
  cn (decide (150 < (a0.length : Int))) (
  bd (law09_wakes n ) fun x21 =>
  some x21) (
  loop2 (fun k29 (x25 : Int) (x26 : token_Tokens) =>
  cn (decide (x25 < (a0.length : Int))) (
  gu (inb x25 a0.length) <|
  lt ((a0.getD (Int.toNat x25) default) : law09_Act) fun x31 =>
  lt (fun (x32 : token_Tokens) =>
  loop1 (fun k48 (x45 : Int) =>
  cn (decide (x45 ≤ 3)) (
  bd (token_Tokens_On n x32 x45) fun x49 =>
  lt (fun (x56 : Int) =>
  lt (fun (x59 : Int) =>
  loop3 (fun k70 (x65 : Int) (x66 : Int) (x67 : Int) =>
  cn (decide (x67 < (x49.length : Int))) (
  gu (inb x67 x49.length) <|
  bd (token_Tokens_Get n x32 (x49.getD (Int.toNat x67) default)) fun x72 =>
  cn ((((x72.2 != 0) || (x72.1.Region != x45)) || (x72.1.By == x72.1.To))) (
  some false) (
  lt (fun (x73 : Int) =>
  gu (inb x67 x49.length) <|
  bd (token_Tokens_Reads n x32 x45 (x49.getD (Int.toNat x67) default)) fun x78 =>
  cn (x78) (
  k70 x73 (wr .i64 (x66 + 1)) (wr .i64 (x67 + 1))) (
  k70 x73 x66 (wr .i64 (x67 + 1)))) fun j74 =>
  gu (!(x72.1.Mutable == true) || inb x67 x49.length) <|
  cl (x72.1.Mutable == true) (token_Tokens_Writes n x32 x45 (x49.getD (Int.toNat x67) default)) default fun x76 =>
  cn ((x72.1.Mutable && x76)) (
  j74 (wr .i64 (x65 + 1))) (
  j74 x65))) (
  cn (((decide (1 < x65) || ((x65 == 1) && decide (1 < x66))) || (x66 == 0))) (
  some false) (
  k48 (wr .u32 (x45 + 1))))) n x56 x59 0) fun j60 =>
  bd (token_Tokens_Reads n x32 x45 0) fun x61 =>
  cn (x61) (
  j60 (wr .i64 (0 + 1))) (
  j60 0)) fun j57 =>
  bd (token_Tokens_Writes n x32 x45 0) fun x58 =>
  cn (x58) (
  j57 (wr .i64 (0 + 1))) (
  j57 0)) (
  k29 (wr .i64 (x25 + 1)) x32)) n 1) fun j33 =>
  cn ((x31.Do == 0)) (
  bd (token_Tokens_Return n x26 x31.H) fun x34 =>
  j33 x34.1) (
  cn ((x31.Do == 1)) (
  bd (token_Tokens_Clear n x26 (wr .u32 (1 + (Int.tmod x31.X.Region 3)))) fun x41 =>
  j33 x41) (
  lt ({ x31.X with Region := wr .u32 (1 + (Int.tmod x31.X.Region 3)) } : token_Token) fun x42 =>
  bd (token_Tokens_Lend n x26 x42) fun x43 =>
  j33 x43.1))) (
  bd (law09_wakes n ) fun x79 =>
  some x79)) n 0 Z_token_Tokens)
theorem c_law09_TokenOneWriter {n : Nat} {a0 : (List law09_Act)} {r : Bool} {K : World → Prop} [Stable K] {v0 : Value} (f0 : Fz K v0 L_law09_Act a0) (h : law09_TokenOneWriter n a0 = some r) : FnW Try.prog 14 [v0] K (.bool r) := by
  unfold law09_TokenOneWriter at h
  refine fn_of Try.func14 (by kernel_rfl) rfl Try.ntmps14 rfl (fun cx hbs hpre hro => ?_)
  haveI := knf_pre hbs hpre
  refine WP_seq ?_
  refine WP_region ?_
  refine WL_v rfl (VS_assign rfl) ?_
  refine WL_nil ?_
  refine WQ_then ?_
  refine WP_seq ?_
  refine WP_seq ?_
  refine WP_region ?_
  refine WL_v rfl (VS_move rfl) ?_
  refine WL_v rfl (VS_lenF f0 rfl) ?_
  refine WL_v rfl (VS_gtr rfl rfl) ?_
  refine WL_nil ?_
  refine WQ_then ?_
  refine WP_if rfl (fun hc => ?_) (fun hc => ?_)
  ·
    replace h := cn_t hc h
    refine WP_seq ?_
    obtain ⟨x21, hx21, h⟩ := bd_e h
    refine WP_region ?_
    refine WL_v rfl (VS_call (c_law09_wakes hx21) rfl (fun _ _ _ => trivial)) ?_
    refine WL_v rfl (VS_assign rfl) ?_
    refine WL_nil ?_
    refine WQ_then ?_
    refine WP_ret ?_
    refine WQ_then_ret ?_
    replace h := Option.some.inj h
    subst h
    exact WQ_ret () rfl (.tmp rfl .nil) trivial rfl (ks := []) rfl (by decide)
  ·
    replace h := cn_f hc h
    refine WP_skip ?_
    refine WQ_then ?_
    refine WP_seq ?_
    refine WP_region ?_
    refine WL_x rfl (RX_allocL (L := L_token_Tokens) (z := Z_token_Tokens) ⟨by kernel_rfl⟩) (fun b3 _ => ?_)
    refine WL_nil ?_
    refine WQ_then ?_
    refine WP_seq ?_
    refine WP_seq ?_
    refine WP_region ?_
    refine WL_v rfl (VS_assign rfl) ?_
    refine WL_nil ?_
    refine WQ_then ?_
    refine WP_block ?_
    obtain ⟨lb27, hlb27, h⟩ := lp2_i h
    refine WP_loops (α := Nat × Int × token_Tokens) [0, 3] (.cons rfl (.cons rfl (.nil))) (fun (m28, x25, x26) => [(4, .int .i64 x25)]) (fun (m28, x25, x26) => [.cells b3 166 (L_token_Tokens.enc x26)]) (fun (m28, x25, x26) => loop2 lb27 m28 x25 x26 = some r) (fun (m28, x25, x26) => m28) (n, 0, Z_token_Tokens) h (Sub_cons rfl (Sub_nil)) (ks := [0]) rfl (by decide) ?_
    rintro ⟨m28, x25, x26⟩ h
    replace h : loop2 lb27 m28 x25 x26 = some r := h
    replace h := lp2_s hlb27 h
    obtain ⟨m28, rfl, h⟩ := h
    refine WP_seq ?_
    refine WP_seq ?_
    refine WP_region ?_
    refine WL_v rfl (VS_move rfl) ?_
    refine WL_v rfl (VS_move rfl) ?_
    refine WL_v rfl (VS_lenF f0 rfl) ?_
    refine WL_v rfl (VS_lss rfl rfl) ?_
    refine WL_nil ?_
    refine WQ_then ?_
    refine WP_if rfl (fun hc => ?_) (fun hc => ?_)
    ·
      replace h := cn_t hc h
      refine WP_skip ?_
      refine WQ_then ?_
      refine WP_seq ?_
      refine WP_block ?_
      refine WP_seq ?_
      obtain ⟨hg30, h⟩ := gu_e h
      obtain ⟨x31, hx31, h⟩ := lt_e h
      refine WP_region ?_
      refine WL_v rfl (VS_move rfl) ?_
      refine WL_v rfl (VS_move rfl) ?_
      refine WL_v rfl (VS_ixF (m := (Int.toNat x25)) f0 rfl rfl rfl (inb_e hg30).1 (inb_e hg30).2) ?_
      refine WL_v rfl (VS_ldaF (M := L_law09_Act) f0 (Pth.idx (L := L_law09_Act) (m := (a0.length)) (k := 7) ((Int.toNat x25)) (inb_e hg30).2 rfl) rfl rfl (by decide)) ?_
      refine WL_x rfl (RX_allocL (L := L_law09_Act) (z := Z_law09_Act) ⟨by kernel_rfl⟩) (fun b5 _ => ?_)
      refine WL_x0 (RX_st (M := L_law09_Act) (Pth.id (L := L_law09_Act)) (a0.getD (Int.toNat x25) default) x31 hx31 rfl rfl rfl rfl) (fun _ _ => ?_)
      refine WL_nil ?_
      refine WQ_then ?_
      refine WP_seq ?_
      refine WP_region ?_
      refine WL_v rfl (VS_field0 rfl) ?_
      refine WL_v rfl (VS_field rfl) ?_
      refine WL_v rfl (VS_ldi (P_law09_Act_X.comp P_token_Token_Region) rfl) ?_
      refine WL_v rfl (VS_rem rfl rfl (by decide) rfl) ?_
      refine WL_v rfl (VS_add rfl rfl rfl) ?_
      refine WL_v rfl (VS_assign rfl) ?_
      refine WL_nil ?_
      refine WQ_then ?_
      obtain ⟨j33, hj33, h⟩ := lt_e h
      refine WP_cuts (α := token_Tokens) [0, 3, 4] (.cons rfl (.cons rfl (.cons rfl (.nil)))) (fun x32 => []) (fun x32 => [.cells b5 173 (L_law09_Act.enc x31), .cells b3 166 (L_token_Tokens.enc x32)]) (fun x32 => j33 x32 = some r) ?_ ?_
      ·
        refine WP_seq ?_
        refine WP_region ?_
        refine WL_v rfl (VS_field0 rfl) ?_
        refine WL_v rfl (VS_ldi P_law09_Act_Do rfl) ?_
        refine WL_nil ?_
        refine WQ_then ?_
        refine WP_block ?_
        refine WP_seq ?_
        refine WP_region ?_
        refine WL_v rfl (VS_eql rfl rfl) ?_
        refine WL_v rfl (VS_assign rfl) ?_
        refine WL_nil ?_
        refine WQ_then ?_
        refine WP_if rfl (fun hc => ?_) (fun hc => ?_)
        ·
          replace h := cn_t hc h
          obtain ⟨x34, hx34, h⟩ := bd_e h
          refine WP_region ?_
          refine WL_v rfl (VS_lda (M := L_token_Tokens) (Pth.id (L := L_token_Tokens)) rfl rfl) ?_
          refine WL_v rfl (VS_field0 rfl) ?_
          refine WL_v rfl (VS_ldi P_law09_Act_H rfl) ?_
          refine WL_x rfl (RX_callB (c_token_Tokens_Return hx34) rfl) (fun ⟨w35, bs36, J37⟩ hp38 => ?_)
          obtain ⟨v40, rfl, f39⟩ := hp38
          replace f39 : Fz (Hs [.ext bs36 J37]) v40 (LI .u32) x34.2.1 := f39
          refine WL_v rfl (VS_move rfl) ?_
          refine WL_v rfl (VS_extract rfl rfl) ?_
          refine WL_v rfl (VS_extract rfl rfl) ?_
          refine WL_v rfl (VS_extract rfl rfl) ?_
          refine WL_x0 (RX_st (M := L_token_Tokens) (Pth.id (L := L_token_Tokens)) x34.1 x34.1 rfl rfl rfl rfl rfl) (fun _ _ => ?_)
          refine WL_nil ?_
          refine WQ_block ?_
          exact WQ_cuts (x34.1) h (Sub_nil) (.cons rfl (.cons rfl (.cons rfl (.nil)))) (ks := [1, 2]) rfl (by decide)
        ·
          replace h := cn_f hc h
          refine WP_seq ?_
          refine WP_region ?_
          refine WL_v rfl (VS_eql rfl rfl) ?_
          refine WL_v rfl (VS_assign rfl) ?_
          refine WL_nil ?_
          refine WQ_then ?_
          refine WP_if rfl (fun hc => ?_) (fun hc => ?_)
          ·
            replace h := cn_t hc h
            obtain ⟨x41, hx41, h⟩ := bd_e h
            refine WP_region ?_
            refine WL_v rfl (VS_lda (M := L_token_Tokens) (Pth.id (L := L_token_Tokens)) rfl rfl) ?_
            refine WL_v rfl (VS_move rfl) ?_
            refine WL_v rfl (VS_call (c_token_Tokens_Clear hx41) rfl (fun _ _ _ => trivial)) ?_
            refine WL_x0 (RX_st (M := L_token_Tokens) (Pth.id (L := L_token_Tokens)) x41 x41 rfl rfl rfl rfl rfl) (fun _ _ => ?_)
            refine WL_nil ?_
            refine WQ_block ?_
            exact WQ_cuts (x41) h (Sub_nil) (.cons rfl (.cons rfl (.cons rfl (.nil)))) (ks := [0, 1]) rfl (by decide)
          ·
            replace h := cn_f hc h
            refine WP_seq ?_
            refine WP_region ?_
            refine WL_v rfl (VS_field0 rfl) ?_
            refine WL_v rfl (VS_lda (M := L_token_Token) P_law09_Act_X rfl rfl) ?_
            refine WL_x rfl (RX_allocL (L := L_token_Token) (z := Z_token_Token) ⟨by kernel_rfl⟩) (fun b7 _ => ?_)
            refine WL_x0 (RX_st (M := L_token_Token) (Pth.id (L := L_token_Token)) x31.X x31.X rfl rfl rfl rfl rfl) (fun _ _ => ?_)
            refine WL_nil ?_
            refine WQ_then ?_
            refine WP_seq ?_
            obtain ⟨x42, hx42, h⟩ := lt_e h
            refine WP_region ?_
            refine WL_v rfl (VS_move rfl) ?_
            refine WL_v rfl (VS_field0 rfl) ?_
            refine WL_x0 (RX_st (M := (LI .u32)) P_token_Token_Region (wr .u32 (1 + (Int.tmod x31.X.Region 3))) x42 hx42 rfl rfl rfl rfl) (fun _ _ => ?_)
            refine WL_nil ?_
            refine WQ_then ?_
            obtain ⟨x43, hx43, h⟩ := bd_e h
            refine WP_region ?_
            refine WL_v rfl (VS_lda (M := L_token_Tokens) (Pth.id (L := L_token_Tokens)) rfl rfl) ?_
            refine WL_v rfl (VS_lda (M := L_token_Token) (Pth.id (L := L_token_Token)) rfl rfl) ?_
            refine WL_v rfl (VS_call (c_token_Tokens_Lend hx43) rfl (fun _ _ _ => trivial)) ?_
            refine WL_v rfl (VS_move rfl) ?_
            refine WL_v rfl (VS_extract rfl rfl) ?_
            refine WL_v rfl (VS_extract rfl rfl) ?_
            refine WL_v rfl (VS_extract rfl rfl) ?_
            refine WL_x0 (RX_st (M := L_token_Tokens) (Pth.id (L := L_token_Tokens)) x43.1 x43.1 rfl rfl rfl rfl rfl) (fun _ _ => ?_)
            refine WL_nil ?_
            refine WQ_block ?_
            exact WQ_cuts (x43.1) h (Sub_nil) (.cons rfl (.cons rfl (.cons rfl (.nil)))) (ks := [1, 2]) rfl (by decide)
      ·
        rintro x32 h
        replace h : j33 x32 = some r := h
        replace h := jn1_u hj33 h
        refine WP_seq ?_
        refine WP_region ?_
        refine WL_v rfl (VS_assign rfl) ?_
        refine WL_nil ?_
        refine WQ_then ?_
        refine WP_block ?_
        obtain ⟨lb46, hlb46, h⟩ := lp1_i h
        refine WP_loops (α := Nat × Int) [0, 3, 4] (.cons rfl (.cons rfl (.cons rfl (.nil)))) (fun (m47, x45) => [(8, .int .u32 x45)]) (fun (m47, x45) => [.cells b5 173 (L_law09_Act.enc x31), .cells b3 166 (L_token_Tokens.enc x32)]) (fun (m47, x45) => loop1 lb46 m47 x45 = some r) (fun (m47, x45) => m47) (n, 1) h (Sub_cons rfl (Sub_nil)) (ks := [0, 1]) rfl (by decide) ?_
        rintro ⟨m47, x45⟩ h
        replace h : loop1 lb46 m47 x45 = some r := h
        replace h := lp1_s hlb46 h
        obtain ⟨m47, rfl, h⟩ := h
        refine WP_seq ?_
        refine WP_seq ?_
        refine WP_region ?_
        refine WL_v rfl (VS_move rfl) ?_
        refine WL_v rfl (VS_leq rfl rfl) ?_
        refine WL_nil ?_
        refine WQ_then ?_
        refine WP_if rfl (fun hc => ?_) (fun hc => ?_)
        ·
          replace h := cn_t hc h
          refine WP_skip ?_
          refine WQ_then ?_
          refine WP_seq ?_
          refine WP_block ?_
          refine WP_seq ?_
          obtain ⟨x49, hx49, h⟩ := bd_e h
          refine WP_region ?_
          refine WL_v rfl (VS_lda (M := L_token_Tokens) (Pth.id (L := L_token_Tokens)) rfl rfl) ?_
          refine WL_v rfl (VS_move rfl) ?_
          refine WL_x rfl (RX_callB (c_token_Tokens_On hx49) rfl) (fun ⟨w50, bs51, J52⟩ hp53 => ?_)
          have f54 : Fz (Hs [.ext bs51 J52]) w50 (LI .u32) x49 := hp53
          refine WL_v rfl (VS_assign rfl) ?_
          refine WL_nil ?_
          refine WQ_then ?_
          refine WP_seq ?_
          refine WP_region ?_
          refine WL_v rfl (VS_assign rfl) ?_
          refine WL_v rfl (VS_assign rfl) ?_
          refine WL_nil ?_
          refine WQ_then ?_
          obtain ⟨j57, hj57, h⟩ := lt_e h
          refine WP_cuts (α := Int) [0, 3, 4, 8, 9, 11] (.cons rfl (.cons rfl (.cons rfl (.cons rfl (.cons rfl (.cons rfl (.nil))))))) (fun x56 => [(10, .int .i64 x56)]) (fun x56 => [.ext bs51 J52, .cells b5 173 (L_law09_Act.enc x31), .cells b3 166 (L_token_Tokens.enc x32)]) (fun x56 => j57 x56 = some r) ?_ ?_
          ·
            refine WP_seq ?_
            obtain ⟨x58, hx58, h⟩ := bd_e h
            refine WP_region ?_
            refine WL_v rfl (VS_lda (M := L_token_Tokens) (Pth.id (L := L_token_Tokens)) rfl rfl) ?_
            refine WL_v rfl (VS_move rfl) ?_
            refine WL_v rfl (VS_call (c_token_Tokens_Writes hx58) rfl (fun _ _ _ => trivial)) ?_
            refine WL_nil ?_
            refine WQ_then ?_
            refine WP_if rfl (fun hc => ?_) (fun hc => ?_)
            ·
              replace h := cn_t hc h
              refine WP_region ?_
              refine WL_v rfl (VS_move rfl) ?_
              refine WL_v rfl (VS_add rfl rfl rfl) ?_
              refine WL_v rfl (VS_assign rfl) ?_
              refine WL_nil ?_
              exact WQ_cuts (wr .i64 (0 + 1)) h (Sub_cons rfl (Sub_nil)) (.cons rfl (.cons rfl (.cons rfl (.cons rfl (.cons rfl (.cons rfl (.nil))))))) (ks := [0, 1, 2]) rfl (by decide)
            ·
              replace h := cn_f hc h
              refine WP_skip ?_
              exact WQ_cuts (0) h (Sub_cons rfl (Sub_nil)) (.cons rfl (.cons rfl (.cons rfl (.cons rfl (.cons rfl (.cons rfl (.nil))))))) (ks := [0, 1, 2]) rfl (by decide)
          ·
            rintro x56 h
            replace h : j57 x56 = some r := h
            replace h := jn1_u hj57 h
            obtain ⟨j60, hj60, h⟩ := lt_e h
            refine WP_cuts (α := Int) [0, 3, 4, 8, 9, 10] (.cons rfl (.cons rfl (.cons rfl (.cons rfl (.cons rfl (.cons rfl (.nil))))))) (fun x59 => [(11, .int .i64 x59)]) (fun x59 => [.ext bs51 J52, .cells b5 173 (L_law09_Act.enc x31), .cells b3 166 (L_token_Tokens.enc x32)]) (fun x59 => j60 x59 = some r) ?_ ?_
            ·
              refine WP_seq ?_
              obtain ⟨x61, hx61, h⟩ := bd_e h
              refine WP_region ?_
              refine WL_v rfl (VS_lda (M := L_token_Tokens) (Pth.id (L := L_token_Tokens)) rfl rfl) ?_
              refine WL_v rfl (VS_move rfl) ?_
              refine WL_v rfl (VS_call (c_token_Tokens_Reads hx61) rfl (fun _ _ _ => trivial)) ?_
              refine WL_nil ?_
              refine WQ_then ?_
              refine WP_if rfl (fun hc => ?_) (fun hc => ?_)
              ·
                replace h := cn_t hc h
                refine WP_region ?_
                refine WL_v rfl (VS_move rfl) ?_
                refine WL_v rfl (VS_add rfl rfl rfl) ?_
                refine WL_v rfl (VS_assign rfl) ?_
                refine WL_nil ?_
                exact WQ_cuts (wr .i64 (0 + 1)) h (Sub_cons rfl (Sub_nil)) (.cons rfl (.cons rfl (.cons rfl (.cons rfl (.cons rfl (.cons rfl (.nil))))))) (ks := [0, 1, 2]) rfl (by decide)
              ·
                replace h := cn_f hc h
                refine WP_skip ?_
                exact WQ_cuts (0) h (Sub_cons rfl (Sub_nil)) (.cons rfl (.cons rfl (.cons rfl (.cons rfl (.cons rfl (.cons rfl (.nil))))))) (ks := [0, 1, 2]) rfl (by decide)
            ·
              rintro x59 h
              replace h : j60 x59 = some r := h
              replace h := jn1_u hj60 h
              refine WP_seq ?_
              refine WP_seq ?_
              refine WP_region ?_
              refine WL_v rfl (VS_assign rfl) ?_
              refine WL_nil ?_
              refine WQ_then ?_
              refine WP_block ?_
              obtain ⟨lb68, hlb68, h⟩ := lp3_i h
              refine WP_loops (α := Nat × Int × Int × Int) [0, 3, 4, 8, 9] (.cons rfl (.cons rfl (.cons rfl (.cons rfl (.cons rfl (.nil)))))) (fun (m69, x65, x66, x67) => [(10, .int .i64 x65), (11, .int .i64 x66), (12, .int .i64 x67)]) (fun (m69, x65, x66, x67) => [.ext bs51 J52, .cells b5 173 (L_law09_Act.enc x31), .cells b3 166 (L_token_Tokens.enc x32)]) (fun (m69, x65, x66, x67) => loop3 lb68 m69 x65 x66 x67 = some r) (fun (m69, x65, x66, x67) => m69) (n, x56, x59, 0) h (Sub_cons rfl (Sub_cons rfl (Sub_cons rfl (Sub_nil)))) (ks := [0, 1, 2]) rfl (by decide) ?_
              rintro ⟨m69, x65, x66, x67⟩ h
              replace h : loop3 lb68 m69 x65 x66 x67 = some r := h
              replace h := lp3_s hlb68 h
              obtain ⟨m69, rfl, h⟩ := h
              refine WP_seq ?_
              refine WP_seq ?_
              refine WP_region ?_
              refine WL_v rfl (VS_move rfl) ?_
              refine WL_v rfl (VS_move rfl) ?_
              refine WL_v rfl (VS_lenF f54 rfl) ?_
              refine WL_v rfl (VS_lss rfl rfl) ?_
              refine WL_nil ?_
              refine WQ_then ?_
              refine WP_if rfl (fun hc => ?_) (fun hc => ?_)
              ·
                replace h := cn_t hc h
                refine WP_skip ?_
                refine WQ_then ?_
                refine WP_seq ?_
                refine WP_block ?_
                refine WP_seq ?_
                obtain ⟨hg71, h⟩ := gu_e h
                obtain ⟨x72, hx72, h⟩ := bd_e h
                refine WP_draw mixed (.stg [] [(0, [3]), (1, [9]), (2, [12]), (3, [87, 88]), (4, [89]), (5, [86, 90]), (6, [91]), (7, [85]), (8, [85])] (.alt 9 [] (.stg [(0, [3]), (1, [9]), (2, [12]), (3, [87, 88]), (4, [89]), (5, [86, 90]), (6, [91]), (7, [85]), (8, [85])] [] (.alt 10 [13, 92] (.stg [(8, [85])] [] (.alt 11 [93] (.fin [] []) .no)) .no)) .no)) (by kernel_rfl) ?_
                refine Stg_stg ?_ ?_
                · exact ReOk_nil
                refine NewOk_cons rfl rfl (VG_v rfl (VS_lda (M := L_token_Tokens) (Pth.id (L := L_token_Tokens)) rfl rfl)) ?_
                refine NewOk_cons rfl rfl (VG_v rfl (VS_move rfl)) ?_
                refine NewOk_cons rfl rfl (VG_v rfl (VS_move rfl)) ?_
                refine NewOk_cons rfl rfl (VG_v rfl (VS_ixF (m := (Int.toNat x67)) f54 rfl rfl rfl (inb_e hg71).1 (inb_e hg71).2)) ?_
                refine NewOk_cons rfl rfl (VG_v rfl (VS_ldiF f54 (Pth.idx (L := (LI .u32)) (m := (x49.length)) (k := 1) ((Int.toNat x67)) (inb_e hg71).2 rfl) rfl)) ?_
                refine NewOk_cons rfl rfl (VG_v rfl (VS_call (c_token_Tokens_Get hx72) rfl (fun _ _ _ => trivial))) ?_
                refine NewOk_cons rfl rfl (VG_v rfl (VS_move rfl)) ?_
                refine NewOk_cons rfl rfl (VG_v rfl (VS_extract rfl rfl)) ?_
                refine NewOk_cons rfl rfl (VG_v rfl (VS_extract rfl rfl)) ?_
                refine NewOk_nil ?_
                refine Stg_some rfl rfl (RG_x rfl (RX_allocL (L := L_token_Token) (z := Z_token_Token) ⟨by kernel_rfl⟩)) (fun b13 _ => ?_) Stg_no
                refine Stg_stg ?_ ?_
                ·
                  refine ReOk_cons rfl rfl (VG_v rfl (VS_val (VS_lda (M := L_token_Tokens) (Pth.id (L := L_token_Tokens)) rfl rfl) rfl)) ?_
                  refine ReOk_cons rfl rfl (VG_v rfl (VS_move rfl)) ?_
                  refine ReOk_cons rfl rfl (VG_v rfl (VS_move rfl)) ?_
                  refine ReOk_cons rfl rfl (VG_v rfl (VS_val (VS_ixF (m := (Int.toNat x67)) f54 rfl rfl rfl (inb_e hg71).1 (inb_e hg71).2) rfl)) ?_
                  refine ReOk_cons rfl rfl (VG_v rfl (VS_val (VS_ldiF f54 (Pth.idx (L := (LI .u32)) (m := (x49.length)) (k := 1) ((Int.toNat x67)) (inb_e hg71).2 rfl) rfl) rfl)) ?_
                  refine ReOk_cons rfl rfl (VG_v rfl (VS_val (VS_call (c_token_Tokens_Get hx72) rfl (fun _ _ _ => trivial)) rfl)) ?_
                  refine ReOk_cons rfl rfl (VG_v rfl (VS_move rfl)) ?_
                  refine ReOk_cons rfl rfl (VG_v rfl (VS_val (VS_extract rfl rfl) rfl)) ?_
                  refine ReOk_cons rfl rfl (VG_v rfl (VS_val (VS_extract rfl rfl) rfl)) ?_
                  exact ReOk_nil
                refine NewOk_nil ?_
                refine Stg_none rfl (RG_x rfl (RX_st (M := L_token_Token) (Pth.id (L := L_token_Token)) x72.1 x72.1 rfl rfl rfl rfl rfl)) (fun _ _ => ?_) Stg_no
                refine Stg_stg ?_ ?_
                ·
                  refine ReOk_cons rfl rfl (VG_v rfl (VS_val (VS_extract rfl rfl) rfl)) ?_
                  exact ReOk_nil
                refine NewOk_nil ?_
                refine Stg_some rfl rfl (RG_x rfl ((VS_assign rfl).rx)) (fun _ _ => ?_) Stg_no
                refine Stg_fin ?_ ?_
                · exact ReOk_nil
                refine NewOk_nil ?_
                refine WQ_then ?_
                refine WP_seq ?_
                refine WP_seq ?_
                refine WP_region ?_
                refine WL_v rfl (VS_move rfl) ?_
                refine WL_v rfl (VS_neq rfl rfl) ?_
                refine WL_v rfl (VS_move rfl) ?_
                refine WL_g (Gd_b rfl rfl) rfl (fun hb => VS_field0 rfl) ?_
                refine WL_g (Gd_b rfl rfl) rfl (fun hb => VS_ldi P_token_Token_Region (gev rfl hb)) ?_
                refine WL_g (Gd_b rfl rfl) rfl (fun hb => VS_move rfl) ?_
                refine WL_g (Gd_b rfl rfl) rfl (fun hb => VS_neq (gev rfl hb) (gev rfl hb)) ?_
                refine WL_v rfl (VS_or rfl rfl) ?_
                refine WL_v rfl (VS_move rfl) ?_
                refine WL_g (Gd_b rfl rfl) rfl (fun hb => VS_field0 rfl) ?_
                refine WL_g (Gd_b rfl rfl) rfl (fun hb => VS_ldi P_token_Token_By (gev rfl hb)) ?_
                refine WL_g (Gd_b rfl rfl) rfl (fun hb => VS_field0 rfl) ?_
                refine WL_g (Gd_b rfl rfl) rfl (fun hb => VS_ldi P_token_Token_To (gev rfl hb)) ?_
                refine WL_g (Gd_b rfl rfl) rfl (fun hb => VS_eql (gev rfl hb) (gev rfl hb)) ?_
                refine WL_v rfl (VS_or rfl rfl) ?_
                refine WL_nil ?_
                refine WQ_then ?_
                refine WP_if rfl (fun hc => ?_) (fun hc => ?_)
                ·
                  replace h := cn_t hc h
                  refine WP_seq ?_
                  refine WP_region ?_
                  refine WL_v rfl (VS_assign rfl) ?_
                  refine WL_nil ?_
                  refine WQ_then ?_
                  refine WP_ret ?_
                  refine WQ_then_ret ?_
                  refine WQ_block_ret ?_
                  refine WQ_then_ret ?_
                  refine WQ_then_ret ?_
                  refine WQ_block_ret ?_
                  refine WQ_then_ret ?_
                  refine WQ_block_ret ?_
                  refine WQ_then_ret ?_
                  refine WQ_then_ret ?_
                  refine WQ_block_ret ?_
                  refine WQ_block_ret ?_
                  refine WQ_then_ret ?_
                  refine WQ_then_ret ?_
                  refine WQ_block_ret ?_
                  refine WQ_then_ret ?_
                  replace h := Option.some.inj h
                  subst h
                  exact WQ_ret () rfl (.tmp rfl .nil) trivial rfl (ks := []) rfl (by decide)
                ·
                  replace h := cn_f hc h
                  refine WP_skip ?_
                  refine WQ_then ?_
                  obtain ⟨j74, hj74, h⟩ := lt_e h
                  refine WP_cuts (α := Int) [0, 3, 4, 8, 9, 11, 12] (.cons rfl (.cons rfl (.cons rfl (.cons rfl (.cons rfl (.cons rfl (.cons rfl (.nil)))))))) (fun x73 => [(10, .int .i64 x73)]) (fun x73 => [.cells b13 163 (L_token_Token.enc x72.1), .ext bs51 J52, .cells b5 173 (L_law09_Act.enc x31), .cells b3 166 (L_token_Tokens.enc x32)]) (fun x73 => j74 x73 = some r) ?_ ?_
                  ·
                    refine WP_seq ?_
                    obtain ⟨hg75, h⟩ := gu_e h
                    obtain ⟨x76, hx76, _, h⟩ := cl_e h
                    refine WP_draw mixed (.fin [] [(0, [13]), (1, [109]), (2, [110]), (3, [3, 111]), (4, [8, 111]), (5, [9, 111]), (6, [12, 111]), (7, [111, 114, 115]), (8, [111, 116]), (9, [111, 112, 113, 117]), (10, [111, 118])]) (by kernel_rfl) ?_
                    refine Stg_fin ?_ ?_
                    · exact ReOk_nil
                    refine NewOk_cons rfl rfl (VG_v rfl (VS_field0 rfl)) ?_
                    refine NewOk_cons rfl rfl (VG_v rfl (VS_ldb P_token_Token_Mutable rfl)) ?_
                    refine NewOk_cons rfl rfl (VG_v rfl (VS_move rfl)) ?_
                    refine NewOk_cons rfl rfl (VG_g (Gd_b rfl rfl) (fun hb => VS_lda (M := L_token_Tokens) (Pth.id (L := L_token_Tokens)) rfl rfl)) ?_
                    refine NewOk_cons rfl rfl (VG_g (Gd_b rfl rfl) (fun hb => VS_move rfl)) ?_
                    refine NewOk_cons rfl rfl (VG_g (Gd_b rfl rfl) (fun hb => VS_move rfl)) ?_
                    refine NewOk_cons rfl rfl (VG_g (Gd_b rfl rfl) (fun hb => VS_move rfl)) ?_
                    refine NewOk_cons rfl rfl (VG_g (Gd_b rfl rfl) (fun hb => VS_ixF (m := (Int.toNat x67)) f54 rfl (gev rfl hb) (gev rfl hb) (inb_e (imp_b hg75 hb)).1 (inb_e (imp_b hg75 hb)).2)) ?_
                    refine NewOk_cons rfl rfl (VG_g (Gd_b rfl rfl) (fun hb => VS_ldiF f54 (Pth.idx (L := (LI .u32)) (m := (x49.length)) (k := 1) ((Int.toNat x67)) (inb_e (imp_b hg75 hb)).2 rfl) (gev rfl hb))) ?_
                    refine NewOk_cons rfl rfl (VG_g (Gd_b rfl rfl) (fun hb => VS_call (c_token_Tokens_Writes (hx76 hb)) (evs_cons (gev rfl hb) (evs_cons (gev rfl hb) (evs_cons (gev rfl hb) rfl))) (fun _ _ _ => trivial))) ?_
                    refine NewOk_cons rfl rfl (VG_v rfl (VS_and rfl rfl)) ?_
                    refine NewOk_nil ?_
                    refine WQ_then ?_
                    refine WP_if rfl (fun hc => ?_) (fun hc => ?_)
                    ·
                      replace h := cn_t hc h
                      refine WP_region ?_
                      refine WL_v rfl (VS_move rfl) ?_
                      refine WL_v rfl (VS_add rfl rfl rfl) ?_
                      refine WL_v rfl (VS_assign rfl) ?_
                      refine WL_nil ?_
                      exact WQ_cuts (wr .i64 (x65 + 1)) h (Sub_cons rfl (Sub_nil)) (.cons rfl (.cons rfl (.cons rfl (.cons rfl (.cons rfl (.cons rfl (.cons rfl (.nil)))))))) (ks := [0, 1, 2, 3]) rfl (by decide)
                    ·
                      replace h := cn_f hc h
                      refine WP_skip ?_
                      exact WQ_cuts (x65) h (Sub_cons rfl (Sub_nil)) (.cons rfl (.cons rfl (.cons rfl (.cons rfl (.cons rfl (.cons rfl (.cons rfl (.nil)))))))) (ks := [0, 1, 2, 3]) rfl (by decide)
                  ·
                    rintro x73 h
                    replace h : j74 x73 = some r := h
                    replace h := jn1_u hj74 h
                    refine WP_seq ?_
                    obtain ⟨hg77, h⟩ := gu_e h
                    obtain ⟨x78, hx78, h⟩ := bd_e h
                    refine WP_draw mixed (.fin [] [(0, [3]), (1, [8]), (2, [9]), (3, [12]), (4, [124, 125]), (5, [126]), (6, [122, 123, 127])]) (by kernel_rfl) ?_
                    refine Stg_fin ?_ ?_
                    · exact ReOk_nil
                    refine NewOk_cons rfl rfl (VG_v rfl (VS_lda (M := L_token_Tokens) (Pth.id (L := L_token_Tokens)) rfl rfl)) ?_
                    refine NewOk_cons rfl rfl (VG_v rfl (VS_move rfl)) ?_
                    refine NewOk_cons rfl rfl (VG_v rfl (VS_move rfl)) ?_
                    refine NewOk_cons rfl rfl (VG_v rfl (VS_move rfl)) ?_
                    refine NewOk_cons rfl rfl (VG_v rfl (VS_ixF (m := (Int.toNat x67)) f54 rfl rfl rfl (inb_e hg77).1 (inb_e hg77).2)) ?_
                    refine NewOk_cons rfl rfl (VG_v rfl (VS_ldiF f54 (Pth.idx (L := (LI .u32)) (m := (x49.length)) (k := 1) ((Int.toNat x67)) (inb_e hg77).2 rfl) rfl)) ?_
                    refine NewOk_cons rfl rfl (VG_v rfl (VS_call (c_token_Tokens_Reads hx78) rfl (fun _ _ _ => trivial))) ?_
                    refine NewOk_nil ?_
                    refine WQ_then ?_
                    refine WP_if rfl (fun hc => ?_) (fun hc => ?_)
                    ·
                      replace h := cn_t hc h
                      refine WP_region ?_
                      refine WL_v rfl (VS_move rfl) ?_
                      refine WL_v rfl (VS_add rfl rfl rfl) ?_
                      refine WL_v rfl (VS_assign rfl) ?_
                      refine WL_nil ?_
                      refine WQ_block ?_
                      refine WQ_then ?_
                      refine WP_region ?_
                      refine WL_v rfl (VS_move rfl) ?_
                      refine WL_v rfl (VS_add rfl rfl rfl) ?_
                      refine WL_v rfl (VS_assign rfl) ?_
                      refine WL_nil ?_
                      exact WQ_loops (m69, x73, wr .i64 (x66 + 1), wr .i64 (x67 + 1)) (Nat.lt_succ_self _) h (Sub_cons rfl (Sub_cons rfl (Sub_cons rfl (Sub_nil)))) (.cons rfl (.cons rfl (.cons rfl (.cons rfl (.cons rfl (.nil)))))) (ks := [1, 2, 3]) rfl (by decide)
                    ·
                      replace h := cn_f hc h
                      refine WP_skip ?_
                      refine WQ_block ?_
                      refine WQ_then ?_
                      refine WP_region ?_
                      refine WL_v rfl (VS_move rfl) ?_
                      refine WL_v rfl (VS_add rfl rfl rfl) ?_
                      refine WL_v rfl (VS_assign rfl) ?_
                      refine WL_nil ?_
                      exact WQ_loops (m69, x73, x66, wr .i64 (x67 + 1)) (Nat.lt_succ_self _) h (Sub_cons rfl (Sub_cons rfl (Sub_cons rfl (Sub_nil)))) (.cons rfl (.cons rfl (.cons rfl (.cons rfl (.cons rfl (.nil)))))) (ks := [1, 2, 3]) rfl (by decide)
              ·
                replace h := cn_f hc h
                refine WP_exit ?_
                refine WQ_then_exit ?_
                refine WQ_then_exit ?_
                refine WQ_block_exit ?_
                refine WQ_then ?_
                refine WP_seq ?_
                refine WP_region ?_
                refine WL_v rfl (VS_move rfl) ?_
                refine WL_v rfl (VS_gtr rfl rfl) ?_
                refine WL_v rfl (VS_move rfl) ?_
                refine WL_g (Gd_b rfl rfl) rfl (fun hb => VS_move rfl) ?_
                refine WL_g (Gd_b rfl rfl) rfl (fun hb => VS_eql (gev rfl hb) rfl) ?_
                refine WL_g (Gd_b rfl rfl) rfl (fun hb => VS_move (gev rfl hb)) ?_
                refine WL_g (Gd_g rfl rfl) rfl (fun hb => VS_move rfl) ?_
                refine WL_g (Gd_g rfl rfl) rfl (fun hb => VS_gtr (gev rfl hb) rfl) ?_
                refine WL_g (Gd_b rfl rfl) rfl (fun hb => VS_and (gev rfl hb) (gev2 rfl hb)) ?_
                refine WL_v rfl (VS_or rfl rfl) ?_
                refine WL_v rfl (VS_move rfl) ?_
                refine WL_g (Gd_b rfl rfl) rfl (fun hb => VS_move rfl) ?_
                refine WL_g (Gd_b rfl rfl) rfl (fun hb => VS_eql (gev rfl hb) rfl) ?_
                refine WL_v rfl (VS_or rfl rfl) ?_
                refine WL_nil ?_
                refine WQ_then ?_
                refine WP_if rfl (fun hc => ?_) (fun hc => ?_)
                ·
                  replace h := cn_t hc h
                  refine WP_seq ?_
                  refine WP_region ?_
                  refine WL_v rfl (VS_assign rfl) ?_
                  refine WL_nil ?_
                  refine WQ_then ?_
                  refine WP_ret ?_
                  refine WQ_block_ret ?_
                  refine WQ_then_ret ?_
                  refine WQ_then_ret ?_
                  refine WQ_block_ret ?_
                  refine WQ_block_ret ?_
                  refine WQ_then_ret ?_
                  refine WQ_then_ret ?_
                  refine WQ_block_ret ?_
                  refine WQ_then_ret ?_
                  replace h := Option.some.inj h
                  subst h
                  exact WQ_ret () rfl (.tmp rfl .nil) trivial rfl (ks := []) rfl (by decide)
                ·
                  replace h := cn_f hc h
                  refine WP_skip ?_
                  refine WQ_block ?_
                  refine WQ_then ?_
                  refine WP_region ?_
                  refine WL_v rfl (VS_move rfl) ?_
                  refine WL_v rfl (VS_add rfl rfl rfl) ?_
                  refine WL_v rfl (VS_assign rfl) ?_
                  refine WL_nil ?_
                  exact WQ_loops (m47, wr .u32 (x45 + 1)) (Nat.lt_succ_self _) h (Sub_cons rfl (Sub_nil)) (.cons rfl (.cons rfl (.cons rfl (.nil)))) (ks := [1, 2]) rfl (by decide)
        ·
          replace h := cn_f hc h
          refine WP_exit ?_
          refine WQ_then_exit ?_
          refine WQ_then_exit ?_
          refine WQ_block_exit ?_
          refine WQ_block ?_
          refine WQ_then ?_
          refine WP_region ?_
          refine WL_v rfl (VS_move rfl) ?_
          refine WL_v rfl (VS_add rfl rfl rfl) ?_
          refine WL_v rfl (VS_assign rfl) ?_
          refine WL_nil ?_
          exact WQ_loops (m28, wr .i64 (x25 + 1), x32) (Nat.lt_succ_self _) h (Sub_cons rfl (Sub_nil)) (.cons rfl (.cons rfl (.nil))) (ks := [1]) rfl (by decide)
    ·
      replace h := cn_f hc h
      refine WP_exit ?_
      refine WQ_then_exit ?_
      refine WQ_then_exit ?_
      refine WQ_block_exit ?_
      refine WQ_then ?_
      refine WP_seq ?_
      obtain ⟨x79, hx79, h⟩ := bd_e h
      refine WP_region ?_
      refine WL_v rfl (VS_call (c_law09_wakes hx79) rfl (fun _ _ _ => trivial)) ?_
      refine WL_v rfl (VS_assign rfl) ?_
      refine WL_nil ?_
      refine WQ_then ?_
      refine WP_ret ?_
      replace h := Option.some.inj h
      subst h
      exact WQ_ret () rfl (.tmp rfl .nil) trivial rfl (ks := []) rfl (by decide)
end Go.Proofs.Ytcdnmiianjaglaa
