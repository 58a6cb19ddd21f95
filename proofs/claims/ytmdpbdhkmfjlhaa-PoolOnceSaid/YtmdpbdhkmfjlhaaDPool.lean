/- Decompiled: package pool, its document's answer, its statements. -/
import Derived.Test.YtmdpbdhkmfjlhaaTypes
import Derived.Test.YtmdpbdhkmfjlhaaMap2
import Derived.Test.YtmdpbdhkmfjlhaaSl4
import Derived.Test.YtmdpbdhkmfjlhaaNst
import Derived.Test.YtmdpbdhkmfjlhaaPtr
import Derived.Test.YtmdpbdhkmfjlhaaDRuns
namespace Go.Proofs.Ytmdpbdhkmfjlhaa
open Go Go.Bw
instance : TMap Try.prog 52 3 5 .i64 := ⟨⟨by kernel_rfl, by kernel_rfl⟩⟩
instance : TMap Try.prog 209 69 4 .u32 := ⟨⟨by kernel_rfl, by kernel_rfl⟩⟩
instance : TZv Try.prog 4 (Value.bool false) := ⟨by kernel_rfl⟩
instance : TZv Try.prog 5 (Value.int .u8 0) := ⟨by kernel_rfl⟩
structure pool_Pool where
  n : Int
  free : runs_Runs
  bytes : (Nat → (Nat → Int))
abbrev L_pool_Pool : Lay pool_Pool := Lay.via (LP (LI .i64) (LP L_runs_Runs (LA (LA (LI .u8) 32) 64))) (fun x => (x.n, x.free, x.bytes))
abbrev Z_pool_Pool : pool_Pool := ⟨0, Z_runs_Runs, (fun _ => (fun _ => 0))⟩
instance : Inhabited pool_Pool := ⟨Z_pool_Pool⟩
def zc_pool_Pool : List Value := [.int .i64 0] ++ (zc_runs_Runs ++ ((((LA (LA (LI .u8) 32) 64)).enc (fun _ => (fun _ => 0)))))
theorem zr_pool_Pool {A : World → Prop} : L_pool_Pool.rep A zc_pool_Pool Z_pool_Pool := ⟨_, _, rfl, rfl, ⟨_, _, rfl, zr_runs_Runs, (FlatL.iff.2 rfl)⟩⟩
theorem P_pool_Pool_n : Pth L_pool_Pool (LI .i64) 0 (fun x => x.n) (fun x v => { x with n := v }) := (Pth.fst Pth.id).via _ _ _ 0 rfl (fun _ => rfl) (fun _ _ => rfl)
theorem P_pool_Pool_free : Pth L_pool_Pool L_runs_Runs 1 (fun x => x.free) (fun x v => { x with free := v }) := (Pth.snd (Pth.fst Pth.id)).via _ _ _ 1 rfl (fun _ => rfl) (fun _ _ => rfl)
theorem P_pool_Pool_bytes : Pth L_pool_Pool (LA (LA (LI .u8) 32) 64) 2 (fun x => x.bytes) (fun x v => { x with bytes := v }) := (Pth.snd (Pth.snd Pth.id)).via _ _ _ 2 rfl (fun _ => rfl) (fun _ _ => rfl)
def pool_Pool_Claim__nil (n : Nat) (a1 : Int) : Option (Int × Int) :=
  some (0, 1)
theorem c_pool_Pool_Claim__nil {n : Nat} {a1 : Int} {r : Int × Int}  (h : pool_Pool_Claim__nil n a1 = some r) : FnV Try.prog 16 [.pointer none, .int .i64 a1] (.tuple #[.int .i64 r.1, .int .i64 r.2]) := by
  unfold pool_Pool_Claim__nil at h
  refine fn_of Try.func16 (by kernel_rfl) rfl Try.ntmps16 rfl (fun cx hbs hpre hro => ?_)
  refine WP_seq ?_
  refine WP_region ?_
  refine WL_v rfl (VS_assign rfl) ?_
  refine WL_v rfl (VS_assign rfl) ?_
  refine WL_nil ?_
  refine WQ_then ?_
  refine WP_seq ?_
  refine WP_block ?_
  refine WP_seq ?_
  refine WP_region ?_
  refine WL_v rfl (VS_move rfl) ?_
  refine WL_v rfl (VS_eqlP0 (by kernel_rfl) rfl rfl) ?_
  refine WL_v rfl (VS_assign rfl) ?_
  refine WL_nil ?_
  refine WQ_then ?_
  refine WP_true rfl ?_
  refine WP_seq ?_
  refine WP_region ?_
  refine WL_v rfl (VS_assign rfl) ?_
  refine WL_v rfl (VS_assign rfl) ?_
  refine WL_nil ?_
  refine WQ_then ?_
  refine WP_ret ?_
  refine WQ_block_ret ?_
  refine WQ_then_ret ?_
  replace h := Option.some.inj h
  subst h
  exact WQ_ret () rfl (.tmp rfl (.tmp rfl .nil)) trivial rfl (ks := []) rfl (by decide)
def pool_Pool_lent__nil__pool_Pool_byte_1_pool_Pool_Read_1 (n : Nat) (a1 : Int) (a2_0_c_0 : Int) (a2_1 : Int) : Option Int :=
  some 1
theorem c_pool_Pool_lent__nil__pool_Pool_byte_1_pool_Pool_Read_1 {n : Nat} {a1 : Int} {a2_0_c_0 : Int} {a2_1 : Int} {r : Int} {q2_0 : Nat} {q2_0_c_0 : Nat} {q2_1 : Nat} (h : pool_Pool_lent__nil__pool_Pool_byte_1_pool_Pool_Read_1 n a1 a2_0_c_0 a2_1 = some r) : Bw.Fn (α := Unit) Try.prog 86 [.pointer none, .int .i64 a1, .func (.func 148) #[] #[Ptr q2_0 0, Ptr q2_1 0]] (Fut (blks [.cells q2_0 173 [.func (.func 92) #[] #[Ptr q2_0_c_0 0]], .cells q2_0_c_0 5 ((LI .u8).enc a2_0_c_0), .cells q2_1 3 ((LI .i64).enc a2_1)]) (fun _ => True)) [.cells q2_0 173 [.func (.func 92) #[] #[Ptr q2_0_c_0 0]], .cells q2_0_c_0 5 ((LI .u8).enc a2_0_c_0), .cells q2_1 3 ((LI .i64).enc a2_1)] (fun _ => True) (fun _ => (.int .i64 r)) (fun _ => [.cells q2_0 173 [.func (.func 92) #[] #[Ptr q2_0_c_0 0]], .cells q2_0_c_0 5 ((LI .u8).enc a2_0_c_0), .cells q2_1 3 ((LI .i64).enc a2_1)]) := by
  unfold pool_Pool_lent__nil__pool_Pool_byte_1_pool_Pool_Read_1 at h
  refine fn_of Try.func86 (by kernel_rfl) rfl Try.ntmps86 rfl (fun cx hbs hpre hro => ?_)
  refine WP_seq ?_
  refine WP_region ?_
  refine WL_v rfl (VS_assign rfl) ?_
  refine WL_nil ?_
  refine WQ_then ?_
  refine WP_seq ?_
  refine WP_block ?_
  refine WP_seq ?_
  refine WP_region ?_
  refine WL_v rfl (VS_move rfl) ?_
  refine WL_v rfl (VS_eqlP0 (by kernel_rfl) rfl rfl) ?_
  refine WL_v rfl (VS_assign rfl) ?_
  refine WL_nil ?_
  refine WQ_then ?_
  refine WP_true rfl ?_
  refine WP_seq ?_
  refine WP_region ?_
  refine WL_v rfl (VS_assign rfl) ?_
  refine WL_nil ?_
  refine WQ_then ?_
  refine WP_ret ?_
  refine WQ_block_ret ?_
  refine WQ_then_ret ?_
  replace h := Option.some.inj h
  subst h
  exact WQ_ret () rfl (.tmp rfl .nil) trivial rfl (ks := [0, 1, 2]) rfl (by decide)
def pool_Pool_byte__nil__pool_Pool_Read_1 (n : Nat) (a1 : Int) (a2_0 : Int) : Option Int :=
  bd (pool_Pool_lent__nil__pool_Pool_byte_1_pool_Pool_Read_1 n (wr .i64 (Int.tdiv a1 32)) a2_0 a1) fun x21 =>
  some x21
theorem c_pool_Pool_byte__nil__pool_Pool_Read_1 {n : Nat} {a1 : Int} {a2_0 : Int} {r : Int} {q2_0 : Nat} (h : pool_Pool_byte__nil__pool_Pool_Read_1 n a1 a2_0 = some r) : Bw.Fn (α := Unit) Try.prog 91 [.pointer none, .int .i64 a1, .func (.func 92) #[] #[Ptr q2_0 0]] (Fut (blks [.cells q2_0 5 ((LI .u8).enc a2_0)]) (fun _ => True)) [.cells q2_0 5 ((LI .u8).enc a2_0)] (fun _ => True) (fun _ => (.int .i64 r)) (fun _ => [.cells q2_0 5 ((LI .u8).enc a2_0)]) := by
  unfold pool_Pool_byte__nil__pool_Pool_Read_1 at h
  refine fn_of Try.func91 (by kernel_rfl) rfl Try.ntmps91 rfl (fun cx hbs hpre hro => ?_)
  refine WP_seq ?_
  refine WP_region ?_
  refine WL_x rfl (RX_boxL (LI .i64) a1 rfl rfl) (fun b4 _ => ?_)
  refine WL_x rfl (RX_box1 rfl rfl) (fun b5 _ => ?_)
  refine WL_v rfl (VS_assign rfl) ?_
  refine WL_nil ?_
  refine WQ_then ?_
  refine WP_seq ?_
  refine WP_seq ?_
  refine WP_region ?_
  refine WL_v rfl (VS_move rfl) ?_
  refine WL_v rfl (VS_neqP0 (by kernel_rfl) rfl rfl) ?_
  refine WL_v rfl (VS_move rfl) ?_
  refine WL_g (Gd_b rfl rfl) rfl (fun hb => VS_ldi (Pth.id (L := (LI .i64))) rfl) ?_
  refine WL_g (Gd_b rfl rfl) rfl (fun hb => VS_lss (gev rfl hb) rfl) ?_
  refine WL_v rfl (VS_and rfl rfl) ?_
  refine WL_nil ?_
  refine WQ_then ?_
  refine WP_false rfl ?_
  refine WP_skip ?_
  refine WQ_then ?_
  refine WP_seq ?_
  obtain ⟨x21, hx21, h⟩ := bd_e h
  refine WP_region ?_
  refine WL_v rfl (VS_move rfl) ?_
  refine WL_v rfl (VS_ldi (Pth.id (L := (LI .i64))) rfl) ?_
  refine WL_v rfl (VS_quo rfl rfl (by decide) rfl) ?_
  refine WL_v rfl (VS_makeFunc rfl) ?_
  refine WL_x rfl (RX_callH (K := (fun _ => True)) (Hin := [.cells b5 173 [.func (.func 92) #[] #[Ptr q2_0 0]], .cells q2_0 5 ((LI .u8).enc a2_0), .cells b4 3 ((LI .i64).enc a1)]) (rest := []) (ks := [0, 2, 1]) (c_pool_Pool_lent__nil__pool_Pool_byte_1_pool_Pool_Read_1 hx21) rfl rfl rfl rfl (by decide)) (fun _ _ => ?_)
  dsimp only [List.cons_append, List.nil_append]
  refine WL_v rfl (VS_assign rfl) ?_
  refine WL_nil ?_
  refine WQ_then ?_
  refine WP_ret ?_
  replace h := Option.some.inj h
  subst h
  exact WQ_ret () rfl (.tmp rfl .nil) trivial rfl (ks := [1]) rfl (by decide)
def pool_Pool_Read__nil (n : Nat) (a1 : Int) : Option (Int × Int) :=
  bd (pool_Pool_byte__nil__pool_Pool_Read_1 n a1 0) fun x21 =>
  some (0, x21)
theorem c_pool_Pool_Read__nil {n : Nat} {a1 : Int} {r : Int × Int}  (h : pool_Pool_Read__nil n a1 = some r) : FnV Try.prog 22 [.pointer none, .int .i64 a1] (.tuple #[.int .u8 r.1, .int .i64 r.2]) := by
  unfold pool_Pool_Read__nil at h
  refine fn_of Try.func22 (by kernel_rfl) rfl Try.ntmps22 rfl (fun cx hbs hpre hro => ?_)
  refine WP_seq ?_
  refine WP_region ?_
  refine WL_x rfl (RX_allocL (L := (LI .u8)) (z := 0) ⟨by kernel_rfl⟩) (fun b4 _ => ?_)
  refine WL_v rfl (VS_assign rfl) ?_
  refine WL_nil ?_
  refine WQ_then ?_
  refine WP_seq ?_
  obtain ⟨x21, hx21, h⟩ := bd_e h
  refine WP_region ?_
  refine WL_v rfl (VS_move rfl) ?_
  refine WL_v rfl (VS_move rfl) ?_
  refine WL_v rfl (VS_makeFunc rfl) ?_
  refine WL_x rfl (RX_callH (K := (fun _ => True)) (Hin := [.cells b4 5 ((LI .u8).enc 0)]) (rest := []) (ks := [0]) (c_pool_Pool_byte__nil__pool_Pool_Read_1 hx21) rfl rfl rfl rfl (by decide)) (fun _ _ => ?_)
  dsimp only [List.cons_append, List.nil_append]
  refine WL_v rfl (VS_assign rfl) ?_
  refine WL_nil ?_
  refine WQ_then ?_
  refine WP_seq ?_
  refine WP_region ?_
  refine WL_v rfl (VS_ldi (Pth.id (L := (LI .u8))) rfl) ?_
  refine WL_v rfl (VS_move rfl) ?_
  refine WL_x0 (RX_st (M := (LI .u8)) (Pth.id (L := (LI .u8))) 0 0 rfl rfl rfl rfl rfl) (fun _ _ => ?_)
  refine WL_v rfl (VS_assign rfl) ?_
  refine WL_nil ?_
  refine WQ_then ?_
  refine WP_ret ?_
  replace h := Option.some.inj h
  subst h
  exact WQ_ret () rfl (.one rfl inferInstance inferInstance rfl (.tmp rfl .nil)) trivial rfl (ks := []) rfl (by decide)
def pool_Pool_lent__nil__pool_Pool_Clear_1 (n : Nat) (a1 : Int) : Option Int :=
  some 1
theorem c_pool_Pool_lent__nil__pool_Pool_Clear_1 {n : Nat} {a1 : Int} {r : Int}  (h : pool_Pool_lent__nil__pool_Pool_Clear_1 n a1 = some r) : FnV Try.prog 86 [.pointer none, .int .i64 a1, .func (.func 87) #[] #[]] (.int .i64 r) := by
  unfold pool_Pool_lent__nil__pool_Pool_Clear_1 at h
  refine fn_of Try.func86 (by kernel_rfl) rfl Try.ntmps86 rfl (fun cx hbs hpre hro => ?_)
  refine WP_seq ?_
  refine WP_region ?_
  refine WL_v rfl (VS_assign rfl) ?_
  refine WL_nil ?_
  refine WQ_then ?_
  refine WP_seq ?_
  refine WP_block ?_
  refine WP_seq ?_
  refine WP_region ?_
  refine WL_v rfl (VS_move rfl) ?_
  refine WL_v rfl (VS_eqlP0 (by kernel_rfl) rfl rfl) ?_
  refine WL_v rfl (VS_assign rfl) ?_
  refine WL_nil ?_
  refine WQ_then ?_
  refine WP_true rfl ?_
  refine WP_seq ?_
  refine WP_region ?_
  refine WL_v rfl (VS_assign rfl) ?_
  refine WL_nil ?_
  refine WQ_then ?_
  refine WP_ret ?_
  refine WQ_block_ret ?_
  refine WQ_then_ret ?_
  replace h := Option.some.inj h
  subst h
  exact WQ_ret () rfl (.tmp rfl .nil) trivial rfl (ks := []) rfl (by decide)
def pool_Pool_Clear__nil (n : Nat) (a1 : Int) : Option Int :=
  bd (pool_Pool_lent__nil__pool_Pool_Clear_1 n a1) fun x21 =>
  some x21
theorem c_pool_Pool_Clear__nil {n : Nat} {a1 : Int} {r : Int}  (h : pool_Pool_Clear__nil n a1 = some r) : FnV Try.prog 18 [.pointer none, .int .i64 a1] (.int .i64 r) := by
  unfold pool_Pool_Clear__nil at h
  refine fn_of Try.func18 (by kernel_rfl) rfl Try.ntmps18 rfl (fun cx hbs hpre hro => ?_)
  refine WP_seq ?_
  refine WP_region ?_
  refine WL_v rfl (VS_assign rfl) ?_
  refine WL_nil ?_
  refine WQ_then ?_
  refine WP_seq ?_
  obtain ⟨x21, hx21, h⟩ := bd_e h
  refine WP_region ?_
  refine WL_v rfl (VS_move rfl) ?_
  refine WL_v rfl (VS_move rfl) ?_
  refine WL_v rfl (VS_call (c_pool_Pool_lent__nil__pool_Pool_Clear_1 hx21) rfl (fun _ _ _ => trivial)) ?_
  refine WL_v rfl (VS_assign rfl) ?_
  refine WL_nil ?_
  refine WQ_then ?_
  refine WP_ret ?_
  replace h := Option.some.inj h
  subst h
  exact WQ_ret () rfl (.tmp rfl .nil) trivial rfl (ks := []) rfl (by decide)
def pool_Pool_lent__nil__pool_Pool_Back_1_nil (n : Nat) (a1 : Int) (a2_1 : Int) : Option Int :=
  some 1
theorem c_pool_Pool_lent__nil__pool_Pool_Back_1_nil {n : Nat} {a1 : Int} {a2_1 : Int} {r : Int} {q2_0 : Nat} {q2_1 : Nat} (h : pool_Pool_lent__nil__pool_Pool_Back_1_nil n a1 a2_1 = some r) : Bw.Fn (α := Unit) Try.prog 86 [.pointer none, .int .i64 a1, .func (.func 89) #[] #[Ptr q2_0 0, Ptr q2_1 0]] (Fut (blks [.cells q2_0 24 [.pointer none], .cells q2_1 3 ((LI .i64).enc a2_1)]) (fun _ => True)) [.cells q2_0 24 [.pointer none], .cells q2_1 3 ((LI .i64).enc a2_1)] (fun _ => True) (fun _ => (.int .i64 r)) (fun _ => [.cells q2_0 24 [.pointer none], .cells q2_1 3 ((LI .i64).enc a2_1)]) := by
  unfold pool_Pool_lent__nil__pool_Pool_Back_1_nil at h
  refine fn_of Try.func86 (by kernel_rfl) rfl Try.ntmps86 rfl (fun cx hbs hpre hro => ?_)
  refine WP_seq ?_
  refine WP_region ?_
  refine WL_v rfl (VS_assign rfl) ?_
  refine WL_nil ?_
  refine WQ_then ?_
  refine WP_seq ?_
  refine WP_block ?_
  refine WP_seq ?_
  refine WP_region ?_
  refine WL_v rfl (VS_move rfl) ?_
  refine WL_v rfl (VS_eqlP0 (by kernel_rfl) rfl rfl) ?_
  refine WL_v rfl (VS_assign rfl) ?_
  refine WL_nil ?_
  refine WQ_then ?_
  refine WP_true rfl ?_
  refine WP_seq ?_
  refine WP_region ?_
  refine WL_v rfl (VS_assign rfl) ?_
  refine WL_nil ?_
  refine WQ_then ?_
  refine WP_ret ?_
  refine WQ_block_ret ?_
  refine WQ_then_ret ?_
  replace h := Option.some.inj h
  subst h
  exact WQ_ret () rfl (.tmp rfl .nil) trivial rfl (ks := [0, 1]) rfl (by decide)
def pool_Pool_Back__nil (n : Nat) (a1 : Int) : Option Int :=
  bd (pool_Pool_lent__nil__pool_Pool_Back_1_nil n a1 a1) fun x21 =>
  some x21
theorem c_pool_Pool_Back__nil {n : Nat} {a1 : Int} {r : Int}  (h : pool_Pool_Back__nil n a1 = some r) : FnV Try.prog 20 [.pointer none, .int .i64 a1] (.int .i64 r) := by
  unfold pool_Pool_Back__nil at h
  refine fn_of Try.func20 (by kernel_rfl) rfl Try.ntmps20 rfl (fun cx hbs hpre hro => ?_)
  refine WP_seq ?_
  refine WP_region ?_
  refine WL_x rfl (RX_box1 rfl rfl) (fun b2 _ => ?_)
  refine WL_x rfl (RX_boxL (LI .i64) a1 rfl rfl) (fun b3 _ => ?_)
  refine WL_v rfl (VS_assign rfl) ?_
  refine WL_nil ?_
  refine WQ_then ?_
  refine WP_seq ?_
  obtain ⟨x21, hx21, h⟩ := bd_e h
  refine WP_region ?_
  refine WL_v rfl (VS_load rfl rfl) ?_
  refine WL_v rfl (VS_ldi (Pth.id (L := (LI .i64))) rfl) ?_
  refine WL_v rfl (VS_makeFunc rfl) ?_
  refine WL_x rfl (RX_callH (K := (fun _ => True)) (Hin := [.cells b2 24 [.pointer none], .cells b3 3 ((LI .i64).enc a1)]) (rest := []) (ks := [1, 0]) (c_pool_Pool_lent__nil__pool_Pool_Back_1_nil hx21) rfl rfl rfl rfl (by decide)) (fun _ _ => ?_)
  dsimp only [List.cons_append, List.nil_append]
  refine WL_v rfl (VS_assign rfl) ?_
  refine WL_nil ?_
  refine WQ_then ?_
  refine WP_ret ?_
  replace h := Option.some.inj h
  subst h
  exact WQ_ret () rfl (.tmp rfl .nil) trivial rfl (ks := []) rfl (by decide)
def pool_Pool_lent__nil__pool_Pool_byte_1_pool_Pool_Write_1 (n : Nat) (a1 : Int) (a2_0_c_0 : Int) (a2_1 : Int) : Option Int :=
  some 1
theorem c_pool_Pool_lent__nil__pool_Pool_byte_1_pool_Pool_Write_1 {n : Nat} {a1 : Int} {a2_0_c_0 : Int} {a2_1 : Int} {r : Int} {q2_0 : Nat} {q2_0_c_0 : Nat} {q2_1 : Nat} (h : pool_Pool_lent__nil__pool_Pool_byte_1_pool_Pool_Write_1 n a1 a2_0_c_0 a2_1 = some r) : Bw.Fn (α := Unit) Try.prog 86 [.pointer none, .int .i64 a1, .func (.func 148) #[] #[Ptr q2_0 0, Ptr q2_1 0]] (Fut (blks [.cells q2_0 173 [.func (.func 93) #[] #[Ptr q2_0_c_0 0]], .cells q2_0_c_0 5 ((LI .u8).enc a2_0_c_0), .cells q2_1 3 ((LI .i64).enc a2_1)]) (fun _ => True)) [.cells q2_0 173 [.func (.func 93) #[] #[Ptr q2_0_c_0 0]], .cells q2_0_c_0 5 ((LI .u8).enc a2_0_c_0), .cells q2_1 3 ((LI .i64).enc a2_1)] (fun _ => True) (fun _ => (.int .i64 r)) (fun _ => [.cells q2_0 173 [.func (.func 93) #[] #[Ptr q2_0_c_0 0]], .cells q2_0_c_0 5 ((LI .u8).enc a2_0_c_0), .cells q2_1 3 ((LI .i64).enc a2_1)]) := by
  unfold pool_Pool_lent__nil__pool_Pool_byte_1_pool_Pool_Write_1 at h
  refine fn_of Try.func86 (by kernel_rfl) rfl Try.ntmps86 rfl (fun cx hbs hpre hro => ?_)
  refine WP_seq ?_
  refine WP_region ?_
  refine WL_v rfl (VS_assign rfl) ?_
  refine WL_nil ?_
  refine WQ_then ?_
  refine WP_seq ?_
  refine WP_block ?_
  refine WP_seq ?_
  refine WP_region ?_
  refine WL_v rfl (VS_move rfl) ?_
  refine WL_v rfl (VS_eqlP0 (by kernel_rfl) rfl rfl) ?_
  refine WL_v rfl (VS_assign rfl) ?_
  refine WL_nil ?_
  refine WQ_then ?_
  refine WP_true rfl ?_
  refine WP_seq ?_
  refine WP_region ?_
  refine WL_v rfl (VS_assign rfl) ?_
  refine WL_nil ?_
  refine WQ_then ?_
  refine WP_ret ?_
  refine WQ_block_ret ?_
  refine WQ_then_ret ?_
  replace h := Option.some.inj h
  subst h
  exact WQ_ret () rfl (.tmp rfl .nil) trivial rfl (ks := [0, 1, 2]) rfl (by decide)
def pool_Pool_byte__nil__pool_Pool_Write_1 (n : Nat) (a1 : Int) (a2_0 : Int) : Option Int :=
  bd (pool_Pool_lent__nil__pool_Pool_byte_1_pool_Pool_Write_1 n (wr .i64 (Int.tdiv a1 32)) a2_0 a1) fun x21 =>
  some x21
theorem c_pool_Pool_byte__nil__pool_Pool_Write_1 {n : Nat} {a1 : Int} {a2_0 : Int} {r : Int} {q2_0 : Nat} (h : pool_Pool_byte__nil__pool_Pool_Write_1 n a1 a2_0 = some r) : Bw.Fn (α := Unit) Try.prog 91 [.pointer none, .int .i64 a1, .func (.func 93) #[] #[Ptr q2_0 0]] (Fut (blks [.cells q2_0 5 ((LI .u8).enc a2_0)]) (fun _ => True)) [.cells q2_0 5 ((LI .u8).enc a2_0)] (fun _ => True) (fun _ => (.int .i64 r)) (fun _ => [.cells q2_0 5 ((LI .u8).enc a2_0)]) := by
  unfold pool_Pool_byte__nil__pool_Pool_Write_1 at h
  refine fn_of Try.func91 (by kernel_rfl) rfl Try.ntmps91 rfl (fun cx hbs hpre hro => ?_)
  refine WP_seq ?_
  refine WP_region ?_
  refine WL_x rfl (RX_boxL (LI .i64) a1 rfl rfl) (fun b4 _ => ?_)
  refine WL_x rfl (RX_box1 rfl rfl) (fun b5 _ => ?_)
  refine WL_v rfl (VS_assign rfl) ?_
  refine WL_nil ?_
  refine WQ_then ?_
  refine WP_seq ?_
  refine WP_seq ?_
  refine WP_region ?_
  refine WL_v rfl (VS_move rfl) ?_
  refine WL_v rfl (VS_neqP0 (by kernel_rfl) rfl rfl) ?_
  refine WL_v rfl (VS_move rfl) ?_
  refine WL_g (Gd_b rfl rfl) rfl (fun hb => VS_ldi (Pth.id (L := (LI .i64))) rfl) ?_
  refine WL_g (Gd_b rfl rfl) rfl (fun hb => VS_lss (gev rfl hb) rfl) ?_
  refine WL_v rfl (VS_and rfl rfl) ?_
  refine WL_nil ?_
  refine WQ_then ?_
  refine WP_false rfl ?_
  refine WP_skip ?_
  refine WQ_then ?_
  refine WP_seq ?_
  obtain ⟨x21, hx21, h⟩ := bd_e h
  refine WP_region ?_
  refine WL_v rfl (VS_move rfl) ?_
  refine WL_v rfl (VS_ldi (Pth.id (L := (LI .i64))) rfl) ?_
  refine WL_v rfl (VS_quo rfl rfl (by decide) rfl) ?_
  refine WL_v rfl (VS_makeFunc rfl) ?_
  refine WL_x rfl (RX_callH (K := (fun _ => True)) (Hin := [.cells b5 173 [.func (.func 93) #[] #[Ptr q2_0 0]], .cells q2_0 5 ((LI .u8).enc a2_0), .cells b4 3 ((LI .i64).enc a1)]) (rest := []) (ks := [0, 2, 1]) (c_pool_Pool_lent__nil__pool_Pool_byte_1_pool_Pool_Write_1 hx21) rfl rfl rfl rfl (by decide)) (fun _ _ => ?_)
  dsimp only [List.cons_append, List.nil_append]
  refine WL_v rfl (VS_assign rfl) ?_
  refine WL_nil ?_
  refine WQ_then ?_
  refine WP_ret ?_
  replace h := Option.some.inj h
  subst h
  exact WQ_ret () rfl (.tmp rfl .nil) trivial rfl (ks := [1]) rfl (by decide)
def pool_Pool_Write__nil (n : Nat) (a1 : Int) (a2 : Int) : Option Int :=
  bd (pool_Pool_byte__nil__pool_Pool_Write_1 n a1 a2) fun x21 =>
  some x21
theorem c_pool_Pool_Write__nil {n : Nat} {a1 : Int} {a2 : Int} {r : Int}  (h : pool_Pool_Write__nil n a1 a2 = some r) : FnV Try.prog 24 [.pointer none, .int .i64 a1, .int .u8 a2] (.int .i64 r) := by
  unfold pool_Pool_Write__nil at h
  refine fn_of Try.func24 (by kernel_rfl) rfl Try.ntmps24 rfl (fun cx hbs hpre hro => ?_)
  refine WP_seq ?_
  refine WP_region ?_
  refine WL_x rfl (RX_boxL (LI .u8) a2 rfl rfl) (fun b5 _ => ?_)
  refine WL_v rfl (VS_assign rfl) ?_
  refine WL_nil ?_
  refine WQ_then ?_
  refine WP_seq ?_
  obtain ⟨x21, hx21, h⟩ := bd_e h
  refine WP_region ?_
  refine WL_v rfl (VS_move rfl) ?_
  refine WL_v rfl (VS_move rfl) ?_
  refine WL_v rfl (VS_makeFunc rfl) ?_
  refine WL_x rfl (RX_callH (K := (fun _ => True)) (Hin := [.cells b5 5 ((LI .u8).enc a2)]) (rest := []) (ks := [0]) (c_pool_Pool_byte__nil__pool_Pool_Write_1 hx21) rfl rfl rfl rfl (by decide)) (fun _ _ => ?_)
  dsimp only [List.cons_append, List.nil_append]
  refine WL_v rfl (VS_assign rfl) ?_
  refine WL_nil ?_
  refine WQ_then ?_
  refine WP_ret ?_
  replace h := Option.some.inj h
  subst h
  exact WQ_ret () rfl (.tmp rfl .nil) trivial rfl (ks := []) rfl (by decide)
def pool_Pool_Pages__nil (n : Nat)  : Option Int :=
  some 0
theorem c_pool_Pool_Pages__nil {n : Nat}  {r : Int}  (h : pool_Pool_Pages__nil n  = some r) : FnV Try.prog 27 [.pointer none] (.int .i64 r) := by
  unfold pool_Pool_Pages__nil at h
  refine fn_of Try.func27 (by kernel_rfl) rfl Try.ntmps27 rfl (fun cx hbs hpre hro => ?_)
  refine WP_seq ?_
  refine WP_region ?_
  refine WL_v rfl (VS_assign rfl) ?_
  refine WL_nil ?_
  refine WQ_then ?_
  refine WP_seq ?_
  refine WP_seq ?_
  refine WP_region ?_
  refine WL_v rfl (VS_move rfl) ?_
  refine WL_v rfl (VS_eqlP0 (by kernel_rfl) rfl rfl) ?_
  refine WL_nil ?_
  refine WQ_then ?_
  refine WP_true rfl ?_
  refine WP_seq ?_
  refine WP_region ?_
  refine WL_v rfl (VS_assign rfl) ?_
  refine WL_nil ?_
  refine WQ_then ?_
  refine WP_ret ?_
  refine WQ_then_ret ?_
  replace h := Option.some.inj h
  subst h
  exact WQ_ret () rfl (.tmp rfl .nil) trivial rfl (ks := []) rfl (by decide)
def pool_Pool_Free__nil (n : Nat)  : Option runs_Runs :=
  lt ({ l := [] } : runs_Runs) fun x21 =>
  some x21
theorem c_pool_Pool_Free__nil {n : Nat}  {r : runs_Runs}  (h : pool_Pool_Free__nil n  = some r) : FnB Try.prog 25 [.pointer none] (fun _ => True) (fun J v => ∃ u0, v = (.agg u0.toArray) ∧ (L_runs_Runs).rep J u0 (r)) := by
  unfold pool_Pool_Free__nil at h
  refine fn_of Try.func25 (by kernel_rfl) rfl Try.ntmps25 rfl (fun cx hbs hpre hro => ?_)
  refine WP_seq ?_
  refine WP_region ?_
  refine WL_x rfl (RX_alloc (hz := (⟨by kernel_rfl⟩ : TZero Try.prog 46 zc_runs_Runs))) (fun b2 _ => ?_)
  refine WL_nil ?_
  refine WQ_then ?_
  refine WP_seq ?_
  refine WP_seq ?_
  refine WP_region ?_
  refine WL_v rfl (VS_move rfl) ?_
  refine WL_v rfl (VS_eqlP0 (by kernel_rfl) rfl rfl) ?_
  refine WL_nil ?_
  refine WQ_then ?_
  refine WP_true rfl ?_
  refine WP_seq ?_
  obtain ⟨x21, hx21, h⟩ := lt_e h
  refine WP_region ?_
  obtain ⟨c22, hc22, f23⟩ : ∃ cc, [.slice none 0 0] = cc ∧ (L_runs_Runs).rep (Hs []) cc x21 := ⟨_, rfl, by rw [hx21]; exact ⟨_, rfl, Fz.nil⟩⟩
  refine WL_v rfl (VS_build (cs := c22) rfl (by rw [← hc22]; rfl)) ?_
  obtain ⟨c24, hc24, f25⟩ : ∃ cc, splice zc_runs_Runs 0 c22 = cc ∧ (L_runs_Runs).rep (Hs []) cc x21 := ⟨_, rfl, (Pth.id (L := L_runs_Runs)).set (Lay.mono _ ent (show (L_runs_Runs).rep (Hs []) zc_runs_Runs Z_runs_Runs from zr_runs_Runs)) (Lay.mono _ ent f23)⟩
  refine WL_x0 (RX_stN c22 (Pth.id (L := L_runs_Runs)) (v := x21) (r := (show (L_runs_Runs).rep (Hs []) zc_runs_Runs Z_runs_Runs from zr_runs_Runs)) (rv := ((Lay.mono _ ent f23) : (L_runs_Runs).rep (Hs []) c22 x21)) rfl rfl rfl rfl hc24) (fun _ _ => ?_)
  refine WL_nil ?_
  refine WQ_then ?_
  refine WP_ret ?_
  refine WQ_then_ret ?_
  replace h := Option.some.inj h
  subst h
  refine WQ_bundle (R := []) (H' := [.cells b2 46 c24]) (ks := [0]) rfl (by decide) ?_
  have p26 : (L_runs_Runs).rep (Hs [.ext (blks []) (Hs [])]) c24 x21 := Lay.mono _ ent f25
  exact WQ_ret (.agg c24.toArray, blks [], Hs []) rfl (.agg rfl inferInstance inferInstance (Lay.len _ f25) .nil) ⟨_, rfl, p26⟩ rfl (ks := [0]) rfl (by decide)
def pool_New (n : Nat) (a0 : Int) : Option (Option pool_Pool × Int) :=
  cn ((decide (a0 < 1) || decide (64 < a0))) (
  some (none, 2)) (
  bd (runs_Of n a0) fun x21 =>
  lt ({ n := a0, free := x21, bytes := (fun _ => (fun _ => 0)) } : pool_Pool) fun x28 =>
  some (some x28, 0))
set_option maxRecDepth 100000 in
theorem c_pool_New {n : Nat} {a0 : Int} {r : Option pool_Pool × Int}  (h : pool_New n a0 = some r) : Bw.Fn Try.prog 14 [.int .i64 a0] (fun _ => True) [] (ptrP L_pool_Pool r.1) (fun x => .tuple #[ptrV x, .int .i64 r.2]) (ptrH 159) := by
  unfold pool_New at h
  refine fn_of Try.func14 (by kernel_rfl) rfl Try.ntmps14 rfl (fun cx hbs hpre hro => ?_)
  refine WP_seq ?_
  refine WP_region ?_
  refine WL_v rfl (VS_assign rfl) ?_
  refine WL_v rfl (VS_assign rfl) ?_
  refine WL_nil ?_
  refine WQ_then ?_
  refine WP_seq ?_
  refine WP_seq ?_
  refine WP_region ?_
  refine WL_v rfl (VS_move rfl) ?_
  refine WL_v rfl (VS_lss rfl rfl) ?_
  refine WL_v rfl (VS_move rfl) ?_
  refine WL_g (Gd_b rfl rfl) rfl (fun hb => VS_move rfl) ?_
  refine WL_g (Gd_b rfl rfl) rfl (fun hb => VS_gtr (gev rfl hb) rfl) ?_
  refine WL_v rfl (VS_or rfl rfl) ?_
  refine WL_nil ?_
  refine WQ_then ?_
  refine WP_if rfl (fun hc => ?_) (fun hc => ?_)
  ·
    replace h := cn_t hc h
    refine WP_seq ?_
    refine WP_region ?_
    refine WL_v rfl (VS_assign rfl) ?_
    refine WL_v rfl (VS_assign rfl) ?_
    refine WL_nil ?_
    refine WQ_then ?_
    refine WP_ret ?_
    refine WQ_then_ret ?_
    replace h := Option.some.inj h
    subst h
    exact WQ_ret none rfl (.tmp rfl (.tmp rfl .nil)) rfl rfl (ks := []) rfl (by decide)
  ·
    replace h := cn_f hc h
    refine WP_skip ?_
    refine WQ_then ?_
    refine WP_seq ?_
    obtain ⟨x21, hx21, h⟩ := bd_e h
    obtain ⟨x28, hx28, h⟩ := lt_e h
    refine WP_region ?_
    refine WL_v rfl (VS_move rfl) ?_
    refine WL_v rfl (VS_move rfl) ?_
    refine WL_x rfl (RX_callB (c_runs_Of hx21) rfl) (fun ⟨w22, bs23, J24⟩ hp25 => ?_)
    obtain ⟨c27, rfl, f26⟩ := hp25
    replace f26 : L_runs_Runs.rep (Hs [.ext bs23 J24]) c27 x21 := f26
    obtain ⟨c29, hc29, f30⟩ : ∃ cc, (((LI .i64).enc a0) ++ (c27 ++ ((LA (LA (LI .u8) 32) 64).enc (fun _ => (fun _ => 0))))) = cc ∧ (L_pool_Pool).rep (Hs [.ext bs23 J24]) cc x28 := ⟨_, rfl, by rw [hx28]; exact ⟨_, _, rfl, (FlatL.iff.2 rfl), ⟨_, _, rfl, (Lay.mono _ ent f26), (FlatL.iff.2 rfl)⟩⟩⟩
    refine WL_v rfl (VS_build (cs := c29) rfl (by rw [← hc29]; obtain ⟨_, rfl⟩ := list_one (Lay.len _ f26); kernel_rfl)) ?_
    refine WL_x rfl (RX_boxa rfl) (fun b14 _ => ?_)
    refine WL_v rfl (VS_assign rfl) ?_
    refine WL_v rfl (VS_assign rfl) ?_
    refine WL_nil ?_
    refine WQ_then ?_
    refine WP_ret ?_
    replace h := Option.some.inj h
    subst h
    refine WQ_bundle (R := [.ext bs23 J24]) (H' := [.cells b14 159 c29]) (ks := [1, 0]) rfl (by decide) ?_
    have p31 : (L_pool_Pool).rep (Hs [.ext (blks [.ext bs23 J24]) (Hs [.ext bs23 J24])]) c29 x28 := Lay.mono _ ent f30
    exact WQ_ret (some (b14, c29, blks [.ext bs23 J24], Hs [.ext bs23 J24])) rfl (.tmp rfl (.tmp rfl .nil)) ⟨_, rfl, p31⟩ rfl (ks := [1, 0]) rfl (by decide)
def pool_Pool_Claim (n : Nat) (a0 : pool_Pool) (a1 : Int) : Option (Int × Int × pool_Pool) :=
  cn (decide (a1 < 1)) (
  some (0, 2, a0)) (
  bd (runs_Runs_Find n a0.free a1) fun x24 =>
  cn ((!x24.2)) (
  some (0, 6, a0)) (
  bd (runs_Runs_Take n a0.free x24.1 a1) fun x28 =>
  lt ({ a0 with free := x28.1 } : pool_Pool) fun x35 =>
  some (x24.1, 0, x35)))
theorem c_pool_Pool_Claim {n : Nat} {a0 : pool_Pool} {a1 : Int} {r : Int × Int × pool_Pool} {K : World → Prop} [Stable K] {q0 : Nat} {cs0 : List Value} (f0 : (L_pool_Pool).rep K cs0 a0) (h : pool_Pool_Claim n a0 a1 = some r) : FnC Try.prog 16 [Ptr q0 0, .int .i64 a1] K [.cells q0 159 cs0] (fun J v ho => ∃ o0, v = (.tuple #[.int .i64 r.1, .int .i64 r.2.1]) ∧ ho = [.cells q0 159 o0] ∧ (L_pool_Pool).rep (fun w => K w ∧ J w) o0 (r.2.2)) := by
  unfold pool_Pool_Claim at h
  refine fn_of Try.func16 (by kernel_rfl) rfl Try.ntmps16 rfl (fun cx hbs hpre hro => ?_)
  haveI := knf_fut hbs hpre
  refine WP_seq ?_
  refine WP_region ?_
  refine WL_v rfl (VS_assign rfl) ?_
  refine WL_v rfl (VS_assign rfl) ?_
  refine WL_nil ?_
  refine WQ_then ?_
  refine WP_seq ?_
  refine WP_block ?_
  refine WP_seq ?_
  refine WP_region ?_
  refine WL_v rfl (VS_move rfl) ?_
  refine WL_v rfl (VS_eqlP (by kernel_rfl) rfl rfl) ?_
  refine WL_v rfl (VS_assign rfl) ?_
  refine WL_nil ?_
  refine WQ_then ?_
  refine WP_false rfl ?_
  refine WP_seq ?_
  refine WP_region ?_
  refine WL_v rfl (VS_move rfl) ?_
  refine WL_v rfl (VS_lss rfl rfl) ?_
  refine WL_v rfl (VS_assign rfl) ?_
  refine WL_nil ?_
  refine WQ_then ?_
  refine WP_if rfl (fun hc => ?_) (fun hc => ?_)
  ·
    replace h := cn_t hc h
    refine WP_seq ?_
    refine WP_region ?_
    refine WL_v rfl (VS_assign rfl) ?_
    refine WL_v rfl (VS_assign rfl) ?_
    refine WL_nil ?_
    refine WQ_then ?_
    refine WP_ret ?_
    refine WQ_block_ret ?_
    refine WQ_then_ret ?_
    replace h := Option.some.inj h
    subst h
    refine WQ_bundle (R := []) (H' := [.cells q0 159 cs0]) (ks := [0]) rfl (by decide) ?_
    have p21 : (L_pool_Pool).rep (fun w => K w ∧ (Hs [.ext (blks []) (Hs [])]) w) cs0 a0 := Lay.mono _ ent f0
    exact WQ_ret (.tuple #[.int .i64 0, .int .i64 2], [.cells q0 159 cs0], blks [], Hs []) rfl (.tmp rfl (.tmp rfl .nil)) ⟨_, rfl, rfl, p21⟩ rfl (ks := [0, 1]) rfl (by decide)
  ·
    replace h := cn_f hc h
    refine WP_skip ?_
    refine WQ_block ?_
    refine WQ_then ?_
    refine WP_seq ?_
    obtain ⟨x24, hx24, h⟩ := bd_e h
    refine WP_region ?_
    refine WL_v rfl (VS_move rfl) ?_
    refine WL_v rfl (VS_nilCheck rfl) ?_
    refine WL_v rfl (VS_field0 rfl) ?_
    obtain ⟨c22, hc22, f23⟩ := rep_ex (P_pool_Pool_free.get f0)
    refine WL_v rfl (VS_loadpart rfl hc22 (Lay.len _ f23)) ?_
    refine WL_v rfl (VS_move rfl) ?_
    refine WL_v rfl (VS_call (c_runs_Runs_Find (K := K) (Lay.mono _ ent f23) hx24) rfl kn) ?_
    refine WL_v rfl (VS_move rfl) ?_
    refine WL_v rfl (VS_extract rfl rfl) ?_
    refine WL_v rfl (VS_extract rfl rfl) ?_
    refine WL_v rfl (VS_assign rfl) ?_
    refine WL_v rfl (VS_assign rfl) ?_
    refine WL_nil ?_
    refine WQ_then ?_
    refine WP_seq ?_
    refine WP_seq ?_
    refine WP_region ?_
    refine WL_v rfl (VS_move rfl) ?_
    refine WL_v rfl (VS_not rfl) ?_
    refine WL_nil ?_
    refine WQ_then ?_
    refine WP_if rfl (fun hc => ?_) (fun hc => ?_)
    ·
      replace h := cn_t hc h
      refine WP_seq ?_
      refine WP_region ?_
      refine WL_v rfl (VS_assign rfl) ?_
      refine WL_v rfl (VS_assign rfl) ?_
      refine WL_nil ?_
      refine WQ_then ?_
      refine WP_ret ?_
      refine WQ_then_ret ?_
      replace h := Option.some.inj h
      subst h
      refine WQ_bundle (R := []) (H' := [.cells q0 159 cs0]) (ks := [0]) rfl (by decide) ?_
      have p25 : (L_pool_Pool).rep (fun w => K w ∧ (Hs [.ext (blks []) (Hs [])]) w) cs0 a0 := Lay.mono _ ent f0
      exact WQ_ret (.tuple #[.int .i64 0, .int .i64 6], [.cells q0 159 cs0], blks [], Hs []) rfl (.tmp rfl (.tmp rfl .nil)) ⟨_, rfl, rfl, p25⟩ rfl (ks := [0, 1]) rfl (by decide)
    ·
      replace h := cn_f hc h
      refine WP_skip ?_
      refine WQ_then ?_
      refine WP_seq ?_
      obtain ⟨x28, hx28, h⟩ := bd_e h
      obtain ⟨x35, hx35, h⟩ := lt_e h
      refine WP_region ?_
      refine WL_v rfl (VS_move rfl) ?_
      refine WL_v rfl (VS_move rfl) ?_
      refine WL_v rfl (VS_nilCheck rfl) ?_
      refine WL_v rfl (VS_field0 rfl) ?_
      obtain ⟨c26, hc26, f27⟩ := rep_ex (P_pool_Pool_free.get f0)
      refine WL_v rfl (VS_loadpart rfl hc26 (Lay.len _ f27)) ?_
      refine WL_v rfl (VS_move rfl) ?_
      refine WL_v rfl (VS_move rfl) ?_
      refine WL_x rfl (RX_callB (c_runs_Runs_Take (K := K) (Lay.mono _ ent f27) hx28) rfl) (fun ⟨w29, bs30, J31⟩ hp32 => ?_)
      obtain ⟨c34, rfl, f33⟩ := hp32
      replace f33 : (L_runs_Runs).rep (fun w => K w ∧ Hs [.ext bs30 J31] w) c34 x28.1 := f33
      refine WL_v rfl (VS_move rfl) ?_
      refine WL_v rfl (VS_extract rfl rfl) ?_
      refine WL_v rfl (VS_extract rfl rfl) ?_
      refine WL_v rfl (VS_nilCheck rfl) ?_
      refine WL_v rfl (VS_field0 rfl) ?_
      obtain ⟨c36, hc36, f37⟩ : ∃ cc, splice cs0 1 c34 = cc ∧ (L_pool_Pool).rep (fun w => K w ∧ Hs [.ext bs30 J31] w) cc x35 := ⟨_, rfl, by rw [hx35]; exact P_pool_Pool_free.set (Lay.mono _ ent f0) (Lay.mono _ ent f33)⟩
      refine WL_x0 (RX_stN c34 P_pool_Pool_free (v := x28.1) (r := f0) (rv := ((Lay.mono _ ent f33) : (L_runs_Runs).rep (fun w => K w ∧ Hs [.ext bs30 J31] w) c34 x28.1)) rfl rfl rfl rfl hc36) (fun _ _ => ?_)
      refine WL_nil ?_
      refine WQ_then ?_
      refine WP_seq ?_
      refine WP_region ?_
      refine WL_v rfl (VS_move rfl) ?_
      refine WL_v rfl (VS_assign rfl) ?_
      refine WL_v rfl (VS_assign rfl) ?_
      refine WL_nil ?_
      refine WQ_then ?_
      refine WP_ret ?_
      replace h := Option.some.inj h
      subst h
      refine WQ_bundle (R := [.ext bs30 J31]) (H' := [.cells q0 159 c36]) (ks := [0, 1]) rfl (by decide) ?_
      have p38 : (L_pool_Pool).rep (fun w => K w ∧ (Hs [.ext (blks [.ext bs30 J31]) (Hs [.ext bs30 J31])]) w) c36 x35 := Lay.mono _ ent f37
      exact WQ_ret (.tuple #[.int .i64 x24.1, .int .i64 0], [.cells q0 159 c36], blks [.ext bs30 J31], Hs [.ext bs30 J31]) rfl (.tmp rfl (.tmp rfl .nil)) ⟨_, rfl, rfl, p38⟩ rfl (ks := [0, 1]) rfl (by decide)
def pool_Pool_Write_1__in (n : Nat) (a0 : pool_Pool) (i10 : Nat) (i20 : Nat) (a1 : Int) : Option pool_Pool :=
  lt ({ a0 with bytes := (upd a0.bytes i10 (upd (a0.bytes i10) i20 a1)) } : pool_Pool) fun x21 =>
  some x21
theorem c_pool_Pool_Write_1__in {n : Nat} {a0 : pool_Pool} {i10 : Nat} {i20 : Nat} {a1 : Int} {r : pool_Pool} {K : World → Prop} {q0 : Nat} {cs0 : List Value} (f0 : (L_pool_Pool).rep K cs0 a0) (hi10 : i10 < 64) (hi20 : i20 < 32) {q1 : Nat} (h : pool_Pool_Write_1__in n a0 i10 i20 a1 = some r) : FnC Try.prog 93 [Ptr q0 ((2 + i10 * 32) + i20 * 1), Ptr q1 0] K [.cells q0 159 cs0, .cells q1 5 ((LI .u8).enc a1)] (fun J v ho => ∃ o0, v = (.tuple #[]) ∧ ho = [.cells q0 159 o0, .cells q1 5 ((LI .u8).enc a1)] ∧ (L_pool_Pool).rep (fun w => K w ∧ J w) o0 (r)) := by
  unfold pool_Pool_Write_1__in at h
  refine fn_of Try.func93 (by kernel_rfl) rfl Try.ntmps93 rfl (fun cx hbs hpre hro => ?_)
  haveI := knf_fut hbs hpre
  obtain ⟨x21, hx21, h⟩ := lt_e h
  refine WP_region ?_
  refine WL_v rfl (VS_move rfl) ?_
  refine WL_v rfl (VS_ldi (Pth.id (L := (LI .u8))) rfl) ?_
  refine WL_v rfl (VS_nilCheck rfl) ?_
  obtain ⟨c22, hc22, f23⟩ : ∃ cc, splice cs0 ((2 + i10 * 32) + i20 * 1) ((LI .u8).enc a1) = cc ∧ (L_pool_Pool).rep K cc x21 := ⟨_, rfl, by rw [hx21]; exact ((P_pool_Pool_bytes.comp (Pth.idx (L := (LA (LI .u8) 32)) (m := 64) (k := 32) (i10) hi10 rfl)).comp (Pth.idx (L := (LI .u8)) (m := 32) (k := 1) (i20) hi20 rfl)).set (Lay.mono _ ent f0) (FlatL.iff.2 rfl)⟩
  refine WL_x0 (RX_stN ((LI .u8).enc a1) ((P_pool_Pool_bytes.comp (Pth.idx (L := (LA (LI .u8) 32)) (m := 64) (k := 32) (i10) hi10 rfl)).comp (Pth.idx (L := (LI .u8)) (m := 32) (k := 1) (i20) hi20 rfl)) (v := a1) (r := f0) (rv := ((FlatL.iff.2 rfl) : ((LI .u8)).rep K ((LI .u8).enc a1) a1)) rfl rfl rfl rfl hc22) (fun _ _ => ?_)
  refine WL_nil ?_
  replace h := Option.some.inj h
  subst h
  refine WQ_bundle (R := []) (H' := [.cells q0 159 c22, .cells q1 5 ((LI .u8).enc a1)]) (ks := [0, 1]) rfl (by decide) ?_
  have p24 : (L_pool_Pool).rep (fun w => K w ∧ (Hs [.ext (blks []) (Hs [])]) w) c22 x21 := Lay.mono _ ent f23
  exact WQ_end (.tuple #[], [.cells q0 159 c22, .cells q1 5 ((LI .u8).enc a1)], blks [], Hs []) rfl .nil ⟨_, rfl, rfl, p24⟩ rfl (ks := [0, 1, 2]) rfl (by decide)
def pool_Pool_byte_1__in__pool_Pool_Write_1 (n : Nat) (a0 : pool_Pool) (i10 : Nat) (a1_c_0 : Int) (a2 : Int) : Option pool_Pool :=
  gu (inb (Int.tmod a2 32) 32) <|
  bd (pool_Pool_Write_1__in n a0 i10 (Int.toNat (Int.tmod a2 32)) a1_c_0) fun x22 =>
  some x22
theorem c_pool_Pool_byte_1__in__pool_Pool_Write_1 {n : Nat} {a0 : pool_Pool} {i10 : Nat} {a1_c_0 : Int} {a2 : Int} {r : pool_Pool} {K : World → Prop} {q0 : Nat} {cs0 : List Value} (f0 : (L_pool_Pool).rep K cs0 a0) (hi10 : i10 < 64) {q1 : Nat} {q1_c_0 : Nat} {q2 : Nat} (h : pool_Pool_byte_1__in__pool_Pool_Write_1 n a0 i10 a1_c_0 a2 = some r) : FnC Try.prog 148 [Ptr q0 (2 + i10 * 32), Ptr q1 0, Ptr q2 0] K [.cells q0 159 cs0, .cells q1 173 [.func (.func 93) #[] #[Ptr q1_c_0 0]], .cells q1_c_0 5 ((LI .u8).enc a1_c_0), .cells q2 3 ((LI .i64).enc a2)] (fun J v ho => ∃ o0, v = (.tuple #[]) ∧ ho = [.cells q0 159 o0, .cells q1 173 [.func (.func 93) #[] #[Ptr q1_c_0 0]], .cells q1_c_0 5 ((LI .u8).enc a1_c_0), .cells q2 3 ((LI .i64).enc a2)] ∧ (L_pool_Pool).rep (fun w => K w ∧ J w) o0 (r)) := by
  unfold pool_Pool_byte_1__in__pool_Pool_Write_1 at h
  refine fn_of Try.func148 (by kernel_rfl) rfl Try.ntmps148 rfl (fun cx hbs hpre hro => ?_)
  haveI := knf_fut hbs hpre
  obtain ⟨hg21, h⟩ := gu_e h
  obtain ⟨x22, hx22, h⟩ := bd_e h
  refine WP_draw mixed (.stg [] [(0, [1]), (1, [0]), (2, [2]), (3, [6]), (4, [5]), (5, [7, 8])] (.alt 6 [4, 9] (.fin [] []) .no)) (by kernel_rfl) ?_
  refine Stg_stg ?_ ?_
  · exact ReOk_nil
  refine NewOk_cons rfl rfl (VG_v rfl (VS_load rfl rfl)) ?_
  refine NewOk_cons rfl rfl (VG_v rfl (VS_move rfl)) ?_
  refine NewOk_cons rfl rfl (VG_v rfl (VS_ldi (Pth.id (L := (LI .i64))) rfl)) ?_
  refine NewOk_cons rfl rfl (VG_v rfl (VS_rem rfl rfl (by decide) rfl)) ?_
  refine NewOk_cons rfl rfl (VG_v rfl (VS_nilCheck rfl)) ?_
  refine NewOk_cons rfl rfl (VG_v rfl (VS_index (m := (Int.toNat (Int.tmod a2 32))) rfl rfl (inb_e hg21).1 (inb_e hg21).2)) ?_
  refine NewOk_nil ?_
  refine Stg_some rfl rfl (RG_x rfl (RX_callH (K := K) (Hin := [.cells q0 159 cs0, .cells q1_c_0 5 ((LI .u8).enc a1_c_0)]) (rest := [.cells q1 173 [.func (.func 93) #[] #[Ptr q1_c_0 0]], .cells q2 3 ((LI .i64).enc a2)]) (ks := [0, 2, 1, 3]) (c_pool_Pool_Write_1__in (K := K) (Lay.mono _ ent f0) hi10 (inb_e hg21).2 hx22) rfl rfl rfl rfl (by decide))) (fun ⟨w23, ho29, bs24, J25⟩ hp26 => ?_) Stg_no
  obtain ⟨c28, rfl, rfl, f27⟩ := hp26
  replace f27 : (L_pool_Pool).rep (fun w => K w ∧ Hs [.ext bs24 J25] w) c28 x22 := f27
  dsimp only [List.cons_append, List.nil_append]
  refine Stg_fin ?_ ?_
  · exact ReOk_nil
  refine NewOk_nil ?_
  replace h := Option.some.inj h
  subst h
  refine WQ_bundle (R := [.ext bs24 J25]) (H' := [.cells q0 159 c28, .cells q1 173 [.func (.func 93) #[] #[Ptr q1_c_0 0]], .cells q1_c_0 5 ((LI .u8).enc a1_c_0), .cells q2 3 ((LI .i64).enc a2)]) (ks := [0, 1, 3, 2, 4]) rfl (by decide) ?_
  have p30 : (L_pool_Pool).rep (fun w => K w ∧ (Hs [.ext (blks [.ext bs24 J25]) (Hs [.ext bs24 J25])]) w) c28 x22 := Lay.mono _ ent f27
  exact WQ_end (.tuple #[], [.cells q0 159 c28, .cells q1 173 [.func (.func 93) #[] #[Ptr q1_c_0 0]], .cells q1_c_0 5 ((LI .u8).enc a1_c_0), .cells q2 3 ((LI .i64).enc a2)], blks [.ext bs24 J25], Hs [.ext bs24 J25]) rfl .nil ⟨_, rfl, rfl, p30⟩ rfl (ks := [0, 1, 2, 3, 4]) rfl (by decide)
def pool_Pool_lent__pool_Pool_byte_1_pool_Pool_Write_1 (n : Nat) (a0 : pool_Pool) (a1 : Int) (a2_0_c_0 : Int) (a2_1 : Int) : Option (Int × pool_Pool) :=
  cn ((decide (a1 < 0) || decide (a0.n ≤ a1))) (
  some (2, a0)) (
  bd (runs_Runs_Has n a0.free a1) fun x24 =>
  cn (x24) (
  some (12, a0)) (
  gu (inb a1 64) <|
  bd (pool_Pool_byte_1__in__pool_Pool_Write_1 n a0 (Int.toNat a1) a2_0_c_0 a2_1) fun x27 =>
  some (0, x27)))
theorem c_pool_Pool_lent__pool_Pool_byte_1_pool_Pool_Write_1 {n : Nat} {a0 : pool_Pool} {a1 : Int} {a2_0_c_0 : Int} {a2_1 : Int} {r : Int × pool_Pool} {K : World → Prop} [Stable K] {q0 : Nat} {cs0 : List Value} (f0 : (L_pool_Pool).rep K cs0 a0) {q2_0 : Nat} {q2_0_c_0 : Nat} {q2_1 : Nat} (h : pool_Pool_lent__pool_Pool_byte_1_pool_Pool_Write_1 n a0 a1 a2_0_c_0 a2_1 = some r) : FnC Try.prog 86 [Ptr q0 0, .int .i64 a1, .func (.func 148) #[] #[Ptr q2_0 0, Ptr q2_1 0]] K [.cells q0 159 cs0, .cells q2_0 173 [.func (.func 93) #[] #[Ptr q2_0_c_0 0]], .cells q2_0_c_0 5 ((LI .u8).enc a2_0_c_0), .cells q2_1 3 ((LI .i64).enc a2_1)] (fun J v ho => ∃ o0, v = (.int .i64 r.1) ∧ ho = [.cells q0 159 o0, .cells q2_0 173 [.func (.func 93) #[] #[Ptr q2_0_c_0 0]], .cells q2_0_c_0 5 ((LI .u8).enc a2_0_c_0), .cells q2_1 3 ((LI .i64).enc a2_1)] ∧ (L_pool_Pool).rep (fun w => K w ∧ J w) o0 (r.2)) := by
  unfold pool_Pool_lent__pool_Pool_byte_1_pool_Pool_Write_1 at h
  refine fn_of Try.func86 (by kernel_rfl) rfl Try.ntmps86 rfl (fun cx hbs hpre hro => ?_)
  haveI := knf_fut hbs hpre
  refine WP_seq ?_
  refine WP_region ?_
  refine WL_v rfl (VS_assign rfl) ?_
  refine WL_nil ?_
  refine WQ_then ?_
  refine WP_seq ?_
  refine WP_block ?_
  refine WP_seq ?_
  refine WP_region ?_
  refine WL_v rfl (VS_move rfl) ?_
  refine WL_v rfl (VS_eqlP (by kernel_rfl) rfl rfl) ?_
  refine WL_v rfl (VS_assign rfl) ?_
  refine WL_nil ?_
  refine WQ_then ?_
  refine WP_false rfl ?_
  refine WP_seq ?_
  refine WP_region ?_
  refine WL_v rfl (VS_move rfl) ?_
  refine WL_v rfl (VS_lss rfl rfl) ?_
  refine WL_v rfl (VS_move rfl) ?_
  refine WL_g (Gd_b rfl rfl) rfl (fun hb => VS_move rfl) ?_
  refine WL_g (Gd_b rfl rfl) rfl (fun hb => VS_move rfl) ?_
  refine WL_g (Gd_b rfl rfl) rfl (fun hb => VS_nilCheck (gev rfl hb)) ?_
  refine WL_g (Gd_b rfl rfl) rfl (fun hb => VS_field0 (gev rfl hb)) ?_
  refine WL_g (Gd_b rfl rfl) rfl (fun hb => VS_load (gev rfl hb) (P_pool_Pool_n.int f0)) ?_
  refine WL_g (Gd_b rfl rfl) rfl (fun hb => VS_geq (gev rfl hb) (gev rfl hb)) ?_
  refine WL_v rfl (VS_or rfl rfl) ?_
  refine WL_v rfl (VS_assign rfl) ?_
  refine WL_nil ?_
  refine WQ_then ?_
  refine WP_if rfl (fun hc => ?_) (fun hc => ?_)
  ·
    replace h := cn_t hc h
    refine WP_seq ?_
    refine WP_region ?_
    refine WL_v rfl (VS_assign rfl) ?_
    refine WL_nil ?_
    refine WQ_then ?_
    refine WP_ret ?_
    refine WQ_block_ret ?_
    refine WQ_then_ret ?_
    replace h := Option.some.inj h
    subst h
    refine WQ_bundle (R := []) (H' := [.cells q0 159 cs0, .cells q2_0 173 [.func (.func 93) #[] #[Ptr q2_0_c_0 0]], .cells q2_0_c_0 5 ((LI .u8).enc a2_0_c_0), .cells q2_1 3 ((LI .i64).enc a2_1)]) (ks := [0, 1, 2, 3]) rfl (by decide) ?_
    have p21 : (L_pool_Pool).rep (fun w => K w ∧ (Hs [.ext (blks []) (Hs [])]) w) cs0 a0 := Lay.mono _ ent f0
    exact WQ_ret (.int .i64 2, [.cells q0 159 cs0, .cells q2_0 173 [.func (.func 93) #[] #[Ptr q2_0_c_0 0]], .cells q2_0_c_0 5 ((LI .u8).enc a2_0_c_0), .cells q2_1 3 ((LI .i64).enc a2_1)], blks [], Hs []) rfl (.tmp rfl .nil) ⟨_, rfl, rfl, p21⟩ rfl (ks := [0, 1, 2, 3, 4]) rfl (by decide)
  ·
    replace h := cn_f hc h
    refine WP_seq ?_
    obtain ⟨x24, hx24, h⟩ := bd_e h
    refine WP_region ?_
    refine WL_v rfl (VS_move rfl) ?_
    refine WL_v rfl (VS_nilCheck rfl) ?_
    refine WL_v rfl (VS_field0 rfl) ?_
    obtain ⟨c22, hc22, f23⟩ := rep_ex (P_pool_Pool_free.get f0)
    refine WL_v rfl (VS_loadpart rfl hc22 (Lay.len _ f23)) ?_
    refine WL_v rfl (VS_move rfl) ?_
    refine WL_v rfl (VS_call (c_runs_Runs_Has (K := K) (Lay.mono _ ent f23) hx24) rfl kn) ?_
    refine WL_v rfl (VS_assign rfl) ?_
    refine WL_nil ?_
    refine WQ_then ?_
    refine WP_if rfl (fun hc => ?_) (fun hc => ?_)
    ·
      replace h := cn_t hc h
      refine WP_seq ?_
      refine WP_region ?_
      refine WL_v rfl (VS_assign rfl) ?_
      refine WL_nil ?_
      refine WQ_then ?_
      refine WP_ret ?_
      refine WQ_block_ret ?_
      refine WQ_then_ret ?_
      replace h := Option.some.inj h
      subst h
      refine WQ_bundle (R := []) (H' := [.cells q0 159 cs0, .cells q2_0 173 [.func (.func 93) #[] #[Ptr q2_0_c_0 0]], .cells q2_0_c_0 5 ((LI .u8).enc a2_0_c_0), .cells q2_1 3 ((LI .i64).enc a2_1)]) (ks := [0, 1, 2, 3]) rfl (by decide) ?_
      have p25 : (L_pool_Pool).rep (fun w => K w ∧ (Hs [.ext (blks []) (Hs [])]) w) cs0 a0 := Lay.mono _ ent f0
      exact WQ_ret (.int .i64 12, [.cells q0 159 cs0, .cells q2_0 173 [.func (.func 93) #[] #[Ptr q2_0_c_0 0]], .cells q2_0_c_0 5 ((LI .u8).enc a2_0_c_0), .cells q2_1 3 ((LI .i64).enc a2_1)], blks [], Hs []) rfl (.tmp rfl .nil) ⟨_, rfl, rfl, p25⟩ rfl (ks := [0, 1, 2, 3, 4]) rfl (by decide)
    ·
      replace h := cn_f hc h
      refine WP_skip ?_
      refine WQ_block ?_
      refine WQ_then ?_
      refine WP_seq ?_
      obtain ⟨hg26, h⟩ := gu_e h
      obtain ⟨x27, hx27, h⟩ := bd_e h
      refine WP_region ?_
      refine WL_v rfl (VS_move rfl) ?_
      refine WL_v rfl (VS_move rfl) ?_
      refine WL_v rfl (VS_move rfl) ?_
      refine WL_v rfl (VS_nilCheck rfl) ?_
      refine WL_v rfl (VS_field0 rfl) ?_
      refine WL_v rfl (VS_index (m := (Int.toNat a1)) rfl rfl (inb_e hg26).1 (inb_e hg26).2) ?_
      refine WL_x rfl (RX_callH (K := K) (Hin := [.cells q0 159 cs0, .cells q2_0 173 [.func (.func 93) #[] #[Ptr q2_0_c_0 0]], .cells q2_0_c_0 5 ((LI .u8).enc a2_0_c_0), .cells q2_1 3 ((LI .i64).enc a2_1)]) (rest := []) (ks := [0, 1, 2, 3]) (c_pool_Pool_byte_1__in__pool_Pool_Write_1 (K := K) (Lay.mono _ ent f0) (inb_e hg26).2 hx27) rfl rfl rfl rfl (by decide)) (fun ⟨w28, ho34, bs29, J30⟩ hp31 => ?_)
      obtain ⟨c33, rfl, rfl, f32⟩ := hp31
      replace f32 : (L_pool_Pool).rep (fun w => K w ∧ Hs [.ext bs29 J30] w) c33 x27 := f32
      dsimp only [List.cons_append, List.nil_append]
      refine WL_nil ?_
      refine WQ_then ?_
      refine WP_seq ?_
      refine WP_region ?_
      refine WL_v rfl (VS_assign rfl) ?_
      refine WL_nil ?_
      refine WQ_then ?_
      refine WP_ret ?_
      replace h := Option.some.inj h
      subst h
      refine WQ_bundle (R := [.ext bs29 J30]) (H' := [.cells q0 159 c33, .cells q2_0 173 [.func (.func 93) #[] #[Ptr q2_0_c_0 0]], .cells q2_0_c_0 5 ((LI .u8).enc a2_0_c_0), .cells q2_1 3 ((LI .i64).enc a2_1)]) (ks := [0, 1, 2, 3, 4]) rfl (by decide) ?_
      have p35 : (L_pool_Pool).rep (fun w => K w ∧ (Hs [.ext (blks [.ext bs29 J30]) (Hs [.ext bs29 J30])]) w) c33 x27 := Lay.mono _ ent f32
      exact WQ_ret (.int .i64 0, [.cells q0 159 c33, .cells q2_0 173 [.func (.func 93) #[] #[Ptr q2_0_c_0 0]], .cells q2_0_c_0 5 ((LI .u8).enc a2_0_c_0), .cells q2_1 3 ((LI .i64).enc a2_1)], blks [.ext bs29 J30], Hs [.ext bs29 J30]) rfl (.tmp rfl .nil) ⟨_, rfl, rfl, p35⟩ rfl (ks := [0, 1, 2, 3, 4]) rfl (by decide)
def pool_Pool_byte__pool_Pool_Write_1 (n : Nat) (a0 : pool_Pool) (a1 : Int) (a2_0 : Int) : Option (Int × pool_Pool) :=
  cn ((true && decide (a1 < 0))) (
  some (2, a0)) (
  bd (pool_Pool_lent__pool_Pool_byte_1_pool_Pool_Write_1 n a0 (wr .i64 (Int.tdiv a1 32)) a2_0 a1) fun x22 =>
  some (x22.1, x22.2))
theorem c_pool_Pool_byte__pool_Pool_Write_1 {n : Nat} {a0 : pool_Pool} {a1 : Int} {a2_0 : Int} {r : Int × pool_Pool} {K : World → Prop} [Stable K] {q0 : Nat} {cs0 : List Value} (f0 : (L_pool_Pool).rep K cs0 a0) {q2_0 : Nat} (h : pool_Pool_byte__pool_Pool_Write_1 n a0 a1 a2_0 = some r) : FnC Try.prog 91 [Ptr q0 0, .int .i64 a1, .func (.func 93) #[] #[Ptr q2_0 0]] K [.cells q0 159 cs0, .cells q2_0 5 ((LI .u8).enc a2_0)] (fun J v ho => ∃ o0, v = (.int .i64 r.1) ∧ ho = [.cells q0 159 o0, .cells q2_0 5 ((LI .u8).enc a2_0)] ∧ (L_pool_Pool).rep (fun w => K w ∧ J w) o0 (r.2)) := by
  unfold pool_Pool_byte__pool_Pool_Write_1 at h
  refine fn_of Try.func91 (by kernel_rfl) rfl Try.ntmps91 rfl (fun cx hbs hpre hro => ?_)
  haveI := knf_fut hbs hpre
  refine WP_seq ?_
  refine WP_region ?_
  refine WL_x rfl (RX_boxL (LI .i64) a1 rfl rfl) (fun b4 _ => ?_)
  refine WL_x rfl (RX_box1 rfl rfl) (fun b5 _ => ?_)
  refine WL_v rfl (VS_assign rfl) ?_
  refine WL_nil ?_
  refine WQ_then ?_
  refine WP_seq ?_
  refine WP_seq ?_
  refine WP_region ?_
  refine WL_v rfl (VS_move rfl) ?_
  refine WL_v rfl (VS_neqP (by kernel_rfl) rfl rfl) ?_
  refine WL_v rfl (VS_move rfl) ?_
  refine WL_g (Gd_b rfl rfl) rfl (fun hb => VS_ldi (Pth.id (L := (LI .i64))) rfl) ?_
  refine WL_g (Gd_b rfl rfl) rfl (fun hb => VS_lss (gev rfl hb) rfl) ?_
  refine WL_v rfl (VS_and rfl rfl) ?_
  refine WL_nil ?_
  refine WQ_then ?_
  refine WP_if rfl (fun hc => ?_) (fun hc => ?_)
  ·
    replace h := cn_t hc h
    refine WP_seq ?_
    refine WP_region ?_
    refine WL_v rfl (VS_assign rfl) ?_
    refine WL_nil ?_
    refine WQ_then ?_
    refine WP_ret ?_
    refine WQ_then_ret ?_
    replace h := Option.some.inj h
    subst h
    refine WQ_bundle (R := []) (H' := [.cells q0 159 cs0, .cells q2_0 5 ((LI .u8).enc a2_0)]) (ks := [2, 3]) rfl (by decide) ?_
    have p21 : (L_pool_Pool).rep (fun w => K w ∧ (Hs [.ext (blks []) (Hs [])]) w) cs0 a0 := Lay.mono _ ent f0
    exact WQ_ret (.int .i64 2, [.cells q0 159 cs0, .cells q2_0 5 ((LI .u8).enc a2_0)], blks [], Hs []) rfl (.tmp rfl .nil) ⟨_, rfl, rfl, p21⟩ rfl (ks := [0, 1, 2]) rfl (by decide)
  ·
    replace h := cn_f hc h
    refine WP_skip ?_
    refine WQ_then ?_
    refine WP_seq ?_
    obtain ⟨x22, hx22, h⟩ := bd_e h
    refine WP_region ?_
    refine WL_v rfl (VS_move rfl) ?_
    refine WL_v rfl (VS_ldi (Pth.id (L := (LI .i64))) rfl) ?_
    refine WL_v rfl (VS_quo rfl rfl (by decide) rfl) ?_
    refine WL_v rfl (VS_makeFunc rfl) ?_
    refine WL_x rfl (RX_callH (K := K) (Hin := [.cells q0 159 cs0, .cells b5 173 [.func (.func 93) #[] #[Ptr q2_0 0]], .cells q2_0 5 ((LI .u8).enc a2_0), .cells b4 3 ((LI .i64).enc a1)]) (rest := []) (ks := [2, 0, 3, 1]) (c_pool_Pool_lent__pool_Pool_byte_1_pool_Pool_Write_1 (K := K) (Lay.mono _ ent f0) hx22) rfl rfl rfl rfl (by decide)) (fun ⟨w23, ho29, bs24, J25⟩ hp26 => ?_)
    obtain ⟨c28, rfl, rfl, f27⟩ := hp26
    replace f27 : (L_pool_Pool).rep (fun w => K w ∧ Hs [.ext bs24 J25] w) c28 x22.2 := f27
    dsimp only [List.cons_append, List.nil_append]
    refine WL_v rfl (VS_assign rfl) ?_
    refine WL_nil ?_
    refine WQ_then ?_
    refine WP_ret ?_
    replace h := Option.some.inj h
    subst h
    refine WQ_bundle (R := [.ext bs24 J25]) (H' := [.cells q0 159 c28, .cells q2_0 5 ((LI .u8).enc a2_0)]) (ks := [0, 1, 3]) rfl (by decide) ?_
    have p30 : (L_pool_Pool).rep (fun w => K w ∧ (Hs [.ext (blks [.ext bs24 J25]) (Hs [.ext bs24 J25])]) w) c28 x22.2 := Lay.mono _ ent f27
    exact WQ_ret (.int .i64 x22.1, [.cells q0 159 c28, .cells q2_0 5 ((LI .u8).enc a2_0)], blks [.ext bs24 J25], Hs [.ext bs24 J25]) rfl (.tmp rfl .nil) ⟨_, rfl, rfl, p30⟩ rfl (ks := [0, 1, 2]) rfl (by decide)
def pool_Pool_Write (n : Nat) (a0 : pool_Pool) (a1 : Int) (a2 : Int) : Option (Int × pool_Pool) :=
  bd (pool_Pool_byte__pool_Pool_Write_1 n a0 a1 a2) fun x21 =>
  some (x21.1, x21.2)
theorem c_pool_Pool_Write {n : Nat} {a0 : pool_Pool} {a1 : Int} {a2 : Int} {r : Int × pool_Pool} {K : World → Prop} [Stable K] {q0 : Nat} {cs0 : List Value} (f0 : (L_pool_Pool).rep K cs0 a0) (h : pool_Pool_Write n a0 a1 a2 = some r) : FnC Try.prog 24 [Ptr q0 0, .int .i64 a1, .int .u8 a2] K [.cells q0 159 cs0] (fun J v ho => ∃ o0, v = (.int .i64 r.1) ∧ ho = [.cells q0 159 o0] ∧ (L_pool_Pool).rep (fun w => K w ∧ J w) o0 (r.2)) := by
  unfold pool_Pool_Write at h
  refine fn_of Try.func24 (by kernel_rfl) rfl Try.ntmps24 rfl (fun cx hbs hpre hro => ?_)
  haveI := knf_fut hbs hpre
  refine WP_seq ?_
  refine WP_region ?_
  refine WL_x rfl (RX_boxL (LI .u8) a2 rfl rfl) (fun b5 _ => ?_)
  refine WL_v rfl (VS_assign rfl) ?_
  refine WL_nil ?_
  refine WQ_then ?_
  refine WP_seq ?_
  obtain ⟨x21, hx21, h⟩ := bd_e h
  refine WP_region ?_
  refine WL_v rfl (VS_move rfl) ?_
  refine WL_v rfl (VS_move rfl) ?_
  refine WL_v rfl (VS_makeFunc rfl) ?_
  refine WL_x rfl (RX_callH (K := K) (Hin := [.cells q0 159 cs0, .cells b5 5 ((LI .u8).enc a2)]) (rest := []) (ks := [1, 0]) (c_pool_Pool_byte__pool_Pool_Write_1 (K := K) (Lay.mono _ ent f0) hx21) rfl rfl rfl rfl (by decide)) (fun ⟨w22, ho28, bs23, J24⟩ hp25 => ?_)
  obtain ⟨c27, rfl, rfl, f26⟩ := hp25
  replace f26 : (L_pool_Pool).rep (fun w => K w ∧ Hs [.ext bs23 J24] w) c27 x21.2 := f26
  dsimp only [List.cons_append, List.nil_append]
  refine WL_v rfl (VS_assign rfl) ?_
  refine WL_nil ?_
  refine WQ_then ?_
  refine WP_ret ?_
  replace h := Option.some.inj h
  subst h
  refine WQ_bundle (R := [.ext bs23 J24]) (H' := [.cells q0 159 c27]) (ks := [0, 1]) rfl (by decide) ?_
  have p29 : (L_pool_Pool).rep (fun w => K w ∧ (Hs [.ext (blks [.ext bs23 J24]) (Hs [.ext bs23 J24])]) w) c27 x21.2 := Lay.mono _ ent f26
  exact WQ_ret (.int .i64 x21.1, [.cells q0 159 c27], blks [.ext bs23 J24], Hs [.ext bs23 J24]) rfl (.tmp rfl .nil) ⟨_, rfl, rfl, p29⟩ rfl (ks := [0, 1]) rfl (by decide)
def pool_Pool_Back_1__in__at0 (n : Nat) (a0 : pool_Pool) (i10 : Nat) (a2 : Int) : Option pool_Pool :=
  bd (runs_Runs_Give n a0.free a2 1) fun x23 =>
  lt ({ a0 with free := x23.1 } : pool_Pool) fun x30 =>
  some x30
theorem c_pool_Pool_Back_1__in__at0 {n : Nat} {a0 : pool_Pool} {i10 : Nat} {a2 : Int} {r : pool_Pool} {K : World → Prop} [Stable K] {q0 : Nat} {cs0 : List Value} (f0 : (L_pool_Pool).rep K cs0 a0) (hi10 : i10 < 64) {q1 : Nat} {q2 : Nat} (h : pool_Pool_Back_1__in__at0 n a0 i10 a2 = some r) : FnC Try.prog 89 [Ptr q0 (2 + i10 * 32), Ptr q1 0, Ptr q2 0] K [.cells q0 159 cs0, .cells q1 24 [Ptr q0 0], .cells q2 3 ((LI .i64).enc a2)] (fun J v ho => ∃ o0, v = (.tuple #[]) ∧ ho = [.cells q0 159 o0, .cells q1 24 [Ptr q0 0], .cells q2 3 ((LI .i64).enc a2)] ∧ (L_pool_Pool).rep (fun w => K w ∧ J w) o0 (r)) := by
  unfold pool_Pool_Back_1__in__at0 at h
  refine fn_of Try.func89 (by kernel_rfl) rfl Try.ntmps89 rfl (fun cx hbs hpre hro => ?_)
  haveI := knf_fut hbs hpre
  obtain ⟨x23, hx23, h⟩ := bd_e h
  obtain ⟨x30, hx30, h⟩ := lt_e h
  refine WP_draw mixed (.stg [] [(0, [1]), (1, [1]), (2, [6]), (3, [7]), (4, [8]), (5, [2])] (.alt 6 [9, 10] (.stg [(0, [1])] [(7, [11]), (8, [4]), (9, [4]), (10, [5]), (11, [14])] (.alt 12 [12, 15] (.fin [(9, [4])] []) .no)) .no)) (by kernel_rfl) ?_
  refine Stg_stg ?_ ?_
  · exact ReOk_nil
  refine NewOk_cons rfl rfl (VG_v rfl (VS_load rfl rfl)) ?_
  refine NewOk_cons rfl rfl (VG_v rfl (VS_load rfl rfl)) ?_
  refine NewOk_cons rfl rfl (VG_v rfl (VS_nilCheck rfl)) ?_
  refine NewOk_cons rfl rfl (VG_v rfl (VS_field0 rfl)) ?_
  obtain ⟨c21, hc21, f22⟩ := rep_ex (P_pool_Pool_free.get f0)
  refine NewOk_cons rfl rfl (VG_v rfl (VS_loadpart rfl hc21 (Lay.len _ f22))) ?_
  refine NewOk_cons rfl rfl (VG_v rfl (VS_ldi (Pth.id (L := (LI .i64))) rfl)) ?_
  refine NewOk_nil ?_
  refine Stg_some rfl rfl (RG_x rfl (RX_callB (c_runs_Runs_Give (K := K) (Lay.mono _ ent f22) hx23) rfl)) (fun ⟨w24, bs25, J26⟩ hp27 => ?_) Stg_no
  obtain ⟨c29, rfl, f28⟩ := hp27
  replace f28 : (L_runs_Runs).rep (fun w => K w ∧ Hs [.ext bs25 J26] w) c29 x23.1 := f28
  refine Stg_stg ?_ ?_
  ·
    refine ReOk_cons rfl rfl (VG_v rfl (VS_val (VS_load rfl rfl) rfl)) ?_
    exact ReOk_nil
  refine NewOk_cons rfl rfl (VG_v rfl (VS_move rfl)) ?_
  refine NewOk_cons rfl rfl (VG_v rfl (VS_extract rfl rfl)) ?_
  refine NewOk_cons rfl rfl (VG_v rfl (VS_extract rfl rfl)) ?_
  refine NewOk_cons rfl rfl (VG_v rfl (VS_nilCheck rfl)) ?_
  refine NewOk_cons rfl rfl (VG_v rfl (VS_field0 rfl)) ?_
  refine NewOk_nil ?_
  obtain ⟨c31, hc31, f32⟩ : ∃ cc, splice cs0 1 c29 = cc ∧ (L_pool_Pool).rep (fun w => K w ∧ Hs [.ext bs25 J26] w) cc x30 := ⟨_, rfl, by rw [hx30]; exact P_pool_Pool_free.set (Lay.mono _ ent f0) (Lay.mono _ ent f28)⟩
  refine Stg_none rfl (RG_x rfl (RX_stN c29 P_pool_Pool_free (v := x23.1) (r := f0) (rv := ((Lay.mono _ ent f28) : (L_runs_Runs).rep (fun w => K w ∧ Hs [.ext bs25 J26] w) c29 x23.1)) rfl rfl rfl rfl hc31)) (fun _ _ => ?_) Stg_no
  refine Stg_fin ?_ ?_
  ·
    refine ReOk_cons rfl rfl (VG_v rfl (VS_val (VS_extract rfl rfl) rfl)) ?_
    exact ReOk_nil
  refine NewOk_nil ?_
  replace h := Option.some.inj h
  subst h
  refine WQ_bundle (R := [.ext bs25 J26]) (H' := [.cells q0 159 c31, .cells q1 24 [Ptr q0 0], .cells q2 3 ((LI .i64).enc a2)]) (ks := [0, 1, 2, 3]) rfl (by decide) ?_
  have p33 : (L_pool_Pool).rep (fun w => K w ∧ (Hs [.ext (blks [.ext bs25 J26]) (Hs [.ext bs25 J26])]) w) c31 x30 := Lay.mono _ ent f32
  exact WQ_end (.tuple #[], [.cells q0 159 c31, .cells q1 24 [Ptr q0 0], .cells q2 3 ((LI .i64).enc a2)], blks [.ext bs25 J26], Hs [.ext bs25 J26]) rfl .nil ⟨_, rfl, rfl, p33⟩ rfl (ks := [0, 1, 2, 3]) rfl (by decide)
def pool_Pool_lent__pool_Pool_Back_1_at0 (n : Nat) (a0 : pool_Pool) (a1 : Int) (a2_1 : Int) : Option (Int × pool_Pool) :=
  cn ((decide (a1 < 0) || decide (a0.n ≤ a1))) (
  some (2, a0)) (
  bd (runs_Runs_Has n a0.free a1) fun x24 =>
  cn (x24) (
  some (12, a0)) (
  gu (inb a1 64) <|
  bd (pool_Pool_Back_1__in__at0 n a0 (Int.toNat a1) a2_1) fun x27 =>
  some (0, x27)))
theorem c_pool_Pool_lent__pool_Pool_Back_1_at0 {n : Nat} {a0 : pool_Pool} {a1 : Int} {a2_1 : Int} {r : Int × pool_Pool} {K : World → Prop} [Stable K] {q0 : Nat} {cs0 : List Value} (f0 : (L_pool_Pool).rep K cs0 a0) {q2_0 : Nat} {q2_1 : Nat} (h : pool_Pool_lent__pool_Pool_Back_1_at0 n a0 a1 a2_1 = some r) : FnC Try.prog 86 [Ptr q0 0, .int .i64 a1, .func (.func 89) #[] #[Ptr q2_0 0, Ptr q2_1 0]] K [.cells q0 159 cs0, .cells q2_0 24 [Ptr q0 0], .cells q2_1 3 ((LI .i64).enc a2_1)] (fun J v ho => ∃ o0, v = (.int .i64 r.1) ∧ ho = [.cells q0 159 o0, .cells q2_0 24 [Ptr q0 0], .cells q2_1 3 ((LI .i64).enc a2_1)] ∧ (L_pool_Pool).rep (fun w => K w ∧ J w) o0 (r.2)) := by
  unfold pool_Pool_lent__pool_Pool_Back_1_at0 at h
  refine fn_of Try.func86 (by kernel_rfl) rfl Try.ntmps86 rfl (fun cx hbs hpre hro => ?_)
  haveI := knf_fut hbs hpre
  refine WP_seq ?_
  refine WP_region ?_
  refine WL_v rfl (VS_assign rfl) ?_
  refine WL_nil ?_
  refine WQ_then ?_
  refine WP_seq ?_
  refine WP_block ?_
  refine WP_seq ?_
  refine WP_region ?_
  refine WL_v rfl (VS_move rfl) ?_
  refine WL_v rfl (VS_eqlP (by kernel_rfl) rfl rfl) ?_
  refine WL_v rfl (VS_assign rfl) ?_
  refine WL_nil ?_
  refine WQ_then ?_
  refine WP_false rfl ?_
  refine WP_seq ?_
  refine WP_region ?_
  refine WL_v rfl (VS_move rfl) ?_
  refine WL_v rfl (VS_lss rfl rfl) ?_
  refine WL_v rfl (VS_move rfl) ?_
  refine WL_g (Gd_b rfl rfl) rfl (fun hb => VS_move rfl) ?_
  refine WL_g (Gd_b rfl rfl) rfl (fun hb => VS_move rfl) ?_
  refine WL_g (Gd_b rfl rfl) rfl (fun hb => VS_nilCheck (gev rfl hb)) ?_
  refine WL_g (Gd_b rfl rfl) rfl (fun hb => VS_field0 (gev rfl hb)) ?_
  refine WL_g (Gd_b rfl rfl) rfl (fun hb => VS_load (gev rfl hb) (P_pool_Pool_n.int f0)) ?_
  refine WL_g (Gd_b rfl rfl) rfl (fun hb => VS_geq (gev rfl hb) (gev rfl hb)) ?_
  refine WL_v rfl (VS_or rfl rfl) ?_
  refine WL_v rfl (VS_assign rfl) ?_
  refine WL_nil ?_
  refine WQ_then ?_
  refine WP_if rfl (fun hc => ?_) (fun hc => ?_)
  ·
    replace h := cn_t hc h
    refine WP_seq ?_
    refine WP_region ?_
    refine WL_v rfl (VS_assign rfl) ?_
    refine WL_nil ?_
    refine WQ_then ?_
    refine WP_ret ?_
    refine WQ_block_ret ?_
    refine WQ_then_ret ?_
    replace h := Option.some.inj h
    subst h
    refine WQ_bundle (R := []) (H' := [.cells q0 159 cs0, .cells q2_0 24 [Ptr q0 0], .cells q2_1 3 ((LI .i64).enc a2_1)]) (ks := [0, 1, 2]) rfl (by decide) ?_
    have p21 : (L_pool_Pool).rep (fun w => K w ∧ (Hs [.ext (blks []) (Hs [])]) w) cs0 a0 := Lay.mono _ ent f0
    exact WQ_ret (.int .i64 2, [.cells q0 159 cs0, .cells q2_0 24 [Ptr q0 0], .cells q2_1 3 ((LI .i64).enc a2_1)], blks [], Hs []) rfl (.tmp rfl .nil) ⟨_, rfl, rfl, p21⟩ rfl (ks := [0, 1, 2, 3]) rfl (by decide)
  ·
    replace h := cn_f hc h
    refine WP_seq ?_
    obtain ⟨x24, hx24, h⟩ := bd_e h
    refine WP_region ?_
    refine WL_v rfl (VS_move rfl) ?_
    refine WL_v rfl (VS_nilCheck rfl) ?_
    refine WL_v rfl (VS_field0 rfl) ?_
    obtain ⟨c22, hc22, f23⟩ := rep_ex (P_pool_Pool_free.get f0)
    refine WL_v rfl (VS_loadpart rfl hc22 (Lay.len _ f23)) ?_
    refine WL_v rfl (VS_move rfl) ?_
    refine WL_v rfl (VS_call (c_runs_Runs_Has (K := K) (Lay.mono _ ent f23) hx24) rfl kn) ?_
    refine WL_v rfl (VS_assign rfl) ?_
    refine WL_nil ?_
    refine WQ_then ?_
    refine WP_if rfl (fun hc => ?_) (fun hc => ?_)
    ·
      replace h := cn_t hc h
      refine WP_seq ?_
      refine WP_region ?_
      refine WL_v rfl (VS_assign rfl) ?_
      refine WL_nil ?_
      refine WQ_then ?_
      refine WP_ret ?_
      refine WQ_block_ret ?_
      refine WQ_then_ret ?_
      replace h := Option.some.inj h
      subst h
      refine WQ_bundle (R := []) (H' := [.cells q0 159 cs0, .cells q2_0 24 [Ptr q0 0], .cells q2_1 3 ((LI .i64).enc a2_1)]) (ks := [0, 1, 2]) rfl (by decide) ?_
      have p25 : (L_pool_Pool).rep (fun w => K w ∧ (Hs [.ext (blks []) (Hs [])]) w) cs0 a0 := Lay.mono _ ent f0
      exact WQ_ret (.int .i64 12, [.cells q0 159 cs0, .cells q2_0 24 [Ptr q0 0], .cells q2_1 3 ((LI .i64).enc a2_1)], blks [], Hs []) rfl (.tmp rfl .nil) ⟨_, rfl, rfl, p25⟩ rfl (ks := [0, 1, 2, 3]) rfl (by decide)
    ·
      replace h := cn_f hc h
      refine WP_skip ?_
      refine WQ_block ?_
      refine WQ_then ?_
      refine WP_seq ?_
      obtain ⟨hg26, h⟩ := gu_e h
      obtain ⟨x27, hx27, h⟩ := bd_e h
      refine WP_region ?_
      refine WL_v rfl (VS_move rfl) ?_
      refine WL_v rfl (VS_move rfl) ?_
      refine WL_v rfl (VS_move rfl) ?_
      refine WL_v rfl (VS_nilCheck rfl) ?_
      refine WL_v rfl (VS_field0 rfl) ?_
      refine WL_v rfl (VS_index (m := (Int.toNat a1)) rfl rfl (inb_e hg26).1 (inb_e hg26).2) ?_
      refine WL_x rfl (RX_callH (K := K) (Hin := [.cells q0 159 cs0, .cells q2_0 24 [Ptr q0 0], .cells q2_1 3 ((LI .i64).enc a2_1)]) (rest := []) (ks := [0, 1, 2]) (c_pool_Pool_Back_1__in__at0 (K := K) (Lay.mono _ ent f0) (inb_e hg26).2 hx27) rfl rfl rfl rfl (by decide)) (fun ⟨w28, ho34, bs29, J30⟩ hp31 => ?_)
      obtain ⟨c33, rfl, rfl, f32⟩ := hp31
      replace f32 : (L_pool_Pool).rep (fun w => K w ∧ Hs [.ext bs29 J30] w) c33 x27 := f32
      dsimp only [List.cons_append, List.nil_append]
      refine WL_nil ?_
      refine WQ_then ?_
      refine WP_seq ?_
      refine WP_region ?_
      refine WL_v rfl (VS_assign rfl) ?_
      refine WL_nil ?_
      refine WQ_then ?_
      refine WP_ret ?_
      replace h := Option.some.inj h
      subst h
      refine WQ_bundle (R := [.ext bs29 J30]) (H' := [.cells q0 159 c33, .cells q2_0 24 [Ptr q0 0], .cells q2_1 3 ((LI .i64).enc a2_1)]) (ks := [0, 1, 2, 3]) rfl (by decide) ?_
      have p35 : (L_pool_Pool).rep (fun w => K w ∧ (Hs [.ext (blks [.ext bs29 J30]) (Hs [.ext bs29 J30])]) w) c33 x27 := Lay.mono _ ent f32
      exact WQ_ret (.int .i64 0, [.cells q0 159 c33, .cells q2_0 24 [Ptr q0 0], .cells q2_1 3 ((LI .i64).enc a2_1)], blks [.ext bs29 J30], Hs [.ext bs29 J30]) rfl (.tmp rfl .nil) ⟨_, rfl, rfl, p35⟩ rfl (ks := [0, 1, 2, 3]) rfl (by decide)
def pool_Pool_Back (n : Nat) (a0 : pool_Pool) (a1 : Int) : Option (Int × pool_Pool) :=
  bd (pool_Pool_lent__pool_Pool_Back_1_at0 n a0 a1 a1) fun x21 =>
  some (x21.1, x21.2)
theorem c_pool_Pool_Back {n : Nat} {a0 : pool_Pool} {a1 : Int} {r : Int × pool_Pool} {K : World → Prop} [Stable K] {q0 : Nat} {cs0 : List Value} (f0 : (L_pool_Pool).rep K cs0 a0) (h : pool_Pool_Back n a0 a1 = some r) : FnC Try.prog 20 [Ptr q0 0, .int .i64 a1] K [.cells q0 159 cs0] (fun J v ho => ∃ o0, v = (.int .i64 r.1) ∧ ho = [.cells q0 159 o0] ∧ (L_pool_Pool).rep (fun w => K w ∧ J w) o0 (r.2)) := by
  unfold pool_Pool_Back at h
  refine fn_of Try.func20 (by kernel_rfl) rfl Try.ntmps20 rfl (fun cx hbs hpre hro => ?_)
  haveI := knf_fut hbs hpre
  refine WP_seq ?_
  refine WP_region ?_
  refine WL_x rfl (RX_box1 rfl rfl) (fun b2 _ => ?_)
  refine WL_x rfl (RX_boxL (LI .i64) a1 rfl rfl) (fun b3 _ => ?_)
  refine WL_v rfl (VS_assign rfl) ?_
  refine WL_nil ?_
  refine WQ_then ?_
  refine WP_seq ?_
  obtain ⟨x21, hx21, h⟩ := bd_e h
  refine WP_region ?_
  refine WL_v rfl (VS_load rfl rfl) ?_
  refine WL_v rfl (VS_ldi (Pth.id (L := (LI .i64))) rfl) ?_
  refine WL_v rfl (VS_makeFunc rfl) ?_
  refine WL_x rfl (RX_callH (K := K) (Hin := [.cells q0 159 cs0, .cells b2 24 [Ptr q0 0], .cells b3 3 ((LI .i64).enc a1)]) (rest := []) (ks := [2, 1, 0]) (c_pool_Pool_lent__pool_Pool_Back_1_at0 (K := K) (Lay.mono _ ent f0) hx21) rfl rfl rfl rfl (by decide)) (fun ⟨w22, ho28, bs23, J24⟩ hp25 => ?_)
  obtain ⟨c27, rfl, rfl, f26⟩ := hp25
  replace f26 : (L_pool_Pool).rep (fun w => K w ∧ Hs [.ext bs23 J24] w) c27 x21.2 := f26
  dsimp only [List.cons_append, List.nil_append]
  refine WL_v rfl (VS_assign rfl) ?_
  refine WL_nil ?_
  refine WQ_then ?_
  refine WP_ret ?_
  replace h := Option.some.inj h
  subst h
  refine WQ_bundle (R := [.ext bs23 J24]) (H' := [.cells q0 159 c27]) (ks := [0, 1]) rfl (by decide) ?_
  have p29 : (L_pool_Pool).rep (fun w => K w ∧ (Hs [.ext (blks [.ext bs23 J24]) (Hs [.ext bs23 J24])]) w) c27 x21.2 := Lay.mono _ ent f26
  exact WQ_ret (.int .i64 x21.1, [.cells q0 159 c27], blks [.ext bs23 J24], Hs [.ext bs23 J24]) rfl (.tmp rfl .nil) ⟨_, rfl, rfl, p29⟩ rfl (ks := [0, 1]) rfl (by decide)
def pool_Pool_Read_1__in (n : Nat) (a0 : pool_Pool) (i10 : Nat) (i20 : Nat) (a1 : Int) : Option Int :=
  lt (((a0.bytes i10) i20) : Int) fun x21 =>
  some x21
theorem c_pool_Pool_Read_1__in {n : Nat} {a0 : pool_Pool} {i10 : Nat} {i20 : Nat} {a1 : Int} {r : Int} {K : World → Prop} {q0 : Nat} {cs0 : List Value} (f0 : (L_pool_Pool).rep K cs0 a0) (hi10 : i10 < 64) (hi20 : i20 < 32) {q1 : Nat} (h : pool_Pool_Read_1__in n a0 i10 i20 a1 = some r) : Bw.Fn (α := Unit) Try.prog 92 [Ptr q0 ((2 + i10 * 32) + i20 * 1), Ptr q1 0] (Fut (blks [.cells q0 159 cs0, .cells q1 5 ((LI .u8).enc a1)]) K) [.cells q0 159 cs0, .cells q1 5 ((LI .u8).enc a1)] (fun _ => True) (fun _ => (.tuple #[])) (fun _ => [.cells q0 159 cs0, .cells q1 5 ((LI .u8).enc r)]) := by
  unfold pool_Pool_Read_1__in at h
  refine fn_of Try.func92 (by kernel_rfl) rfl Try.ntmps92 rfl (fun cx hbs hpre hro => ?_)
  haveI := knf_fut hbs hpre
  obtain ⟨x21, hx21, h⟩ := lt_e h
  refine WP_region ?_
  refine WL_v rfl (VS_move rfl) ?_
  refine WL_v rfl (VS_nilCheck rfl) ?_
  refine WL_v rfl (VS_load rfl (((P_pool_Pool_bytes.comp (Pth.idx (L := (LA (LI .u8) 32)) (m := 64) (k := 32) (i10) hi10 rfl)).comp (Pth.idx (L := (LI .u8)) (m := 32) (k := 1) (i20) hi20 rfl)).int f0)) ?_
  refine WL_x0 (RX_st (M := (LI .u8)) (Pth.id (L := (LI .u8))) ((a0.bytes i10) i20) x21 hx21 rfl rfl rfl rfl) (fun _ _ => ?_)
  refine WL_nil ?_
  replace h := Option.some.inj h
  subst h
  exact WQ_end () rfl .nil trivial rfl (ks := [0, 1]) rfl (by decide)
def pool_Pool_byte_1__in__pool_Pool_Read_1 (n : Nat) (a0 : pool_Pool) (i10 : Nat) (a1_c_0 : Int) (a2 : Int) : Option Int :=
  gu (inb (Int.tmod a2 32) 32) <|
  bd (pool_Pool_Read_1__in n a0 i10 (Int.toNat (Int.tmod a2 32)) a1_c_0) fun x22 =>
  some x22
theorem c_pool_Pool_byte_1__in__pool_Pool_Read_1 {n : Nat} {a0 : pool_Pool} {i10 : Nat} {a1_c_0 : Int} {a2 : Int} {r : Int} {K : World → Prop} {q0 : Nat} {cs0 : List Value} (f0 : (L_pool_Pool).rep K cs0 a0) (hi10 : i10 < 64) {q1 : Nat} {q1_c_0 : Nat} {q2 : Nat} (h : pool_Pool_byte_1__in__pool_Pool_Read_1 n a0 i10 a1_c_0 a2 = some r) : Bw.Fn (α := Unit) Try.prog 148 [Ptr q0 (2 + i10 * 32), Ptr q1 0, Ptr q2 0] (Fut (blks [.cells q0 159 cs0, .cells q1 173 [.func (.func 92) #[] #[Ptr q1_c_0 0]], .cells q1_c_0 5 ((LI .u8).enc a1_c_0), .cells q2 3 ((LI .i64).enc a2)]) K) [.cells q0 159 cs0, .cells q1 173 [.func (.func 92) #[] #[Ptr q1_c_0 0]], .cells q1_c_0 5 ((LI .u8).enc a1_c_0), .cells q2 3 ((LI .i64).enc a2)] (fun _ => True) (fun _ => (.tuple #[])) (fun _ => [.cells q0 159 cs0, .cells q1 173 [.func (.func 92) #[] #[Ptr q1_c_0 0]], .cells q1_c_0 5 ((LI .u8).enc r), .cells q2 3 ((LI .i64).enc a2)]) := by
  unfold pool_Pool_byte_1__in__pool_Pool_Read_1 at h
  refine fn_of Try.func148 (by kernel_rfl) rfl Try.ntmps148 rfl (fun cx hbs hpre hro => ?_)
  haveI := knf_fut hbs hpre
  obtain ⟨hg21, h⟩ := gu_e h
  obtain ⟨x22, hx22, h⟩ := bd_e h
  refine WP_draw mixed (.stg [] [(0, [1]), (1, [0]), (2, [2]), (3, [6]), (4, [5]), (5, [7, 8])] (.alt 6 [4, 9] (.fin [] []) .no)) (by kernel_rfl) ?_
  refine Stg_stg ?_ ?_
  · exact ReOk_nil
  refine NewOk_cons rfl rfl (VG_v rfl (VS_load rfl rfl)) ?_
  refine NewOk_cons rfl rfl (VG_v rfl (VS_move rfl)) ?_
  refine NewOk_cons rfl rfl (VG_v rfl (VS_ldi (Pth.id (L := (LI .i64))) rfl)) ?_
  refine NewOk_cons rfl rfl (VG_v rfl (VS_rem rfl rfl (by decide) rfl)) ?_
  refine NewOk_cons rfl rfl (VG_v rfl (VS_nilCheck rfl)) ?_
  refine NewOk_cons rfl rfl (VG_v rfl (VS_index (m := (Int.toNat (Int.tmod a2 32))) rfl rfl (inb_e hg21).1 (inb_e hg21).2)) ?_
  refine NewOk_nil ?_
  refine Stg_some rfl rfl (RG_x rfl (RX_callH (K := K) (Hin := [.cells q0 159 cs0, .cells q1_c_0 5 ((LI .u8).enc a1_c_0)]) (rest := [.cells q1 173 [.func (.func 92) #[] #[Ptr q1_c_0 0]], .cells q2 3 ((LI .i64).enc a2)]) (ks := [0, 2, 1, 3]) (c_pool_Pool_Read_1__in (K := K) (Lay.mono _ ent f0) hi10 (inb_e hg21).2 hx22) rfl rfl rfl rfl (by decide))) (fun _ _ => ?_) Stg_no
  dsimp only [List.cons_append, List.nil_append]
  refine Stg_fin ?_ ?_
  · exact ReOk_nil
  refine NewOk_nil ?_
  replace h := Option.some.inj h
  subst h
  exact WQ_end () rfl .nil trivial rfl (ks := [0, 2, 1, 3]) rfl (by decide)
def pool_Pool_lent__pool_Pool_byte_1_pool_Pool_Read_1 (n : Nat) (a0 : pool_Pool) (a1 : Int) (a2_0_c_0 : Int) (a2_1 : Int) : Option (Int × Int) :=
  cn ((decide (a1 < 0) || decide (a0.n ≤ a1))) (
  some (2, a2_0_c_0)) (
  bd (runs_Runs_Has n a0.free a1) fun x23 =>
  cn (x23) (
  some (12, a2_0_c_0)) (
  gu (inb a1 64) <|
  bd (pool_Pool_byte_1__in__pool_Pool_Read_1 n a0 (Int.toNat a1) a2_0_c_0 a2_1) fun x25 =>
  some (0, x25)))
theorem c_pool_Pool_lent__pool_Pool_byte_1_pool_Pool_Read_1 {n : Nat} {a0 : pool_Pool} {a1 : Int} {a2_0_c_0 : Int} {a2_1 : Int} {r : Int × Int} {K : World → Prop} [Stable K] {q0 : Nat} {cs0 : List Value} (f0 : (L_pool_Pool).rep K cs0 a0) {q2_0 : Nat} {q2_0_c_0 : Nat} {q2_1 : Nat} (h : pool_Pool_lent__pool_Pool_byte_1_pool_Pool_Read_1 n a0 a1 a2_0_c_0 a2_1 = some r) : Bw.Fn (α := Unit) Try.prog 86 [Ptr q0 0, .int .i64 a1, .func (.func 148) #[] #[Ptr q2_0 0, Ptr q2_1 0]] (Fut (blks [.cells q0 159 cs0, .cells q2_0 173 [.func (.func 92) #[] #[Ptr q2_0_c_0 0]], .cells q2_0_c_0 5 ((LI .u8).enc a2_0_c_0), .cells q2_1 3 ((LI .i64).enc a2_1)]) K) [.cells q0 159 cs0, .cells q2_0 173 [.func (.func 92) #[] #[Ptr q2_0_c_0 0]], .cells q2_0_c_0 5 ((LI .u8).enc a2_0_c_0), .cells q2_1 3 ((LI .i64).enc a2_1)] (fun _ => True) (fun _ => (.int .i64 r.1)) (fun _ => [.cells q0 159 cs0, .cells q2_0 173 [.func (.func 92) #[] #[Ptr q2_0_c_0 0]], .cells q2_0_c_0 5 ((LI .u8).enc r.2), .cells q2_1 3 ((LI .i64).enc a2_1)]) := by
  unfold pool_Pool_lent__pool_Pool_byte_1_pool_Pool_Read_1 at h
  refine fn_of Try.func86 (by kernel_rfl) rfl Try.ntmps86 rfl (fun cx hbs hpre hro => ?_)
  haveI := knf_fut hbs hpre
  refine WP_seq ?_
  refine WP_region ?_
  refine WL_v rfl (VS_assign rfl) ?_
  refine WL_nil ?_
  refine WQ_then ?_
  refine WP_seq ?_
  refine WP_block ?_
  refine WP_seq ?_
  refine WP_region ?_
  refine WL_v rfl (VS_move rfl) ?_
  refine WL_v rfl (VS_eqlP (by kernel_rfl) rfl rfl) ?_
  refine WL_v rfl (VS_assign rfl) ?_
  refine WL_nil ?_
  refine WQ_then ?_
  refine WP_false rfl ?_
  refine WP_seq ?_
  refine WP_region ?_
  refine WL_v rfl (VS_move rfl) ?_
  refine WL_v rfl (VS_lss rfl rfl) ?_
  refine WL_v rfl (VS_move rfl) ?_
  refine WL_g (Gd_b rfl rfl) rfl (fun hb => VS_move rfl) ?_
  refine WL_g (Gd_b rfl rfl) rfl (fun hb => VS_move rfl) ?_
  refine WL_g (Gd_b rfl rfl) rfl (fun hb => VS_nilCheck (gev rfl hb)) ?_
  refine WL_g (Gd_b rfl rfl) rfl (fun hb => VS_field0 (gev rfl hb)) ?_
  refine WL_g (Gd_b rfl rfl) rfl (fun hb => VS_load (gev rfl hb) (P_pool_Pool_n.int f0)) ?_
  refine WL_g (Gd_b rfl rfl) rfl (fun hb => VS_geq (gev rfl hb) (gev rfl hb)) ?_
  refine WL_v rfl (VS_or rfl rfl) ?_
  refine WL_v rfl (VS_assign rfl) ?_
  refine WL_nil ?_
  refine WQ_then ?_
  refine WP_if rfl (fun hc => ?_) (fun hc => ?_)
  ·
    replace h := cn_t hc h
    refine WP_seq ?_
    refine WP_region ?_
    refine WL_v rfl (VS_assign rfl) ?_
    refine WL_nil ?_
    refine WQ_then ?_
    refine WP_ret ?_
    refine WQ_block_ret ?_
    refine WQ_then_ret ?_
    replace h := Option.some.inj h
    subst h
    exact WQ_ret () rfl (.tmp rfl .nil) trivial rfl (ks := [0, 1, 2, 3]) rfl (by decide)
  ·
    replace h := cn_f hc h
    refine WP_seq ?_
    obtain ⟨x23, hx23, h⟩ := bd_e h
    refine WP_region ?_
    refine WL_v rfl (VS_move rfl) ?_
    refine WL_v rfl (VS_nilCheck rfl) ?_
    refine WL_v rfl (VS_field0 rfl) ?_
    obtain ⟨c21, hc21, f22⟩ := rep_ex (P_pool_Pool_free.get f0)
    refine WL_v rfl (VS_loadpart rfl hc21 (Lay.len _ f22)) ?_
    refine WL_v rfl (VS_move rfl) ?_
    refine WL_v rfl (VS_call (c_runs_Runs_Has (K := K) (Lay.mono _ ent f22) hx23) rfl kn) ?_
    refine WL_v rfl (VS_assign rfl) ?_
    refine WL_nil ?_
    refine WQ_then ?_
    refine WP_if rfl (fun hc => ?_) (fun hc => ?_)
    ·
      replace h := cn_t hc h
      refine WP_seq ?_
      refine WP_region ?_
      refine WL_v rfl (VS_assign rfl) ?_
      refine WL_nil ?_
      refine WQ_then ?_
      refine WP_ret ?_
      refine WQ_block_ret ?_
      refine WQ_then_ret ?_
      replace h := Option.some.inj h
      subst h
      exact WQ_ret () rfl (.tmp rfl .nil) trivial rfl (ks := [0, 1, 2, 3]) rfl (by decide)
    ·
      replace h := cn_f hc h
      refine WP_skip ?_
      refine WQ_block ?_
      refine WQ_then ?_
      refine WP_seq ?_
      obtain ⟨hg24, h⟩ := gu_e h
      obtain ⟨x25, hx25, h⟩ := bd_e h
      refine WP_region ?_
      refine WL_v rfl (VS_move rfl) ?_
      refine WL_v rfl (VS_move rfl) ?_
      refine WL_v rfl (VS_move rfl) ?_
      refine WL_v rfl (VS_nilCheck rfl) ?_
      refine WL_v rfl (VS_field0 rfl) ?_
      refine WL_v rfl (VS_index (m := (Int.toNat a1)) rfl rfl (inb_e hg24).1 (inb_e hg24).2) ?_
      refine WL_x rfl (RX_callH (K := K) (Hin := [.cells q0 159 cs0, .cells q2_0 173 [.func (.func 92) #[] #[Ptr q2_0_c_0 0]], .cells q2_0_c_0 5 ((LI .u8).enc a2_0_c_0), .cells q2_1 3 ((LI .i64).enc a2_1)]) (rest := []) (ks := [0, 1, 2, 3]) (c_pool_Pool_byte_1__in__pool_Pool_Read_1 (K := K) (Lay.mono _ ent f0) (inb_e hg24).2 hx25) rfl rfl rfl rfl (by decide)) (fun _ _ => ?_)
      dsimp only [List.cons_append, List.nil_append]
      refine WL_nil ?_
      refine WQ_then ?_
      refine WP_seq ?_
      refine WP_region ?_
      refine WL_v rfl (VS_assign rfl) ?_
      refine WL_nil ?_
      refine WQ_then ?_
      refine WP_ret ?_
      replace h := Option.some.inj h
      subst h
      exact WQ_ret () rfl (.tmp rfl .nil) trivial rfl (ks := [0, 1, 2, 3]) rfl (by decide)
def pool_Pool_byte__pool_Pool_Read_1 (n : Nat) (a0 : pool_Pool) (a1 : Int) (a2_0 : Int) : Option (Int × Int) :=
  cn ((true && decide (a1 < 0))) (
  some (2, a2_0)) (
  bd (pool_Pool_lent__pool_Pool_byte_1_pool_Pool_Read_1 n a0 (wr .i64 (Int.tdiv a1 32)) a2_0 a1) fun x21 =>
  some (x21.1, x21.2))
theorem c_pool_Pool_byte__pool_Pool_Read_1 {n : Nat} {a0 : pool_Pool} {a1 : Int} {a2_0 : Int} {r : Int × Int} {K : World → Prop} [Stable K] {q0 : Nat} {cs0 : List Value} (f0 : (L_pool_Pool).rep K cs0 a0) {q2_0 : Nat} (h : pool_Pool_byte__pool_Pool_Read_1 n a0 a1 a2_0 = some r) : Bw.Fn (α := Unit) Try.prog 91 [Ptr q0 0, .int .i64 a1, .func (.func 92) #[] #[Ptr q2_0 0]] (Fut (blks [.cells q0 159 cs0, .cells q2_0 5 ((LI .u8).enc a2_0)]) K) [.cells q0 159 cs0, .cells q2_0 5 ((LI .u8).enc a2_0)] (fun _ => True) (fun _ => (.int .i64 r.1)) (fun _ => [.cells q0 159 cs0, .cells q2_0 5 ((LI .u8).enc r.2)]) := by
  unfold pool_Pool_byte__pool_Pool_Read_1 at h
  refine fn_of Try.func91 (by kernel_rfl) rfl Try.ntmps91 rfl (fun cx hbs hpre hro => ?_)
  haveI := knf_fut hbs hpre
  refine WP_seq ?_
  refine WP_region ?_
  refine WL_x rfl (RX_boxL (LI .i64) a1 rfl rfl) (fun b4 _ => ?_)
  refine WL_x rfl (RX_box1 rfl rfl) (fun b5 _ => ?_)
  refine WL_v rfl (VS_assign rfl) ?_
  refine WL_nil ?_
  refine WQ_then ?_
  refine WP_seq ?_
  refine WP_seq ?_
  refine WP_region ?_
  refine WL_v rfl (VS_move rfl) ?_
  refine WL_v rfl (VS_neqP (by kernel_rfl) rfl rfl) ?_
  refine WL_v rfl (VS_move rfl) ?_
  refine WL_g (Gd_b rfl rfl) rfl (fun hb => VS_ldi (Pth.id (L := (LI .i64))) rfl) ?_
  refine WL_g (Gd_b rfl rfl) rfl (fun hb => VS_lss (gev rfl hb) rfl) ?_
  refine WL_v rfl (VS_and rfl rfl) ?_
  refine WL_nil ?_
  refine WQ_then ?_
  refine WP_if rfl (fun hc => ?_) (fun hc => ?_)
  ·
    replace h := cn_t hc h
    refine WP_seq ?_
    refine WP_region ?_
    refine WL_v rfl (VS_assign rfl) ?_
    refine WL_nil ?_
    refine WQ_then ?_
    refine WP_ret ?_
    refine WQ_then_ret ?_
    replace h := Option.some.inj h
    subst h
    exact WQ_ret () rfl (.tmp rfl .nil) trivial rfl (ks := [2, 3]) rfl (by decide)
  ·
    replace h := cn_f hc h
    refine WP_skip ?_
    refine WQ_then ?_
    refine WP_seq ?_
    obtain ⟨x21, hx21, h⟩ := bd_e h
    refine WP_region ?_
    refine WL_v rfl (VS_move rfl) ?_
    refine WL_v rfl (VS_ldi (Pth.id (L := (LI .i64))) rfl) ?_
    refine WL_v rfl (VS_quo rfl rfl (by decide) rfl) ?_
    refine WL_v rfl (VS_makeFunc rfl) ?_
    refine WL_x rfl (RX_callH (K := K) (Hin := [.cells q0 159 cs0, .cells b5 173 [.func (.func 92) #[] #[Ptr q2_0 0]], .cells q2_0 5 ((LI .u8).enc a2_0), .cells b4 3 ((LI .i64).enc a1)]) (rest := []) (ks := [2, 0, 3, 1]) (c_pool_Pool_lent__pool_Pool_byte_1_pool_Pool_Read_1 (K := K) (Lay.mono _ ent f0) hx21) rfl rfl rfl rfl (by decide)) (fun _ _ => ?_)
    dsimp only [List.cons_append, List.nil_append]
    refine WL_v rfl (VS_assign rfl) ?_
    refine WL_nil ?_
    refine WQ_then ?_
    refine WP_ret ?_
    replace h := Option.some.inj h
    subst h
    exact WQ_ret () rfl (.tmp rfl .nil) trivial rfl (ks := [0, 2]) rfl (by decide)
def pool_Pool_Read (n : Nat) (a0 : pool_Pool) (a1 : Int) : Option (Int × Int) :=
  bd (pool_Pool_byte__pool_Pool_Read_1 n a0 a1 0) fun x21 =>
  some (x21.2, x21.1)
theorem c_pool_Pool_Read {n : Nat} {a0 : pool_Pool} {a1 : Int} {r : Int × Int} {K : World → Prop} [Stable K] {q0 : Nat} {cs0 : List Value} (f0 : (L_pool_Pool).rep K cs0 a0) (h : pool_Pool_Read n a0 a1 = some r) : Bw.Fn (α := Unit) Try.prog 22 [Ptr q0 0, .int .i64 a1] (Fut (blks [.cells q0 159 cs0]) K) [.cells q0 159 cs0] (fun _ => True) (fun _ => (.tuple #[.int .u8 r.1, .int .i64 r.2])) (fun _ => [.cells q0 159 cs0]) := by
  unfold pool_Pool_Read at h
  refine fn_of Try.func22 (by kernel_rfl) rfl Try.ntmps22 rfl (fun cx hbs hpre hro => ?_)
  haveI := knf_fut hbs hpre
  refine WP_seq ?_
  refine WP_region ?_
  refine WL_x rfl (RX_allocL (L := (LI .u8)) (z := 0) ⟨by kernel_rfl⟩) (fun b4 _ => ?_)
  refine WL_v rfl (VS_assign rfl) ?_
  refine WL_nil ?_
  refine WQ_then ?_
  refine WP_seq ?_
  obtain ⟨x21, hx21, h⟩ := bd_e h
  refine WP_region ?_
  refine WL_v rfl (VS_move rfl) ?_
  refine WL_v rfl (VS_move rfl) ?_
  refine WL_v rfl (VS_makeFunc rfl) ?_
  refine WL_x rfl (RX_callH (K := K) (Hin := [.cells q0 159 cs0, .cells b4 5 ((LI .u8).enc 0)]) (rest := []) (ks := [1, 0]) (c_pool_Pool_byte__pool_Pool_Read_1 (K := K) (Lay.mono _ ent f0) hx21) rfl rfl rfl rfl (by decide)) (fun _ _ => ?_)
  dsimp only [List.cons_append, List.nil_append]
  refine WL_v rfl (VS_assign rfl) ?_
  refine WL_nil ?_
  refine WQ_then ?_
  refine WP_seq ?_
  refine WP_region ?_
  refine WL_v rfl (VS_ldi (Pth.id (L := (LI .u8))) rfl) ?_
  refine WL_v rfl (VS_move rfl) ?_
  refine WL_x0 (RX_st (M := (LI .u8)) (Pth.id (L := (LI .u8))) x21.2 x21.2 rfl rfl rfl rfl rfl) (fun _ _ => ?_)
  refine WL_v rfl (VS_assign rfl) ?_
  refine WL_nil ?_
  refine WQ_then ?_
  refine WP_ret ?_
  replace h := Option.some.inj h
  subst h
  exact WQ_ret () rfl (.one rfl inferInstance inferInstance rfl (.tmp rfl .nil)) trivial rfl (ks := [0]) rfl (by decide)
def pool_Pool_Clear_1__in (n : Nat) (a0 : pool_Pool) (i10 : Nat) : Option pool_Pool :=
  lt ({ a0 with bytes := (upd a0.bytes i10 (fun _ => 0)) } : pool_Pool) fun x21 =>
  some x21
theorem c_pool_Pool_Clear_1__in {n : Nat} {a0 : pool_Pool} {i10 : Nat} {r : pool_Pool} {K : World → Prop} {q0 : Nat} {cs0 : List Value} (f0 : (L_pool_Pool).rep K cs0 a0) (hi10 : i10 < 64) (h : pool_Pool_Clear_1__in n a0 i10 = some r) : FnC Try.prog 87 [Ptr q0 (2 + i10 * 32)] K [.cells q0 159 cs0] (fun J v ho => ∃ o0, v = (.tuple #[]) ∧ ho = [.cells q0 159 o0] ∧ (L_pool_Pool).rep (fun w => K w ∧ J w) o0 (r)) := by
  unfold pool_Pool_Clear_1__in at h
  refine fn_of Try.func87 (by kernel_rfl) rfl Try.ntmps87 rfl (fun cx hbs hpre hro => ?_)
  haveI := knf_fut hbs hpre
  obtain ⟨x21, hx21, h⟩ := lt_e h
  refine WP_region ?_
  refine WL_v rfl (VS_move rfl) ?_
  refine WL_v rfl (VS_nilCheck rfl) ?_
  refine WL_v rfl (VS_slaall (n := 32) (e := 5) (sz := 1)  rfl) ?_
  obtain ⟨c22, hc22, f23⟩ : ∃ cc, splice cs0 (2 + i10 * 32) ((LA (LI .u8) 32).enc (fun _ => 0)) = cc ∧ (L_pool_Pool).rep K cc x21 := ⟨_, rfl, by rw [hx21]; exact (P_pool_Pool_bytes.comp (Pth.idx (L := (LA (LI .u8) 32)) (m := 64) (k := 32) (i10) hi10 rfl)).set f0 (FlatL.iff.2 rfl)⟩
  refine WL_x0 (RX_clearN (M := (LI .u8)) (z0 := 0) (e := 5) (P_pool_Pool_bytes.comp (Pth.idx (L := (LA (LI .u8) 32)) (m := 64) (k := 32) (i10) hi10 rfl)) rfl rfl rfl rfl f0 (by kernel_rfl) ⟨by kernel_rfl⟩ rfl (by decide) hc22) (fun _ _ => ?_)
  refine WL_nil ?_
  replace h := Option.some.inj h
  subst h
  refine WQ_bundle (R := []) (H' := [.cells q0 159 c22]) (ks := [0]) rfl (by decide) ?_
  have p24 : (L_pool_Pool).rep (fun w => K w ∧ (Hs [.ext (blks []) (Hs [])]) w) c22 x21 := Lay.mono _ ent f23
  exact WQ_end (.tuple #[], [.cells q0 159 c22], blks [], Hs []) rfl .nil ⟨_, rfl, rfl, p24⟩ rfl (ks := [0, 1]) rfl (by decide)
def pool_Pool_lent__pool_Pool_Clear_1 (n : Nat) (a0 : pool_Pool) (a1 : Int) : Option (Int × pool_Pool) :=
  cn ((decide (a1 < 0) || decide (a0.n ≤ a1))) (
  some (2, a0)) (
  bd (runs_Runs_Has n a0.free a1) fun x24 =>
  cn (x24) (
  some (12, a0)) (
  gu (inb a1 64) <|
  bd (pool_Pool_Clear_1__in n a0 (Int.toNat a1)) fun x27 =>
  some (0, x27)))
theorem c_pool_Pool_lent__pool_Pool_Clear_1 {n : Nat} {a0 : pool_Pool} {a1 : Int} {r : Int × pool_Pool} {K : World → Prop} [Stable K] {q0 : Nat} {cs0 : List Value} (f0 : (L_pool_Pool).rep K cs0 a0) (h : pool_Pool_lent__pool_Pool_Clear_1 n a0 a1 = some r) : FnC Try.prog 86 [Ptr q0 0, .int .i64 a1, .func (.func 87) #[] #[]] K [.cells q0 159 cs0] (fun J v ho => ∃ o0, v = (.int .i64 r.1) ∧ ho = [.cells q0 159 o0] ∧ (L_pool_Pool).rep (fun w => K w ∧ J w) o0 (r.2)) := by
  unfold pool_Pool_lent__pool_Pool_Clear_1 at h
  refine fn_of Try.func86 (by kernel_rfl) rfl Try.ntmps86 rfl (fun cx hbs hpre hro => ?_)
  haveI := knf_fut hbs hpre
  refine WP_seq ?_
  refine WP_region ?_
  refine WL_v rfl (VS_assign rfl) ?_
  refine WL_nil ?_
  refine WQ_then ?_
  refine WP_seq ?_
  refine WP_block ?_
  refine WP_seq ?_
  refine WP_region ?_
  refine WL_v rfl (VS_move rfl) ?_
  refine WL_v rfl (VS_eqlP (by kernel_rfl) rfl rfl) ?_
  refine WL_v rfl (VS_assign rfl) ?_
  refine WL_nil ?_
  refine WQ_then ?_
  refine WP_false rfl ?_
  refine WP_seq ?_
  refine WP_region ?_
  refine WL_v rfl (VS_move rfl) ?_
  refine WL_v rfl (VS_lss rfl rfl) ?_
  refine WL_v rfl (VS_move rfl) ?_
  refine WL_g (Gd_b rfl rfl) rfl (fun hb => VS_move rfl) ?_
  refine WL_g (Gd_b rfl rfl) rfl (fun hb => VS_move rfl) ?_
  refine WL_g (Gd_b rfl rfl) rfl (fun hb => VS_nilCheck (gev rfl hb)) ?_
  refine WL_g (Gd_b rfl rfl) rfl (fun hb => VS_field0 (gev rfl hb)) ?_
  refine WL_g (Gd_b rfl rfl) rfl (fun hb => VS_load (gev rfl hb) (P_pool_Pool_n.int f0)) ?_
  refine WL_g (Gd_b rfl rfl) rfl (fun hb => VS_geq (gev rfl hb) (gev rfl hb)) ?_
  refine WL_v rfl (VS_or rfl rfl) ?_
  refine WL_v rfl (VS_assign rfl) ?_
  refine WL_nil ?_
  refine WQ_then ?_
  refine WP_if rfl (fun hc => ?_) (fun hc => ?_)
  ·
    replace h := cn_t hc h
    refine WP_seq ?_
    refine WP_region ?_
    refine WL_v rfl (VS_assign rfl) ?_
    refine WL_nil ?_
    refine WQ_then ?_
    refine WP_ret ?_
    refine WQ_block_ret ?_
    refine WQ_then_ret ?_
    replace h := Option.some.inj h
    subst h
    refine WQ_bundle (R := []) (H' := [.cells q0 159 cs0]) (ks := [0]) rfl (by decide) ?_
    have p21 : (L_pool_Pool).rep (fun w => K w ∧ (Hs [.ext (blks []) (Hs [])]) w) cs0 a0 := Lay.mono _ ent f0
    exact WQ_ret (.int .i64 2, [.cells q0 159 cs0], blks [], Hs []) rfl (.tmp rfl .nil) ⟨_, rfl, rfl, p21⟩ rfl (ks := [0, 1]) rfl (by decide)
  ·
    replace h := cn_f hc h
    refine WP_seq ?_
    obtain ⟨x24, hx24, h⟩ := bd_e h
    refine WP_region ?_
    refine WL_v rfl (VS_move rfl) ?_
    refine WL_v rfl (VS_nilCheck rfl) ?_
    refine WL_v rfl (VS_field0 rfl) ?_
    obtain ⟨c22, hc22, f23⟩ := rep_ex (P_pool_Pool_free.get f0)
    refine WL_v rfl (VS_loadpart rfl hc22 (Lay.len _ f23)) ?_
    refine WL_v rfl (VS_move rfl) ?_
    refine WL_v rfl (VS_call (c_runs_Runs_Has (K := K) (Lay.mono _ ent f23) hx24) rfl kn) ?_
    refine WL_v rfl (VS_assign rfl) ?_
    refine WL_nil ?_
    refine WQ_then ?_
    refine WP_if rfl (fun hc => ?_) (fun hc => ?_)
    ·
      replace h := cn_t hc h
      refine WP_seq ?_
      refine WP_region ?_
      refine WL_v rfl (VS_assign rfl) ?_
      refine WL_nil ?_
      refine WQ_then ?_
      refine WP_ret ?_
      refine WQ_block_ret ?_
      refine WQ_then_ret ?_
      replace h := Option.some.inj h
      subst h
      refine WQ_bundle (R := []) (H' := [.cells q0 159 cs0]) (ks := [0]) rfl (by decide) ?_
      have p25 : (L_pool_Pool).rep (fun w => K w ∧ (Hs [.ext (blks []) (Hs [])]) w) cs0 a0 := Lay.mono _ ent f0
      exact WQ_ret (.int .i64 12, [.cells q0 159 cs0], blks [], Hs []) rfl (.tmp rfl .nil) ⟨_, rfl, rfl, p25⟩ rfl (ks := [0, 1]) rfl (by decide)
    ·
      replace h := cn_f hc h
      refine WP_skip ?_
      refine WQ_block ?_
      refine WQ_then ?_
      refine WP_seq ?_
      obtain ⟨hg26, h⟩ := gu_e h
      obtain ⟨x27, hx27, h⟩ := bd_e h
      refine WP_region ?_
      refine WL_v rfl (VS_move rfl) ?_
      refine WL_v rfl (VS_move rfl) ?_
      refine WL_v rfl (VS_move rfl) ?_
      refine WL_v rfl (VS_nilCheck rfl) ?_
      refine WL_v rfl (VS_field0 rfl) ?_
      refine WL_v rfl (VS_index (m := (Int.toNat a1)) rfl rfl (inb_e hg26).1 (inb_e hg26).2) ?_
      refine WL_x rfl (RX_callH (K := K) (Hin := [.cells q0 159 cs0]) (rest := []) (ks := [0]) (c_pool_Pool_Clear_1__in (K := K) (Lay.mono _ ent f0) (inb_e hg26).2 hx27) rfl rfl rfl rfl (by decide)) (fun ⟨w28, ho34, bs29, J30⟩ hp31 => ?_)
      obtain ⟨c33, rfl, rfl, f32⟩ := hp31
      replace f32 : (L_pool_Pool).rep (fun w => K w ∧ Hs [.ext bs29 J30] w) c33 x27 := f32
      dsimp only [List.cons_append, List.nil_append]
      refine WL_nil ?_
      refine WQ_then ?_
      refine WP_seq ?_
      refine WP_region ?_
      refine WL_v rfl (VS_assign rfl) ?_
      refine WL_nil ?_
      refine WQ_then ?_
      refine WP_ret ?_
      replace h := Option.some.inj h
      subst h
      refine WQ_bundle (R := [.ext bs29 J30]) (H' := [.cells q0 159 c33]) (ks := [0, 1]) rfl (by decide) ?_
      have p35 : (L_pool_Pool).rep (fun w => K w ∧ (Hs [.ext (blks [.ext bs29 J30]) (Hs [.ext bs29 J30])]) w) c33 x27 := Lay.mono _ ent f32
      exact WQ_ret (.int .i64 0, [.cells q0 159 c33], blks [.ext bs29 J30], Hs [.ext bs29 J30]) rfl (.tmp rfl .nil) ⟨_, rfl, rfl, p35⟩ rfl (ks := [0, 1]) rfl (by decide)
def pool_Pool_Clear (n : Nat) (a0 : pool_Pool) (a1 : Int) : Option (Int × pool_Pool) :=
  bd (pool_Pool_lent__pool_Pool_Clear_1 n a0 a1) fun x21 =>
  some (x21.1, x21.2)
theorem c_pool_Pool_Clear {n : Nat} {a0 : pool_Pool} {a1 : Int} {r : Int × pool_Pool} {K : World → Prop} [Stable K] {q0 : Nat} {cs0 : List Value} (f0 : (L_pool_Pool).rep K cs0 a0) (h : pool_Pool_Clear n a0 a1 = some r) : FnC Try.prog 18 [Ptr q0 0, .int .i64 a1] K [.cells q0 159 cs0] (fun J v ho => ∃ o0, v = (.int .i64 r.1) ∧ ho = [.cells q0 159 o0] ∧ (L_pool_Pool).rep (fun w => K w ∧ J w) o0 (r.2)) := by
  unfold pool_Pool_Clear at h
  refine fn_of Try.func18 (by kernel_rfl) rfl Try.ntmps18 rfl (fun cx hbs hpre hro => ?_)
  haveI := knf_fut hbs hpre
  refine WP_seq ?_
  refine WP_region ?_
  refine WL_v rfl (VS_assign rfl) ?_
  refine WL_nil ?_
  refine WQ_then ?_
  refine WP_seq ?_
  obtain ⟨x21, hx21, h⟩ := bd_e h
  refine WP_region ?_
  refine WL_v rfl (VS_move rfl) ?_
  refine WL_v rfl (VS_move rfl) ?_
  refine WL_x rfl (RX_callH (K := K) (Hin := [.cells q0 159 cs0]) (rest := []) (ks := [0]) (c_pool_Pool_lent__pool_Pool_Clear_1 (K := K) (Lay.mono _ ent f0) hx21) rfl rfl rfl rfl (by decide)) (fun ⟨w22, ho28, bs23, J24⟩ hp25 => ?_)
  obtain ⟨c27, rfl, rfl, f26⟩ := hp25
  replace f26 : (L_pool_Pool).rep (fun w => K w ∧ Hs [.ext bs23 J24] w) c27 x21.2 := f26
  dsimp only [List.cons_append, List.nil_append]
  refine WL_v rfl (VS_assign rfl) ?_
  refine WL_nil ?_
  refine WQ_then ?_
  refine WP_ret ?_
  replace h := Option.some.inj h
  subst h
  refine WQ_bundle (R := [.ext bs23 J24]) (H' := [.cells q0 159 c27]) (ks := [0, 1]) rfl (by decide) ?_
  have p29 : (L_pool_Pool).rep (fun w => K w ∧ (Hs [.ext (blks [.ext bs23 J24]) (Hs [.ext bs23 J24])]) w) c27 x21.2 := Lay.mono _ ent f26
  exact WQ_ret (.int .i64 x21.1, [.cells q0 159 c27], blks [.ext bs23 J24], Hs [.ext bs23 J24]) rfl (.tmp rfl .nil) ⟨_, rfl, rfl, p29⟩ rfl (ks := [0, 1]) rfl (by decide)
def pool_Pool_Pages (n : Nat) (a0 : pool_Pool) : Option Int :=
  some a0.n
theorem c_pool_Pool_Pages {n : Nat} {a0 : pool_Pool} {r : Int} {K : World → Prop} {q0 : Nat} {cs0 : List Value} (f0 : (L_pool_Pool).rep K cs0 a0) (h : pool_Pool_Pages n a0 = some r) : Bw.Fn (α := Unit) Try.prog 27 [Ptr q0 0] (Fut (blks [.cells q0 159 cs0]) K) [.cells q0 159 cs0] (fun _ => True) (fun _ => (.int .i64 r)) (fun _ => [.cells q0 159 cs0]) := by
  unfold pool_Pool_Pages at h
  refine fn_of Try.func27 (by kernel_rfl) rfl Try.ntmps27 rfl (fun cx hbs hpre hro => ?_)
  haveI := knf_fut hbs hpre
  refine WP_seq ?_
  refine WP_region ?_
  refine WL_v rfl (VS_assign rfl) ?_
  refine WL_nil ?_
  refine WQ_then ?_
  refine WP_seq ?_
  refine WP_seq ?_
  refine WP_region ?_
  refine WL_v rfl (VS_move rfl) ?_
  refine WL_v rfl (VS_eqlP (by kernel_rfl) rfl rfl) ?_
  refine WL_nil ?_
  refine WQ_then ?_
  refine WP_false rfl ?_
  refine WP_skip ?_
  refine WQ_then ?_
  refine WP_seq ?_
  refine WP_region ?_
  refine WL_v rfl (VS_move rfl) ?_
  refine WL_v rfl (VS_nilCheck rfl) ?_
  refine WL_v rfl (VS_field0 rfl) ?_
  refine WL_v rfl (VS_load rfl (P_pool_Pool_n.int f0)) ?_
  refine WL_v rfl (VS_assign rfl) ?_
  refine WL_nil ?_
  refine WQ_then ?_
  refine WP_ret ?_
  replace h := Option.some.inj h
  subst h
  exact WQ_ret () rfl (.tmp rfl .nil) trivial rfl (ks := [0]) rfl (by decide)
def pool_Pool_Free (n : Nat) (a0 : pool_Pool) : Option runs_Runs :=
  some a0.free
theorem c_pool_Pool_Free {n : Nat} {a0 : pool_Pool} {r : runs_Runs} {K : World → Prop} {q0 : Nat} {cs0 : List Value} (f0 : (L_pool_Pool).rep K cs0 a0) (h : pool_Pool_Free n a0 = some r) : FnC Try.prog 25 [Ptr q0 0] K [.cells q0 159 cs0] (fun J v ho => ∃ u0, v = (.agg u0.toArray) ∧ ho = [.cells q0 159 cs0] ∧ (L_runs_Runs).rep (fun w => K w ∧ J w) u0 (r)) := by
  unfold pool_Pool_Free at h
  refine fn_of Try.func25 (by kernel_rfl) rfl Try.ntmps25 rfl (fun cx hbs hpre hro => ?_)
  haveI := knf_fut hbs hpre
  refine WP_seq ?_
  refine WP_region ?_
  refine WL_x rfl (RX_alloc (hz := (⟨by kernel_rfl⟩ : TZero Try.prog 46 zc_runs_Runs))) (fun b2 _ => ?_)
  refine WL_nil ?_
  refine WQ_then ?_
  refine WP_seq ?_
  refine WP_seq ?_
  refine WP_region ?_
  refine WL_v rfl (VS_move rfl) ?_
  refine WL_v rfl (VS_eqlP (by kernel_rfl) rfl rfl) ?_
  refine WL_nil ?_
  refine WQ_then ?_
  refine WP_false rfl ?_
  refine WP_skip ?_
  refine WQ_then ?_
  refine WP_seq ?_
  refine WP_region ?_
  refine WL_v rfl (VS_move rfl) ?_
  refine WL_v rfl (VS_nilCheck rfl) ?_
  refine WL_v rfl (VS_field0 rfl) ?_
  obtain ⟨c21, hc21, f22⟩ := rep_ex (P_pool_Pool_free.get f0)
  refine WL_v rfl (VS_loadpart rfl hc21 (Lay.len _ f22)) ?_
  obtain ⟨c23, hc23, f24⟩ : ∃ cc, splice zc_runs_Runs 0 c21 = cc ∧ (L_runs_Runs).rep K cc a0.free := ⟨_, rfl, (Pth.id (L := L_runs_Runs)).set (Lay.mono _ ent (show (L_runs_Runs).rep (Hs []) zc_runs_Runs Z_runs_Runs from zr_runs_Runs)) (Lay.mono _ ent f22)⟩
  refine WL_x0 (RX_stN c21 (Pth.id (L := L_runs_Runs)) (v := a0.free) (r := (show (L_runs_Runs).rep (Hs []) zc_runs_Runs Z_runs_Runs from zr_runs_Runs)) (rv := ((Lay.mono _ ent f22) : (L_runs_Runs).rep K c21 a0.free)) rfl rfl rfl rfl hc23) (fun _ _ => ?_)
  refine WL_nil ?_
  refine WQ_then ?_
  refine WP_ret ?_
  replace h := Option.some.inj h
  subst h
  refine WQ_bundle (R := []) (H' := [.cells b2 46 c23, .cells q0 159 cs0]) (ks := [0, 1]) rfl (by decide) ?_
  have p25 : (L_runs_Runs).rep (fun w => K w ∧ (Hs [.ext (blks []) (Hs [])]) w) c23 a0.free := Lay.mono _ ent f24
  exact WQ_ret (.agg c23.toArray, [.cells q0 159 cs0], blks [], Hs []) rfl (.agg rfl inferInstance inferInstance (Lay.len _ f24) .nil) ⟨_, rfl, rfl, p25⟩ rfl (ks := [0, 2]) rfl (by decide)
def law02_wakes (n : Nat)  : Option Bool :=
  bd (pool_New n 4) fun x21 =>
  oc x21.1 (
  cn (((x21.2 != 0) || true)) (
  some false) (
  none)) fun px21 =>
  cn (((x21.2 != 0) || false)) (
  some false) (
  bd (pool_Pool_Claim n px21 2) fun x27 =>
  bd (pool_Pool_Claim n x27.2.2 1) fun x35 =>
  bd (pool_Pool_Write n x35.2.2 33 7) fun x43 =>
  bd (pool_Pool_Back n x43.2 0) fun x51 =>
  bd (pool_Pool_Claim n x51.2 2) fun x59 =>
  bd (pool_Pool_Claim n x59.2.2 1) fun x67 =>
  bd (pool_Pool_Read n x67.2.2 33) fun x75 =>
  bd (pool_Pool_Clear n x67.2.2 1) fun x76 =>
  bd (pool_Pool_Read n x76.2 33) fun x84 =>
  cl ((((((((((((x27.1 == 0) && (x35.1 == 2)) && (x43.1 == 0)) && (x51.1 == 0)) && (x59.2.1 == 6)) && (x67.1 == 0)) && (x67.2.1 == 0)) && (x75.1 == 7)) && (x75.2 == 0)) && (x76.1 == 0)) && (x84.1 == 0)) == true) (pool_Pool_Pages n x76.2) default fun x85 =>
  cl (((((((((((((x27.1 == 0) && (x35.1 == 2)) && (x43.1 == 0)) && (x51.1 == 0)) && (x59.2.1 == 6)) && (x67.1 == 0)) && (x67.2.1 == 0)) && (x75.1 == 7)) && (x75.2 == 0)) && (x76.1 == 0)) && (x84.1 == 0)) && (x85 == 4)) == true) (pool_Pool_Free n x76.2) default fun x86 =>
  cl (((((((((((((x27.1 == 0) && (x35.1 == 2)) && (x43.1 == 0)) && (x51.1 == 0)) && (x59.2.1 == 6)) && (x67.1 == 0)) && (x67.2.1 == 0)) && (x75.1 == 7)) && (x75.2 == 0)) && (x76.1 == 0)) && (x84.1 == 0)) && (x85 == 4)) == true) (runs_Runs_Mask n x86) default fun x92 =>
  some (((((((((((((x27.1 == 0) && (x35.1 == 2)) && (x43.1 == 0)) && (x51.1 == 0)) && (x59.2.1 == 6)) && (x67.1 == 0)) && (x67.2.1 == 0)) && (x75.1 == 7)) && (x75.2 == 0)) && (x76.1 == 0)) && (x84.1 == 0)) && (x85 == 4)) && (x92 == 8)))
theorem c_law02_wakes {n : Nat}  {r : Bool}  (h : law02_wakes n  = some r) : FnV Try.prog 13 [] (.bool r) := by
  unfold law02_wakes at h
  refine fn_of Try.func13 (by kernel_rfl) rfl Try.ntmps13 rfl (fun cx hbs hpre hro => ?_)
  refine WP_seq ?_
  refine WP_region ?_
  refine WL_v rfl (VS_assign rfl) ?_
  refine WL_nil ?_
  refine WQ_then ?_
  refine WP_seq ?_
  obtain ⟨x21, hx21, h⟩ := bd_e h
  rcases hqx21 : x21.1 with _ | px21
  ·
    replace h := oc_n hqx21 h
    refine WP_region ?_
    refine WL_x rfl (RX_call (FnP.nil (g := (fun v => .tuple #[v, .int .i64 x21.2])) (c_pool_New hx21) hqx21) rfl (fun _ _ _ => trivial)) (fun _ _ => ?_)
    dsimp only [List.cons_append, List.nil_append]
    refine WL_v rfl (VS_move rfl) ?_
    refine WL_v rfl (VS_extract rfl rfl) ?_
    refine WL_v rfl (VS_extract rfl rfl) ?_
    refine WL_v rfl (VS_assign rfl) ?_
    refine WL_v rfl (VS_assign rfl) ?_
    refine WL_nil ?_
    refine WQ_then ?_
    refine WP_seq ?_
    refine WP_seq ?_
    refine WP_region ?_
    refine WL_v rfl (VS_move rfl) ?_
    refine WL_v rfl (VS_neq rfl rfl) ?_
    refine WL_v rfl (VS_move rfl) ?_
    refine WL_g (Gd_b rfl rfl) rfl (fun hb => VS_move rfl) ?_
    refine WL_g (Gd_b rfl rfl) rfl (fun hb => VS_eqlP0 (by kernel_rfl) (gev rfl hb) rfl) ?_
    refine WL_v rfl (VS_or rfl rfl) ?_
    refine WL_nil ?_
    refine WQ_then ?_
    refine WP_if rfl (fun hc => ?_) (fun hc => ?_)
    ·
      replace h := cn_t hc h
      refine WP_seq ?_
      refine WP_region ?_
      refine WL_v rfl (VS_assign rfl) ?_
      refine WL_nil ?_
      refine WQ_then ?_
      refine WP_ret ?_
      refine WQ_then_ret ?_
      replace h := Option.some.inj h
      subst h
      exact WQ_ret () rfl (.tmp rfl .nil) trivial rfl (ks := []) rfl (by decide)
    ·
      replace h := cn_f hc h
      refine WP_skip ?_
      refine WQ_then ?_
      refine WP_seq ?_
      cases h
  ·
    replace h := oc_s hqx21 h
    refine WP_region ?_
    refine WL_x rfl (RX_call (FnP.some (g := (fun v => .tuple #[v, .int .i64 x21.2])) (c_pool_New hx21) hqx21) rfl (fun _ _ _ => trivial)) (fun ⟨b22, c23, bs24, J25⟩ f26 => ?_)
    dsimp only [List.cons_append, List.nil_append]
    dsimp only at f26
    refine WL_v rfl (VS_move rfl) ?_
    refine WL_v rfl (VS_extract rfl rfl) ?_
    refine WL_v rfl (VS_extract rfl rfl) ?_
    refine WL_v rfl (VS_assign rfl) ?_
    refine WL_v rfl (VS_assign rfl) ?_
    refine WL_nil ?_
    refine WQ_then ?_
    refine WP_seq ?_
    refine WP_seq ?_
    refine WP_region ?_
    refine WL_v rfl (VS_move rfl) ?_
    refine WL_v rfl (VS_neq rfl rfl) ?_
    refine WL_v rfl (VS_move rfl) ?_
    refine WL_g (Gd_b rfl rfl) rfl (fun hb => VS_move rfl) ?_
    refine WL_g (Gd_b rfl rfl) rfl (fun hb => VS_eqlP (by kernel_rfl) (gev rfl hb) rfl) ?_
    refine WL_v rfl (VS_or rfl rfl) ?_
    refine WL_nil ?_
    refine WQ_then ?_
    refine WP_if rfl (fun hc => ?_) (fun hc => ?_)
    ·
      replace h := cn_t hc h
      refine WP_seq ?_
      refine WP_region ?_
      refine WL_v rfl (VS_assign rfl) ?_
      refine WL_nil ?_
      refine WQ_then ?_
      refine WP_ret ?_
      refine WQ_then_ret ?_
      replace h := Option.some.inj h
      subst h
      exact WQ_ret () rfl (.tmp rfl .nil) trivial rfl (ks := []) rfl (by decide)
    ·
      replace h := cn_f hc h
      refine WP_skip ?_
      refine WQ_then ?_
      refine WP_seq ?_
      obtain ⟨x27, hx27, h⟩ := bd_e h
      refine WP_region ?_
      refine WL_v rfl (VS_move rfl) ?_
      refine WL_x rfl (RX_callH (K := (Hs [.ext bs24 J25])) (Hin := [.cells b22 159 c23]) (rest := [.ext bs24 J25]) (ks := [0, 1]) (c_pool_Pool_Claim (K := (Hs [.ext bs24 J25])) (Lay.mono _ ent f26) hx27) rfl rfl rfl rfl (by decide)) (fun ⟨w28, ho34, bs29, J30⟩ hp31 => ?_)
      obtain ⟨c33, rfl, rfl, f32⟩ := hp31
      replace f32 : (L_pool_Pool).rep (fun w => (Hs [.ext bs24 J25]) w ∧ Hs [.ext bs29 J30] w) c33 x27.2.2 := f32
      dsimp only [List.cons_append, List.nil_append]
      refine WL_v rfl (VS_move rfl) ?_
      refine WL_v rfl (VS_extract rfl rfl) ?_
      refine WL_v rfl (VS_extract rfl rfl) ?_
      refine WL_v rfl (VS_assign rfl) ?_
      refine WL_v rfl (VS_assign rfl) ?_
      refine WL_nil ?_
      refine WQ_then ?_
      refine WP_seq ?_
      obtain ⟨x35, hx35, h⟩ := bd_e h
      refine WP_region ?_
      refine WL_v rfl (VS_move rfl) ?_
      refine WL_x rfl (RX_callH (K := (Hs [.ext bs24 J25, .ext bs29 J30])) (Hin := [.cells b22 159 c33]) (rest := [.ext bs29 J30, .ext bs24 J25]) (ks := [1, 0, 2]) (c_pool_Pool_Claim (K := (Hs [.ext bs24 J25, .ext bs29 J30])) (Lay.mono _ ent f32) hx35) rfl rfl rfl rfl (by decide)) (fun ⟨w36, ho42, bs37, J38⟩ hp39 => ?_)
      obtain ⟨c41, rfl, rfl, f40⟩ := hp39
      replace f40 : (L_pool_Pool).rep (fun w => (Hs [.ext bs24 J25, .ext bs29 J30]) w ∧ Hs [.ext bs37 J38] w) c41 x35.2.2 := f40
      dsimp only [List.cons_append, List.nil_append]
      refine WL_v rfl (VS_move rfl) ?_
      refine WL_v rfl (VS_extract rfl rfl) ?_
      refine WL_v rfl (VS_extract rfl rfl) ?_
      refine WL_v rfl (VS_assign rfl) ?_
      refine WL_v rfl (VS_assign rfl) ?_
      refine WL_nil ?_
      refine WQ_then ?_
      refine WP_seq ?_
      obtain ⟨x43, hx43, h⟩ := bd_e h
      refine WP_region ?_
      refine WL_v rfl (VS_move rfl) ?_
      refine WL_x rfl (RX_callH (K := (Hs [.ext bs24 J25, .ext bs29 J30, .ext bs37 J38])) (Hin := [.cells b22 159 c41]) (rest := [.ext bs37 J38, .ext bs29 J30, .ext bs24 J25]) (ks := [1, 0, 2, 3]) (c_pool_Pool_Write (K := (Hs [.ext bs24 J25, .ext bs29 J30, .ext bs37 J38])) (Lay.mono _ ent f40) hx43) rfl rfl rfl rfl (by decide)) (fun ⟨w44, ho50, bs45, J46⟩ hp47 => ?_)
      obtain ⟨c49, rfl, rfl, f48⟩ := hp47
      replace f48 : (L_pool_Pool).rep (fun w => (Hs [.ext bs24 J25, .ext bs29 J30, .ext bs37 J38]) w ∧ Hs [.ext bs45 J46] w) c49 x43.2 := f48
      dsimp only [List.cons_append, List.nil_append]
      refine WL_v rfl (VS_assign rfl) ?_
      refine WL_nil ?_
      refine WQ_then ?_
      refine WP_seq ?_
      obtain ⟨x51, hx51, h⟩ := bd_e h
      refine WP_region ?_
      refine WL_v rfl (VS_move rfl) ?_
      refine WL_x rfl (RX_callH (K := (Hs [.ext bs24 J25, .ext bs29 J30, .ext bs37 J38, .ext bs45 J46])) (Hin := [.cells b22 159 c49]) (rest := [.ext bs45 J46, .ext bs37 J38, .ext bs29 J30, .ext bs24 J25]) (ks := [1, 0, 2, 3, 4]) (c_pool_Pool_Back (K := (Hs [.ext bs24 J25, .ext bs29 J30, .ext bs37 J38, .ext bs45 J46])) (Lay.mono _ ent f48) hx51) rfl rfl rfl rfl (by decide)) (fun ⟨w52, ho58, bs53, J54⟩ hp55 => ?_)
      obtain ⟨c57, rfl, rfl, f56⟩ := hp55
      replace f56 : (L_pool_Pool).rep (fun w => (Hs [.ext bs24 J25, .ext bs29 J30, .ext bs37 J38, .ext bs45 J46]) w ∧ Hs [.ext bs53 J54] w) c57 x51.2 := f56
      dsimp only [List.cons_append, List.nil_append]
      refine WL_v rfl (VS_assign rfl) ?_
      refine WL_nil ?_
      refine WQ_then ?_
      refine WP_seq ?_
      obtain ⟨x59, hx59, h⟩ := bd_e h
      refine WP_region ?_
      refine WL_v rfl (VS_move rfl) ?_
      refine WL_x rfl (RX_callH (K := (Hs [.ext bs24 J25, .ext bs29 J30, .ext bs37 J38, .ext bs45 J46, .ext bs53 J54])) (Hin := [.cells b22 159 c57]) (rest := [.ext bs53 J54, .ext bs45 J46, .ext bs37 J38, .ext bs29 J30, .ext bs24 J25]) (ks := [1, 0, 2, 3, 4, 5]) (c_pool_Pool_Claim (K := (Hs [.ext bs24 J25, .ext bs29 J30, .ext bs37 J38, .ext bs45 J46, .ext bs53 J54])) (Lay.mono _ ent f56) hx59) rfl rfl rfl rfl (by decide)) (fun ⟨w60, ho66, bs61, J62⟩ hp63 => ?_)
      obtain ⟨c65, rfl, rfl, f64⟩ := hp63
      replace f64 : (L_pool_Pool).rep (fun w => (Hs [.ext bs24 J25, .ext bs29 J30, .ext bs37 J38, .ext bs45 J46, .ext bs53 J54]) w ∧ Hs [.ext bs61 J62] w) c65 x59.2.2 := f64
      dsimp only [List.cons_append, List.nil_append]
      refine WL_v rfl (VS_move rfl) ?_
      refine WL_v rfl (VS_extract rfl rfl) ?_
      refine WL_v rfl (VS_extract rfl rfl) ?_
      refine WL_v rfl (VS_assign rfl) ?_
      refine WL_v rfl (VS_assign rfl) ?_
      refine WL_nil ?_
      refine WQ_then ?_
      refine WP_seq ?_
      obtain ⟨x67, hx67, h⟩ := bd_e h
      refine WP_region ?_
      refine WL_v rfl (VS_move rfl) ?_
      refine WL_x rfl (RX_callH (K := (Hs [.ext bs24 J25, .ext bs29 J30, .ext bs37 J38, .ext bs45 J46, .ext bs53 J54, .ext bs61 J62])) (Hin := [.cells b22 159 c65]) (rest := [.ext bs61 J62, .ext bs53 J54, .ext bs45 J46, .ext bs37 J38, .ext bs29 J30, .ext bs24 J25]) (ks := [1, 0, 2, 3, 4, 5, 6]) (c_pool_Pool_Claim (K := (Hs [.ext bs24 J25, .ext bs29 J30, .ext bs37 J38, .ext bs45 J46, .ext bs53 J54, .ext bs61 J62])) (Lay.mono _ ent f64) hx67) rfl rfl rfl rfl (by decide)) (fun ⟨w68, ho74, bs69, J70⟩ hp71 => ?_)
      obtain ⟨c73, rfl, rfl, f72⟩ := hp71
      replace f72 : (L_pool_Pool).rep (fun w => (Hs [.ext bs24 J25, .ext bs29 J30, .ext bs37 J38, .ext bs45 J46, .ext bs53 J54, .ext bs61 J62]) w ∧ Hs [.ext bs69 J70] w) c73 x67.2.2 := f72
      dsimp only [List.cons_append, List.nil_append]
      refine WL_v rfl (VS_move rfl) ?_
      refine WL_v rfl (VS_extract rfl rfl) ?_
      refine WL_v rfl (VS_extract rfl rfl) ?_
      refine WL_v rfl (VS_assign rfl) ?_
      refine WL_v rfl (VS_assign rfl) ?_
      refine WL_nil ?_
      refine WQ_then ?_
      refine WP_seq ?_
      obtain ⟨x75, hx75, h⟩ := bd_e h
      refine WP_region ?_
      refine WL_v rfl (VS_move rfl) ?_
      refine WL_x rfl (RX_callH (K := (Hs [.ext bs24 J25, .ext bs29 J30, .ext bs37 J38, .ext bs45 J46, .ext bs53 J54, .ext bs61 J62, .ext bs69 J70])) (Hin := [.cells b22 159 c73]) (rest := [.ext bs69 J70, .ext bs61 J62, .ext bs53 J54, .ext bs45 J46, .ext bs37 J38, .ext bs29 J30, .ext bs24 J25]) (ks := [1, 0, 2, 3, 4, 5, 6, 7]) (c_pool_Pool_Read (K := (Hs [.ext bs24 J25, .ext bs29 J30, .ext bs37 J38, .ext bs45 J46, .ext bs53 J54, .ext bs61 J62, .ext bs69 J70])) (Lay.mono _ ent f72) hx75) rfl rfl rfl rfl (by decide)) (fun _ _ => ?_)
      dsimp only [List.cons_append, List.nil_append]
      refine WL_v rfl (VS_move rfl) ?_
      refine WL_v rfl (VS_extract rfl rfl) ?_
      refine WL_v rfl (VS_extract rfl rfl) ?_
      refine WL_v rfl (VS_assign rfl) ?_
      refine WL_v rfl (VS_assign rfl) ?_
      refine WL_nil ?_
      refine WQ_then ?_
      refine WP_seq ?_
      obtain ⟨x76, hx76, h⟩ := bd_e h
      refine WP_region ?_
      refine WL_v rfl (VS_move rfl) ?_
      refine WL_x rfl (RX_callH (K := (Hs [.ext bs24 J25, .ext bs29 J30, .ext bs37 J38, .ext bs45 J46, .ext bs53 J54, .ext bs61 J62, .ext bs69 J70])) (Hin := [.cells b22 159 c73]) (rest := [.ext bs69 J70, .ext bs61 J62, .ext bs53 J54, .ext bs45 J46, .ext bs37 J38, .ext bs29 J30, .ext bs24 J25]) (ks := [0, 1, 2, 3, 4, 5, 6, 7]) (c_pool_Pool_Clear (K := (Hs [.ext bs24 J25, .ext bs29 J30, .ext bs37 J38, .ext bs45 J46, .ext bs53 J54, .ext bs61 J62, .ext bs69 J70])) (Lay.mono _ ent f72) hx76) rfl rfl rfl rfl (by decide)) (fun ⟨w77, ho83, bs78, J79⟩ hp80 => ?_)
      obtain ⟨c82, rfl, rfl, f81⟩ := hp80
      replace f81 : (L_pool_Pool).rep (fun w => (Hs [.ext bs24 J25, .ext bs29 J30, .ext bs37 J38, .ext bs45 J46, .ext bs53 J54, .ext bs61 J62, .ext bs69 J70]) w ∧ Hs [.ext bs78 J79] w) c82 x76.2 := f81
      dsimp only [List.cons_append, List.nil_append]
      refine WL_v rfl (VS_assign rfl) ?_
      refine WL_nil ?_
      refine WQ_then ?_
      refine WP_seq ?_
      obtain ⟨x84, hx84, h⟩ := bd_e h
      refine WP_region ?_
      refine WL_v rfl (VS_move rfl) ?_
      refine WL_x rfl (RX_callH (K := (Hs [.ext bs24 J25, .ext bs29 J30, .ext bs37 J38, .ext bs45 J46, .ext bs53 J54, .ext bs61 J62, .ext bs69 J70, .ext bs78 J79])) (Hin := [.cells b22 159 c82]) (rest := [.ext bs78 J79, .ext bs69 J70, .ext bs61 J62, .ext bs53 J54, .ext bs45 J46, .ext bs37 J38, .ext bs29 J30, .ext bs24 J25]) (ks := [1, 0, 2, 3, 4, 5, 6, 7, 8]) (c_pool_Pool_Read (K := (Hs [.ext bs24 J25, .ext bs29 J30, .ext bs37 J38, .ext bs45 J46, .ext bs53 J54, .ext bs61 J62, .ext bs69 J70, .ext bs78 J79])) (Lay.mono _ ent f81) hx84) rfl rfl rfl rfl (by decide)) (fun _ _ => ?_)
      dsimp only [List.cons_append, List.nil_append]
      refine WL_v rfl (VS_move rfl) ?_
      refine WL_v rfl (VS_extract rfl rfl) ?_
      refine WL_v rfl (VS_extract rfl rfl) ?_
      refine WL_v rfl (VS_assign rfl) ?_
      refine WL_v rfl (VS_assign rfl) ?_
      refine WL_nil ?_
      refine WQ_then ?_
      refine WP_seq ?_
      obtain ⟨x85, hx85, _, h⟩ := cl_e h
      obtain ⟨x86, hx86, _, h⟩ := cl_e h
      obtain ⟨x92, hx92, _, h⟩ := cl_e h
      refine WP_region ?_
      refine WL_v rfl (VS_move rfl) ?_
      refine WL_v rfl (VS_eql rfl rfl) ?_
      refine WL_v rfl (VS_move rfl) ?_
      refine WL_g (Gd_b rfl rfl) rfl (fun hb => VS_move rfl) ?_
      refine WL_g (Gd_b rfl rfl) rfl (fun hb => VS_eql (gev rfl hb) rfl) ?_
      refine WL_v rfl (VS_and rfl rfl) ?_
      refine WL_v rfl (VS_move rfl) ?_
      refine WL_g (Gd_b rfl rfl) rfl (fun hb => VS_move rfl) ?_
      refine WL_g (Gd_b rfl rfl) rfl (fun hb => VS_eql (gev rfl hb) rfl) ?_
      refine WL_v rfl (VS_and rfl rfl) ?_
      refine WL_v rfl (VS_move rfl) ?_
      refine WL_g (Gd_b rfl rfl) rfl (fun hb => VS_move rfl) ?_
      refine WL_g (Gd_b rfl rfl) rfl (fun hb => VS_eql (gev rfl hb) rfl) ?_
      refine WL_v rfl (VS_and rfl rfl) ?_
      refine WL_v rfl (VS_move rfl) ?_
      refine WL_g (Gd_b rfl rfl) rfl (fun hb => VS_move rfl) ?_
      refine WL_g (Gd_b rfl rfl) rfl (fun hb => VS_eql (gev rfl hb) rfl) ?_
      refine WL_v rfl (VS_and rfl rfl) ?_
      refine WL_v rfl (VS_move rfl) ?_
      refine WL_g (Gd_b rfl rfl) rfl (fun hb => VS_move rfl) ?_
      refine WL_g (Gd_b rfl rfl) rfl (fun hb => VS_eql (gev rfl hb) rfl) ?_
      refine WL_v rfl (VS_and rfl rfl) ?_
      refine WL_v rfl (VS_move rfl) ?_
      refine WL_g (Gd_b rfl rfl) rfl (fun hb => VS_move rfl) ?_
      refine WL_g (Gd_b rfl rfl) rfl (fun hb => VS_eql (gev rfl hb) rfl) ?_
      refine WL_v rfl (VS_and rfl rfl) ?_
      refine WL_v rfl (VS_move rfl) ?_
      refine WL_g (Gd_b rfl rfl) rfl (fun hb => VS_move rfl) ?_
      refine WL_g (Gd_b rfl rfl) rfl (fun hb => VS_eql (gev rfl hb) rfl) ?_
      refine WL_v rfl (VS_and rfl rfl) ?_
      refine WL_v rfl (VS_move rfl) ?_
      refine WL_g (Gd_b rfl rfl) rfl (fun hb => VS_move rfl) ?_
      refine WL_g (Gd_b rfl rfl) rfl (fun hb => VS_eql (gev rfl hb) rfl) ?_
      refine WL_v rfl (VS_and rfl rfl) ?_
      refine WL_v rfl (VS_move rfl) ?_
      refine WL_g (Gd_b rfl rfl) rfl (fun hb => VS_move rfl) ?_
      refine WL_g (Gd_b rfl rfl) rfl (fun hb => VS_eql (gev rfl hb) rfl) ?_
      refine WL_v rfl (VS_and rfl rfl) ?_
      refine WL_v rfl (VS_move rfl) ?_
      refine WL_g (Gd_b rfl rfl) rfl (fun hb => VS_move rfl) ?_
      refine WL_g (Gd_b rfl rfl) rfl (fun hb => VS_eql (gev rfl hb) rfl) ?_
      refine WL_v rfl (VS_and rfl rfl) ?_
      refine WL_v rfl (VS_move rfl) ?_
      refine WL_g (Gd_b rfl rfl) rfl (fun hb => VS_move rfl) ?_
      refine WL_callHg (Gd_b rfl rfl) rfl (fun hb => c_pool_Pool_Pages (K := (Hs [.ext bs24 J25, .ext bs29 J30, .ext bs37 J38, .ext bs45 J46, .ext bs53 J54, .ext bs61 J62, .ext bs69 J70, .ext bs78 J79])) (Lay.mono _ ent f81) (hx85 hb)) (fun hb => rfl) (fun hb => (evs_cons (gev rfl hb) rfl)) rfl (Hin := [.cells b22 159 c82]) (rst := [.ext bs78 J79, .ext bs69 J70, .ext bs61 J62, .ext bs53 J54, .ext bs45 J46, .ext bs37 J38, .ext bs29 J30, .ext bs24 J25]) (ks := [0, 1, 2, 3, 4, 5, 6, 7, 8]) rfl (by decide) (fun hb => inferInstance) ?_
      dsimp only [List.cons_append, List.nil_append]
      refine WL_g (Gd_b rfl rfl) rfl (fun hb => VS_eql (gev rfl hb) rfl) ?_
      refine WL_v rfl (VS_and rfl rfl) ?_
      refine WL_v rfl (VS_move rfl) ?_
      refine WL_g (Gd_b rfl rfl) rfl (fun hb => VS_move rfl) ?_
      refine WL_callCg (Gd_b rfl rfl) rfl (fv := (fun c : List Value => .agg c.toArray)) (q := (fun J c => (L_runs_Runs).rep (fun w => (Hs [.ext bs24 J25, .ext bs29 J30, .ext bs37 J38, .ext bs45 J46, .ext bs53 J54, .ext bs61 J62, .ext bs69 J70, .ext bs78 J79]) w ∧ J w) c x86)) (fun hb => c_pool_Pool_Free (K := (Hs [.ext bs24 J25, .ext bs29 J30, .ext bs37 J38, .ext bs45 J46, .ext bs53 J54, .ext bs61 J62, .ext bs69 J70, .ext bs78 J79])) (Lay.mono _ ent f81) (hx86 hb)) (fun _ _ _ ⟨_, h1, h2, h3⟩ => ⟨h2, _, h1, h3⟩) (fun hb => rfl) (fun hb => (evs_cons (gev rfl hb) rfl)) rfl (Hin := [.cells b22 159 c82]) (rst := [.ext bs78 J79, .ext bs69 J70, .ext bs61 J62, .ext bs53 J54, .ext bs45 J46, .ext bs37 J38, .ext bs29 J30, .ext bs24 J25]) (ks := [0, 1, 2, 3, 4, 5, 6, 7, 8]) rfl (by decide) (fun hb => inferInstance) (fun ⟨c87, bs88, J89⟩ hp90 => ?_)
      have f91 : (((((((((((((x27.1 == 0) && (x35.1 == 2)) && (x43.1 == 0)) && (x51.1 == 0)) && (x59.2.1 == 6)) && (x67.1 == 0)) && (x67.2.1 == 0)) && (x75.1 == 7)) && (x75.2 == 0)) && (x76.1 == 0)) && (x84.1 == 0)) && (x85 == 4)) == true) = true → (L_runs_Runs).rep (fun w => (Hs [.ext bs24 J25, .ext bs29 J30, .ext bs37 J38, .ext bs45 J46, .ext bs53 J54, .ext bs61 J62, .ext bs69 J70, .ext bs78 J79]) w ∧ Hs [.ext bs88 J89] w) c87 x86 := hp90
      dsimp only [List.cons_append, List.nil_append]
      refine WL_g (Gd_b rfl rfl) rfl (fun hb => VS_call (c_runs_Runs_Mask (K := (Hs [.ext bs24 J25, .ext bs29 J30, .ext bs37 J38, .ext bs45 J46, .ext bs53 J54, .ext bs61 J62, .ext bs69 J70, .ext bs78 J79, .ext bs88 J89])) (Lay.mono _ ent (f91 hb)) (hx92 hb)) (evs_cons (gev rfl hb) rfl) kn) ?_
      refine WL_g (Gd_b rfl rfl) rfl (fun hb => VS_eql (gev rfl hb) rfl) ?_
      refine WL_v rfl (VS_and rfl rfl) ?_
      refine WL_v rfl (VS_assign rfl) ?_
      refine WL_nil ?_
      refine WQ_then ?_
      refine WP_ret ?_
      replace h := Option.some.inj h
      subst h
      exact WQ_ret () rfl (.tmp rfl .nil) trivial rfl (ks := []) rfl (by decide)
def law02_PoolNil (n : Nat) (a0 : Int) (a1 : Int) : Option Bool :=
  bd (pool_Pool_Claim__nil n a0) fun x21 =>
  bd (pool_Pool_Read__nil n a0) fun x22 =>
  cl (((x21.2 == 1) && (x22.2 == 1)) == true) (pool_Pool_Clear__nil n a0) default fun x23 =>
  cl ((((x21.2 == 1) && (x22.2 == 1)) && (x23 == 1)) == true) (pool_Pool_Back__nil n a0) default fun x24 =>
  cl (((((x21.2 == 1) && (x22.2 == 1)) && (x23 == 1)) && (x24 == 1)) == true) (pool_Pool_Write__nil n a0 a1) default fun x25 =>
  cl ((((((x21.2 == 1) && (x22.2 == 1)) && (x23 == 1)) && (x24 == 1)) && (x25 == 1)) == true) (pool_Pool_Pages__nil n ) default fun x26 =>
  cl (((((((x21.2 == 1) && (x22.2 == 1)) && (x23 == 1)) && (x24 == 1)) && (x25 == 1)) && (x26 == 0)) == true) (pool_Pool_Free__nil n ) default fun x27 =>
  cl (((((((x21.2 == 1) && (x22.2 == 1)) && (x23 == 1)) && (x24 == 1)) && (x25 == 1)) && (x26 == 0)) == true) (runs_Runs_Count n x27) default fun x33 =>
  cl ((((((((x21.2 == 1) && (x22.2 == 1)) && (x23 == 1)) && (x24 == 1)) && (x25 == 1)) && (x26 == 0)) && (x33 == 0)) == true) (law02_wakes n ) default fun x34 =>
  some ((((((((x21.2 == 1) && (x22.2 == 1)) && (x23 == 1)) && (x24 == 1)) && (x25 == 1)) && (x26 == 0)) && (x33 == 0)) && x34)
theorem c_law02_PoolNil {n : Nat} {a0 : Int} {a1 : Int} {r : Bool}  (h : law02_PoolNil n a0 a1 = some r) : FnV Try.prog 4 [.int .i64 a0, .int .u8 a1] (.bool r) := by
  unfold law02_PoolNil at h
  refine fn_of Try.func4 (by kernel_rfl) rfl Try.ntmps4 rfl (fun cx hbs hpre hro => ?_)
  refine WP_seq ?_
  refine WP_region ?_
  refine WL_v rfl (VS_assign rfl) ?_
  refine WL_nil ?_
  refine WQ_then ?_
  refine WP_seq ?_
  refine WP_region ?_
  refine WL_v rfl (VS_assign rfl) ?_
  refine WL_nil ?_
  refine WQ_then ?_
  refine WP_seq ?_
  obtain ⟨x21, hx21, h⟩ := bd_e h
  refine WP_region ?_
  refine WL_v rfl (VS_move rfl) ?_
  refine WL_v rfl (VS_move rfl) ?_
  refine WL_v rfl (VS_call (c_pool_Pool_Claim__nil hx21) rfl (fun _ _ _ => trivial)) ?_
  refine WL_v rfl (VS_move rfl) ?_
  refine WL_v rfl (VS_extract rfl rfl) ?_
  refine WL_v rfl (VS_extract rfl rfl) ?_
  refine WL_v rfl (VS_assign rfl) ?_
  refine WL_v rfl (VS_assign rfl) ?_
  refine WL_nil ?_
  refine WQ_then ?_
  refine WP_seq ?_
  obtain ⟨x22, hx22, h⟩ := bd_e h
  refine WP_region ?_
  refine WL_v rfl (VS_move rfl) ?_
  refine WL_v rfl (VS_move rfl) ?_
  refine WL_v rfl (VS_call (c_pool_Pool_Read__nil hx22) rfl (fun _ _ _ => trivial)) ?_
  refine WL_v rfl (VS_move rfl) ?_
  refine WL_v rfl (VS_extract rfl rfl) ?_
  refine WL_v rfl (VS_extract rfl rfl) ?_
  refine WL_v rfl (VS_assign rfl) ?_
  refine WL_v rfl (VS_assign rfl) ?_
  refine WL_nil ?_
  refine WQ_then ?_
  refine WP_seq ?_
  obtain ⟨x23, hx23, _, h⟩ := cl_e h
  obtain ⟨x24, hx24, _, h⟩ := cl_e h
  obtain ⟨x25, hx25, _, h⟩ := cl_e h
  obtain ⟨x26, hx26, _, h⟩ := cl_e h
  obtain ⟨x27, hx27, _, h⟩ := cl_e h
  obtain ⟨x33, hx33, _, h⟩ := cl_e h
  obtain ⟨x34, hx34, _, h⟩ := cl_e h
  refine WP_region ?_
  refine WL_v rfl (VS_move rfl) ?_
  refine WL_v rfl (VS_eql rfl rfl) ?_
  refine WL_v rfl (VS_move rfl) ?_
  refine WL_g (Gd_b rfl rfl) rfl (fun hb => VS_move rfl) ?_
  refine WL_g (Gd_b rfl rfl) rfl (fun hb => VS_eql (gev rfl hb) rfl) ?_
  refine WL_v rfl (VS_and rfl rfl) ?_
  refine WL_v rfl (VS_move rfl) ?_
  refine WL_g (Gd_b rfl rfl) rfl (fun hb => VS_move rfl) ?_
  refine WL_g (Gd_b rfl rfl) rfl (fun hb => VS_move rfl) ?_
  refine WL_g (Gd_b rfl rfl) rfl (fun hb => VS_call (c_pool_Pool_Clear__nil (hx23 hb)) (evs_cons (gev rfl hb) (evs_cons (gev rfl hb) rfl)) (fun _ _ _ => trivial)) ?_
  refine WL_g (Gd_b rfl rfl) rfl (fun hb => VS_eql (gev rfl hb) rfl) ?_
  refine WL_v rfl (VS_and rfl rfl) ?_
  refine WL_v rfl (VS_move rfl) ?_
  refine WL_g (Gd_b rfl rfl) rfl (fun hb => VS_move rfl) ?_
  refine WL_g (Gd_b rfl rfl) rfl (fun hb => VS_move rfl) ?_
  refine WL_g (Gd_b rfl rfl) rfl (fun hb => VS_call (c_pool_Pool_Back__nil (hx24 hb)) (evs_cons (gev rfl hb) (evs_cons (gev rfl hb) rfl)) (fun _ _ _ => trivial)) ?_
  refine WL_g (Gd_b rfl rfl) rfl (fun hb => VS_eql (gev rfl hb) rfl) ?_
  refine WL_v rfl (VS_and rfl rfl) ?_
  refine WL_v rfl (VS_move rfl) ?_
  refine WL_g (Gd_b rfl rfl) rfl (fun hb => VS_move rfl) ?_
  refine WL_g (Gd_b rfl rfl) rfl (fun hb => VS_move rfl) ?_
  refine WL_g (Gd_b rfl rfl) rfl (fun hb => VS_move rfl) ?_
  refine WL_g (Gd_b rfl rfl) rfl (fun hb => VS_call (c_pool_Pool_Write__nil (hx25 hb)) (evs_cons (gev rfl hb) (evs_cons (gev rfl hb) (evs_cons (gev rfl hb) rfl))) (fun _ _ _ => trivial)) ?_
  refine WL_g (Gd_b rfl rfl) rfl (fun hb => VS_eql (gev rfl hb) rfl) ?_
  refine WL_v rfl (VS_and rfl rfl) ?_
  refine WL_v rfl (VS_move rfl) ?_
  refine WL_g (Gd_b rfl rfl) rfl (fun hb => VS_move rfl) ?_
  refine WL_g (Gd_b rfl rfl) rfl (fun hb => VS_call (c_pool_Pool_Pages__nil (hx26 hb)) (evs_cons (gev rfl hb) rfl) (fun _ _ _ => trivial)) ?_
  refine WL_g (Gd_b rfl rfl) rfl (fun hb => VS_eql (gev rfl hb) rfl) ?_
  refine WL_v rfl (VS_and rfl rfl) ?_
  refine WL_v rfl (VS_move rfl) ?_
  refine WL_g (Gd_b rfl rfl) rfl (fun hb => VS_move rfl) ?_
  refine WL_callBa (Gd_b rfl rfl) rfl (fv := (fun c : List Value => .agg c.toArray)) (q := (fun J c => (L_runs_Runs).rep J c x27)) (fun hb => c_pool_Pool_Free__nil (hx27 hb)) (fun _ _ ⟨_, h1, h3⟩ => ⟨_, h1, h3⟩) (fun hb => (evs_cons (gev rfl hb) rfl)) (fun hb => inferInstance) (fun ⟨c28, bs29, J30⟩ hp31 => ?_)
  have f32 : (((((((x21.2 == 1) && (x22.2 == 1)) && (x23 == 1)) && (x24 == 1)) && (x25 == 1)) && (x26 == 0)) == true) = true → (L_runs_Runs).rep (Hs [.ext bs29 J30]) c28 x27 := hp31
  dsimp only [List.cons_append, List.nil_append]
  refine WL_g (Gd_b rfl rfl) rfl (fun hb => VS_call (c_runs_Runs_Count (K := (Hs [.ext bs29 J30])) (Lay.mono _ ent (f32 hb)) (hx33 hb)) (evs_cons (gev rfl hb) rfl) kn) ?_
  refine WL_g (Gd_b rfl rfl) rfl (fun hb => VS_eql (gev rfl hb) rfl) ?_
  refine WL_v rfl (VS_and rfl rfl) ?_
  refine WL_v rfl (VS_move rfl) ?_
  refine WL_g (Gd_b rfl rfl) rfl (fun hb => VS_call (c_law02_wakes (hx34 hb)) rfl (fun _ _ _ => trivial)) ?_
  refine WL_v rfl (VS_and rfl rfl) ?_
  refine WL_v rfl (VS_assign rfl) ?_
  refine WL_nil ?_
  refine WQ_then ?_
  refine WP_ret ?_
  replace h := Option.some.inj h
  subst h
  exact WQ_ret () rfl (.tmp rfl .nil) trivial rfl (ks := []) rfl (by decide)
structure ref02_Pool where
  N : Int
  Free : (Nat → Bool)
  B : (Nat → Int)
abbrev L_ref02_Pool : Lay ref02_Pool := Lay.via (LP (LI .i64) (LP (LA LB 64) (LA (LI .u8) 2048))) (fun x => (x.N, x.Free, x.B))
abbrev Z_ref02_Pool : ref02_Pool := ⟨0, (fun _ => false), (fun _ => 0)⟩
instance : Inhabited ref02_Pool := ⟨Z_ref02_Pool⟩
theorem P_ref02_Pool_N : Pth L_ref02_Pool (LI .i64) 0 (fun x => x.N) (fun x v => { x with N := v }) := (Pth.fst Pth.id).via _ _ _ 0 rfl (fun _ => rfl) (fun _ _ => rfl)
theorem P_ref02_Pool_Free : Pth L_ref02_Pool (LA LB 64) 1 (fun x => x.Free) (fun x v => { x with Free := v }) := (Pth.snd (Pth.fst Pth.id)).via _ _ _ 1 rfl (fun _ => rfl) (fun _ _ => rfl)
theorem P_ref02_Pool_B : Pth L_ref02_Pool (LA (LI .u8) 2048) 65 (fun x => x.B) (fun x v => { x with B := v }) := (Pth.snd (Pth.snd Pth.id)).via _ _ _ 65 rfl (fun _ => rfl) (fun _ _ => rfl)
def ref02_New (n : Nat) (a0 : Int) : Option ref02_Pool :=
  bd (ref01_Of n a0) fun x21 =>
  lt ({ N := a0, Free := x21, B := (fun _ => 0) } : ref02_Pool) fun x22 =>
  some x22
set_option maxRecDepth 100000 in
theorem c_ref02_New {n : Nat} {a0 : Int} {r : ref02_Pool}  (h : ref02_New n a0 = some r) : Bw.Fn Try.prog 15 [.int .i64 a0] (fun _ => True) [] (ptrP L_ref02_Pool (some r)) (fun x => ptrV x) (ptrH 41) := by
  unfold ref02_New at h
  refine fn_of Try.func15 (by kernel_rfl) rfl Try.ntmps15 rfl (fun cx hbs hpre hro => ?_)
  refine WP_seq ?_
  refine WP_region ?_
  refine WL_v rfl (VS_assign rfl) ?_
  refine WL_nil ?_
  refine WQ_then ?_
  refine WP_seq ?_
  obtain ⟨x21, hx21, h⟩ := bd_e h
  obtain ⟨x22, hx22, h⟩ := lt_e h
  refine WP_region ?_
  refine WL_v rfl (VS_move rfl) ?_
  refine WL_v rfl (VS_move rfl) ?_
  refine WL_v rfl (VS_call (c_ref01_Of hx21) rfl (fun _ _ _ => trivial)) ?_
  refine WL_v rfl (VS_buildF (L := L_ref02_Pool) (z := Z_ref02_Pool) (e := x22) (by rw [List.append_assoc, enc_via, enc_LP, enc_LP, enc_LA, enc_LA]; exact (app3 rfl (app3 (repl_flat _ _) (repl_flat _ _)))) rfl (fillL_step P_ref02_Pool_N _ a0 rfl rfl rfl (fillL_step P_ref02_Pool_Free _ x21 rfl rfl rfl (by rw [hx22]; rfl)))) ?_
  refine WL_x rfl (RX_boxa (cs := L_ref02_Pool.enc x22) rfl) (fun b7 _ => ?_)
  refine WL_v rfl (VS_assign rfl) ?_
  refine WL_nil ?_
  refine WQ_then ?_
  refine WP_ret ?_
  replace h := Option.some.inj h
  subst h
  refine WQ_bundle (R := []) (H' := [.cells b7 41 (L_ref02_Pool.enc x22)]) (ks := [0]) rfl (by decide) ?_
  have p23 : (L_ref02_Pool).rep (Hs [.ext (blks []) (Hs [])]) (L_ref02_Pool.enc x22) x22 := FlatL.iff.2 rfl
  exact WQ_ret (some (b7, (L_ref02_Pool.enc x22), blks [], Hs [])) rfl (.tmp rfl .nil) ⟨_, rfl, p23⟩ rfl (ks := [1, 0]) rfl (by decide)
def ref02_Pool_Claim (n : Nat) (a0 : ref02_Pool) (a1 : Int) : Option (Int × Int × ref02_Pool) :=
  cn (decide (a1 < 1)) (
  some (0, 2, a0)) (
  bd (ref01_Set_Find n a0.Free a1) fun x21 =>
  cn (decide (x21 < 0)) (
  some (0, 6, a0)) (
  bd (ref01_Set_With n a0.Free x21 a1 false) fun x22 =>
  lt ({ a0 with Free := x22 } : ref02_Pool) fun x23 =>
  some (x21, 0, x23)))
theorem c_ref02_Pool_Claim {n : Nat} {a0 : ref02_Pool} {a1 : Int} {r : Int × Int × ref02_Pool} {q0 : Nat} (h : ref02_Pool_Claim n a0 a1 = some r) : Bw.Fn (α := Unit) Try.prog 17 [Ptr q0 0, .int .i64 a1] (Fut (blks [.cells q0 41 (L_ref02_Pool.enc a0)]) (fun _ => True)) [.cells q0 41 (L_ref02_Pool.enc a0)] (fun _ => True) (fun _ => (.tuple #[.int .i64 r.1, .int .i64 r.2.1])) (fun _ => [.cells q0 41 (L_ref02_Pool.enc r.2.2)]) := by
  unfold ref02_Pool_Claim at h
  refine fn_of Try.func17 (by kernel_rfl) rfl Try.ntmps17 rfl (fun cx hbs hpre hro => ?_)
  refine WP_seq ?_
  refine WP_region ?_
  refine WL_v rfl (VS_assign rfl) ?_
  refine WL_v rfl (VS_assign rfl) ?_
  refine WL_nil ?_
  refine WQ_then ?_
  refine WP_seq ?_
  refine WP_seq ?_
  refine WP_region ?_
  refine WL_v rfl (VS_move rfl) ?_
  refine WL_v rfl (VS_lss rfl rfl) ?_
  refine WL_nil ?_
  refine WQ_then ?_
  refine WP_if rfl (fun hc => ?_) (fun hc => ?_)
  ·
    replace h := cn_t hc h
    refine WP_seq ?_
    refine WP_region ?_
    refine WL_v rfl (VS_assign rfl) ?_
    refine WL_v rfl (VS_assign rfl) ?_
    refine WL_nil ?_
    refine WQ_then ?_
    refine WP_ret ?_
    refine WQ_then_ret ?_
    replace h := Option.some.inj h
    subst h
    exact WQ_ret () rfl (.tmp rfl (.tmp rfl .nil)) trivial rfl (ks := [0]) rfl (by decide)
  ·
    replace h := cn_f hc h
    refine WP_skip ?_
    refine WQ_then ?_
    refine WP_seq ?_
    obtain ⟨x21, hx21, h⟩ := bd_e h
    refine WP_region ?_
    refine WL_v rfl (VS_move rfl) ?_
    refine WL_v rfl (VS_nilCheck rfl) ?_
    refine WL_v rfl (VS_field0 rfl) ?_
    refine WL_v rfl (VS_lda (M := (LA LB 64)) P_ref02_Pool_Free rfl rfl) ?_
    refine WL_v rfl (VS_move rfl) ?_
    refine WL_v rfl (VS_call (c_ref01_Set_Find hx21) rfl (fun _ _ _ => trivial)) ?_
    refine WL_v rfl (VS_assign rfl) ?_
    refine WL_nil ?_
    refine WQ_then ?_
    refine WP_seq ?_
    refine WP_seq ?_
    refine WP_region ?_
    refine WL_v rfl (VS_move rfl) ?_
    refine WL_v rfl (VS_lss rfl rfl) ?_
    refine WL_nil ?_
    refine WQ_then ?_
    refine WP_if rfl (fun hc => ?_) (fun hc => ?_)
    ·
      replace h := cn_t hc h
      refine WP_seq ?_
      refine WP_region ?_
      refine WL_v rfl (VS_assign rfl) ?_
      refine WL_v rfl (VS_assign rfl) ?_
      refine WL_nil ?_
      refine WQ_then ?_
      refine WP_ret ?_
      refine WQ_then_ret ?_
      replace h := Option.some.inj h
      subst h
      exact WQ_ret () rfl (.tmp rfl (.tmp rfl .nil)) trivial rfl (ks := [0]) rfl (by decide)
    ·
      replace h := cn_f hc h
      refine WP_skip ?_
      refine WQ_then ?_
      refine WP_seq ?_
      obtain ⟨x22, hx22, h⟩ := bd_e h
      obtain ⟨x23, hx23, h⟩ := lt_e h
      refine WP_region ?_
      refine WL_v rfl (VS_move rfl) ?_
      refine WL_v rfl (VS_move rfl) ?_
      refine WL_v rfl (VS_nilCheck rfl) ?_
      refine WL_v rfl (VS_field0 rfl) ?_
      refine WL_v rfl (VS_lda (M := (LA LB 64)) P_ref02_Pool_Free rfl rfl) ?_
      refine WL_v rfl (VS_move rfl) ?_
      refine WL_v rfl (VS_move rfl) ?_
      refine WL_v rfl (VS_call (c_ref01_Set_With hx22) rfl (fun _ _ _ => trivial)) ?_
      refine WL_v rfl (VS_nilCheck rfl) ?_
      refine WL_v rfl (VS_field0 rfl) ?_
      refine WL_x0 (RX_st (M := (LA LB 64)) P_ref02_Pool_Free x22 x23 hx23 rfl rfl rfl rfl) (fun _ _ => ?_)
      refine WL_nil ?_
      refine WQ_then ?_
      refine WP_seq ?_
      refine WP_region ?_
      refine WL_v rfl (VS_move rfl) ?_
      refine WL_v rfl (VS_assign rfl) ?_
      refine WL_v rfl (VS_assign rfl) ?_
      refine WL_nil ?_
      refine WQ_then ?_
      refine WP_ret ?_
      replace h := Option.some.inj h
      subst h
      exact WQ_ret () rfl (.tmp rfl (.tmp rfl .nil)) trivial rfl (ks := [0]) rfl (by decide)
def ref02_Pool_Lent (n : Nat) (a0 : ref02_Pool) (a1 : Int) : Option Int :=
  cn ((decide (a1 < 0) || decide (a0.N ≤ a1))) (
  some 2) (
  gu (inb a1 64) <|
  cn ((a0.Free (Int.toNat a1))) (
  some 12) (
  some 0))
theorem c_ref02_Pool_Lent {n : Nat} {a0 : ref02_Pool} {a1 : Int} {r : Int} {q0 : Nat} (h : ref02_Pool_Lent n a0 a1 = some r) : Bw.Fn (α := Unit) Try.prog 88 [Ptr q0 0, .int .i64 a1] (Fut (blks [.cells q0 41 (L_ref02_Pool.enc a0)]) (fun _ => True)) [.cells q0 41 (L_ref02_Pool.enc a0)] (fun _ => True) (fun _ => (.int .i64 r)) (fun _ => [.cells q0 41 (L_ref02_Pool.enc a0)]) := by
  unfold ref02_Pool_Lent at h
  refine fn_of Try.func88 (by kernel_rfl) rfl Try.ntmps88 rfl (fun cx hbs hpre hro => ?_)
  refine WP_seq ?_
  refine WP_region ?_
  refine WL_v rfl (VS_assign rfl) ?_
  refine WL_nil ?_
  refine WQ_then ?_
  refine WP_seq ?_
  refine WP_seq ?_
  refine WP_region ?_
  refine WL_v rfl (VS_move rfl) ?_
  refine WL_v rfl (VS_lss rfl rfl) ?_
  refine WL_v rfl (VS_move rfl) ?_
  refine WL_g (Gd_b rfl rfl) rfl (fun hb => VS_move rfl) ?_
  refine WL_g (Gd_b rfl rfl) rfl (fun hb => VS_move rfl) ?_
  refine WL_g (Gd_b rfl rfl) rfl (fun hb => VS_nilCheck (gev rfl hb)) ?_
  refine WL_g (Gd_b rfl rfl) rfl (fun hb => VS_field0 (gev rfl hb)) ?_
  refine WL_g (Gd_b rfl rfl) rfl (fun hb => VS_ldi P_ref02_Pool_N (gev rfl hb)) ?_
  refine WL_g (Gd_b rfl rfl) rfl (fun hb => VS_geq (gev rfl hb) (gev rfl hb)) ?_
  refine WL_v rfl (VS_or rfl rfl) ?_
  refine WL_nil ?_
  refine WQ_then ?_
  refine WP_if rfl (fun hc => ?_) (fun hc => ?_)
  ·
    replace h := cn_t hc h
    refine WP_seq ?_
    refine WP_region ?_
    refine WL_v rfl (VS_assign rfl) ?_
    refine WL_nil ?_
    refine WQ_then ?_
    refine WP_ret ?_
    refine WQ_then_ret ?_
    replace h := Option.some.inj h
    subst h
    exact WQ_ret () rfl (.tmp rfl .nil) trivial rfl (ks := [0]) rfl (by decide)
  ·
    replace h := cn_f hc h
    refine WP_skip ?_
    refine WQ_then ?_
    refine WP_seq ?_
    refine WP_seq ?_
    obtain ⟨hg21, h⟩ := gu_e h
    refine WP_region ?_
    refine WL_v rfl (VS_move rfl) ?_
    refine WL_v rfl (VS_move rfl) ?_
    refine WL_v rfl (VS_nilCheck rfl) ?_
    refine WL_v rfl (VS_field0 rfl) ?_
    refine WL_v rfl (VS_index (m := (Int.toNat a1)) rfl rfl (inb_e hg21).1 (inb_e hg21).2) ?_
    refine WL_v rfl (VS_ldb (P_ref02_Pool_Free.comp (Pth.idx (L := LB) (m := 64) (k := 1) ((Int.toNat a1)) (inb_e hg21).2 rfl)) rfl) ?_
    refine WL_nil ?_
    refine WQ_then ?_
    refine WP_if rfl (fun hc => ?_) (fun hc => ?_)
    ·
      replace h := cn_t hc h
      refine WP_seq ?_
      refine WP_region ?_
      refine WL_v rfl (VS_assign rfl) ?_
      refine WL_nil ?_
      refine WQ_then ?_
      refine WP_ret ?_
      refine WQ_then_ret ?_
      replace h := Option.some.inj h
      subst h
      exact WQ_ret () rfl (.tmp rfl .nil) trivial rfl (ks := [0]) rfl (by decide)
    ·
      replace h := cn_f hc h
      refine WP_skip ?_
      refine WQ_then ?_
      refine WP_seq ?_
      refine WP_region ?_
      refine WL_v rfl (VS_assign rfl) ?_
      refine WL_nil ?_
      refine WQ_then ?_
      refine WP_ret ?_
      replace h := Option.some.inj h
      subst h
      exact WQ_ret () rfl (.tmp rfl .nil) trivial rfl (ks := [0]) rfl (by decide)
def ref02_Pool_Clear (n : Nat) (a0 : ref02_Pool) (a1 : Int) : Option (Int × ref02_Pool) :=
  bd (ref02_Pool_Lent n a0 a1) fun x21 =>
  loop2 (fun k29 (x25 : Int) (x26 : ref02_Pool) =>
  cn ((decide (x25 < 32) && (x21 == 0))) (
  gu (inb (wr .i64 ((wr .i64 (32 * a1)) + x25)) 2048) <|
  lt ({ x26 with B := (upd x26.B (Int.toNat (wr .i64 ((wr .i64 (32 * a1)) + x25))) 0) } : ref02_Pool) fun x31 =>
  k29 (wr .i64 (x25 + 1)) x31) (
  some (x21, x26))) n 0 a0
theorem c_ref02_Pool_Clear {n : Nat} {a0 : ref02_Pool} {a1 : Int} {r : Int × ref02_Pool} {q0 : Nat} (h : ref02_Pool_Clear n a0 a1 = some r) : Bw.Fn (α := Unit) Try.prog 19 [Ptr q0 0, .int .i64 a1] (Fut (blks [.cells q0 41 (L_ref02_Pool.enc a0)]) (fun _ => True)) [.cells q0 41 (L_ref02_Pool.enc a0)] (fun _ => True) (fun _ => (.int .i64 r.1)) (fun _ => [.cells q0 41 (L_ref02_Pool.enc r.2)]) := by
  unfold ref02_Pool_Clear at h
  refine fn_of Try.func19 (by kernel_rfl) rfl Try.ntmps19 rfl (fun cx hbs hpre hro => ?_)
  refine WP_seq ?_
  refine WP_region ?_
  refine WL_v rfl (VS_assign rfl) ?_
  refine WL_nil ?_
  refine WQ_then ?_
  refine WP_seq ?_
  obtain ⟨x21, hx21, h⟩ := bd_e h
  refine WP_region ?_
  refine WL_v rfl (VS_move rfl) ?_
  refine WL_v rfl (VS_move rfl) ?_
  refine WL_x rfl (RX_callH (K := (fun _ => True)) (Hin := [.cells q0 41 (L_ref02_Pool.enc a0)]) (rest := []) (ks := [0]) (c_ref02_Pool_Lent hx21) rfl rfl rfl rfl (by decide)) (fun _ _ => ?_)
  dsimp only [List.cons_append, List.nil_append]
  refine WL_v rfl (VS_assign rfl) ?_
  refine WL_nil ?_
  refine WQ_then ?_
  refine WP_seq ?_
  refine WP_seq ?_
  refine WP_region ?_
  refine WL_v rfl (VS_assign rfl) ?_
  refine WL_nil ?_
  refine WQ_then ?_
  refine WP_block ?_
  obtain ⟨lb27, hlb27, h⟩ := lp2_i h
  refine WP_loops (α := Nat × Int × ref02_Pool) [0, 1, 5] (.cons rfl (.cons rfl (.cons rfl (.nil)))) (fun (m28, x25, x26) => [(6, .int .i64 x25)]) (fun (m28, x25, x26) => [.cells q0 41 (L_ref02_Pool.enc x26)]) (fun (m28, x25, x26) => loop2 lb27 m28 x25 x26 = some r) (fun (m28, x25, x26) => m28) (n, 0, a0) h (Sub_cons rfl (Sub_nil)) (ks := [0]) rfl (by decide) ?_
  rintro ⟨m28, x25, x26⟩ h
  replace h : loop2 lb27 m28 x25 x26 = some r := h
  replace h := lp2_s hlb27 h
  obtain ⟨m28, rfl, h⟩ := h
  refine WP_seq ?_
  refine WP_seq ?_
  refine WP_region ?_
  refine WL_v rfl (VS_move rfl) ?_
  refine WL_v rfl (VS_lss rfl rfl) ?_
  refine WL_v rfl (VS_move rfl) ?_
  refine WL_g (Gd_b rfl rfl) rfl (fun hb => VS_move rfl) ?_
  refine WL_g (Gd_b rfl rfl) rfl (fun hb => VS_eql (gev rfl hb) rfl) ?_
  refine WL_v rfl (VS_and rfl rfl) ?_
  refine WL_nil ?_
  refine WQ_then ?_
  refine WP_if rfl (fun hc => ?_) (fun hc => ?_)
  ·
    replace h := cn_t hc h
    refine WP_skip ?_
    refine WQ_then ?_
    refine WP_seq ?_
    refine WP_block ?_
    obtain ⟨hg30, h⟩ := gu_e h
    obtain ⟨x31, hx31, h⟩ := lt_e h
    refine WP_region ?_
    refine WL_v rfl (VS_move rfl) ?_
    refine WL_v rfl (VS_move rfl) ?_
    refine WL_v rfl (VS_mul rfl rfl rfl) ?_
    refine WL_v rfl (VS_move rfl) ?_
    refine WL_v rfl (VS_add rfl rfl rfl) ?_
    refine WL_v rfl (VS_nilCheck rfl) ?_
    refine WL_v rfl (VS_field0 rfl) ?_
    refine WL_v rfl (VS_index (m := (Int.toNat (wr .i64 ((wr .i64 (32 * a1)) + x25)))) rfl rfl (inb_e hg30).1 (inb_e hg30).2) ?_
    refine WL_x0 (RX_st (M := (LI .u8)) (P_ref02_Pool_B.comp (Pth.idx (L := (LI .u8)) (m := 2048) (k := 1) ((Int.toNat (wr .i64 ((wr .i64 (32 * a1)) + x25)))) (inb_e hg30).2 rfl)) 0 x31 hx31 rfl rfl rfl rfl) (fun _ _ => ?_)
    refine WL_nil ?_
    refine WQ_block ?_
    refine WQ_then ?_
    refine WP_region ?_
    refine WL_v rfl (VS_move rfl) ?_
    refine WL_v rfl (VS_add rfl rfl rfl) ?_
    refine WL_v rfl (VS_assign rfl) ?_
    refine WL_nil ?_
    exact WQ_loops (m28, wr .i64 (x25 + 1), x31) (Nat.lt_succ_self _) h (Sub_cons rfl (Sub_nil)) (.cons rfl (.cons rfl (.cons rfl (.nil)))) (ks := [0]) rfl (by decide)
  ·
    replace h := cn_f hc h
    refine WP_exit ?_
    refine WQ_then_exit ?_
    refine WQ_then_exit ?_
    refine WQ_block_exit ?_
    refine WQ_then ?_
    refine WP_seq ?_
    refine WP_region ?_
    refine WL_v rfl (VS_move rfl) ?_
    refine WL_v rfl (VS_assign rfl) ?_
    refine WL_nil ?_
    refine WQ_then ?_
    refine WP_ret ?_
    replace h := Option.some.inj h
    subst h
    exact WQ_ret () rfl (.tmp rfl .nil) trivial rfl (ks := [0]) rfl (by decide)
def ref02_Pool_Back (n : Nat) (a0 : ref02_Pool) (a1 : Int) : Option (Int × ref02_Pool) :=
  bd (ref02_Pool_Lent n a0 a1) fun x21 =>
  cn ((x21 == 0)) (
  gu (inb a1 64) <|
  lt ({ a0 with Free := (upd a0.Free (Int.toNat a1) true) } : ref02_Pool) fun x23 =>
  some (x21, x23)) (
  some (x21, a0))
theorem c_ref02_Pool_Back {n : Nat} {a0 : ref02_Pool} {a1 : Int} {r : Int × ref02_Pool} {q0 : Nat} (h : ref02_Pool_Back n a0 a1 = some r) : Bw.Fn (α := Unit) Try.prog 21 [Ptr q0 0, .int .i64 a1] (Fut (blks [.cells q0 41 (L_ref02_Pool.enc a0)]) (fun _ => True)) [.cells q0 41 (L_ref02_Pool.enc a0)] (fun _ => True) (fun _ => (.int .i64 r.1)) (fun _ => [.cells q0 41 (L_ref02_Pool.enc r.2)]) := by
  unfold ref02_Pool_Back at h
  refine fn_of Try.func21 (by kernel_rfl) rfl Try.ntmps21 rfl (fun cx hbs hpre hro => ?_)
  refine WP_seq ?_
  refine WP_region ?_
  refine WL_v rfl (VS_assign rfl) ?_
  refine WL_nil ?_
  refine WQ_then ?_
  refine WP_seq ?_
  obtain ⟨x21, hx21, h⟩ := bd_e h
  refine WP_region ?_
  refine WL_v rfl (VS_move rfl) ?_
  refine WL_v rfl (VS_move rfl) ?_
  refine WL_x rfl (RX_callH (K := (fun _ => True)) (Hin := [.cells q0 41 (L_ref02_Pool.enc a0)]) (rest := []) (ks := [0]) (c_ref02_Pool_Lent hx21) rfl rfl rfl rfl (by decide)) (fun _ _ => ?_)
  dsimp only [List.cons_append, List.nil_append]
  refine WL_v rfl (VS_assign rfl) ?_
  refine WL_nil ?_
  refine WQ_then ?_
  refine WP_seq ?_
  refine WP_seq ?_
  refine WP_region ?_
  refine WL_v rfl (VS_move rfl) ?_
  refine WL_v rfl (VS_eql rfl rfl) ?_
  refine WL_nil ?_
  refine WQ_then ?_
  refine WP_if rfl (fun hc => ?_) (fun hc => ?_)
  ·
    replace h := cn_t hc h
    obtain ⟨hg22, h⟩ := gu_e h
    obtain ⟨x23, hx23, h⟩ := lt_e h
    refine WP_region ?_
    refine WL_v rfl (VS_move rfl) ?_
    refine WL_v rfl (VS_move rfl) ?_
    refine WL_v rfl (VS_nilCheck rfl) ?_
    refine WL_v rfl (VS_field0 rfl) ?_
    refine WL_v rfl (VS_index (m := (Int.toNat a1)) rfl rfl (inb_e hg22).1 (inb_e hg22).2) ?_
    refine WL_x0 (RX_st (M := LB) (P_ref02_Pool_Free.comp (Pth.idx (L := LB) (m := 64) (k := 1) ((Int.toNat a1)) (inb_e hg22).2 rfl)) true x23 hx23 rfl rfl rfl rfl) (fun _ _ => ?_)
    refine WL_nil ?_
    refine WQ_then ?_
    refine WP_seq ?_
    refine WP_region ?_
    refine WL_v rfl (VS_move rfl) ?_
    refine WL_v rfl (VS_assign rfl) ?_
    refine WL_nil ?_
    refine WQ_then ?_
    refine WP_ret ?_
    replace h := Option.some.inj h
    subst h
    exact WQ_ret () rfl (.tmp rfl .nil) trivial rfl (ks := [0]) rfl (by decide)
  ·
    replace h := cn_f hc h
    refine WP_skip ?_
    refine WQ_then ?_
    refine WP_seq ?_
    refine WP_region ?_
    refine WL_v rfl (VS_move rfl) ?_
    refine WL_v rfl (VS_assign rfl) ?_
    refine WL_nil ?_
    refine WQ_then ?_
    refine WP_ret ?_
    replace h := Option.some.inj h
    subst h
    exact WQ_ret () rfl (.tmp rfl .nil) trivial rfl (ks := [0]) rfl (by decide)
def ref02_Pool_At (n : Nat) (a0 : ref02_Pool) (a1 : Int) : Option Int :=
  cn (decide (a1 < 0)) (
  some 2) (
  bd (ref02_Pool_Lent n a0 (wr .i64 (Int.tdiv a1 32))) fun x21 =>
  some x21)
theorem c_ref02_Pool_At {n : Nat} {a0 : ref02_Pool} {a1 : Int} {r : Int} {q0 : Nat} (h : ref02_Pool_At n a0 a1 = some r) : Bw.Fn (α := Unit) Try.prog 23 [Ptr q0 0, .int .i64 a1] (Fut (blks [.cells q0 41 (L_ref02_Pool.enc a0)]) (fun _ => True)) [.cells q0 41 (L_ref02_Pool.enc a0)] (fun _ => True) (fun _ => (.int .i64 r)) (fun _ => [.cells q0 41 (L_ref02_Pool.enc a0)]) := by
  unfold ref02_Pool_At at h
  refine fn_of Try.func23 (by kernel_rfl) rfl Try.ntmps23 rfl (fun cx hbs hpre hro => ?_)
  refine WP_seq ?_
  refine WP_region ?_
  refine WL_v rfl (VS_assign rfl) ?_
  refine WL_nil ?_
  refine WQ_then ?_
  refine WP_seq ?_
  refine WP_seq ?_
  refine WP_region ?_
  refine WL_v rfl (VS_move rfl) ?_
  refine WL_v rfl (VS_lss rfl rfl) ?_
  refine WL_nil ?_
  refine WQ_then ?_
  refine WP_if rfl (fun hc => ?_) (fun hc => ?_)
  ·
    replace h := cn_t hc h
    refine WP_seq ?_
    refine WP_region ?_
    refine WL_v rfl (VS_assign rfl) ?_
    refine WL_nil ?_
    refine WQ_then ?_
    refine WP_ret ?_
    refine WQ_then_ret ?_
    replace h := Option.some.inj h
    subst h
    exact WQ_ret () rfl (.tmp rfl .nil) trivial rfl (ks := [0]) rfl (by decide)
  ·
    replace h := cn_f hc h
    refine WP_skip ?_
    refine WQ_then ?_
    refine WP_seq ?_
    obtain ⟨x21, hx21, h⟩ := bd_e h
    refine WP_region ?_
    refine WL_v rfl (VS_move rfl) ?_
    refine WL_v rfl (VS_move rfl) ?_
    refine WL_v rfl (VS_quo rfl rfl (by decide) rfl) ?_
    refine WL_x rfl (RX_callH (K := (fun _ => True)) (Hin := [.cells q0 41 (L_ref02_Pool.enc a0)]) (rest := []) (ks := [0]) (c_ref02_Pool_Lent hx21) rfl rfl rfl rfl (by decide)) (fun _ _ => ?_)
    dsimp only [List.cons_append, List.nil_append]
    refine WL_v rfl (VS_assign rfl) ?_
    refine WL_nil ?_
    refine WQ_then ?_
    refine WP_ret ?_
    replace h := Option.some.inj h
    subst h
    exact WQ_ret () rfl (.tmp rfl .nil) trivial rfl (ks := [0]) rfl (by decide)
structure law02_Act where
  Do : Int
  N : Int
  B : Int
abbrev L_law02_Act : Lay law02_Act := Lay.via (LP (LI .u8) (LP (LI .i64) (LI .u8))) (fun x => (x.Do, x.N, x.B))
abbrev Z_law02_Act : law02_Act := ⟨0, 0, 0⟩
instance : Inhabited law02_Act := ⟨Z_law02_Act⟩
theorem P_law02_Act_Do : Pth L_law02_Act (LI .u8) 0 (fun x => x.Do) (fun x v => { x with Do := v }) := (Pth.fst Pth.id).via _ _ _ 0 rfl (fun _ => rfl) (fun _ _ => rfl)
theorem P_law02_Act_N : Pth L_law02_Act (LI .i64) 1 (fun x => x.N) (fun x v => { x with N := v }) := (Pth.snd (Pth.fst Pth.id)).via _ _ _ 1 rfl (fun _ => rfl) (fun _ _ => rfl)
theorem P_law02_Act_B : Pth L_law02_Act (LI .u8) 2 (fun x => x.B) (fun x v => { x with B := v }) := (Pth.snd (Pth.snd Pth.id)).via _ _ _ 2 rfl (fun _ => rfl) (fun _ _ => rfl)
def EQ_law02_Act (x y : law02_Act) : Bool := x.Do == y.Do && x.N == y.N && x.B == y.B
theorem EQv_law02_Act (x y : law02_Act) : Value.bool (eqAt [(0, some .u8), (1, some .i64), (2, some .u8)] (L_law02_Act.enc x) (L_law02_Act.enc y)) = .bool (EQ_law02_Act x y) := congrArg Value.bool (by show ((x.Do == y.Do) && ((x.N == y.N) && ((x.B == y.B) && true))) = (x.Do == y.Do && x.N == y.N && x.B == y.B); simp [Bool.and_assoc])
theorem EQvn_law02_Act (x y : law02_Act) : Value.bool (!(eqAt [(0, some .u8), (1, some .i64), (2, some .u8)] (L_law02_Act.enc x) (L_law02_Act.enc y))) = .bool (!(EQ_law02_Act x y)) := congrArg (fun v => match v with | Value.bool b => Value.bool (!b) | v => v) (EQv_law02_Act x y)
def law02_PoolPlays (n : Nat) (a0 : Int) (a1 : (List law02_Act)) : Option Bool :=
  cn (decide (200 < (a1.length : Int))) (
  bd (law02_wakes n ) fun x21 =>
  some x21) (
  bd (pool_New n a0) fun x22 =>
  oc x22.1 (
  cn ((decide (a0 < 1) || decide (64 < a0))) (
  cl ((true && (x22.2 == 2)) == true) (law02_wakes n ) default fun x23 =>
  some ((true && (x22.2 == 2)) && x23)) (
  some false)) fun px22 =>
  cn ((decide (a0 < 1) || decide (64 < a0))) (
  cl (false == true) (law02_wakes n ) default fun x28 =>
  some false) (
  cn ((false || (x22.2 != 0))) (
  some false) (
  bd (ref02_New n a0) fun x29 =>
  loop3 (fun k52 (x45 : Int) (x46 : ref02_Pool) (x47 : pool_Pool) =>
  cn (decide (x45 < (a1.length : Int))) (
  gu (inb x45 a1.length) <|
  lt ((a1.getD (Int.toNat x45) default) : law02_Act) fun x54 =>
  lt (fun (x57 : Int) (x58 : Int) (x59 : Int) (x60 : Int) (x61 : ref02_Pool) (x62 : pool_Pool) =>
  cn (((x57 != x58) || (x59 != x60))) (
  some false) (
  loop2 (fun k113 (x109 : Int) (x110 : Int) =>
  cn (decide (x110 < 64)) (
  gu (inb x110 64) <|
  cn ((x61.Free (Int.toNat x110))) (
  gu (decide (0 ≤ x110)) <|
  k113 (orI .u64 x109 (shlI .u64 1 x110)) (wr .i64 (x110 + 1))) (
  k113 x109 (wr .i64 (x110 + 1)))) (
  bd (pool_Pool_Free n x62) fun x116 =>
  bd (runs_Runs_Mask n x116) fun x124 =>
  cl ((x124 != x109) == false) (pool_Pool_Pages n x62) default fun x125 =>
  cn (((x124 != x109) || (x125 != a0))) (
  some false) (
  k52 (wr .i64 (x45 + 1)) x61 x62))) n 0 0)) fun j65 =>
  cn ((x54.Do == 0)) (
  bd (pool_Pool_Claim n x47 x54.N) fun x66 =>
  bd (ref02_Pool_Claim n x46 x54.N) fun x74 =>
  j65 x66.2.1 x74.2.1 x66.1 x74.1 x74.2.2 x66.2.2) (
  cn ((x54.Do == 1)) (
  bd (pool_Pool_Clear n x47 x54.N) fun x75 =>
  bd (ref02_Pool_Clear n x46 x54.N) fun x83 =>
  j65 x75.1 x83.1 0 0 x83.2 x75.2) (
  cn ((x54.Do == 2)) (
  bd (pool_Pool_Back n x47 x54.N) fun x84 =>
  bd (ref02_Pool_Back n x46 x54.N) fun x92 =>
  j65 x84.1 x92.1 0 0 x92.2 x84.2) (
  cn ((x54.Do == 3)) (
  bd (pool_Pool_Read n x47 x54.N) fun x93 =>
  bd (ref02_Pool_At n x46 x54.N) fun x94 =>
  cn ((x94 == 0)) (
  gu (inb x54.N 2048) <|
  j65 x93.2 x94 (wr .i64 x93.1) (wr .i64 (x46.B (Int.toNat x54.N))) x46 x47) (
  j65 x93.2 x94 (wr .i64 x93.1) 0 x46 x47)) (
  bd (pool_Pool_Write n x47 x54.N x54.B) fun x96 =>
  bd (ref02_Pool_At n x46 x54.N) fun x104 =>
  cn ((x104 == 0)) (
  gu (inb x54.N 2048) <|
  lt ({ x46 with B := (upd x46.B (Int.toNat x54.N) x54.B) } : ref02_Pool) fun x106 =>
  j65 x96.1 x104 0 0 x106 x96.2) (
  j65 x96.1 x104 0 0 x46 x96.2)))))) (
  bd (law02_wakes n ) fun x126 =>
  some x126)) n 0 x29 px22)))
theorem c_law02_PoolPlays {n : Nat} {a0 : Int} {a1 : (List law02_Act)} {r : Bool} {K : World → Prop} [Stable K] {v1 : Value} (f1 : Fz K v1 L_law02_Act a1) (h : law02_PoolPlays n a0 a1 = some r) : FnW Try.prog 3 [.int .i64 a0, v1] K (.bool r) := by
  unfold law02_PoolPlays at h
  refine fn_of Try.func3 (by kernel_rfl) rfl Try.ntmps3 rfl (fun cx hbs hpre hro => ?_)
  haveI := knf_pre hbs hpre
  refine WP_seq ?_
  refine WP_region ?_
  refine WL_v rfl (VS_assign rfl) ?_
  refine WL_nil ?_
  refine WQ_then ?_
  refine WP_seq ?_
  refine WP_seq ?_
  refine WP_region ?_
  refine WL_v rfl (VS_move rfl) ?_
  refine WL_v rfl (VS_lenF f1 rfl) ?_
  refine WL_v rfl (VS_gtr rfl rfl) ?_
  refine WL_nil ?_
  refine WQ_then ?_
  refine WP_if rfl (fun hc => ?_) (fun hc => ?_)
  ·
    replace h := cn_t hc h
    refine WP_seq ?_
    obtain ⟨x21, hx21, h⟩ := bd_e h
    refine WP_region ?_
    refine WL_v rfl (VS_call (c_law02_wakes hx21) rfl (fun _ _ _ => trivial)) ?_
    refine WL_v rfl (VS_assign rfl) ?_
    refine WL_nil ?_
    refine WQ_then ?_
    refine WP_ret ?_
    refine WQ_then_ret ?_
    replace h := Option.some.inj h
    subst h
    exact WQ_ret () rfl (.tmp rfl .nil) trivial rfl (ks := []) rfl (by decide)
  ·
    replace h := cn_f hc h
    refine WP_skip ?_
    refine WQ_then ?_
    refine WP_seq ?_
    obtain ⟨x22, hx22, h⟩ := bd_e h
    rcases hqx22 : x22.1 with _ | px22
    ·
      replace h := oc_n hqx22 h
      refine WP_region ?_
      refine WL_v rfl (VS_move rfl) ?_
      refine WL_x rfl (RX_call (FnP.nil (g := (fun v => .tuple #[v, .int .i64 x22.2])) (c_pool_New hx22) hqx22) rfl (fun _ _ _ => trivial)) (fun _ _ => ?_)
      dsimp only [List.cons_append, List.nil_append]
      refine WL_v rfl (VS_move rfl) ?_
      refine WL_v rfl (VS_extract rfl rfl) ?_
      refine WL_v rfl (VS_extract rfl rfl) ?_
      refine WL_v rfl (VS_assign rfl) ?_
      refine WL_v rfl (VS_assign rfl) ?_
      refine WL_nil ?_
      refine WQ_then ?_
      refine WP_seq ?_
      refine WP_seq ?_
      refine WP_region ?_
      refine WL_v rfl (VS_move rfl) ?_
      refine WL_v rfl (VS_lss rfl rfl) ?_
      refine WL_v rfl (VS_move rfl) ?_
      refine WL_g (Gd_b rfl rfl) rfl (fun hb => VS_move rfl) ?_
      refine WL_g (Gd_b rfl rfl) rfl (fun hb => VS_gtr (gev rfl hb) rfl) ?_
      refine WL_v rfl (VS_or rfl rfl) ?_
      refine WL_nil ?_
      refine WQ_then ?_
      refine WP_if rfl (fun hc => ?_) (fun hc => ?_)
      ·
        replace h := cn_t hc h
        refine WP_seq ?_
        obtain ⟨x23, hx23, _, h⟩ := cl_e h
        refine WP_region ?_
        refine WL_v rfl (VS_move rfl) ?_
        refine WL_v rfl (VS_eqlP0 (by kernel_rfl) rfl rfl) ?_
        refine WL_v rfl (VS_move rfl) ?_
        refine WL_g (Gd_b rfl rfl) rfl (fun hb => VS_move rfl) ?_
        refine WL_g (Gd_b rfl rfl) rfl (fun hb => VS_eql (gev rfl hb) rfl) ?_
        refine WL_v rfl (VS_and rfl rfl) ?_
        refine WL_v rfl (VS_move rfl) ?_
        refine WL_g (Gd_b rfl rfl) rfl (fun hb => VS_call (c_law02_wakes (hx23 hb)) rfl (fun _ _ _ => trivial)) ?_
        refine WL_v rfl (VS_and rfl rfl) ?_
        refine WL_v rfl (VS_assign rfl) ?_
        refine WL_nil ?_
        refine WQ_then ?_
        refine WP_ret ?_
        refine WQ_then_ret ?_
        replace h := Option.some.inj h
        subst h
        exact WQ_ret () rfl (.tmp rfl .nil) trivial rfl (ks := []) rfl (by decide)
      ·
        replace h := cn_f hc h
        refine WP_skip ?_
        refine WQ_then ?_
        refine WP_seq ?_
        refine WP_seq ?_
        refine WP_region ?_
        refine WL_v rfl (VS_move rfl) ?_
        refine WL_v rfl (VS_eqlP0 (by kernel_rfl) rfl rfl) ?_
        refine WL_v rfl (VS_move rfl) ?_
        refine WL_g (Gd_b rfl rfl) rfl (fun hb => VS_move rfl) ?_
        refine WL_g (Gd_b rfl rfl) rfl (fun hb => VS_neq (gev rfl hb) rfl) ?_
        refine WL_v rfl (VS_or rfl rfl) ?_
        refine WL_nil ?_
        refine WQ_then ?_
        refine WP_true rfl ?_
        refine WP_seq ?_
        refine WP_region ?_
        refine WL_v rfl (VS_assign rfl) ?_
        refine WL_nil ?_
        refine WQ_then ?_
        refine WP_ret ?_
        refine WQ_then_ret ?_
        replace h := Option.some.inj h
        subst h
        exact WQ_ret () rfl (.tmp rfl .nil) trivial rfl (ks := []) rfl (by decide)
    ·
      replace h := oc_s hqx22 h
      refine WP_region ?_
      refine WL_v rfl (VS_move rfl) ?_
      refine WL_x rfl (RX_call (FnP.some (g := (fun v => .tuple #[v, .int .i64 x22.2])) (c_pool_New hx22) hqx22) rfl (fun _ _ _ => trivial)) (fun ⟨b23, c24, bs25, J26⟩ f27 => ?_)
      dsimp only [List.cons_append, List.nil_append]
      dsimp only at f27
      refine WL_v rfl (VS_move rfl) ?_
      refine WL_v rfl (VS_extract rfl rfl) ?_
      refine WL_v rfl (VS_extract rfl rfl) ?_
      refine WL_v rfl (VS_assign rfl) ?_
      refine WL_v rfl (VS_assign rfl) ?_
      refine WL_nil ?_
      refine WQ_then ?_
      refine WP_seq ?_
      refine WP_seq ?_
      refine WP_region ?_
      refine WL_v rfl (VS_move rfl) ?_
      refine WL_v rfl (VS_lss rfl rfl) ?_
      refine WL_v rfl (VS_move rfl) ?_
      refine WL_g (Gd_b rfl rfl) rfl (fun hb => VS_move rfl) ?_
      refine WL_g (Gd_b rfl rfl) rfl (fun hb => VS_gtr (gev rfl hb) rfl) ?_
      refine WL_v rfl (VS_or rfl rfl) ?_
      refine WL_nil ?_
      refine WQ_then ?_
      refine WP_if rfl (fun hc => ?_) (fun hc => ?_)
      ·
        replace h := cn_t hc h
        refine WP_seq ?_
        obtain ⟨x28, hx28, _, h⟩ := cl_e h
        refine WP_region ?_
        refine WL_v rfl (VS_move rfl) ?_
        refine WL_v rfl (VS_eqlP (by kernel_rfl) rfl rfl) ?_
        refine WL_v rfl (VS_move rfl) ?_
        refine WL_g (Gd_b rfl rfl) rfl (fun hb => VS_move rfl) ?_
        refine WL_g (Gd_b rfl rfl) rfl (fun hb => VS_eql (gev rfl hb) rfl) ?_
        refine WL_v rfl (VS_and rfl rfl) ?_
        refine WL_v rfl (VS_move rfl) ?_
        refine WL_g (Gd_b rfl rfl) rfl (fun hb => VS_call (c_law02_wakes (hx28 hb)) rfl (fun _ _ _ => trivial)) ?_
        refine WL_v rfl (VS_and rfl rfl) ?_
        refine WL_v rfl (VS_assign rfl) ?_
        refine WL_nil ?_
        refine WQ_then ?_
        refine WP_ret ?_
        refine WQ_then_ret ?_
        replace h := Option.some.inj h
        subst h
        exact WQ_ret () rfl (.tmp rfl .nil) trivial rfl (ks := []) rfl (by decide)
      ·
        replace h := cn_f hc h
        refine WP_skip ?_
        refine WQ_then ?_
        refine WP_seq ?_
        refine WP_seq ?_
        refine WP_region ?_
        refine WL_v rfl (VS_move rfl) ?_
        refine WL_v rfl (VS_eqlP (by kernel_rfl) rfl rfl) ?_
        refine WL_v rfl (VS_move rfl) ?_
        refine WL_g (Gd_b rfl rfl) rfl (fun hb => VS_move rfl) ?_
        refine WL_g (Gd_b rfl rfl) rfl (fun hb => VS_neq (gev rfl hb) rfl) ?_
        refine WL_v rfl (VS_or rfl rfl) ?_
        refine WL_nil ?_
        refine WQ_then ?_
        refine WP_if rfl (fun hc => ?_) (fun hc => ?_)
        ·
          replace h := cn_t hc h
          refine WP_seq ?_
          refine WP_region ?_
          refine WL_v rfl (VS_assign rfl) ?_
          refine WL_nil ?_
          refine WQ_then ?_
          refine WP_ret ?_
          refine WQ_then_ret ?_
          replace h := Option.some.inj h
          subst h
          exact WQ_ret () rfl (.tmp rfl .nil) trivial rfl (ks := []) rfl (by decide)
        ·
          replace h := cn_f hc h
          refine WP_skip ?_
          refine WQ_then ?_
          refine WP_seq ?_
          obtain ⟨x29, hx29, h⟩ := bd_e h
          refine WP_region ?_
          refine WL_v rfl (VS_move rfl) ?_
          refine WL_x rfl (RX_call (FnP.some (g := (fun v => v)) (c_ref02_New hx29) rfl) rfl (fun _ _ _ => trivial)) (fun ⟨b30, c31, bs32, J33⟩ f34 => ?_)
          dsimp only [List.cons_append, List.nil_append]
          dsimp only at f34
          obtain rfl := FlatL.iff.1 f34
          refine WL_v rfl (VS_assign rfl) ?_
          refine WL_nil ?_
          refine WQ_then ?_
          refine WP_seq ?_
          refine WP_seq ?_
          refine WP_region ?_
          refine WL_v rfl (VS_assign rfl) ?_
          refine WL_nil ?_
          refine WQ_then ?_
          refine WP_block ?_
          obtain ⟨lb50, hlb50, h⟩ := lp3_i h
          refine WP_ext0 ?_
          refine WP_loops (α := Nat × Int × ref02_Pool × pool_Pool × (List Value) × (List Nat) × (World → Prop)) [0, 1, 5, 7] (.cons rfl (.cons rfl (.cons rfl (.cons rfl (.nil))))) (fun (m51, x45, x46, x47, c48, bs43, J44) => [(8, .int .i64 x45)]) (fun (m51, x45, x46, x47, c48, bs43, J44) => [.ext bs43 J44, .cells b30 41 (L_ref02_Pool.enc x46), .ext bs32 J33, .cells b23 159 c48, .ext bs25 J26]) (fun (m51, x45, x46, x47, c48, bs43, J44) => (L_pool_Pool).rep (Hs [.ext bs25 J26, .ext bs43 J44]) c48 x47 ∧ loop3 lb50 m51 x45 x46 x47 = some r) (fun (m51, x45, x46, x47, c48, bs43, J44) => m51) (n, 0, x29, px22, c24, [], (Hs [])) ⟨(Lay.mono _ ent f27), h⟩ (Sub_cons rfl (Sub_nil)) (ks := [0, 1, 2, 3, 4]) rfl (by decide) ?_
          rintro ⟨m51, x45, x46, x47, c48, bs43, J44⟩ ⟨f49, h⟩
          replace h : loop3 lb50 m51 x45 x46 x47 = some r := h
          replace h := lp3_s hlb50 h
          obtain ⟨m51, rfl, h⟩ := h
          refine WP_seq ?_
          refine WP_seq ?_
          refine WP_region ?_
          refine WL_v rfl (VS_move rfl) ?_
          refine WL_v rfl (VS_move rfl) ?_
          refine WL_v rfl (VS_lenF f1 rfl) ?_
          refine WL_v rfl (VS_lss rfl rfl) ?_
          refine WL_nil ?_
          refine WQ_then ?_
          refine WP_if rfl (fun hc => ?_) (fun hc => ?_)
          ·
            replace h := cn_t hc h
            refine WP_skip ?_
            refine WQ_then ?_
            refine WP_seq ?_
            refine WP_block ?_
            refine WP_seq ?_
            obtain ⟨hg53, h⟩ := gu_e h
            obtain ⟨x54, hx54, h⟩ := lt_e h
            refine WP_region ?_
            refine WL_v rfl (VS_move rfl) ?_
            refine WL_v rfl (VS_move rfl) ?_
            refine WL_v rfl (VS_ixF (m := (Int.toNat x45)) f1 rfl rfl rfl (inb_e hg53).1 (inb_e hg53).2) ?_
            refine WL_v rfl (VS_ldaF (M := L_law02_Act) f1 (Pth.idx (L := L_law02_Act) (m := (a1.length)) (k := 3) ((Int.toNat x45)) (inb_e hg53).2 rfl) rfl rfl (by decide)) ?_
            refine WL_x rfl (RX_allocL (L := L_law02_Act) (z := Z_law02_Act) ⟨by kernel_rfl⟩) (fun b9 _ => ?_)
            refine WL_x0 (RX_st (M := L_law02_Act) (Pth.id (L := L_law02_Act)) (a1.getD (Int.toNat x45) default) x54 hx54 rfl rfl rfl rfl) (fun _ _ => ?_)
            refine WL_nil ?_
            refine WQ_then ?_
            refine WP_seq ?_
            refine WP_region ?_
            refine WL_v rfl (VS_assign rfl) ?_
            refine WL_v rfl (VS_assign rfl) ?_
            refine WL_nil ?_
            refine WQ_then ?_
            refine WP_seq ?_
            refine WP_region ?_
            refine WL_v rfl (VS_assign rfl) ?_
            refine WL_v rfl (VS_assign rfl) ?_
            refine WL_nil ?_
            refine WQ_then ?_
            obtain ⟨j65, hj65, h⟩ := lt_e h
            refine WP_cuts (α := Int × Int × Int × Int × ref02_Pool × pool_Pool × (List Value) × (List Nat) × (World → Prop)) [0, 1, 5, 7, 8] (.cons rfl (.cons rfl (.cons rfl (.cons rfl (.cons rfl (.nil)))))) (fun (x57, x58, x59, x60, x61, x62, c63, bs55, J56) => [(10, .int .i64 x57), (11, .int .i64 x58), (12, .int .i64 x59), (13, .int .i64 x60)]) (fun (x57, x58, x59, x60, x61, x62, c63, bs55, J56) => [.ext bs55 J56, .cells b9 31 (L_law02_Act.enc x54), .ext bs43 J44, .cells b30 41 (L_ref02_Pool.enc x61), .ext bs32 J33, .cells b23 159 c63, .ext bs25 J26]) (fun (x57, x58, x59, x60, x61, x62, c63, bs55, J56) => (L_pool_Pool).rep (Hs [.ext bs25 J26, .ext bs43 J44, .ext bs55 J56]) c63 x62 ∧ j65 x57 x58 x59 x60 x61 x62 = some r) ?_ ?_
            ·
              refine WP_seq ?_
              refine WP_region ?_
              refine WL_v rfl (VS_field0 rfl) ?_
              refine WL_v rfl (VS_ldi P_law02_Act_Do rfl) ?_
              refine WL_nil ?_
              refine WQ_then ?_
              refine WP_block ?_
              refine WP_seq ?_
              refine WP_region ?_
              refine WL_v rfl (VS_eql rfl rfl) ?_
              refine WL_v rfl (VS_assign rfl) ?_
              refine WL_nil ?_
              refine WQ_then ?_
              refine WP_if rfl (fun hc => ?_) (fun hc => ?_)
              ·
                replace h := cn_t hc h
                refine WP_seq ?_
                obtain ⟨x66, hx66, h⟩ := bd_e h
                refine WP_region ?_
                refine WL_v rfl (VS_move rfl) ?_
                refine WL_v rfl (VS_field0 rfl) ?_
                refine WL_v rfl (VS_ldi P_law02_Act_N rfl) ?_
                refine WL_x rfl (RX_callH (K := (Hs [.ext bs25 J26, .ext bs43 J44])) (Hin := [.cells b23 159 c48]) (rest := [.cells b9 31 (L_law02_Act.enc x54), .ext bs43 J44, .cells b30 41 (L_ref02_Pool.enc x46), .ext bs32 J33, .ext bs25 J26]) (ks := [4, 0, 1, 2, 3, 5]) (c_pool_Pool_Claim (K := (Hs [.ext bs25 J26, .ext bs43 J44])) (Lay.mono _ ent f49) hx66) rfl rfl rfl rfl (by decide)) (fun ⟨w67, ho73, bs68, J69⟩ hp70 => ?_)
                obtain ⟨c72, rfl, rfl, f71⟩ := hp70
                replace f71 : (L_pool_Pool).rep (fun w => (Hs [.ext bs25 J26, .ext bs43 J44]) w ∧ Hs [.ext bs68 J69] w) c72 x66.2.2 := f71
                dsimp only [List.cons_append, List.nil_append]
                refine WL_v rfl (VS_move rfl) ?_
                refine WL_v rfl (VS_extract rfl rfl) ?_
                refine WL_v rfl (VS_extract rfl rfl) ?_
                refine WL_v rfl (VS_assign rfl) ?_
                refine WL_v rfl (VS_assign rfl) ?_
                refine WL_nil ?_
                refine WQ_then ?_
                obtain ⟨x74, hx74, h⟩ := bd_e h
                refine WP_region ?_
                refine WL_v rfl (VS_move rfl) ?_
                refine WL_v rfl (VS_field0 rfl) ?_
                refine WL_v rfl (VS_ldi P_law02_Act_N rfl) ?_
                refine WL_x rfl (RX_callH (K := (fun _ => True)) (Hin := [.cells b30 41 (L_ref02_Pool.enc x46)]) (rest := [.ext bs68 J69, .cells b23 159 c72, .cells b9 31 (L_law02_Act.enc x54), .ext bs43 J44, .ext bs32 J33, .ext bs25 J26]) (ks := [4, 0, 1, 2, 3, 5, 6]) (c_ref02_Pool_Claim hx74) rfl rfl rfl rfl (by decide)) (fun _ _ => ?_)
                dsimp only [List.cons_append, List.nil_append]
                refine WL_v rfl (VS_move rfl) ?_
                refine WL_v rfl (VS_extract rfl rfl) ?_
                refine WL_v rfl (VS_extract rfl rfl) ?_
                refine WL_v rfl (VS_assign rfl) ?_
                refine WL_v rfl (VS_assign rfl) ?_
                refine WL_nil ?_
                refine WQ_block ?_
                refine WQ_bundle (R := [.ext bs68 J69]) (H' := [.cells b30 41 (L_ref02_Pool.enc x74.2.2), .cells b23 159 c72, .cells b9 31 (L_law02_Act.enc x54), .ext bs43 J44, .ext bs32 J33, .ext bs25 J26]) (ks := [1, 0, 2, 3, 4, 5, 6]) rfl (by decide) ?_
                exact WQ_cuts (x66.2.1, x74.2.1, x66.1, x74.1, x74.2.2, x66.2.2, c72, (blks [.ext bs68 J69]), (Hs [.ext bs68 J69])) ⟨(Lay.mono _ ent f71), h⟩ (Sub_cons rfl (Sub_cons rfl (Sub_cons rfl (Sub_cons rfl (Sub_nil))))) (.cons rfl (.cons rfl (.cons rfl (.cons rfl (.cons rfl (.nil)))))) (ks := [0, 3, 4, 1, 5, 2, 6]) rfl (by decide)
              ·
                replace h := cn_f hc h
                refine WP_seq ?_
                refine WP_region ?_
                refine WL_v rfl (VS_eql rfl rfl) ?_
                refine WL_v rfl (VS_assign rfl) ?_
                refine WL_nil ?_
                refine WQ_then ?_
                refine WP_if rfl (fun hc => ?_) (fun hc => ?_)
                ·
                  replace h := cn_t hc h
                  refine WP_seq ?_
                  obtain ⟨x75, hx75, h⟩ := bd_e h
                  refine WP_region ?_
                  refine WL_v rfl (VS_move rfl) ?_
                  refine WL_v rfl (VS_field0 rfl) ?_
                  refine WL_v rfl (VS_ldi P_law02_Act_N rfl) ?_
                  refine WL_x rfl (RX_callH (K := (Hs [.ext bs25 J26, .ext bs43 J44])) (Hin := [.cells b23 159 c48]) (rest := [.cells b9 31 (L_law02_Act.enc x54), .ext bs43 J44, .cells b30 41 (L_ref02_Pool.enc x46), .ext bs32 J33, .ext bs25 J26]) (ks := [4, 0, 1, 2, 3, 5]) (c_pool_Pool_Clear (K := (Hs [.ext bs25 J26, .ext bs43 J44])) (Lay.mono _ ent f49) hx75) rfl rfl rfl rfl (by decide)) (fun ⟨w76, ho82, bs77, J78⟩ hp79 => ?_)
                  obtain ⟨c81, rfl, rfl, f80⟩ := hp79
                  replace f80 : (L_pool_Pool).rep (fun w => (Hs [.ext bs25 J26, .ext bs43 J44]) w ∧ Hs [.ext bs77 J78] w) c81 x75.2 := f80
                  dsimp only [List.cons_append, List.nil_append]
                  refine WL_v rfl (VS_assign rfl) ?_
                  refine WL_nil ?_
                  refine WQ_then ?_
                  obtain ⟨x83, hx83, h⟩ := bd_e h
                  refine WP_region ?_
                  refine WL_v rfl (VS_move rfl) ?_
                  refine WL_v rfl (VS_field0 rfl) ?_
                  refine WL_v rfl (VS_ldi P_law02_Act_N rfl) ?_
                  refine WL_x rfl (RX_callH (K := (fun _ => True)) (Hin := [.cells b30 41 (L_ref02_Pool.enc x46)]) (rest := [.ext bs77 J78, .cells b23 159 c81, .cells b9 31 (L_law02_Act.enc x54), .ext bs43 J44, .ext bs32 J33, .ext bs25 J26]) (ks := [4, 0, 1, 2, 3, 5, 6]) (c_ref02_Pool_Clear hx83) rfl rfl rfl rfl (by decide)) (fun _ _ => ?_)
                  dsimp only [List.cons_append, List.nil_append]
                  refine WL_v rfl (VS_assign rfl) ?_
                  refine WL_nil ?_
                  refine WQ_block ?_
                  refine WQ_bundle (R := [.ext bs77 J78]) (H' := [.cells b30 41 (L_ref02_Pool.enc x83.2), .cells b23 159 c81, .cells b9 31 (L_law02_Act.enc x54), .ext bs43 J44, .ext bs32 J33, .ext bs25 J26]) (ks := [1, 0, 2, 3, 4, 5, 6]) rfl (by decide) ?_
                  exact WQ_cuts (x75.1, x83.1, 0, 0, x83.2, x75.2, c81, (blks [.ext bs77 J78]), (Hs [.ext bs77 J78])) ⟨(Lay.mono _ ent f80), h⟩ (Sub_cons rfl (Sub_cons rfl (Sub_cons rfl (Sub_cons rfl (Sub_nil))))) (.cons rfl (.cons rfl (.cons rfl (.cons rfl (.cons rfl (.nil)))))) (ks := [0, 3, 4, 1, 5, 2, 6]) rfl (by decide)
                ·
                  replace h := cn_f hc h
                  refine WP_seq ?_
                  refine WP_region ?_
                  refine WL_v rfl (VS_eql rfl rfl) ?_
                  refine WL_v rfl (VS_assign rfl) ?_
                  refine WL_nil ?_
                  refine WQ_then ?_
                  refine WP_if rfl (fun hc => ?_) (fun hc => ?_)
                  ·
                    replace h := cn_t hc h
                    refine WP_seq ?_
                    obtain ⟨x84, hx84, h⟩ := bd_e h
                    refine WP_region ?_
                    refine WL_v rfl (VS_move rfl) ?_
                    refine WL_v rfl (VS_field0 rfl) ?_
                    refine WL_v rfl (VS_ldi P_law02_Act_N rfl) ?_
                    refine WL_x rfl (RX_callH (K := (Hs [.ext bs25 J26, .ext bs43 J44])) (Hin := [.cells b23 159 c48]) (rest := [.cells b9 31 (L_law02_Act.enc x54), .ext bs43 J44, .cells b30 41 (L_ref02_Pool.enc x46), .ext bs32 J33, .ext bs25 J26]) (ks := [4, 0, 1, 2, 3, 5]) (c_pool_Pool_Back (K := (Hs [.ext bs25 J26, .ext bs43 J44])) (Lay.mono _ ent f49) hx84) rfl rfl rfl rfl (by decide)) (fun ⟨w85, ho91, bs86, J87⟩ hp88 => ?_)
                    obtain ⟨c90, rfl, rfl, f89⟩ := hp88
                    replace f89 : (L_pool_Pool).rep (fun w => (Hs [.ext bs25 J26, .ext bs43 J44]) w ∧ Hs [.ext bs86 J87] w) c90 x84.2 := f89
                    dsimp only [List.cons_append, List.nil_append]
                    refine WL_v rfl (VS_assign rfl) ?_
                    refine WL_nil ?_
                    refine WQ_then ?_
                    obtain ⟨x92, hx92, h⟩ := bd_e h
                    refine WP_region ?_
                    refine WL_v rfl (VS_move rfl) ?_
                    refine WL_v rfl (VS_field0 rfl) ?_
                    refine WL_v rfl (VS_ldi P_law02_Act_N rfl) ?_
                    refine WL_x rfl (RX_callH (K := (fun _ => True)) (Hin := [.cells b30 41 (L_ref02_Pool.enc x46)]) (rest := [.ext bs86 J87, .cells b23 159 c90, .cells b9 31 (L_law02_Act.enc x54), .ext bs43 J44, .ext bs32 J33, .ext bs25 J26]) (ks := [4, 0, 1, 2, 3, 5, 6]) (c_ref02_Pool_Back hx92) rfl rfl rfl rfl (by decide)) (fun _ _ => ?_)
                    dsimp only [List.cons_append, List.nil_append]
                    refine WL_v rfl (VS_assign rfl) ?_
                    refine WL_nil ?_
                    refine WQ_block ?_
                    refine WQ_bundle (R := [.ext bs86 J87]) (H' := [.cells b30 41 (L_ref02_Pool.enc x92.2), .cells b23 159 c90, .cells b9 31 (L_law02_Act.enc x54), .ext bs43 J44, .ext bs32 J33, .ext bs25 J26]) (ks := [1, 0, 2, 3, 4, 5, 6]) rfl (by decide) ?_
                    exact WQ_cuts (x84.1, x92.1, 0, 0, x92.2, x84.2, c90, (blks [.ext bs86 J87]), (Hs [.ext bs86 J87])) ⟨(Lay.mono _ ent f89), h⟩ (Sub_cons rfl (Sub_cons rfl (Sub_cons rfl (Sub_cons rfl (Sub_nil))))) (.cons rfl (.cons rfl (.cons rfl (.cons rfl (.cons rfl (.nil)))))) (ks := [0, 3, 4, 1, 5, 2, 6]) rfl (by decide)
                  ·
                    replace h := cn_f hc h
                    refine WP_seq ?_
                    refine WP_region ?_
                    refine WL_v rfl (VS_eql rfl rfl) ?_
                    refine WL_v rfl (VS_assign rfl) ?_
                    refine WL_nil ?_
                    refine WQ_then ?_
                    refine WP_if rfl (fun hc => ?_) (fun hc => ?_)
                    ·
                      replace h := cn_t hc h
                      refine WP_seq ?_
                      obtain ⟨x93, hx93, h⟩ := bd_e h
                      refine WP_region ?_
                      refine WL_v rfl (VS_move rfl) ?_
                      refine WL_v rfl (VS_field0 rfl) ?_
                      refine WL_v rfl (VS_ldi P_law02_Act_N rfl) ?_
                      refine WL_x rfl (RX_callH (K := (Hs [.ext bs25 J26, .ext bs43 J44])) (Hin := [.cells b23 159 c48]) (rest := [.cells b9 31 (L_law02_Act.enc x54), .ext bs43 J44, .cells b30 41 (L_ref02_Pool.enc x46), .ext bs32 J33, .ext bs25 J26]) (ks := [4, 0, 1, 2, 3, 5]) (c_pool_Pool_Read (K := (Hs [.ext bs25 J26, .ext bs43 J44])) (Lay.mono _ ent f49) hx93) rfl rfl rfl rfl (by decide)) (fun _ _ => ?_)
                      dsimp only [List.cons_append, List.nil_append]
                      refine WL_v rfl (VS_move rfl) ?_
                      refine WL_v rfl (VS_extract rfl rfl) ?_
                      refine WL_v rfl (VS_extract rfl rfl) ?_
                      refine WL_v rfl (VS_assign rfl) ?_
                      refine WL_v rfl (VS_assign rfl) ?_
                      refine WL_nil ?_
                      refine WQ_then ?_
                      refine WP_seq ?_
                      refine WP_region ?_
                      refine WL_v rfl (VS_move rfl) ?_
                      refine WL_v rfl (VS_conv rfl rfl) ?_
                      refine WL_v rfl (VS_assign rfl) ?_
                      refine WL_nil ?_
                      refine WQ_then ?_
                      refine WP_seq ?_
                      refine WP_region ?_
                      refine WL_v rfl (VS_move rfl) ?_
                      refine WL_v rfl (VS_assign rfl) ?_
                      refine WL_nil ?_
                      refine WQ_then ?_
                      refine WP_seq ?_
                      obtain ⟨x94, hx94, h⟩ := bd_e h
                      refine WP_region ?_
                      refine WL_v rfl (VS_move rfl) ?_
                      refine WL_v rfl (VS_field0 rfl) ?_
                      refine WL_v rfl (VS_ldi P_law02_Act_N rfl) ?_
                      refine WL_x rfl (RX_callH (K := (fun _ => True)) (Hin := [.cells b30 41 (L_ref02_Pool.enc x46)]) (rest := [.cells b23 159 c48, .cells b9 31 (L_law02_Act.enc x54), .ext bs43 J44, .ext bs32 J33, .ext bs25 J26]) (ks := [3, 0, 1, 2, 4, 5]) (c_ref02_Pool_At hx94) rfl rfl rfl rfl (by decide)) (fun _ _ => ?_)
                      dsimp only [List.cons_append, List.nil_append]
                      refine WL_v rfl (VS_assign rfl) ?_
                      refine WL_nil ?_
                      refine WQ_then ?_
                      refine WP_seq ?_
                      refine WP_region ?_
                      refine WL_v rfl (VS_move rfl) ?_
                      refine WL_v rfl (VS_eql rfl rfl) ?_
                      refine WL_nil ?_
                      refine WQ_then ?_
                      refine WP_if rfl (fun hc => ?_) (fun hc => ?_)
                      ·
                        replace h := cn_t hc h
                        obtain ⟨hg95, h⟩ := gu_e h
                        refine WP_draw mixed (.stg [] [(0, [7]), (1, [9]), (2, [137]), (3, [136]), (4, [139]), (5, [138, 140]), (6, [141]), (7, [142])] (.alt 8 [143] (.fin [] []) .no)) (by kernel_rfl) ?_
                        refine Stg_stg ?_ ?_
                        · exact ReOk_nil
                        refine NewOk_cons rfl rfl (VG_v rfl (VS_move rfl)) ?_
                        refine NewOk_cons rfl rfl (VG_v rfl (VS_field0 rfl)) ?_
                        refine NewOk_cons rfl rfl (VG_v rfl (VS_ldi P_law02_Act_N rfl)) ?_
                        refine NewOk_cons rfl rfl (VG_v rfl (VS_nilCheck rfl)) ?_
                        refine NewOk_cons rfl rfl (VG_v rfl (VS_field0 rfl)) ?_
                        refine NewOk_cons rfl rfl (VG_v rfl (VS_index (m := (Int.toNat x54.N)) rfl rfl (inb_e hg95).1 (inb_e hg95).2)) ?_
                        refine NewOk_cons rfl rfl (VG_v rfl (VS_ldi (P_ref02_Pool_B.comp (Pth.idx (L := (LI .u8)) (m := 2048) (k := 1) ((Int.toNat x54.N)) (inb_e hg95).2 rfl)) rfl)) ?_
                        refine NewOk_cons rfl rfl (VG_v rfl (VS_conv rfl rfl)) ?_
                        refine NewOk_nil ?_
                        refine Stg_some rfl rfl (RG_x rfl ((VS_assign rfl).rx)) (fun _ _ => ?_) Stg_no
                        refine Stg_fin ?_ ?_
                        · exact ReOk_nil
                        refine NewOk_nil ?_
                        refine WQ_block ?_
                        refine WQ_bundle (R := []) (H' := [.cells b30 41 (L_ref02_Pool.enc x46), .cells b23 159 c48, .cells b9 31 (L_law02_Act.enc x54), .ext bs43 J44, .ext bs32 J33, .ext bs25 J26]) (ks := [0, 1, 2, 3, 4, 5]) rfl (by decide) ?_
                        exact WQ_cuts (x93.2, x94, wr .i64 x93.1, wr .i64 (x46.B (Int.toNat x54.N)), x46, x47, c48, (blks []), (Hs [])) ⟨(Lay.mono _ ent f49), h⟩ (Sub_cons rfl (Sub_cons rfl (Sub_cons rfl (Sub_cons rfl (Sub_nil))))) (.cons rfl (.cons rfl (.cons rfl (.cons rfl (.cons rfl (.nil)))))) (ks := [0, 3, 4, 1, 5, 2, 6]) rfl (by decide)
                      ·
                        replace h := cn_f hc h
                        refine WP_skip ?_
                        refine WQ_block ?_
                        refine WQ_bundle (R := []) (H' := [.cells b30 41 (L_ref02_Pool.enc x46), .cells b23 159 c48, .cells b9 31 (L_law02_Act.enc x54), .ext bs43 J44, .ext bs32 J33, .ext bs25 J26]) (ks := [0, 1, 2, 3, 4, 5]) rfl (by decide) ?_
                        exact WQ_cuts (x93.2, x94, wr .i64 x93.1, 0, x46, x47, c48, (blks []), (Hs [])) ⟨(Lay.mono _ ent f49), h⟩ (Sub_cons rfl (Sub_cons rfl (Sub_cons rfl (Sub_cons rfl (Sub_nil))))) (.cons rfl (.cons rfl (.cons rfl (.cons rfl (.cons rfl (.nil)))))) (ks := [0, 3, 4, 1, 5, 2, 6]) rfl (by decide)
                    ·
                      replace h := cn_f hc h
                      refine WP_seq ?_
                      obtain ⟨x96, hx96, h⟩ := bd_e h
                      refine WP_region ?_
                      refine WL_v rfl (VS_move rfl) ?_
                      refine WL_v rfl (VS_field0 rfl) ?_
                      refine WL_v rfl (VS_ldi P_law02_Act_N rfl) ?_
                      refine WL_v rfl (VS_field0 rfl) ?_
                      refine WL_v rfl (VS_ldi P_law02_Act_B rfl) ?_
                      refine WL_x rfl (RX_callH (K := (Hs [.ext bs25 J26, .ext bs43 J44])) (Hin := [.cells b23 159 c48]) (rest := [.cells b9 31 (L_law02_Act.enc x54), .ext bs43 J44, .cells b30 41 (L_ref02_Pool.enc x46), .ext bs32 J33, .ext bs25 J26]) (ks := [4, 0, 1, 2, 3, 5]) (c_pool_Pool_Write (K := (Hs [.ext bs25 J26, .ext bs43 J44])) (Lay.mono _ ent f49) hx96) rfl rfl rfl rfl (by decide)) (fun ⟨w97, ho103, bs98, J99⟩ hp100 => ?_)
                      obtain ⟨c102, rfl, rfl, f101⟩ := hp100
                      replace f101 : (L_pool_Pool).rep (fun w => (Hs [.ext bs25 J26, .ext bs43 J44]) w ∧ Hs [.ext bs98 J99] w) c102 x96.2 := f101
                      dsimp only [List.cons_append, List.nil_append]
                      refine WL_v rfl (VS_assign rfl) ?_
                      refine WL_nil ?_
                      refine WQ_then ?_
                      refine WP_seq ?_
                      obtain ⟨x104, hx104, h⟩ := bd_e h
                      refine WP_region ?_
                      refine WL_v rfl (VS_move rfl) ?_
                      refine WL_v rfl (VS_field0 rfl) ?_
                      refine WL_v rfl (VS_ldi P_law02_Act_N rfl) ?_
                      refine WL_x rfl (RX_callH (K := (fun _ => True)) (Hin := [.cells b30 41 (L_ref02_Pool.enc x46)]) (rest := [.ext bs98 J99, .cells b23 159 c102, .cells b9 31 (L_law02_Act.enc x54), .ext bs43 J44, .ext bs32 J33, .ext bs25 J26]) (ks := [4, 0, 1, 2, 3, 5, 6]) (c_ref02_Pool_At hx104) rfl rfl rfl rfl (by decide)) (fun _ _ => ?_)
                      dsimp only [List.cons_append, List.nil_append]
                      refine WL_v rfl (VS_assign rfl) ?_
                      refine WL_nil ?_
                      refine WQ_then ?_
                      refine WP_seq ?_
                      refine WP_region ?_
                      refine WL_v rfl (VS_move rfl) ?_
                      refine WL_v rfl (VS_eql rfl rfl) ?_
                      refine WL_nil ?_
                      refine WQ_then ?_
                      refine WP_if rfl (fun hc => ?_) (fun hc => ?_)
                      ·
                        replace h := cn_t hc h
                        obtain ⟨hg105, h⟩ := gu_e h
                        obtain ⟨x106, hx106, h⟩ := lt_e h
                        refine WP_draw mixed (.stg [] [(0, [7]), (1, [9]), (2, [75]), (3, [9]), (4, [77]), (5, [74]), (6, [79]), (7, [76, 80])] (.alt 8 [78, 81] (.fin [] []) .no)) (by kernel_rfl) ?_
                        refine Stg_stg ?_ ?_
                        · exact ReOk_nil
                        refine NewOk_cons rfl rfl (VG_v rfl (VS_move rfl)) ?_
                        refine NewOk_cons rfl rfl (VG_v rfl (VS_field0 rfl)) ?_
                        refine NewOk_cons rfl rfl (VG_v rfl (VS_ldi P_law02_Act_N rfl)) ?_
                        refine NewOk_cons rfl rfl (VG_v rfl (VS_field0 rfl)) ?_
                        refine NewOk_cons rfl rfl (VG_v rfl (VS_ldi P_law02_Act_B rfl)) ?_
                        refine NewOk_cons rfl rfl (VG_v rfl (VS_nilCheck rfl)) ?_
                        refine NewOk_cons rfl rfl (VG_v rfl (VS_field0 rfl)) ?_
                        refine NewOk_cons rfl rfl (VG_v rfl (VS_index (m := (Int.toNat x54.N)) rfl rfl (inb_e hg105).1 (inb_e hg105).2)) ?_
                        refine NewOk_nil ?_
                        refine Stg_none rfl (RG_x rfl (RX_st (M := (LI .u8)) (P_ref02_Pool_B.comp (Pth.idx (L := (LI .u8)) (m := 2048) (k := 1) ((Int.toNat x54.N)) (inb_e hg105).2 rfl)) x54.B x106 hx106 rfl rfl rfl rfl)) (fun _ _ => ?_) Stg_no
                        refine Stg_fin ?_ ?_
                        · exact ReOk_nil
                        refine NewOk_nil ?_
                        refine WQ_block ?_
                        refine WQ_bundle (R := [.ext bs98 J99]) (H' := [.cells b30 41 (L_ref02_Pool.enc x106), .cells b23 159 c102, .cells b9 31 (L_law02_Act.enc x54), .ext bs43 J44, .ext bs32 J33, .ext bs25 J26]) (ks := [1, 0, 2, 3, 4, 5, 6]) rfl (by decide) ?_
                        exact WQ_cuts (x96.1, x104, 0, 0, x106, x96.2, c102, (blks [.ext bs98 J99]), (Hs [.ext bs98 J99])) ⟨(Lay.mono _ ent f101), h⟩ (Sub_cons rfl (Sub_cons rfl (Sub_cons rfl (Sub_cons rfl (Sub_nil))))) (.cons rfl (.cons rfl (.cons rfl (.cons rfl (.cons rfl (.nil)))))) (ks := [0, 3, 4, 1, 5, 2, 6]) rfl (by decide)
                      ·
                        replace h := cn_f hc h
                        refine WP_skip ?_
                        refine WQ_block ?_
                        refine WQ_bundle (R := [.ext bs98 J99]) (H' := [.cells b30 41 (L_ref02_Pool.enc x46), .cells b23 159 c102, .cells b9 31 (L_law02_Act.enc x54), .ext bs43 J44, .ext bs32 J33, .ext bs25 J26]) (ks := [1, 0, 2, 3, 4, 5, 6]) rfl (by decide) ?_
                        exact WQ_cuts (x96.1, x104, 0, 0, x46, x96.2, c102, (blks [.ext bs98 J99]), (Hs [.ext bs98 J99])) ⟨(Lay.mono _ ent f101), h⟩ (Sub_cons rfl (Sub_cons rfl (Sub_cons rfl (Sub_cons rfl (Sub_nil))))) (.cons rfl (.cons rfl (.cons rfl (.cons rfl (.cons rfl (.nil)))))) (ks := [0, 3, 4, 1, 5, 2, 6]) rfl (by decide)
            ·
              rintro ⟨x57, x58, x59, x60, x61, x62, c63, bs55, J56⟩ ⟨f64, h⟩
              replace h : j65 x57 x58 x59 x60 x61 x62 = some r := h
              replace h := jn6_u hj65 h
              refine WP_seq ?_
              refine WP_seq ?_
              refine WP_region ?_
              refine WL_v rfl (VS_move rfl) ?_
              refine WL_v rfl (VS_move rfl) ?_
              refine WL_v rfl (VS_neq rfl rfl) ?_
              refine WL_v rfl (VS_move rfl) ?_
              refine WL_g (Gd_b rfl rfl) rfl (fun hb => VS_move rfl) ?_
              refine WL_g (Gd_b rfl rfl) rfl (fun hb => VS_move rfl) ?_
              refine WL_g (Gd_b rfl rfl) rfl (fun hb => VS_neq (gev rfl hb) (gev rfl hb)) ?_
              refine WL_v rfl (VS_or rfl rfl) ?_
              refine WL_nil ?_
              refine WQ_then ?_
              refine WP_if rfl (fun hc => ?_) (fun hc => ?_)
              ·
                replace h := cn_t hc h
                refine WP_seq ?_
                refine WP_region ?_
                refine WL_v rfl (VS_assign rfl) ?_
                refine WL_nil ?_
                refine WQ_then ?_
                refine WP_ret ?_
                refine WQ_then_ret ?_
                refine WQ_block_ret ?_
                refine WQ_then_ret ?_
                refine WQ_then_ret ?_
                refine WQ_block_ret ?_
                refine WQ_then_ret ?_
                replace h := Option.some.inj h
                subst h
                exact WQ_ret () rfl (.tmp rfl .nil) trivial rfl (ks := []) rfl (by decide)
              ·
                replace h := cn_f hc h
                refine WP_skip ?_
                refine WQ_then ?_
                refine WP_seq ?_
                refine WP_region ?_
                refine WL_v rfl (VS_assign rfl) ?_
                refine WL_nil ?_
                refine WQ_then ?_
                refine WP_seq ?_
                refine WP_seq ?_
                refine WP_region ?_
                refine WL_v rfl (VS_assign rfl) ?_
                refine WL_nil ?_
                refine WQ_then ?_
                refine WP_block ?_
                obtain ⟨lb111, hlb111, h⟩ := lp2_i h
                refine WP_loops (α := Nat × Int × Int) [0, 1, 5, 7, 8] (.cons rfl (.cons rfl (.cons rfl (.cons rfl (.cons rfl (.nil)))))) (fun (m112, x109, x110) => [(16, .int .u64 x109), (17, .int .i64 x110)]) (fun (m112, x109, x110) => [.ext bs55 J56, .cells b9 31 (L_law02_Act.enc x54), .ext bs43 J44, .cells b30 41 (L_ref02_Pool.enc x61), .ext bs32 J33, .cells b23 159 c63, .ext bs25 J26]) (fun (m112, x109, x110) => loop2 lb111 m112 x109 x110 = some r) (fun (m112, x109, x110) => m112) (n, 0, 0) h (Sub_cons rfl (Sub_cons rfl (Sub_nil))) (ks := [0, 1, 2, 3, 4, 5, 6]) rfl (by decide) ?_
                rintro ⟨m112, x109, x110⟩ h
                replace h : loop2 lb111 m112 x109 x110 = some r := h
                replace h := lp2_s hlb111 h
                obtain ⟨m112, rfl, h⟩ := h
                refine WP_seq ?_
                refine WP_seq ?_
                refine WP_region ?_
                refine WL_v rfl (VS_move rfl) ?_
                refine WL_v rfl (VS_lss rfl rfl) ?_
                refine WL_nil ?_
                refine WQ_then ?_
                refine WP_if rfl (fun hc => ?_) (fun hc => ?_)
                ·
                  replace h := cn_t hc h
                  refine WP_skip ?_
                  refine WQ_then ?_
                  refine WP_seq ?_
                  refine WP_block ?_
                  refine WP_seq ?_
                  obtain ⟨hg114, h⟩ := gu_e h
                  refine WP_region ?_
                  refine WL_v rfl (VS_move rfl) ?_
                  refine WL_v rfl (VS_move rfl) ?_
                  refine WL_v rfl (VS_nilCheck rfl) ?_
                  refine WL_v rfl (VS_field0 rfl) ?_
                  refine WL_v rfl (VS_index (m := (Int.toNat x110)) rfl rfl (inb_e hg114).1 (inb_e hg114).2) ?_
                  refine WL_v rfl (VS_ldb (P_ref02_Pool_Free.comp (Pth.idx (L := LB) (m := 64) (k := 1) ((Int.toNat x110)) (inb_e hg114).2 rfl)) rfl) ?_
                  refine WL_nil ?_
                  refine WQ_then ?_
                  refine WP_if rfl (fun hc => ?_) (fun hc => ?_)
                  ·
                    replace h := cn_t hc h
                    obtain ⟨hg115, h⟩ := gu_e h
                    refine WP_region ?_
                    refine WL_v rfl (VS_move rfl) ?_
                    refine WL_v rfl (VS_move rfl) ?_
                    refine WL_v rfl (VS_shlI rfl rfl (ge0_e hg115)) ?_
                    refine WL_v rfl (VS_orI rfl rfl) ?_
                    refine WL_v rfl (VS_assign rfl) ?_
                    refine WL_nil ?_
                    refine WQ_block ?_
                    refine WQ_then ?_
                    refine WP_region ?_
                    refine WL_v rfl (VS_move rfl) ?_
                    refine WL_v rfl (VS_add rfl rfl rfl) ?_
                    refine WL_v rfl (VS_assign rfl) ?_
                    refine WL_nil ?_
                    exact WQ_loops (m112, orI .u64 x109 (shlI .u64 1 x110), wr .i64 (x110 + 1)) (Nat.lt_succ_self _) h (Sub_cons rfl (Sub_cons rfl (Sub_nil))) (.cons rfl (.cons rfl (.cons rfl (.cons rfl (.cons rfl (.nil)))))) (ks := [0, 1, 2, 3, 4, 5, 6]) rfl (by decide)
                  ·
                    replace h := cn_f hc h
                    refine WP_skip ?_
                    refine WQ_block ?_
                    refine WQ_then ?_
                    refine WP_region ?_
                    refine WL_v rfl (VS_move rfl) ?_
                    refine WL_v rfl (VS_add rfl rfl rfl) ?_
                    refine WL_v rfl (VS_assign rfl) ?_
                    refine WL_nil ?_
                    exact WQ_loops (m112, x109, wr .i64 (x110 + 1)) (Nat.lt_succ_self _) h (Sub_cons rfl (Sub_cons rfl (Sub_nil))) (.cons rfl (.cons rfl (.cons rfl (.cons rfl (.cons rfl (.nil)))))) (ks := [0, 1, 2, 3, 4, 5, 6]) rfl (by decide)
                ·
                  replace h := cn_f hc h
                  refine WP_exit ?_
                  refine WQ_then_exit ?_
                  refine WQ_then_exit ?_
                  refine WQ_block_exit ?_
                  refine WQ_then ?_
                  refine WP_seq ?_
                  obtain ⟨x116, hx116, h⟩ := bd_e h
                  obtain ⟨x124, hx124, h⟩ := bd_e h
                  obtain ⟨x125, hx125, _, h⟩ := cl_e h
                  refine WP_region ?_
                  refine WL_v rfl (VS_move rfl) ?_
                  refine WL_x rfl (RX_callH (K := (Hs [.ext bs25 J26, .ext bs43 J44, .ext bs55 J56])) (Hin := [.cells b23 159 c63]) (rest := [.ext bs55 J56, .cells b9 31 (L_law02_Act.enc x54), .ext bs43 J44, .cells b30 41 (L_ref02_Pool.enc x61), .ext bs32 J33, .ext bs25 J26]) (ks := [5, 0, 1, 2, 3, 4, 6]) (c_pool_Pool_Free (K := (Hs [.ext bs25 J26, .ext bs43 J44, .ext bs55 J56])) (Lay.mono _ ent f64) hx116) rfl rfl rfl rfl (by decide)) (fun ⟨w117, ho123, bs118, J119⟩ hp120 => ?_)
                  obtain ⟨c122, rfl, rfl, f121⟩ := hp120
                  replace f121 : (L_runs_Runs).rep (fun w => (Hs [.ext bs25 J26, .ext bs43 J44, .ext bs55 J56]) w ∧ Hs [.ext bs118 J119] w) c122 x116 := f121
                  dsimp only [List.cons_append, List.nil_append]
                  refine WL_v rfl (VS_call (c_runs_Runs_Mask (K := (Hs [.ext bs118 J119, .ext bs25 J26, .ext bs43 J44, .ext bs55 J56])) (Lay.mono _ ent f121) hx124) rfl kn) ?_
                  refine WL_v rfl (VS_move rfl) ?_
                  refine WL_v rfl (VS_neq rfl rfl) ?_
                  refine WL_v rfl (VS_move rfl) ?_
                  refine WL_g (Gd_b rfl rfl) rfl (fun hb => VS_move rfl) ?_
                  refine WL_callHg (Gd_b rfl rfl) rfl (fun hb => c_pool_Pool_Pages (K := (Hs [.ext bs25 J26, .ext bs43 J44, .ext bs55 J56])) (Lay.mono _ ent f64) (hx125 hb)) (fun hb => rfl) (fun hb => (evs_cons (gev rfl hb) rfl)) rfl (Hin := [.cells b23 159 c63]) (rst := [.ext bs118 J119, .ext bs55 J56, .cells b9 31 (L_law02_Act.enc x54), .ext bs43 J44, .cells b30 41 (L_ref02_Pool.enc x61), .ext bs32 J33, .ext bs25 J26]) (ks := [1, 0, 2, 3, 4, 5, 6, 7]) rfl (by decide) (fun hb => inferInstance) ?_
                  dsimp only [List.cons_append, List.nil_append]
                  refine WL_g (Gd_b rfl rfl) rfl (fun hb => VS_move rfl) ?_
                  refine WL_g (Gd_b rfl rfl) rfl (fun hb => VS_neq (gev rfl hb) (gev rfl hb)) ?_
                  refine WL_v rfl (VS_or rfl rfl) ?_
                  refine WL_nil ?_
                  refine WQ_then ?_
                  refine WP_if rfl (fun hc => ?_) (fun hc => ?_)
                  ·
                    replace h := cn_t hc h
                    refine WP_seq ?_
                    refine WP_region ?_
                    refine WL_v rfl (VS_assign rfl) ?_
                    refine WL_nil ?_
                    refine WQ_then ?_
                    refine WP_ret ?_
                    refine WQ_block_ret ?_
                    refine WQ_then_ret ?_
                    refine WQ_then_ret ?_
                    refine WQ_block_ret ?_
                    refine WQ_then_ret ?_
                    replace h := Option.some.inj h
                    subst h
                    exact WQ_ret () rfl (.tmp rfl .nil) trivial rfl (ks := []) rfl (by decide)
                  ·
                    replace h := cn_f hc h
                    refine WP_skip ?_
                    refine WQ_block ?_
                    refine WQ_then ?_
                    refine WP_region ?_
                    refine WL_v rfl (VS_move rfl) ?_
                    refine WL_v rfl (VS_add rfl rfl rfl) ?_
                    refine WL_v rfl (VS_assign rfl) ?_
                    refine WL_nil ?_
                    refine WQ_bundle (R := [.ext bs55 J56, .ext bs43 J44]) (H' := [.cells b23 159 c63, .ext bs118 J119, .cells b9 31 (L_law02_Act.enc x54), .cells b30 41 (L_ref02_Pool.enc x61), .ext bs32 J33, .ext bs25 J26]) (ks := [2, 4, 0, 1, 3, 5, 6, 7]) rfl (by decide) ?_
                    exact WQ_loops (m51, wr .i64 (x45 + 1), x61, x62, c63, (blks [.ext bs55 J56, .ext bs43 J44]), (Hs [.ext bs55 J56, .ext bs43 J44])) (Nat.lt_succ_self _) ⟨(Lay.mono _ ent f64), h⟩ (Sub_cons rfl (Sub_nil)) (.cons rfl (.cons rfl (.cons rfl (.cons rfl (.nil))))) (ks := [0, 4, 5, 1, 6]) rfl (by decide)
          ·
            replace h := cn_f hc h
            refine WP_exit ?_
            refine WQ_then_exit ?_
            refine WQ_then_exit ?_
            refine WQ_block_exit ?_
            refine WQ_then ?_
            refine WP_seq ?_
            obtain ⟨x126, hx126, h⟩ := bd_e h
            refine WP_region ?_
            refine WL_v rfl (VS_call (c_law02_wakes hx126) rfl (fun _ _ _ => trivial)) ?_
            refine WL_v rfl (VS_assign rfl) ?_
            refine WL_nil ?_
            refine WQ_then ?_
            refine WP_ret ?_
            replace h := Option.some.inj h
            subst h
            exact WQ_ret () rfl (.tmp rfl .nil) trivial rfl (ks := []) rfl (by decide)
end Go.Proofs.Ytmdpbdhkmfjlhaa
