/- PROVED HERE: Rows.OwnPlaysSaid: for every list of acts, task and handle, bailiwicklaw08.OwnPlays returns true and leaves its arguments as they were. No condition. -/
import Derived.Test.YtmdpbdhkmfjlhaaGreatRows
import Derived.Test.YtmdpbdhkmfjlhaaGreatQ4
namespace Go.Proofs.YtmdpbdhkmfjlhaaGreat.ownPlays
open Go.ChangeShapes Go.WideShapes Go.ChangeAt Go.RowKit Go.Bw
set_option maxRecDepth 100000 in
theorem GL {W:World}:Jj Tryz.prog W 66 bM (fun z=>((0 ≤ z.Do∧z.Do ≤ 255)∧(0 ≤ z.A∧z.A ≤ 4294967295)∧(0 ≤ z.B∧z.B ≤ 4294967295)∧(0 ≤ z.C∧z.C ≤ 4294967295)∧(-9223372036854775808 ≤ z.bP∧z.bP ≤ 9223372036854775807))):=by
  intro H enc base spare held n cs y h
  obtain ⟨hl,hp⟩:=yH Tryz.underlying66 h
  have hl:cs.length = 5:=hl.trans (by kernel_rfl)
  obtain ⟨_,_,h0⟩:=hp 0 _ rfl
  obtain ⟨z0,r0,b0⟩:=(IM Tryz.underlying5) H enc base spare held _ _ _ h0
  change ((LI .u8)).rep _ (List.take (Tryz.prog.cellsOf 5) (List.drop 0 cs)) z0 at r0
  rw [show Tryz.prog.cellsOf 5 = 1 from by kernel_rfl] at r0
  obtain ⟨_,_,h1⟩:=hp 1 _ rfl
  obtain ⟨z1,r1,b1⟩:=(wZ Tryz.underlying23) H enc base spare held _ _ _ h1
  change ((LI .u32)).rep _ (List.take (Tryz.prog.cellsOf 23) (List.drop 1 cs)) z1 at r1
  rw [show Tryz.prog.cellsOf 23 = 1 from by kernel_rfl] at r1
  obtain ⟨_,_,h2⟩:=hp 2 _ rfl
  obtain ⟨z2,r2,b2⟩:=(wZ Tryz.underlying23) H enc base spare held _ _ _ h2
  change ((LI .u32)).rep _ (List.take (Tryz.prog.cellsOf 23) (List.drop 2 cs)) z2 at r2
  rw [show Tryz.prog.cellsOf 23 = 1 from by kernel_rfl] at r2
  obtain ⟨_,_,h3⟩:=hp 3 _ rfl
  obtain ⟨z3,r3,b3⟩:=(wZ Tryz.underlying23) H enc base spare held _ _ _ h3
  change ((LI .u32)).rep _ (List.take (Tryz.prog.cellsOf 23) (List.drop 3 cs)) z3 at r3
  rw [show Tryz.prog.cellsOf 23 = 1 from by kernel_rfl] at r3
  obtain ⟨_,_,h4⟩:=hp 4 _ rfl
  obtain ⟨z4,r4,b4⟩:=(Fc Tryz.underlying3) H enc base spare held _ _ _ h4
  change ((LI .i64)).rep _ (List.take (Tryz.prog.cellsOf 3) (List.drop 4 cs)) z4 at r4
  rw [show Tryz.prog.cellsOf 3 = 1 from by kernel_rfl] at r4
  refine ⟨⟨z0,z1,z2,z3,z4⟩,?_,b0,b1,b2,b3,b4⟩
  show (LP (LI .u8) (LP (LI .u32) (LP (LI .u32) (LP (LI .u32) (LI .i64))))).rep _ (List.drop 0 cs) (z0,z1,z2,z3,z4)
  exact (sZ (by kernel_rfl) r0 (sZ (by kernel_rfl) r1 (sZ (by kernel_rfl) r2 (sZ (by kernel_rfl) r3 (IP hl r4)))))
theorem own:ownKnob Tryz.prog.godebug = none:=by kernel_rfl
theorem laidOut:laidOutB Tryz.prog = true:=by kernel_rfl
set_option maxRecDepth 100000 in
theorem lifted (os:Os) (started:os.Started) (H:Type) (enc:TypeId × Value→H) :
    ReturnsInHanded {} Tryz.checked os 3 .any (Rows.ownPlaysSpec.pre6 enc Tryz.prog Tryz.f3 Rows.ownPlaysRow.domain false) (Rows.ownPlaysSpec.post enc Tryz.prog Tryz.f3 false true false false):=by
  refine returnsInHanded_of_change (C:=Tryz.checked) own started (by kernel_rfl) Tryz.func3
    (ChangeSpec.witness6 (enc:=enc) (C:=Tryz.checked) false ⟨#[],#[.slice none 0 0, .int .i64 0, .int .u32 0],[]⟩ 8 (by kernel_rfl) (by kernel_rfl) (by kernel_rfl) (by kernel_rfl)) ?_
  intro W base args ds gs before FF hW SJ _
  have hval:∀(j:Nat) t v,Tryz.f3.params[j]? = some t→args[j]? = some v→Value.okWide Tryz.prog W .any base t v:=FF
  have SO:=hW
  obtain ⟨p,q,QT,hV,rfl,hfz,DN⟩:=hW
  have hA:DataW.TrodAll enc Tryz.prog W 0 (fun _=>true) true Tryz.f3.params.toList args.toList ds p:=QT
  rw [Tryz.params3] at hA hval
  obtain ⟨v0,TY,d0,T6,p0,q0,hargs,rfl,rfl,h0,r0⟩:=trodAll_cons hA
  obtain ⟨v1,TX,d1,T5,p1,q1,rfl,rfl,rfl,h1,r1⟩:=trodAll_cons r0
  obtain ⟨v2,TW,d2,T4,p2,q2,rfl,rfl,rfl,h2,r2⟩:=trodAll_cons r1
  obtain ⟨rfl,rfl,rfl⟩:=trodAll_nil r2
  obtain rfl:args = #[v0,v1,v2]:=by cases args; simp_all
  obtain ⟨rfl,rfl⟩:=trodVars_none hV
  obtain ⟨a0,Sg,SZ,rfl⟩:=okWide_slice Tryz.underlying22 (hval 0 22 v0 rfl rfl)
  have k0:=h0
  have Se:∀x ∈ p0,x.block < W.heap.size:=by obtain ⟨m,hm⟩:=k0; exact DataW.trod_lt m _ _ _ hm
  obtain ⟨QV,Pf⟩:=h0
  obtain ⟨z0,RT,b0⟩:=(IN (L:=bM) (sz:=5) Tryz.underlying22 (by kernel_rfl) (by kernel_rfl) (by decide) GL) H enc _ _ _ _ _ _ Pf
  obtain ⟨a1,rfl,rfl,rfl,w1⟩:=open_int Tryz.underlying3 (hval 1 3 v1 rfl rfl) h1
  have b1:=bounds_i64 w1
  obtain ⟨a2,rfl,rfl,rfl,w2⟩:=open_int Tryz.underlying23 (hval 2 23 v2 rfl rfl) h2
  have b2:=bounds_u32 w2
  clear QT FF
  refine ((rS (K:=fun w=>bF [] W w) (JC RT) (xB b0 b1 b2)).calls W (bF.refl _ _) (cJ.nil _ _ _)).mono fun e W' ⟨_,_,he,hsi,_⟩=>?_
  have Q6:=Below.B7 hsi
  subst he
  exact ⟨_,rfl,_,_,_,[],_,[],SO,trodAll_mk1 (shut_bool Tryz.underlying4 _),(trodAll_cons_mk (Below.trod laidOut (by kernel_rfl) (of_decide_eq_true (by kernel_rfl)) k0 Q6 Se) (trodAll_cons_mk (shut_int Tryz.underlying3 w1) (trodAll_cons_mk (shut_int Tryz.underlying23 w2) trodAll_mk0))),rfl,Q6.frame _,fun h=>by cases h⟩
theorem NA:Rows.ownPlaysRow.holds Tryz.pinned (OpenSpec.ofChange Rows.ownPlaysSpec):=
  OpenClaim.holds_of_wide 3 Tryz.f3 rfl rfl rfl rfl rfl rfl rfl ⟨rfl,rfl,rfl,rfl,rfl⟩ rfl rfl rfl rfl rfl (by kernel_rfl) Tryz.func3 (by kernel_rfl)
    (of_decide_eq_true (by kernel_rfl)) (by unfold Func.isWrapper; first | (rw [if_pos (by decide +kernel)]; kernel_rfl) | (rw [if_neg (by decide +kernel)]; exact ⟨rfl,rfl⟩))
    (fun os started H enc _=>lifted os started H enc)
theorem proved:Rows.OwnPlaysSaid:=NA
#print axioms proved
end Go.Proofs.YtmdpbdhkmfjlhaaGreat.ownPlays
