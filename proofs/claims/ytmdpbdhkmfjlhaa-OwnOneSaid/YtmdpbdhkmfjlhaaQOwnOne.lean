/- PROVED HERE: Rows.OwnOneSaid: for every list of acts, bailiwicklaw08.OwnOne returns true and leaves its arguments as they were. No condition. -/
import Derived.Test.YtmdpbdhkmfjlhaaRows
import Derived.Test.YtmdpbdhkmfjlhaaQ3
namespace Go.Proofs.Ytmdpbdhkmfjlhaa.ownOne
open Go.ChangeShapes Go.WideShapes Go.ChangeAt Go.RowKit Go.Bw
set_option maxRecDepth 100000 in
theorem Ad {W:World}:Em Try.prog W 114 bw (fun z=>((0 ≤ z.Do∧z.Do ≤ 255)∧(0 ≤ z.A∧z.A ≤ 4294967295)∧(0 ≤ z.B∧z.B ≤ 4294967295)∧(0 ≤ z.C∧z.C ≤ 4294967295)∧(-9223372036854775808 ≤ z.bu∧z.bu ≤ 9223372036854775807))):=by
  intro H enc base spare held n cs y h
  obtain ⟨hl,hp⟩:=uA Try.underlying114 h
  have hl:cs.length = 5:=hl.trans (by kernel_rfl)
  obtain ⟨_,_,h0⟩:=hp 0 _ rfl
  obtain ⟨z0,r0,b0⟩:=(DS Try.underlying5) H enc base spare held _ _ _ h0
  change ((LI .u8)).rep _ (List.take (Try.prog.cellsOf 5) (List.drop 0 cs)) z0 at r0
  rw [show Try.prog.cellsOf 5 = 1 from by kernel_rfl] at r0
  obtain ⟨_,_,h1⟩:=hp 1 _ rfl
  obtain ⟨z1,r1,b1⟩:=(sM Try.underlying61) H enc base spare held _ _ _ h1
  change ((LI .u32)).rep _ (List.take (Try.prog.cellsOf 61) (List.drop 1 cs)) z1 at r1
  rw [show Try.prog.cellsOf 61 = 1 from by kernel_rfl] at r1
  obtain ⟨_,_,h2⟩:=hp 2 _ rfl
  obtain ⟨z2,r2,b2⟩:=(sM Try.underlying61) H enc base spare held _ _ _ h2
  change ((LI .u32)).rep _ (List.take (Try.prog.cellsOf 61) (List.drop 2 cs)) z2 at r2
  rw [show Try.prog.cellsOf 61 = 1 from by kernel_rfl] at r2
  obtain ⟨_,_,h3⟩:=hp 3 _ rfl
  obtain ⟨z3,r3,b3⟩:=(sM Try.underlying61) H enc base spare held _ _ _ h3
  change ((LI .u32)).rep _ (List.take (Try.prog.cellsOf 61) (List.drop 3 cs)) z3 at r3
  rw [show Try.prog.cellsOf 61 = 1 from by kernel_rfl] at r3
  obtain ⟨_,_,h4⟩:=hp 4 _ rfl
  obtain ⟨z4,r4,b4⟩:=(Bn Try.underlying3) H enc base spare held _ _ _ h4
  change ((LI .i64)).rep _ (List.take (Try.prog.cellsOf 3) (List.drop 4 cs)) z4 at r4
  rw [show Try.prog.cellsOf 3 = 1 from by kernel_rfl] at r4
  refine ⟨⟨z0,z1,z2,z3,z4⟩,?_,b0,b1,b2,b3,b4⟩
  show (LP (LI .u8) (LP (LI .u32) (LP (LI .u32) (LP (LI .u32) (LI .i64))))).rep _ (List.drop 0 cs) (z0,z1,z2,z3,z4)
  exact (o6 (by kernel_rfl) r0 (o6 (by kernel_rfl) r1 (o6 (by kernel_rfl) r2 (o6 (by kernel_rfl) r3 (DU hl r4)))))
theorem own:ownKnob Try.prog.godebug = none:=by kernel_rfl
theorem laidOut:laidOutB Try.prog = true:=by kernel_rfl
set_option maxRecDepth 100000 in
theorem lifted (os:Os) (started:os.Started) (H:Type) (enc:TypeId × Value→H) :
    ReturnsInHanded {} Try.checked os 12 .any (Rows.ownOneSpec.pre6 enc Try.prog Try.f12 Rows.ownOneRow.domain false) (Rows.ownOneSpec.post enc Try.prog Try.f12 false true false false):=by
  refine returnsInHanded_of_change (C:=Try.checked) own started (by kernel_rfl) Try.func12
    (ChangeSpec.witness6 (enc:=enc) (C:=Try.checked) false ⟨#[],#[.slice none 0 0],[]⟩ 8 (by kernel_rfl) (by kernel_rfl) (by kernel_rfl) (by kernel_rfl)) ?_
  intro W base args ds gs before BK hW My _
  have hval:∀(j:Nat) t v,Try.f12.params[j]? = some t→args[j]? = some v→Value.okWide Try.prog W .any base t v:=BK
  have MC:=hW
  obtain ⟨p,q,K0,hV,rfl,hfz,xF⟩:=hW
  have hA:DataW.TrodAll enc Try.prog W 0 (fun _=>true) true Try.f12.params.toList args.toList ds p:=K0
  rw [Try.params12] at hA hval
  obtain ⟨v0,Nx,d0,ND,p0,q0,hargs,rfl,rfl,h0,r0⟩:=trodAll_cons hA
  obtain ⟨rfl,rfl,rfl⟩:=trodAll_nil r0
  obtain rfl:args = #[v0]:=by cases args; simp_all
  obtain ⟨rfl,rfl⟩:=trodVars_none hV
  obtain ⟨a0,L2,ML,rfl⟩:=okWide_slice Try.underlying111 (hval 0 111 v0 rfl rfl)
  have k0:=h0
  have L0:∀x ∈ p0,x.block < W.heap.size:=by obtain ⟨m,hm⟩:=k0; exact DataW.trod_lt m _ _ _ hm
  obtain ⟨K2,JG⟩:=h0
  obtain ⟨z0,LJ,b0⟩:=(DT (L:=bw) (sz:=5) Try.underlying111 (by kernel_rfl) (by kernel_rfl) (by decide) Ad) H enc _ _ _ _ _ _ JG
  clear K0 BK
  refine ((p5 (K:=fun w=>aZ [] W w) (EG LJ) (wT b0)).calls W (aZ.refl _ _) (bL.nil _ _ _)).mono fun e W' ⟨_,_,he,hsi,_⟩=>?_
  have La:=Below.ym hsi
  subst he
  exact ⟨_,rfl,_,_,_,[],_,[],MC,trodAll_mk1 (shut_bool Try.underlying4 _),(trodAll_cons_mk (Below.trod laidOut (by kernel_rfl) (of_decide_eq_true (by kernel_rfl)) k0 La L0) trodAll_mk0),rfl,La.frame _,fun h=>by cases h⟩
theorem Ie:Rows.ownOneRow.holds Try.pinned (OpenSpec.ofChange Rows.ownOneSpec):=
  OpenClaim.holds_of_wide 12 Try.f12 rfl rfl rfl rfl rfl rfl rfl ⟨rfl,rfl,rfl,rfl,rfl⟩ rfl rfl rfl rfl rfl (by kernel_rfl) Try.func12 (by kernel_rfl)
    (of_decide_eq_true (by kernel_rfl)) (by unfold Func.isWrapper; first | (rw [if_pos (by decide +kernel)]; kernel_rfl) | (rw [if_neg (by decide +kernel)]; exact ⟨rfl,rfl⟩))
    (fun os started H enc _=>lifted os started H enc)
theorem proved:Rows.OwnOneSaid:=Ie
#print axioms proved
end Go.Proofs.Ytmdpbdhkmfjlhaa.ownOne
