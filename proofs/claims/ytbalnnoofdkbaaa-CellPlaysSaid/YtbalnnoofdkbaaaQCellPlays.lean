/- PROVED HERE: Rows.CellPlaysSaid: for every list of acts, a region and a cell, bailiwicklaw07.CellPlays returns true and leaves its arguments as they were. No condition. -/
import Derived.Test.YtbalnnoofdkbaaaRows
import Derived.Test.YtbalnnoofdkbaaaQ4
namespace Go.Proofs.Ytbalnnoofdkbaaa.cellPlays
open Go.ChangeShapes Go.WideShapes Go.ChangeAt Go.RowKit Go.Bw
set_option maxRecDepth 100000 in
theorem Eh {W:World}:GD Try.prog W 55 bS (fun z=>((0 ≤ z.Do∧z.Do ≤ 255)∧(0 ≤ z.A∧z.A ≤ 4294967295)∧(0 ≤ z.B∧z.B ≤ 4294967295)∧(0 ≤ z.C∧z.C ≤ 4294967295)∧(-9223372036854775808 ≤ z.cq∧z.cq ≤ 9223372036854775807))):=by
  intro H enc base spare held n cs y h
  obtain ⟨hl,hp⟩:=wA Try.underlying55 h
  have hl:cs.length = 5:=hl.trans (by kernel_rfl)
  obtain ⟨_,_,h0⟩:=hp 0 _ rfl
  obtain ⟨z0,r0,b0⟩:=(Gb Try.underlying5) H enc base spare held _ _ _ h0
  change ((LI .u8)).rep _ (List.take (Try.prog.cellsOf 5) (List.drop 0 cs)) z0 at r0
  rw [show Try.prog.cellsOf 5 = 1 from by kernel_rfl] at r0
  obtain ⟨_,_,h1⟩:=hp 1 _ rfl
  obtain ⟨z1,r1,b1⟩:=(uN Try.underlying23) H enc base spare held _ _ _ h1
  change ((LI .u32)).rep _ (List.take (Try.prog.cellsOf 23) (List.drop 1 cs)) z1 at r1
  rw [show Try.prog.cellsOf 23 = 1 from by kernel_rfl] at r1
  obtain ⟨_,_,h2⟩:=hp 2 _ rfl
  obtain ⟨z2,r2,b2⟩:=(uN Try.underlying23) H enc base spare held _ _ _ h2
  change ((LI .u32)).rep _ (List.take (Try.prog.cellsOf 23) (List.drop 2 cs)) z2 at r2
  rw [show Try.prog.cellsOf 23 = 1 from by kernel_rfl] at r2
  obtain ⟨_,_,h3⟩:=hp 3 _ rfl
  obtain ⟨z3,r3,b3⟩:=(uN Try.underlying23) H enc base spare held _ _ _ h3
  change ((LI .u32)).rep _ (List.take (Try.prog.cellsOf 23) (List.drop 3 cs)) z3 at r3
  rw [show Try.prog.cellsOf 23 = 1 from by kernel_rfl] at r3
  obtain ⟨_,_,h4⟩:=hp 4 _ rfl
  obtain ⟨z4,r4,b4⟩:=(Db Try.underlying3) H enc base spare held _ _ _ h4
  change ((LI .i64)).rep _ (List.take (Try.prog.cellsOf 3) (List.drop 4 cs)) z4 at r4
  rw [show Try.prog.cellsOf 3 = 1 from by kernel_rfl] at r4
  refine ⟨⟨z0,z1,z2,z3,z4⟩,?_,b0,b1,b2,b3,b4⟩
  show (LP (LI .u8) (LP (LI .u32) (LP (LI .u32) (LP (LI .u32) (LI .i64))))).rep _ (List.drop 0 cs) (z0,z1,z2,z3,z4)
  exact (qL (by kernel_rfl) r0 (qL (by kernel_rfl) r1 (qL (by kernel_rfl) r2 (qL (by kernel_rfl) r3 (Ge hl r4)))))
theorem own:ownKnob Try.prog.godebug = none:=by kernel_rfl
theorem laidOut:laidOutB Try.prog = true:=by kernel_rfl
set_option maxRecDepth 100000 in
theorem lifted (os:Os) (started:os.Started) (H:Type) (enc:TypeId × Value→H) :
    ReturnsInHanded {} Try.checked os 3 .any (Rows.cellPlaysSpec.pre6 enc Try.prog Try.f3 Rows.cellPlaysRow.domain false) (Rows.cellPlaysSpec.post enc Try.prog Try.f3 false true false false):=by
  refine returnsInHanded_of_change (C:=Try.checked) own started (by kernel_rfl) Try.func3
    (ChangeSpec.witness6 (enc:=enc) (C:=Try.checked) false ⟨#[],#[.slice none 0 0, .int .u32 0, .int .i64 0],[]⟩ 8 (by kernel_rfl) (by kernel_rfl) (by kernel_rfl) (by kernel_rfl)) ?_
  intro W base args ds gs before Dx hW Qo _
  have hval:∀(j:Nat) t v,Try.f3.params[j]? = some t→args[j]? = some v→Value.okWide Try.prog W .any base t v:=Dx
  have Qs:=hW
  obtain ⟨p,q,OD,hV,rfl,hfz,BE⟩:=hW
  have hA:DataW.TrodAll enc Try.prog W 0 (fun _=>true) true Try.f3.params.toList args.toList ds p:=OD
  rw [Try.params3] at hA hval
  obtain ⟨v0,RD,d0,RP,p0,q0,hargs,rfl,rfl,h0,r0⟩:=trodAll_cons hA
  obtain ⟨v1,RC,d1,RN,p1,q1,rfl,rfl,rfl,h1,r1⟩:=trodAll_cons r0
  obtain ⟨v2,RA,d2,RM,p2,q2,rfl,rfl,rfl,h2,r2⟩:=trodAll_cons r1
  obtain ⟨rfl,rfl,rfl⟩:=trodAll_nil r2
  obtain rfl:args = #[v0,v1,v2]:=by cases args; simp_all
  obtain ⟨rfl,rfl⟩:=trodVars_none hV
  obtain ⟨a0,PU,QB,rfl⟩:=okWide_slice Try.underlying22 (hval 0 22 v0 rfl rfl)
  have k0:=h0
  have PS:∀x ∈ p0,x.block < W.heap.size:=by obtain ⟨m,hm⟩:=k0; exact DataW.trod_lt m _ _ _ hm
  obtain ⟨OF,MN⟩:=h0
  obtain ⟨z0,Pp,b0⟩:=(Gc (L:=bS) (sz:=5) Try.underlying22 (by kernel_rfl) (by kernel_rfl) (by decide) Eh) H enc _ _ _ _ _ _ MN
  obtain ⟨a1,rfl,rfl,rfl,w1⟩:=open_int Try.underlying23 (hval 1 23 v1 rfl rfl) h1
  have b1:=bounds_u32 w1
  obtain ⟨a2,rfl,rfl,rfl,w2⟩:=open_int Try.underlying3 (hval 2 3 v2 rfl rfl) h2
  have b2:=bounds_i64 w2
  clear OD Dx
  refine ((pq (K:=fun w=>bw [] W w) (G4 Pp) (vg b0 b1 b2)).calls W (bw.refl _ _) (cy.nil _ _ _)).mono fun e W' ⟨_,_,he,hsi,_⟩=>?_
  have ON:=Below.z8 hsi
  subst he
  exact ⟨_,rfl,_,_,_,[],_,[],Qs,trodAll_mk1 (shut_bool Try.underlying4 _),(trodAll_cons_mk (Below.trod laidOut (by kernel_rfl) (of_decide_eq_true (by kernel_rfl)) k0 ON PS) (trodAll_cons_mk (shut_int Try.underlying23 w1) (trodAll_cons_mk (shut_int Try.underlying3 w2) trodAll_mk0))),rfl,ON.frame _,fun h=>by cases h⟩
theorem K4:Rows.cellPlaysRow.holds Try.pinned (OpenSpec.ofChange Rows.cellPlaysSpec):=
  OpenClaim.holds_of_wide 3 Try.f3 rfl rfl rfl rfl rfl rfl rfl ⟨rfl,rfl,rfl,rfl,rfl⟩ rfl rfl rfl rfl rfl (by kernel_rfl) Try.func3 (by kernel_rfl)
    (of_decide_eq_true (by kernel_rfl)) (by unfold Func.isWrapper; first | (rw [if_pos (by decide +kernel)]; kernel_rfl) | (rw [if_neg (by decide +kernel)]; exact ⟨rfl,rfl⟩))
    (fun os started H enc _=>lifted os started H enc)
theorem proved:Rows.CellPlaysSaid:=K4
#print axioms proved
end Go.Proofs.Ytbalnnoofdkbaaa.cellPlays
