/- PROVED HERE: Rows.VecNilCardSaid: no hand, quotas that may not be, a region that is none, have no row; one whose block cannot be made leaves nothing behind. `of_laid`: the table model.does reads as the program lays it. The frame of a door seat's statement. -/
import Derived.Test.YtioeklchieeebaaGreatDoorRows
import Derived.Test.YtioeklchieeebaaGreatDoorTie
import Derived.Test.YtioeklchieeebaaGreatDoorQ15
namespace Go.Proofs.YtioeklchieeebaaGreatDoor.vecNil
open Go.ChangeShapes Go.WideShapes Go.ChangeAt Go.RowKit Go.Bw Go.Rw Go.Proofs.Z
theorem abL:Tryz.prog.globalNamed "bailiwick/model.does" =some 0:=by kernel_rfl
theorem aau:(Tryz.prog.globals[0]?).map (·.type)=some 221:=by kernel_rfl
noncomputable def Jo(l:List UInt8):UInt8×List UInt8:=match l with
 |b::r=>(b,r)
 |[]=>(0,[])
noncomputable def nmF(f:FuncId):UInt8×List UInt8:=Jo ((Tryz.prog.funcs[f]?.map λg=>g.name.toUTF8.data.toList).getD [])
def M1:List (Int×Nat):=match sg.gt with
 |some g=>g.2
 |none=>[]
theorem hone:∀x∈M1,((List.range Tryz.prog.funcs.size).filter λf=>(Tryz.prog.funcs[f]?).any (·.name.toUTF8.data.toList==(nmF x.2).1::(nmF x.2).2))=[x.2]:=by
 have h:(M1.all λx=>((List.range Tryz.prog.funcs.size).filter λf=>(Tryz.prog.funcs[f]?).any (·.name.toUTF8.data.toList==(nmF x.2).1::(nmF x.2).2))==[x.2])=true:=by kernel_rfl
 intro x hx;exact eq_of_beq (List.all_eq_true.1 h x hx)
theorem Rz:∀x∈M1.map BU,∀y∈M1.map BU,x.1=y.1->x=y:=by
 have h:((M1.map (·.1)).zipIdx).all (λp=>p.1==(p.2:Int)+1)=true:=by kernel_rfl
 intro x hx y hy e;obtain⟨i,hi,rfl⟩:=List.mem_iff_getElem.1 hx;obtain⟨j,hj,rfl⟩:=List.mem_iff_getElem.1 hy;have key:∀i (hi:i<(M1.map BU).length),((M1.map BU)[i]).1=(i:Int)+1:=λi hi=>by
  have hi':i<(M1.map (·.1)).length:=by simpa using hi
  have:=List.all_eq_true.1 h ((M1.map (·.1))[i],i) (by rw[List.mem_zipIdx_iff_getElem?];simp;exact⟨_,aiI (by simpa using hi)⟩);have h3:(M1.map (·.1))[i]=(i:Int)+1:=by simpa using this
  rw[← h3];simp[BU]
 have:=(key i hi).symm.trans (e.trans (key j hj));obtain rfl:i=j:=by omega
 rfl
theorem R7{W:World}(h:laidMetH Tryz.prog Rows.vecNilRow.laid W):∀g,sg.gt=some g->∃mb,Yw g mb W:=by
 intro g0 hg0;have e2:g0=(.u8,M1):=by cases hg0;rfl
 subst e2;obtain⟨g,t,cs,fuel,p,hg,ht,hv,hd⟩:=h.funcs (List.mem_singleton.2 rfl);obtain rfl:=Option.some.inj (abL.symm.trans hg);obtain rfl:=Option.some.inj (aau.symm.trans ht);obtain⟨b,l,hcs,hm,hl⟩:=Jt (ps:=p) Tryz.underlying221 Tryz.underlying5 Tryz.underlying219 M1 nmF (hd.trans (by kernel_rfl)) hone;refine⟨b,?_,l,hm,λk=>Jr hl Rz k .nilFunc⟩;have:=World.var?_cell hg hv 0;rw[Array.eq_one_of_toList hcs]at this;simpa using this
set_option maxRecDepth 100000 in
theorem P2(os:Os)(args:Array Value):laidMetH Tryz.prog Rows.vecNilRow.laid ((World.doorLaid Tryz.prog 600 os).forCall (λ_ _ =>0) ⟨#[],args,[]⟩).memory:=
 laidMetH_of_parts3 (fuel:=8) (laidMet_of_run' 8 (by kernel_rfl) (by kernel_rfl)) (by kernel_rfl) (by kernel_rfl)
theorem own:ownKnob Tryz.prog.godebug=none:=by kernel_rfl
set_option maxRecDepth 100000 in
theorem lifted(os:Os)(started:os.Started)(H:Type)(enc:TypeId×Value->H):
  ReturnsInHanded {} Tryz.checked os 3 .any (λw args=>(Rows.vecNilSpec.pre enc Tryz.prog Tryz.f3 [] false w args/\laidMetH Tryz.prog Rows.vecNilRow.laid w)/\sizedMet enc Tryz.prog Tryz.f3 (OpenSpec.ofChange Rows.vecNilSpec) false w args) (Rows.vecNilSpec.post enc Tryz.prog Tryz.f3 false true false false):=by
 refine returnsInHanded_of_change_and (C:=Tryz.checked) (X:=λw _ =>laidMetH Tryz.prog Rows.vecNilRow.laid w) (λ_ _ _ hh h=>h.of_heap hh) own started (by kernel_rfl) Tryz.func3
  (ChangeSpec.witness_shaped (enc:=enc) (C:=Tryz.checked) (os:=os) (X:=λw _ =>laidMetH Tryz.prog Rows.vecNilRow.laid w) false (World.doorLaid Tryz.prog 600 os) #[.int .i64 0, .int .u64 0, .int .i64 0] 8 rfl (World.shaped_of_RefB (by kernel_rfl) (by kernel_rfl)) (by kernel_rfl) (by kernel_rfl) (by kernel_rfl) (P2 os _)) ?_
 intro W base args ds gs before Uo hW _ _ hL _;have hval:∀(j:Nat) t v,Tryz.f3.params[j]? =some t->args[j]? =some v->Value.okWide Tryz.prog W .any base t v:=Uo;have hW':=hW;obtain⟨p,q,hA0,hV,rfl,hfz,rK⟩:=hW;have hA:DataW.TrodAll enc Tryz.prog W 0 (λ_ =>true) true Tryz.f3.params.toList args.toList ds p:=hA0;rw[Tryz.params3]at hA hval;obtain⟨v0,vs0,d0,ds0,p0,q0,hargs,rfl,rfl,h0,r0⟩:=trodAll_cons hA;obtain⟨v1,vs1,d1,ds1,p1,q1,rfl,rfl,rfl,h1,r1⟩:=trodAll_cons r0;obtain⟨v2,vs2,d2,ds2,p2,q2,rfl,rfl,rfl,h2,r2⟩:=trodAll_cons r1;obtain⟨rfl,rfl,rfl⟩:=trodAll_nil r2;obtain rfl:args= #[v0,v1,v2]:=by cases args;simp_all
 obtain⟨rfl,rfl⟩:=trodVars_none hV;obtain⟨a0,rfl,rfl,rfl,w0⟩:=open_int Tryz.underlying3 (hval 0 3 v0 rfl rfl) h0;have b0:=bounds_i64 w0;obtain⟨a1,rfl,rfl,rfl,w1⟩:=open_int Tryz.underlying22 (hval 1 22 v1 rfl rfl) h1;have b1:=bounds_u64 w1;obtain⟨a2,rfl,rfl,rfl,w2⟩:=open_int Tryz.underlying3 (hval 2 3 v2 rfl rfl) h2;have b2:=bounds_i64 w2;clear hA0 Uo;refine(Ij (ct:=Dl 20000) (x:=(a0,(a1,(a2,())))) (y:=(true,())) (v:= .bool true) ⟨true,aaP b0 b1 b2,rfl⟩ (R7 hL) (λJ hJ=>⟨_,_,rfl,rfl,_,_,rfl,rfl,_,_,rfl,rfl,rfl⟩) rfl rfl rfl (λJ σ u us ⟨_,_,e,h1,_⟩=>by
  cases e;have h1:[u]=[.bool true]:=h1;cases h1;rfl)).mono λe W' ⟨he,hsi⟩=>?_
 have bel:=Below.OS hsi;subst he;exact⟨_,rfl,_,_,_,[],_,[],hW',trodAll_mk1 (shut_bool Tryz.underlying4 _),(trodAll_cons_mk (shut_int Tryz.underlying3 w0) (trodAll_cons_mk (shut_int Tryz.underlying22 w1) (trodAll_cons_mk (shut_int Tryz.underlying3 w2) trodAll_mk0))),rfl,bel.frame _,λh=>by cases h⟩
theorem afz:Rows.vecNilRow.holds Tryz.pinned (OpenSpec.ofChange Rows.vecNilSpec):=
 OpenClaim.holds_of_wide 3 Tryz.f3 rfl rfl rfl rfl rfl rfl rfl ⟨rfl,rfl,rfl,rfl,rfl⟩ rfl rfl rfl rfl rfl (by kernel_rfl) Tryz.func3 (by kernel_rfl)
  (of_decide_eq_true (by kernel_rfl)) (by unfold Func.isWrapper;first|(rw[aiz (by decide+kernel)];kernel_rfl)|(rw[aiA (by decide+kernel)];exact⟨rfl,rfl⟩))
  (λos started H enc _ =>lifted os started H enc)
theorem proved:Rows.VecNilCardSaid:=
 Claim7.holds_tied_plain_at .later [] [.funcs] true (true,"19cfa19515c194d7e1e6479493cc4c5c9423ece6e160e275006993c6f76b8618") true
  afz (λ_ h=>by cases h) (by kernel_rfl) (λ_ h=>by cases h) vecNil_row_tie rfl ⟨rfl,rfl⟩ (by kernel_rfl) rfl
  (λf fn hf hfn=>by
   obtain rfl:f=3:=Option.some.inj ((show Tryz.prog.funcNamed "bailiwick/bailiwicklaw38.VecNil" =some 3 by kernel_rfl).symm.trans hf)|>.symm;obtain rfl:fn=Tryz.f3:=(Option.some.inj (Tryz.func3.symm.trans hfn)).symm;exact⟨by kernel_rfl,λj t ht=>by
    rw[Tryz.params3]at ht;have hm:t∈[3,22,3]:=by simpa using Array.mem_of_getElem? ht
    have zM:([3,22,3].all λu=> !Tryz.prog.wantsStandIn u)=true:=by kernel_rfl
    exact(show Tryz.prog.wantsStandIn t=false by simpa using List.all_eq_true.1 zM t hm)⟩)
  (by kernel_rfl)
#print axioms proved
end Go.Proofs.YtioeklchieeebaaGreatDoor.vecNil
