/- PROVED HERE: Rows.ListEndsCardSaid: Whatever words a head and nodes of a list have, each call of it ends, and one that says that it has more than there are is told so. `of_laid`: the table model.does reads as the program lays it. The frame of a door seat's statement. -/
import Derived.Test.YtgdmofhmmhcmjaaGreatDoorRows
import Derived.Test.YtgdmofhmmhcmjaaGreatDoorTie
import Derived.Test.YtgdmofhmmhcmjaaGreatDoorQ17
namespace Go.Proofs.YtgdmofhmmhcmjaaGreatDoor.listEnds
open Go.ChangeShapes Go.WideShapes Go.ChangeAt Go.RowKit Go.Bw Go.Rw Go.Proofs.Z
theorem afp:Tryz.prog.globalNamed "bailiwick/model.does" =some 0:=by kernel_rfl
theorem adX:(Tryz.prog.globals[0]?).map (·.type)=some 234:=by kernel_rfl
noncomputable def Nc(l:List UInt8):UInt8×List UInt8:=match l with
 |b::r=>(b,r)
 |[]=>(0,[])
noncomputable def nmF(f:FuncId):UInt8×List UInt8:=Nc ((Tryz.prog.funcs[f]?.map λg=>g.name.toUTF8.data.toList).getD [])
def Rm:List (Int×Nat):=match sg.gt with
 |some g=>g.2
 |none=>[]
theorem hone:∀x∈Rm,((List.range Tryz.prog.funcs.size).filter λf=>(Tryz.prog.funcs[f]?).any (·.name.toUTF8.data.toList==(nmF x.2).1::(nmF x.2).2))=[x.2]:=by
 have h:(Rm.all λx=>((List.range Tryz.prog.funcs.size).filter λf=>(Tryz.prog.funcs[f]?).any (·.name.toUTF8.data.toList==(nmF x.2).1::(nmF x.2).2))==[x.2])=true:=by kernel_rfl
 intro x hx;exact eq_of_beq (List.all_eq_true.1 h x hx)
theorem WM:∀x∈Rm.map Ec,∀y∈Rm.map Ec,x.1=y.1->x=y:=by
 have h:((Rm.map (·.1)).zipIdx).all (λp=>p.1==(p.2:Int)+1)=true:=by kernel_rfl
 intro x hx y hy e;obtain⟨i,hi,rfl⟩:=List.mem_iff_getElem.1 hx;obtain⟨j,hj,rfl⟩:=List.mem_iff_getElem.1 hy;have key:∀i (hi:i<(Rm.map Ec).length),((Rm.map Ec)[i]).1=(i:Int)+1:=λi hi=>by
  have hi':i<(Rm.map (·.1)).length:=by simpa using hi
  have:=List.all_eq_true.1 h ((Rm.map (·.1))[i],i) (by rw[List.mem_zipIdx_iff_getElem?];simp;exact⟨_,aik (by simpa using hi)⟩);have h3:(Rm.map (·.1))[i]=(i:Int)+1:=by simpa using this
  rw[← h3];simp[Ec]
 have:=(key i hi).symm.trans (e.trans (key j hj));obtain rfl:i=j:=by omega
 rfl
theorem Xw{W:World}(h:laidMetH Tryz.prog Rows.listEndsRow.laid W):∀g,sg.gt=some g->∃mb,GlX g mb W:=by
 intro g0 hg0;have e2:g0=(.u8,Rm):=by cases hg0;rfl
 subst e2;obtain⟨g,t,cs,fuel,p,hg,ht,hv,hd⟩:=h.funcs (List.mem_singleton.2 rfl);obtain rfl:=Option.some.inj (afp.symm.trans hg);obtain rfl:=Option.some.inj (adX.symm.trans ht);obtain⟨b,l,hcs,hm,hl⟩:=Nm (ps:=p) Tryz.underlying234 Tryz.underlying5 Tryz.underlying232 Rm nmF (hd.trans (by kernel_rfl)) hone;refine⟨b,?_,l,hm,λk=>Nj hl WM k .nilFunc⟩;have:=World.var?_cell hg hv 0;rw[Array.eq_one_of_toList hcs]at this;simpa using this
set_option maxRecDepth 100000 in
theorem UO(os:Os)(args:Array Value):laidMetH Tryz.prog Rows.listEndsRow.laid ((World.doorLaid Tryz.prog 600 os).forCall (λ_ _ =>0) ⟨#[],args,[]⟩).memory:=
 laidMetH_of_parts3 (fuel:=8) (laidMet_of_run' 8 (by kernel_rfl) (by kernel_rfl)) (by kernel_rfl) (by kernel_rfl)
theorem own:ownKnob Tryz.prog.godebug=none:=by kernel_rfl
theorem XQ:laidOutB Tryz.prog=true:=by kernel_rfl
set_option maxRecDepth 100000 in
theorem lifted(os:Os)(started:os.Started)(H:Type)(enc:TypeId×Value->H):
  ReturnsInHanded {} Tryz.checked os 3 .any (λw args=>(Rows.listEndsSpec.pre enc Tryz.prog Tryz.f3 [] false w args/\laidMetH Tryz.prog Rows.listEndsRow.laid w)/\sizedMet enc Tryz.prog Tryz.f3 (OpenSpec.ofChange Rows.listEndsSpec) false w args) (Rows.listEndsSpec.post enc Tryz.prog Tryz.f3 false true false false):=by
 refine returnsInHanded_of_change_and (C:=Tryz.checked) (X:=λw _ =>laidMetH Tryz.prog Rows.listEndsRow.laid w) (λ_ _ _ hh h=>h.of_heap hh) own started (by kernel_rfl) Tryz.func3
  (ChangeSpec.witness_shaped (enc:=enc) (C:=Tryz.checked) (os:=os) (X:=λw _ =>laidMetH Tryz.prog Rows.listEndsRow.laid w) false (World.doorLaid Tryz.prog 600 os) #[.slice none 0 0, .int .i64 0] 8 rfl (World.shaped_of_RefB (by kernel_rfl) (by kernel_rfl)) (by kernel_rfl) (by kernel_rfl) (by kernel_rfl) (UO os _)) ?_
 intro W base args ds gs before Z8 hW _ _ hL _;have hval:∀(j:Nat) t v,Tryz.f3.params[j]? =some t->args[j]? =some v->Value.okWide Tryz.prog W .any base t v:=Z8;have hW':=hW;obtain⟨p,q,hA0,hV,rfl,hfz,uF⟩:=hW;have hA:DataW.TrodAll enc Tryz.prog W 0 (λ_ =>true) true Tryz.f3.params.toList args.toList ds p:=hA0;rw[Tryz.params3]at hA hval;obtain⟨v0,vs0,d0,ds0,p0,q0,hargs,rfl,rfl,h0,r0⟩:=trodAll_cons hA;obtain⟨v1,vs1,d1,ds1,p1,q1,rfl,rfl,rfl,h1,r1⟩:=trodAll_cons r0;obtain⟨rfl,rfl,rfl⟩:=trodAll_nil r1;obtain rfl:args= #[v0,v1]:=by cases args;simp_all
 obtain⟨rfl,rfl⟩:=trodVars_none hV;obtain⟨a0,ahY,ah6,rfl⟩:=okWide_slice Tryz.underlying22 (hval 0 22 v0 rfl rfl);have k0:=h0;have lt0:∀x∈p0,x.block<W.heap.size:=by obtain⟨m,hm⟩:=k0;exact DataW.trod_lt m _ _ _ hm
 obtain⟨ahR,Qx⟩:=h0;obtain⟨z0,rp0,b0⟩:=(ac5 (L:=(LI .u64)) (sz:=1) Tryz.underlying22 (by kernel_rfl) (by kernel_rfl) (by decide) (Zp Tryz.underlying33)) H enc _ _ _ _ _ _ Qx;obtain⟨a1,rfl,rfl,rfl,w1⟩:=open_int Tryz.underlying3 (hval 1 3 v1 rfl rfl) h1;have b1:=bounds_i64 w1;clear hA0 Z8;letI:bf ((Ty.int .u64).L sg):=inferInstanceAs (bf (LI .u64));refine(L4 (ct:=CS 20000) (x:=(z0,(a1,()))) (y:=(true,())) (v:= .bool true) ⟨true,acd b0 b1,rfl⟩ (Xw hL) (λJ hJ=>⟨_,_,rfl,ZF (e:= .int .u64) ((abW (ad0 rp0)).mono hJ),_,_,rfl,rfl,rfl⟩) rfl rfl rfl (λJ σ u us ⟨_,_,e,h1,_⟩=>by
  cases e;have h1:[u]=[.bool true]:=h1;cases h1;rfl)).mono λe W' ⟨he,hsi⟩=>?_
 have bel:=Below.Tq hsi;subst he;exact⟨_,rfl,_,_,_,[],_,[],hW',trodAll_mk1 (shut_bool Tryz.underlying4 _),(trodAll_cons_mk (Below.trod XQ (by kernel_rfl) (of_decide_eq_true (by kernel_rfl)) k0 bel lt0) (trodAll_cons_mk (shut_int Tryz.underlying3 w1) trodAll_mk0)),rfl,bel.frame _,λh=>by cases h⟩
theorem agM:Rows.listEndsRow.holds Tryz.pinned (OpenSpec.ofChange Rows.listEndsSpec):=
 OpenClaim.holds_of_wide 3 Tryz.f3 rfl rfl rfl rfl rfl rfl rfl ⟨rfl,rfl,rfl,rfl,rfl⟩ rfl rfl rfl rfl rfl (by kernel_rfl) Tryz.func3 (by kernel_rfl)
  (of_decide_eq_true (by kernel_rfl)) (by unfold Func.isWrapper;first|(rw[aia (by decide+kernel)];kernel_rfl)|(rw[aib (by decide+kernel)];exact⟨rfl,rfl⟩))
  (λos started H enc _ =>lifted os started H enc)
theorem proved:Rows.ListEndsCardSaid:=
 Claim7.holds_tied_plain_at .later [] [.funcs] true (true,"f80c013579b5f711682f2b8555b608a78ea226a2f684fb1d926419877bd05ef4") true
  agM (λ_ h=>by cases h) (by kernel_rfl) (λ_ h=>by cases h) listEnds_row_tie rfl ⟨rfl,rfl⟩ (by kernel_rfl) rfl
  (λf fn hf hfn=>by
   obtain rfl:f=3:=Option.some.inj ((show Tryz.prog.funcNamed "bailiwick/bailiwicklaw36.ListEnds" =some 3 by kernel_rfl).symm.trans hf)|>.symm;obtain rfl:fn=Tryz.f3:=(Option.some.inj (Tryz.func3.symm.trans hfn)).symm;exact⟨by kernel_rfl,λj t ht=>by
    rw[Tryz.params3]at ht;have hm:t∈[22,3]:=by simpa using Array.mem_of_getElem? ht
    have B7:([22,3].all λu=> !Tryz.prog.wantsStandIn u)=true:=by kernel_rfl
    exact(show Tryz.prog.wantsStandIn t=false by simpa using List.all_eq_true.1 B7 t hm)⟩)
  (by kernel_rfl)
#print axioms proved
end Go.Proofs.YtgdmofhmmhcmjaaGreatDoor.listEnds
