/- PROVED HERE: Rows.DictPlaysCardSaid: A map behind any acts is what the document says, and has that height. `of_laid`: the table model.does reads as the program lays it. The frame of a door seat's statement. -/
import Derived.Test.YtimljlkgaopafaaGreatDoorRows
import Derived.Test.YtimljlkgaopafaaGreatDoorTie
import Derived.Test.YtimljlkgaopafaaGreatDoorQ17
namespace Go.Proofs.YtimljlkgaopafaaGreatDoor.dictPlays
open Go.ChangeShapes Go.WideShapes Go.ChangeAt Go.RowKit Go.Bw Go.Rw Go.Proofs.Z
set_option maxRecDepth 100000 in
theorem ac3{W:World}:Opn Tryz.prog W 39 m0 (λz=>((0<=z.Do/\z.Do<=255)/\(0<=z.iZ/\z.iZ<=18446744073709551615)/\(0<=z.uR/\z.uR<=18446744073709551615))):=by intro H enc base spare held n cs y h;obtain⟨hl,hp⟩:=OO Tryz.underlying39 h;have hl:cs.length=3:=hl.trans (by kernel_rfl);obtain⟨_,_,h0⟩:=hp 0 _ rfl;obtain⟨z0,r0,b0⟩:=(ae2 Tryz.underlying5) H enc base spare held _ _ _ h0;change((LI .u8)).fg _ (List.take (Tryz.prog.cellsOf 5) (List.drop 0 cs)) z0 at r0;rw[show Tryz.prog.cellsOf 5=1 from by kernel_rfl]at r0;obtain⟨_,_,h1⟩:=hp 1 _ rfl;obtain⟨z1,r1,b1⟩:=(Sd Tryz.underlying23) H enc base spare held _ _ _ h1;change((LI .u64)).fg _ (List.take (Tryz.prog.cellsOf 23) (List.drop 1 cs)) z1 at r1;rw[show Tryz.prog.cellsOf 23=1 from by kernel_rfl]at r1;obtain⟨_,_,h2⟩:=hp 2 _ rfl;obtain⟨z2,r2,b2⟩:=(Sd Tryz.underlying23) H enc base spare held _ _ _ h2;change((LI .u64)).fg _ (List.take (Tryz.prog.cellsOf 23) (List.drop 2 cs)) z2 at r2;rw[show Tryz.prog.cellsOf 23=1 from by kernel_rfl]at r2;refine⟨⟨z0,z1,z2⟩,?_,b0,b1,b2⟩;show(LP (LI .u8) (LP (LI .u64) (LI .u64))).fg _ (List.drop 0 cs) (z0,z1,z2);exact(Si (by kernel_rfl) r0 (Si (by kernel_rfl) r1 (ae7 hl r2)))
theorem ahu:Tryz.prog.globalNamed "bailiwick/model.does" =some 0:=by kernel_rfl
theorem afX:(Tryz.prog.globals[0]?).map (·.type)=some 245:=by kernel_rfl
noncomputable def Pf(l:List UInt8):UInt8×List UInt8:=match l with
 |b::r=>(b,r)
 |[]=>(0,[])
noncomputable def nmF(f:FuncId):UInt8×List UInt8:=Pf ((Tryz.prog.funcs[f]?.map λg=>g.name.toUTF8.data.toList).getD [])
def Ue:List (Int×Nat):=match sg.gt with
 |some g=>g.2
 |none=>[]
theorem hone:∀x∈Ue,((List.range Tryz.prog.funcs.size).filter λf=>(Tryz.prog.funcs[f]?).any (·.name.toUTF8.data.toList==(nmF x.2).1::(nmF x.2).2))=[x.2]:=by
 have h:(Ue.all λx=>((List.range Tryz.prog.funcs.size).filter λf=>(Tryz.prog.funcs[f]?).any (·.name.toUTF8.data.toList==(nmF x.2).1::(nmF x.2).2))==[x.2])=true:=by kernel_rfl
 intro x hx;exact eq_of_beq (List.all_eq_true.1 h x hx)
theorem Zk:∀x∈Ue.map FO,∀y∈Ue.map FO,x.1=y.1->x=y:=by
 have h:((Ue.map (·.1)).zipIdx).all (λp=>p.1==(p.2:Int)+1)=true:=by kernel_rfl
 intro x hx y hy e;obtain⟨i,hi,rfl⟩:=List.mem_iff_getElem.1 hx;obtain⟨j,hj,rfl⟩:=List.mem_iff_getElem.1 hy;have key:∀i (hi:i<(Ue.map FO).length),((Ue.map FO)[i]).1=(i:Int)+1:=λi hi=>by
  have hi':i<(Ue.map (·.1)).length:=by simpa using hi
  have:=List.all_eq_true.1 h ((Ue.map (·.1))[i],i) (by rw[List.mem_zipIdx_iff_getElem?];simp;exact⟨_,akm (by simpa using hi)⟩);have h3:(Ue.map (·.1))[i]=(i:Int)+1:=by simpa using this
  rw[← h3];simp[FO]
 have:=(key i hi).symm.trans (e.trans (key j hj));obtain rfl:i=j:=by omega
 rfl
theorem ZR{W:World}(h:laidMetH Tryz.prog Rows.dictPlaysRow.laid W):∀g,sg.gt=some g->∃mb,GlX g mb W:=by
 intro g0 hg0;have e2:g0=(.u8,Ue):=by cases hg0;rfl
 subst e2;obtain⟨g,t,cs,fuel,p,hg,ht,hv,hd⟩:=h.funcs (List.mem_singleton.2 rfl);obtain rfl:=Option.some.inj (ahu.symm.trans hg);obtain rfl:=Option.some.inj (afX.symm.trans ht);obtain⟨b,l,hcs,hm,hl⟩:=Pr (ps:=p) Tryz.underlying245 Tryz.underlying5 Tryz.underlying243 Ue nmF (hd.trans (by kernel_rfl)) hone;refine⟨b,?_,l,hm,λk=>Po hl Zk k .nilFunc⟩;have:=World.var?_cell hg hv 0;rw[Array.eq_one_of_toList hcs]at this;simpa using this
set_option maxRecDepth 100000 in
theorem Xy(os:Os)(args:Array Value):laidMetH Tryz.prog Rows.dictPlaysRow.laid ((World.doorLaid Tryz.prog 600 os).forCall (λ_ _ =>0) ⟨#[],args,[]⟩).memory:=
 laidMetH_of_parts3 (fuel:=8) (laidMet_of_run' 8 (by kernel_rfl) (by kernel_rfl)) (by kernel_rfl) (by kernel_rfl)
theorem own:ownKnob Tryz.prog.godebug=none:=by kernel_rfl
theorem aad:laidOutB Tryz.prog=true:=by kernel_rfl
set_option maxRecDepth 100000 in
theorem lifted(os:Os)(started:os.Started)(H:Type)(enc:TypeId×Value->H):
  ReturnsInHanded {} Tryz.checked os 3 .any (λw args=>(Rows.dictPlaysSpec.pre enc Tryz.prog Tryz.f3 [] false w args/\laidMetH Tryz.prog Rows.dictPlaysRow.laid w)/\sizedMet enc Tryz.prog Tryz.f3 (OpenSpec.ofChange Rows.dictPlaysSpec) false w args) (Rows.dictPlaysSpec.post enc Tryz.prog Tryz.f3 false true false false):=by
 refine returnsInHanded_of_change_and (C:=Tryz.checked) (X:=λw _ =>laidMetH Tryz.prog Rows.dictPlaysRow.laid w) (λ_ _ _ hh h=>h.of_heap hh) own started (by kernel_rfl) Tryz.func3
  (ChangeSpec.witness_shaped (enc:=enc) (C:=Tryz.checked) (os:=os) (X:=λw _ =>laidMetH Tryz.prog Rows.dictPlaysRow.laid w) false (World.doorLaid Tryz.prog 600 os) #[.int .u8 0, .slice none 0 0, .int .u64 0] 8 rfl (World.shaped_of_RefB (by kernel_rfl) (by kernel_rfl)) (by kernel_rfl) (by kernel_rfl) (by kernel_rfl) (Xy os _)) ?_
 intro W base args ds gs before abT hW _ _ hL _;have hval:∀(j:Nat) t v,Tryz.f3.params[j]? =some t->args[j]? =some v->Value.okWide Tryz.prog W .any base t v:=abT;have hW':=hW;obtain⟨p,q,hA0,hV,rfl,hfz,uU⟩:=hW;have hA:DataW.TrodAll enc Tryz.prog W 0 (λ_ =>true) true Tryz.f3.params.toList args.toList ds p:=hA0;rw[Tryz.params3]at hA hval;obtain⟨v0,vs0,d0,ds0,p0,q0,hargs,rfl,rfl,h0,r0⟩:=trodAll_cons hA;obtain⟨v1,vs1,d1,ds1,p1,q1,rfl,rfl,rfl,h1,r1⟩:=trodAll_cons r0;obtain⟨v2,vs2,d2,ds2,p2,q2,rfl,rfl,rfl,h2,r2⟩:=trodAll_cons r1;obtain⟨rfl,rfl,rfl⟩:=trodAll_nil r2;obtain rfl:args= #[v0,v1,v2]:=by cases args;simp_all
 obtain⟨rfl,rfl⟩:=trodVars_none hV;obtain⟨a0,rfl,rfl,rfl,w0⟩:=open_int Tryz.underlying5 (hval 0 5 v0 rfl rfl) h0;have b0:=bounds_u8 w0;obtain⟨a1,aj1,aj9,rfl⟩:=okWide_slice Tryz.underlying22 (hval 1 22 v1 rfl rfl);have k1:=h1;have lt1:∀x∈p1,x.block<W.heap.size:=by obtain⟨m,hm⟩:=k1;exact DataW.trod_lt m _ _ _ hm
 obtain⟨ajU,hf1⟩:=h1;obtain⟨z1,rp1,b1⟩:=(ae3 (L:=m0) (sz:=3) Tryz.underlying22 (by kernel_rfl) (by kernel_rfl) (by decide) ac3) H enc _ _ _ _ _ _ hf1;obtain⟨a2,rfl,rfl,rfl,w2⟩:=open_int Tryz.underlying23 (hval 2 23 v2 rfl rfl) h2;have b2:=bounds_u64 w2;clear hA0 abT;letI:bq ((Ty.st 0).L sg):=inferInstanceAs (bq m0);refine(N6 (ct:=CS 20000) (x:=(a0,(z1,(a2,())))) (y:=(true,())) (v:= .bool true) ⟨true,Xx b0 b1 b2,rfl⟩ (ZR hL) (λJ hJ=>⟨_,_,rfl,rfl,_,_,rfl,abA (e:= .st 0) ((adV (af0 rp1)).mono hJ),_,_,rfl,rfl,rfl⟩) rfl rfl rfl (λJ σ u us ⟨_,_,e,h1,_⟩=>by
  cases e;have h1:[u]=[.bool true]:=h1;cases h1;rfl)).mono λe W' ⟨he,hsi⟩=>?_
 have bel:=Below.V1 hsi;subst he;exact⟨_,rfl,_,_,_,[],_,[],hW',trodAll_mk1 (shut_bool Tryz.underlying4 _),(trodAll_cons_mk (shut_int Tryz.underlying5 w0) (trodAll_cons_mk (Below.trod aad (by kernel_rfl) (of_decide_eq_true (by kernel_rfl)) k1 bel lt1) (trodAll_cons_mk (shut_int Tryz.underlying23 w2) trodAll_mk0))),rfl,bel.frame _,λh=>by cases h⟩
theorem aiO:Rows.dictPlaysRow.holds Tryz.pinned (OpenSpec.ofChange Rows.dictPlaysSpec):=
 OpenClaim.holds_of_wide 3 Tryz.f3 rfl rfl rfl rfl rfl rfl rfl ⟨rfl,rfl,rfl,rfl,rfl⟩ rfl rfl rfl rfl rfl (by kernel_rfl) Tryz.func3 (by kernel_rfl)
  (of_decide_eq_true (by kernel_rfl)) (by unfold Func.isWrapper;first|(rw[akd (by decide+kernel)];kernel_rfl)|(rw[ake (by decide+kernel)];exact⟨rfl,rfl⟩))
  (λos started H enc _ =>lifted os started H enc)
theorem proved:Rows.DictPlaysCardSaid:=
 Claim7.holds_tied_plain_at .later [] [.funcs] true (true,"60458f8b1934c389eeb574a42531eba7579cc5a2409f3716d50af7266210e05d") true
  aiO (λ_ h=>by cases h) (by kernel_rfl) (λ_ h=>by cases h) dictPlays_row_tie rfl ⟨rfl,rfl⟩ (by kernel_rfl) rfl
  (λf fn hf hfn=>by
   obtain rfl:f=3:=Option.some.inj ((show Tryz.prog.funcNamed "bailiwick/bailiwicklaw37.DictPlays" =some 3 by kernel_rfl).symm.trans hf)|>.symm;obtain rfl:fn=Tryz.f3:=(Option.some.inj (Tryz.func3.symm.trans hfn)).symm;exact⟨by kernel_rfl,λj t ht=>by
    rw[Tryz.params3]at ht;have hm:t∈[5,22,23]:=by simpa using Array.mem_of_getElem? ht
    have BZ:([5,22,23].all λu=> !Tryz.prog.wantsStandIn u)=true:=by kernel_rfl
    exact(show Tryz.prog.wantsStandIn t=false by simpa using List.all_eq_true.1 BZ t hm)⟩)
  (by kernel_rfl)
#print axioms proved
end Go.Proofs.YtimljlkgaopafaaGreatDoor.dictPlays
