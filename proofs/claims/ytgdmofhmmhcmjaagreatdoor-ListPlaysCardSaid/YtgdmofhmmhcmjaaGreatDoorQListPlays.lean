/- PROVED HERE: Rows.ListPlaysCardSaid: A list behind any acts is what the document says. `of_laid`: the table model.does reads as the program lays it. The frame of a door seat's statement. -/
import Derived.Test.YtgdmofhmmhcmjaaGreatDoorRows
import Derived.Test.YtgdmofhmmhcmjaaGreatDoorTie
import Derived.Test.YtgdmofhmmhcmjaaGreatDoorQ17
namespace Go.Proofs.YtgdmofhmmhcmjaaGreatDoor.listPlays
open Go.ChangeShapes Go.WideShapes Go.ChangeAt Go.RowKit Go.Bw Go.Rw Go.Proofs.Z
set_option maxRecDepth 100000 in
theorem abH{W:World}:Opn Tryz.prog W 48 j8 (λz=>((0<=z.Do/\z.Do<=255)/\(-9223372036854775808<=z.I/\z.I<=9223372036854775807)/\(0<=z.V/\z.V<=18446744073709551615))):=by intro H enc base spare held n cs y h;obtain⟨hl,hp⟩:=Ni Tryz.underlying48 h;have hl:cs.length=3:=hl.trans (by kernel_rfl);obtain⟨_,_,h0⟩:=hp 0 _ rfl;obtain⟨z0,r0,b0⟩:=(adD Tryz.underlying5) H enc base spare held _ _ _ h0;change((LI .u8)).eH _ (List.take (Tryz.prog.cellsOf 5) (List.drop 0 cs)) z0 at r0;rw[show Tryz.prog.cellsOf 5=1 from by kernel_rfl]at r0;obtain⟨_,_,h1⟩:=hp 1 _ rfl;obtain⟨z1,r1,b1⟩:=(Z8 Tryz.underlying3) H enc base spare held _ _ _ h1;change((LI .i64)).eH _ (List.take (Tryz.prog.cellsOf 3) (List.drop 1 cs)) z1 at r1;rw[show Tryz.prog.cellsOf 3=1 from by kernel_rfl]at r1;obtain⟨_,_,h2⟩:=hp 2 _ rfl;obtain⟨z2,r2,b2⟩:=(Z7 Tryz.underlying33) H enc base spare held _ _ _ h2;change((LI .u64)).eH _ (List.take (Tryz.prog.cellsOf 33) (List.drop 2 cs)) z2 at r2;rw[show Tryz.prog.cellsOf 33=1 from by kernel_rfl]at r2;refine⟨⟨z0,z1,z2⟩,?_,b0,b1,b2⟩;show(LP (LI .u8) (LP (LI .i64) (LI .u64))).eH _ (List.drop 0 cs) (z0,z1,z2);exact(Qq (by kernel_rfl) r0 (Qq (by kernel_rfl) r1 (adI hl r2)))
theorem afX:Tryz.prog.globalNamed "bailiwick/model.does" =some 0:=by kernel_rfl
theorem aet:(Tryz.prog.globals[0]?).map (·.type)=some 234:=by kernel_rfl
noncomputable def NH(l:List UInt8):UInt8×List UInt8:=match l with
 |b::r=>(b,r)
 |[]=>(0,[])
noncomputable def nmF(f:FuncId):UInt8×List UInt8:=NH ((Tryz.prog.funcs[f]?.map λg=>g.name.toUTF8.data.toList).getD [])
def R3:List (Int×Nat):=match sg.gt with
 |some g=>g.2
 |none=>[]
theorem hone:∀x∈R3,((List.range Tryz.prog.funcs.size).filter λf=>(Tryz.prog.funcs[f]?).any (·.name.toUTF8.data.toList==(nmF x.2).1::(nmF x.2).2))=[x.2]:=by
 have h:(R3.all λx=>((List.range Tryz.prog.funcs.size).filter λf=>(Tryz.prog.funcs[f]?).any (·.name.toUTF8.data.toList==(nmF x.2).1::(nmF x.2).2))==[x.2])=true:=by kernel_rfl
 intro x hx;exact eq_of_beq (List.all_eq_true.1 h x hx)
theorem XA:∀x∈R3.map Eu,∀y∈R3.map Eu,x.1=y.1->x=y:=by
 have h:((R3.map (·.1)).zipIdx).all (λp=>p.1==(p.2:Int)+1)=true:=by kernel_rfl
 intro x hx y hy e;obtain⟨i,hi,rfl⟩:=List.mem_iff_getElem.1 hx;obtain⟨j,hj,rfl⟩:=List.mem_iff_getElem.1 hy;have key:∀i (hi:i<(R3.map Eu).length),((R3.map Eu)[i]).1=(i:Int)+1:=λi hi=>by
  have hi':i<(R3.map (·.1)).length:=by simpa using hi
  have:=List.all_eq_true.1 h ((R3.map (·.1))[i],i) (by rw[List.mem_zipIdx_iff_getElem?];simp;exact⟨_,aiP (by simpa using hi)⟩);have h3:(R3.map (·.1))[i]=(i:Int)+1:=by simpa using this
  rw[← h3];simp[Eu]
 have:=(key i hi).symm.trans (e.trans (key j hj));obtain rfl:i=j:=by omega
 rfl
theorem Yh{W:World}(h:laidMetH Tryz.prog Rows.listPlaysRow.laid W):∀g,sg.gt=some g->∃mb,GlX g mb W:=by
 intro g0 hg0;have e2:g0=(.u8,R3):=by cases hg0;rfl
 subst e2;obtain⟨g,t,cs,fuel,p,hg,ht,hv,hd⟩:=h.funcs (List.mem_singleton.2 rfl);obtain rfl:=Option.some.inj (afX.symm.trans hg);obtain rfl:=Option.some.inj (aet.symm.trans ht);obtain⟨b,l,hcs,hm,hl⟩:=NQ (ps:=p) Tryz.underlying234 Tryz.underlying5 Tryz.underlying232 R3 nmF (hd.trans (by kernel_rfl)) hone;refine⟨b,?_,l,hm,λk=>NN hl XA k .nilFunc⟩;have:=World.var?_cell hg hv 0;rw[Array.eq_one_of_toList hcs]at this;simpa using this
set_option maxRecDepth 100000 in
theorem Vp(os:Os)(args:Array Value):laidMetH Tryz.prog Rows.listPlaysRow.laid ((World.doorLaid Tryz.prog 600 os).forCall (λ_ _ =>0) ⟨#[],args,[]⟩).memory:=
 laidMetH_of_parts3 (fuel:=8) (laidMet_of_run' 8 (by kernel_rfl) (by kernel_rfl)) (by kernel_rfl) (by kernel_rfl)
theorem own:ownKnob Tryz.prog.godebug=none:=by kernel_rfl
theorem YA:laidOutB Tryz.prog=true:=by kernel_rfl
set_option maxRecDepth 100000 in
theorem lifted(os:Os)(started:os.Started)(H:Type)(enc:TypeId×Value->H):
  ReturnsInHanded {} Tryz.checked os 4 .any (λw args=>(Rows.listPlaysSpec.pre enc Tryz.prog Tryz.f4 [] false w args/\laidMetH Tryz.prog Rows.listPlaysRow.laid w)/\sizedMet enc Tryz.prog Tryz.f4 (OpenSpec.ofChange Rows.listPlaysSpec) false w args) (Rows.listPlaysSpec.post enc Tryz.prog Tryz.f4 false true false false):=by
 refine returnsInHanded_of_change_and (C:=Tryz.checked) (X:=λw _ =>laidMetH Tryz.prog Rows.listPlaysRow.laid w) (λ_ _ _ hh h=>h.of_heap hh) own started (by kernel_rfl) Tryz.func4
  (ChangeSpec.witness_shaped (enc:=enc) (C:=Tryz.checked) (os:=os) (X:=λw _ =>laidMetH Tryz.prog Rows.listPlaysRow.laid w) false (World.doorLaid Tryz.prog 600 os) #[.int .u8 0, .slice none 0 0] 8 rfl (World.shaped_of_RefB (by kernel_rfl) (by kernel_rfl)) (by kernel_rfl) (by kernel_rfl) (by kernel_rfl) (Vp os _)) ?_
 intro W base args ds gs before aaC hW _ _ hL _;have hval:∀(j:Nat) t v,Tryz.f4.params[j]? =some t->args[j]? =some v->Value.okWide Tryz.prog W .any base t v:=aaC;have hW':=hW;obtain⟨p,q,hA0,hV,rfl,hfz,tu⟩:=hW;have hA:DataW.TrodAll enc Tryz.prog W 0 (λ_ =>true) true Tryz.f4.params.toList args.toList ds p:=hA0;rw[Tryz.params4]at hA hval;obtain⟨v0,vs0,d0,ds0,p0,q0,hargs,rfl,rfl,h0,r0⟩:=trodAll_cons hA;obtain⟨v1,vs1,d1,ds1,p1,q1,rfl,rfl,rfl,h1,r1⟩:=trodAll_cons r0;obtain⟨rfl,rfl,rfl⟩:=trodAll_nil r1;obtain rfl:args= #[v0,v1]:=by cases args;simp_all
 obtain⟨rfl,rfl⟩:=trodVars_none hV;obtain⟨a0,rfl,rfl,rfl,w0⟩:=open_int Tryz.underlying5 (hval 0 5 v0 rfl rfl) h0;have b0:=bounds_u8 w0;obtain⟨a1,aiu,aiC,rfl⟩:=okWide_slice Tryz.underlying42 (hval 1 42 v1 rfl rfl);have k1:=h1;have lt1:∀x∈p1,x.block<W.heap.size:=by obtain⟨m,hm⟩:=k1;exact DataW.trod_lt m _ _ _ hm
 obtain⟨ain,hf1⟩:=h1;obtain⟨z1,rp1,b1⟩:=(adE (L:=j8) (sz:=3) Tryz.underlying42 (by kernel_rfl) (by kernel_rfl) (by decide) abH) H enc _ _ _ _ _ _ hf1;clear hA0 aaC;letI:bh ((Ty.st 0).L sg):=inferInstanceAs (bh j8);refine(MF (ct:=BU 20000) (x:=(a0,(z1,()))) (y:=(true,())) (v:= .bool true) ⟨true,X5 b0 b1,rfl⟩ (Yh hL) (λJ hJ=>⟨_,_,rfl,rfl,_,_,rfl,aal (e:= .st 0) ((acy (aew rp1)).mono hJ),rfl⟩) rfl rfl rfl (λJ σ u us ⟨_,_,e,h1,_⟩=>by
  cases e;have h1:[u]=[.bool true]:=h1;cases h1;rfl)).mono λe W' ⟨he,hsi⟩=>?_
 have bel:=Below.T7 hsi;subst he;exact⟨_,rfl,_,_,_,[],_,[],hW',trodAll_mk1 (shut_bool Tryz.underlying4 _),(trodAll_cons_mk (shut_int Tryz.underlying5 w0) (trodAll_cons_mk (Below.trod YA (by kernel_rfl) (of_decide_eq_true (by kernel_rfl)) k1 bel lt1) trodAll_mk0)),rfl,bel.frame _,λh=>by cases h⟩
theorem ahh:Rows.listPlaysRow.holds Tryz.pinned (OpenSpec.ofChange Rows.listPlaysSpec):=
 OpenClaim.holds_of_wide 4 Tryz.f4 rfl rfl rfl rfl rfl rfl rfl ⟨rfl,rfl,rfl,rfl,rfl⟩ rfl rfl rfl rfl rfl (by kernel_rfl) Tryz.func4 (by kernel_rfl)
  (of_decide_eq_true (by kernel_rfl)) (by unfold Func.isWrapper;first|(rw[aiG (by decide+kernel)];kernel_rfl)|(rw[aiH (by decide+kernel)];exact⟨rfl,rfl⟩))
  (λos started H enc _ =>lifted os started H enc)
theorem proved:Rows.ListPlaysCardSaid:=
 Claim7.holds_tied_plain_at .later [] [.funcs] true (true,"f80c013579b5f711682f2b8555b608a78ea226a2f684fb1d926419877bd05ef4") true
  ahh (λ_ h=>by cases h) (by kernel_rfl) (λ_ h=>by cases h) listPlays_row_tie rfl ⟨rfl,rfl⟩ (by kernel_rfl) rfl
  (λf fn hf hfn=>by
   obtain rfl:f=4:=Option.some.inj ((show Tryz.prog.funcNamed "bailiwick/bailiwicklaw36.ListPlays" =some 4 by kernel_rfl).symm.trans hf)|>.symm;obtain rfl:fn=Tryz.f4:=(Option.some.inj (Tryz.func4.symm.trans hfn)).symm;exact⟨by kernel_rfl,λj t ht=>by
    rw[Tryz.params4]at ht;have hm:t∈[5,42]:=by simpa using Array.mem_of_getElem? ht
    have Cq:([5,42].all λu=> !Tryz.prog.wantsStandIn u)=true:=by kernel_rfl
    exact(show Tryz.prog.wantsStandIn t=false by simpa using List.all_eq_true.1 Cq t hm)⟩)
  (by kernel_rfl)
#print axioms proved
end Go.Proofs.YtgdmofhmmhcmjaaGreatDoor.listPlays
