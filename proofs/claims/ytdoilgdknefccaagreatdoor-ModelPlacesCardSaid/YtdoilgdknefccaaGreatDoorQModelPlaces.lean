/- PROVED HERE: Rows.ModelPlacesCardSaid: for every list of acts and every call bailiwicklaw12.ModelPlaces returns true and leaves its arguments as they were. `of_laid`: the table model.does reads as the program lays it. The frame of a door seat's statement. -/
import Derived.Test.YtdoilgdknefccaaGreatDoorRows
import Derived.Test.YtdoilgdknefccaaGreatDoorTie
import Derived.Test.YtdoilgdknefccaaGreatDoorQ6
namespace Go.Proofs.YtdoilgdknefccaaGreatDoor.modelPlaces
open Go.ChangeShapes Go.WideShapes Go.ChangeAt Go.RowKit Go.Bw Go.Rw Go.Proofs.Z
set_option maxRecDepth 100000 in
theorem ZH{W:World}:Opn Tryz.prog W 27 fJ (λz=>((0<=z.Do/\z.Do<=255)/\(0<=z.R/\z.R<=4294967295)/\(0<=z.S/\z.S<=4294967295)/\(0<=z.A/\z.A<=4294967295)/\(0<=z.B/\z.B<=4294967295)/\(0<=z.V/\z.V<=18446744073709551615))):=by intro H enc base spare held n cs y h;obtain⟨hl,hp⟩:=KD Tryz.underlying27 h;have hl:cs.length=6:=hl.trans (by kernel_rfl);obtain⟨_,_,h0⟩:=hp 0 _ rfl;obtain⟨z0,r0,b0⟩:=(acn Tryz.underlying5) H enc base spare held _ _ _ h0;change((LI .u8)).eZ _ (List.take (Tryz.prog.cellsOf 5) (List.drop 0 cs)) z0 at r0;rw[show Tryz.prog.cellsOf 5=1 from by kernel_rfl]at r0;obtain⟨_,_,h1⟩:=hp 1 _ rfl;obtain⟨z1,r1,b1⟩:=(Ka Tryz.underlying24) H enc base spare held _ _ _ h1;change((LI .u32)).eZ _ (List.take (Tryz.prog.cellsOf 24) (List.drop 1 cs)) z1 at r1;rw[show Tryz.prog.cellsOf 24=1 from by kernel_rfl]at r1;obtain⟨_,_,h2⟩:=hp 2 _ rfl;obtain⟨z2,r2,b2⟩:=(Ka Tryz.underlying24) H enc base spare held _ _ _ h2;change((LI .u32)).eZ _ (List.take (Tryz.prog.cellsOf 24) (List.drop 2 cs)) z2 at r2;rw[show Tryz.prog.cellsOf 24=1 from by kernel_rfl]at r2;obtain⟨_,_,h3⟩:=hp 3 _ rfl;obtain⟨z3,r3,b3⟩:=(Ka Tryz.underlying23) H enc base spare held _ _ _ h3;change((LI .u32)).eZ _ (List.take (Tryz.prog.cellsOf 23) (List.drop 3 cs)) z3 at r3;rw[show Tryz.prog.cellsOf 23=1 from by kernel_rfl]at r3;obtain⟨_,_,h4⟩:=hp 4 _ rfl;obtain⟨z4,r4,b4⟩:=(Ka Tryz.underlying23) H enc base spare held _ _ _ h4;change((LI .u32)).eZ _ (List.take (Tryz.prog.cellsOf 23) (List.drop 4 cs)) z4 at r4;rw[show Tryz.prog.cellsOf 23=1 from by kernel_rfl]at r4;obtain⟨_,_,h5⟩:=hp 5 _ rfl;obtain⟨z5,r5,b5⟩:=(ae0 Tryz.underlying25) H enc base spare held _ _ _ h5;change((LI .u64)).eZ _ (List.take (Tryz.prog.cellsOf 25) (List.drop 5 cs)) z5 at r5;rw[show Tryz.prog.cellsOf 25=1 from by kernel_rfl]at r5;refine⟨⟨z0,z1,z2,z3,z4,z5⟩,?_,b0,b1,b2,b3,b4,b5⟩;show(LP (LI .u8) (LP (LI .u32) (LP (LI .u32) (LP (LI .u32) (LP (LI .u32) (LI .u64)))))).eZ _ (List.drop 0 cs) (z0,z1,z2,z3,z4,z5);exact(C6 (by kernel_rfl) r0 (C6 (by kernel_rfl) r1 (C6 (by kernel_rfl) r2 (C6 (by kernel_rfl) r3 (C6 (by kernel_rfl) r4 (acp hl r5))))))
set_option maxRecDepth 100000 in
theorem adt{W:World}:Opn Tryz.prog W 108 rK (λz=>((0<=z.gT/\z.gT<=255)/\((0<=z.C.Do/\z.C.Do<=255)/\(0<=z.C.R/\z.C.R<=4294967295)/\(0<=z.C.S/\z.C.S<=4294967295)/\(0<=z.C.A/\z.C.A<=4294967295)/\(0<=z.C.B/\z.C.B<=4294967295)/\(0<=z.C.V/\z.C.V<=18446744073709551615)))):=by intro H enc base spare held n cs y h;obtain⟨hl,hp⟩:=KD Tryz.underlying108 h;have hl:cs.length=7:=hl.trans (by kernel_rfl);obtain⟨_,_,h0⟩:=hp 0 _ rfl;obtain⟨z0,r0,b0⟩:=(acn Tryz.underlying5) H enc base spare held _ _ _ h0;change((LI .u8)).eZ _ (List.take (Tryz.prog.cellsOf 5) (List.drop 0 cs)) z0 at r0;rw[show Tryz.prog.cellsOf 5=1 from by kernel_rfl]at r0;obtain⟨_,_,h1⟩:=hp 1 _ rfl;obtain⟨z1,r1,b1⟩:=ZH H enc base spare held _ _ _ h1;change(fJ).eZ _ (List.take (Tryz.prog.cellsOf 27) (List.drop 1 cs)) z1 at r1;rw[show Tryz.prog.cellsOf 27=6 from by kernel_rfl]at r1;refine⟨⟨z0,z1⟩,?_,b0,b1⟩;show(LP (LI .u8) fJ).eZ _ (List.drop 0 cs) (z0,z1);exact(C6 (by kernel_rfl) r0 (acp hl r1))
theorem alq:Tryz.prog.globalNamed "bailiwick/model.does" =some 0:=by kernel_rfl
theorem ajO:(Tryz.prog.globals[0]?).map (·.type)=some 166:=by kernel_rfl
noncomputable def nmB(l:List UInt8):UInt8×List UInt8:=match l with
 |b::r=>(b,r)
 |[]=>(0,[])
noncomputable def nmF(f:FuncId):UInt8×List UInt8:=nmB ((Tryz.prog.funcs[f]?.map λg=>g.name.toUTF8.data.toList).getD [])
def XT:List (Int×Nat):=match sg.gt with
 |some g=>g.2
 |none=>[]
theorem hone:∀x∈XT,((List.range Tryz.prog.funcs.size).filter λf=>(Tryz.prog.funcs[f]?).any (·.name.toUTF8.data.toList==(nmF x.2).1::(nmF x.2).2))=[x.2]:=by
 have h:(XT.all λx=>((List.range Tryz.prog.funcs.size).filter λf=>(Tryz.prog.funcs[f]?).any (·.name.toUTF8.data.toList==(nmF x.2).1::(nmF x.2).2))==[x.2])=true:=by kernel_rfl
 intro x hx;exact eq_of_beq (List.all_eq_true.1 h x hx)
theorem acN:∀x∈XT.map I1,∀y∈XT.map I1,x.1=y.1->x=y:=by
 have h:((XT.map (·.1)).zipIdx).all (λp=>p.1==(p.2:Int)+1)=true:=by kernel_rfl
 intro x hx y hy e;obtain⟨i,hi,rfl⟩:=List.mem_iff_getElem.1 hx;obtain⟨j,hj,rfl⟩:=List.mem_iff_getElem.1 hy;have key:∀i (hi:i<(XT.map I1).length),((XT.map I1)[i]).1=(i:Int)+1:=λi hi=>by
  have hi':i<(XT.map (·.1)).length:=by simpa using hi
  have:=List.all_eq_true.1 h ((XT.map (·.1))[i],i) (by rw[List.mem_zipIdx_iff_getElem?];simp;exact⟨_,ao3 (by simpa using hi)⟩);have h3:(XT.map (·.1))[i]=(i:Int)+1:=by simpa using this
  rw[← h3];simp[I1]
 have:=(key i hi).symm.trans (e.trans (key j hj));obtain rfl:i=j:=by omega
 rfl
theorem adw{W:World}(h:laidMetH Tryz.prog Rows.modelPlacesRow.laid W):∀g,sg.gt=some g->∃mb,GlX g mb W:=by
 intro g0 hg0;have e2:g0=(.u8,XT):=by cases hg0;rfl
 subst e2;obtain⟨g,t,cs,fuel,p,hg,ht,hv,hd⟩:=h.funcs (List.mem_singleton.2 rfl);obtain rfl:=Option.some.inj (alq.symm.trans hg);obtain rfl:=Option.some.inj (ajO.symm.trans ht);obtain⟨b,l,hcs,hm,hl⟩:=Tg (ps:=p) Tryz.underlying166 Tryz.underlying5 Tryz.underlying164 XT nmF (hd.trans (by kernel_rfl)) hone;refine⟨b,?_,l,hm,λk=>Te hl acN k .nilFunc⟩;have:=World.var?_cell hg hv 0;rw[Array.eq_one_of_toList hcs]at this;simpa using this
set_option maxRecDepth 100000 in
theorem abg(os:Os)(args:Array Value):laidMetH Tryz.prog Rows.modelPlacesRow.laid ((World.doorLaid Tryz.prog 600 os).forCall (λ_ _ =>0) ⟨#[],args,[]⟩).memory:=
 laidMetH_of_parts3 (fuel:=8) (laidMet_of_run' 8 (by kernel_rfl) (by kernel_rfl)) (by kernel_rfl) (by kernel_rfl)
theorem own:ownKnob Tryz.prog.godebug=none:=by kernel_rfl
theorem Va:laidOutB Tryz.prog=true:=by kernel_rfl
set_option maxRecDepth 100000 in
theorem lifted(os:Os)(started:os.Started)(H:Type)(enc:TypeId×Value->H):
  ReturnsInHanded {} Tryz.checked os 3 .any (λw args=>(Rows.modelPlacesSpec.pre enc Tryz.prog Tryz.f3 [] false w args/\laidMetH Tryz.prog Rows.modelPlacesRow.laid w)/\sizedMet enc Tryz.prog Tryz.f3 (OpenSpec.ofChange Rows.modelPlacesSpec) false w args) (Rows.modelPlacesSpec.post enc Tryz.prog Tryz.f3 false true false false):=by
 refine returnsInHanded_of_change_and (C:=Tryz.checked) (X:=λw _ =>laidMetH Tryz.prog Rows.modelPlacesRow.laid w) (λ_ _ _ hh h=>h.of_heap hh) own started (by kernel_rfl) Tryz.func3
  (ChangeSpec.witness_shaped (enc:=enc) (C:=Tryz.checked) (os:=os) (X:=λw _ =>laidMetH Tryz.prog Rows.modelPlacesRow.laid w) false (World.doorLaid Tryz.prog 600 os) #[.slice none 0 0, .agg #[.int .u8 0, .int .u32 0, .int .u32 0, .int .u32 0, .int .u32 0, .int .u64 0]] 8 rfl (World.shaped_of_RefB (by kernel_rfl) (by kernel_rfl)) (by kernel_rfl) (by kernel_rfl) (by kernel_rfl) (abg os _)) ?_
 intro W base args ds gs before afu hW _ _ hL _;have hval:∀(j:Nat) t v,Tryz.f3.params[j]? =some t->args[j]? =some v->Value.okWide Tryz.prog W .any base t v:=afu;have hW':=hW;obtain⟨p,q,hA0,hV,rfl,hfz,vt⟩:=hW;have hA:DataW.TrodAll enc Tryz.prog W 0 (λ_ =>true) true Tryz.f3.params.toList args.toList ds p:=hA0;rw[Tryz.params3]at hA hval;obtain⟨v0,vs0,d0,ds0,p0,q0,hargs,rfl,rfl,h0,r0⟩:=trodAll_cons hA;obtain⟨v1,vs1,d1,ds1,p1,q1,rfl,rfl,rfl,h1,r1⟩:=trodAll_cons r0;obtain⟨rfl,rfl,rfl⟩:=trodAll_nil r1;obtain rfl:args= #[v0,v1]:=by cases args;simp_all
 obtain⟨rfl,rfl⟩:=trodVars_none hV;obtain⟨a0,aoC,aoQ,rfl⟩:=okWide_slice Tryz.underlying22 (hval 0 22 v0 rfl rfl);have k0:=h0;have lt0:∀x∈p0,x.block<W.heap.size:=by obtain⟨m,hm⟩:=k0;exact DataW.trod_lt m _ _ _ hm
 obtain⟨aov,hf0⟩:=h0;obtain⟨z0,rp0,b0⟩:=(ai2 (L:=rK) (sz:=7) Tryz.underlying22 (by kernel_rfl) (by kernel_rfl) (by decide) adt) H enc _ _ _ _ _ _ hf0;obtain⟨ar1,rfl,_⟩:=okWide_struct Tryz.underlying27 (hval 1 27 v1 rfl rfl);obtain⟨cs1⟩:=ar1;have k1:=h1;have lt1:∀x∈p1,x.block<W.heap.size:=by obtain⟨m,hm⟩:=k1;exact DataW.trod_lt m _ _ _ hm
 obtain⟨aou,hf1⟩:=h1;obtain⟨z1,rp1,b1⟩:=ZH H enc _ _ _ _ _ _ hf1;obtain rfl:cs1=(fJ).enc z1:=bR.iff.1 (ait rp1);clear hA0 afu;letI:bR ((Ty.st 1).L sg):=inferInstanceAs (bR rK);refine(Rx (ct:=Dn 20000) (x:=(z0,(z1,()))) (y:=(true,())) (v:= .bool true) ⟨true,MH b0 b1,rfl⟩ (adw hL) (λJ hJ=>⟨_,_,rfl,afb (e:= .st 1) ((ahO (ajQ rp0)).mono hJ),_,_,rfl,EK (t:= .st 0) ((bR.iff (L:=fJ)).2 rfl) rfl,rfl⟩) rfl rfl rfl (λJ σ u us ⟨_,_,e,h1,_⟩=>by
  cases e;have h1:[u]=[.bool true]:=h1;cases h1;rfl)).mono λe W' ⟨he,hsi⟩=>?_
 have bel:=Below.ZO hsi;subst he;exact⟨_,rfl,_,_,_,[],_,[],hW',trodAll_mk1 (shut_bool Tryz.underlying4 _),(trodAll_cons_mk (Below.trod Va (by kernel_rfl) (of_decide_eq_true (by kernel_rfl)) k0 bel lt0) (trodAll_cons_mk (Below.trod Va (by kernel_rfl) (of_decide_eq_true (by kernel_rfl)) k1 bel lt1) trodAll_mk0)),rfl,bel.frame _,λh=>by cases h⟩
theorem ang:Rows.modelPlacesRow.holds Tryz.pinned (OpenSpec.ofChange Rows.modelPlacesSpec):=
 OpenClaim.holds_of_wide 3 Tryz.f3 rfl rfl rfl rfl rfl rfl rfl ⟨rfl,rfl,rfl,rfl,rfl⟩ rfl rfl rfl rfl rfl (by kernel_rfl) Tryz.func3 (by kernel_rfl)
  (of_decide_eq_true (by kernel_rfl)) (by unfold Func.isWrapper;first|(rw[aoU (by decide+kernel)];kernel_rfl)|(rw[aoV (by decide+kernel)];exact⟨rfl,rfl⟩))
  (λos started H enc _ =>lifted os started H enc)
theorem proved:Rows.ModelPlacesCardSaid:=
 Claim7.holds_tied_plain_at .later [] [.funcs] true (true,"8a11bb9969702b6c1b750b6d9bc63ec1f808ed965730d9fd4eaca4b94f5fb12f") true
  ang (λ_ h=>by cases h) (by kernel_rfl) (λ_ h=>by cases h) modelPlaces_row_tie rfl ⟨rfl,rfl⟩ (by kernel_rfl) rfl
  (λf fn hf hfn=>by
   obtain rfl:f=3:=Option.some.inj ((show Tryz.prog.funcNamed "bailiwick/bailiwicklaw12.ModelPlaces" =some 3 by kernel_rfl).symm.trans hf)|>.symm;obtain rfl:fn=Tryz.f3:=(Option.some.inj (Tryz.func3.symm.trans hfn)).symm;exact⟨by kernel_rfl,λj t ht=>by
    rw[Tryz.params3]at ht;have hm:t∈[22,27]:=by simpa using Array.mem_of_getElem? ht
    have xq:([22,27].all λu=> !Tryz.prog.wantsStandIn u)=true:=by kernel_rfl
    exact(show Tryz.prog.wantsStandIn t=false by simpa using List.all_eq_true.1 xq t hm)⟩)
  (by kernel_rfl)
#print axioms proved
end Go.Proofs.YtdoilgdknefccaaGreatDoor.modelPlaces
