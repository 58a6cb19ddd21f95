/- PROVED HERE: Rows.ListRoomCardSaid: A list takes room for as many values as it had at once, and no more. `of_laid`: the table model.does reads as the program lays it. The frame of a door seat's statement. -/
import Derived.Test.YtgdmofhmmhcmjaaGreatDoorRows
import Derived.Test.YtgdmofhmmhcmjaaGreatDoorTie
import Derived.Test.YtgdmofhmmhcmjaaGreatDoorQ17
namespace Go.Proofs.YtgdmofhmmhcmjaaGreatDoor.listRoom
open Go.ChangeShapes Go.WideShapes Go.ChangeAt Go.RowKit Go.Bw Go.Rw Go.Proofs.Z
set_option maxRecDepth 100000 in
theorem abM{W:World}:Opn Tryz.prog W 48 jZ (λz=>((0<=z.Do/\z.Do<=255)/\(-9223372036854775808<=z.I/\z.I<=9223372036854775807)/\(0<=z.V/\z.V<=18446744073709551615))):=by intro H enc base spare held n cs y h;obtain⟨hl,hp⟩:=Nn Tryz.underlying48 h;have hl:cs.length=3:=hl.trans (by kernel_rfl);obtain⟨_,_,h0⟩:=hp 0 _ rfl;obtain⟨z0,r0,b0⟩:=(adI Tryz.underlying5) H enc base spare held _ _ _ h0;change((LI .u8)).eI _ (List.take (Tryz.prog.cellsOf 5) (List.drop 0 cs)) z0 at r0;rw[show Tryz.prog.cellsOf 5=1 from by kernel_rfl]at r0;obtain⟨_,_,h1⟩:=hp 1 _ rfl;obtain⟨z1,r1,b1⟩:=(aag Tryz.underlying3) H enc base spare held _ _ _ h1;change((LI .i64)).eI _ (List.take (Tryz.prog.cellsOf 3) (List.drop 1 cs)) z1 at r1;rw[show Tryz.prog.cellsOf 3=1 from by kernel_rfl]at r1;obtain⟨_,_,h2⟩:=hp 2 _ rfl;obtain⟨z2,r2,b2⟩:=(aaf Tryz.underlying33) H enc base spare held _ _ _ h2;change((LI .u64)).eI _ (List.take (Tryz.prog.cellsOf 33) (List.drop 2 cs)) z2 at r2;rw[show Tryz.prog.cellsOf 33=1 from by kernel_rfl]at r2;refine⟨⟨z0,z1,z2⟩,?_,b0,b1,b2⟩;show(LP (LI .u8) (LP (LI .i64) (LI .u64))).eI _ (List.drop 0 cs) (z0,z1,z2);exact(Qx (by kernel_rfl) r0 (Qx (by kernel_rfl) r1 (adN hl r2)))
theorem af3:Tryz.prog.globalNamed "bailiwick/model.does" =some 0:=by kernel_rfl
theorem aey:(Tryz.prog.globals[0]?).map (·.type)=some 234:=by kernel_rfl
noncomputable def NM(l:List UInt8):UInt8×List UInt8:=match l with
 |b::r=>(b,r)
 |[]=>(0,[])
noncomputable def nmF(f:FuncId):UInt8×List UInt8:=NM ((Tryz.prog.funcs[f]?.map λg=>g.name.toUTF8.data.toList).getD [])
def Sb:List (Int×Nat):=match sg.gt with
 |some g=>g.2
 |none=>[]
theorem hone:∀x∈Sb,((List.range Tryz.prog.funcs.size).filter λf=>(Tryz.prog.funcs[f]?).any (·.name.toUTF8.data.toList==(nmF x.2).1::(nmF x.2).2))=[x.2]:=by
 have h:(Sb.all λx=>((List.range Tryz.prog.funcs.size).filter λf=>(Tryz.prog.funcs[f]?).any (·.name.toUTF8.data.toList==(nmF x.2).1::(nmF x.2).2))==[x.2])=true:=by kernel_rfl
 intro x hx;exact eq_of_beq (List.all_eq_true.1 h x hx)
theorem XI:∀x∈Sb.map EB,∀y∈Sb.map EB,x.1=y.1->x=y:=by
 have h:((Sb.map (·.1)).zipIdx).all (λp=>p.1==(p.2:Int)+1)=true:=by kernel_rfl
 intro x hx y hy e;obtain⟨i,hi,rfl⟩:=List.mem_iff_getElem.1 hx;obtain⟨j,hj,rfl⟩:=List.mem_iff_getElem.1 hy;have key:∀i (hi:i<(Sb.map EB).length),((Sb.map EB)[i]).1=(i:Int)+1:=λi hi=>by
  have hi':i<(Sb.map (·.1)).length:=by simpa using hi
  have:=List.all_eq_true.1 h ((Sb.map (·.1))[i],i) (by rw[List.mem_zipIdx_iff_getElem?];simp;exact⟨_,aiV (by simpa using hi)⟩);have h3:(Sb.map (·.1))[i]=(i:Int)+1:=by simpa using this
  rw[← h3];simp[EB]
 have:=(key i hi).symm.trans (e.trans (key j hj));obtain rfl:i=j:=by omega
 rfl
theorem Yo{W:World}(h:laidMetH Tryz.prog Rows.listRoomRow.laid W):∀g,sg.gt=some g->∃mb,GlX g mb W:=by
 intro g0 hg0;have e2:g0=(.u8,Sb):=by cases hg0;rfl
 subst e2;obtain⟨g,t,cs,fuel,p,hg,ht,hv,hd⟩:=h.funcs (List.mem_singleton.2 rfl);obtain rfl:=Option.some.inj (af3.symm.trans hg);obtain rfl:=Option.some.inj (aey.symm.trans ht);obtain⟨b,l,hcs,hm,hl⟩:=NW (ps:=p) Tryz.underlying234 Tryz.underlying5 Tryz.underlying232 Sb nmF (hd.trans (by kernel_rfl)) hone;refine⟨b,?_,l,hm,λk=>NT hl XI k .nilFunc⟩;have:=World.var?_cell hg hv 0;rw[Array.eq_one_of_toList hcs]at this;simpa using this
set_option maxRecDepth 100000 in
theorem Vy(os:Os)(args:Array Value):laidMetH Tryz.prog Rows.listRoomRow.laid ((World.doorLaid Tryz.prog 600 os).forCall (λ_ _ =>0) ⟨#[],args,[]⟩).memory:=
 laidMetH_of_parts3 (fuel:=8) (laidMet_of_run' 8 (by kernel_rfl) (by kernel_rfl)) (by kernel_rfl) (by kernel_rfl)
theorem own:ownKnob Tryz.prog.godebug=none:=by kernel_rfl
theorem YI:laidOutB Tryz.prog=true:=by kernel_rfl
set_option maxRecDepth 100000 in
theorem lifted(os:Os)(started:os.Started)(H:Type)(enc:TypeId×Value->H):
  ReturnsInHanded {} Tryz.checked os 6 .any (λw args=>(Rows.listRoomSpec.pre enc Tryz.prog Tryz.f6 [] false w args/\laidMetH Tryz.prog Rows.listRoomRow.laid w)/\sizedMet enc Tryz.prog Tryz.f6 (OpenSpec.ofChange Rows.listRoomSpec) false w args) (Rows.listRoomSpec.post enc Tryz.prog Tryz.f6 false true false false):=by
 refine returnsInHanded_of_change_and (C:=Tryz.checked) (X:=λw _ =>laidMetH Tryz.prog Rows.listRoomRow.laid w) (λ_ _ _ hh h=>h.of_heap hh) own started (by kernel_rfl) Tryz.func6
  (ChangeSpec.witness_shaped (enc:=enc) (C:=Tryz.checked) (os:=os) (X:=λw _ =>laidMetH Tryz.prog Rows.listRoomRow.laid w) false (World.doorLaid Tryz.prog 600 os) #[.slice none 0 0] 8 rfl (World.shaped_of_RefB (by kernel_rfl) (by kernel_rfl)) (by kernel_rfl) (by kernel_rfl) (by kernel_rfl) (Vy os _)) ?_
 intro W base args ds gs before aaH hW _ _ hL _;have hval:∀(j:Nat) t v,Tryz.f6.params[j]? =some t->args[j]? =some v->Value.okWide Tryz.prog W .any base t v:=aaH;have hW':=hW;obtain⟨p,q,hA0,hV,rfl,hfz,tB⟩:=hW;have hA:DataW.TrodAll enc Tryz.prog W 0 (λ_ =>true) true Tryz.f6.params.toList args.toList ds p:=hA0;rw[Tryz.params6]at hA hval;obtain⟨v0,vs0,d0,ds0,p0,q0,hargs,rfl,rfl,h0,r0⟩:=trodAll_cons hA;obtain⟨rfl,rfl,rfl⟩:=trodAll_nil r0;obtain rfl:args= #[v0]:=by cases args;simp_all
 obtain⟨rfl,rfl⟩:=trodVars_none hV;obtain⟨a0,aiA,aiI,rfl⟩:=okWide_slice Tryz.underlying42 (hval 0 42 v0 rfl rfl);have k0:=h0;have lt0:∀x∈p0,x.block<W.heap.size:=by obtain⟨m,hm⟩:=k0;exact DataW.trod_lt m _ _ _ hm
 obtain⟨ait,hf0⟩:=h0;obtain⟨z0,rp0,b0⟩:=(adJ (L:=jZ) (sz:=3) Tryz.underlying42 (by kernel_rfl) (by kernel_rfl) (by decide) abM) H enc _ _ _ _ _ _ hf0;clear hA0 aaH;letI:bg ((Ty.st 0).L sg):=inferInstanceAs (bg jZ);refine(MM (ct:=Dm 20000) (x:=(z0,())) (y:=(true,())) (v:= .bool true) ⟨true,XV b0,rfl⟩ (Yo hL) (λJ hJ=>⟨_,_,rfl,aaq (e:= .st 0) ((acD (aeB rp0)).mono hJ),rfl⟩) rfl rfl rfl (λJ σ u us ⟨_,_,e,h1,_⟩=>by
  cases e;have h1:[u]=[.bool true]:=h1;cases h1;rfl)).mono λe W' ⟨he,hsi⟩=>?_
 have bel:=Below.Ue hsi;subst he;exact⟨_,rfl,_,_,_,[],_,[],hW',trodAll_mk1 (shut_bool Tryz.underlying4 _),(trodAll_cons_mk (Below.trod YI (by kernel_rfl) (of_decide_eq_true (by kernel_rfl)) k0 bel lt0) trodAll_mk0),rfl,bel.frame _,λh=>by cases h⟩
theorem aho:Rows.listRoomRow.holds Tryz.pinned (OpenSpec.ofChange Rows.listRoomSpec):=
 OpenClaim.holds_of_wide 6 Tryz.f6 rfl rfl rfl rfl rfl rfl rfl ⟨rfl,rfl,rfl,rfl,rfl⟩ rfl rfl rfl rfl rfl (by kernel_rfl) Tryz.func6 (by kernel_rfl)
  (of_decide_eq_true (by kernel_rfl)) (by unfold Func.isWrapper;first|(rw[aiM (by decide+kernel)];kernel_rfl)|(rw[aiN (by decide+kernel)];exact⟨rfl,rfl⟩))
  (λos started H enc _ =>lifted os started H enc)
theorem proved:Rows.ListRoomCardSaid:=
 Claim7.holds_tied_plain_at .later [] [.funcs] true (true,"f80c013579b5f711682f2b8555b608a78ea226a2f684fb1d926419877bd05ef4") true
  aho (λ_ h=>by cases h) (by kernel_rfl) (λ_ h=>by cases h) listRoom_row_tie rfl ⟨rfl,rfl⟩ (by kernel_rfl) rfl
  (λf fn hf hfn=>by
   obtain rfl:f=6:=Option.some.inj ((show Tryz.prog.funcNamed "bailiwick/bailiwicklaw36.ListRoom" =some 6 by kernel_rfl).symm.trans hf)|>.symm;obtain rfl:fn=Tryz.f6:=(Option.some.inj (Tryz.func6.symm.trans hfn)).symm;exact⟨by kernel_rfl,λj t ht=>by
    rw[Tryz.params6]at ht;have hm:t∈[42]:=by simpa using Array.mem_of_getElem? ht
    have Cy:([42].all λu=> !Tryz.prog.wantsStandIn u)=true:=by kernel_rfl
    exact(show Tryz.prog.wantsStandIn t=false by simpa using List.all_eq_true.1 Cy t hm)⟩)
  (by kernel_rfl)
#print axioms proved
end Go.Proofs.YtgdmofhmmhcmjaaGreatDoor.listRoom
