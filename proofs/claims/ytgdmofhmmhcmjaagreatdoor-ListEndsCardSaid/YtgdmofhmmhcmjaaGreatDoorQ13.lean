/- Part 13 of what a proof leans on; pruned and shortened by a program out of longer texts. -/
import Derived.Test.YtgdmofhmmhcmjaaGreatDoorQ12
namespace Go.Proofs.Z
open Go Go.Bw Go.Rw Go.RowKit
noncomputable section
def nT(n:Nat)(a0:bX)(a1:Int):Option Bool:=bd (nC n a0.K a1 0) λaB=>some aB
def xQ(n:Nat):CT:=cV (tW n [] [p6 n]) ⟨267,[(94, .v (.st 16)),(25, .v (.int .u32))], .cons (.bU 0) (.cons (.bU 1) .nil), .cons (.v .bool) .nil,[], .nil,[],[]⟩ (λx=>nT n x.1 x.2.1) u1 m1
def nS(n:Nat)(a0:bX)(a1:Int):Option Bool:=bd (mQ n a0.K a1 0) λaB=>some aB
def xP(n:Nat):CT:=cV (tW n [] [pA n]) ⟨269,[(94, .v (.st 16)),(25, .v (.int .u32))], .cons (.bU 0) (.cons (.bU 1) .nil), .cons (.v .bool) .nil,[], .nil,[],[]⟩ (λx=>nS n x.1 x.2.1) u1 m1
def qx(n:Nat)(a0:Int)(a1:bX):Option Bool:=bd (nk n a1.K a0) λaB=>some (decide (0<(aB.length:Int)))
def vP(n:Nat):CT:=cV (tW n [] [ot n]) ⟨273,[(94, .v (.st 16))], .cons (.v (.int .u32)) (.cons (.bU 0) .nil), .cons (.v .bool) .nil,[], .nil,[],[]⟩ (λx=>qx n x.2.1 x.1) u1 m1
def fD(n:Nat)(a0:(List Int))(gN:bX):Option Int:=iu (λLn (aR:Int)=>cn (decide (aR<(a0.length:Int))) (gu (dm aR a0.length)<|bd (qx n (a0.getD (Int.toNat aR) default) gN) λdD=>cn (dD) (some aR) (Ln (wr .i64 (aR+1)))) (some (-1))) n 0
def jy(n:Nat):CT:=cV (tW n [(5, .loop [(.dz 8,(.v (.int .i64)))])] [vP n]) ⟨146,[(94, .v (.st 16))], .cons (.v (.sl (.int .u32))) (.cons (.fn (.func 273) .nil (.cons (.bU 0) .nil)) .nil), .cons (.v (.int .i64)) .nil,[], .nil,[],[]⟩ (λx=>fD n x.2.1 x.1) u1 m1
def eP(n:Nat)(a0:(List Int))(gN:bX):Option Bool:=bd (fD n a0 gN) λaB=>some (decide (0<=aB))
def iH(n:Nat):CT:=cV (tW n [] [jy n]) ⟨272,[(94, .v (.st 16))], .cons (.v (.sl (.int .u32))) (.cons (.fn (.func 273) .nil (.cons (.bU 0) .nil)) .nil), .cons (.v .bool) .nil,[], .nil,[],[]⟩ (λx=>eP n x.2.1 x.1) u1 m1
def nR(n:Nat)(a0:bX)(a1:Int):Option Bool:=bd (rJ n a0.T a1) λbS=>bd (eP n bS a0) λdZ=>some (!dZ)
def xO(n:Nat):CT:=cV (tW n [] [sG n,iH n]) ⟨271,[(94, .v (.st 16)),(25, .v (.int .u32))], .cons (.bU 0) (.cons (.bU 1) .nil), .cons (.v .bool) .nil,[], .nil,[],[]⟩ (λx=>nR n x.1 x.2.1) u1 m1
def mH(n:Nat)(a0:bX)(a1:Int)(a2:Int):Option Bool:=cn (a2==0) (cl (true==true) (nT n a0 a1) default λdK=>some (true&&dK)) (cn (a2==1) (cl (true==true) (nS n a0 a1) default λdK=>some (true&&dK)) (cn (a2==2) (cl (true==true) (nR n a0 a1) default λdK=>some (true&&dK)) (some false)))
namespace H
theorem M8{J:World->Prop}{T0 T1 q0 q1 r:Nat}{uH:List Value}{a0:bX}{a1:Int}{o:Ob sg}(f0:fb.fk J uH a0)(e:cQ [(0, .cG T0 (.dat (.st 16) a0)),(1, .cG T1 (.int .u32 a1))] r=some o):
  ∃z∈([.cells q0 T0 uH, .cells q1 T1 ((LI .u32).enc a1)]:List aE),ro (G:=sg) J (aW.set (aW.set (λ_ =>none) 0 (dk q0 0)) 1 (dk q1 0)) r o z:=by
 match r,e with
 |0,e=>cases e;exact⟨_,List.mem_cons_self,q0, .agg uH.toArray,rfl,rfl,Kk (t:= .st 16) f0 rfl⟩
 |1,e=>cases e;exact⟨_,ain _ List.mem_cons_self,q1, .int .u32 a1,rfl,rfl,rfl⟩
 |r+2,e=>cases e
theorem yG{n:Nat}{a0:bX}{a1:Int}{r:Bool}{R:List aE}(hg:Ru sg (Hs R)){q0:Nat}{uH:List Value}(f0:fb.fk (Hs R) uH a0){q1:Nat}(h:nT n a0 a1=some r):Bw.Fn (α:=Unit) Tryz.prog 267 [dk q0 0,dk q1 0] (Rv (br [.cells q0 94 uH, .cells q1 25 ((LI .u32).enc a1)]) (Hs R)) [.cells q0 94 uH, .cells q1 25 ((LI .u32).enc a1)] (λ_ =>True) (λ_ => .bool r) (λ_ =>[.cells q0 94 uH, .cells q1 25 ((LI .u32).enc a1)]):=
 yw (ct:=xQ n) (x:=(a0,a1,())) (y:=(r,())) (ρ:=aW.set (aW.set (λ_ =>none) 0 (dk q0 0)) 1 (dk q1 0)) ⟨r,h,rfl⟩ hg (λ_ _ =>⟨_,_,rfl,⟨⟨q0,0, .inl rfl,rfl⟩,nofun⟩,_,_,rfl,⟨⟨q1,0, .inl rfl,rfl⟩,nofun⟩,rfl⟩) rfl rfl
  (λJ hJ r o e=>M8 (T0:=94) (T1:=25) (cP.mono _ hJ f0) e) (λr (hr:2<=r)=>match r,hr with|r+2,_ =>rfl) λJ σ u us ⟨_,_,e,h1,_⟩=>by cases e;have h1:[u]=[.bool _]:=h1;cases h1;rfl
theorem yF{n:Nat}{a0:bX}{a1:Int}{r:Bool}{R:List aE}(hg:Ru sg (Hs R)){q0:Nat}{uH:List Value}(f0:fb.fk (Hs R) uH a0){q1:Nat}(h:nS n a0 a1=some r):Bw.Fn (α:=Unit) Tryz.prog 269 [dk q0 0,dk q1 0] (Rv (br [.cells q0 94 uH, .cells q1 25 ((LI .u32).enc a1)]) (Hs R)) [.cells q0 94 uH, .cells q1 25 ((LI .u32).enc a1)] (λ_ =>True) (λ_ => .bool r) (λ_ =>[.cells q0 94 uH, .cells q1 25 ((LI .u32).enc a1)]):=
 yw (ct:=xP n) (x:=(a0,a1,())) (y:=(r,())) (ρ:=aW.set (aW.set (λ_ =>none) 0 (dk q0 0)) 1 (dk q1 0)) ⟨r,h,rfl⟩ hg (λ_ _ =>⟨_,_,rfl,⟨⟨q0,0, .inl rfl,rfl⟩,nofun⟩,_,_,rfl,⟨⟨q1,0, .inl rfl,rfl⟩,nofun⟩,rfl⟩) rfl rfl
  (λJ hJ r o e=>M8 (T0:=94) (T1:=25) (cP.mono _ hJ f0) e) (λr (hr:2<=r)=>match r,hr with|r+2,_ =>rfl) λJ σ u us ⟨_,_,e,h1,_⟩=>by cases e;have h1:[u]=[.bool _]:=h1;cases h1;rfl
theorem yE{n:Nat}{a0:bX}{a1:Int}{r:Bool}{R:List aE}(hg:Ru sg (Hs R)){q0:Nat}{uH:List Value}(f0:fb.fk (Hs R) uH a0){q1:Nat}(h:nR n a0 a1=some r):Bw.Fn (α:=Unit) Tryz.prog 271 [dk q0 0,dk q1 0] (Rv (br [.cells q0 94 uH, .cells q1 25 ((LI .u32).enc a1)]) (Hs R)) [.cells q0 94 uH, .cells q1 25 ((LI .u32).enc a1)] (λ_ =>True) (λ_ => .bool r) (λ_ =>[.cells q0 94 uH, .cells q1 25 ((LI .u32).enc a1)]):=
 yw (ct:=xO n) (x:=(a0,a1,())) (y:=(r,())) (ρ:=aW.set (aW.set (λ_ =>none) 0 (dk q0 0)) 1 (dk q1 0)) ⟨r,h,rfl⟩ hg (λ_ _ =>⟨_,_,rfl,⟨⟨q0,0, .inl rfl,rfl⟩,nofun⟩,_,_,rfl,⟨⟨q1,0, .inl rfl,rfl⟩,nofun⟩,rfl⟩) rfl rfl
  (λJ hJ r o e=>M8 (T0:=94) (T1:=25) (cP.mono _ hJ f0) e) (λr (hr:2<=r)=>match r,hr with|r+2,_ =>rfl) λJ σ u us ⟨_,_,e,h1,_⟩=>by cases e;have h1:[u]=[.bool _]:=h1;cases h1;rfl
theorem AY{n a0 a1 a2 r}{R:List aE}(hg:Ru sg (Hs R)){uH}(f0:(fb).fk (Hs R) uH a0)(h:mH n a0 a1 a2=some r):FnW Tryz.prog 170 [A uH, .int .u32 a1, .int .u8 a2] (Hs R) (.bool r):=by
 unfold mH at h;refine fo Tryz.func170 (by kernel_rfl) rfl Tryz.ntmps170 rfl λcx _ hro nu hpre=>?_;refine SC 2 rf ?_;refine W1 rf (PJ rfl) λb3=>?_;refine W1 rf (nA (LI .u32) a1 rfl rfl) λb4=>?_;refine SL 5 rf ?_;refine zL rfl (G8 .u8 (λv:Value=>v)) (λYT _ =>?_);refine bT rfl (qz rfl) ?_;refine G6 (DJ (E:=λv:Value=>v) (.func (.func 267) #[] #[dk b3 0,dk b4 0]) rfl rfl rfl rfl) (λ_ _ =>?_);refine bT rfl (qz rfl) ?_;refine G6 (DJ (E:=λv:Value=>v) (.func (.func 269) #[] #[dk b3 0,dk b4 0]) rfl rfl rfl rfl) (λ_ _ =>?_);refine bT rfl (qz rfl) ?_;refine G6 (DJ (E:=λv:Value=>v) (.func (.func 271) #[] #[dk b3 0,dk b4 0]) rfl rfl rfl rfl) (λ_ _ =>?_);refine SL 5 rf ?_;rcases Decidable.em (a2=0)with AN|AN
 ·replace h:=NK (by simpa using AN) h;refine SC 3 rf ?_;refine bT rfl (wu .nilFunc (.func (.func 267) #[] #[dk b3 0,dk b4 0]) true rfl rfl (by rw[AN];rfl) (by rw[AN];rfl)) ?_;obtain⟨dK,Nn,_,h⟩:=YH h;refine SL 11 rf ?_;refine GB rf rf rf (λhb=>cE rfl) ?_;refine DF (VV rfl rfl) rfl (λhb=>yG (R:=R) hg (mo f0) (Nn hb)) (λhb=>(Kb rfl hb)) (λhb=>rfl) rfl (mq:=[.cells b3 94 uH, .cells b4 25 ((LI .u32).enc a1)]) (rst:=[Mp YT .u8 (λv:Value=>v) (sX (sX (sX ([]:List (Int×Value)) 0 (.func (.func 267) #[] #[dk b3 0,dk b4 0])) 1 (.func (.func 269) #[] #[dk b3 0,dk b4 0])) 2 (.func (.func 271) #[] #[dk b3 0,dk b4 0]))]) (ks:=[2,1,0]) rfl (by decide) (λhb=>inferInstance) ?_;dsimp only[List.cons_append,List.nil_append];refine bT rfl (G7 rfl rfl) ?_;refine SL 4 rf ?_;have h:=sj h;subst h;exact RV rf (rt rf rn) rf
 replace h:=NL (by simpa using AN) h;rcases Decidable.em (a2=1)with AL|AL
 ·replace h:=NK (by simpa using AL) h;refine SC 3 rf ?_;refine bT rfl (wu .nilFunc (.func (.func 269) #[] #[dk b3 0,dk b4 0]) true rfl rfl (by rw[AL];rfl) (by rw[AL];rfl)) ?_;obtain⟨dK,Nn,_,h⟩:=YH h;refine SL 11 rf ?_;refine GB rf rf rf (λhb=>cE rfl) ?_;refine DF (VV rfl rfl) rfl (λhb=>yF (R:=R) hg (mo f0) (Nn hb)) (λhb=>(Kb rfl hb)) (λhb=>rfl) rfl (mq:=[.cells b3 94 uH, .cells b4 25 ((LI .u32).enc a1)]) (rst:=[Mp YT .u8 (λv:Value=>v) (sX (sX (sX ([]:List (Int×Value)) 0 (.func (.func 267) #[] #[dk b3 0,dk b4 0])) 1 (.func (.func 269) #[] #[dk b3 0,dk b4 0])) 2 (.func (.func 271) #[] #[dk b3 0,dk b4 0]))]) (ks:=[2,1,0]) rfl (by decide) (λhb=>inferInstance) ?_;dsimp only[List.cons_append,List.nil_append];refine bT rfl (G7 rfl rfl) ?_;refine SL 4 rf ?_;have h:=sj h;subst h;exact RV rf (rt rf rn) rf
 replace h:=NL (by simpa using AL) h;rcases Decidable.em (a2=2)with AK|AK
 ·replace h:=NK (by simpa using AK) h;refine SC 3 rf ?_;refine bT rfl (wu .nilFunc (.func (.func 271) #[] #[dk b3 0,dk b4 0]) true rfl rfl (by rw[AK];rfl) (by rw[AK];rfl)) ?_;obtain⟨dK,Nn,_,h⟩:=YH h;refine SL 11 rf ?_;refine GB rf rf rf (λhb=>cE rfl) ?_;refine DF (VV rfl rfl) rfl (λhb=>yE (R:=R) hg (mo f0) (Nn hb)) (λhb=>(Kb rfl hb)) (λhb=>rfl) rfl (mq:=[.cells b3 94 uH, .cells b4 25 ((LI .u32).enc a1)]) (rst:=[Mp YT .u8 (λv:Value=>v) (sX (sX (sX ([]:List (Int×Value)) 0 (.func (.func 267) #[] #[dk b3 0,dk b4 0])) 1 (.func (.func 269) #[] #[dk b3 0,dk b4 0])) 2 (.func (.func 271) #[] #[dk b3 0,dk b4 0]))]) (ks:=[2,1,0]) rfl (by decide) (λhb=>inferInstance) ?_;dsimp only[List.cons_append,List.nil_append];refine bT rfl (G7 rfl rfl) ?_;refine SL 4 rf ?_;have h:=sj h;subst h;exact RV rf (rt rf rn) rf
 replace h:=NL (by simpa using AK) h;refine SC 3 rf ?_;refine bT rfl (wu .nilFunc .nilFunc false rfl rfl (OG (z:= .nilFunc) AN AL AK).1 (OG (z:= .nilFunc) AN AL AK).2) ?_;refine SL 11 rf ?_;refine GB rf rf rf (λhb=>cE rfl) ?_;refine afO (v:= .bool false) (VV rfl rfl) (by rfl) rfl ?_;refine bT rfl (G7 rfl rfl) ?_;refine SL 4 rf ?_;have h:=sj h;subst h;exact RV rf (rt rf rn) rf
end H
def Az(n:Nat):Ct Tryz.prog sg:=ctV (G:=sg) ⟨170,[], .cons (.v (.st 16)) (.cons (.v (.int .u32)) (.cons (.v (.int .u8)) .nil)), .cons (.v .bool) .nil,[], .nil,[],[]⟩ (λx=>mH n x.1 x.2.1 x.2.2.1) (λz=>(z,())) (false) (by kernel_rfl) (UA (λ_ =>rfl) (λ_ =>rfl) rfl λρ R x z vs hg hz hv=>by
 obtain⟨cs,r1,e_1,h0,v1⟩:=JB hv rfl;obtain⟨r2,e_2,v2⟩:=M1 v1;obtain⟨r3,e_3,v3⟩:=M1 v2;have e_0:r3=[]:=v3;subst e_0 e_3 e_2 e_1;exact⟨_,ab0 (H.AY hg h0 hz),λJ v e=>by
  subst e;exact⟨_,_,rfl,rfl,rfl⟩⟩)
def tZ(n:Nat)(a0:Int)(a1:bX)(a2:Int)(a3:Int)(a4:Int):Option Bool:=bd (cR n a1.K a0) λaB=>cl ((((wr .i64 aB.1.To)==a2)==true)&&((a3==0)==true)) (nC n a1.K a4 a0) default λaR=>cl (((((wr .i64 aB.1.To)==a2)==true)&&(((a3==0)&&aR)==false))&&(((a3==1)&&aB.1.mI)==true)) (mQ n a1.K a4 a0) default λbS=>some (((wr .i64 aB.1.To)==a2)&&(((a3==0)&&aR)||(((a3==1)&&aB.1.mI)&&bS)))
def zD(n:Nat):CT:=cV (tW n [] [eo n,p6 n,pA n]) ⟨286,[(94, .v (.st 16)),(3, .v (.int .i64)),(5, .v (.int .u8)),(25, .v (.int .u32))], .cons (.v (.int .u32)) (.cons (.bU 0) (.cons (.bU 1) (.cons (.bU 2) (.cons (.bU 3) .nil)))), .cons (.v .bool) .nil,[], .nil,[],[]⟩ (λx=>tZ n x.2.2.2.2.1 x.1 x.2.1 x.2.2.1 x.2.2.2.1) u1 m1
def fT(n:Nat)(a0:(List Int))(gN:bX)(qT:Int)(Vb:Int)(acE:Int):Option Int:=iu (λLn (aR:Int)=>cn (decide (aR<(a0.length:Int))) (gu (dm aR a0.length)<|bd (tZ n (a0.getD (Int.toNat aR) default) gN qT Vb acE) λdD=>cn (dD) (some aR) (Ln (wr .i64 (aR+1)))) (some (-1))) n 0
def jZ(n:Nat):CT:=cV (tW n [(5, .loop [(.dz 8,(.v (.int .i64)))])] [zD n]) ⟨146,[(94, .v (.st 16)),(3, .v (.int .i64)),(5, .v (.int .u8)),(25, .v (.int .u32))], .cons (.v (.sl (.int .u32))) (.cons (.fn (.func 286) .nil (.cons (.bU 0) (.cons (.bU 1) (.cons (.bU 2) (.cons (.bU 3) .nil))))) .nil), .cons (.v (.int .i64)) .nil,[], .nil,[],[]⟩ (λx=>fT n x.2.2.2.2.1 x.1 x.2.1 x.2.2.1 x.2.2.2.1) u1 m1
def fE(n:Nat)(a0:(List Int))(gN:bX)(qT:Int)(Vb:Int)(acE:Int):Option Bool:=bd (fT n a0 gN qT Vb acE) λaB=>some (decide (0<=aB))
def jz(n:Nat):CT:=cV (tW n [] [jZ n]) ⟨272,[(94, .v (.st 16)),(3, .v (.int .i64)),(5, .v (.int .u8)),(25, .v (.int .u32))], .cons (.v (.sl (.int .u32))) (.cons (.fn (.func 286) .nil (.cons (.bU 0) (.cons (.bU 1) (.cons (.bU 2) (.cons (.bU 3) .nil))))) .nil), .cons (.v .bool) .nil,[], .nil,[],[]⟩ (λx=>fE n x.2.2.2.2.1 x.1 x.2.1 x.2.2.1 x.2.2.2.1) u1 m1
def wY(n:Nat)(a0:bX)(a1:Int)(a2:Int)(a3:Int):Option Bool:=bd (nk n a0.K a2) λaB=>bd (fE n aB a0 a1 a3 a2) λeM=>some eM
def BA(n:Nat):CT:=cV (tW n [] [ot n,jz n]) (kA 266 [.s 16, .i, .w, .v (.int .u8)] [.b]) (a4 (wY n)) u1 m1
def oY(n:Nat)(a0:bX)(a1:Int)(a2:Int)(a3:Int):Option Int:=bd (aJ n a0.T.fB.kO a2) λaB=>cn ((!aB)) (some 4) (bd (jT n a0.O a0.T a2) λcH=>cn ((cH.xu==3)) (gu (!((((a3==0)&&decide (0<=a1))&&decide (a1<8))==true)||decide (0<=a1))<|cn ((!((((a3==0)&&decide (0<=a1))&&decide (a1<8))&&((rM .u8 (zE .u8 cH.jk a1) 1)==1)))) (some 5) (some 0)) (cn ((cH.xu==1)) (cl (((wr .i64 cH.jS)==a1)==true) (mH n a0 a2 a3) default λfz=>cl ((((wr .i64 cH.jS)==a1)&&fz)==false) (wY n a0 a1 a2 a3) default λdD=>cn ((!((((wr .i64 cH.jS)==a1)&&fz)||dD))) (some 5) (some 0)) (some 5)))
def CZ(n:Nat):CT:=cV (tW n [] [aP n,jq n,Az n,BA n]) (kA 236 [.s 16, .i, .w, .v (.int .u8)] [.i]) (a4 (oY n)) u1 m1
def yC(n:Nat)(a0:ax)(a1:Int)(a2:Int):Option (Except Int aN):=bd (ew n a0 a1) λaB=>tc (aB.2==0) (.error aB.2)<|tc (decide (0<=a2)&&decide (a2<8)) (.error 2)<|some (.ok aB.1)
def Ad(n:Nat):CT:=cT (tW n [] [bj n,aY n,fI n]) 262 [.s 10, .w, .i] [.s 6] 31 (a3 (yC n)) u1 m1
def L1(n:Nat)(a0:ax)(a1:Int)(a2:Int)(a3:Int)(a4:Bool):Option (ax×Int):=bd (aJ n a0.fB.kO a1) λaB=>cl ((aB==true)&&((a3==0)==false)) (aJ n a0.fB.kO a3) default λaR=>tc (aB&&((a3==0)||aR)) (dV,4)<|tr (yC n a0 a1 a2) (λab8=>(dV,ab8)) λdO=>cl (((a3==0)||a4)==false) (nv n a0 a3 a1) default λfP=>tc (((a3==0)||a4)||fP) (dV,5)<|gu (dm a2 8)<|lt ({dO with qG:=(iB dO.qG (Int.toNat a2) a3)}:aN) λgB=>bd (iN n a0 a1 gB) λkY=>some (kY.1,kY.2)
def MF(n:Nat):CT:=cV (tW n [] [bj n,aY n,aP n,Ad n,oy n,ou n]) (kA 260 [.s 10, .w, .i, .w, .b] [.t [.s 10, .i]]) (λx=>L1 n x.1 x.2.1 x.2.2.1 x.2.2.2.1 x.2.2.2.2.1) u2 m2
def L2(n:Nat)(a0:ax)(a1:Int)(a2:Int)(a3:Int)(a4:Bool):Option (ax×Int):=bd (L1 n a0 a1 a2 a3 a4) λaB=>cn ((aB.2!=0)) (some (a0,aB.2)) (some (aB.1,0))
def MG(n:Nat):CT:=cV (tW n [] [MF n]) (kA 227 [.s 10, .w, .i, .w, .b] [.t [.s 10, .i]]) (λx=>L2 n x.1 x.2.1 x.2.2.1 x.2.2.2.1 x.2.2.2.2.1) u2 m2
def GM(n:Nat)(a0:ax)(a1:Int)(a2:Int):Option (Int×Int):=tr (yC n a0 a1 a2) (λnN=>(0,nN)) λaB=>gu (dm a2 8)<|tc ((aB.qG (Int.toNat a2))!=0) (0,10)<|bd (aJ n a0.fB.kO (aB.qG (Int.toNat a2))) λdZ=>tc dZ (0,4)<|some ((aB.qG (Int.toNat a2)),0)
def Jp(n:Nat):CT:=cV (tW n [] [bj n,aY n,Ad n,aP n]) (kA 228 [.s 10, .w, .i] [.t [.w, .i]]) (a3 (GM n)) u2 m2
def tQ(n:Nat):Option ae:=lt ({cO with mj:=(iB cO.mj 0 true)}:ae) λaB=>lt ({aB with EV:=(iB aB.EV 0 true)}:ae) λcH=>some cH
def Ab(n:Nat):CT:=cV (tW n [] []) (kA 69 [] [.s 19]) (λ_=>tQ n) u1 m1
def iZ(n:Nat)(a0:ak)(a1:Int):Option ak:=bd (rJ n a0.aG.dx.T a1) λbS=>eV (λk51 (kY:Int) (z6:ak)=>cn (decide (kY<(bS.length:Int))) (gu (dm kY bS.length)<|bd (ew n z6.aG.dx.T (bS.getD (Int.toNat kY) default)) λpb=>gu (gZ z6.fC.length pb.1.E.aK.length 16)<|lt (z6.fC++pb.1.E.aK:List au) λJj=>bd (sL n (({z6 with fC:=Jj}).aG.dx.K) (bS.getD (Int.toNat kY) default)) λPN=>k51 (wr .i64 (kY+1)) ({({z6 with fC:=Jj})with aG:={({z6 with fC:=Jj}).aG with dx:={(({z6 with fC:=Jj}).aG).dx with K:=PN}}})) (bd (Ea n z6.aG.dx.T a1) λWq=>some ({z6 with aG:={z6.aG with dx:={z6.aG.dx with T:=Wq.1}}}))) n 0 a0
def mM(n:Nat):CT:=cV (tX n [(3, .loop [(.dz 17,(.v (.int .i64))),(.via 0,di)])] [sG n,fI n,xI n,HQ n] [(1,vw0)] []) ⟨211,[], .cons di (.cons (.v (.int .u32)) .nil), .cons (.jP .nil) (.cons di .nil),[some 0,none], .nil,[],[[0]]⟩ (λx=>iZ n (g7 x) x.2.2.2.2.2.2.2.1) (λy=>g7 y) (λz=>(h7 z ()))
def dA(n:Nat)(a0:Int):Option (Except Int Unit):=tc (a0==0) (.error a0)<|some (.ok ())
def cW(n:Nat):CT:=cT (tW n [] [bj n,aY n]) 200 [.i] [.jP .nil] 31 (a1 (dA n)) (λ_ =>()) (λ_ =>())
def nI(n:Nat)(a0:ak)(a1:Int)(a2:Int):Option (Except Int ak):=bd (Ah n a0.aG.dx.O a0.aG.dx.T a1 a2) λbS=>tr (dA n bS.2.2) (λKi=>(.error Ki)) λ_=>cn ((bS.2.1==0)) (bd (iZ n ({a0 with aG:={a0.aG with dx:={a0.aG.dx with O:=bS.1}}}) a1) λeM=>some (.ok eM)) (some (.ok ({a0 with aG:={a0.aG with dx:={a0.aG.dx with O:=bS.1}}})))
def qc(n:Nat):CT:=cX (tW n [] [bj n,aY n,Es n,cW n,mM n]) ⟨219,[], .cons di (.cons (.v (.int .u32)) (.cons (.v (.int .i64)) .nil)), .cons (.jP .nil) (.cons di .nil),[some 0,none],(.cons (.jQ 31 (.v (.int .i64))) .nil),[],[[0]]⟩ (λx=>nI n (g7 x) x.2.2.2.2.2.2.2.1 x.2.2.2.2.2.2.2.2.1) (λy=>g7 y) (λz=>(h7 z ())) u1 m1
def iX(n:Nat)(a0:ak)(a1:Int)(a2:Int):Option (Except Int ak):=bd (Ag n a0.aG.dx.O a0.aG.dx.T a1 a2) λbS=>tr (dA n bS.2) (λKi=>(.error Ki)) λ_=>some (.ok ({a0 with aG:={a0.aG with dx:={a0.aG.dx with O:=bS.1}}}))
def jD(n:Nat):CT:=cX (tW n [] [bj n,aY n,Er n,cW n]) ⟨201,[], .cons di (.cons (.v (.int .u32)) (.cons (.v (.int .i64)) .nil)), .cons (.jP .nil) (.cons di .nil),[some 0,none],(.cons (.jQ 31 (.v (.int .i64))) .nil),[],[[0]]⟩ (λx=>iX n (g7 x) x.2.2.2.2.2.2.2.1 x.2.2.2.2.2.2.2.2.1) (λy=>g7 y) (λz=>(h7 z ())) u1 m1
def Ai(n:Nat)(a0:cm):Option cm:=some a0
def Et(n:Nat):CT:=cV (tW n [] []) ⟨284,[], .cons (.v (.st 18)) .nil, .cons (.fn (.func 290) .nil (.cons (.box 99 (.v (.st 18))) .nil)) .nil,[none], .nil,[],[]⟩ (a1 (Ai n)) u1 m1
def u7(n:Nat)(a0:(List aQ)):Option (List aQ):=some a0
def sI(n:Nat)(a0:(List aQ)):Option (List aQ):=gu ((a0.length:Int)==(a0.length:Int))<|gu ((a0.length:Int)==(a0.length:Int))<|some a0
theorem AR(n:Nat)(a0:(List aQ)):sI n a0=u7 n a0:=OY.trans OY
def Ar(n:Nat):CT:=cV (tW n [] []) (kA 285 [.v (.sl (.st 17))] [.v (.sl (.st 17))]) (a1 (u7 n)) u1 m1 (hW:=λx=>Eq.trans (b:=sI n x.1) (by kernel_rfl) (AR ..))
def tR(n:Nat)(a0:cm)(a1:Int):Option Int:=some (Int.tmod (wr .i64 (a0.wW+a1)) 4)
def uo(n:Nat):CT:=cV (tW n [] []) (kA 259 [.s 18, .i] [.i]) (a2 (tR n)) u1 m1
def wS(n:Nat)(a1:cm):Option (List aQ):=iu (λk35 (dD:Int)=>cn (decide (dD<a1.n)) (bd (tR n a1 dD) λjx=>gu (dm jx 4)<|yl (a1.ring (Int.toNat jx))<|k35 (wr .i64 (dD+1))) (some [])) n 0
def B3(n:Nat):It Tryz.prog sg:=mkI (tX n [(3, .loop [(.dz 6,(.v (.int .i64)))])] [uo n] [] []) 3000 290 (.cons (.box 99 (.v (.st 18))) .nil) (.cons (.v (.st 17)) .nil) (.st (G:=sg) (i:=17) (λ(x:aQ)=>cP.enc eX x) (λJ cs x=>bf.iff (L:=eX)) .nil) (B:=aQ) (λy=>(y,())) (λx=>(x.1)) (λx=>wS n x.1) (λ_ =>rfl) (by kernel_rfl) (λx=>by kernel_rfl)
def BX(n:Nat)(a0:cm):Option (List aQ):=bd (Ai n a0) λaB=>bd (wS n aB) λbS=>xh (λ(Pg:aQ) k31 (eM:(List aQ))=>lt (Pg:aQ) λfP=>gu (gZ eM.length 1 24)<|lt (eM++([fP]):List aQ) λjo=>k31 jo) (λ(eM:(List aQ))=>some eM) bS ([]:List aQ)
def FH(n:Nat):CT:=cV (tX n [(7, .loop [(.via 3, .box 305 (.row 96 4 (.st 17)))])] [Et n,Ar n] [] [B3 n]) (kA 264 [.s 18] [.v (.sl (.st 17))]) (a1 (BX n)) u1 m1
def yd(n:Nat)(a0:cm):Option (cm×(List aQ)):=lt ({ring:=(λ_ =>iy),wW:=0,n:=0,closed:=true}:cm) λaB=>bd (BX n a0) λaR=>some (aB,aR)
def CP(n:Nat):CT:=cV (tW n [] [FH n]) (kA 229 [.s 18] [.t [.s 18, .v (.sl (.st 17))]]) (a1 (yd n)) u2 m2
def oR(n:Nat)(a0:ak)(a1:Int):Option (Except Int ak):=gu (dm a1 8)<|bd (yd n (a0.aG.kN (Int.toNat a1))) λaR=>gu (dm a1 8)<|gu (dm a1 8)<|eV (λk58 (rU:Int) (uh:ak)=>cn (decide (rU<(aR.2.length:Int))) (gu (dm rU aR.2.length)<|lt ((aR.2.getD (Int.toNat rU) default):aQ) λy7=>cn (((y7.Region==0)||y7.yP)) (k58 (wr .i64 (rU+1)) uh) (gu (dm y7.Hw 8)<|cn ((uh.aG.mj (Int.toNat y7.Hw))) (tr (iX n uh y7.Region (wr .i64 y7.Hw)) (λahx=>(.error ahx)) λJk=>k58 (wr .i64 (rU+1)) Jk) (bd (iZ n uh y7.Region) λPN=>k58 (wr .i64 (rU+1)) PN))) (bd (wM n uh.aG.dx.K a1) λMm=>eV (λagZ (Wv:Int) (MC:ak)=>cn (decide (Wv<(Mm.length:Int))) (gu (dm Wv Mm.length)<|bd (gJ n MC.aG.dx.K (Mm.getD (Int.toNat Wv) default)) λagz=>agZ (wr .i64 (Wv+1)) ({MC with aG:={MC.aG with dx:={MC.aG.dx with K:=agz.1}}})) (bd (ya n MC.aG.dx.O MC.aG.dx.T a1) λaau=>eV (λagY (Wu:Int) (Wt:ak)=>cn (decide (Wu<(aau.length:Int))) (gu (dm Wu aau.length)<|bd (iZ n Wt (aau.getD (Int.toNat Wu) default)) λagy=>agY (wr .i64 (Wu+1)) agy) (bd (Af n Wt.aG.dx.O Wt.aG.dx.T a1) λaat=>eV (λagX (Ws:Int) (adN:ak)=>cn (decide (Ws<(aat.length:Int))) (gu (dm Ws aat.length)<|tr (nI n adN (aat.getD (Int.toNat Ws) default) a1) (λafv=>(.error afv)) λagx=>agX (wr .i64 (Ws+1)) agx) (some (.ok adN))) n 0 Wt)) n 0 MC)) n 0 uh)) n 0 ({({a0 with aG:={a0.aG with kN:=(iB a0.aG.kN (Int.toNat a1) aR.1)}})with aG:={({a0 with aG:={a0.aG with kN:=(iB a0.aG.kN (Int.toNat a1) aR.1)}}).aG with mj:=(iB ((({a0 with aG:={a0.aG with kN:=(iB a0.aG.kN (Int.toNat a1) aR.1)}}).aG).mj) (Int.toNat a1) false)}})
def rh(n:Nat):CT:=cX (tX n [(9, .loop [(.dz 40,(.v (.int .i64))),(.via 0,di)]),(25, .loop [(.dz 82,(.v (.int .i64))),(.via 0,di)]),(35, .loop [(.dz 119,(.v (.int .i64))),(.via 0,di)]),(45, .loop [(.dz 142,(.v (.int .i64))),(.via 0,di)])] [bj n,aY n,CP n,jD n,mM n,Bj n,pB n,CN n,Ep n,qc n] [(4,vw0),(12,vw0),(17,vw0),(22,vw0)] []) ⟨175,[], .cons di (.cons (.v (.int .i64)) .nil), .cons (.jP .nil) (.cons di .nil),[some 0,none],(.cons (.jQ 31 (.v (.int .i64))) .nil),[],[[0]]⟩ (λx=>oR n (g7 x) x.2.2.2.2.2.2.2.1) (λy=>g7 y) (λz=>(h7 z ())) u1 m1
def bF(n:Nat)(a0:ak)(a1:Int)(a2:Int):Option (Except Int Unit):=bd (oY n a0.aG.dx a0.fJ a1 a2) λbS=>tr (dA n bS) (λKi=>(.error Ki)) λ_=>some (.ok ())
def cz(n:Nat):CT:=cX (tW n [] [bj n,aY n,CZ n,cW n]) ⟨198,[(212, .st (.part 952 (.v (.st 19)) (.part 1 (.v (.int .i64)) (.part 6 (.v (.st 3)) (.part 2 (.v (.st 4)) (.part 1 (.v (.int .i64)) (.part 1 (.v .bool) (.part 1 (.row 158 2 (.st 4)) .nil))))))))], .cons (.bU 0) (.cons (.v (.int .u32)) (.cons (.v (.int .u8)) .nil)), .cons (.jP .nil) .nil,[],(.cons (.jQ 31 (.v (.int .i64))) .nil),[],[]⟩ (λx=>bF n (g7 x) x.2.2.2.2.2.2.2.1 x.2.2.2.2.2.2.2.2.1) (λ_ =>()) (λ_ =>()) u1 m1
def gX(n:Nat)(a0:ak):Option (Except Int (ah×ak)):=lt (λ(u21:Unit)=>bd (s0 n a0.aG.dx.T a0.c.R (wr .i64 (if 65<a0.c.A then 65 else a0.c.A))) λfz=>tr (dA n fz.2.2) (λahE=>(.error ahE)) λ_=>cn (((({a0 with aG:={a0.aG with dx:={a0.aG.dx with T:=fz.1}}}).c.R)==0)) (tr (iX n ({a0 with aG:={a0.aG with dx:={a0.aG.dx with T:=fz.1}}}) fz.2.1 (({a0 with aG:={a0.aG with dx:={a0.aG.dx with T:=fz.1}}}).fJ)) (λab4=>(.error ab4)) λgB=>lt ({E:=0,V:=0,W:=fz.2.1}:ah) λuh=>some (.ok (uh,gB))) (lt ({E:=0,V:=0,W:=fz.2.1}:ah) λMB=>some (.ok (MB,{a0 with aG:={a0.aG with dx:={a0.aG.dx with T:=fz.1}}})))) λWa=>cn ((a0.c.R !=0)) (tr (bF n a0 a0.c.R 1) (λGC=>(.error GC)) λ_=>Wa ()) (Wa ())
def sA(n:Nat):CT:=cX (tW n [(6, .join [(.via 0,di)] [])] [bj n,aY n,cz n,Jn n,cW n,jD n]) ⟨177,[], .cons di .nil, .cons (.v (.st 2)) (.cons di .nil),[some 0,none],(.cons (.jQ 31 (.v (.int .i64))) .nil),[],[[0]]⟩ (λx=>gX n (g7 x)) (λy=>(y.1,g7 y.2)) (λz=>(z.1,(h7 z.2 ()))) u1 m1
def eE(n:Nat)(a0:ak)(a1:Int):Option (Except Int aN):=bd (ew n a0.aG.dx.T a1) λbS=>tr (dA n bS.2) (λND=>(.error ND)) λ_=>some (.ok bS.1)
def iz(n:Nat):CT:=cX (tW n [] [bj n,aY n,fI n,cW n]) ⟨203,[(212, .st (.part 952 (.v (.st 19)) (.part 1 (.v (.int .i64)) (.part 6 (.v (.st 3)) (.part 2 (.v (.st 4)) (.part 1 (.v (.int .i64)) (.part 1 (.v .bool) (.part 1 (.row 158 2 (.st 4)) .nil))))))))], .cons (.bU 0) (.cons (.v (.int .u32)) .nil), .cons (.v (.st 6)) .nil,[],(.cons (.jQ 31 (.v (.int .i64))) .nil),[],[]⟩ (λx=>eE n (g7 x) x.2.2.2.2.2.2.2.1) u1 m1 u1 m1
def ga(n:Nat)(a0:ak)(a1:Int)(a2:aN):Option (Except Int ak):=bd (iN n a0.aG.dx.T a1 a2) λbS=>tr (dA n bS.2) (λND=>(.error ND)) λ_=>some (.ok ({a0 with aG:={a0.aG with dx:={a0.aG.dx with T:=bS.1}}}))
def sx(n:Nat):CT:=cX (tW n [] [bj n,aY n,ou n,cW n]) ⟨208,[], .cons di (.cons (.v (.int .u32)) (.cons (.v (.st 6)) .nil)), .cons (.jP .nil) (.cons di .nil),[some 0,none],(.cons (.jQ 31 (.v (.int .i64))) .nil),[],[[0]]⟩ (λx=>ga n (g7 x) x.2.2.2.2.2.2.2.1 x.2.2.2.2.2.2.2.2.1) (λy=>g7 y) (λz=>(h7 z ())) u1 m1
def dc(n:Nat)(a0:ak):Option (Except Int (ah×ak)):=bd (oW n (wr .i64 (if 129<a0.c.A then 129 else a0.c.A)) (wr .i64 (if 9<a0.c.B then 9 else a0.c.B))) λaB=>tc aB.2 (.error 2)<|tr (bF n a0 a0.c.R 1) (λGC=>(.error GC)) λ_=>tr (eE n a0 a0.c.R) (λKi=>(.error Ki)) λcH=>lt (λ(jx:aN) (gB:ak)=>bd (gG n jx.E (wr .i64 (if 129<a0.c.A then 129 else a0.c.A)) (wr .i64 (if 9<a0.c.B then 9 else a0.c.B))) λEX=>lt ({jx with E:=EX.1}:aN) λx85=>tr (ga n gB gB.c.R x85) (λUJ=>(.error UJ)) λOc=>lt ({E:=0,V:=wr .u64 EX.2.1,W:=0}:ah) λx99=>some (.ok (x99,Oc))) λj45=>bd (gh n cH.E (wr .i64 (if 129<a0.c.A then 129 else a0.c.A)) (wr .i64 (if 9<a0.c.B then 9 else a0.c.B))) λtF=>cn ((!tF.2)) (bd (cN n cH.E) λBc=>tc (decide ((wr .i64 (Bc+aB.1))<=cH.fU)) (.error 6)<|cn (({a0 with kL:=aB.1}).yI) (lt ({E:=0,V:=0,W:=0}:ah) λCF=>some (.ok (CF,{a0 with kL:=aB.1}))) (bd (fe n cH.E (({a0 with kL:=aB.1}).run)) λy7=>lt ({cH with E:=y7}:aN) λJj=>cl (((({a0 with kL:=aB.1}).run.N)==aB.1)==true) (fO n Jj.E) default λMz=>tc (((({a0 with kL:=aB.1}).run.N)==aB.1)&&Mz) (.error 2)<|j45 Jj ({a0 with kL:=aB.1}))) (j45 cH a0)
def qf(n:Nat):CT:=cX (tW n [(28, .join [(.via 7, .box 69 (.v (.st 6))),(.via 0,di),(.via 2, .box 55 (.v (.st 2)))] [])] [bj n,aY n,FN n,cz n,iz n,qg n,iA n,xL n,rm n,zC n,sx n]) ⟨178,[], .cons di .nil, .cons (.v (.st 2)) (.cons di .nil),[some 0,none],(.cons (.jQ 31 (.v (.int .i64))) .nil),[],[[0]]⟩ (λx=>dc n (g7 x)) (λy=>(y.1,g7 y.2)) (λz=>(z.1,(h7 z.2 ()))) u1 m1
def qm(n:Nat)(a0:aN)(a1:aC):Option (Except Int Unit):=tc (decide ((wr .i64 a1.A)<=(wr .i64 (a0.E.eY-(wr .i64 a1.B))))) (.error 9)<|some (.ok ())
def Aa(n:Nat):CT:=cT (tW n [] [bj n,aY n]) 210 [.s 6, .s 3] [.jP .nil] 31 (a2 (qm n)) (λ_ =>()) (λ_ =>())
def qj(n:Nat)(a0:aC):Option (Except Int Unit):=tc (decide (1<=a0.B)&&decide (a0.B<=8)) (.error 2)<|some (.ok ())
def z8(n:Nat):CT:=cT (tW n [] [bj n,aY n]) 209 [.s 3] [.jP .nil] 31 (a1 (qj n)) (λ_ =>()) (λ_ =>())
def gF(n:Nat)(a0:ak):Option (Except Int ah):=tr (qj n a0.c) (λnN=>(.error nN)) λ_=>tr (bF n a0 a0.c.R 0) (λyA=>(.error yA)) λ_=>tr (eE n a0 a0.c.R) (λGC=>(.error GC)) λbS=>tr (qm n bS a0.c) (λab6=>(.error ab6)) λ_=>lt ({E:=0,V:=0,W:=0}:ah) λiM=>some (.ok iM)
def qY(n:Nat):CT:=cX (tW n [] [bj n,aY n,z8 n,cz n,iz n,Aa n]) ⟨179,[(212, .st (.part 952 (.v (.st 19)) (.part 1 (.v (.int .i64)) (.part 6 (.v (.st 3)) (.part 2 (.v (.st 4)) (.part 1 (.v (.int .i64)) (.part 1 (.v .bool) (.part 1 (.row 158 2 (.st 4)) .nil))))))))], .cons (.bU 0) .nil, .cons (.v (.st 2)) .nil,[],(.cons (.jQ 31 (.v (.int .i64))) .nil),[],[]⟩ (λx=>gF n (g7 x)) u1 m1 u1 m1
def fZ(n:Nat)(a0:ak):Option (Except Int ah):=tr (qj n a0.c) (λnN=>(.error nN)) λ_=>tr (bF n a0 a0.c.R 1) (λyA=>(.error yA)) λ_=>tr (eE n a0 a0.c.R) (λGC=>(.error GC)) λbS=>tr (qm n bS a0.c) (λab6=>(.error ab6)) λ_=>lt ({E:=0,V:=0,W:=0}:ah) λiM=>some (.ok iM)
def p7(n:Nat):CT:=cX (tW n [] [bj n,aY n,z8 n,cz n,iz n,Aa n]) ⟨180,[(212, .st (.part 952 (.v (.st 19)) (.part 1 (.v (.int .i64)) (.part 6 (.v (.st 3)) (.part 2 (.v (.st 4)) (.part 1 (.v (.int .i64)) (.part 1 (.v .bool) (.part 1 (.row 158 2 (.st 4)) .nil))))))))], .cons (.bU 0) .nil, .cons (.v (.st 2)) .nil,[],(.cons (.jQ 31 (.v (.int .i64))) .nil),[],[]⟩ (λx=>fZ n (g7 x)) u1 m1 u1 m1
def nG(n:Nat)(a0:ak):Option (Except Int (ah×ak)):=tr (bF n a0 a0.c.R 1) (λnN=>(.error nN)) λ_=>tr (eE n a0 a0.c.R) (λyA=>(.error yA)) λaR=>gu (gZ a0.fC.length aR.E.aK.length 16)<|lt (a0.fC++aR.E.aK:List au) λfP=>lt ({Up:=0,fU:=aR.fU,E:=cB,qG:=(λ_ =>0)}:aN) λgi=>tr (ga n ({a0 with fC:=fP}) (({a0 with fC:=fP}).c.R) gi) (λahA=>(.error ahA)) λtG=>lt ({E:=0,V:=0,W:=0}:ah) λpb=>some (.ok (pb,tG))
def qa(n:Nat):CT:=cX (tW n [] [bj n,aY n,cz n,iz n,sx n]) ⟨181,[], .cons di .nil, .cons (.v (.st 2)) (.cons di .nil),[some 0,none],(.cons (.jQ 31 (.v (.int .i64))) .nil),[],[[0]]⟩ (λx=>nG n (g7 x)) (λy=>(y.1,g7 y.2)) (λz=>(z.1,(h7 z.2 ()))) u1 m1
def mS(n:Nat)(a0:ak):Option (Except Int (ah×ak)):=tr (bF n a0 a0.c.R 2) (λnN=>(.error nN)) λ_=>bd (iZ n a0 a0.c.R) λaR=>lt ({E:=0,V:=0,W:=0}:ah) λeL=>some (.ok (eL,aR))
def pD(n:Nat):CT:=cX (tW n [] [bj n,aY n,cz n,mM n]) ⟨182,[], .cons di .nil, .cons (.v (.st 2)) (.cons di .nil),[some 0,none],(.cons (.jQ 31 (.v (.int .i64))) .nil),[],[[0]]⟩ (λx=>mS n (g7 x)) (λy=>(y.1,g7 y.2)) (λz=>(z.1,(h7 z.2 ()))) u1 m1
def ld(n:Nat)(a0:ak)(a1:Int):Option (Except Int ak):=bd (Gu n a0.aG.dx.T a1) λbS=>tr (dA n bS.2) (λND=>(.error ND)) λ_=>some (.ok ({a0 with aG:={a0.aG with dx:={a0.aG.dx with T:=bS.1}}}))
def mL(n:Nat):CT:=cX (tW n [] [bj n,aY n,Jo n,cW n]) ⟨213,[], .cons di (.cons (.v (.int .u32)) .nil), .cons (.jP .nil) (.cons di .nil),[some 0,none],(.cons (.jQ 31 (.v (.int .i64))) .nil),[],[[0]]⟩ (λx=>ld n (g7 x) x.2.2.2.2.2.2.2.1) (λy=>g7 y) (λz=>(h7 z ())) u1 m1
def pM(n:Nat)(a0:ak):Option (Except Int (ah×ak)):=tr (bF n a0 a0.c.R 2) (λnN=>(.error nN)) λ_=>bd (je n a0.aG.dx.T a0.c.R) λcH=>tc (cH !=a0.c.R) (.error 12)<|tr (ld n a0 a0.c.R) (λab7=>(.error ab7)) λfz=>tr (iX n fz fz.c.R fz.fJ) (λahD=>(.error ahD)) λdR=>lt ({E:=0,V:=0,W:=0}:ah) λtF=>some (.ok (tF,dR))
def sB(n:Nat):CT:=cX (tW n [] [bj n,aY n,cz n,gO n,mL n,jD n]) ⟨183,[], .cons di .nil, .cons (.v (.st 2)) (.cons di .nil),[some 0,none],(.cons (.jQ 31 (.v (.int .i64))) .nil),[],[[0]]⟩ (λx=>pM n (g7 x)) (λy=>(y.1,g7 y.2)) (λz=>(z.1,(h7 z.2 ()))) u1 m1
def nH(n:Nat)(a0:ak):Option (Except Int (ah×ak)):=tr (bF n a0 a0.c.R 2) (λnN=>(.error nN)) λ_=>tr (bF n a0 a0.c.S 1) (λyA=>(.error yA)) λ_=>bd (B8 n a0.aG.dx.T a0.c.R a0.c.S) λdO=>tr (dA n dO.2) (λahF=>(.error ahF)) λ_=>lt ({E:=0,V:=0,W:=0}:ah) λjo=>some (.ok (jo,{a0 with aG:={a0.aG with dx:={a0.aG.dx with T:=dO.1}}}))
def qb(n:Nat):CT:=cX (tW n [] [bj n,aY n,cz n,FK n,cW n]) ⟨184,[], .cons di .nil, .cons (.v (.st 2)) (.cons di .nil),[some 0,none],(.cons (.jQ 31 (.v (.int .i64))) .nil),[],[[0]]⟩ (λx=>nH n (g7 x)) (λy=>(y.1,g7 y.2)) (λz=>(z.1,(h7 z.2 ()))) u1 m1
def mR(n:Nat)(a0:ak):Option (Except Int (ah×ak)):=tr (bF n a0 a0.c.R 2) (λnN=>(.error nN)) λ_=>tr (ld n a0 a0.c.R) (λyA=>(.error yA)) λaR=>bd (wR n aR.aG.dx.O aR.aG.dx.T aR.c.R aR.fJ) λfP=>tr (dA n fP.2) (λab5=>(.error ab5)) λ_=>lt ({E:=0,V:=0,W:=0}:ah) λtv=>some (.ok (tv,{aR with aG:={aR.aG with dx:={aR.aG.dx with O:=fP.1}}}))
def pC(n:Nat):CT:=cX (tW n [] [bj n,aY n,cz n,mL n,Bt n,cW n]) ⟨185,[], .cons di .nil, .cons (.v (.st 2)) (.cons di .nil),[some 0,none],(.cons (.jQ 31 (.v (.int .i64))) .nil),[],[[0]]⟩ (λx=>mR n (g7 x)) (λy=>(y.1,g7 y.2)) (λz=>(z.1,(h7 z.2 ()))) u1 m1
def kg(n:Nat)(a0:ak)(a1:Int):Option (Except Int Unit):=bd (aJ n a0.aG.dx.T.fB.kO a1) λaB=>tc aB (.error 4)<|bd (jT n a0.aG.dx.O a0.aG.dx.T a1) λdO=>bd (je n a0.aG.dx.T a1) λeM=>tc ((eM==a1)&&(dO.xu==3)) (.error 12)<|gu (decide (0<=a0.fJ))<|tc ((rM .u8 (zE .u8 dO.jk a0.fJ) 1)==1) (.error 5)<|some (.ok ())
def lG(n:Nat):CT:=cX (tW n [] [bj n,aY n,aP n,jq n,gO n]) ⟨217,[(212, .st (.part 952 (.v (.st 19)) (.part 1 (.v (.int .i64)) (.part 6 (.v (.st 3)) (.part 2 (.v (.st 4)) (.part 1 (.v (.int .i64)) (.part 1 (.v .bool) (.part 1 (.row 158 2 (.st 4)) .nil))))))))], .cons (.bU 0) (.cons (.v (.int .u32)) .nil), .cons (.jP .nil) .nil,[],(.cons (.jQ 31 (.v (.int .i64))) .nil),[],[]⟩ (λx=>kg n (g7 x) x.2.2.2.2.2.2.2.1) (λ_ =>()) (λ_ =>()) u1 m1
def iq(n:Nat)(a0:ak)(a1:Int):Option (Except Int Unit):=gu (!((decide (a1<8))==true)||dm a1 8)<|tc (decide (a1<8)&&(a0.aG.mj (Int.toNat a1))) (.error 2)<|some (.ok ())
def iR(n:Nat):CT:=cX (tW n [] [bj n,aY n]) ⟨216,[(212, .st (.part 952 (.v (.st 19)) (.part 1 (.v (.int .i64)) (.part 6 (.v (.st 3)) (.part 2 (.v (.st 4)) (.part 1 (.v (.int .i64)) (.part 1 (.v .bool) (.part 1 (.row 158 2 (.st 4)) .nil))))))))], .cons (.bU 0) (.cons (.v (.int .u32)) .nil), .cons (.jP .nil) .nil,[],(.cons (.jQ 31 (.v (.int .i64))) .nil),[],[]⟩ (λx=>iq n (g7 x) x.2.2.2.2.2.2.2.1) (λ_ =>()) (λ_ =>()) u1 m1
def nF(n:Nat)(a0:ak):Option (Except Int (ah×ak)):=tr (iq n a0 a0.c.A) (λnN=>(.error nN)) λ_=>tr (kg n a0 a0.c.R) (λyA=>(.error yA)) λ_=>bd (uz n a0.aG.dx.O a0.aG.dx.T a0.c.R (wr .i64 a0.c.A)) λdO=>tr (dA n dO.2) (λab7=>(.error ab7)) λ_=>lt ({E:=0,V:=0,W:=0}:ah) λdZ=>some (.ok (dZ,{a0 with aG:={a0.aG with dx:={a0.aG.dx with O:=dO.1}}}))
def p9(n:Nat):CT:=cX (tW n [] [bj n,aY n,iR n,lG n,wF n,cW n]) ⟨186,[], .cons di .nil, .cons (.v (.st 2)) (.cons di .nil),[some 0,none],(.cons (.jQ 31 (.v (.int .i64))) .nil),[],[[0]]⟩ (λx=>nF n (g7 x)) (λy=>(y.1,g7 y.2)) (λz=>(z.1,(h7 z.2 ()))) u1 m1
def oQ(n:Nat)(a0:ak):Option (Except Int (ah×ak)):=tr (kg n a0 a0.c.R) (λnN=>(.error nN)) λ_=>tr (nI n a0 a0.c.R a0.fJ) (λyA=>(.error yA)) λaR=>lt ({E:=0,V:=0,W:=0}:ah) λeL=>some (.ok (eL,aR))
def q9(n:Nat):CT:=cX (tW n [] [bj n,aY n,lG n,qc n]) ⟨187,[], .cons di .nil, .cons (.v (.st 2)) (.cons di .nil),[some 0,none],(.cons (.jQ 31 (.v (.int .i64))) .nil),[],[[0]]⟩ (λx=>oQ n (g7 x)) (λy=>(y.1,g7 y.2)) (λz=>(z.1,(h7 z.2 ()))) u1 m1
def oN(n:Nat)(a0:ak):Option (Except Int (ah×ak)):=tr (iq n a0 a0.c.A) (λnN=>(.error nN)) λ_=>tc (decide (a0.c.B<=1)) (.error 2)<|bd (aJ n a0.aG.dx.T.fB.kO a0.c.R) λbS=>tc bS (.error 4)<|lt (λ(u25:Unit)=>lt ({Region:=a0.c.R,By:=wr .u8 a0.fJ,To:=wr .u8 a0.c.A,mI:=(a0.c.B==1),uf:=a0.c.S}:bw) λcC=>bd (tL n a0.aG.dx.K cC) λfP=>tr (dA n fP.2.2) (λab5=>(.error ab5)) λ_=>lt ({E:=0,V:=0,W:=fP.2.1}:ah) λtv=>some (.ok (tv,{a0 with aG:={a0.aG with dx:={a0.aG.dx with K:=fP.1}}}))) λj26=>cn ((a0.c.S==0)) (bd (jT n a0.aG.dx.O a0.aG.dx.T a0.c.R) λiE=>tc ((iE.xu==1)&&((wr .i64 iE.jS)==a0.fJ)) (.error 5)<|j26 ()) (bd (cR n a0.aG.dx.K a0.c.S) λdK=>tr (dA n dK.2) (λND=>(.error ND)) λ_=>tc (((wr .i64 dK.1.To)==a0.fJ)&&(dK.1.Region==a0.c.R)) (.error 5)<|j26 ())
def qZ(n:Nat):CT:=cX (tW n [(20, .join [] [])] [bj n,aY n,iR n,aP n,jq n,eo n,cW n,zx n]) ⟨188,[], .cons di .nil, .cons (.v (.st 2)) (.cons di .nil),[some 0,none],(.cons (.jQ 31 (.v (.int .i64))) .nil),[],[[0]]⟩ (λx=>oN n (g7 x)) (λy=>(y.1,g7 y.2)) (λz=>(z.1,(h7 z.2 ()))) u1 m1
def kW(n:Nat)(a0:ak):Option (Except Int (ah×ak)):=bd (cR n a0.aG.dx.K a0.c.S) λaB=>tr (dA n aB.2) (λyA=>(.error yA)) λ_=>tc ((wr .i64 aB.1.To)==a0.fJ) (.error 5)<|bd (gJ n a0.aG.dx.K a0.c.S) λcH=>lt ({E:=0,V:=0,W:=0}:ah) λcC=>some (.ok (cC,{a0 with aG:={a0.aG with dx:={a0.aG.dx with K:=cH.1}}}))
def nV(n:Nat):CT:=cX (tW n [] [bj n,aY n,eo n,cW n,pB n]) ⟨189,[], .cons di .nil, .cons (.v (.st 2)) (.cons di .nil),[some 0,none],(.cons (.jQ 31 (.v (.int .i64))) .nil),[],[[0]]⟩ (λx=>kW n (g7 x)) (λy=>(y.1,g7 y.2)) (λz=>(z.1,(h7 z.2 ()))) u1 m1
def BW(n:Nat)(a0:cm)(a1:aQ):Option (cm×Int):=cn (a0.closed) (some (a0,11)) (cn ((a0.n==4)) (some (a0,7)) (bd (tR n a0 a0.n) λaB=>gu (dm aB 4)<|lt ({a0 with ring:=(iB a0.ring (Int.toNat aB) a1)}:cm) λbS=>lt ({bS with n:=wr .i64 (bS.n+1)}:cm) λcH=>some (cH,0)))
def FG(n:Nat):CT:=cV (tW n [] [uo n]) (kA 224 [.s 18, .s 17] [.t [.s 18, .i]]) (a2 (BW n)) u2 m2
def oM(n:Nat)(a0:ak):Option (Except Int (ah×ak)):=tr (iq n a0 a0.c.A) (λnN=>(.error nN)) λ_=>tc (decide (a0.c.B<=1)) (.error 2)<|lt ({Hw:=wr .u8 a0.fJ,H7:=a0.c.V,Region:=a0.c.R,yP:=((a0.c.R !=0)&&(a0.c.B==1))}:aQ) λbS=>lt (λ(fz:ak)=>gu (dm fz.c.A 8)<|bd (BW n (fz.aG.kN (Int.toNat fz.c.A)) bS) λy7=>tr (dA n y7.2) (λahy=>(.error ahy)) λ_=>gu (dm fz.c.A 8)<|lt ({E:=0,V:=0,W:=0}:ah) λRz=>some (.ok (Rz,{fz with aG:={fz.aG with kN:=(iB fz.aG.kN (Int.toNat fz.c.A) y7.1)}}))) λV9=>cn (bS.yP) (tr (kg n a0 a0.c.R) (λahG=>(.error ahG)) λ_=>bd (uz n a0.aG.dx.O a0.aG.dx.T a0.c.R (wr .i64 a0.c.A)) λjx=>cn ((jx.2==0)) (V9 ({a0 with aG:={a0.aG with dx:={a0.aG.dx with O:=jx.1}}})) (V9 a0)) (cn ((a0.c.R !=0)) (tr (bF n a0 a0.c.R 2) (λahC=>(.error ahC)) λ_=>tr (ld n a0 a0.c.R) (λahB=>(.error ahB)) λgi=>bd (BP n gi.aG.dx.O gi.aG.dx.T gi.c.R) λg9=>tr (dA n g9.2) (λahz=>(.error ahz)) λ_=>V9 ({gi with aG:={gi.aG with dx:={gi.aG.dx with O:=g9.1}}})) (V9 a0))
def qW(n:Nat):CT:=cX (tW n [(30, .join [(.via 0,di)] [])] [bj n,aY n,iR n,lG n,wF n,cz n,mL n,FD n,cW n,FG n]) ⟨190,[], .cons di .nil, .cons (.v (.st 2)) (.cons di .nil),[some 0,none],(.cons (.jQ 31 (.v (.int .i64))) .nil),[],[[0]]⟩ (λx=>oM n (g7 x)) (λy=>(y.1,g7 y.2)) (λz=>(z.1,(h7 z.2 ()))) u1 m1
def Aj(n:Nat)(a0:cm):Option (cm×aQ×Int):=cn (((a0.n==0)&&a0.closed)) (lt ({Hw:=0,H7:=0,Region:=0,yP:=false}:aQ) λaB=>some (a0,aB,11)) (cn ((a0.n==0)) (lt ({Hw:=0,H7:=0,Region:=0,yP:=false}:aQ) λaR=>some (a0,aR,10)) (gu (dm a0.wW 4)<|lt ((a0.ring (Int.toNat a0.wW)):aQ) λcH=>bd (tR n a0 1) λdO=>lt ({a0 with wW:=dO}:cm) λfz=>lt ({fz with n:=wr .i64 (a0.n-1)}:cm) λdD=>some (dD,cH,0)))
def Eu(n:Nat):CT:=cV (tW n [] [uo n]) (kA 225 [.s 18] [.t [.s 18, .s 17, .i]]) (a1 (Aj n)) u3 m3
def iW(n:Nat)(a0:ak):Option (Except Int (ah×ak)):=gu (dm a0.fJ 8)<|bd (Aj n (a0.aG.kN (Int.toNat a0.fJ))) λaR=>tr (dA n aR.2.2) (λGC=>(.error GC)) λ_=>gu (dm a0.fJ 8)<|cn (((aR.2.1.Region !=0)&&(!aR.2.1.yP))) (tr (iX n ({a0 with aG:={a0.aG with kN:=(iB a0.aG.kN (Int.toNat a0.fJ) aR.1)}}) aR.2.1.Region (({a0 with aG:={a0.aG with kN:=(iB a0.aG.kN (Int.toNat a0.fJ) aR.1)}}).fJ)) (λahH=>(.error ahH)) λeM=>lt ({E:=0,V:=aR.2.1.H7,W:=aR.2.1.Region}:ah) λgB=>some (.ok (gB,eM))) (lt ({E:=0,V:=aR.2.1.H7,W:=aR.2.1.Region}:ah) λgi=>some (.ok (gi,{a0 with aG:={a0.aG with kN:=(iB a0.aG.kN (Int.toNat a0.fJ) aR.1)}})))
def qX(n:Nat):CT:=cX (tW n [] [bj n,aY n,Eu n,cW n,jD n]) ⟨191,[], .cons di .nil, .cons (.v (.st 2)) (.cons di .nil),[some 0,none],(.cons (.jQ 31 (.v (.int .i64))) .nil),[],[[0]]⟩ (λx=>iW n (g7 x)) (λy=>(y.1,g7 y.2)) (λz=>(z.1,(h7 z.2 ()))) u1 m1
def ye(n:Nat)(a0:cm):Option (cm×Int):=cn (a0.closed) (some (a0,11)) (lt ({a0 with closed:=true}:cm) λaB=>some (aB,0))
def CQ(n:Nat):CT:=cV (tW n [] []) (kA 226 [.s 18] [.t [.s 18, .i]]) (a1 (ye n)) u2 m2
def nK(n:Nat)(a0:ak):Option (Except Int (ah×ak)):=gu (dm a0.fJ 8)<|bd (ye n (a0.aG.kN (Int.toNat a0.fJ))) λaR=>tr (dA n aR.2) (λGC=>(.error GC)) λ_=>gu (dm a0.fJ 8)<|lt ({E:=0,V:=0,W:=0}:ah) λeM=>some (.ok (eM,{a0 with aG:={a0.aG with kN:=(iB a0.aG.kN (Int.toNat a0.fJ) aR.1)}}))
def qe(n:Nat):CT:=cX (tW n [] [bj n,aY n,CQ n,cW n]) ⟨192,[], .cons di .nil, .cons (.v (.st 2)) (.cons di .nil),[some 0,none],(.cons (.jQ 31 (.v (.int .i64))) .nil),[],[[0]]⟩ (λx=>nK n (g7 x)) (λy=>(y.1,g7 y.2)) (λz=>(z.1,(h7 z.2 ()))) u1 m1
def pL(n:Nat)(a0:ak):Option (Except Int (ah×ak)):=tr (bF n a0 a0.c.R 1) (λnN=>(.error nN)) λ_=>lt (λ(u22:Unit)=>bd (jT n a0.aG.dx.O a0.aG.dx.T a0.c.S) λiE=>bd (L2 n a0.aG.dx.T a0.c.R (wr .i64 (if 8<a0.c.A then 8 else a0.c.A)) a0.c.S (iE.xu==3)) λdZ=>tr (dA n dZ.2) (λab4=>(.error ab4)) λ_=>lt ({E:=0,V:=0,W:=0}:ah) λz6=>some (.ok (z6,{a0 with aG:={a0.aG with dx:={a0.aG.dx with T:=dZ.1}}}))) λj23=>cn ((a0.c.S !=0)) (tr (bF n a0 a0.c.S 0) (λKi=>(.error Ki)) λ_=>j23 ()) (j23 ())
def sy(n:Nat):CT:=cX (tW n [(8, .join [(.via 0,di)] [])] [bj n,aY n,cz n,jq n,MG n,cW n]) ⟨193,[], .cons di .nil, .cons (.v (.st 2)) (.cons di .nil),[some 0,none],(.cons (.jQ 31 (.v (.int .i64))) .nil),[],[[0]]⟩ (λx=>pL n (g7 x)) (λy=>(y.1,g7 y.2)) (λz=>(z.1,(h7 z.2 ()))) u1 m1
def nJ(n:Nat)(a0:ak):Option (Except Int ah):=tr (bF n a0 a0.c.R 0) (λnN=>(.error nN)) λ_=>bd (GM n a0.aG.dx.T a0.c.R (wr .i64 (if 8<a0.c.A then 8 else a0.c.A))) λcH=>tr (dA n cH.2) (λab8=>(.error ab8)) λ_=>lt ({E:=0,V:=0,W:=cH.1}:ah) λfz=>some (.ok fz)
def qd(n:Nat):CT:=cX (tW n [] [bj n,aY n,cz n,Jp n,cW n]) ⟨194,[(212, .st (.part 952 (.v (.st 19)) (.part 1 (.v (.int .i64)) (.part 6 (.v (.st 3)) (.part 2 (.v (.st 4)) (.part 1 (.v (.int .i64)) (.part 1 (.v .bool) (.part 1 (.row 158 2 (.st 4)) .nil))))))))], .cons (.bU 0) .nil, .cons (.v (.st 2)) .nil,[],(.cons (.jQ 31 (.v (.int .i64))) .nil),[],[]⟩ (λx=>nJ n (g7 x)) u1 m1 u1 m1
def oP(n:Nat)(a0:ak):Option (Except Int (ah×ak)):=tr (oR n a0 a0.fJ) (λnN=>(.error nN)) λaB=>lt ({E:=0,V:=0,W:=0}:ah) λiM=>some (.ok (iM,aB))
def q8(n:Nat):CT:=cX (tW n [] [bj n,aY n,rh n]) ⟨195,[], .cons di .nil, .cons (.v (.st 2)) (.cons di .nil),[some 0,none],(.cons (.jQ 31 (.v (.int .i64))) .nil),[],[[0]]⟩ (λx=>oP n (g7 x)) (λy=>(y.1,g7 y.2)) (λz=>(z.1,(h7 z.2 ()))) u1 m1
def oO(n:Nat)(a0:ak):Option (Except Int (ah×ak)):=tr (iq n a0 a0.c.A) (λnN=>(.error nN)) λ_=>tr (oR n a0 (wr .i64 a0.c.A)) (λyA=>(.error yA)) λaR=>lt ({E:=0,V:=0,W:=0}:ah) λeL=>some (.ok (eL,aR))
def q7(n:Nat):CT:=cX (tW n [] [bj n,aY n,iR n,rh n]) ⟨196,[], .cons di .nil, .cons (.v (.st 2)) (.cons di .nil),[some 0,none],(.cons (.jQ 31 (.v (.int .i64))) .nil),[],[[0]]⟩ (λx=>oO n (g7 x)) (λy=>(y.1,g7 y.2)) (λz=>(z.1,(h7 z.2 ()))) u1 m1
def nE(n:Nat)(a0:ak):Option (Except Int (ah×ak)):=gu (!((decide (a0.c.A<8))==true)||dm (Int.tmod a0.c.A 8) 8)<|tc (decide (a0.c.A<8)&&(!(a0.aG.EV (Int.toNat (Int.tmod a0.c.A 8))))) (.error 2)<|gu (dm a0.c.A 8)<|gu (dm a0.c.A 8)<|lt ({E:=0,V:=0,W:=0}:ah) λdK=>some (.ok (dK,{({a0 with aG:={a0.aG with mj:=(iB a0.aG.mj (Int.toNat a0.c.A) true)}})with aG:={({a0 with aG:={a0.aG with mj:=(iB a0.aG.mj (Int.toNat a0.c.A) true)}}).aG with EV:=(iB ((({a0 with aG:={a0.aG with mj:=(iB a0.aG.mj (Int.toNat a0.c.A) true)}}).aG).EV) (Int.toNat a0.c.A) true)}}))
def p8(n:Nat):CT:=cX (tW n [] [bj n,aY n]) ⟨197,[], .cons di .nil, .cons (.v (.st 2)) (.cons di .nil),[some 0,none],(.cons (.jQ 31 (.v (.int .i64))) .nil),[],[[0]]⟩ (λx=>nE n (g7 x)) (λy=>(y.1,g7 y.2)) (λz=>(z.1,(h7 z.2 ()))) u1 m1
end
end Go.Proofs.Z
namespace Go.Proofs.Z
open Go Go.Bw Go.Rw Go.RowKit
abbrev Zq:=Nat->ak->Option (Except Int (ah×ak))
def Gb(g:Nat->ak->Option (Except Int ah)):Zq:=λn a=>match g n a with
 |some (.ok r)=>some (.ok (r,a))
 |some (.error e)=>some (.error e)
 |none=>none
def LQ:List (Int×Nat×Zq):=[(1,177,gX),(2,178,dc),(3,179,Gb gF),(4,180,Gb fZ),(5,181,nG),(6,182,mS),(7,183,pM),(8,184,nH),(9,185,mR),(10,186,nF),(11,187,oQ),(12,188,oN),(13,189,kW),(14,190,oM),(15,191,iW),(16,191,iW),(17,192,nK),(18,193,pL),(19,194,Gb nJ),(20,195,oP),(21,196,oO),(22,197,nE)]
def GH(k:Int):Option (Int×Nat×Zq):=LQ.find? λx=>k==x.1
def bM(n:Nat)(a0:ak):Option (ah×Option ak):=
 gu (!((decide (0<=a0.fJ)&&decide (a0.fJ<8))==true)||dm (rM .i64 a0.fJ 7) 8)<|
 tc ((decide (0<=a0.fJ)&&decide (a0.fJ<8))&&(a0.aG.mj (Int.toNat (rM .i64 a0.fJ 7)))) (⟨12,0,0⟩,none)<|
 match GH a0.c.Do with
 |none=>some (⟨2,0,0⟩,none)
 |some x=>tr (x.2.2 n a0) (λe=>(⟨e,0,0⟩,none)) λy=>some (y.1,some y.2)
def mC{Z:Type}(m:Option (Except Int (ah×ak)))(KO:ah->ak->Option Z)(KE:Int->Option Z):Option Z:=bd m λr=>match r with
 | .ok z=>KO z.1 z.2
 | .error e=>KE e
def kC{Z:Type}(m:Option (Except Int ah))(a:ak)(KO:ah->ak->Option Z)(KE:Int->Option Z):Option Z:=bd m λr=>match r with
 | .ok z=>KO z a
 | .error e=>KE e
def cD{Z:Type}(n:Nat)(a:ak)(KO:ah->ak->Option Z)(KM KK:Int->Option Z)(KN:Option Z):Option Z:=cn (a.c.Do==1) (mC (gX n a) KO KM)<|cn (a.c.Do==2) (mC (dc n a) KO KM)<|cn (a.c.Do==3) (kC (gF n a) a KO KK)<|cn (a.c.Do==4) (kC (fZ n a) a KO KK)<|cn (a.c.Do==5) (mC (nG n a) KO KM)<|cn (a.c.Do==6) (mC (mS n a) KO KM)<|cn (a.c.Do==7) (mC (pM n a) KO KM)<|cn (a.c.Do==8) (mC (nH n a) KO KM)<|cn (a.c.Do==9) (mC (mR n a) KO KM)<|cn (a.c.Do==10) (mC (nF n a) KO KM)<|cn (a.c.Do==11) (mC (oQ n a) KO KM)<|cn (a.c.Do==12) (mC (oN n a) KO KM)<|cn (a.c.Do==13) (mC (kW n a) KO KM)<|cn (a.c.Do==14) (mC (oM n a) KO KM)<|cn (a.c.Do==15) (mC (iW n a) KO KM)<|cn (a.c.Do==16) (mC (iW n a) KO KM)<|cn (a.c.Do==17) (mC (nK n a) KO KM)<|cn (a.c.Do==18) (mC (pL n a) KO KM)<|cn (a.c.Do==19) (kC (nJ n a) a KO KK)<|cn (a.c.Do==20) (mC (oP n a) KO KM)<|cn (a.c.Do==21) (mC (oO n a) KO KM)<|cn (a.c.Do==22) (mC (nE n a) KO KM)<|KN
def cA{Z:Type}(n:Nat)(a:ak)(KO:ah->ak->Option Z)(KM KK:Int->Option Z)(KN KA:Option Z):Option Z:=gu (!((decide (0<=a.fJ)&&decide (a.fJ<8))==true)||dm (rM .i64 a.fJ 7) 8)<|cn ((decide (0<=a.fJ)&&decide (a.fJ<8))&&(a.aG.mj (Int.toNat (rM .i64 a.fJ 7)))) (cD n a KO KM KK KN) KA
theorem oA{Z:Type}{m:Option (Except Int (ah×ak))}{K:ah×Option ak->Option Z}{z:Z}(h:bd (tr m (λe=>(⟨e,0,0⟩,none)) λy=>some (y.1,some y.2)) K=some z):mC m (λr c=>K (r,some c)) (λe=>K (⟨e,0,0⟩,none))=some z:=by
 cases m with
 |none=>cases h
 |some r=>cases r<;>exact h
theorem R5{Z:Type}{g:Nat->ak->Option (Except Int ah)}{n:Nat}{a:ak}{K:ah×Option ak->Option Z}{KK:Int->Option Z}{z:Z}(hk:∀e,K (⟨e,0,0⟩,none)=some z->KK e=some z)(h:bd (tr (Gb g n a) (λe=>(⟨e,0,0⟩,none)) λy=>some (y.1,some y.2)) K=some z):kC (g n a) a (λr c=>K (r,some c)) KK=some z:=by
 unfold Gb at h;cases hm:g n a with
 |none=>rw[hm]at h;cases h
 |some r=>rw[hm]at h;cases r with
  |ok r=>exact h
  |error e=>exact hk e h
theorem afA{Z:Type}{n:Nat}{a:ak}{K:ah×Option ak->Option Z}{KK:Int->Option Z}{z:Z}(hk:∀e,K (⟨e,0,0⟩,none)=some z->KK e=some z)(h:bd (match GH a.c.Do with
  |none=>some (⟨2,0,0⟩,none)
  |some x=>tr (x.2.2 n a) (λe=>(⟨e,0,0⟩,none)) λy=>some (y.1,some y.2)) K=some z):cD n a (λr c=>K (r,some c)) (λe=>K (⟨e,0,0⟩,none)) KK (K (⟨2,0,0⟩,none))=some z:=by
 unfold GH LQ at h;unfold cD;rw[List.find?_cons]at h;dsimp only at h;cases h0:(a.c.Do==1)with
 |true=>rw[h0]at h;exact oA h
 |false=>
 rw[h0]at h;refine(rfl:cn false _ _ =_).trans ?_;rw[List.find?_cons]at h;dsimp only at h;cases h1:(a.c.Do==2)with
 |true=>rw[h1]at h;exact oA h
 |false=>
 rw[h1]at h;refine(rfl:cn false _ _ =_).trans ?_;rw[List.find?_cons]at h;dsimp only at h;cases h2:(a.c.Do==3)with
 |true=>rw[h2]at h;exact R5 hk h
 |false=>
 rw[h2]at h;refine(rfl:cn false _ _ =_).trans ?_;rw[List.find?_cons]at h;dsimp only at h;cases h3:(a.c.Do==4)with
 |true=>rw[h3]at h;exact R5 hk h
 |false=>
 rw[h3]at h;refine(rfl:cn false _ _ =_).trans ?_;rw[List.find?_cons]at h;dsimp only at h;cases h4:(a.c.Do==5)with
 |true=>rw[h4]at h;exact oA h
 |false=>
 rw[h4]at h;refine(rfl:cn false _ _ =_).trans ?_;rw[List.find?_cons]at h;dsimp only at h;cases h5:(a.c.Do==6)with
 |true=>rw[h5]at h;exact oA h
 |false=>
 rw[h5]at h;refine(rfl:cn false _ _ =_).trans ?_;rw[List.find?_cons]at h;dsimp only at h;cases h6:(a.c.Do==7)with
 |true=>rw[h6]at h;exact oA h
 |false=>
 rw[h6]at h;refine(rfl:cn false _ _ =_).trans ?_;rw[List.find?_cons]at h;dsimp only at h;cases h7:(a.c.Do==8)with
 |true=>rw[h7]at h;exact oA h
 |false=>
 rw[h7]at h;refine(rfl:cn false _ _ =_).trans ?_;rw[List.find?_cons]at h;dsimp only at h;cases h8:(a.c.Do==9)with
 |true=>rw[h8]at h;exact oA h
 |false=>
 rw[h8]at h;refine(rfl:cn false _ _ =_).trans ?_;rw[List.find?_cons]at h;dsimp only at h;cases h9:(a.c.Do==10)with
 |true=>rw[h9]at h;exact oA h
 |false=>
 rw[h9]at h;refine(rfl:cn false _ _ =_).trans ?_;rw[List.find?_cons]at h;dsimp only at h;cases h10:(a.c.Do==11)with
 |true=>rw[h10]at h;exact oA h
 |false=>
 rw[h10]at h;refine(rfl:cn false _ _ =_).trans ?_;rw[List.find?_cons]at h;dsimp only at h;cases h11:(a.c.Do==12)with
 |true=>rw[h11]at h;exact oA h
 |false=>
 rw[h11]at h;refine(rfl:cn false _ _ =_).trans ?_;rw[List.find?_cons]at h;dsimp only at h;cases h12:(a.c.Do==13)with
 |true=>rw[h12]at h;exact oA h
 |false=>
 rw[h12]at h;refine(rfl:cn false _ _ =_).trans ?_;rw[List.find?_cons]at h;dsimp only at h;cases h13:(a.c.Do==14)with
 |true=>rw[h13]at h;exact oA h
 |false=>
 rw[h13]at h;refine(rfl:cn false _ _ =_).trans ?_;rw[List.find?_cons]at h;dsimp only at h;cases h14:(a.c.Do==15)with
 |true=>rw[h14]at h;exact oA h
 |false=>
 rw[h14]at h;refine(rfl:cn false _ _ =_).trans ?_;rw[List.find?_cons]at h;dsimp only at h;cases h15:(a.c.Do==16)with
 |true=>rw[h15]at h;exact oA h
 |false=>
 rw[h15]at h;refine(rfl:cn false _ _ =_).trans ?_;rw[List.find?_cons]at h;dsimp only at h;cases h16:(a.c.Do==17)with
 |true=>rw[h16]at h;exact oA h
 |false=>
 rw[h16]at h;refine(rfl:cn false _ _ =_).trans ?_;rw[List.find?_cons]at h;dsimp only at h;cases h17:(a.c.Do==18)with
 |true=>rw[h17]at h;exact oA h
 |false=>
 rw[h17]at h;refine(rfl:cn false _ _ =_).trans ?_;rw[List.find?_cons]at h;dsimp only at h;cases h18:(a.c.Do==19)with
 |true=>rw[h18]at h;exact R5 hk h
 |false=>
 rw[h18]at h;refine(rfl:cn false _ _ =_).trans ?_;rw[List.find?_cons]at h;dsimp only at h;cases h19:(a.c.Do==20)with
 |true=>rw[h19]at h;exact oA h
 |false=>
 rw[h19]at h;refine(rfl:cn false _ _ =_).trans ?_;rw[List.find?_cons]at h;dsimp only at h;cases h20:(a.c.Do==21)with
 |true=>rw[h20]at h;exact oA h
 |false=>
 rw[h20]at h;refine(rfl:cn false _ _ =_).trans ?_;rw[List.find?_cons]at h;dsimp only at h;cases h21:(a.c.Do==22)with
 |true=>rw[h21]at h;exact oA h
 |false=>
 rw[h21]at h;refine(rfl:cn false _ _ =_).trans ?_;exact h
theorem aal{Z:Type}{n:Nat}{a:ak}{K:ah×Option ak->Option Z}{KK:Int->Option Z}{z:Z}(hk:∀e,K (⟨e,0,0⟩,none)=some z->KK e=some z)(h:bd (bM n a) K=some z):cA n a (λr c=>K (r,some c)) (λe=>K (⟨e,0,0⟩,none)) KK (K (⟨2,0,0⟩,none)) (K (⟨12,0,0⟩,none))=some z:=by
 unfold bM at h;unfold cA;cases h1:(!((decide (0<=a.fJ)&&decide (a.fJ<8))==true)||dm (rM .i64 a.fJ 7) 8)with
 |false=>rw[h1]at h;cases h
 |true=>
  rw[h1]at h;cases h2:((decide (0<=a.fJ)&&decide (a.fJ<8))&&(a.aG.mj (Int.toNat (rM .i64 a.fJ 7))))with
  |false=>rw[h2]at h;exact h
  |true=>rw[h2]at h;exact afA hk h
def bH(n:Nat)(a0:ae)(a1:Int)(a2:aC):Option Int:=lt ({aG:=a0,fJ:=a1,c:=a2,run:=aA,kL:=0,yI:=true,fC:=[]}:ak) λ_=>cn ((a2.Do !=2)==false) (bd (bM n ({aG:=a0,fJ:=a1,c:=a2,run:=aA,kL:=0,yI:=true,fC:=[]}:ak)) λdD=>oc dD.2 (cn (((a2.Do !=2)||(dD.1.E !=0))) (some 0) (none)) λXh=>cn (((a2.Do !=2)||(dD.1.E !=0))) (some 0) (some Xh.kL)) (cn (((a2.Do !=2)||(ay.E !=0))) (some 0) (some (({aG:=a0,fJ:=a1,c:=a2,run:=aA,kL:=0,yI:=true,fC:=[]}:ak).kL)))
def mP(n:Nat)(a0:ae)(a1:Int)(a2:aC):Option Int:=cn (a2.Do !=2) (some 0) (cA n ({aG:=a0,fJ:=a1,c:=a2,run:=aA,kL:=0,yI:=true,fC:=[]}:ak) (λr c=>cn (r.E !=0) (some 0) (some c.kL)) (λe=>cn (e !=0) (some 0) none) (λe=>cn (e !=0) (some 0) (some 0)) (some 0) (some 0))
theorem zI(n:Nat)(a0:ae)(a1:Int)(a2:aC)(z:Int)(h:bH n a0 a1 a2=some z):mP n a0 a1 a2=some z:=by
 unfold bH at h;unfold mP;cases h1:(a2.Do !=2)with
 |true=>rw[h1]at h;exact h
 |false=>
  rw[h1]at h;have:=aal (a:=({aG:=a0,fJ:=a1,c:=a2,run:=aA,kL:=0,yI:=true,fC:=[]}:ak)) (KK:=λe=>cn (e !=0) (some 0) (some 0)) (λe h=>by
   have h:cn (e !=0) (some 0) none=some z:=h;cases hb:(e !=0)with
   |true=>rw[hb]at h;exact h
   |false=>rw[hb]at h;cases h) h
  exact this
noncomputable def mN(n:Nat):Ct Tryz.prog sg:=ZP (tW n [] [bj n,aY n,sA n,qf n,qY n,p7 n,qa n,pD n,sB n,qb n,pC n,p9 n,q9 n,qZ n,nV n,qW n,qX n,qe n,sy n,qd n,q8 n,q7 n,p8 n]) 3000 ⟨82,[], .cons (.v (.st 19)) (.cons (.v (.int .i64)) (.cons (.v (.st 3)) .nil)), .cons (.v (.int .i64)) .nil,[], .nil,[],[]⟩ (λx=>bH n x.1 x.2.1 x.2.2.1) (λx=>mP n x.1 x.2.1 x.2.2.1) (λy=>y.1) (λz=>(z,())) (0) (λ_ =>rfl) (by kernel_rfl) (λx=>by kernel_rfl) (λx z h=>by apply zI;exact h)
def cq(n:Nat)(a0:ae)(a1:Int)(a2:aC)(a3:au):Option (ae×ah×(List au)):=lt ({aG:=a0,fJ:=a1,c:=a2,run:=a3,kL:=0,yI:=false,fC:=[]}:ak) λ_=>bd (bM n ({aG:=a0,fJ:=a1,c:=a2,run:=a3,kL:=0,yI:=false,fC:=[]}:ak)) λdD=>oc dD.2 (cn ((dD.1.E !=0)) (some (a0,dD.1,([]:List au))) (none)) λXh=>cn ((dD.1.E !=0)) (some (a0,dD.1,([]:List au))) (some (Xh.aG,dD.1,Xh.fC))
def uW(n:Nat)(a0:ae)(a1:Int)(a2:aC)(a3:au):Option (ae×ah×(List au)):=cA n ({aG:=a0,fJ:=a1,c:=a2,run:=a3,kL:=0,yI:=false,fC:=[]}:ak) (λr c=>cn (r.E !=0) (some (a0,r,[])) (some (c.aG,r,c.fC))) (λe=>cn (e !=0) (some (a0,⟨e,0,0⟩,[])) none) (λe=>cn (e !=0) (some (a0,⟨e,0,0⟩,[])) (some (a0,⟨e,0,0⟩,[]))) (some (a0,⟨2,0,0⟩,[])) (some (a0,⟨12,0,0⟩,[]))
theorem Dv(n:Nat)(a0:ae)(a1:Int)(a2:aC)(a3:au)(z:ae×ah×(List au))(h:cq n a0 a1 a2 a3=some z):uW n a0 a1 a2 a3=some z:=by
 have:=aal (a:=({aG:=a0,fJ:=a1,c:=a2,run:=a3,kL:=0,yI:=false,fC:=[]}:ak)) (KK:=λe=>cn (e !=0) (some (a0,⟨e,0,0⟩,[])) (some (a0,⟨e,0,0⟩,[]))) (λe h=>by
  have h:cn (e !=0) (some (a0,⟨e,0,0⟩,([]:List au))) none=some z:=h;cases hb:(e !=0)with
  |true=>rw[hb]at h;exact h
  |false=>rw[hb]at h;cases h) h
 exact this
noncomputable def uT(n:Nat):Ct Tryz.prog sg:=ZP (tW n [] [bj n,aY n,sA n,qf n,qY n,p7 n,qa n,pD n,sB n,qb n,pC n,p9 n,q9 n,qZ n,nV n,qW n,qX n,qe n,sy n,qd n,q8 n,q7 n,p8 n]) 3000 ⟨83,[], .cons (.v (.st 19)) (.cons (.v (.int .i64)) (.cons (.v (.st 3)) (.cons (.v (.st 4)) .nil))), .cons (.jP (.cons (.v (.st 19)) (.cons (.v (.st 2)) (.cons (.v (.sl (.st 4))) .nil)))) .nil,[], .nil,[],[]⟩ (λx=>cq n x.1 x.2.1 x.2.2.1 x.2.2.2.1) (λx=>uW n x.1 x.2.1 x.2.2.1 x.2.2.2.1) (λy=>(y.1,y.2.1,y.2.2.1)) (λz=>(z.1,(z.2.1,(z.2.2,())))) (cO,ay,[]) (λ_ =>rfl) (by kernel_rfl) (λx=>by kernel_rfl) (λx z h=>by apply Dv;exact h)
def u9(n:Nat)(a0:(List Int)):Option (List Int):=some a0
def sJ(n:Nat)(a0:(List Int)):Option (List Int):=gu ((a0.length:Int)==(a0.length:Int))<|gu ((a0.length:Int)==(a0.length:Int))<|some a0
theorem AT(n:Nat)(a0:(List Int)):sJ n a0=u9 n a0:=OY.trans OY
noncomputable def As(n:Nat):CT:=cV (tW n [] []) (kA 117 [.v (.sl (.int .i64))] [.v (.sl (.int .i64))]) (a1 (u9 n)) u1 m1 (hW:=λx=>Eq.trans (b:=sJ n x.1) (by kernel_rfl) (AT ..))
def cv(n:Nat)(a0:ae)(a1:aC):Option ((List Int)×Int):=bd (ew n a0.dx.T a1.R) λbS=>cn ((bS.2!=0)) (some (([]:List Int),bS.2)) (cn (((((a1.Do !=3)&&(a1.Do !=4))||decide (a1.B<1))||decide (8<a1.B))) (some (([]:List Int),2)) (cn (decide ((wr .i64 (bS.1.E.eY-(wr .i64 a1.B)))<(wr .i64 a1.A))) (some (([]:List Int),9)) (eV (λk47 (gi:(List Int)) (tG:Int)=>cn (decide (tG<(wr .i64 a1.B))) (bd (jF n bS.1.E (wr .i64 ((wr .i64 a1.A)+tG))) λuh=>gu (gZ gi.length 1 8)<|lt (gi++([uh.1]):List Int) λMB=>k47 MB (wr .i64 (tG+1))) (some (gi,0))) n ([]) 0)))
noncomputable def zB(n:Nat):CT:=cV (tW n [(21, .loop [(.dz 8,(.row 3 1 (.int .i64))),(.dz 59,(.v (.int .i64)))])] [fI n,w9 n,As n]) (kA 89 [.s 19, .s 3] [.t [.v (.sl (.int .i64)), .i]]) (a2 (cv n)) u2 m2
end Go.Proofs.Z
