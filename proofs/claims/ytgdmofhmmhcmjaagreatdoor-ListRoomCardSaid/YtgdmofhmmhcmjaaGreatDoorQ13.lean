/- Part 13 of what a proof leans on; pruned and shortened by a program out of longer texts. -/
import Derived.Test.YtgdmofhmmhcmjaaGreatDoorQ12
namespace Go.Proofs.Z
open Go Go.Bw Go.Rw Go.RowKit
noncomputable section
def n7(n:Nat)(a0:bX)(a1:Int):Option Bool:=bd (nM n a0.K a1 0) λaA=>some aA
def yy(n:Nat):CT:=cV (tW n [] [qh n]) ⟨267,[(94, .v (.st 16)),(25, .v (.int .u32))], .cons (.bU 0) (.cons (.bU 1) .nil), .cons (.v .bool) .nil,[], .nil,[],[]⟩ (λx=>n7 n x.1 x.2.1) u1 m1
def n6(n:Nat)(a0:bX)(a1:Int):Option Bool:=bd (m9 n a0.K a1 0) λaA=>some aA
def yx(n:Nat):CT:=cV (tW n [] [pI n]) ⟨269,[(94, .v (.st 16)),(25, .v (.int .u32))], .cons (.bU 0) (.cons (.bU 1) .nil), .cons (.v .bool) .nil,[], .nil,[],[]⟩ (λx=>n6 n x.1 x.2.1) u1 m1
def qG(n:Nat)(a0:Int)(a1:bX):Option Bool:=bd (nD n a1.K a0) λaA=>some (decide (0<(aA.length:Int)))
def wm(n:Nat):CT:=cV (tW n [] [oC n]) ⟨273,[(94, .v (.st 16))], .cons (.v (.int .u32)) (.cons (.bU 0) .nil), .cons (.v .bool) .nil,[], .nil,[],[]⟩ (λx=>qG n x.2.1 x.1) u1 m1
def fG(n:Nat)(a0:(List Int))(gY:bX):Option Int:=iw (λMc (aQ:Int)=>cn (decide (aQ<(a0.length:Int))) (gu (dg aQ a0.length)<|bd (qG n (a0.getD (Int.toNat aQ) default) gY) λdk=>cn (dk) (some aQ) (Mc (wr .i64 (aQ+1)))) (some (-1))) n 0
def jA(n:Nat):CT:=cV (tW n [(5, .loop [(.cY 8,(.v (.int .i64)))])] [wm n]) ⟨146,[(94, .v (.st 16))], .cons (.v (.sl (.int .u32))) (.cons (.fn (.func 273) .nil (.cons (.bU 0) .nil)) .nil), .cons (.v (.int .i64)) .nil,[], .nil,[],[]⟩ (λx=>fG n x.2.1 x.1) u1 m1
def eW(n:Nat)(a0:(List Int))(gY:bX):Option Bool:=bd (fG n a0 gY) λaA=>some (decide (0<=aA))
def iI(n:Nat):CT:=cV (tW n [] [jA n]) ⟨272,[(94, .v (.st 16))], .cons (.v (.sl (.int .u32))) (.cons (.fn (.func 273) .nil (.cons (.bU 0) .nil)) .nil), .cons (.v .bool) .nil,[], .nil,[],[]⟩ (λx=>eW n x.2.1 x.1) u1 m1
def n5(n:Nat)(a0:bX)(a1:Int):Option Bool:=bd (rW n a0.T a1) λbS=>bd (eW n bS a0) λep=>some (!ep)
def yw(n:Nat):CT:=cV (tW n [] [sX n,iI n]) ⟨271,[(94, .v (.st 16)),(25, .v (.int .u32))], .cons (.bU 0) (.cons (.bU 1) .nil), .cons (.v .bool) .nil,[], .nil,[],[]⟩ (λx=>n5 n x.1 x.2.1) u1 m1
def mS(n:Nat)(a0:bX)(a1:Int)(a2:Int):Option Bool:=cn (a2==0) (cl (true==true) (n7 n a0 a1) default λdP=>some (true&&dP)) (cn (a2==1) (cl (true==true) (n6 n a0 a1) default λdP=>some (true&&dP)) (cn (a2==2) (cl (true==true) (n5 n a0 a1) default λdP=>some (true&&dP)) (some false)))
namespace H
theorem NJ{J:World->Prop}{T0 T1 q0 q1 r:Nat}{uY:List Value}{a0:bX}{a1:Int}{o:Ob sg}(f0:fj.eI J uY a0)(e:cU [(0, .cH T0 (.dat (.st 16) a0)),(1, .cH T1 (.int .u32 a1))] r=some o):
  ∃z∈([.cells q0 T0 uY, .cells q1 T1 ((LI .u32).enc a1)]:List aE),ro (G:=sg) J (aY.set (aY.set (λ_ =>none) 0 (dB q0 0)) 1 (dB q1 0)) r o z:=by
 match r,e with
 |0,e=>cases e;exact⟨_,List.mem_cons_self,q0, .agg uY.toArray,rfl,rfl,K4 (t:= .st 16) f0 rfl⟩
 |1,e=>cases e;exact⟨_,aiY _ List.mem_cons_self,q1, .int .u32 a1,rfl,rfl,rfl⟩
 |r+2,e=>cases e
theorem zb{n:Nat}{a0:bX}{a1:Int}{r:Bool}{R:List aE}(hg:Sk sg (Hs R)){q0:Nat}{uY:List Value}(f0:fj.eI (Hs R) uY a0){q1:Nat}(h:n7 n a0 a1=some r):Bw.Fn (α:=Unit) Tryz.prog 267 [dB q0 0,dB q1 0] (Sm (bz [.cells q0 94 uY, .cells q1 25 ((LI .u32).enc a1)]) (Hs R)) [.cells q0 94 uY, .cells q1 25 ((LI .u32).enc a1)] (λ_ =>True) (λ_ => .bool r) (λ_ =>[.cells q0 94 uY, .cells q1 25 ((LI .u32).enc a1)]):=
 yV (ct:=yy n) (x:=(a0,a1,())) (y:=(r,())) (ρ:=aY.set (aY.set (λ_ =>none) 0 (dB q0 0)) 1 (dB q1 0)) ⟨r,h,rfl⟩ hg (λ_ _ =>⟨_,_,rfl,⟨⟨q0,0, .inl rfl,rfl⟩,nofun⟩,_,_,rfl,⟨⟨q1,0, .inl rfl,rfl⟩,nofun⟩,rfl⟩) rfl rfl
  (λJ hJ r o e=>NJ (T0:=94) (T1:=25) (cP.mono _ hJ f0) e) (λr (hr:2<=r)=>match r,hr with|r+2,_ =>rfl) λJ σ u us ⟨_,_,e,h1,_⟩=>by cases e;have h1:[u]=[.bool _]:=h1;cases h1;rfl
theorem za{n:Nat}{a0:bX}{a1:Int}{r:Bool}{R:List aE}(hg:Sk sg (Hs R)){q0:Nat}{uY:List Value}(f0:fj.eI (Hs R) uY a0){q1:Nat}(h:n6 n a0 a1=some r):Bw.Fn (α:=Unit) Tryz.prog 269 [dB q0 0,dB q1 0] (Sm (bz [.cells q0 94 uY, .cells q1 25 ((LI .u32).enc a1)]) (Hs R)) [.cells q0 94 uY, .cells q1 25 ((LI .u32).enc a1)] (λ_ =>True) (λ_ => .bool r) (λ_ =>[.cells q0 94 uY, .cells q1 25 ((LI .u32).enc a1)]):=
 yV (ct:=yx n) (x:=(a0,a1,())) (y:=(r,())) (ρ:=aY.set (aY.set (λ_ =>none) 0 (dB q0 0)) 1 (dB q1 0)) ⟨r,h,rfl⟩ hg (λ_ _ =>⟨_,_,rfl,⟨⟨q0,0, .inl rfl,rfl⟩,nofun⟩,_,_,rfl,⟨⟨q1,0, .inl rfl,rfl⟩,nofun⟩,rfl⟩) rfl rfl
  (λJ hJ r o e=>NJ (T0:=94) (T1:=25) (cP.mono _ hJ f0) e) (λr (hr:2<=r)=>match r,hr with|r+2,_ =>rfl) λJ σ u us ⟨_,_,e,h1,_⟩=>by cases e;have h1:[u]=[.bool _]:=h1;cases h1;rfl
theorem y9{n:Nat}{a0:bX}{a1:Int}{r:Bool}{R:List aE}(hg:Sk sg (Hs R)){q0:Nat}{uY:List Value}(f0:fj.eI (Hs R) uY a0){q1:Nat}(h:n5 n a0 a1=some r):Bw.Fn (α:=Unit) Tryz.prog 271 [dB q0 0,dB q1 0] (Sm (bz [.cells q0 94 uY, .cells q1 25 ((LI .u32).enc a1)]) (Hs R)) [.cells q0 94 uY, .cells q1 25 ((LI .u32).enc a1)] (λ_ =>True) (λ_ => .bool r) (λ_ =>[.cells q0 94 uY, .cells q1 25 ((LI .u32).enc a1)]):=
 yV (ct:=yw n) (x:=(a0,a1,())) (y:=(r,())) (ρ:=aY.set (aY.set (λ_ =>none) 0 (dB q0 0)) 1 (dB q1 0)) ⟨r,h,rfl⟩ hg (λ_ _ =>⟨_,_,rfl,⟨⟨q0,0, .inl rfl,rfl⟩,nofun⟩,_,_,rfl,⟨⟨q1,0, .inl rfl,rfl⟩,nofun⟩,rfl⟩) rfl rfl
  (λJ hJ r o e=>NJ (T0:=94) (T1:=25) (cP.mono _ hJ f0) e) (λr (hr:2<=r)=>match r,hr with|r+2,_ =>rfl) λJ σ u us ⟨_,_,e,h1,_⟩=>by cases e;have h1:[u]=[.bool _]:=h1;cases h1;rfl
theorem Bp{n a0 a1 a2 r}{R:List aE}(hg:Sk sg (Hs R)){uY}(f0:(fj).eI (Hs R) uY a0)(h:mS n a0 a1 a2=some r):FnW Tryz.prog 170 [A uY, .int .u32 a1, .int .u8 a2] (Hs R) (.bool r):=by
 unfold mS at h;refine fo Tryz.func170 (by kernel_rfl) rfl Tryz.ntmps170 rfl λcx _ hro nr hpre=>?_;refine SC 2 rf ?_;refine W1 rf (Qv rfl) λb3=>?_;refine W1 rf (nK (LI .u32) a1 rfl rfl) λb4=>?_;refine SL 5 rf ?_;refine xQ rfl (HJ .u8 (λv:Value=>v)) (λOA _ =>?_);refine bT rfl (qJ rfl) ?_;refine HG (D6 (E:=λv:Value=>v) (.func (.func 267) #[] #[dB b3 0,dB b4 0]) rfl rfl rfl rfl) (λ_ _ =>?_);refine bT rfl (qJ rfl) ?_;refine HG (D6 (E:=λv:Value=>v) (.func (.func 269) #[] #[dB b3 0,dB b4 0]) rfl rfl rfl rfl) (λ_ _ =>?_);refine bT rfl (qJ rfl) ?_;refine HG (D6 (E:=λv:Value=>v) (.func (.func 271) #[] #[dB b3 0,dB b4 0]) rfl rfl rfl rfl) (λ_ _ =>?_);refine SL 5 rf ?_;rcases Decidable.em (a2=0)with Bf|Bf
 ·replace h:=Ot (by simpa using Bf) h;refine SC 3 rf ?_;refine bT rfl (wU .nilFunc (.func (.func 267) #[] #[dB b3 0,dB b4 0]) true rfl rfl (by rw[Bf];rfl) (by rw[Bf];rfl)) ?_;obtain⟨dP,NZ,_,h⟩:=Zz h;refine SL 11 rf ?_;refine GB rf rf rf (λhb=>cy rfl) ?_;refine D2 (WW rfl rfl) rfl (λhb=>zb (R:=R) hg (mo f0) (NZ hb)) (λhb=>(KV rfl hb)) (λhb=>rfl) rfl (mE:=[.cells b3 94 uY, .cells b4 25 ((LI .u32).enc a1)]) (rst:=[Mp OA .u8 (λv:Value=>v) (tw (tw (tw ([]:List (Int×Value)) 0 (.func (.func 267) #[] #[dB b3 0,dB b4 0])) 1 (.func (.func 269) #[] #[dB b3 0,dB b4 0])) 2 (.func (.func 271) #[] #[dB b3 0,dB b4 0]))]) (ks:=[2,1,0]) rfl (by decide) (λhb=>inferInstance) ?_;dsimp only[List.cons_append,List.nil_append];refine bT rfl (HH rfl rfl) ?_;refine SL 4 rf ?_;have h:=sj h;subst h;exact RV rf (rt rf rn) rf
 replace h:=Ou (by simpa using Bf) h;rcases Decidable.em (a2=1)with Be|Be
 ·replace h:=Ot (by simpa using Be) h;refine SC 3 rf ?_;refine bT rfl (wU .nilFunc (.func (.func 269) #[] #[dB b3 0,dB b4 0]) true rfl rfl (by rw[Be];rfl) (by rw[Be];rfl)) ?_;obtain⟨dP,NZ,_,h⟩:=Zz h;refine SL 11 rf ?_;refine GB rf rf rf (λhb=>cy rfl) ?_;refine D2 (WW rfl rfl) rfl (λhb=>za (R:=R) hg (mo f0) (NZ hb)) (λhb=>(KV rfl hb)) (λhb=>rfl) rfl (mE:=[.cells b3 94 uY, .cells b4 25 ((LI .u32).enc a1)]) (rst:=[Mp OA .u8 (λv:Value=>v) (tw (tw (tw ([]:List (Int×Value)) 0 (.func (.func 267) #[] #[dB b3 0,dB b4 0])) 1 (.func (.func 269) #[] #[dB b3 0,dB b4 0])) 2 (.func (.func 271) #[] #[dB b3 0,dB b4 0]))]) (ks:=[2,1,0]) rfl (by decide) (λhb=>inferInstance) ?_;dsimp only[List.cons_append,List.nil_append];refine bT rfl (HH rfl rfl) ?_;refine SL 4 rf ?_;have h:=sj h;subst h;exact RV rf (rt rf rn) rf
 replace h:=Ou (by simpa using Be) h;rcases Decidable.em (a2=2)with Bd|Bd
 ·replace h:=Ot (by simpa using Bd) h;refine SC 3 rf ?_;refine bT rfl (wU .nilFunc (.func (.func 271) #[] #[dB b3 0,dB b4 0]) true rfl rfl (by rw[Bd];rfl) (by rw[Bd];rfl)) ?_;obtain⟨dP,NZ,_,h⟩:=Zz h;refine SL 11 rf ?_;refine GB rf rf rf (λhb=>cy rfl) ?_;refine D2 (WW rfl rfl) rfl (λhb=>y9 (R:=R) hg (mo f0) (NZ hb)) (λhb=>(KV rfl hb)) (λhb=>rfl) rfl (mE:=[.cells b3 94 uY, .cells b4 25 ((LI .u32).enc a1)]) (rst:=[Mp OA .u8 (λv:Value=>v) (tw (tw (tw ([]:List (Int×Value)) 0 (.func (.func 267) #[] #[dB b3 0,dB b4 0])) 1 (.func (.func 269) #[] #[dB b3 0,dB b4 0])) 2 (.func (.func 271) #[] #[dB b3 0,dB b4 0]))]) (ks:=[2,1,0]) rfl (by decide) (λhb=>inferInstance) ?_;dsimp only[List.cons_append,List.nil_append];refine bT rfl (HH rfl rfl) ?_;refine SL 4 rf ?_;have h:=sj h;subst h;exact RV rf (rt rf rn) rf
 replace h:=Ou (by simpa using Bd) h;refine SC 3 rf ?_;refine bT rfl (wU .nilFunc .nilFunc false rfl rfl (Ph (z:= .nilFunc) Bf Be Bd).1 (Ph (z:= .nilFunc) Bf Be Bd).2) ?_;refine SL 11 rf ?_;refine GB rf rf rf (λhb=>cy rfl) ?_;refine ags (v:= .bool false) (WW rfl rfl) (by rfl) rfl ?_;refine bT rfl (HH rfl rfl) ?_;refine SL 4 rf ?_;have h:=sj h;subst h;exact RV rf (rt rf rn) rf
end H
def A4(n:Nat):Ct Tryz.prog sg:=ctV (G:=sg) ⟨170,[], .cons (.v (.st 16)) (.cons (.v (.int .u32)) (.cons (.v (.int .u8)) .nil)), .cons (.v .bool) .nil,[], .nil,[],[]⟩ (λx=>mS n x.1 x.2.1 x.2.2.1) (λz=>(z,())) (false) (by kernel_rfl) (Vi (λ_ =>rfl) (λ_ =>rfl) rfl λρ R x z vs hg hz hv=>by
 obtain⟨cs,r1,e_1,h0,v1⟩:=Kj hv rfl;obtain⟨r2,e_2,v2⟩:=NA v1;obtain⟨r3,e_3,v3⟩:=NA v2;have e_0:r3=[]:=v3;subst e_0 e_3 e_2 e_1;exact⟨_,acH (H.Bp hg h0 hz),λJ v e=>by
  subst e;exact⟨_,_,rfl,rfl,rfl⟩⟩)
def uI(n:Nat)(a0:Int)(a1:bX)(a2:Int)(a3:Int)(a4:Int):Option Bool:=bd (cW n a1.K a0) λaA=>cl ((((wr .i64 aA.1.To)==a2)==true)&&((a3==0)==true)) (nM n a1.K a4 a0) default λaQ=>cl (((((wr .i64 aA.1.To)==a2)==true)&&(((a3==0)&&aQ)==false))&&(((a3==1)&&aA.1.mT)==true)) (m9 n a1.K a4 a0) default λbS=>some (((wr .i64 aA.1.To)==a2)&&(((a3==0)&&aQ)||(((a3==1)&&aA.1.mT)&&bS)))
def Ac(n:Nat):CT:=cV (tW n [] [ez n,qh n,pI n]) ⟨286,[(94, .v (.st 16)),(3, .v (.int .i64)),(5, .v (.int .u8)),(25, .v (.int .u32))], .cons (.v (.int .u32)) (.cons (.bU 0) (.cons (.bU 1) (.cons (.bU 2) (.cons (.bU 3) .nil)))), .cons (.v .bool) .nil,[], .nil,[],[]⟩ (λx=>uI n x.2.2.2.2.1 x.1 x.2.1 x.2.2.1 x.2.2.2.1) u1 m1
def fW(n:Nat)(a0:(List Int))(gY:bX)(rj:Int)(VX:Int)(ade:Int):Option Int:=iw (λMc (aQ:Int)=>cn (decide (aQ<(a0.length:Int))) (gu (dg aQ a0.length)<|bd (uI n (a0.getD (Int.toNat aQ) default) gY rj VX ade) λdk=>cn (dk) (some aQ) (Mc (wr .i64 (aQ+1)))) (some (-1))) n 0
def j9(n:Nat):CT:=cV (tW n [(5, .loop [(.cY 8,(.v (.int .i64)))])] [Ac n]) ⟨146,[(94, .v (.st 16)),(3, .v (.int .i64)),(5, .v (.int .u8)),(25, .v (.int .u32))], .cons (.v (.sl (.int .u32))) (.cons (.fn (.func 286) .nil (.cons (.bU 0) (.cons (.bU 1) (.cons (.bU 2) (.cons (.bU 3) .nil))))) .nil), .cons (.v (.int .i64)) .nil,[], .nil,[],[]⟩ (λx=>fW n x.2.2.2.2.1 x.1 x.2.1 x.2.2.1 x.2.2.2.1) u1 m1
def fI(n:Nat)(a0:(List Int))(gY:bX)(rj:Int)(VX:Int)(ade:Int):Option Bool:=bd (fW n a0 gY rj VX ade) λaA=>some (decide (0<=aA))
def jB(n:Nat):CT:=cV (tW n [] [j9 n]) ⟨272,[(94, .v (.st 16)),(3, .v (.int .i64)),(5, .v (.int .u8)),(25, .v (.int .u32))], .cons (.v (.sl (.int .u32))) (.cons (.fn (.func 286) .nil (.cons (.bU 0) (.cons (.bU 1) (.cons (.bU 2) (.cons (.bU 3) .nil))))) .nil), .cons (.v .bool) .nil,[], .nil,[],[]⟩ (λx=>fI n x.2.2.2.2.1 x.1 x.2.1 x.2.2.1 x.2.2.2.1) u1 m1
def xA(n:Nat)(a0:bX)(a1:Int)(a2:Int)(a3:Int):Option Bool:=bd (nD n a0.K a2) λaA=>bd (fI n aA a0 a1 a3 a2) λeH=>some eH
def B0(n:Nat):CT:=cV (tW n [] [oC n,jB n]) (kD 266 [.s 16, .i, .w, .v (.int .u8)] [.b]) (a4 (xA n)) u1 m1
def pq(n:Nat)(a0:bX)(a1:Int)(a2:Int)(a3:Int):Option Int:=bd (aJ n a0.T.fE.kS a2) λaA=>cn ((!aA)) (some 4) (bd (jV n a0.O a0.T a2) λcB=>cn ((cB.xU==3)) (gu (!((((a3==0)&&decide (0<=a1))&&decide (a1<8))==true)||decide (0<=a1))<|cn ((!((((a3==0)&&decide (0<=a1))&&decide (a1<8))&&((rZ .u8 (Ae .u8 cB.jj a1) 1)==1)))) (some 5) (some 0)) (cn ((cB.xU==1)) (cl (((wr .i64 cB.jU)==a1)==true) (mS n a0 a2 a3) default λeP=>cl ((((wr .i64 cB.jU)==a1)&&eP)==false) (xA n a0 a1 a2 a3) default λdk=>cn ((!((((wr .i64 cB.jU)==a1)&&eP)||dk))) (some 5) (some 0)) (some 5)))
def Dr(n:Nat):CT:=cV (tW n [] [aR n,jq n,A4 n,B0 n]) (kD 236 [.s 16, .i, .w, .v (.int .u8)] [.i]) (a4 (pq n)) u1 m1
def y7(n:Nat)(a0:ax)(a1:Int)(a2:Int):Option (Except Int aL):=bd (dW n a0 a1) λaA=>tc (aA.2==0) (.error aA.2)<|tc (decide (0<=a2)&&decide (a2<8)) (.error 2)<|some (.ok aA.1)
def AG(n:Nat):CT:=cT (tW n [] [bp n,bf n,eR n]) 262 [.s 10, .w, .i] [.s 6] 31 (a3 (y7 n)) u1 m1
def MI(n:Nat)(a0:ax)(a1:Int)(a2:Int)(a3:Int)(a4:Bool):Option (ax×Int):=bd (aJ n a0.fE.kS a1) λaA=>cl ((aA==true)&&((a3==0)==false)) (aJ n a0.fE.kS a3) default λaQ=>tc (aA&&((a3==0)||aQ)) (ei,4)<|tr (y7 n a0 a1 a2) (λacP=>(ei,acP)) λdS=>cl (((a3==0)||a4)==false) (nI n a0 a3 a1) default λfR=>tc (((a3==0)||a4)||fR) (ei,5)<|gu (dg a2 8)<|lt ({dS with qP:=(iD dS.qP (Int.toNat a2) a3)}:aL) λgR=>bd (iO n a0 a1 gR) λlJ=>some (lJ.1,lJ.2)
def Nh(n:Nat):CT:=cV (tW n [] [bp n,bf n,aR n,AG n,oG n,oD n]) (kD 260 [.s 10, .w, .i, .w, .b] [.t [.s 10, .i]]) (λx=>MI n x.1 x.2.1 x.2.2.1 x.2.2.2.1 x.2.2.2.2.1) u2 m2
def MJ(n:Nat)(a0:ax)(a1:Int)(a2:Int)(a3:Int)(a4:Bool):Option (ax×Int):=bd (MI n a0 a1 a2 a3 a4) λaA=>cn ((aA.2!=0)) (some (a0,aA.2)) (some (aA.1,0))
def Ni(n:Nat):CT:=cV (tW n [] [Nh n]) (kD 227 [.s 10, .w, .i, .w, .b] [.t [.s 10, .i]]) (λx=>MJ n x.1 x.2.1 x.2.2.1 x.2.2.2.1 x.2.2.2.2.1) u2 m2
def Ht(n:Nat)(a0:ax)(a1:Int)(a2:Int):Option (Int×Int):=tr (y7 n a0 a1 a2) (λnX=>(0,nX)) λaA=>gu (dg a2 8)<|tc ((aA.qP (Int.toNat a2))!=0) (0,10)<|bd (aJ n a0.fE.kS (aA.qP (Int.toNat a2))) λep=>tc ep (0,4)<|some ((aA.qP (Int.toNat a2)),0)
def J4(n:Nat):CT:=cV (tW n [] [bp n,bf n,AG n,aR n]) (kD 228 [.s 10, .w, .i] [.t [.w, .i]]) (a3 (Ht n)) u2 m2
def ux(n:Nat):Option ae:=lt ({cS with mF:=(iD cS.mF 0 true)}:ae) λaA=>lt ({aA with Ft:=(iD aA.Ft 0 true)}:ae) λcB=>some cB
def AF(n:Nat):CT:=cV (tW n [] []) (kD 69 [] [.s 19]) (λ_=>ux n) u1 m1
def iZ(n:Nat)(a0:aq)(a1:Int):Option aq:=bd (rW n a0.aH.dH.T a1) λbS=>eS (λk51 (lJ:Int) (v5:aq)=>cn (decide (lJ<(bS.length:Int))) (gu (dg lJ bS.length)<|bd (dW n v5.aH.dH.T (bS.getD (Int.toNat lJ) default)) λqc=>gu (gC v5.fF.length qc.1.E.aK.length 16)<|lt (v5.fF++qc.1.E.aK:List av) λJP=>bd (s6 n (({v5 with fF:=JP}).aH.dH.K) (bS.getD (Int.toNat lJ) default)) λJN=>k51 (wr .i64 (lJ+1)) ({({v5 with fF:=JP})with aH:={({v5 with fF:=JP}).aH with dH:={(({v5 with fF:=JP}).aH).dH with K:=JN}}})) (bd (Ez n v5.aH.dH.T a1) λQy=>some ({v5 with aH:={v5.aH with dH:={v5.aH.dH with T:=Qy.1}}}))) n 0 a0
def mX(n:Nat):CT:=cV (tX n [(3, .loop [(.cY 17,(.v (.int .i64))),(.via 0,dA)])] [sX n,eR n,yj n,Iq n] [(1,vw0)] []) ⟨211,[], .cons dA (.cons (.v (.int .u32)) .nil), .cons (.jy .nil) (.cons dA .nil),[some 0,none], .nil,[],[[0]]⟩ (λx=>iZ n (g7 x) x.2.2.2.2.2.2.2.1) (λy=>g7 y) (λz=>(h7 z ()))
def dK(n:Nat)(a0:Int):Option (Except Int Unit):=tc (a0==0) (.error a0)<|some (.ok ())
def dh(n:Nat):CT:=cT (tW n [] [bp n,bf n]) 200 [.i] [.jy .nil] 31 (a1 (dK n)) (λ_ =>()) (λ_ =>())
def nS(n:Nat)(a0:aq)(a1:Int)(a2:Int):Option (Except Int aq):=bd (AK n a0.aH.dH.O a0.aH.dH.T a1 a2) λbS=>tr (dK n bS.2.2) (λK0=>(.error K0)) λ_=>cn ((bS.2.1==0)) (bd (iZ n ({a0 with aH:={a0.aH with dH:={a0.aH.dH with O:=bS.1}}}) a1) λeH=>some (.ok eH)) (some (.ok ({a0 with aH:={a0.aH with dH:={a0.aH.dH with O:=bS.1}}})))
def qt(n:Nat):CT:=cX (tW n [] [bp n,bf n,EP n,dh n,mX n]) ⟨219,[], .cons dA (.cons (.v (.int .u32)) (.cons (.v (.int .i64)) .nil)), .cons (.jy .nil) (.cons dA .nil),[some 0,none],(.cons (.jS 31 (.v (.int .i64))) .nil),[],[[0]]⟩ (λx=>nS n (g7 x) x.2.2.2.2.2.2.2.1 x.2.2.2.2.2.2.2.2.1) (λy=>g7 y) (λz=>(h7 z ())) u1 m1
def iX(n:Nat)(a0:aq)(a1:Int)(a2:Int):Option (Except Int aq):=bd (AJ n a0.aH.dH.O a0.aH.dH.T a1 a2) λbS=>tr (dK n bS.2) (λK0=>(.error K0)) λ_=>some (.ok ({a0 with aH:={a0.aH with dH:={a0.aH.dH with O:=bS.1}}}))
def jF(n:Nat):CT:=cX (tW n [] [bp n,bf n,EO n,dh n]) ⟨201,[], .cons dA (.cons (.v (.int .u32)) (.cons (.v (.int .i64)) .nil)), .cons (.jy .nil) (.cons dA .nil),[some 0,none],(.cons (.jS 31 (.v (.int .i64))) .nil),[],[[0]]⟩ (λx=>iX n (g7 x) x.2.2.2.2.2.2.2.1 x.2.2.2.2.2.2.2.2.1) (λy=>g7 y) (λz=>(h7 z ())) u1 m1
def AL(n:Nat)(a0:cm):Option cm:=some a0
def ER(n:Nat):CT:=cV (tW n [] []) ⟨284,[], .cons (.v (.st 18)) .nil, .cons (.fn (.func 290) .nil (.cons (.box 99 (.v (.st 18))) .nil)) .nil,[none], .nil,[],[]⟩ (a1 (AL n)) u1 m1
def vB(n:Nat)(a0:(List aS)):Option (List aS):=some a0
def sZ(n:Nat)(a0:(List aS)):Option (List aS):=gu ((a0.length:Int)==(a0.length:Int))<|gu ((a0.length:Int)==(a0.length:Int))<|some a0
theorem Bk(n:Nat)(a0:(List aS)):sZ n a0=vB n a0:=Pz.trans Pz
def AX(n:Nat):CT:=cV (tW n [] []) (kD 285 [.v (.sl (.st 17))] [.v (.sl (.st 17))]) (a1 (vB n)) u1 m1 (hW:=λx=>Eq.trans (b:=sZ n x.1) (by kernel_rfl) (Bk ..))
def uz(n:Nat)(a0:cm)(a1:Int):Option Int:=some (Int.tmod (wr .i64 (a0.xx+a1)) 4)
def uO(n:Nat):CT:=cV (tW n [] []) (kD 259 [.s 18, .i] [.i]) (a2 (uz n)) u1 m1
def xp(n:Nat)(a1:cm):Option (List aS):=iw (λk35 (dk:Int)=>cn (decide (dk<a1.n)) (bd (uz n a1 dk) λjx=>gu (dg jx 4)<|yl (a1.ring (Int.toNat jx))<|k35 (wr .i64 (dk+1))) (some [])) n 0
def Cs(n:Nat):It Tryz.prog sg:=mkI (tX n [(3, .loop [(.cY 6,(.v (.int .i64)))])] [uO n] [] []) 3000 290 (.cons (.box 99 (.v (.st 18))) .nil) (.cons (.v (.st 17)) .nil) (.st (G:=sg) (i:=17) (λ(x:aS)=>cP.enc fe x) (λJ cs x=>bg.iff (L:=fe)) .nil) (B:=aS) (λy=>(y,())) (λx=>(x.1)) (λx=>xp n x.1) (λ_ =>rfl) (by kernel_rfl) (λx=>by kernel_rfl)
def Cp(n:Nat)(a0:cm):Option (List aS):=bd (AL n a0) λaA=>bd (xp n aA) λbS=>xJ (λ(PX:aS) k31 (eH:(List aS))=>lt (PX:aS) λfR=>gu (gC eH.length 1 24)<|lt (eH++([fR]):List aS) λjk=>k31 jk) (λ(eH:(List aS))=>some eH) bS ([]:List aS)
def F9(n:Nat):CT:=cV (tX n [(7, .loop [(.via 3, .box 305 (.row 96 4 (.st 17)))])] [ER n,AX n] [] [Cs n]) (kD 264 [.s 18] [.v (.sl (.st 17))]) (a1 (Cp n)) u1 m1
def yL(n:Nat)(a0:cm):Option (cm×(List aS)):=lt ({ring:=(λ_ =>iA),xx:=0,n:=0,closed:=true}:cm) λaA=>bd (Cp n a0) λaQ=>some (aA,aQ)
def Dk(n:Nat):CT:=cV (tW n [] [F9 n]) (kD 229 [.s 18] [.t [.s 18, .v (.sl (.st 17))]]) (a1 (yL n)) u2 m2
def oZ(n:Nat)(a0:aq)(a1:Int):Option (Except Int aq):=gu (dg a1 8)<|bd (yL n (a0.aH.kR (Int.toNat a1))) λaQ=>gu (dg a1 8)<|gu (dg a1 8)<|eS (λk58 (qV:Int) (tZ:aq)=>cn (decide (qV<(aQ.2.length:Int))) (gu (dg qV aQ.2.length)<|lt ((aQ.2.getD (Int.toNat qV) default):aS) λzF=>cn (((zF.Region==0)||zF.zn)) (k58 (wr .i64 (qV+1)) tZ) (gu (dg zF.H8 8)<|cn ((tZ.aH.mF (Int.toNat zF.H8))) (tr (iX n tZ zF.Region (wr .i64 zF.H8)) (λah8=>(.error ah8)) λJQ=>k58 (wr .i64 (qV+1)) JQ) (bd (iZ n tZ zF.Region) λJN=>k58 (wr .i64 (qV+1)) JN))) (bd (xj n tZ.aH.dH.K a1) λEL=>eS (λahz (Xv:Int) (Nd:aq)=>cn (decide (Xv<(EL.length:Int))) (gu (dg Xv EL.length)<|bd (gS n Nd.aH.dH.K (EL.getD (Int.toNat Xv) default)) λahb=>ahz (wr .i64 (Xv+1)) ({Nd with aH:={Nd.aH with dH:={Nd.aH.dH with K:=ahb.1}}})) (bd (yI n Nd.aH.dH.O Nd.aH.dH.T a1) λaa3=>eS (λahy (Xu:Int) (Xt:aq)=>cn (decide (Xu<(aa3.length:Int))) (gu (dg Xu aa3.length)<|bd (iZ n Xt (aa3.getD (Int.toNat Xu) default)) λaha=>ahy (wr .i64 (Xu+1)) aha) (bd (AI n Xt.aH.dH.O Xt.aH.dH.T a1) λaa2=>eS (λahx (Xs:Int) (aeo:aq)=>cn (decide (Xs<(aa2.length:Int))) (gu (dg Xs aa2.length)<|tr (nS n aeo (aa2.getD (Int.toNat Xs) default) a1) (λaf9=>(.error af9)) λag9=>ahx (wr .i64 (Xs+1)) ag9) (some (.ok aeo))) n 0 Xt)) n 0 Nd)) n 0 tZ)) n 0 ({({a0 with aH:={a0.aH with kR:=(iD a0.aH.kR (Int.toNat a1) aQ.1)}})with aH:={({a0 with aH:={a0.aH with kR:=(iD a0.aH.kR (Int.toNat a1) aQ.1)}}).aH with mF:=(iD ((({a0 with aH:={a0.aH with kR:=(iD a0.aH.kR (Int.toNat a1) aQ.1)}}).aH).mF) (Int.toNat a1) false)}})
def rE(n:Nat):CT:=cX (tX n [(9, .loop [(.cY 40,(.v (.int .i64))),(.via 0,dA)]),(25, .loop [(.cY 82,(.v (.int .i64))),(.via 0,dA)]),(35, .loop [(.cY 119,(.v (.int .i64))),(.via 0,dA)]),(45, .loop [(.cY 142,(.v (.int .i64))),(.via 0,dA)])] [bp n,bf n,Dk n,jF n,mX n,BL n,pJ n,Di n,EN n,qt n] [(4,vw0),(12,vw0),(17,vw0),(22,vw0)] []) ⟨175,[], .cons dA (.cons (.v (.int .i64)) .nil), .cons (.jy .nil) (.cons dA .nil),[some 0,none],(.cons (.jS 31 (.v (.int .i64))) .nil),[],[[0]]⟩ (λx=>oZ n (g7 x) x.2.2.2.2.2.2.2.1) (λy=>g7 y) (λz=>(h7 z ())) u1 m1
def bG(n:Nat)(a0:aq)(a1:Int)(a2:Int):Option (Except Int Unit):=bd (pq n a0.aH.dH a0.fL a1 a2) λbS=>tr (dK n bS) (λK0=>(.error K0)) λ_=>some (.ok ())
def cC(n:Nat):CT:=cX (tW n [] [bp n,bf n,Dr n,dh n]) ⟨198,[(212, .st (.part 952 (.v (.st 19)) (.part 1 (.v (.int .i64)) (.part 6 (.v (.st 3)) (.part 2 (.v (.st 4)) (.part 1 (.v (.int .i64)) (.part 1 (.v .bool) (.part 1 (.row 158 2 (.st 4)) .nil))))))))], .cons (.bU 0) (.cons (.v (.int .u32)) (.cons (.v (.int .u8)) .nil)), .cons (.jy .nil) .nil,[],(.cons (.jS 31 (.v (.int .i64))) .nil),[],[]⟩ (λx=>bG n (g7 x) x.2.2.2.2.2.2.2.1 x.2.2.2.2.2.2.2.2.1) (λ_ =>()) (λ_ =>()) u1 m1
def ij(n:Nat)(a0:aq):Option (Except Int (ah×aq)):=lt (λ(u21:Unit)=>bd (tE n a0.aH.dH.T a0.c.R (wr .i64 (if 65<a0.c.A then 65 else a0.c.A))) λeP=>tr (dK n eP.2.2) (λaif=>(.error aif)) λ_=>cn (((({a0 with aH:={a0.aH with dH:={a0.aH.dH with T:=eP.1}}}).c.R)==0)) (tr (iX n ({a0 with aH:={a0.aH with dH:={a0.aH.dH with T:=eP.1}}}) eP.2.1 (({a0 with aH:={a0.aH with dH:={a0.aH.dH with T:=eP.1}}}).fL)) (λacL=>(.error acL)) λgR=>lt ({E:=0,V:=0,W:=eP.2.1}:ah) λtZ=>some (.ok (tZ,gR))) (lt ({E:=0,V:=0,W:=eP.2.1}:ah) λJR=>some (.ok (JR,{a0 with aH:={a0.aH with dH:={a0.aH.dH with T:=eP.1}}})))) λXe=>cn ((a0.c.R !=0)) (tr (bG n a0 a0.c.R 1) (λHh=>(.error Hh)) λ_=>Xe ()) (Xe ())
def sQ(n:Nat):CT:=cX (tW n [(6, .join [(.via 0,dA)] [])] [bp n,bf n,cC n,JY n,dh n,jF n]) ⟨177,[], .cons dA .nil, .cons (.v (.st 2)) (.cons dA .nil),[some 0,none],(.cons (.jS 31 (.v (.int .i64))) .nil),[],[[0]]⟩ (λx=>ij n (g7 x)) (λy=>(y.1,g7 y.2)) (λz=>(z.1,(h7 z.2 ()))) u1 m1
def eK(n:Nat)(a0:aq)(a1:Int):Option (Except Int aL):=bd (dW n a0.aH.dH.T a1) λbS=>tr (dK n bS.2) (λOk=>(.error Ok)) λ_=>some (.ok bS.1)
def iB(n:Nat):CT:=cX (tW n [] [bp n,bf n,eR n,dh n]) ⟨203,[(212, .st (.part 952 (.v (.st 19)) (.part 1 (.v (.int .i64)) (.part 6 (.v (.st 3)) (.part 2 (.v (.st 4)) (.part 1 (.v (.int .i64)) (.part 1 (.v .bool) (.part 1 (.row 158 2 (.st 4)) .nil))))))))], .cons (.bU 0) (.cons (.v (.int .u32)) .nil), .cons (.v (.st 6)) .nil,[],(.cons (.jS 31 (.v (.int .i64))) .nil),[],[]⟩ (λx=>eK n (g7 x) x.2.2.2.2.2.2.2.1) u1 m1 u1 m1
def gh(n:Nat)(a0:aq)(a1:Int)(a2:aL):Option (Except Int aq):=bd (iO n a0.aH.dH.T a1 a2) λbS=>tr (dK n bS.2) (λOk=>(.error Ok)) λ_=>some (.ok ({a0 with aH:={a0.aH with dH:={a0.aH.dH with T:=bS.1}}}))
def sO(n:Nat):CT:=cX (tW n [] [bp n,bf n,oD n,dh n]) ⟨208,[], .cons dA (.cons (.v (.int .u32)) (.cons (.v (.st 6)) .nil)), .cons (.jy .nil) (.cons dA .nil),[some 0,none],(.cons (.jS 31 (.v (.int .i64))) .nil),[],[[0]]⟩ (λx=>gh n (g7 x) x.2.2.2.2.2.2.2.1 x.2.2.2.2.2.2.2.2.1) (λy=>g7 y) (λz=>(h7 z ())) u1 m1
def dw(n:Nat)(a0:aq):Option (Except Int (ah×aq)):=bd (pc n (wr .i64 (if 129<a0.c.A then 129 else a0.c.A)) (wr .i64 (if 9<a0.c.B then 9 else a0.c.B))) λaA=>tc aA.2 (.error 2)<|tr (bG n a0 a0.c.R 1) (λHh=>(.error Hh)) λ_=>tr (eK n a0 a0.c.R) (λK0=>(.error K0)) λcB=>lt (λ(jx:aL) (gR:aq)=>bd (gL n jx.E (wr .i64 (if 129<a0.c.A then 129 else a0.c.A)) (wr .i64 (if 9<a0.c.B then 9 else a0.c.B))) λC3=>lt ({jx with E:=C3.1}:aL) λXq=>tr (gh n gR gR.c.R Xq) (λVr=>(.error Vr)) λFW=>lt ({E:=0,V:=wr .u64 C3.2.1,W:=0}:ah) λx99=>some (.ok (x99,FW))) λj45=>bd (gj n cB.E (wr .i64 (if 129<a0.c.A then 129 else a0.c.A)) (wr .i64 (if 9<a0.c.B then 9 else a0.c.B))) λzW=>cn ((!zW.2)) (bd (cR n cB.E) λC4=>tc (decide ((wr .i64 (C4+aA.1))<=cB.gD)) (.error 6)<|cn (({a0 with kN:=aA.1}).ze) (lt ({E:=0,V:=0,W:=0}:ah) λFY=>some (.ok (FY,{a0 with kN:=aA.1}))) (bd (fk n cB.E (({a0 with kN:=aA.1}).run)) λzF=>lt ({cB with E:=zF}:aL) λJP=>cl (((({a0 with kN:=aA.1}).run.N)==aA.1)==true) (fO n JP.E) default λNb=>tc (((({a0 with kN:=aA.1}).run.N)==aA.1)&&Nb) (.error 2)<|j45 JP ({a0 with kN:=aA.1}))) (j45 cB a0)
def qw(n:Nat):CT:=cX (tW n [(28, .join [(.via 7, .box 69 (.v (.st 6))),(.via 0,dA),(.via 2, .box 55 (.v (.st 2)))] [])] [bp n,bf n,Gc n,cC n,iB n,qx n,iC n,yq n,rH n,Ab n,sO n]) ⟨178,[], .cons dA .nil, .cons (.v (.st 2)) (.cons dA .nil),[some 0,none],(.cons (.jS 31 (.v (.int .i64))) .nil),[],[[0]]⟩ (λx=>dw n (g7 x)) (λy=>(y.1,g7 y.2)) (λz=>(z.1,(h7 z.2 ()))) u1 m1
def qB(n:Nat)(a0:aL)(a1:aC):Option (Except Int Unit):=tc (decide ((wr .i64 a1.A)<=(wr .i64 (a0.E.dZ-(wr .i64 a1.B))))) (.error 9)<|some (.ok ())
def AE(n:Nat):CT:=cT (tW n [] [bp n,bf n]) 210 [.s 6, .s 3] [.jy .nil] 31 (a2 (qB n)) (λ_ =>()) (λ_ =>())
def qA(n:Nat)(a0:aC):Option (Except Int Unit):=tc (decide (1<=a0.B)&&decide (a0.B<=8)) (.error 2)<|some (.ok ())
def AB(n:Nat):CT:=cT (tW n [] [bp n,bf n]) 209 [.s 3] [.jy .nil] 31 (a1 (qA n)) (λ_ =>()) (λ_ =>())
def gK(n:Nat)(a0:aq):Option (Except Int ah):=tr (qA n a0.c) (λnX=>(.error nX)) λ_=>tr (bG n a0 a0.c.R 0) (λyZ=>(.error yZ)) λ_=>tr (eK n a0 a0.c.R) (λHh=>(.error Hh)) λbS=>tr (qB n bS a0.c) (λacN=>(.error acN)) λ_=>lt ({E:=0,V:=0,W:=0}:ah) λjo=>some (.ok jo)
def rz(n:Nat):CT:=cX (tW n [] [bp n,bf n,AB n,cC n,iB n,AE n]) ⟨179,[(212, .st (.part 952 (.v (.st 19)) (.part 1 (.v (.int .i64)) (.part 6 (.v (.st 3)) (.part 2 (.v (.st 4)) (.part 1 (.v (.int .i64)) (.part 1 (.v .bool) (.part 1 (.row 158 2 (.st 4)) .nil))))))))], .cons (.bU 0) .nil, .cons (.v (.st 2)) .nil,[],(.cons (.jS 31 (.v (.int .i64))) .nil),[],[]⟩ (λx=>gK n (g7 x)) u1 m1 u1 m1
def ga(n:Nat)(a0:aq):Option (Except Int ah):=tr (qA n a0.c) (λnX=>(.error nX)) λ_=>tr (bG n a0 a0.c.R 1) (λyZ=>(.error yZ)) λ_=>tr (eK n a0 a0.c.R) (λHh=>(.error Hh)) λbS=>tr (qB n bS a0.c) (λacN=>(.error acN)) λ_=>lt ({E:=0,V:=0,W:=0}:ah) λjo=>some (.ok jo)
def qj(n:Nat):CT:=cX (tW n [] [bp n,bf n,AB n,cC n,iB n,AE n]) ⟨180,[(212, .st (.part 952 (.v (.st 19)) (.part 1 (.v (.int .i64)) (.part 6 (.v (.st 3)) (.part 2 (.v (.st 4)) (.part 1 (.v (.int .i64)) (.part 1 (.v .bool) (.part 1 (.row 158 2 (.st 4)) .nil))))))))], .cons (.bU 0) .nil, .cons (.v (.st 2)) .nil,[],(.cons (.jS 31 (.v (.int .i64))) .nil),[],[]⟩ (λx=>ga n (g7 x)) u1 m1 u1 m1
def nQ(n:Nat)(a0:aq):Option (Except Int (ah×aq)):=tr (bG n a0 a0.c.R 1) (λnX=>(.error nX)) λ_=>tr (eK n a0 a0.c.R) (λyZ=>(.error yZ)) λaQ=>gu (gC a0.fF.length aQ.E.aK.length 16)<|lt (a0.fF++aQ.E.aK:List av) λfR=>lt ({Up:=0,gD:=aQ.gD,E:=cE,qP:=(λ_ =>0)}:aL) λgF=>tr (gh n ({a0 with fF:=fR}) (({a0 with fF:=fR}).c.R) gF) (λaib=>(.error aib)) λvZ=>lt ({E:=0,V:=0,W:=0}:ah) λqc=>some (.ok (qc,vZ))
def qo(n:Nat):CT:=cX (tW n [] [bp n,bf n,cC n,iB n,sO n]) ⟨181,[], .cons dA .nil, .cons (.v (.st 2)) (.cons dA .nil),[some 0,none],(.cons (.jS 31 (.v (.int .i64))) .nil),[],[[0]]⟩ (λx=>nQ n (g7 x)) (λy=>(y.1,g7 y.2)) (λz=>(z.1,(h7 z.2 ()))) u1 m1
def nf(n:Nat)(a0:aq):Option (Except Int (ah×aq)):=tr (bG n a0 a0.c.R 2) (λnX=>(.error nX)) λ_=>bd (iZ n a0 a0.c.R) λaQ=>lt ({E:=0,V:=0,W:=0}:ah) λeV=>some (.ok (eV,aQ))
def pL(n:Nat):CT:=cX (tW n [] [bp n,bf n,cC n,mX n]) ⟨182,[], .cons dA .nil, .cons (.v (.st 2)) (.cons dA .nil),[some 0,none],(.cons (.jS 31 (.v (.int .i64))) .nil),[],[[0]]⟩ (λx=>nf n (g7 x)) (λy=>(y.1,g7 y.2)) (λz=>(z.1,(h7 z.2 ()))) u1 m1
def lA(n:Nat)(a0:aq)(a1:Int):Option (Except Int aq):=bd (G7 n a0.aH.dH.T a1) λbS=>tr (dK n bS.2) (λOk=>(.error Ok)) λ_=>some (.ok ({a0 with aH:={a0.aH with dH:={a0.aH.dH with T:=bS.1}}}))
def mW(n:Nat):CT:=cX (tW n [] [bp n,bf n,JZ n,dh n]) ⟨213,[], .cons dA (.cons (.v (.int .u32)) .nil), .cons (.jy .nil) (.cons dA .nil),[some 0,none],(.cons (.jS 31 (.v (.int .i64))) .nil),[],[[0]]⟩ (λx=>lA n (g7 x) x.2.2.2.2.2.2.2.1) (λy=>g7 y) (λz=>(h7 z ())) u1 m1
def pU(n:Nat)(a0:aq):Option (Except Int (ah×aq)):=tr (bG n a0 a0.c.R 2) (λnX=>(.error nX)) λ_=>bd (jd n a0.aH.dH.T a0.c.R) λcB=>tc (cB !=a0.c.R) (.error 12)<|tr (lA n a0 a0.c.R) (λacO=>(.error acO)) λeP=>tr (iX n eP eP.c.R eP.fL) (λaie=>(.error aie)) λdV=>lt ({E:=0,V:=0,W:=0}:ah) λzW=>some (.ok (zW,dV))
def sR(n:Nat):CT:=cX (tW n [] [bp n,bf n,cC n,gZ n,mW n,jF n]) ⟨183,[], .cons dA .nil, .cons (.v (.st 2)) (.cons dA .nil),[some 0,none],(.cons (.jS 31 (.v (.int .i64))) .nil),[],[[0]]⟩ (λx=>pU n (g7 x)) (λy=>(y.1,g7 y.2)) (λz=>(z.1,(h7 z.2 ()))) u1 m1
def nR(n:Nat)(a0:aq):Option (Except Int (ah×aq)):=tr (bG n a0 a0.c.R 2) (λnX=>(.error nX)) λ_=>tr (bG n a0 a0.c.S 1) (λyZ=>(.error yZ)) λ_=>bd (Cz n a0.aH.dH.T a0.c.R a0.c.S) λdS=>tr (dK n dS.2) (λaih=>(.error aih)) λ_=>lt ({E:=0,V:=0,W:=0}:ah) λjk=>some (.ok (jk,{a0 with aH:={a0.aH with dH:={a0.aH.dH with T:=dS.1}}}))
def qp(n:Nat):CT:=cX (tW n [] [bp n,bf n,cC n,Ga n,dh n]) ⟨184,[], .cons dA .nil, .cons (.v (.st 2)) (.cons dA .nil),[some 0,none],(.cons (.jS 31 (.v (.int .i64))) .nil),[],[[0]]⟩ (λx=>nR n (g7 x)) (λy=>(y.1,g7 y.2)) (λz=>(z.1,(h7 z.2 ()))) u1 m1
def nc(n:Nat)(a0:aq):Option (Except Int (ah×aq)):=tr (bG n a0 a0.c.R 2) (λnX=>(.error nX)) λ_=>tr (lA n a0 a0.c.R) (λyZ=>(.error yZ)) λaQ=>bd (xo n aQ.aH.dH.O aQ.aH.dH.T aQ.c.R aQ.fL) λfR=>tr (dK n fR.2) (λacM=>(.error acM)) λ_=>lt ({E:=0,V:=0,W:=0}:ah) λmU=>some (.ok (mU,{aQ with aH:={aQ.aH with dH:={aQ.aH.dH with O:=fR.1}}}))
def pK(n:Nat):CT:=cX (tW n [] [bp n,bf n,cC n,mW n,BX n,dh n]) ⟨185,[], .cons dA .nil, .cons (.v (.st 2)) (.cons dA .nil),[some 0,none],(.cons (.jS 31 (.v (.int .i64))) .nil),[],[[0]]⟩ (λx=>nc n (g7 x)) (λy=>(y.1,g7 y.2)) (λz=>(z.1,(h7 z.2 ()))) u1 m1
def ku(n:Nat)(a0:aq)(a1:Int):Option (Except Int Unit):=bd (aJ n a0.aH.dH.T.fE.kS a1) λaA=>tc aA (.error 4)<|bd (jV n a0.aH.dH.O a0.aH.dH.T a1) λdS=>bd (jd n a0.aH.dH.T a1) λeH=>tc ((eH==a1)&&(dS.xU==3)) (.error 12)<|gu (decide (0<=a0.fL))<|tc ((rZ .u8 (Ae .u8 dS.jj a0.fL) 1)==1) (.error 5)<|some (.ok ())
def lQ(n:Nat):CT:=cX (tW n [] [bp n,bf n,aR n,jq n,gZ n]) ⟨217,[(212, .st (.part 952 (.v (.st 19)) (.part 1 (.v (.int .i64)) (.part 6 (.v (.st 3)) (.part 2 (.v (.st 4)) (.part 1 (.v (.int .i64)) (.part 1 (.v .bool) (.part 1 (.row 158 2 (.st 4)) .nil))))))))], .cons (.bU 0) (.cons (.v (.int .u32)) .nil), .cons (.jy .nil) .nil,[],(.cons (.jS 31 (.v (.int .i64))) .nil),[],[]⟩ (λx=>ku n (g7 x) x.2.2.2.2.2.2.2.1) (λ_ =>()) (λ_ =>()) u1 m1
def iv(n:Nat)(a0:aq)(a1:Int):Option (Except Int Unit):=gu (!((decide (a1<8))==true)||dg a1 8)<|tc (decide (a1<8)&&(a0.aH.mF (Int.toNat a1))) (.error 2)<|some (.ok ())
def iR(n:Nat):CT:=cX (tW n [] [bp n,bf n]) ⟨216,[(212, .st (.part 952 (.v (.st 19)) (.part 1 (.v (.int .i64)) (.part 6 (.v (.st 3)) (.part 2 (.v (.st 4)) (.part 1 (.v (.int .i64)) (.part 1 (.v .bool) (.part 1 (.row 158 2 (.st 4)) .nil))))))))], .cons (.bU 0) (.cons (.v (.int .u32)) .nil), .cons (.jy .nil) .nil,[],(.cons (.jS 31 (.v (.int .i64))) .nil),[],[]⟩ (λx=>iv n (g7 x) x.2.2.2.2.2.2.2.1) (λ_ =>()) (λ_ =>()) u1 m1
def nP(n:Nat)(a0:aq):Option (Except Int (ah×aq)):=tr (iv n a0 a0.c.A) (λnX=>(.error nX)) λ_=>tr (ku n a0 a0.c.R) (λyZ=>(.error yZ)) λ_=>bd (uS n a0.aH.dH.O a0.aH.dH.T a0.c.R (wr .i64 a0.c.A)) λdS=>tr (dK n dS.2) (λacO=>(.error acO)) λ_=>lt ({E:=0,V:=0,W:=0}:ah) λep=>some (.ok (ep,{a0 with aH:={a0.aH with dH:={a0.aH.dH with O:=dS.1}}}))
def qn(n:Nat):CT:=cX (tW n [] [bp n,bf n,iR n,lQ n,w8 n,dh n]) ⟨186,[], .cons dA .nil, .cons (.v (.st 2)) (.cons dA .nil),[some 0,none],(.cons (.jS 31 (.v (.int .i64))) .nil),[],[[0]]⟩ (λx=>nP n (g7 x)) (λy=>(y.1,g7 y.2)) (λz=>(z.1,(h7 z.2 ()))) u1 m1
def oY(n:Nat)(a0:aq):Option (Except Int (ah×aq)):=tr (ku n a0 a0.c.R) (λnX=>(.error nX)) λ_=>tr (nS n a0 a0.c.R a0.fL) (λyZ=>(.error yZ)) λaQ=>lt ({E:=0,V:=0,W:=0}:ah) λeV=>some (.ok (eV,aQ))
def rD(n:Nat):CT:=cX (tW n [] [bp n,bf n,lQ n,qt n]) ⟨187,[], .cons dA .nil, .cons (.v (.st 2)) (.cons dA .nil),[some 0,none],(.cons (.jS 31 (.v (.int .i64))) .nil),[],[[0]]⟩ (λx=>oY n (g7 x)) (λy=>(y.1,g7 y.2)) (λz=>(z.1,(h7 z.2 ()))) u1 m1
def oV(n:Nat)(a0:aq):Option (Except Int (ah×aq)):=tr (iv n a0 a0.c.A) (λnX=>(.error nX)) λ_=>tc (decide (a0.c.B<=1)) (.error 2)<|bd (aJ n a0.aH.dH.T.fE.kS a0.c.R) λbS=>tc bS (.error 4)<|lt (λ(u25:Unit)=>lt ({Region:=a0.c.R,By:=wr .u8 a0.fL,To:=wr .u8 a0.c.A,mT:=(a0.c.B==1),uK:=a0.c.S}:bB) λcJ=>bd (uh n a0.aH.dH.K cJ) λfR=>tr (dK n fR.2.2) (λacM=>(.error acM)) λ_=>lt ({E:=0,V:=0,W:=fR.2.1}:ah) λmU=>some (.ok (mU,{a0 with aH:={a0.aH with dH:={a0.aH.dH with K:=fR.1}}}))) λj26=>cn ((a0.c.S==0)) (bd (jV n a0.aH.dH.O a0.aH.dH.T a0.c.R) λgM=>tc ((gM.xU==1)&&((wr .i64 gM.jU)==a0.fL)) (.error 5)<|j26 ()) (bd (cW n a0.aH.dH.K a0.c.S) λdP=>tr (dK n dP.2) (λOk=>(.error Ok)) λ_=>tc (((wr .i64 dP.1.To)==a0.fL)&&(dP.1.Region==a0.c.R)) (.error 5)<|j26 ())
def rA(n:Nat):CT:=cX (tW n [(20, .join [] [])] [bp n,bf n,iR n,aR n,jq n,ez n,dh n,zZ n]) ⟨188,[], .cons dA .nil, .cons (.v (.st 2)) (.cons dA .nil),[some 0,none],(.cons (.jS 31 (.v (.int .i64))) .nil),[],[[0]]⟩ (λx=>oV n (g7 x)) (λy=>(y.1,g7 y.2)) (λz=>(z.1,(h7 z.2 ()))) u1 m1
def lf(n:Nat)(a0:aq):Option (Except Int (ah×aq)):=bd (cW n a0.aH.dH.K a0.c.S) λaA=>tr (dK n aA.2) (λyZ=>(.error yZ)) λ_=>tc ((wr .i64 aA.1.To)==a0.fL) (.error 5)<|bd (gS n a0.aH.dH.K a0.c.S) λcB=>lt ({E:=0,V:=0,W:=0}:ah) λcJ=>some (.ok (cJ,{a0 with aH:={a0.aH with dH:={a0.aH.dH with K:=cB.1}}}))
def n9(n:Nat):CT:=cX (tW n [] [bp n,bf n,ez n,dh n,pJ n]) ⟨189,[], .cons dA .nil, .cons (.v (.st 2)) (.cons dA .nil),[some 0,none],(.cons (.jS 31 (.v (.int .i64))) .nil),[],[[0]]⟩ (λx=>lf n (g7 x)) (λy=>(y.1,g7 y.2)) (λz=>(z.1,(h7 z.2 ()))) u1 m1
def Co(n:Nat)(a0:cm)(a1:aS):Option (cm×Int):=cn (a0.closed) (some (a0,11)) (cn ((a0.n==4)) (some (a0,7)) (bd (uz n a0 a0.n) λaA=>gu (dg aA 4)<|lt ({a0 with ring:=(iD a0.ring (Int.toNat aA) a1)}:cm) λbS=>lt ({bS with n:=wr .i64 (bS.n+1)}:cm) λcB=>some (cB,0)))
def F8(n:Nat):CT:=cV (tW n [] [uO n]) (kD 224 [.s 18, .s 17] [.t [.s 18, .i]]) (a2 (Co n)) u2 m2
def oU(n:Nat)(a0:aq):Option (Except Int (ah×aq)):=tr (iv n a0 a0.c.A) (λnX=>(.error nX)) λ_=>tc (decide (a0.c.B<=1)) (.error 2)<|lt ({H8:=wr .u8 a0.fL,ID:=a0.c.V,Region:=a0.c.R,zn:=((a0.c.R !=0)&&(a0.c.B==1))}:aS) λbS=>lt (λ(eP:aq)=>gu (dg eP.c.A 8)<|bd (Co n (eP.aH.kR (Int.toNat eP.c.A)) bS) λzF=>tr (dK n zF.2) (λah9=>(.error ah9)) λ_=>gu (dg eP.c.A 8)<|lt ({E:=0,V:=0,W:=0}:ah) λSv=>some (.ok (Sv,{eP with aH:={eP.aH with kR:=(iD eP.aH.kR (Int.toNat eP.c.A) zF.1)}}))) λXd=>cn (bS.zn) (tr (ku n a0 a0.c.R) (λaii=>(.error aii)) λ_=>bd (uS n a0.aH.dH.O a0.aH.dH.T a0.c.R (wr .i64 a0.c.A)) λjx=>cn ((jx.2==0)) (Xd ({a0 with aH:={a0.aH with dH:={a0.aH.dH with O:=jx.1}}})) (Xd a0)) (cn ((a0.c.R !=0)) (tr (bG n a0 a0.c.R 2) (λaid=>(.error aid)) λ_=>tr (lA n a0 a0.c.R) (λaic=>(.error aic)) λgF=>bd (Cg n gF.aH.dH.O gF.aH.dH.T gF.c.R) λlu=>tr (dK n lu.2) (λaia=>(.error aia)) λ_=>Xd ({gF with aH:={gF.aH with dH:={gF.aH.dH with O:=lu.1}}})) (Xd a0))
def ru(n:Nat):CT:=cX (tW n [(30, .join [(.via 0,dA)] [])] [bp n,bf n,iR n,lQ n,w8 n,cC n,mW n,F5 n,dh n,F8 n]) ⟨190,[], .cons dA .nil, .cons (.v (.st 2)) (.cons dA .nil),[some 0,none],(.cons (.jS 31 (.v (.int .i64))) .nil),[],[[0]]⟩ (λx=>oU n (g7 x)) (λy=>(y.1,g7 y.2)) (λz=>(z.1,(h7 z.2 ()))) u1 m1
def AN(n:Nat)(a0:cm):Option (cm×aS×Int):=cn (((a0.n==0)&&a0.closed)) (lt ({H8:=0,ID:=0,Region:=0,zn:=false}:aS) λaA=>some (a0,aA,11)) (cn ((a0.n==0)) (lt ({H8:=0,ID:=0,Region:=0,zn:=false}:aS) λaQ=>some (a0,aQ,10)) (gu (dg a0.xx 4)<|lt ((a0.ring (Int.toNat a0.xx)):aS) λcB=>bd (uz n a0 1) λdS=>lt ({a0 with xx:=dS}:cm) λeP=>lt ({eP with n:=wr .i64 (a0.n-1)}:cm) λdk=>some (dk,cB,0)))
def ES(n:Nat):CT:=cV (tW n [] [uO n]) (kD 225 [.s 18] [.t [.s 18, .s 17, .i]]) (a1 (AN n)) u3 m3
def iW(n:Nat)(a0:aq):Option (Except Int (ah×aq)):=gu (dg a0.fL 8)<|bd (AN n (a0.aH.kR (Int.toNat a0.fL))) λaQ=>tr (dK n aQ.2.2) (λHh=>(.error Hh)) λ_=>gu (dg a0.fL 8)<|cn (((aQ.2.1.Region !=0)&&(!aQ.2.1.zn))) (tr (iX n ({a0 with aH:={a0.aH with kR:=(iD a0.aH.kR (Int.toNat a0.fL) aQ.1)}}) aQ.2.1.Region (({a0 with aH:={a0.aH with kR:=(iD a0.aH.kR (Int.toNat a0.fL) aQ.1)}}).fL)) (λaij=>(.error aij)) λeH=>lt ({E:=0,V:=aQ.2.1.ID,W:=aQ.2.1.Region}:ah) λgR=>some (.ok (gR,eH))) (lt ({E:=0,V:=aQ.2.1.ID,W:=aQ.2.1.Region}:ah) λgF=>some (.ok (gF,{a0 with aH:={a0.aH with kR:=(iD a0.aH.kR (Int.toNat a0.fL) aQ.1)}})))
def ry(n:Nat):CT:=cX (tW n [] [bp n,bf n,ES n,dh n,jF n]) ⟨191,[], .cons dA .nil, .cons (.v (.st 2)) (.cons dA .nil),[some 0,none],(.cons (.jS 31 (.v (.int .i64))) .nil),[],[[0]]⟩ (λx=>iW n (g7 x)) (λy=>(y.1,g7 y.2)) (λz=>(z.1,(h7 z.2 ()))) u1 m1
def yM(n:Nat)(a0:cm):Option (cm×Int):=cn (a0.closed) (some (a0,11)) (lt ({a0 with closed:=true}:cm) λaA=>some (aA,0))
def Dl(n:Nat):CT:=cV (tW n [] []) (kD 226 [.s 18] [.t [.s 18, .i]]) (a1 (yM n)) u2 m2
def nU(n:Nat)(a0:aq):Option (Except Int (ah×aq)):=gu (dg a0.fL 8)<|bd (yM n (a0.aH.kR (Int.toNat a0.fL))) λaQ=>tr (dK n aQ.2) (λHh=>(.error Hh)) λ_=>gu (dg a0.fL 8)<|lt ({E:=0,V:=0,W:=0}:ah) λeH=>some (.ok (eH,{a0 with aH:={a0.aH with kR:=(iD a0.aH.kR (Int.toNat a0.fL) aQ.1)}}))
def qv(n:Nat):CT:=cX (tW n [] [bp n,bf n,Dl n,dh n]) ⟨192,[], .cons dA .nil, .cons (.v (.st 2)) (.cons dA .nil),[some 0,none],(.cons (.jS 31 (.v (.int .i64))) .nil),[],[[0]]⟩ (λx=>nU n (g7 x)) (λy=>(y.1,g7 y.2)) (λz=>(z.1,(h7 z.2 ()))) u1 m1
def pT(n:Nat)(a0:aq):Option (Except Int (ah×aq)):=tr (bG n a0 a0.c.R 1) (λnX=>(.error nX)) λ_=>lt (λ(u22:Unit)=>bd (jV n a0.aH.dH.O a0.aH.dH.T a0.c.S) λgM=>bd (MJ n a0.aH.dH.T a0.c.R (wr .i64 (if 8<a0.c.A then 8 else a0.c.A)) a0.c.S (gM.xU==3)) λep=>tr (dK n ep.2) (λacL=>(.error acL)) λ_=>lt ({E:=0,V:=0,W:=0}:ah) λv5=>some (.ok (v5,{a0 with aH:={a0.aH with dH:={a0.aH.dH with T:=ep.1}}}))) λj23=>cn ((a0.c.S !=0)) (tr (bG n a0 a0.c.S 0) (λK0=>(.error K0)) λ_=>j23 ()) (j23 ())
def sP(n:Nat):CT:=cX (tW n [(8, .join [(.via 0,dA)] [])] [bp n,bf n,cC n,jq n,Ni n,dh n]) ⟨193,[], .cons dA .nil, .cons (.v (.st 2)) (.cons dA .nil),[some 0,none],(.cons (.jS 31 (.v (.int .i64))) .nil),[],[[0]]⟩ (λx=>pT n (g7 x)) (λy=>(y.1,g7 y.2)) (λz=>(z.1,(h7 z.2 ()))) u1 m1
def nT(n:Nat)(a0:aq):Option (Except Int ah):=tr (bG n a0 a0.c.R 0) (λnX=>(.error nX)) λ_=>bd (Ht n a0.aH.dH.T a0.c.R (wr .i64 (if 8<a0.c.A then 8 else a0.c.A))) λcB=>tr (dK n cB.2) (λacP=>(.error acP)) λ_=>lt ({E:=0,V:=0,W:=cB.1}:ah) λeP=>some (.ok eP)
def qu(n:Nat):CT:=cX (tW n [] [bp n,bf n,cC n,J4 n,dh n]) ⟨194,[(212, .st (.part 952 (.v (.st 19)) (.part 1 (.v (.int .i64)) (.part 6 (.v (.st 3)) (.part 2 (.v (.st 4)) (.part 1 (.v (.int .i64)) (.part 1 (.v .bool) (.part 1 (.row 158 2 (.st 4)) .nil))))))))], .cons (.bU 0) .nil, .cons (.v (.st 2)) .nil,[],(.cons (.jS 31 (.v (.int .i64))) .nil),[],[]⟩ (λx=>nT n (g7 x)) u1 m1 u1 m1
def oX(n:Nat)(a0:aq):Option (Except Int (ah×aq)):=tr (oZ n a0 a0.fL) (λnX=>(.error nX)) λaA=>lt ({E:=0,V:=0,W:=0}:ah) λjo=>some (.ok (jo,aA))
def rC(n:Nat):CT:=cX (tW n [] [bp n,bf n,rE n]) ⟨195,[], .cons dA .nil, .cons (.v (.st 2)) (.cons dA .nil),[some 0,none],(.cons (.jS 31 (.v (.int .i64))) .nil),[],[[0]]⟩ (λx=>oX n (g7 x)) (λy=>(y.1,g7 y.2)) (λz=>(z.1,(h7 z.2 ()))) u1 m1
def oW(n:Nat)(a0:aq):Option (Except Int (ah×aq)):=tr (iv n a0 a0.c.A) (λnX=>(.error nX)) λ_=>tr (oZ n a0 (wr .i64 a0.c.A)) (λyZ=>(.error yZ)) λaQ=>lt ({E:=0,V:=0,W:=0}:ah) λeV=>some (.ok (eV,aQ))
def rB(n:Nat):CT:=cX (tW n [] [bp n,bf n,iR n,rE n]) ⟨196,[], .cons dA .nil, .cons (.v (.st 2)) (.cons dA .nil),[some 0,none],(.cons (.jS 31 (.v (.int .i64))) .nil),[],[[0]]⟩ (λx=>oW n (g7 x)) (λy=>(y.1,g7 y.2)) (λz=>(z.1,(h7 z.2 ()))) u1 m1
def nO(n:Nat)(a0:aq):Option (Except Int (ah×aq)):=gu (!((decide (a0.c.A<8))==true)||dg (Int.tmod a0.c.A 8) 8)<|tc (decide (a0.c.A<8)&&(!(a0.aH.Ft (Int.toNat (Int.tmod a0.c.A 8))))) (.error 2)<|gu (dg a0.c.A 8)<|gu (dg a0.c.A 8)<|lt ({E:=0,V:=0,W:=0}:ah) λdP=>some (.ok (dP,{({a0 with aH:={a0.aH with mF:=(iD a0.aH.mF (Int.toNat a0.c.A) true)}})with aH:={({a0 with aH:={a0.aH with mF:=(iD a0.aH.mF (Int.toNat a0.c.A) true)}}).aH with Ft:=(iD ((({a0 with aH:={a0.aH with mF:=(iD a0.aH.mF (Int.toNat a0.c.A) true)}}).aH).Ft) (Int.toNat a0.c.A) true)}}))
def qm(n:Nat):CT:=cX (tW n [] [bp n,bf n]) ⟨197,[], .cons dA .nil, .cons (.v (.st 2)) (.cons dA .nil),[some 0,none],(.cons (.jS 31 (.v (.int .i64))) .nil),[],[[0]]⟩ (λx=>nO n (g7 x)) (λy=>(y.1,g7 y.2)) (λz=>(z.1,(h7 z.2 ()))) u1 m1
end
end Go.Proofs.Z
namespace Go.Proofs.Z
open Go Go.Bw Go.Rw Go.RowKit
abbrev aah:=Nat->aq->Option (Except Int (ah×aq))
def GJ(g:Nat->aq->Option (Except Int ah)):aah:=λn a=>match g n a with
 |some (.ok r)=>some (.ok (r,a))
 |some (.error e)=>some (.error e)
 |none=>none
def MA:List (Int×Nat×aah):=[(1,177,ij),(2,178,dw),(3,179,GJ gK),(4,180,GJ ga),(5,181,nQ),(6,182,nf),(7,183,pU),(8,184,nR),(9,185,nc),(10,186,nP),(11,187,oY),(12,188,oV),(13,189,lf),(14,190,oU),(15,191,iW),(16,191,iW),(17,192,nU),(18,193,pT),(19,194,GJ nT),(20,195,oX),(21,196,oW),(22,197,nO)]
def Hl(k:Int):Option (Int×Nat×aah):=MA.find? λx=>k==x.1
def bO(n:Nat)(a0:aq):Option (ah×Option aq):=
 gu (!((decide (0<=a0.fL)&&decide (a0.fL<8))==true)||dg (rZ .i64 a0.fL 7) 8)<|
 tc ((decide (0<=a0.fL)&&decide (a0.fL<8))&&(a0.aH.mF (Int.toNat (rZ .i64 a0.fL 7)))) (⟨12,0,0⟩,none)<|
 match Hl a0.c.Do with
 |none=>some (⟨2,0,0⟩,none)
 |some x=>tr (x.2.2 n a0) (λe=>(⟨e,0,0⟩,none)) λy=>some (y.1,some y.2)
def mC{Z:Type}(m:Option (Except Int (ah×aq)))(KO:ah->aq->Option Z)(KE:Int->Option Z):Option Z:=bd m λr=>match r with
 | .ok z=>KO z.1 z.2
 | .error e=>KE e
def kC{Z:Type}(m:Option (Except Int ah))(a:aq)(KO:ah->aq->Option Z)(KE:Int->Option Z):Option Z:=bd m λr=>match r with
 | .ok z=>KO z a
 | .error e=>KE e
def cD{Z:Type}(n:Nat)(a:aq)(KO:ah->aq->Option Z)(KM KK:Int->Option Z)(KN:Option Z):Option Z:=cn (a.c.Do==1) (mC (ij n a) KO KM)<|cn (a.c.Do==2) (mC (dw n a) KO KM)<|cn (a.c.Do==3) (kC (gK n a) a KO KK)<|cn (a.c.Do==4) (kC (ga n a) a KO KK)<|cn (a.c.Do==5) (mC (nQ n a) KO KM)<|cn (a.c.Do==6) (mC (nf n a) KO KM)<|cn (a.c.Do==7) (mC (pU n a) KO KM)<|cn (a.c.Do==8) (mC (nR n a) KO KM)<|cn (a.c.Do==9) (mC (nc n a) KO KM)<|cn (a.c.Do==10) (mC (nP n a) KO KM)<|cn (a.c.Do==11) (mC (oY n a) KO KM)<|cn (a.c.Do==12) (mC (oV n a) KO KM)<|cn (a.c.Do==13) (mC (lf n a) KO KM)<|cn (a.c.Do==14) (mC (oU n a) KO KM)<|cn (a.c.Do==15) (mC (iW n a) KO KM)<|cn (a.c.Do==16) (mC (iW n a) KO KM)<|cn (a.c.Do==17) (mC (nU n a) KO KM)<|cn (a.c.Do==18) (mC (pT n a) KO KM)<|cn (a.c.Do==19) (kC (nT n a) a KO KK)<|cn (a.c.Do==20) (mC (oX n a) KO KM)<|cn (a.c.Do==21) (mC (oW n a) KO KM)<|cn (a.c.Do==22) (mC (nO n a) KO KM)<|KN
def cA{Z:Type}(n:Nat)(a:aq)(KO:ah->aq->Option Z)(KM KK:Int->Option Z)(KN KA:Option Z):Option Z:=gu (!((decide (0<=a.fL)&&decide (a.fL<8))==true)||dg (rZ .i64 a.fL 7) 8)<|cn ((decide (0<=a.fL)&&decide (a.fL<8))&&(a.aH.mF (Int.toNat (rZ .i64 a.fL 7)))) (cD n a KO KM KK KN) KA
theorem oI{Z:Type}{m:Option (Except Int (ah×aq))}{K:ah×Option aq->Option Z}{z:Z}(h:bd (tr m (λe=>(⟨e,0,0⟩,none)) λy=>some (y.1,some y.2)) K=some z):mC m (λr c=>K (r,some c)) (λe=>K (⟨e,0,0⟩,none))=some z:=by
 cases m with
 |none=>cases h
 |some r=>cases r<;>exact h
theorem S5{Z:Type}{g:Nat->aq->Option (Except Int ah)}{n:Nat}{a:aq}{K:ah×Option aq->Option Z}{KK:Int->Option Z}{z:Z}(hk:∀e,K (⟨e,0,0⟩,none)=some z->KK e=some z)(h:bd (tr (GJ g n a) (λe=>(⟨e,0,0⟩,none)) λy=>some (y.1,some y.2)) K=some z):kC (g n a) a (λr c=>K (r,some c)) KK=some z:=by
 unfold GJ at h;cases hm:g n a with
 |none=>rw[hm]at h;cases h
 |some r=>rw[hm]at h;cases r with
  |ok r=>exact h
  |error e=>exact hk e h
theorem age{Z:Type}{n:Nat}{a:aq}{K:ah×Option aq->Option Z}{KK:Int->Option Z}{z:Z}(hk:∀e,K (⟨e,0,0⟩,none)=some z->KK e=some z)(h:bd (match Hl a.c.Do with
  |none=>some (⟨2,0,0⟩,none)
  |some x=>tr (x.2.2 n a) (λe=>(⟨e,0,0⟩,none)) λy=>some (y.1,some y.2)) K=some z):cD n a (λr c=>K (r,some c)) (λe=>K (⟨e,0,0⟩,none)) KK (K (⟨2,0,0⟩,none))=some z:=by
 unfold Hl MA at h;unfold cD;rw[List.find?_cons]at h;dsimp only at h;cases h0:(a.c.Do==1)with
 |true=>rw[h0]at h;exact oI h
 |false=>
 rw[h0]at h;refine(rfl:cn false _ _ =_).trans ?_;rw[List.find?_cons]at h;dsimp only at h;cases h1:(a.c.Do==2)with
 |true=>rw[h1]at h;exact oI h
 |false=>
 rw[h1]at h;refine(rfl:cn false _ _ =_).trans ?_;rw[List.find?_cons]at h;dsimp only at h;cases h2:(a.c.Do==3)with
 |true=>rw[h2]at h;exact S5 hk h
 |false=>
 rw[h2]at h;refine(rfl:cn false _ _ =_).trans ?_;rw[List.find?_cons]at h;dsimp only at h;cases h3:(a.c.Do==4)with
 |true=>rw[h3]at h;exact S5 hk h
 |false=>
 rw[h3]at h;refine(rfl:cn false _ _ =_).trans ?_;rw[List.find?_cons]at h;dsimp only at h;cases h4:(a.c.Do==5)with
 |true=>rw[h4]at h;exact oI h
 |false=>
 rw[h4]at h;refine(rfl:cn false _ _ =_).trans ?_;rw[List.find?_cons]at h;dsimp only at h;cases h5:(a.c.Do==6)with
 |true=>rw[h5]at h;exact oI h
 |false=>
 rw[h5]at h;refine(rfl:cn false _ _ =_).trans ?_;rw[List.find?_cons]at h;dsimp only at h;cases h6:(a.c.Do==7)with
 |true=>rw[h6]at h;exact oI h
 |false=>
 rw[h6]at h;refine(rfl:cn false _ _ =_).trans ?_;rw[List.find?_cons]at h;dsimp only at h;cases h7:(a.c.Do==8)with
 |true=>rw[h7]at h;exact oI h
 |false=>
 rw[h7]at h;refine(rfl:cn false _ _ =_).trans ?_;rw[List.find?_cons]at h;dsimp only at h;cases h8:(a.c.Do==9)with
 |true=>rw[h8]at h;exact oI h
 |false=>
 rw[h8]at h;refine(rfl:cn false _ _ =_).trans ?_;rw[List.find?_cons]at h;dsimp only at h;cases h9:(a.c.Do==10)with
 |true=>rw[h9]at h;exact oI h
 |false=>
 rw[h9]at h;refine(rfl:cn false _ _ =_).trans ?_;rw[List.find?_cons]at h;dsimp only at h;cases h10:(a.c.Do==11)with
 |true=>rw[h10]at h;exact oI h
 |false=>
 rw[h10]at h;refine(rfl:cn false _ _ =_).trans ?_;rw[List.find?_cons]at h;dsimp only at h;cases h11:(a.c.Do==12)with
 |true=>rw[h11]at h;exact oI h
 |false=>
 rw[h11]at h;refine(rfl:cn false _ _ =_).trans ?_;rw[List.find?_cons]at h;dsimp only at h;cases h12:(a.c.Do==13)with
 |true=>rw[h12]at h;exact oI h
 |false=>
 rw[h12]at h;refine(rfl:cn false _ _ =_).trans ?_;rw[List.find?_cons]at h;dsimp only at h;cases h13:(a.c.Do==14)with
 |true=>rw[h13]at h;exact oI h
 |false=>
 rw[h13]at h;refine(rfl:cn false _ _ =_).trans ?_;rw[List.find?_cons]at h;dsimp only at h;cases h14:(a.c.Do==15)with
 |true=>rw[h14]at h;exact oI h
 |false=>
 rw[h14]at h;refine(rfl:cn false _ _ =_).trans ?_;rw[List.find?_cons]at h;dsimp only at h;cases h15:(a.c.Do==16)with
 |true=>rw[h15]at h;exact oI h
 |false=>
 rw[h15]at h;refine(rfl:cn false _ _ =_).trans ?_;rw[List.find?_cons]at h;dsimp only at h;cases h16:(a.c.Do==17)with
 |true=>rw[h16]at h;exact oI h
 |false=>
 rw[h16]at h;refine(rfl:cn false _ _ =_).trans ?_;rw[List.find?_cons]at h;dsimp only at h;cases h17:(a.c.Do==18)with
 |true=>rw[h17]at h;exact oI h
 |false=>
 rw[h17]at h;refine(rfl:cn false _ _ =_).trans ?_;rw[List.find?_cons]at h;dsimp only at h;cases h18:(a.c.Do==19)with
 |true=>rw[h18]at h;exact S5 hk h
 |false=>
 rw[h18]at h;refine(rfl:cn false _ _ =_).trans ?_;rw[List.find?_cons]at h;dsimp only at h;cases h19:(a.c.Do==20)with
 |true=>rw[h19]at h;exact oI h
 |false=>
 rw[h19]at h;refine(rfl:cn false _ _ =_).trans ?_;rw[List.find?_cons]at h;dsimp only at h;cases h20:(a.c.Do==21)with
 |true=>rw[h20]at h;exact oI h
 |false=>
 rw[h20]at h;refine(rfl:cn false _ _ =_).trans ?_;rw[List.find?_cons]at h;dsimp only at h;cases h21:(a.c.Do==22)with
 |true=>rw[h21]at h;exact oI h
 |false=>
 rw[h21]at h;refine(rfl:cn false _ _ =_).trans ?_;exact h
theorem aaT{Z:Type}{n:Nat}{a:aq}{K:ah×Option aq->Option Z}{KK:Int->Option Z}{z:Z}(hk:∀e,K (⟨e,0,0⟩,none)=some z->KK e=some z)(h:bd (bO n a) K=some z):cA n a (λr c=>K (r,some c)) (λe=>K (⟨e,0,0⟩,none)) KK (K (⟨2,0,0⟩,none)) (K (⟨12,0,0⟩,none))=some z:=by
 unfold bO at h;unfold cA;cases h1:(!((decide (0<=a.fL)&&decide (a.fL<8))==true)||dg (rZ .i64 a.fL 7) 8)with
 |false=>rw[h1]at h;cases h
 |true=>
  rw[h1]at h;cases h2:((decide (0<=a.fL)&&decide (a.fL<8))&&(a.aH.mF (Int.toNat (rZ .i64 a.fL 7))))with
  |false=>rw[h2]at h;exact h
  |true=>rw[h2]at h;exact age hk h
def bJ(n:Nat)(a0:ae)(a1:Int)(a2:aC):Option Int:=lt ({aH:=a0,fL:=a1,c:=a2,run:=aB,kN:=0,ze:=true,fF:=[]}:aq) λ_=>cn ((a2.Do !=2)==false) (bd (bO n ({aH:=a0,fL:=a1,c:=a2,run:=aB,kN:=0,ze:=true,fF:=[]}:aq)) λdk=>oc dk.2 (cn (((a2.Do !=2)||(dk.1.E !=0))) (some 0) (none)) λX4=>cn (((a2.Do !=2)||(dk.1.E !=0))) (some 0) (some X4.kN)) (cn (((a2.Do !=2)||(ay.E !=0))) (some 0) (some (({aH:=a0,fL:=a1,c:=a2,run:=aB,kN:=0,ze:=true,fF:=[]}:aq).kN)))
def m0(n:Nat)(a0:ae)(a1:Int)(a2:aC):Option Int:=cn (a2.Do !=2) (some 0) (cA n ({aH:=a0,fL:=a1,c:=a2,run:=aB,kN:=0,ze:=true,fF:=[]}:aq) (λr c=>cn (r.E !=0) (some 0) (some c.kN)) (λe=>cn (e !=0) (some 0) none) (λe=>cn (e !=0) (some 0) (some 0)) (some 0) (some 0))
theorem Ah(n:Nat)(a0:ae)(a1:Int)(a2:aC)(z:Int)(h:bJ n a0 a1 a2=some z):m0 n a0 a1 a2=some z:=by
 unfold bJ at h;unfold m0;cases h1:(a2.Do !=2)with
 |true=>rw[h1]at h;exact h
 |false=>
  rw[h1]at h;have:=aaT (a:=({aH:=a0,fL:=a1,c:=a2,run:=aB,kN:=0,ze:=true,fF:=[]}:aq)) (KK:=λe=>cn (e !=0) (some 0) (some 0)) (λe h=>by
   have h:cn (e !=0) (some 0) none=some z:=h;cases hb:(e !=0)with
   |true=>rw[hb]at h;exact h
   |false=>rw[hb]at h;cases h) h
  exact this
noncomputable def mY(n:Nat):Ct Tryz.prog sg:=aay (tW n [] [bp n,bf n,sQ n,qw n,rz n,qj n,qo n,pL n,sR n,qp n,pK n,qn n,rD n,rA n,n9 n,ru n,ry n,qv n,sP n,qu n,rC n,rB n,qm n]) 3000 ⟨82,[], .cons (.v (.st 19)) (.cons (.v (.int .i64)) (.cons (.v (.st 3)) .nil)), .cons (.v (.int .i64)) .nil,[], .nil,[],[]⟩ (λx=>bJ n x.1 x.2.1 x.2.2.1) (λx=>m0 n x.1 x.2.1 x.2.2.1) (λy=>y.1) (λz=>(z,())) (0) (λ_ =>rfl) (by kernel_rfl) (λx=>by kernel_rfl) (λx z h=>by apply Ah;exact h)
def cq(n:Nat)(a0:ae)(a1:Int)(a2:aC)(a3:av):Option (ae×ah×(List av)):=lt ({aH:=a0,fL:=a1,c:=a2,run:=a3,kN:=0,ze:=false,fF:=[]}:aq) λ_=>bd (bO n ({aH:=a0,fL:=a1,c:=a2,run:=a3,kN:=0,ze:=false,fF:=[]}:aq)) λdk=>oc dk.2 (cn ((dk.1.E !=0)) (some (a0,dk.1,([]:List av))) (none)) λX4=>cn ((dk.1.E !=0)) (some (a0,dk.1,([]:List av))) (some (X4.aH,dk.1,X4.fF))
def vt(n:Nat)(a0:ae)(a1:Int)(a2:aC)(a3:av):Option (ae×ah×(List av)):=cA n ({aH:=a0,fL:=a1,c:=a2,run:=a3,kN:=0,ze:=false,fF:=[]}:aq) (λr c=>cn (r.E !=0) (some (a0,r,[])) (some (c.aH,r,c.fF))) (λe=>cn (e !=0) (some (a0,⟨e,0,0⟩,[])) none) (λe=>cn (e !=0) (some (a0,⟨e,0,0⟩,[])) (some (a0,⟨e,0,0⟩,[]))) (some (a0,⟨2,0,0⟩,[])) (some (a0,⟨12,0,0⟩,[]))
theorem DT(n:Nat)(a0:ae)(a1:Int)(a2:aC)(a3:av)(z:ae×ah×(List av))(h:cq n a0 a1 a2 a3=some z):vt n a0 a1 a2 a3=some z:=by
 have:=aaT (a:=({aH:=a0,fL:=a1,c:=a2,run:=a3,kN:=0,ze:=false,fF:=[]}:aq)) (KK:=λe=>cn (e !=0) (some (a0,⟨e,0,0⟩,[])) (some (a0,⟨e,0,0⟩,[]))) (λe h=>by
  have h:cn (e !=0) (some (a0,⟨e,0,0⟩,([]:List av))) none=some z:=h;cases hb:(e !=0)with
  |true=>rw[hb]at h;exact h
  |false=>rw[hb]at h;cases h) h
 exact this
noncomputable def vo(n:Nat):Ct Tryz.prog sg:=aay (tW n [] [bp n,bf n,sQ n,qw n,rz n,qj n,qo n,pL n,sR n,qp n,pK n,qn n,rD n,rA n,n9 n,ru n,ry n,qv n,sP n,qu n,rC n,rB n,qm n]) 3000 ⟨83,[], .cons (.v (.st 19)) (.cons (.v (.int .i64)) (.cons (.v (.st 3)) (.cons (.v (.st 4)) .nil))), .cons (.jy (.cons (.v (.st 19)) (.cons (.v (.st 2)) (.cons (.v (.sl (.st 4))) .nil)))) .nil,[], .nil,[],[]⟩ (λx=>cq n x.1 x.2.1 x.2.2.1 x.2.2.2.1) (λx=>vt n x.1 x.2.1 x.2.2.1 x.2.2.2.1) (λy=>(y.1,y.2.1,y.2.2.1)) (λz=>(z.1,(z.2.1,(z.2.2,())))) (cS,ay,[]) (λ_ =>rfl) (by kernel_rfl) (λx=>by kernel_rfl) (λx z h=>by apply DT;exact h)
def vC(n:Nat)(a0:(List Int)):Option (List Int):=some a0
def s0(n:Nat)(a0:(List Int)):Option (List Int):=gu ((a0.length:Int)==(a0.length:Int))<|gu ((a0.length:Int)==(a0.length:Int))<|some a0
theorem Bl(n:Nat)(a0:(List Int)):s0 n a0=vC n a0:=Pz.trans Pz
noncomputable def AY(n:Nat):CT:=cV (tW n [] []) (kD 117 [.v (.sl (.int .i64))] [.v (.sl (.int .i64))]) (a1 (vC n)) u1 m1 (hW:=λx=>Eq.trans (b:=s0 n x.1) (by kernel_rfl) (Bl ..))
def cv(n:Nat)(a0:ae)(a1:aC):Option ((List Int)×Int):=bd (dW n a0.dH.T a1.R) λbS=>cn ((bS.2!=0)) (some (([]:List Int),bS.2)) (cn (((((a1.Do !=3)&&(a1.Do !=4))||decide (a1.B<1))||decide (8<a1.B))) (some (([]:List Int),2)) (cn (decide ((wr .i64 (bS.1.E.dZ-(wr .i64 a1.B)))<(wr .i64 a1.A))) (some (([]:List Int),9)) (eS (λk47 (gF:(List Int)) (vZ:Int)=>cn (decide (vZ<(wr .i64 a1.B))) (bd (jH n bS.1.E (wr .i64 ((wr .i64 a1.A)+vZ))) λtZ=>gu (gC gF.length 1 8)<|lt (gF++([tZ.1]):List Int) λJR=>k47 JR (wr .i64 (vZ+1))) (some (gF,0))) n ([]) 0)))
noncomputable def Aa(n:Nat):CT:=cV (tW n [(21, .loop [(.cY 8,(.row 3 1 (.int .i64))),(.cY 59,(.v (.int .i64)))])] [eR n,xE n,AY n]) (kD 89 [.s 19, .s 3] [.t [.v (.sl (.int .i64)), .i]]) (a2 (cv n)) u2 m2
end Go.Proofs.Z
