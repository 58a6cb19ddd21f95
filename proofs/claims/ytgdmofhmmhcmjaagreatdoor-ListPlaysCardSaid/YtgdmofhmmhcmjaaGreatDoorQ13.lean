/- Part 13 of what a proof leans on; pruned and shortened by a program out of longer texts. -/
import Derived.Test.YtgdmofhmmhcmjaaGreatDoorQ12
namespace Go.Proofs.Z
open Go Go.Bw Go.Rw Go.RowKit
noncomputable section
def od(n:Nat)(a0:bX)(a1:Int):Option Bool:=bd (nQ n a0.K a1 0) λaA=>some aA
def yu(n:Nat):CT:=cV (tW n [] [qm n]) ⟨267,[(94, .v (.st 16)),(25, .v (.int .u32))], .cons (.bU 0) (.cons (.bU 1) .nil), .cons (.v .bool) .nil,[], .nil,[],[]⟩ (λx=>od n x.1 x.2.1) u1 m1
def oa(n:Nat)(a0:bX)(a1:Int):Option Bool:=bd (ng n a0.K a1 0) λaA=>some aA
def yt(n:Nat):CT:=cV (tW n [] [pL n]) ⟨269,[(94, .v (.st 16)),(25, .v (.int .u32))], .cons (.bU 0) (.cons (.bU 1) .nil), .cons (.v .bool) .nil,[], .nil,[],[]⟩ (λx=>oa n x.1 x.2.1) u1 m1
def qH(n:Nat)(a0:Int)(a1:bX):Option Bool:=bd (nE n a1.K a0) λaA=>some (decide (0<(aA.length:Int)))
def wj(n:Nat):CT:=cV (tW n [] [oG n]) ⟨273,[(94, .v (.st 16))], .cons (.v (.int .u32)) (.cons (.bU 0) .nil), .cons (.v .bool) .nil,[], .nil,[],[]⟩ (λx=>qH n x.2.1 x.1) u1 m1
def fE(n:Nat)(a0:(List Int))(gU:bX):Option Int:=iv (λL5 (aR:Int)=>cn (decide (aR<(a0.length:Int))) (gu (dk aR a0.length)<|bd (qH n (a0.getD (Int.toNat aR) default) gU) λdB=>cn (dB) (some aR) (L5 (wr .i64 (aR+1)))) (some (-1))) n 0
def jy(n:Nat):CT:=cV (tW n [(5, .loop [(.dh 8,(.v (.int .i64)))])] [wj n]) ⟨146,[(94, .v (.st 16))], .cons (.v (.sl (.int .u32))) (.cons (.fn (.func 273) .nil (.cons (.bU 0) .nil)) .nil), .cons (.v (.int .i64)) .nil,[], .nil,[],[]⟩ (λx=>fE n x.2.1 x.1) u1 m1
def eV(n:Nat)(a0:(List Int))(gU:bX):Option Bool:=bd (fE n a0 gU) λaA=>some (decide (0<=aA))
def iH(n:Nat):CT:=cV (tW n [] [jy n]) ⟨272,[(94, .v (.st 16))], .cons (.v (.sl (.int .u32))) (.cons (.fn (.func 273) .nil (.cons (.bU 0) .nil)) .nil), .cons (.v .bool) .nil,[], .nil,[],[]⟩ (λx=>eV n x.2.1 x.1) u1 m1
def n9(n:Nat)(a0:bX)(a1:Int):Option Bool:=bd (rY n a0.T a1) λbS=>bd (eV n bS a0) λeo=>some (!eo)
def yq(n:Nat):CT:=cV (tW n [] [sV n,iH n]) ⟨271,[(94, .v (.st 16)),(25, .v (.int .u32))], .cons (.bU 0) (.cons (.bU 1) .nil), .cons (.v .bool) .nil,[], .nil,[],[]⟩ (λx=>n9 n x.1 x.2.1) u1 m1
def mV(n:Nat)(a0:bX)(a1:Int)(a2:Int):Option Bool:=cn (a2==0) (cl (true==true) (od n a0 a1) default λdP=>some (true&&dP)) (cn (a2==1) (cl (true==true) (oa n a0 a1) default λdP=>some (true&&dP)) (cn (a2==2) (cl (true==true) (n9 n a0 a1) default λdP=>some (true&&dP)) (some false)))
namespace H
theorem ND{J:World->Prop}{T0 T1 q0 q1 r:Nat}{uX:List Value}{a0:bX}{a1:Int}{o:Ob sg}(f0:fg.eH J uX a0)(e:cU [(0, .cH T0 (.dat (.st 16) a0)),(1, .cH T1 (.int .u32 a1))] r=some o):
  ∃z∈([.cells q0 T0 uX, .cells q1 T1 ((LI .u32).enc a1)]:List aE),ro (G:=sg) J (aZ.set (aZ.set (λ_ =>none) 0 (dA q0 0)) 1 (dA q1 0)) r o z:=by
 match r,e with
 |0,e=>cases e;exact⟨_,List.mem_cons_self,q0, .agg uX.toArray,rfl,rfl,KX (t:= .st 16) f0 rfl⟩
 |1,e=>cases e;exact⟨_,aiS _ List.mem_cons_self,q1, .int .u32 a1,rfl,rfl,rfl⟩
 |r+2,e=>cases e
theorem y7{n:Nat}{a0:bX}{a1:Int}{r:Bool}{R:List aE}(hg:R8 sg (Hs R)){q0:Nat}{uX:List Value}(f0:fg.eH (Hs R) uX a0){q1:Nat}(h:od n a0 a1=some r):Bw.Fn (α:=Unit) Tryz.prog 267 [dA q0 0,dA q1 0] (R9 (bA [.cells q0 94 uX, .cells q1 25 ((LI .u32).enc a1)]) (Hs R)) [.cells q0 94 uX, .cells q1 25 ((LI .u32).enc a1)] (λ_ =>True) (λ_ => .bool r) (λ_ =>[.cells q0 94 uX, .cells q1 25 ((LI .u32).enc a1)]):=
 yS (ct:=yu n) (x:=(a0,a1,())) (y:=(r,())) (ρ:=aZ.set (aZ.set (λ_ =>none) 0 (dA q0 0)) 1 (dA q1 0)) ⟨r,h,rfl⟩ hg (λ_ _ =>⟨_,_,rfl,⟨⟨q0,0, .inl rfl,rfl⟩,nofun⟩,_,_,rfl,⟨⟨q1,0, .inl rfl,rfl⟩,nofun⟩,rfl⟩) rfl rfl
  (λJ hJ r o e=>ND (T0:=94) (T1:=25) (cP.mono _ hJ f0) e) (λr (hr:2<=r)=>match r,hr with|r+2,_ =>rfl) λJ σ u us ⟨_,_,e,h1,_⟩=>by cases e;have h1:[u]=[.bool _]:=h1;cases h1;rfl
theorem y6{n:Nat}{a0:bX}{a1:Int}{r:Bool}{R:List aE}(hg:R8 sg (Hs R)){q0:Nat}{uX:List Value}(f0:fg.eH (Hs R) uX a0){q1:Nat}(h:oa n a0 a1=some r):Bw.Fn (α:=Unit) Tryz.prog 269 [dA q0 0,dA q1 0] (R9 (bA [.cells q0 94 uX, .cells q1 25 ((LI .u32).enc a1)]) (Hs R)) [.cells q0 94 uX, .cells q1 25 ((LI .u32).enc a1)] (λ_ =>True) (λ_ => .bool r) (λ_ =>[.cells q0 94 uX, .cells q1 25 ((LI .u32).enc a1)]):=
 yS (ct:=yt n) (x:=(a0,a1,())) (y:=(r,())) (ρ:=aZ.set (aZ.set (λ_ =>none) 0 (dA q0 0)) 1 (dA q1 0)) ⟨r,h,rfl⟩ hg (λ_ _ =>⟨_,_,rfl,⟨⟨q0,0, .inl rfl,rfl⟩,nofun⟩,_,_,rfl,⟨⟨q1,0, .inl rfl,rfl⟩,nofun⟩,rfl⟩) rfl rfl
  (λJ hJ r o e=>ND (T0:=94) (T1:=25) (cP.mono _ hJ f0) e) (λr (hr:2<=r)=>match r,hr with|r+2,_ =>rfl) λJ σ u us ⟨_,_,e,h1,_⟩=>by cases e;have h1:[u]=[.bool _]:=h1;cases h1;rfl
theorem y5{n:Nat}{a0:bX}{a1:Int}{r:Bool}{R:List aE}(hg:R8 sg (Hs R)){q0:Nat}{uX:List Value}(f0:fg.eH (Hs R) uX a0){q1:Nat}(h:n9 n a0 a1=some r):Bw.Fn (α:=Unit) Tryz.prog 271 [dA q0 0,dA q1 0] (R9 (bA [.cells q0 94 uX, .cells q1 25 ((LI .u32).enc a1)]) (Hs R)) [.cells q0 94 uX, .cells q1 25 ((LI .u32).enc a1)] (λ_ =>True) (λ_ => .bool r) (λ_ =>[.cells q0 94 uX, .cells q1 25 ((LI .u32).enc a1)]):=
 yS (ct:=yq n) (x:=(a0,a1,())) (y:=(r,())) (ρ:=aZ.set (aZ.set (λ_ =>none) 0 (dA q0 0)) 1 (dA q1 0)) ⟨r,h,rfl⟩ hg (λ_ _ =>⟨_,_,rfl,⟨⟨q0,0, .inl rfl,rfl⟩,nofun⟩,_,_,rfl,⟨⟨q1,0, .inl rfl,rfl⟩,nofun⟩,rfl⟩) rfl rfl
  (λJ hJ r o e=>ND (T0:=94) (T1:=25) (cP.mono _ hJ f0) e) (λr (hr:2<=r)=>match r,hr with|r+2,_ =>rfl) λJ σ u us ⟨_,_,e,h1,_⟩=>by cases e;have h1:[u]=[.bool _]:=h1;cases h1;rfl
theorem Bh{n a0 a1 a2 r}{R:List aE}(hg:R8 sg (Hs R)){uX}(f0:(fg).eH (Hs R) uX a0)(h:mV n a0 a1 a2=some r):FnW Tryz.prog 170 [A uX, .int .u32 a1, .int .u8 a2] (Hs R) (.bool r):=by
 unfold mV at h;refine fo Tryz.func170 (by kernel_rfl) rfl Tryz.ntmps170 rfl λcx _ hro nL hpre=>?_;refine SC 2 rf ?_;refine W1 rf (Qo rfl) λb3=>?_;refine W1 rf (nO (LI .u32) a1 rfl rfl) λb4=>?_;refine SL 5 rf ?_;refine Af rfl (HF .u8 (λv:Value=>v)) (λOt _ =>?_);refine bT rfl (qK rfl) ?_;refine HD (DY (E:=λv:Value=>v) (.func (.func 267) #[] #[dA b3 0,dA b4 0]) rfl rfl rfl rfl) (λ_ _ =>?_);refine bT rfl (qK rfl) ?_;refine HD (DY (E:=λv:Value=>v) (.func (.func 269) #[] #[dA b3 0,dA b4 0]) rfl rfl rfl rfl) (λ_ _ =>?_);refine bT rfl (qK rfl) ?_;refine HD (DY (E:=λv:Value=>v) (.func (.func 271) #[] #[dA b3 0,dA b4 0]) rfl rfl rfl rfl) (λ_ _ =>?_);refine SL 5 rf ?_;rcases Decidable.em (a2=0)with A8|A8
 ·replace h:=Oj (by simpa using A8) h;refine SC 3 rf ?_;refine bT rfl (wS .nilFunc (.func (.func 267) #[] #[dA b3 0,dA b4 0]) true rfl rfl (by rw[A8];rfl) (by rw[A8];rfl)) ?_;obtain⟨dP,NR,_,h⟩:=Zs h;refine SL 11 rf ?_;refine GB rf rf rf (λhb=>cF rfl) ?_;refine DU (WJ rfl rfl) rfl (λhb=>y7 (R:=R) hg (mo f0) (NR hb)) (λhb=>(KQ rfl hb)) (λhb=>rfl) rfl (mG:=[.cells b3 94 uX, .cells b4 25 ((LI .u32).enc a1)]) (rst:=[Mp Ot .u8 (λv:Value=>v) (tn (tn (tn ([]:List (Int×Value)) 0 (.func (.func 267) #[] #[dA b3 0,dA b4 0])) 1 (.func (.func 269) #[] #[dA b3 0,dA b4 0])) 2 (.func (.func 271) #[] #[dA b3 0,dA b4 0]))]) (ks:=[2,1,0]) rfl (by decide) (λhb=>inferInstance) ?_;dsimp only[List.cons_append,List.nil_append];refine bT rfl (HE rfl rfl) ?_;refine SL 4 rf ?_;have h:=sj h;subst h;exact RV rf (rt rf rn) rf
 replace h:=Ok (by simpa using A8) h;rcases Decidable.em (a2=1)with A7|A7
 ·replace h:=Oj (by simpa using A7) h;refine SC 3 rf ?_;refine bT rfl (wS .nilFunc (.func (.func 269) #[] #[dA b3 0,dA b4 0]) true rfl rfl (by rw[A7];rfl) (by rw[A7];rfl)) ?_;obtain⟨dP,NR,_,h⟩:=Zs h;refine SL 11 rf ?_;refine GB rf rf rf (λhb=>cF rfl) ?_;refine DU (WJ rfl rfl) rfl (λhb=>y6 (R:=R) hg (mo f0) (NR hb)) (λhb=>(KQ rfl hb)) (λhb=>rfl) rfl (mG:=[.cells b3 94 uX, .cells b4 25 ((LI .u32).enc a1)]) (rst:=[Mp Ot .u8 (λv:Value=>v) (tn (tn (tn ([]:List (Int×Value)) 0 (.func (.func 267) #[] #[dA b3 0,dA b4 0])) 1 (.func (.func 269) #[] #[dA b3 0,dA b4 0])) 2 (.func (.func 271) #[] #[dA b3 0,dA b4 0]))]) (ks:=[2,1,0]) rfl (by decide) (λhb=>inferInstance) ?_;dsimp only[List.cons_append,List.nil_append];refine bT rfl (HE rfl rfl) ?_;refine SL 4 rf ?_;have h:=sj h;subst h;exact RV rf (rt rf rn) rf
 replace h:=Ok (by simpa using A7) h;rcases Decidable.em (a2=2)with A6|A6
 ·replace h:=Oj (by simpa using A6) h;refine SC 3 rf ?_;refine bT rfl (wS .nilFunc (.func (.func 271) #[] #[dA b3 0,dA b4 0]) true rfl rfl (by rw[A6];rfl) (by rw[A6];rfl)) ?_;obtain⟨dP,NR,_,h⟩:=Zs h;refine SL 11 rf ?_;refine GB rf rf rf (λhb=>cF rfl) ?_;refine DU (WJ rfl rfl) rfl (λhb=>y5 (R:=R) hg (mo f0) (NR hb)) (λhb=>(KQ rfl hb)) (λhb=>rfl) rfl (mG:=[.cells b3 94 uX, .cells b4 25 ((LI .u32).enc a1)]) (rst:=[Mp Ot .u8 (λv:Value=>v) (tn (tn (tn ([]:List (Int×Value)) 0 (.func (.func 267) #[] #[dA b3 0,dA b4 0])) 1 (.func (.func 269) #[] #[dA b3 0,dA b4 0])) 2 (.func (.func 271) #[] #[dA b3 0,dA b4 0]))]) (ks:=[2,1,0]) rfl (by decide) (λhb=>inferInstance) ?_;dsimp only[List.cons_append,List.nil_append];refine bT rfl (HE rfl rfl) ?_;refine SL 4 rf ?_;have h:=sj h;subst h;exact RV rf (rt rf rn) rf
 replace h:=Ok (by simpa using A6) h;refine SC 3 rf ?_;refine bT rfl (wS .nilFunc .nilFunc false rfl rfl (Pa (z:= .nilFunc) A8 A7 A6).1 (Pa (z:= .nilFunc) A8 A7 A6).2) ?_;refine SL 11 rf ?_;refine GB rf rf rf (λhb=>cF rfl) ?_;refine agl (v:= .bool false) (WJ rfl rfl) (by rfl) rfl ?_;refine bT rfl (HE rfl rfl) ?_;refine SL 4 rf ?_;have h:=sj h;subst h;exact RV rf (rt rf rn) rf
end H
def AY(n:Nat):Ct Tryz.prog sg:=ctV (G:=sg) ⟨170,[], .cons (.v (.st 16)) (.cons (.v (.int .u32)) (.cons (.v (.int .u8)) .nil)), .cons (.v .bool) .nil,[], .nil,[],[]⟩ (λx=>mV n x.1 x.2.1 x.2.2.1) (λz=>(z,())) (false) (by kernel_rfl) (Vb (λ_ =>rfl) (λ_ =>rfl) rfl λρ R x z vs hg hz hv=>by
 obtain⟨cs,r1,e_1,h0,v1⟩:=Ke hv rfl;obtain⟨r2,e_2,v2⟩:=Nv v1;obtain⟨r3,e_3,v3⟩:=Nv v2;have e_0:r3=[]:=v3;subst e_0 e_3 e_2 e_1;exact⟨_,acC (H.Bh hg h0 hz),λJ v e=>by
  subst e;exact⟨_,_,rfl,rfl,rfl⟩⟩)
def uF(n:Nat)(a0:Int)(a1:bX)(a2:Int)(a3:Int)(a4:Int):Option Bool:=bd (cW n a1.K a0) λaA=>cl ((((wr .i64 aA.1.To)==a2)==true)&&((a3==0)==true)) (nQ n a1.K a4 a0) default λaR=>cl (((((wr .i64 aA.1.To)==a2)==true)&&(((a3==0)&&aR)==false))&&(((a3==1)&&aA.1.mW)==true)) (ng n a1.K a4 a0) default λbS=>some (((wr .i64 aA.1.To)==a2)&&(((a3==0)&&aR)||(((a3==1)&&aA.1.mW)&&bS)))
def zY(n:Nat):CT:=cV (tW n [] [ew n,qm n,pL n]) ⟨286,[(94, .v (.st 16)),(3, .v (.int .i64)),(5, .v (.int .u8)),(25, .v (.int .u32))], .cons (.v (.int .u32)) (.cons (.bU 0) (.cons (.bU 1) (.cons (.bU 2) (.cons (.bU 3) .nil)))), .cons (.v .bool) .nil,[], .nil,[],[]⟩ (λx=>uF n x.2.2.2.2.1 x.1 x.2.1 x.2.2.1 x.2.2.2.1) u1 m1
def fU(n:Nat)(a0:(List Int))(gU:bX)(rm:Int)(VP:Int)(ac8:Int):Option Int:=iv (λL5 (aR:Int)=>cn (decide (aR<(a0.length:Int))) (gu (dk aR a0.length)<|bd (uF n (a0.getD (Int.toNat aR) default) gU rm VP ac8) λdB=>cn (dB) (some aR) (L5 (wr .i64 (aR+1)))) (some (-1))) n 0
def kg(n:Nat):CT:=cV (tW n [(5, .loop [(.dh 8,(.v (.int .i64)))])] [zY n]) ⟨146,[(94, .v (.st 16)),(3, .v (.int .i64)),(5, .v (.int .u8)),(25, .v (.int .u32))], .cons (.v (.sl (.int .u32))) (.cons (.fn (.func 286) .nil (.cons (.bU 0) (.cons (.bU 1) (.cons (.bU 2) (.cons (.bU 3) .nil))))) .nil), .cons (.v (.int .i64)) .nil,[], .nil,[],[]⟩ (λx=>fU n x.2.2.2.2.1 x.1 x.2.1 x.2.2.1 x.2.2.2.1) u1 m1
def fF(n:Nat)(a0:(List Int))(gU:bX)(rm:Int)(VP:Int)(ac8:Int):Option Bool:=bd (fU n a0 gU rm VP ac8) λaA=>some (decide (0<=aA))
def jz(n:Nat):CT:=cV (tW n [] [kg n]) ⟨272,[(94, .v (.st 16)),(3, .v (.int .i64)),(5, .v (.int .u8)),(25, .v (.int .u32))], .cons (.v (.sl (.int .u32))) (.cons (.fn (.func 286) .nil (.cons (.bU 0) (.cons (.bU 1) (.cons (.bU 2) (.cons (.bU 3) .nil))))) .nil), .cons (.v .bool) .nil,[], .nil,[],[]⟩ (λx=>fF n x.2.2.2.2.1 x.1 x.2.1 x.2.2.1 x.2.2.2.1) u1 m1
def xq(n:Nat)(a0:bX)(a1:Int)(a2:Int)(a3:Int):Option Bool:=bd (nE n a0.K a2) λaA=>bd (fF n aA a0 a1 a3 a2) λeS=>some eS
def BV(n:Nat):CT:=cV (tW n [] [oG n,jz n]) (kF 266 [.s 16, .i, .w, .v (.int .u8)] [.b]) (a4 (xq n)) u1 m1
def pB(n:Nat)(a0:bX)(a1:Int)(a2:Int)(a3:Int):Option Int:=bd (aJ n a0.T.fC.kU a2) λaA=>cn ((!aA)) (some 4) (bd (jX n a0.O a0.T a2) λcE=>cn ((cE.xP==3)) (gu (!((((a3==0)&&decide (0<=a1))&&decide (a1<8))==true)||decide (0<=a1))<|cn ((!((((a3==0)&&decide (0<=a1))&&decide (a1<8))&&((r8 .u8 (z6 .u8 cE.ji a1) 1)==1)))) (some 5) (some 0)) (cn ((cE.xP==1)) (cl (((wr .i64 cE.jW)==a1)==true) (mV n a0 a2 a3) default λeM=>cl ((((wr .i64 cE.jW)==a1)&&eM)==false) (xq n a0 a1 a2 a3) default λdB=>cn ((!((((wr .i64 cE.jW)==a1)&&eM)||dB))) (some 5) (some 0)) (some 5)))
def Dk(n:Nat):CT:=cV (tW n [] [aT n,jl n,AY n,BV n]) (kF 236 [.s 16, .i, .w, .v (.int .u8)] [.i]) (a4 (pB n)) u1 m1
def yY(n:Nat)(a0:ax)(a1:Int)(a2:Int):Option (Except Int aP):=bd (eD n a0 a1) λaA=>tc (aA.2==0) (.error aA.2)<|tc (decide (0<=a2)&&decide (a2<8)) (.error 2)<|some (.ok aA.1)
def Az(n:Nat):CT:=cT (tW n [] [br n,bf n,fJ n]) 262 [.s 10, .w, .i] [.s 6] 31 (a3 (yY n)) u1 m1
def MC(n:Nat)(a0:ax)(a1:Int)(a2:Int)(a3:Int)(a4:Bool):Option (ax×Int):=bd (aJ n a0.fC.kU a1) λaA=>cl ((aA==true)&&((a3==0)==false)) (aJ n a0.fC.kU a3) default λaR=>tc (aA&&((a3==0)||aR)) (dY,4)<|tr (yY n a0 a1 a2) (λacK=>(dY,acK)) λdU=>cl (((a3==0)||a4)==false) (nM n a0 a3 a1) default λfV=>tc (((a3==0)||a4)||fV) (dY,5)<|gu (dk a2 8)<|lt ({dU with qQ:=(iC dU.qQ (Int.toNat a2) a3)}:aP) λgA=>bd (iN n a0 a1 gA) λmX=>some (mX.1,mX.2)
def Nb(n:Nat):CT:=cV (tW n [] [br n,bf n,aT n,Az n,oK n,oH n]) (kF 260 [.s 10, .w, .i, .w, .b] [.t [.s 10, .i]]) (λx=>MC n x.1 x.2.1 x.2.2.1 x.2.2.2.1 x.2.2.2.2.1) u2 m2
def MD(n:Nat)(a0:ax)(a1:Int)(a2:Int)(a3:Int)(a4:Bool):Option (ax×Int):=bd (MC n a0 a1 a2 a3 a4) λaA=>cn ((aA.2!=0)) (some (a0,aA.2)) (some (aA.1,0))
def Nc(n:Nat):CT:=cV (tW n [] [Nb n]) (kF 227 [.s 10, .w, .i, .w, .b] [.t [.s 10, .i]]) (λx=>MD n x.1 x.2.1 x.2.2.1 x.2.2.2.1 x.2.2.2.2.1) u2 m2
def Hl(n:Nat)(a0:ax)(a1:Int)(a2:Int):Option (Int×Int):=tr (yY n a0 a1 a2) (λn6=>(0,n6)) λaA=>gu (dk a2 8)<|tc ((aA.qQ (Int.toNat a2))!=0) (0,10)<|bd (aJ n a0.fC.kU (aA.qQ (Int.toNat a2))) λeo=>tc eo (0,4)<|some ((aA.qQ (Int.toNat a2)),0)
def JU(n:Nat):CT:=cV (tW n [] [br n,bf n,Az n,aT n]) (kF 228 [.s 10, .w, .i] [.t [.w, .i]]) (a3 (Hl n)) u2 m2
def uk(n:Nat):Option ae:=lt ({cS with mF:=(iC cS.mF 0 true)}:ae) λaA=>lt ({aA with Fm:=(iC aA.Fm 0 true)}:ae) λcE=>some cE
def Ay(n:Nat):CT:=cV (tW n [] []) (kF 69 [] [.s 19]) (λ_=>uk n) u1 m1
def iX(n:Nat)(a0:aq)(a1:Int):Option aq:=bd (rY n a0.aG.dK.T a1) λbS=>eP (λk51 (mX:Int) (xR:aq)=>cn (decide (mX<(bS.length:Int))) (gu (dk mX bS.length)<|bd (eD n xR.aG.dK.T (bS.getD (Int.toNat mX) default)) λqc=>gu (gN xR.fD.length qc.1.E.aL.length 16)<|lt (xR.fD++qc.1.E.aL:List av) λJM=>bd (s0 n (({xR with fD:=JM}).aG.dK.K) (bS.getD (Int.toNat mX) default)) λJK=>k51 (wr .i64 (mX+1)) ({({xR with fD:=JM})with aG:={({xR with fD:=JM}).aG with dK:={(({xR with fD:=JM}).aG).dK with K:=JK}}})) (bd (Es n xR.aG.dK.T a1) λQr=>some ({xR with aG:={xR.aG with dK:={xR.aG.dK with T:=Qr.1}}}))) n 0 a0
def m0(n:Nat):CT:=cV (tX n [(3, .loop [(.dh 17,(.v (.int .i64))),(.via 0,dz)])] [sV n,fJ n,yf n,Il n] [(1,vw0)] []) ⟨211,[], .cons dz (.cons (.v (.int .u32)) .nil), .cons (.jv .nil) (.cons dz .nil),[some 0,none], .nil,[],[[0]]⟩ (λx=>iX n (g7 x) x.2.2.2.2.2.2.2.1) (λy=>g7 y) (λz=>(h7 z ()))
def dI(n:Nat)(a0:Int):Option (Except Int Unit):=tc (a0==0) (.error a0)<|some (.ok ())
def dc(n:Nat):CT:=cT (tW n [] [br n,bf n]) 200 [.i] [.jv .nil] 31 (a1 (dI n)) (λ_ =>()) (λ_ =>())
def nW(n:Nat)(a0:aq)(a1:Int)(a2:Int):Option (Except Int aq):=bd (AF n a0.aG.dK.O a0.aG.dK.T a1 a2) λbS=>tr (dI n bS.2.2) (λKV=>(.error KV)) λ_=>cn ((bS.2.1==0)) (bd (iX n ({a0 with aG:={a0.aG with dK:={a0.aG.dK with O:=bS.1}}}) a1) λeS=>some (.ok eS)) (some (.ok ({a0 with aG:={a0.aG with dK:={a0.aG.dK with O:=bS.1}}})))
def qv(n:Nat):CT:=cX (tW n [] [br n,bf n,EK n,dc n,m0 n]) ⟨219,[], .cons dz (.cons (.v (.int .u32)) (.cons (.v (.int .i64)) .nil)), .cons (.jv .nil) (.cons dz .nil),[some 0,none],(.cons (.jT 31 (.v (.int .i64))) .nil),[],[[0]]⟩ (λx=>nW n (g7 x) x.2.2.2.2.2.2.2.1 x.2.2.2.2.2.2.2.2.1) (λy=>g7 y) (λz=>(h7 z ())) u1 m1
def iW(n:Nat)(a0:aq)(a1:Int)(a2:Int):Option (Except Int aq):=bd (AE n a0.aG.dK.O a0.aG.dK.T a1 a2) λbS=>tr (dI n bS.2) (λKV=>(.error KV)) λ_=>some (.ok ({a0 with aG:={a0.aG with dK:={a0.aG.dK with O:=bS.1}}}))
def jD(n:Nat):CT:=cX (tW n [] [br n,bf n,EJ n,dc n]) ⟨201,[], .cons dz (.cons (.v (.int .u32)) (.cons (.v (.int .i64)) .nil)), .cons (.jv .nil) (.cons dz .nil),[some 0,none],(.cons (.jT 31 (.v (.int .i64))) .nil),[],[[0]]⟩ (λx=>iW n (g7 x) x.2.2.2.2.2.2.2.1 x.2.2.2.2.2.2.2.2.1) (λy=>g7 y) (λz=>(h7 z ())) u1 m1
def AG(n:Nat)(a0:cm):Option cm:=some a0
def EL(n:Nat):CT:=cV (tW n [] []) ⟨284,[], .cons (.v (.st 18)) .nil, .cons (.fn (.func 290) .nil (.cons (.box 99 (.v (.st 18))) .nil)) .nil,[none], .nil,[],[]⟩ (a1 (AG n)) u1 m1
def vz(n:Nat)(a0:(List aU)):Option (List aU):=some a0
def sX(n:Nat)(a0:(List aU)):Option (List aU):=gu ((a0.length:Int)==(a0.length:Int))<|gu ((a0.length:Int)==(a0.length:Int))<|some a0
theorem Bc(n:Nat)(a0:(List aU)):sX n a0=vz n a0:=Ps.trans Ps
def AP(n:Nat):CT:=cV (tW n [] []) (kF 285 [.v (.sl (.st 17))] [.v (.sl (.st 17))]) (a1 (vz n)) u1 m1 (hW:=λx=>Eq.trans (b:=sX n x.1) (by kernel_rfl) (Bc ..))
def ur(n:Nat)(a0:cm)(a1:Int):Option Int:=some (Int.tmod (wr .i64 (a0.xo+a1)) 4)
def uN(n:Nat):CT:=cV (tW n [] []) (kF 259 [.s 18, .i] [.i]) (a2 (ur n)) u1 m1
def xl(n:Nat)(a1:cm):Option (List aU):=iv (λk35 (dB:Int)=>cn (decide (dB<a1.n)) (bd (ur n a1 dB) λjS=>gu (dk jS 4)<|yl (a1.ring (Int.toNat jS))<|k35 (wr .i64 (dB+1))) (some [])) n 0
def Cn(n:Nat):It Tryz.prog sg:=mkI (tX n [(3, .loop [(.dh 6,(.v (.int .i64)))])] [uN n] [] []) 3000 290 (.cons (.box 99 (.v (.st 18))) .nil) (.cons (.v (.st 17)) .nil) (.st (G:=sg) (i:=17) (λ(x:aU)=>cP.enc fb x) (λJ cs x=>bh.iff (L:=fb)) .nil) (B:=aU) (λy=>(y,())) (λx=>(x.1)) (λx=>xl n x.1) (λ_ =>rfl) (by kernel_rfl) (λx=>by kernel_rfl)
def Cj(n:Nat)(a0:cm):Option (List aU):=bd (AG n a0) λaA=>bd (xl n aA) λbS=>xF (λ(PN:aU) k31 (eS:(List aU))=>lt (PN:aU) λfV=>gu (gN eS.length 1 24)<|lt (eS++([fV]):List aU) λjU=>k31 jU) (λ(eS:(List aU))=>some eS) bS ([]:List aU)
def F6(n:Nat):CT:=cV (tX n [(7, .loop [(.via 3, .box 305 (.row 96 4 (.st 17)))])] [EL n,AP n] [] [Cn n]) (kF 264 [.s 18] [.v (.sl (.st 17))]) (a1 (Cj n)) u1 m1
def yI(n:Nat)(a0:cm):Option (cm×(List aU)):=lt ({ring:=(λ_ =>iz),xo:=0,n:=0,closed:=true}:cm) λaA=>bd (Cj n a0) λaR=>some (aA,aR)
def De(n:Nat):CT:=cV (tW n [] [F6 n]) (kF 229 [.s 18] [.t [.s 18, .v (.sl (.st 17))]]) (a1 (yI n)) u2 m2
def o9(n:Nat)(a0:aq)(a1:Int):Option (Except Int aq):=gu (dk a1 8)<|bd (yI n (a0.aG.kT (Int.toNat a1))) λaR=>gu (dk a1 8)<|gu (dk a1 8)<|eP (λk58 (qX:Int) (tU:aq)=>cn (decide (qX<(aR.2.length:Int))) (gu (dk qX aR.2.length)<|lt ((aR.2.getD (Int.toNat qX) default):aU) λzB=>cn (((zB.Region==0)||zB.zi)) (k58 (wr .i64 (qX+1)) tU) (gu (dk zB.HZ 8)<|cn ((tU.aG.mF (Int.toNat zB.HZ))) (tr (iW n tU zB.Region (wr .i64 zB.HZ)) (λah2=>(.error ah2)) λJN=>k58 (wr .i64 (qX+1)) JN) (bd (iX n tU zB.Region) λJK=>k58 (wr .i64 (qX+1)) JK))) (bd (xd n tU.aG.dK.K a1) λEG=>eP (λaht (Xn:Int) (M8:aq)=>cn (decide (Xn<(EG.length:Int))) (gu (dk Xn EG.length)<|bd (gP n M8.aG.dK.K (EG.getD (Int.toNat Xn) default)) λag4=>aht (wr .i64 (Xn+1)) ({M8 with aG:={M8.aG with dK:={M8.aG.dK with K:=ag4.1}}})) (bd (yF n M8.aG.dK.O M8.aG.dK.T a1) λaaY=>eP (λahs (Xm:Int) (Xl:aq)=>cn (decide (Xm<(aaY.length:Int))) (gu (dk Xm aaY.length)<|bd (iX n Xl (aaY.getD (Int.toNat Xm) default)) λag3=>ahs (wr .i64 (Xm+1)) ag3) (bd (AB n Xl.aG.dK.O Xl.aG.dK.T a1) λaaX=>eP (λahr (Xk:Int) (aej:aq)=>cn (decide (Xk<(aaX.length:Int))) (gu (dk Xk aaX.length)<|tr (nW n aej (aaX.getD (Int.toNat Xk) default) a1) (λaf3=>(.error af3)) λag2=>ahr (wr .i64 (Xk+1)) ag2) (some (.ok aej))) n 0 Xl)) n 0 M8)) n 0 tU)) n 0 ({({a0 with aG:={a0.aG with kT:=(iC a0.aG.kT (Int.toNat a1) aR.1)}})with aG:={({a0 with aG:={a0.aG with kT:=(iC a0.aG.kT (Int.toNat a1) aR.1)}}).aG with mF:=(iC ((({a0 with aG:={a0.aG with kT:=(iC a0.aG.kT (Int.toNat a1) aR.1)}}).aG).mF) (Int.toNat a1) false)}})
def rG(n:Nat):CT:=cX (tX n [(9, .loop [(.dh 40,(.v (.int .i64))),(.via 0,dz)]),(25, .loop [(.dh 82,(.v (.int .i64))),(.via 0,dz)]),(35, .loop [(.dh 119,(.v (.int .i64))),(.via 0,dz)]),(45, .loop [(.dh 142,(.v (.int .i64))),(.via 0,dz)])] [br n,bf n,De n,jD n,m0 n,BE n,pM n,Dc n,EI n,qv n] [(4,vw0),(12,vw0),(17,vw0),(22,vw0)] []) ⟨175,[], .cons dz (.cons (.v (.int .i64)) .nil), .cons (.jv .nil) (.cons dz .nil),[some 0,none],(.cons (.jT 31 (.v (.int .i64))) .nil),[],[[0]]⟩ (λx=>o9 n (g7 x) x.2.2.2.2.2.2.2.1) (λy=>g7 y) (λz=>(h7 z ())) u1 m1
def bH(n:Nat)(a0:aq)(a1:Int)(a2:Int):Option (Except Int Unit):=bd (pB n a0.aG.dK a0.fK a1 a2) λbS=>tr (dI n bS) (λKV=>(.error KV)) λ_=>some (.ok ())
def cz(n:Nat):CT:=cX (tW n [] [br n,bf n,Dk n,dc n]) ⟨198,[(212, .st (.part 952 (.v (.st 19)) (.part 1 (.v (.int .i64)) (.part 6 (.v (.st 3)) (.part 2 (.v (.st 4)) (.part 1 (.v (.int .i64)) (.part 1 (.v .bool) (.part 1 (.row 158 2 (.st 4)) .nil))))))))], .cons (.bU 0) (.cons (.v (.int .u32)) (.cons (.v (.int .u8)) .nil)), .cons (.jv .nil) .nil,[],(.cons (.jT 31 (.v (.int .i64))) .nil),[],[]⟩ (λx=>bH n (g7 x) x.2.2.2.2.2.2.2.1 x.2.2.2.2.2.2.2.2.1) (λ_ =>()) (λ_ =>()) u1 m1
def ia(n:Nat)(a0:aq):Option (Except Int (ah×aq)):=lt (λ(u21:Unit)=>bd (tw n a0.aG.dK.T a0.c.R (wr .i64 (if 65<a0.c.A then 65 else a0.c.A))) λeM=>tr (dI n eM.2.2) (λah9=>(.error ah9)) λ_=>cn (((({a0 with aG:={a0.aG with dK:={a0.aG.dK with T:=eM.1}}}).c.R)==0)) (tr (iW n ({a0 with aG:={a0.aG with dK:={a0.aG.dK with T:=eM.1}}}) eM.2.1 (({a0 with aG:={a0.aG with dK:={a0.aG.dK with T:=eM.1}}}).fK)) (λacG=>(.error acG)) λgA=>lt ({E:=0,V:=0,W:=eM.2.1}:ah) λtU=>some (.ok (tU,gA))) (lt ({E:=0,V:=0,W:=eM.2.1}:ah) λJO=>some (.ok (JO,{a0 with aG:={a0.aG with dK:={a0.aG.dK with T:=eM.1}}})))) λWX=>cn ((a0.c.R !=0)) (tr (bH n a0 a0.c.R 1) (λG9=>(.error G9)) λ_=>WX ()) (WX ())
def sO(n:Nat):CT:=cX (tW n [(6, .join [(.via 0,dz)] [])] [br n,bf n,cz n,JR n,dc n,jD n]) ⟨177,[], .cons dz .nil, .cons (.v (.st 2)) (.cons dz .nil),[some 0,none],(.cons (.jT 31 (.v (.int .i64))) .nil),[],[[0]]⟩ (λx=>ia n (g7 x)) (λy=>(y.1,g7 y.2)) (λz=>(z.1,(h7 z.2 ()))) u1 m1
def eJ(n:Nat)(a0:aq)(a1:Int):Option (Except Int aP):=bd (eD n a0.aG.dK.T a1) λbS=>tr (dI n bS.2) (λOc=>(.error Oc)) λ_=>some (.ok bS.1)
def iA(n:Nat):CT:=cX (tW n [] [br n,bf n,fJ n,dc n]) ⟨203,[(212, .st (.part 952 (.v (.st 19)) (.part 1 (.v (.int .i64)) (.part 6 (.v (.st 3)) (.part 2 (.v (.st 4)) (.part 1 (.v (.int .i64)) (.part 1 (.v .bool) (.part 1 (.row 158 2 (.st 4)) .nil))))))))], .cons (.bU 0) (.cons (.v (.int .u32)) .nil), .cons (.v (.st 6)) .nil,[],(.cons (.jT 31 (.v (.int .i64))) .nil),[],[]⟩ (λx=>eJ n (g7 x) x.2.2.2.2.2.2.2.1) u1 m1 u1 m1
def gh(n:Nat)(a0:aq)(a1:Int)(a2:aP):Option (Except Int aq):=bd (iN n a0.aG.dK.T a1 a2) λbS=>tr (dI n bS.2) (λOc=>(.error Oc)) λ_=>some (.ok ({a0 with aG:={a0.aG with dK:={a0.aG.dK with T:=bS.1}}}))
def sM(n:Nat):CT:=cX (tW n [] [br n,bf n,oH n,dc n]) ⟨208,[], .cons dz (.cons (.v (.int .u32)) (.cons (.v (.st 6)) .nil)), .cons (.jv .nil) (.cons dz .nil),[some 0,none],(.cons (.jT 31 (.v (.int .i64))) .nil),[],[[0]]⟩ (λx=>gh n (g7 x) x.2.2.2.2.2.2.2.1 x.2.2.2.2.2.2.2.2.1) (λy=>g7 y) (λz=>(h7 z ())) u1 m1
def dm(n:Nat)(a0:aq):Option (Except Int (ah×aq)):=bd (pz n (wr .i64 (if 129<a0.c.A then 129 else a0.c.A)) (wr .i64 (if 9<a0.c.B then 9 else a0.c.B))) λaA=>tc aA.2 (.error 2)<|tr (bH n a0 a0.c.R 1) (λG9=>(.error G9)) λ_=>tr (eJ n a0 a0.c.R) (λKV=>(.error KV)) λcE=>lt (λ(jS:aP) (gA:aq)=>bd (gL n jS.E (wr .i64 (if 129<a0.c.A then 129 else a0.c.A)) (wr .i64 (if 9<a0.c.B then 9 else a0.c.B))) λCW=>lt ({jS with E:=CW.1}:aP) λXi=>tr (gh n gA gA.c.R Xi) (λVk=>(.error Vk)) λFT=>lt ({E:=0,V:=wr .u64 CW.2.1,W:=0}:ah) λx99=>some (.ok (x99,FT))) λj45=>bd (gj n cE.E (wr .i64 (if 129<a0.c.A then 129 else a0.c.A)) (wr .i64 (if 9<a0.c.B then 9 else a0.c.B))) λzQ=>cn ((!zQ.2)) (bd (cR n cE.E) λCX=>tc (decide ((wr .i64 (CX+aA.1))<=cE.gF)) (.error 6)<|cn (({a0 with kP:=aA.1}).y9) (lt ({E:=0,V:=0,W:=0}:ah) λFV=>some (.ok (FV,{a0 with kP:=aA.1}))) (bd (fj n cE.E (({a0 with kP:=aA.1}).run)) λzB=>lt ({cE with E:=zB}:aP) λJM=>cl (((({a0 with kP:=aA.1}).run.N)==aA.1)==true) (fN n JM.E) default λM6=>tc (((({a0 with kP:=aA.1}).run.N)==aA.1)&&M6) (.error 2)<|j45 JM ({a0 with kP:=aA.1}))) (j45 cE a0)
def qy(n:Nat):CT:=cX (tW n [(28, .join [(.via 7, .box 69 (.v (.st 6))),(.via 0,dz),(.via 2, .box 55 (.v (.st 2)))] [])] [br n,bf n,F9 n,cz n,iA n,qz n,iB n,ym n,rJ n,zX n,sM n]) ⟨178,[], .cons dz .nil, .cons (.v (.st 2)) (.cons dz .nil),[some 0,none],(.cons (.jT 31 (.v (.int .i64))) .nil),[],[[0]]⟩ (λx=>dm n (g7 x)) (λy=>(y.1,g7 y.2)) (λz=>(z.1,(h7 z.2 ()))) u1 m1
def qC(n:Nat)(a0:aP)(a1:aC):Option (Except Int Unit):=tc (decide ((wr .i64 a1.A)<=(wr .i64 (a0.E.ep-(wr .i64 a1.B))))) (.error 9)<|some (.ok ())
def Aw(n:Nat):CT:=cT (tW n [] [br n,bf n]) 210 [.s 6, .s 3] [.jv .nil] 31 (a2 (qC n)) (λ_ =>()) (λ_ =>())
def qB(n:Nat)(a0:aC):Option (Except Int Unit):=tc (decide (1<=a0.B)&&decide (a0.B<=8)) (.error 2)<|some (.ok ())
def Av(n:Nat):CT:=cT (tW n [] [br n,bf n]) 209 [.s 3] [.jv .nil] 31 (a1 (qB n)) (λ_ =>()) (λ_ =>())
def gK(n:Nat)(a0:aq):Option (Except Int ah):=tr (qB n a0.c) (λn6=>(.error n6)) λ_=>tr (bH n a0 a0.c.R 0) (λyW=>(.error yW)) λ_=>tr (eJ n a0 a0.c.R) (λG9=>(.error G9)) λbS=>tr (qC n bS a0.c) (λacI=>(.error acI)) λ_=>lt ({E:=0,V:=0,W:=0}:ah) λjk=>some (.ok jk)
def rB(n:Nat):CT:=cX (tW n [] [br n,bf n,Av n,cz n,iA n,Aw n]) ⟨179,[(212, .st (.part 952 (.v (.st 19)) (.part 1 (.v (.int .i64)) (.part 6 (.v (.st 3)) (.part 2 (.v (.st 4)) (.part 1 (.v (.int .i64)) (.part 1 (.v .bool) (.part 1 (.row 158 2 (.st 4)) .nil))))))))], .cons (.bU 0) .nil, .cons (.v (.st 2)) .nil,[],(.cons (.jT 31 (.v (.int .i64))) .nil),[],[]⟩ (λx=>gK n (g7 x)) u1 m1 u1 m1
def ga(n:Nat)(a0:aq):Option (Except Int ah):=tr (qB n a0.c) (λn6=>(.error n6)) λ_=>tr (bH n a0 a0.c.R 1) (λyW=>(.error yW)) λ_=>tr (eJ n a0 a0.c.R) (λG9=>(.error G9)) λbS=>tr (qC n bS a0.c) (λacI=>(.error acI)) λ_=>lt ({E:=0,V:=0,W:=0}:ah) λjk=>some (.ok jk)
def qn(n:Nat):CT:=cX (tW n [] [br n,bf n,Av n,cz n,iA n,Aw n]) ⟨180,[(212, .st (.part 952 (.v (.st 19)) (.part 1 (.v (.int .i64)) (.part 6 (.v (.st 3)) (.part 2 (.v (.st 4)) (.part 1 (.v (.int .i64)) (.part 1 (.v .bool) (.part 1 (.row 158 2 (.st 4)) .nil))))))))], .cons (.bU 0) .nil, .cons (.v (.st 2)) .nil,[],(.cons (.jT 31 (.v (.int .i64))) .nil),[],[]⟩ (λx=>ga n (g7 x)) u1 m1 u1 m1
def nU(n:Nat)(a0:aq):Option (Except Int (ah×aq)):=tr (bH n a0 a0.c.R 1) (λn6=>(.error n6)) λ_=>tr (eJ n a0 a0.c.R) (λyW=>(.error yW)) λaR=>gu (gN a0.fD.length aR.E.aL.length 16)<|lt (a0.fD++aR.E.aL:List av) λfV=>lt ({Up:=0,gF:=aR.gF,E:=cB,qQ:=(λ_ =>0)}:aP) λgy=>tr (gh n ({a0 with fD:=fV}) (({a0 with fD:=fV}).c.R) gy) (λah5=>(.error ah5)) λxw=>lt ({E:=0,V:=0,W:=0}:ah) λqc=>some (.ok (qc,xw))
def qt(n:Nat):CT:=cX (tW n [] [br n,bf n,cz n,iA n,sM n]) ⟨181,[], .cons dz .nil, .cons (.v (.st 2)) (.cons dz .nil),[some 0,none],(.cons (.jT 31 (.v (.int .i64))) .nil),[],[[0]]⟩ (λx=>nU n (g7 x)) (λy=>(y.1,g7 y.2)) (λz=>(z.1,(h7 z.2 ()))) u1 m1
def ni(n:Nat)(a0:aq):Option (Except Int (ah×aq)):=tr (bH n a0 a0.c.R 2) (λn6=>(.error n6)) λ_=>bd (iX n a0 a0.c.R) λaR=>lt ({E:=0,V:=0,W:=0}:ah) λeU=>some (.ok (eU,aR))
def pO(n:Nat):CT:=cX (tW n [] [br n,bf n,cz n,m0 n]) ⟨182,[], .cons dz .nil, .cons (.v (.st 2)) (.cons dz .nil),[some 0,none],(.cons (.jT 31 (.v (.int .i64))) .nil),[],[[0]]⟩ (λx=>ni n (g7 x)) (λy=>(y.1,g7 y.2)) (λz=>(z.1,(h7 z.2 ()))) u1 m1
def lD(n:Nat)(a0:aq)(a1:Int):Option (Except Int aq):=bd (GZ n a0.aG.dK.T a1) λbS=>tr (dI n bS.2) (λOc=>(.error Oc)) λ_=>some (.ok ({a0 with aG:={a0.aG with dK:={a0.aG.dK with T:=bS.1}}}))
def mZ(n:Nat):CT:=cX (tW n [] [br n,bf n,JS n,dc n]) ⟨213,[], .cons dz (.cons (.v (.int .u32)) .nil), .cons (.jv .nil) (.cons dz .nil),[some 0,none],(.cons (.jT 31 (.v (.int .i64))) .nil),[],[[0]]⟩ (λx=>lD n (g7 x) x.2.2.2.2.2.2.2.1) (λy=>g7 y) (λz=>(h7 z ())) u1 m1
def pV(n:Nat)(a0:aq):Option (Except Int (ah×aq)):=tr (bH n a0 a0.c.R 2) (λn6=>(.error n6)) λ_=>bd (jc n a0.aG.dK.T a0.c.R) λcE=>tc (cE !=a0.c.R) (.error 12)<|tr (lD n a0 a0.c.R) (λacJ=>(.error acJ)) λeM=>tr (iW n eM eM.c.R eM.fK) (λah8=>(.error ah8)) λdL=>lt ({E:=0,V:=0,W:=0}:ah) λzQ=>some (.ok (zQ,dL))
def sP(n:Nat):CT:=cX (tW n [] [br n,bf n,cz n,gV n,mZ n,jD n]) ⟨183,[], .cons dz .nil, .cons (.v (.st 2)) (.cons dz .nil),[some 0,none],(.cons (.jT 31 (.v (.int .i64))) .nil),[],[[0]]⟩ (λx=>pV n (g7 x)) (λy=>(y.1,g7 y.2)) (λz=>(z.1,(h7 z.2 ()))) u1 m1
def nV(n:Nat)(a0:aq):Option (Except Int (ah×aq)):=tr (bH n a0 a0.c.R 2) (λn6=>(.error n6)) λ_=>tr (bH n a0 a0.c.S 1) (λyW=>(.error yW)) λ_=>bd (Cr n a0.aG.dK.T a0.c.R a0.c.S) λdU=>tr (dI n dU.2) (λaia=>(.error aia)) λ_=>lt ({E:=0,V:=0,W:=0}:ah) λjU=>some (.ok (jU,{a0 with aG:={a0.aG with dK:={a0.aG.dK with T:=dU.1}}}))
def qu(n:Nat):CT:=cX (tW n [] [br n,bf n,cz n,F7 n,dc n]) ⟨184,[], .cons dz .nil, .cons (.v (.st 2)) (.cons dz .nil),[some 0,none],(.cons (.jT 31 (.v (.int .i64))) .nil),[],[[0]]⟩ (λx=>nV n (g7 x)) (λy=>(y.1,g7 y.2)) (λz=>(z.1,(h7 z.2 ()))) u1 m1
def nh(n:Nat)(a0:aq):Option (Except Int (ah×aq)):=tr (bH n a0 a0.c.R 2) (λn6=>(.error n6)) λ_=>tr (lD n a0 a0.c.R) (λyW=>(.error yW)) λaR=>bd (xk n aR.aG.dK.O aR.aG.dK.T aR.c.R aR.fK) λfV=>tr (dI n fV.2) (λacH=>(.error acH)) λ_=>lt ({E:=0,V:=0,W:=0}:ah) λrP=>some (.ok (rP,{aR with aG:={aR.aG with dK:={aR.aG.dK with O:=fV.1}}}))
def pN(n:Nat):CT:=cX (tW n [] [br n,bf n,cz n,mZ n,BQ n,dc n]) ⟨185,[], .cons dz .nil, .cons (.v (.st 2)) (.cons dz .nil),[some 0,none],(.cons (.jT 31 (.v (.int .i64))) .nil),[],[[0]]⟩ (λx=>nh n (g7 x)) (λy=>(y.1,g7 y.2)) (λz=>(z.1,(h7 z.2 ()))) u1 m1
def kz(n:Nat)(a0:aq)(a1:Int):Option (Except Int Unit):=bd (aJ n a0.aG.dK.T.fC.kU a1) λaA=>tc aA (.error 4)<|bd (jX n a0.aG.dK.O a0.aG.dK.T a1) λdU=>bd (jc n a0.aG.dK.T a1) λeS=>tc ((eS==a1)&&(dU.xP==3)) (.error 12)<|gu (decide (0<=a0.fK))<|tc ((r8 .u8 (z6 .u8 dU.ji a0.fK) 1)==1) (.error 5)<|some (.ok ())
def lT(n:Nat):CT:=cX (tW n [] [br n,bf n,aT n,jl n,gV n]) ⟨217,[(212, .st (.part 952 (.v (.st 19)) (.part 1 (.v (.int .i64)) (.part 6 (.v (.st 3)) (.part 2 (.v (.st 4)) (.part 1 (.v (.int .i64)) (.part 1 (.v .bool) (.part 1 (.row 158 2 (.st 4)) .nil))))))))], .cons (.bU 0) (.cons (.v (.int .u32)) .nil), .cons (.jv .nil) .nil,[],(.cons (.jT 31 (.v (.int .i64))) .nil),[],[]⟩ (λx=>kz n (g7 x) x.2.2.2.2.2.2.2.1) (λ_ =>()) (λ_ =>()) u1 m1
def iu(n:Nat)(a0:aq)(a1:Int):Option (Except Int Unit):=gu (!((decide (a1<8))==true)||dk a1 8)<|tc (decide (a1<8)&&(a0.aG.mF (Int.toNat a1))) (.error 2)<|some (.ok ())
def iQ(n:Nat):CT:=cX (tW n [] [br n,bf n]) ⟨216,[(212, .st (.part 952 (.v (.st 19)) (.part 1 (.v (.int .i64)) (.part 6 (.v (.st 3)) (.part 2 (.v (.st 4)) (.part 1 (.v (.int .i64)) (.part 1 (.v .bool) (.part 1 (.row 158 2 (.st 4)) .nil))))))))], .cons (.bU 0) (.cons (.v (.int .u32)) .nil), .cons (.jv .nil) .nil,[],(.cons (.jT 31 (.v (.int .i64))) .nil),[],[]⟩ (λx=>iu n (g7 x) x.2.2.2.2.2.2.2.1) (λ_ =>()) (λ_ =>()) u1 m1
def nT(n:Nat)(a0:aq):Option (Except Int (ah×aq)):=tr (iu n a0 a0.c.A) (λn6=>(.error n6)) λ_=>tr (kz n a0 a0.c.R) (λyW=>(.error yW)) λ_=>bd (uR n a0.aG.dK.O a0.aG.dK.T a0.c.R (wr .i64 a0.c.A)) λdU=>tr (dI n dU.2) (λacJ=>(.error acJ)) λ_=>lt ({E:=0,V:=0,W:=0}:ah) λeo=>some (.ok (eo,{a0 with aG:={a0.aG with dK:={a0.aG.dK with O:=dU.1}}}))
def qp(n:Nat):CT:=cX (tW n [] [br n,bf n,iQ n,lT n,w5 n,dc n]) ⟨186,[], .cons dz .nil, .cons (.v (.st 2)) (.cons dz .nil),[some 0,none],(.cons (.jT 31 (.v (.int .i64))) .nil),[],[[0]]⟩ (λx=>nT n (g7 x)) (λy=>(y.1,g7 y.2)) (λz=>(z.1,(h7 z.2 ()))) u1 m1
def o8(n:Nat)(a0:aq):Option (Except Int (ah×aq)):=tr (kz n a0 a0.c.R) (λn6=>(.error n6)) λ_=>tr (nW n a0 a0.c.R a0.fK) (λyW=>(.error yW)) λaR=>lt ({E:=0,V:=0,W:=0}:ah) λeU=>some (.ok (eU,aR))
def rF(n:Nat):CT:=cX (tW n [] [br n,bf n,lT n,qv n]) ⟨187,[], .cons dz .nil, .cons (.v (.st 2)) (.cons dz .nil),[some 0,none],(.cons (.jT 31 (.v (.int .i64))) .nil),[],[[0]]⟩ (λx=>o8 n (g7 x)) (λy=>(y.1,g7 y.2)) (λz=>(z.1,(h7 z.2 ()))) u1 m1
def o5(n:Nat)(a0:aq):Option (Except Int (ah×aq)):=tr (iu n a0 a0.c.A) (λn6=>(.error n6)) λ_=>tc (decide (a0.c.B<=1)) (.error 2)<|bd (aJ n a0.aG.dK.T.fC.kU a0.c.R) λbS=>tc bS (.error 4)<|lt (λ(u25:Unit)=>lt ({Region:=a0.c.R,By:=wr .u8 a0.fK,To:=wr .u8 a0.c.A,mW:=(a0.c.B==1),uJ:=a0.c.S}:bC) λcI=>bd (ud n a0.aG.dK.K cI) λfV=>tr (dI n fV.2.2) (λacH=>(.error acH)) λ_=>lt ({E:=0,V:=0,W:=fV.2.1}:ah) λrP=>some (.ok (rP,{a0 with aG:={a0.aG with dK:={a0.aG.dK with K:=fV.1}}}))) λj26=>cn ((a0.c.S==0)) (bd (jX n a0.aG.dK.O a0.aG.dK.T a0.c.R) λic=>tc ((ic.xP==1)&&((wr .i64 ic.jW)==a0.fK)) (.error 5)<|j26 ()) (bd (cW n a0.aG.dK.K a0.c.S) λdP=>tr (dI n dP.2) (λOc=>(.error Oc)) λ_=>tc (((wr .i64 dP.1.To)==a0.fK)&&(dP.1.Region==a0.c.R)) (.error 5)<|j26 ())
def rC(n:Nat):CT:=cX (tW n [(20, .join [] [])] [br n,bf n,iQ n,aT n,jl n,ew n,dc n,zT n]) ⟨188,[], .cons dz .nil, .cons (.v (.st 2)) (.cons dz .nil),[some 0,none],(.cons (.jT 31 (.v (.int .i64))) .nil),[],[[0]]⟩ (λx=>o5 n (g7 x)) (λy=>(y.1,g7 y.2)) (λz=>(z.1,(h7 z.2 ()))) u1 m1
def lu(n:Nat)(a0:aq):Option (Except Int (ah×aq)):=bd (cW n a0.aG.dK.K a0.c.S) λaA=>tr (dI n aA.2) (λyW=>(.error yW)) λ_=>tc ((wr .i64 aA.1.To)==a0.fK) (.error 5)<|bd (gP n a0.aG.dK.K a0.c.S) λcE=>lt ({E:=0,V:=0,W:=0}:ah) λcI=>some (.ok (cI,{a0 with aG:={a0.aG with dK:={a0.aG.dK with K:=cE.1}}}))
def og(n:Nat):CT:=cX (tW n [] [br n,bf n,ew n,dc n,pM n]) ⟨189,[], .cons dz .nil, .cons (.v (.st 2)) (.cons dz .nil),[some 0,none],(.cons (.jT 31 (.v (.int .i64))) .nil),[],[[0]]⟩ (λx=>lu n (g7 x)) (λy=>(y.1,g7 y.2)) (λz=>(z.1,(h7 z.2 ()))) u1 m1
def Ci(n:Nat)(a0:cm)(a1:aU):Option (cm×Int):=cn (a0.closed) (some (a0,11)) (cn ((a0.n==4)) (some (a0,7)) (bd (ur n a0 a0.n) λaA=>gu (dk aA 4)<|lt ({a0 with ring:=(iC a0.ring (Int.toNat aA) a1)}:cm) λbS=>lt ({bS with n:=wr .i64 (bS.n+1)}:cm) λcE=>some (cE,0)))
def F5(n:Nat):CT:=cV (tW n [] [uN n]) (kF 224 [.s 18, .s 17] [.t [.s 18, .i]]) (a2 (Ci n)) u2 m2
def oZ(n:Nat)(a0:aq):Option (Except Int (ah×aq)):=tr (iu n a0 a0.c.A) (λn6=>(.error n6)) λ_=>tc (decide (a0.c.B<=1)) (.error 2)<|lt ({HZ:=wr .u8 a0.fK,Iz:=a0.c.V,Region:=a0.c.R,zi:=((a0.c.R !=0)&&(a0.c.B==1))}:aU) λbS=>lt (λ(eM:aq)=>gu (dk eM.c.A 8)<|bd (Ci n (eM.aG.kT (Int.toNat eM.c.A)) bS) λzB=>tr (dI n zB.2) (λah3=>(.error ah3)) λ_=>gu (dk eM.c.A 8)<|lt ({E:=0,V:=0,W:=0}:ah) λSe=>some (.ok (Se,{eM with aG:={eM.aG with kT:=(iC eM.aG.kT (Int.toNat eM.c.A) zB.1)}}))) λWW=>cn (bS.zi) (tr (kz n a0 a0.c.R) (λaib=>(.error aib)) λ_=>bd (uR n a0.aG.dK.O a0.aG.dK.T a0.c.R (wr .i64 a0.c.A)) λjS=>cn ((jS.2==0)) (WW ({a0 with aG:={a0.aG with dK:={a0.aG.dK with O:=jS.1}}})) (WW a0)) (cn ((a0.c.R !=0)) (tr (bH n a0 a0.c.R 2) (λah7=>(.error ah7)) λ_=>tr (lD n a0 a0.c.R) (λah6=>(.error ah6)) λgy=>bd (Ca n gy.aG.dK.O gy.aG.dK.T gy.c.R) λlA=>tr (dI n lA.2) (λah4=>(.error ah4)) λ_=>WW ({gy with aG:={gy.aG with dK:={gy.aG.dK with O:=lA.1}}})) (WW a0))
def rz(n:Nat):CT:=cX (tW n [(30, .join [(.via 0,dz)] [])] [br n,bf n,iQ n,lT n,w5 n,cz n,mZ n,F1 n,dc n,F5 n]) ⟨190,[], .cons dz .nil, .cons (.v (.st 2)) (.cons dz .nil),[some 0,none],(.cons (.jT 31 (.v (.int .i64))) .nil),[],[[0]]⟩ (λx=>oZ n (g7 x)) (λy=>(y.1,g7 y.2)) (λz=>(z.1,(h7 z.2 ()))) u1 m1
def AH(n:Nat)(a0:cm):Option (cm×aU×Int):=cn (((a0.n==0)&&a0.closed)) (lt ({HZ:=0,Iz:=0,Region:=0,zi:=false}:aU) λaA=>some (a0,aA,11)) (cn ((a0.n==0)) (lt ({HZ:=0,Iz:=0,Region:=0,zi:=false}:aU) λaR=>some (a0,aR,10)) (gu (dk a0.xo 4)<|lt ((a0.ring (Int.toNat a0.xo)):aU) λcE=>bd (ur n a0 1) λdU=>lt ({a0 with xo:=dU}:cm) λeM=>lt ({eM with n:=wr .i64 (a0.n-1)}:cm) λdB=>some (dB,cE,0)))
def EM(n:Nat):CT:=cV (tW n [] [uN n]) (kF 225 [.s 18] [.t [.s 18, .s 17, .i]]) (a1 (AH n)) u3 m3
def iV(n:Nat)(a0:aq):Option (Except Int (ah×aq)):=gu (dk a0.fK 8)<|bd (AH n (a0.aG.kT (Int.toNat a0.fK))) λaR=>tr (dI n aR.2.2) (λG9=>(.error G9)) λ_=>gu (dk a0.fK 8)<|cn (((aR.2.1.Region !=0)&&(!aR.2.1.zi))) (tr (iW n ({a0 with aG:={a0.aG with kT:=(iC a0.aG.kT (Int.toNat a0.fK) aR.1)}}) aR.2.1.Region (({a0 with aG:={a0.aG with kT:=(iC a0.aG.kT (Int.toNat a0.fK) aR.1)}}).fK)) (λaic=>(.error aic)) λeS=>lt ({E:=0,V:=aR.2.1.Iz,W:=aR.2.1.Region}:ah) λgA=>some (.ok (gA,eS))) (lt ({E:=0,V:=aR.2.1.Iz,W:=aR.2.1.Region}:ah) λgy=>some (.ok (gy,{a0 with aG:={a0.aG with kT:=(iC a0.aG.kT (Int.toNat a0.fK) aR.1)}})))
def rA(n:Nat):CT:=cX (tW n [] [br n,bf n,EM n,dc n,jD n]) ⟨191,[], .cons dz .nil, .cons (.v (.st 2)) (.cons dz .nil),[some 0,none],(.cons (.jT 31 (.v (.int .i64))) .nil),[],[[0]]⟩ (λx=>iV n (g7 x)) (λy=>(y.1,g7 y.2)) (λz=>(z.1,(h7 z.2 ()))) u1 m1
def yJ(n:Nat)(a0:cm):Option (cm×Int):=cn (a0.closed) (some (a0,11)) (lt ({a0 with closed:=true}:cm) λaA=>some (aA,0))
def Dg(n:Nat):CT:=cV (tW n [] []) (kF 226 [.s 18] [.t [.s 18, .i]]) (a1 (yJ n)) u2 m2
def nY(n:Nat)(a0:aq):Option (Except Int (ah×aq)):=gu (dk a0.fK 8)<|bd (yJ n (a0.aG.kT (Int.toNat a0.fK))) λaR=>tr (dI n aR.2) (λG9=>(.error G9)) λ_=>gu (dk a0.fK 8)<|lt ({E:=0,V:=0,W:=0}:ah) λeS=>some (.ok (eS,{a0 with aG:={a0.aG with kT:=(iC a0.aG.kT (Int.toNat a0.fK) aR.1)}}))
def qx(n:Nat):CT:=cX (tW n [] [br n,bf n,Dg n,dc n]) ⟨192,[], .cons dz .nil, .cons (.v (.st 2)) (.cons dz .nil),[some 0,none],(.cons (.jT 31 (.v (.int .i64))) .nil),[],[[0]]⟩ (λx=>nY n (g7 x)) (λy=>(y.1,g7 y.2)) (λz=>(z.1,(h7 z.2 ()))) u1 m1
def pU(n:Nat)(a0:aq):Option (Except Int (ah×aq)):=tr (bH n a0 a0.c.R 1) (λn6=>(.error n6)) λ_=>lt (λ(u22:Unit)=>bd (jX n a0.aG.dK.O a0.aG.dK.T a0.c.S) λic=>bd (MD n a0.aG.dK.T a0.c.R (wr .i64 (if 8<a0.c.A then 8 else a0.c.A)) a0.c.S (ic.xP==3)) λeo=>tr (dI n eo.2) (λacG=>(.error acG)) λ_=>lt ({E:=0,V:=0,W:=0}:ah) λxR=>some (.ok (xR,{a0 with aG:={a0.aG with dK:={a0.aG.dK with T:=eo.1}}}))) λj23=>cn ((a0.c.S !=0)) (tr (bH n a0 a0.c.S 0) (λKV=>(.error KV)) λ_=>j23 ()) (j23 ())
def sN(n:Nat):CT:=cX (tW n [(8, .join [(.via 0,dz)] [])] [br n,bf n,cz n,jl n,Nc n,dc n]) ⟨193,[], .cons dz .nil, .cons (.v (.st 2)) (.cons dz .nil),[some 0,none],(.cons (.jT 31 (.v (.int .i64))) .nil),[],[[0]]⟩ (λx=>pU n (g7 x)) (λy=>(y.1,g7 y.2)) (λz=>(z.1,(h7 z.2 ()))) u1 m1
def nX(n:Nat)(a0:aq):Option (Except Int ah):=tr (bH n a0 a0.c.R 0) (λn6=>(.error n6)) λ_=>bd (Hl n a0.aG.dK.T a0.c.R (wr .i64 (if 8<a0.c.A then 8 else a0.c.A))) λcE=>tr (dI n cE.2) (λacK=>(.error acK)) λ_=>lt ({E:=0,V:=0,W:=cE.1}:ah) λeM=>some (.ok eM)
def qw(n:Nat):CT:=cX (tW n [] [br n,bf n,cz n,JU n,dc n]) ⟨194,[(212, .st (.part 952 (.v (.st 19)) (.part 1 (.v (.int .i64)) (.part 6 (.v (.st 3)) (.part 2 (.v (.st 4)) (.part 1 (.v (.int .i64)) (.part 1 (.v .bool) (.part 1 (.row 158 2 (.st 4)) .nil))))))))], .cons (.bU 0) .nil, .cons (.v (.st 2)) .nil,[],(.cons (.jT 31 (.v (.int .i64))) .nil),[],[]⟩ (λx=>nX n (g7 x)) u1 m1 u1 m1
def o7(n:Nat)(a0:aq):Option (Except Int (ah×aq)):=tr (o9 n a0 a0.fK) (λn6=>(.error n6)) λaA=>lt ({E:=0,V:=0,W:=0}:ah) λjk=>some (.ok (jk,aA))
def rE(n:Nat):CT:=cX (tW n [] [br n,bf n,rG n]) ⟨195,[], .cons dz .nil, .cons (.v (.st 2)) (.cons dz .nil),[some 0,none],(.cons (.jT 31 (.v (.int .i64))) .nil),[],[[0]]⟩ (λx=>o7 n (g7 x)) (λy=>(y.1,g7 y.2)) (λz=>(z.1,(h7 z.2 ()))) u1 m1
def o6(n:Nat)(a0:aq):Option (Except Int (ah×aq)):=tr (iu n a0 a0.c.A) (λn6=>(.error n6)) λ_=>tr (o9 n a0 (wr .i64 a0.c.A)) (λyW=>(.error yW)) λaR=>lt ({E:=0,V:=0,W:=0}:ah) λeU=>some (.ok (eU,aR))
def rD(n:Nat):CT:=cX (tW n [] [br n,bf n,iQ n,rG n]) ⟨196,[], .cons dz .nil, .cons (.v (.st 2)) (.cons dz .nil),[some 0,none],(.cons (.jT 31 (.v (.int .i64))) .nil),[],[[0]]⟩ (λx=>o6 n (g7 x)) (λy=>(y.1,g7 y.2)) (λz=>(z.1,(h7 z.2 ()))) u1 m1
def nS(n:Nat)(a0:aq):Option (Except Int (ah×aq)):=gu (!((decide (a0.c.A<8))==true)||dk (Int.tmod a0.c.A 8) 8)<|tc (decide (a0.c.A<8)&&(!(a0.aG.Fm (Int.toNat (Int.tmod a0.c.A 8))))) (.error 2)<|gu (dk a0.c.A 8)<|gu (dk a0.c.A 8)<|lt ({E:=0,V:=0,W:=0}:ah) λdP=>some (.ok (dP,{({a0 with aG:={a0.aG with mF:=(iC a0.aG.mF (Int.toNat a0.c.A) true)}})with aG:={({a0 with aG:={a0.aG with mF:=(iC a0.aG.mF (Int.toNat a0.c.A) true)}}).aG with Fm:=(iC ((({a0 with aG:={a0.aG with mF:=(iC a0.aG.mF (Int.toNat a0.c.A) true)}}).aG).Fm) (Int.toNat a0.c.A) true)}}))
def qo(n:Nat):CT:=cX (tW n [] [br n,bf n]) ⟨197,[], .cons dz .nil, .cons (.v (.st 2)) (.cons dz .nil),[some 0,none],(.cons (.jT 31 (.v (.int .i64))) .nil),[],[[0]]⟩ (λx=>nS n (g7 x)) (λy=>(y.1,g7 y.2)) (λz=>(z.1,(h7 z.2 ()))) u1 m1
end
end Go.Proofs.Z
namespace Go.Proofs.Z
open Go Go.Bw Go.Rw Go.RowKit
abbrev aac:=Nat->aq->Option (Except Int (ah×aq))
def GC(g:Nat->aq->Option (Except Int ah)):aac:=λn a=>match g n a with
 |some (.ok r)=>some (.ok (r,a))
 |some (.error e)=>some (.error e)
 |none=>none
def Mu:List (Int×Nat×aac):=[(1,177,ia),(2,178,dm),(3,179,GC gK),(4,180,GC ga),(5,181,nU),(6,182,ni),(7,183,pV),(8,184,nV),(9,185,nh),(10,186,nT),(11,187,o8),(12,188,o5),(13,189,lu),(14,190,oZ),(15,191,iV),(16,191,iV),(17,192,nY),(18,193,pU),(19,194,GC nX),(20,195,o7),(21,196,o6),(22,197,nS)]
def Hg(k:Int):Option (Int×Nat×aac):=Mu.find? λx=>k==x.1
def bO(n:Nat)(a0:aq):Option (ah×Option aq):=
 gu (!((decide (0<=a0.fK)&&decide (a0.fK<8))==true)||dk (r8 .i64 a0.fK 7) 8)<|
 tc ((decide (0<=a0.fK)&&decide (a0.fK<8))&&(a0.aG.mF (Int.toNat (r8 .i64 a0.fK 7)))) (⟨12,0,0⟩,none)<|
 match Hg a0.c.Do with
 |none=>some (⟨2,0,0⟩,none)
 |some x=>tr (x.2.2 n a0) (λe=>(⟨e,0,0⟩,none)) λy=>some (y.1,some y.2)
def mC{Z:Type}(m:Option (Except Int (ah×aq)))(KO:ah->aq->Option Z)(KE:Int->Option Z):Option Z:=bd m λr=>match r with
 | .ok z=>KO z.1 z.2
 | .error e=>KE e
def kC{Z:Type}(m:Option (Except Int ah))(a:aq)(KO:ah->aq->Option Z)(KE:Int->Option Z):Option Z:=bd m λr=>match r with
 | .ok z=>KO z a
 | .error e=>KE e
def cD{Z:Type}(n:Nat)(a:aq)(KO:ah->aq->Option Z)(KM KK:Int->Option Z)(KN:Option Z):Option Z:=cn (a.c.Do==1) (mC (ia n a) KO KM)<|cn (a.c.Do==2) (mC (dm n a) KO KM)<|cn (a.c.Do==3) (kC (gK n a) a KO KK)<|cn (a.c.Do==4) (kC (ga n a) a KO KK)<|cn (a.c.Do==5) (mC (nU n a) KO KM)<|cn (a.c.Do==6) (mC (ni n a) KO KM)<|cn (a.c.Do==7) (mC (pV n a) KO KM)<|cn (a.c.Do==8) (mC (nV n a) KO KM)<|cn (a.c.Do==9) (mC (nh n a) KO KM)<|cn (a.c.Do==10) (mC (nT n a) KO KM)<|cn (a.c.Do==11) (mC (o8 n a) KO KM)<|cn (a.c.Do==12) (mC (o5 n a) KO KM)<|cn (a.c.Do==13) (mC (lu n a) KO KM)<|cn (a.c.Do==14) (mC (oZ n a) KO KM)<|cn (a.c.Do==15) (mC (iV n a) KO KM)<|cn (a.c.Do==16) (mC (iV n a) KO KM)<|cn (a.c.Do==17) (mC (nY n a) KO KM)<|cn (a.c.Do==18) (mC (pU n a) KO KM)<|cn (a.c.Do==19) (kC (nX n a) a KO KK)<|cn (a.c.Do==20) (mC (o7 n a) KO KM)<|cn (a.c.Do==21) (mC (o6 n a) KO KM)<|cn (a.c.Do==22) (mC (nS n a) KO KM)<|KN
def cA{Z:Type}(n:Nat)(a:aq)(KO:ah->aq->Option Z)(KM KK:Int->Option Z)(KN KA:Option Z):Option Z:=gu (!((decide (0<=a.fK)&&decide (a.fK<8))==true)||dk (r8 .i64 a.fK 7) 8)<|cn ((decide (0<=a.fK)&&decide (a.fK<8))&&(a.aG.mF (Int.toNat (r8 .i64 a.fK 7)))) (cD n a KO KM KK KN) KA
theorem oM{Z:Type}{m:Option (Except Int (ah×aq))}{K:ah×Option aq->Option Z}{z:Z}(h:bd (tr m (λe=>(⟨e,0,0⟩,none)) λy=>some (y.1,some y.2)) K=some z):mC m (λr c=>K (r,some c)) (λe=>K (⟨e,0,0⟩,none))=some z:=by
 cases m with
 |none=>cases h
 |some r=>cases r<;>exact h
theorem SP{Z:Type}{g:Nat->aq->Option (Except Int ah)}{n:Nat}{a:aq}{K:ah×Option aq->Option Z}{KK:Int->Option Z}{z:Z}(hk:∀e,K (⟨e,0,0⟩,none)=some z->KK e=some z)(h:bd (tr (GC g n a) (λe=>(⟨e,0,0⟩,none)) λy=>some (y.1,some y.2)) K=some z):kC (g n a) a (λr c=>K (r,some c)) KK=some z:=by
 unfold GC at h;cases hm:g n a with
 |none=>rw[hm]at h;cases h
 |some r=>rw[hm]at h;cases r with
  |ok r=>exact h
  |error e=>exact hk e h
theorem af8{Z:Type}{n:Nat}{a:aq}{K:ah×Option aq->Option Z}{KK:Int->Option Z}{z:Z}(hk:∀e,K (⟨e,0,0⟩,none)=some z->KK e=some z)(h:bd (match Hg a.c.Do with
  |none=>some (⟨2,0,0⟩,none)
  |some x=>tr (x.2.2 n a) (λe=>(⟨e,0,0⟩,none)) λy=>some (y.1,some y.2)) K=some z):cD n a (λr c=>K (r,some c)) (λe=>K (⟨e,0,0⟩,none)) KK (K (⟨2,0,0⟩,none))=some z:=by
 unfold Hg Mu at h;unfold cD;rw[List.find?_cons]at h;dsimp only at h;cases h0:(a.c.Do==1)with
 |true=>rw[h0]at h;exact oM h
 |false=>
 rw[h0]at h;refine(rfl:cn false _ _ =_).trans ?_;rw[List.find?_cons]at h;dsimp only at h;cases h1:(a.c.Do==2)with
 |true=>rw[h1]at h;exact oM h
 |false=>
 rw[h1]at h;refine(rfl:cn false _ _ =_).trans ?_;rw[List.find?_cons]at h;dsimp only at h;cases h2:(a.c.Do==3)with
 |true=>rw[h2]at h;exact SP hk h
 |false=>
 rw[h2]at h;refine(rfl:cn false _ _ =_).trans ?_;rw[List.find?_cons]at h;dsimp only at h;cases h3:(a.c.Do==4)with
 |true=>rw[h3]at h;exact SP hk h
 |false=>
 rw[h3]at h;refine(rfl:cn false _ _ =_).trans ?_;rw[List.find?_cons]at h;dsimp only at h;cases h4:(a.c.Do==5)with
 |true=>rw[h4]at h;exact oM h
 |false=>
 rw[h4]at h;refine(rfl:cn false _ _ =_).trans ?_;rw[List.find?_cons]at h;dsimp only at h;cases h5:(a.c.Do==6)with
 |true=>rw[h5]at h;exact oM h
 |false=>
 rw[h5]at h;refine(rfl:cn false _ _ =_).trans ?_;rw[List.find?_cons]at h;dsimp only at h;cases h6:(a.c.Do==7)with
 |true=>rw[h6]at h;exact oM h
 |false=>
 rw[h6]at h;refine(rfl:cn false _ _ =_).trans ?_;rw[List.find?_cons]at h;dsimp only at h;cases h7:(a.c.Do==8)with
 |true=>rw[h7]at h;exact oM h
 |false=>
 rw[h7]at h;refine(rfl:cn false _ _ =_).trans ?_;rw[List.find?_cons]at h;dsimp only at h;cases h8:(a.c.Do==9)with
 |true=>rw[h8]at h;exact oM h
 |false=>
 rw[h8]at h;refine(rfl:cn false _ _ =_).trans ?_;rw[List.find?_cons]at h;dsimp only at h;cases h9:(a.c.Do==10)with
 |true=>rw[h9]at h;exact oM h
 |false=>
 rw[h9]at h;refine(rfl:cn false _ _ =_).trans ?_;rw[List.find?_cons]at h;dsimp only at h;cases h10:(a.c.Do==11)with
 |true=>rw[h10]at h;exact oM h
 |false=>
 rw[h10]at h;refine(rfl:cn false _ _ =_).trans ?_;rw[List.find?_cons]at h;dsimp only at h;cases h11:(a.c.Do==12)with
 |true=>rw[h11]at h;exact oM h
 |false=>
 rw[h11]at h;refine(rfl:cn false _ _ =_).trans ?_;rw[List.find?_cons]at h;dsimp only at h;cases h12:(a.c.Do==13)with
 |true=>rw[h12]at h;exact oM h
 |false=>
 rw[h12]at h;refine(rfl:cn false _ _ =_).trans ?_;rw[List.find?_cons]at h;dsimp only at h;cases h13:(a.c.Do==14)with
 |true=>rw[h13]at h;exact oM h
 |false=>
 rw[h13]at h;refine(rfl:cn false _ _ =_).trans ?_;rw[List.find?_cons]at h;dsimp only at h;cases h14:(a.c.Do==15)with
 |true=>rw[h14]at h;exact oM h
 |false=>
 rw[h14]at h;refine(rfl:cn false _ _ =_).trans ?_;rw[List.find?_cons]at h;dsimp only at h;cases h15:(a.c.Do==16)with
 |true=>rw[h15]at h;exact oM h
 |false=>
 rw[h15]at h;refine(rfl:cn false _ _ =_).trans ?_;rw[List.find?_cons]at h;dsimp only at h;cases h16:(a.c.Do==17)with
 |true=>rw[h16]at h;exact oM h
 |false=>
 rw[h16]at h;refine(rfl:cn false _ _ =_).trans ?_;rw[List.find?_cons]at h;dsimp only at h;cases h17:(a.c.Do==18)with
 |true=>rw[h17]at h;exact oM h
 |false=>
 rw[h17]at h;refine(rfl:cn false _ _ =_).trans ?_;rw[List.find?_cons]at h;dsimp only at h;cases h18:(a.c.Do==19)with
 |true=>rw[h18]at h;exact SP hk h
 |false=>
 rw[h18]at h;refine(rfl:cn false _ _ =_).trans ?_;rw[List.find?_cons]at h;dsimp only at h;cases h19:(a.c.Do==20)with
 |true=>rw[h19]at h;exact oM h
 |false=>
 rw[h19]at h;refine(rfl:cn false _ _ =_).trans ?_;rw[List.find?_cons]at h;dsimp only at h;cases h20:(a.c.Do==21)with
 |true=>rw[h20]at h;exact oM h
 |false=>
 rw[h20]at h;refine(rfl:cn false _ _ =_).trans ?_;rw[List.find?_cons]at h;dsimp only at h;cases h21:(a.c.Do==22)with
 |true=>rw[h21]at h;exact oM h
 |false=>
 rw[h21]at h;refine(rfl:cn false _ _ =_).trans ?_;exact h
theorem aaO{Z:Type}{n:Nat}{a:aq}{K:ah×Option aq->Option Z}{KK:Int->Option Z}{z:Z}(hk:∀e,K (⟨e,0,0⟩,none)=some z->KK e=some z)(h:bd (bO n a) K=some z):cA n a (λr c=>K (r,some c)) (λe=>K (⟨e,0,0⟩,none)) KK (K (⟨2,0,0⟩,none)) (K (⟨12,0,0⟩,none))=some z:=by
 unfold bO at h;unfold cA;cases h1:(!((decide (0<=a.fK)&&decide (a.fK<8))==true)||dk (r8 .i64 a.fK 7) 8)with
 |false=>rw[h1]at h;cases h
 |true=>
  rw[h1]at h;cases h2:((decide (0<=a.fK)&&decide (a.fK<8))&&(a.aG.mF (Int.toNat (r8 .i64 a.fK 7))))with
  |false=>rw[h2]at h;exact h
  |true=>rw[h2]at h;exact af8 hk h
def bJ(n:Nat)(a0:ae)(a1:Int)(a2:aC):Option Int:=lt ({aG:=a0,fK:=a1,c:=a2,run:=aB,kP:=0,y9:=true,fD:=[]}:aq) λ_=>cn ((a2.Do !=2)==false) (bd (bO n ({aG:=a0,fK:=a1,c:=a2,run:=aB,kP:=0,y9:=true,fD:=[]}:aq)) λdB=>oc dB.2 (cn (((a2.Do !=2)||(dB.1.E !=0))) (some 0) (none)) λXU=>cn (((a2.Do !=2)||(dB.1.E !=0))) (some 0) (some XU.kP)) (cn (((a2.Do !=2)||(ay.E !=0))) (some 0) (some (({aG:=a0,fK:=a1,c:=a2,run:=aB,kP:=0,y9:=true,fD:=[]}:aq).kP)))
def nf(n:Nat)(a0:ae)(a1:Int)(a2:aC):Option Int:=cn (a2.Do !=2) (some 0) (cA n ({aG:=a0,fK:=a1,c:=a2,run:=aB,kP:=0,y9:=true,fD:=[]}:aq) (λr c=>cn (r.E !=0) (some 0) (some c.kP)) (λe=>cn (e !=0) (some 0) none) (λe=>cn (e !=0) (some 0) (some 0)) (some 0) (some 0))
theorem Ab(n:Nat)(a0:ae)(a1:Int)(a2:aC)(z:Int)(h:bJ n a0 a1 a2=some z):nf n a0 a1 a2=some z:=by
 unfold bJ at h;unfold nf;cases h1:(a2.Do !=2)with
 |true=>rw[h1]at h;exact h
 |false=>
  rw[h1]at h;have:=aaO (a:=({aG:=a0,fK:=a1,c:=a2,run:=aB,kP:=0,y9:=true,fD:=[]}:aq)) (KK:=λe=>cn (e !=0) (some 0) (some 0)) (λe h=>by
   have h:cn (e !=0) (some 0) none=some z:=h;cases hb:(e !=0)with
   |true=>rw[hb]at h;exact h
   |false=>rw[hb]at h;cases h) h
  exact this
noncomputable def m9(n:Nat):Ct Tryz.prog sg:=aat (tW n [] [br n,bf n,sO n,qy n,rB n,qn n,qt n,pO n,sP n,qu n,pN n,qp n,rF n,rC n,og n,rz n,rA n,qx n,sN n,qw n,rE n,rD n,qo n]) 3000 ⟨82,[], .cons (.v (.st 19)) (.cons (.v (.int .i64)) (.cons (.v (.st 3)) .nil)), .cons (.v (.int .i64)) .nil,[], .nil,[],[]⟩ (λx=>bJ n x.1 x.2.1 x.2.2.1) (λx=>nf n x.1 x.2.1 x.2.2.1) (λy=>y.1) (λz=>(z,())) (0) (λ_ =>rfl) (by kernel_rfl) (λx=>by kernel_rfl) (λx z h=>by apply Ab;exact h)
def cq(n:Nat)(a0:ae)(a1:Int)(a2:aC)(a3:av):Option (ae×ah×(List av)):=lt ({aG:=a0,fK:=a1,c:=a2,run:=a3,kP:=0,y9:=false,fD:=[]}:aq) λ_=>bd (bO n ({aG:=a0,fK:=a1,c:=a2,run:=a3,kP:=0,y9:=false,fD:=[]}:aq)) λdB=>oc dB.2 (cn ((dB.1.E !=0)) (some (a0,dB.1,([]:List av))) (none)) λXU=>cn ((dB.1.E !=0)) (some (a0,dB.1,([]:List av))) (some (XU.aG,dB.1,XU.fD))
def vq(n:Nat)(a0:ae)(a1:Int)(a2:aC)(a3:av):Option (ae×ah×(List av)):=cA n ({aG:=a0,fK:=a1,c:=a2,run:=a3,kP:=0,y9:=false,fD:=[]}:aq) (λr c=>cn (r.E !=0) (some (a0,r,[])) (some (c.aG,r,c.fD))) (λe=>cn (e !=0) (some (a0,⟨e,0,0⟩,[])) none) (λe=>cn (e !=0) (some (a0,⟨e,0,0⟩,[])) (some (a0,⟨e,0,0⟩,[]))) (some (a0,⟨2,0,0⟩,[])) (some (a0,⟨12,0,0⟩,[]))
theorem DK(n:Nat)(a0:ae)(a1:Int)(a2:aC)(a3:av)(z:ae×ah×(List av))(h:cq n a0 a1 a2 a3=some z):vq n a0 a1 a2 a3=some z:=by
 have:=aaO (a:=({aG:=a0,fK:=a1,c:=a2,run:=a3,kP:=0,y9:=false,fD:=[]}:aq)) (KK:=λe=>cn (e !=0) (some (a0,⟨e,0,0⟩,[])) (some (a0,⟨e,0,0⟩,[]))) (λe h=>by
  have h:cn (e !=0) (some (a0,⟨e,0,0⟩,([]:List av))) none=some z:=h;cases hb:(e !=0)with
  |true=>rw[hb]at h;exact h
  |false=>rw[hb]at h;cases h) h
 exact this
noncomputable def vm(n:Nat):Ct Tryz.prog sg:=aat (tW n [] [br n,bf n,sO n,qy n,rB n,qn n,qt n,pO n,sP n,qu n,pN n,qp n,rF n,rC n,og n,rz n,rA n,qx n,sN n,qw n,rE n,rD n,qo n]) 3000 ⟨83,[], .cons (.v (.st 19)) (.cons (.v (.int .i64)) (.cons (.v (.st 3)) (.cons (.v (.st 4)) .nil))), .cons (.jv (.cons (.v (.st 19)) (.cons (.v (.st 2)) (.cons (.v (.sl (.st 4))) .nil)))) .nil,[], .nil,[],[]⟩ (λx=>cq n x.1 x.2.1 x.2.2.1 x.2.2.2.1) (λx=>vq n x.1 x.2.1 x.2.2.1 x.2.2.2.1) (λy=>(y.1,y.2.1,y.2.2.1)) (λz=>(z.1,(z.2.1,(z.2.2,())))) (cS,ay,[]) (λ_ =>rfl) (by kernel_rfl) (λx=>by kernel_rfl) (λx z h=>by apply DK;exact h)
def vA(n:Nat)(a0:(List Int)):Option (List Int):=some a0
def sY(n:Nat)(a0:(List Int)):Option (List Int):=gu ((a0.length:Int)==(a0.length:Int))<|gu ((a0.length:Int)==(a0.length:Int))<|some a0
theorem Bd(n:Nat)(a0:(List Int)):sY n a0=vA n a0:=Ps.trans Ps
noncomputable def AQ(n:Nat):CT:=cV (tW n [] []) (kF 117 [.v (.sl (.int .i64))] [.v (.sl (.int .i64))]) (a1 (vA n)) u1 m1 (hW:=λx=>Eq.trans (b:=sY n x.1) (by kernel_rfl) (Bd ..))
def cv(n:Nat)(a0:ae)(a1:aC):Option ((List Int)×Int):=bd (eD n a0.dK.T a1.R) λbS=>cn ((bS.2!=0)) (some (([]:List Int),bS.2)) (cn (((((a1.Do !=3)&&(a1.Do !=4))||decide (a1.B<1))||decide (8<a1.B))) (some (([]:List Int),2)) (cn (decide ((wr .i64 (bS.1.E.ep-(wr .i64 a1.B)))<(wr .i64 a1.A))) (some (([]:List Int),9)) (eP (λk47 (gy:(List Int)) (xw:Int)=>cn (decide (xw<(wr .i64 a1.B))) (bd (jF n bS.1.E (wr .i64 ((wr .i64 a1.A)+xw))) λtU=>gu (gN gy.length 1 8)<|lt (gy++([tU.1]):List Int) λJO=>k47 JO (wr .i64 (xw+1))) (some (gy,0))) n ([]) 0)))
noncomputable def zW(n:Nat):CT:=cV (tW n [(21, .loop [(.dh 8,(.row 3 1 (.int .i64))),(.dh 59,(.v (.int .i64)))])] [fJ n,xA n,AQ n]) (kF 89 [.s 19, .s 3] [.t [.v (.sl (.int .i64)), .i]]) (a2 (cv n)) u2 m2
end Go.Proofs.Z
