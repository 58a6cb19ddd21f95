/- Part 14 of what a proof leans on; pruned and shortened by a program out of longer texts. -/
import Derived.Test.YtimljlkgaopafaaGreatDoorQ13
namespace Go.Proofs.Z
open Go Go.Bw Go.Rw Go.RowKit
noncomputable section
abbrev tC(n:Nat)(h:List (Nat×Hn))(cs:List CT)(its:List (It Tryz.prog sg)):wS Tryz.prog sg:=aiE tt zt n h cs its eks
def zE(n:Nat)(a0:(List fD)):Option Bool:=
some (decide (90<(a0.length:Int)))
def JJ(n:Nat):CT:=cV (tC n [] [] []) ⟨7,[],(.cons (.v (.sl (.st 0))) .nil),(.cons (.v .bool) .nil),[], .nil,[],[]⟩ (λx=>zE n x.1) (λy=>(y.1)) (λz=>(z,()))
def gE(n:Nat)(a0:ae)(a1:Int)(a2:aD):Option Int:=
bd (bR n a0 a1 a2) λax=>
cn (decide (0<ax)) (
some (0)) (
bd (cF n a0 a1 a2 aB) λbp=>
lt (bp.1:ae) λ_=>
lt (bp.2.1:ah) λcM=>
some (cM.E))
def CM(n:Nat):CT:=cV (tC n [] [nG n,wj n] []) ⟨75,[],(.cons (.v (.st 19)) (.cons (.v (.int .i64)) (.cons (.v (.st 23)) .nil))),(.cons (.v (.int .i64)) .nil),[], .nil,[],[]⟩ (λx=>gE n x.1 x.2.1 x.2.2.1) (λy=>(y.1)) (λz=>(z,()))
def qF(n:Nat)(a0:ae)(a1:Int)(a2:aD):Option Bool:=
cl (((a2.Do==15)==true)) (gE n a0 a1 a2) default λax=>
some (((a2.Do==15)&&(ax==10)))
def CL(n:Nat):CT:=cV (tC n [] [CM n] []) ⟨70,[],(.cons (.v (.st 19)) (.cons (.v (.int .i64)) (.cons (.v (.st 23)) .nil))),(.cons (.v .bool) .nil),[], .nil,[],[]⟩ (λx=>qF n x.1 x.2.1 x.2.2.1) (λy=>(y.1)) (λz=>(z,()))
def fM(n:Nat)(cS:ae)(dg:aj)(dz:ai)(dy:(List Int))(a1:av):Option (ae×aj×ai×(List Int)):=
yj (λk26 (ax:Int) (bp:ae) (bA:aj) (cM:ai) (cU:(List Int))=>
cn (decide (ax<a1.N)) (
gu (ig cU.length [wr .i64 (a1.At+ax)].length 8)<|
lt (cU++[wr .i64 (a1.At+ax)]:List Int) λcJ=>
k26 (wr .i64 (ax+1)) bp bA cM cJ) (
some (bp,bA,cM,cU))) n 0 cS dg dz dy
def vi(n:Nat):CT:=cV (tC n [(5, .loop [(.dS 7, .v (.int .i64)),(.via 0, .box 113 (.st (.part 952 (.v (.st 19)) (.part 1 (.box 184 (.v (.st 26))) (.part 320 (.v (.st 21)) (.part 1 (.row 3 1 (.int .i64)) .nil))))))])] [] []) ⟨81,[],(.cons (.box 113 (.st (.part 952 (.v (.st 19)) (.part 1 (.box 184 (.v (.st 26))) (.part 320 (.v (.st 21)) (.part 1 (.row 3 1 (.int .i64)) .nil)))))) (.cons (.v (.st 4)) .nil)),(.cons (.jc .nil) (.cons (.box 113 (.st (.part 952 (.v (.st 19)) (.part 1 (.box 184 (.v (.st 26))) (.part 320 (.v (.st 21)) (.part 1 (.row 3 1 (.int .i64)) .nil)))))) .nil)),[some 0,some 1,none], .nil,[],[[0]]⟩ (λx=>fM n x.1 x.2.1 x.2.2.1 x.2.2.2.1 x.2.2.2.2.1) (λy=>(y.1,y.2.1,y.2.2.1,y.2.2.2.1)) (λz=>(z.1,(z.2.1,(z.2.2.1,(z.2.2.2,())))))
def wI(n:Nat)(a0:Int)(a1:Int):Option Bool:=
some (((((decide (0<=a0))&&(decide (a0<32)))&&(decide (0<=a1)))&&(decide (a1<8))))
def BK(n:Nat):CT:=cV (tC n [] [] []) ⟨100,[],(.cons (.v (.int .i64)) (.cons (.v (.int .i64)) .nil)),(.cons (.v .bool) .nil),[], .nil,[],[]⟩ (λx=>wI n x.1 x.2.1) (λy=>(y.1)) (λz=>(z,()))
def om(n:Nat)(a0:ai)(a1:Int)(a2:Int):Option ai:=
lt (λ(ax:ai)=>
lt (ax:ai) λbA=>
some (bA)) λYO=>
bd (wI n a1 a2) λcM=>
gu (!(cM==true)||dH a1 32)<|
cn ((cM&&((wr .i64 ((a0.bB (Int.toNat a1)).Gq))==(wr .i64 (a2+1))))) (
gu (dH a1 32)<|
lt (({a0 with bB:=(iW a0.bB (Int.toNat a1) ({(a0.bB (Int.toNat a1))with Gq:=0}:cC))}:ai):ai) λcU=>
YO cU) (
YO a0)
def CQ(n:Nat):CT:=cV (tC n [(6, .join [(.via 3, .box 110 (.v (.st 21)))] [])] [BK n] []) ⟨99,[],(.cons (.v (.st 21)) (.cons (.v (.int .i64)) (.cons (.v (.int .i64)) .nil))),(.cons (.v (.st 21)) .nil),[], .nil,[],[]⟩ (λx=>om n x.1 x.2.1 x.2.2.1) (λy=>(y.1)) (λz=>(z,()))
def vn(n:Nat)(a0:(List Int))(a1:Int):Option Int:=
iv (λk22 (ax:Int)=>
cn (decide (ax<(a0.length:Int))) (
gu (dH ax a0.length)<|
cn ((a1==(a0.getD (Int.toNat ax) default))) (
some (ax)) (
k22 (wr .i64 (ax+1)))) (
some ((-1)))) n 0
def AN(n:Nat):CT:=cV (tC n [(5, .loop [(.dS 8, .v (.int .i64))])] [] []) ⟨134,[],(.cons (.v (.sl (.int .u8))) (.cons (.v (.int .u8)) .nil)),(.cons (.v (.int .i64)) .nil),[], .nil,[],[]⟩ (λx=>vn n x.1 x.2.1) (λy=>(y.1)) (λz=>(z,()))
def lE(n:Nat)(a0:cC)(a1:Int):Option Int:=
gu (dH a0.n 9)<|
bd (vn n ((List.range (Int.toNat a0.n)).map a0.F6) (wr .u8 a1)) λax=>
some (ax)
def vg(n:Nat):CT:=cV (tC n [(1000008, .HH)] [AN n] []) ⟨116,[],(.cons (.v (.st 20)) (.cons (.v (.int .i64)) .nil)),(.cons (.v (.int .i64)) .nil),[], .nil,[],[]⟩ (λx=>lE n x.1 x.2.1) (λy=>(y.1)) (λz=>(z,()))
def jB(n:Nat)(a0:cC)(a1:Int):Option cC:=
bd (lE n a0 a1) λax=>
cn (decide (ax<0)) (
lt (a0:cC) λbp=>
some (bp)) (
gu (dH ax 9)<|
gu (dH (wr .i64 (ax+1)) 9)<|
lt (({a0 with F6:=cpA (Int.toNat ax) (Int.toNat (wr .i64 (ax+1))) 8 a0.F6}:cC):cC) λbA=>
lt (({bA with n:=wr .i64 (bA.n-1)}:cC):cC) λcM=>
gu (dH cM.n 8)<|
lt (({cM with F6:=(iW cM.F6 (Int.toNat cM.n) 0)}:cC):cC) λcU=>
lt (cU:cC) λdZ=>
some (dZ))
def sO(n:Nat):CT:=cV (tC n [] [vg n] []) ⟨101,[],(.cons (.v (.st 20)) (.cons (.v (.int .i64)) .nil)),(.cons (.v (.st 20)) .nil),[], .nil,[],[]⟩ (λx=>jB n x.1 x.2.1) (λy=>(y.1)) (λz=>(z,()))
def dG(n:Nat)(a0:ai)(a1:Int):Option ai:=
fe (λk23 (ax:Int) (bp:ai)=>
cn (decide (ax<32)) (
lt (λ(cM:ai)=>
k23 (wr .i64 (ax+1)) cM) λj25=>
bd (om n bp ax a1) λdZ=>
lt (dZ:ai) λcJ=>
bd (wI n ax a1) λdP=>
cn (dP) (
gu (dH ax 32)<|
bd (jB n (cJ.bB (Int.toNat ax)) a1) λeF=>
gu (dH ax 32)<|
lt (({cJ with bB:=(iW cJ.bB (Int.toNat ax) eF)}:ai):ai) λeB=>
j25 eB) (
j25 cJ)) (
lt (bp:ai) λcL=>
some (cL))) n 0 a0
def CP(n:Nat):CT:=cV (tC n [(5, .loop [(.dS 6, .v (.int .i64)),(.via 2, .box 110 (.v (.st 21)))]),(14, .join [(.via 2, .box 110 (.v (.st 21)))] [])] [CQ n,BK n,sO n] []) ⟨82,[],(.cons (.v (.st 21)) (.cons (.v (.int .i64)) .nil)),(.cons (.v (.st 21)) .nil),[], .nil,[],[]⟩ (λx=>dG n x.1 x.2.1) (λy=>(y.1)) (λz=>(z,()))
def lT(n:Nat)(cS:ae)(dg:aj)(dz:ai)(dy:(List Int))(a1:aF):Option (ae×aj×ai×(List Int)):=
bd (fM n cS dg dz dy a1.yR) λax=>
bd (dG n ax.2.2.1 a1.kA) λbp=>
lt (bp:ai) λbA=>
some (ax.1,ax.2.1,bA,ax.2.2.2)
def xZ(n:Nat):CT:=cV (tC n [] [vi n,CP n] []) ⟨72,[],(.cons (.box 113 (.st (.part 952 (.v (.st 19)) (.part 1 (.box 184 (.v (.st 26))) (.part 320 (.v (.st 21)) (.part 1 (.row 3 1 (.int .i64)) .nil)))))) (.cons (.v (.st 24)) .nil)),(.cons (.jc .nil) (.cons (.box 113 (.st (.part 952 (.v (.st 19)) (.part 1 (.box 184 (.v (.st 26))) (.part 320 (.v (.st 21)) (.part 1 (.row 3 1 (.int .i64)) .nil)))))) .nil)),[some 0,some 1,none], .nil,[],[[0]]⟩ (λx=>lT n x.1 x.2.1 x.2.2.1 x.2.2.2.1 x.2.2.2.2.1) (λy=>(y.1,y.2.1,y.2.2.1,y.2.2.2.1)) (λz=>(z.1,(z.2.1,(z.2.2.1,(z.2.2.2,())))))
def fB(n:Nat)(cS:ae)(dg:aj)(dz:ai)(dy:(List Int))(cH:aF)(bU:ah)(bP:Bool)(a1:ah):Option (ae×aj×ai×(List Int)×aF×ah×Bool):=
lt (a1:ah) λax=>
bd (lT n cS dg dz dy cH) λbp=>
some (bp.1,bp.2.1,bp.2.2.1,bp.2.2.2,cH,ax,true)
def nH(n:Nat):CT:=cV (tC n [] [xZ n] []) ⟨88,[],(.cons (.box 188 (.st (.part 1 (.box 113 (.st (.part 952 (.v (.st 19)) (.part 1 (.box 184 (.v (.st 26))) (.part 320 (.v (.st 21)) (.part 1 (.row 3 1 (.int .i64)) .nil)))))) (.part 12 (.v (.st 24)) (.part 3 (.v (.st 22)) (.part 1 (.v .bool) .nil)))))) (.cons (.v (.st 22)) .nil)),(.cons (.jc .nil) (.cons (.box 188 (.st (.part 1 (.box 113 (.st (.part 952 (.v (.st 19)) (.part 1 (.box 184 (.v (.st 26))) (.part 320 (.v (.st 21)) (.part 1 (.row 3 1 (.int .i64)) .nil)))))) (.part 12 (.v (.st 24)) (.part 3 (.v (.st 22)) (.part 1 (.v .bool) .nil)))))) .nil)),[some 0,some 1,some 2,none], .nil,[],[[0]]⟩ (λx=>fB n x.1 x.2.1 x.2.2.1 x.2.2.2.1 x.2.2.2.2.1 x.2.2.2.2.2.1 x.2.2.2.2.2.2.1 x.2.2.2.2.2.2.2.1) (λy=>(y.1,y.2.1,y.2.2.1,y.2.2.2.1,y.2.2.2.2.1,y.2.2.2.2.2.1,y.2.2.2.2.2.2.1)) (λz=>(z.1,(z.2.1,(z.2.2.1,(z.2.2.2.1,(z.2.2.2.2.1,(z.2.2.2.2.2.1,(z.2.2.2.2.2.2,()))))))))
def ju(n:Nat)(a0:ae)(a1:Int):Option (List Int):=
bd (aJ n a0.dR.T.fT.lI a1) λax=>
cn ((!ax)) (
some ([])) (
some ([a1]))
def OG(n:Nat):CT:=cV (tC n [] [aS n] []) ⟨108,[],(.cons (.v (.st 19)) (.cons (.v (.int .u32)) .nil)),(.cons (.row 28 1 (.int .u32)) .nil),[none], .nil,[],[]⟩ (λx=>ju n x.1 x.2.1) (λy=>(y.1)) (λz=>(z,()))
def iO(n:Nat)(a0:ay)(a1:Int):Option (List Int):=
bd (aJ n a0.fT.lI a1) λax=>
cn ((!ax)) (
some ([])) (
bd (pY n a0 a1) λbp=>
bd (mQ n bp.1 bp.2) λdZ=>
yD (λ(DB:Int) k24 (bA:(List Int))=>
gu (ig bA.length [DB].length 4)<|
lt (bA++[DB]:List Int) λdP=>
k24 dP) (λ(bA:(List Int))=>
some (bA)) dZ [])
def Ea(n:Nat):CT:=cV (tC n [(150050000005, .loop [(.via 2, .box 167 (.row 28 1 (.int .u32)))])] [aS n,pB n] [nr n]) ⟨110,[],(.cons (.v (.st 10)) (.cons (.v (.int .u32)) .nil)),(.cons (.row 28 1 (.int .u32)) .nil),[none], .nil,[],[]⟩ (λx=>iO n x.1 x.2.1) (λy=>(y.1)) (λz=>(z,()))
def sS(n:Nat)(a0:(List Int))(a1:Int):Option (Int×(List Int)):=
iv (λk22 (ax:Int)=>
cn (decide (ax<(a0.length:Int))) (
gu (dH ax a0.length)<|
cn ((a1==(a0.getD (Int.toNat ax) default))) (
some (ax,a0)) (
k22 (wr .i64 (ax+1)))) (
some ((-1),a0))) n 0
def yx(n:Nat):CT:=cV (tC n [(5, .loop [(.dS 8, .v (.int .i64))])] [] []) ⟨133,[],(.cons (.row 28 1 (.int .u32)) (.cons (.v (.int .u32)) .nil)),(.cons (.v (.int .i64)) (.cons (.row 28 1 (.int .u32)) .nil)),[some 0], .nil,[],[[0]]⟩ (λx=>sS n x.1 x.2.1) (λy=>(y.1,y.2.1)) (λz=>(z.1,(z.2,())))
def pN(n:Nat)(a0:(List Int))(a1:Int):Option (Bool×(List Int)):=
bd (sS n a0 a1) λax=>
some (decide (0<=ax.1),ax.2)
def vJ(n:Nat):CT:=cV (tC n [] [yx n] []) ⟨112,[],(.cons (.row 28 1 (.int .u32)) (.cons (.v (.int .u32)) .nil)),(.cons (.v .bool) (.cons (.row 28 1 (.int .u32)) .nil)),[some 0], .nil,[],[[0]]⟩ (λx=>pN n x.1 x.2.1) (λy=>(y.1,y.2.1)) (λz=>(z.1,(z.2,())))
def kO(n:Nat)(a0:ae)(a1:aD):Option (List Int):=
cn (a1.Do==1) (
bd (ju n a0 a1.R) λo5=>
some (o5)) (
cn (a1.Do==2) (
bd (ju n a0 a1.R) λiw=>
some (iw)) (
cn (a1.Do==3) (
bd (ju n a0 a1.R) λtM=>
some (tM)) (
cn (a1.Do==4) (
bd (ju n a0 a1.R) λgN=>
some (gN)) (
cn (a1.Do==5) (
bd (ju n a0 a1.R) λnQ=>
some (nQ)) (
cn (a1.Do==10) (
bd (ju n a0 a1.R) λdI=>
some (dI)) (
cn (a1.Do==12) (
bd (ju n a0 a1.R) λnC=>
some (nC)) (
cn (a1.Do==18) (
bd (ju n a0 a1.R) λdW=>
some (dW)) (
cn (a1.Do==19) (
bd (ju n a0 a1.R) λcN=>
some (cN)) (
cn (a1.Do==6) (
bd (iO n a0.dR.T a1.R) λdh=>
some (dh)) (
cn (a1.Do==7) (
bd (iO n a0.dR.T a1.R) λgV=>
some (gV)) (
cn (a1.Do==9) (
bd (iO n a0.dR.T a1.R) λcL=>
some (cL)) (
cn (a1.Do==11) (
bd (iO n a0.dR.T a1.R) λeB=>
some (eB)) (
cn (a1.Do==8) (
bd (iO n a0.dR.T a1.R) λdZ=>
cl ((((dZ.length:Int)==0)==false)) (aJ n a0.dR.T.fT.lI a1.S) default λcJ=>
cn ((((dZ.length:Int)==0)||(!cJ))) (
some ([])) (
bd (pN n dZ a1.S) λdP=>
cn (dP.1) (
some (dP.2)) (
gu (ig dP.2.length [a1.S].length 4)<|
lt (dP.2++[a1.S]:List Int) λeF=>
some (eF)))) (
cn (a1.Do==13) (
bd (dD n a0.dR.K a1.S) λbA=>
lt (bA.1:bI) λcM=>
cn ((bA.2!=0)) (
some ([])) (
bd (ju n a0 cM.Region) λcU=>
some (cU))) (
cn (a1.Do==14) (
cn ((a1.B==1)) (
bd (ju n a0 a1.R) λax=>
some (ax)) (
bd (iO n a0.dR.T a1.R) λbp=>
some (bp))) (
some ([])))))))))))))))))
def Hw(n:Nat):CT:=cV (tC n [] [OG n,Ea n,eK n,aS n,vJ n] []) ⟨89,[],(.cons (.v (.st 19)) (.cons (.v (.st 23)) .nil)),(.cons (.v (.sl (.int .u32))) .nil),[], .nil,[],[]⟩ (λx=>kO n x.1 x.2.1) (λy=>(y.1)) (λz=>(z,()))
def eR(n:Nat)(cS:ae)(dg:aj)(dz:ai)(dy:(List Int))(cH:aF)(bU:ah)(bP:Bool):Option (Bool×ae×aj×ai×(List Int)×aF×ah×Bool):=
cn (cH.Checked) (
some (false,cS,dg,dz,dy,cH,bU,bP)) (
bd (qF n cS cH.kA cH.C) λax=>
cn (ax) (
some (true,cS,dg,dz,dy,cH,bU,bP)) (
bd (gE n cS cH.kA cH.C) λbp=>
cn ((bp !=0)) (
bd (fB n cS dg dz dy cH bU bP ({az with E:=bp}:ah)) λbA=>
some (true,bA.1,bA.2.1,bA.2.2.1,bA.2.2.2.1,bA.2.2.2.2.1,bA.2.2.2.2.2.1,bA.2.2.2.2.2.2)) (
bd (kO n cS cH.C) λcM=>
lt (({cH with Checked:=true}:aF):aF) λcU=>
lt (({cU with eJ:=cM}:aF):aF) λdZ=>
some (true,cS,dg,dz,dy,dZ,bU,bP))))
def zc(n:Nat):CT:=cV (tC n [] [CL n,CM n,nH n,Hw n] []) ⟨76,[],(.cons (.box 188 (.st (.part 1 (.box 113 (.st (.part 952 (.v (.st 19)) (.part 1 (.box 184 (.v (.st 26))) (.part 320 (.v (.st 21)) (.part 1 (.row 3 1 (.int .i64)) .nil)))))) (.part 12 (.v (.st 24)) (.part 3 (.v (.st 22)) (.part 1 (.v .bool) .nil)))))) .nil),(.cons (.v .bool) (.cons (.box 188 (.st (.part 1 (.box 113 (.st (.part 952 (.v (.st 19)) (.part 1 (.box 184 (.v (.st 26))) (.part 320 (.v (.st 21)) (.part 1 (.row 3 1 (.int .i64)) .nil)))))) (.part 12 (.v (.st 24)) (.part 3 (.v (.st 22)) (.part 1 (.v .bool) .nil)))))) .nil)),[some 0,some 1,some 2,none], .nil,[],[[0]]⟩ (λx=>eR n x.1 x.2.1 x.2.2.1 x.2.2.2.1 x.2.2.2.2.1 x.2.2.2.2.2.1 x.2.2.2.2.2.2.1) (λy=>(y.1,y.2.1,y.2.2.1,y.2.2.2.1,y.2.2.2.2.1,y.2.2.2.2.2.1,y.2.2.2.2.2.2.1,y.2.2.2.2.2.2.2.1)) (λz=>(z.1,(z.2.1,(z.2.2.1,(z.2.2.2.1,(z.2.2.2.2.1,(z.2.2.2.2.2.1,(z.2.2.2.2.2.2.1,(z.2.2.2.2.2.2.2,())))))))))
def pW(n:Nat)(a0:ai)(a1:Int)(a2:Int):Option (ai×Bool):=
bd (wI n a1 a2) λax=>
cn ((!ax)) (
lt (a0:ai) λbp=>
some (bp,false)) (
gu (dH a1 32)<|
lt (λ(bA:ai) (cM:ai)=>
lt (cM:ai) λdZ=>
some (dZ,false)) λj25=>
bd (lE n (a0.bB (Int.toNat a1)) a2) λcJ=>
cn (((wr .i64 ((a0.bB (Int.toNat a1)).Gq))==(wr .i64 (a2+1)))) (
lt (a0:ai) λdP=>
some (dP,true)) (
cn (((((a0.bB (Int.toNat a1)).Gq)==0)&&((((a0.bB (Int.toNat a1)).n)==0)||(cJ==0)))) (
bd (jB n (a0.bB (Int.toNat a1)) a2) λeF=>
lt (({a0 with bB:=(iW a0.bB (Int.toNat a1) eF)}:ai):ai) λeB=>
lt (({eB with bB:=(iW eB.bB (Int.toNat a1) ({(eB.bB (Int.toNat a1))with Gq:=wr .u8 (wr .i64 (a2+1))}:cC))}:ai):ai) λcL=>
lt (cL:ai) λgV=>
some (gV,true)) (
cn (decide (cJ<0)) (
gu (dH ((a0.bB (Int.toNat a1)).n) 8)<|
lt (({a0 with bB:=(iW a0.bB (Int.toNat a1) ({(a0.bB (Int.toNat a1))with F6:=(iW ((a0.bB (Int.toNat a1)).F6) (Int.toNat ((a0.bB (Int.toNat a1)).n)) (wr .u8 a2))}:cC))}:ai):ai) λdh=>
lt (({dh with bB:=(iW dh.bB (Int.toNat a1) ({(dh.bB (Int.toNat a1))with n:=wr .i64 (((dh.bB (Int.toNat a1)).n)+1)}:cC))}:ai):ai) λcN=>
j25 bG cN) (
j25 bG a0))))
def Ef(n:Nat):CT:=cV (tC n [(28, .join [(.via 6, .box 110 (.v (.st 21))),(.via 3, .box 110 (.v (.st 21)))] [])] [BK n,vg n,sO n] []) ⟨90,[],(.cons (.v (.st 21)) (.cons (.v (.int .i64)) (.cons (.v (.int .i64)) .nil))),(.cons (.jc (.cons (.v (.st 21)) (.cons (.v .bool) .nil))) .nil),[], .nil,[],[]⟩ (λx=>pW n x.1 x.2.1 x.2.2.1) (λy=>(y.1,y.2.1)) (λz=>(z.1,(z.2,())))
def fP(n:Nat)(cS:ae)(dg:aj)(dz:ai)(dy:(List Int))(cH:aF)(bU:ah)(bP:Bool):Option (Bool×ae×aj×ai×(List Int)×aF×ah×Bool):=
cn (((cH.eJ.length:Int)==0)) (
some (false,cS,dg,dz,dy,cH,bU,bP)) (
gu (dH 0 cH.eJ.length)<|
bd (bw n (cH.eJ.getD (Int.toNat 0) default)) λax=>
bd (pW n dz ax.1 cH.kA) λbp=>
lt (bp.1:ai) λbA=>
lt (bA:ai) λcM=>
lt (λ(cU:ae) (dZ:aj) (cJ:ai) (dP:(List Int)) (eF:aF) (eB:ah) (cL:Bool)=>
some (true,cU,dZ,cJ,dP,eF,eB,cL)) λS5=>
cn (bp.2) (
gu (dH 1 (cH.eJ.length+1))<|
lt (({cH with eJ:=cH.eJ.drop (Int.toNat 1)}:aF):aF) λdh=>
S5 cS dg cM dy dh bU bP) (
S5 cS dg cM dy cH bU bP))
def zb(n:Nat):CT:=cV (tC n [(16, .join [(.via 0, .box 188 (.st (.part 1 (.box 113 (.st (.part 952 (.v (.st 19)) (.part 1 (.box 184 (.v (.st 26))) (.part 320 (.v (.st 21)) (.part 1 (.row 3 1 (.int .i64)) .nil)))))) (.part 12 (.v (.st 24)) (.part 3 (.v (.st 22)) (.part 1 (.v .bool) .nil))))))] [])] [bZ n,Ef n] []) ⟨77,[],(.cons (.box 188 (.st (.part 1 (.box 113 (.st (.part 952 (.v (.st 19)) (.part 1 (.box 184 (.v (.st 26))) (.part 320 (.v (.st 21)) (.part 1 (.row 3 1 (.int .i64)) .nil)))))) (.part 12 (.v (.st 24)) (.part 3 (.v (.st 22)) (.part 1 (.v .bool) .nil)))))) .nil),(.cons (.v .bool) (.cons (.box 188 (.st (.part 1 (.box 113 (.st (.part 952 (.v (.st 19)) (.part 1 (.box 184 (.v (.st 26))) (.part 320 (.v (.st 21)) (.part 1 (.row 3 1 (.int .i64)) .nil)))))) (.part 12 (.v (.st 24)) (.part 3 (.v (.st 22)) (.part 1 (.v .bool) .nil)))))) .nil)),[some 0,some 1,some 2,none], .nil,[],[[0]]⟩ (λx=>fP n x.1 x.2.1 x.2.2.1 x.2.2.2.1 x.2.2.2.2.1 x.2.2.2.2.2.1 x.2.2.2.2.2.2.1) (λy=>(y.1,y.2.1,y.2.2.1,y.2.2.2.1,y.2.2.2.2.1,y.2.2.2.2.2.1,y.2.2.2.2.2.2.1,y.2.2.2.2.2.2.2.1)) (λz=>(z.1,(z.2.1,(z.2.2.1,(z.2.2.2.1,(z.2.2.2.2.1,(z.2.2.2.2.2.1,(z.2.2.2.2.2.2.1,(z.2.2.2.2.2.2.2,())))))))))
def jk(n:Nat)(a0:aj)(a1:Int):Option (Int×Int×aj):=
cn (decide (a1<1)) (
some (0,2,a0)) (
bd (pK n a0.eo a1) λax=>
cn ((!ax.2)) (
some (0,6,a0)) (
bd (jY n a0.eo ax.1 a1) λbp=>
lt (({a0 with eo:=bp.1}:aj):aj) λbA=>
some (ax.1,0,bA)))
def CK(n:Nat):CT:=cV (tC n [] [D6 n,D5 n] []) ⟨91,[],(.cons (.box 184 (.v (.st 26))) (.cons (.v (.int .i64)) .nil)),(.cons (.jc (.cons (.v (.int .i64)) (.cons (.v (.int .i64)) .nil))) (.cons (.box 184 (.v (.st 26))) .nil)),[some 0], .nil,[],[[0]]⟩ (λx=>jk n x.1 x.2.1) (λy=>(y.1,y.2.1,y.2.2.1)) (λz=>(z.1,(z.2.1,(z.2.2,()))))
def cy(n:Nat)(cS:ae)(dg:aj)(dz:ai)(dy:(List Int))(cH:aF)(bU:ah)(bP:Bool):Option (Bool×ae×aj×ai×(List Int)×aF×ah×Bool):=
bd (bR n cS cH.kA cH.C) λax=>
cn (((ax==0)||(decide (0<cH.yR.N)))) (
some (false,cS,dg,dz,dy,cH,bU,bP)) (
bd (jk n dg ax) λbp=>
cn ((bp.2.1!=0)) (
bd (fB n cS bp.2.2 dz dy cH bU bP ({az with E:=bp.2.1}:ah)) λbA=>
some (true,bA.1,bA.2.1,bA.2.2.1,bA.2.2.2.1,bA.2.2.2.2.1,bA.2.2.2.2.2.1,bA.2.2.2.2.2.2)) (
lt (({cH with yR:=({At:=bp.1,N:=ax}:av)}:aF):aF) λcM=>
some (true,cS,bp.2.2,dz,dy,cM,bU,bP)))
def yA(n:Nat):CT:=cV (tC n [] [nG n,CK n,nH n] []) ⟨78,[],(.cons (.box 188 (.st (.part 1 (.box 113 (.st (.part 952 (.v (.st 19)) (.part 1 (.box 184 (.v (.st 26))) (.part 320 (.v (.st 21)) (.part 1 (.row 3 1 (.int .i64)) .nil)))))) (.part 12 (.v (.st 24)) (.part 3 (.v (.st 22)) (.part 1 (.v .bool) .nil)))))) .nil),(.cons (.v .bool) (.cons (.box 188 (.st (.part 1 (.box 113 (.st (.part 952 (.v (.st 19)) (.part 1 (.box 184 (.v (.st 26))) (.part 320 (.v (.st 21)) (.part 1 (.row 3 1 (.int .i64)) .nil)))))) (.part 12 (.v (.st 24)) (.part 3 (.v (.st 22)) (.part 1 (.v .bool) .nil)))))) .nil)),[some 0,some 1,some 2,none], .nil,[],[[0]]⟩ (λx=>cy n x.1 x.2.1 x.2.2.1 x.2.2.2.1 x.2.2.2.2.1 x.2.2.2.2.2.1 x.2.2.2.2.2.2.1) (λy=>(y.1,y.2.1,y.2.2.1,y.2.2.2.1,y.2.2.2.2.1,y.2.2.2.2.2.1,y.2.2.2.2.2.2.1,y.2.2.2.2.2.2.2.1)) (λz=>(z.1,(z.2.1,(z.2.2.1,(z.2.2.2.1,(z.2.2.2.2.1,(z.2.2.2.2.2.1,(z.2.2.2.2.2.2.1,(z.2.2.2.2.2.2.2,())))))))))
def lB(n:Nat)(a0:aj)(a1:Int):Option (Int×aj):=
cn (((decide (a1<0))||(decide (a0.n<=a1)))) (
some (2,a0)) (
bd (iC n a0.eo a1) λax=>
cn (ax) (
some (12,a0)) (
gu (dH a1 64)<|
lt (({a0 with bytes:=(iW a0.bytes (Int.toNat a1) (λ_ =>0))}:aj):aj) λbp=>
some (0,bp)))
def CJ(n:Nat):CT:=cV (tC n [] [n8 n] []) ⟨92,[],(.cons (.box 184 (.v (.st 26))) (.cons (.v (.int .i64)) .nil)),(.cons (.v (.int .i64)) (.cons (.box 184 (.v (.st 26))) .nil)),[some 0], .nil,[],[[0]]⟩ (λx=>lB n x.1 x.2.1) (λy=>(y.1,y.2.1)) (λz=>(z.1,(z.2,())))
def fq(n:Nat)(cS:ae)(dg:aj)(dz:ai)(dy:(List Int))(cH:aF)(bU:ah)(bP:Bool):Option (Bool×ae×aj×ai×(List Int)×aF×ah×Bool):=
cn (decide (cH.yR.N<=cH.q8)) (
some (false,cS,dg,dz,dy,cH,bU,bP)) (
bd (lB n dg (wr .i64 (cH.yR.At+cH.q8))) λax=>
lt (({cH with q8:=wr .i64 (cH.q8+1)}:aF):aF) λbp=>
some (true,cS,ax.2,dz,dy,bp,bU,bP))
def yz(n:Nat):CT:=cV (tC n [] [CJ n] []) ⟨79,[],(.cons (.box 188 (.st (.part 1 (.box 113 (.st (.part 952 (.v (.st 19)) (.part 1 (.box 184 (.v (.st 26))) (.part 320 (.v (.st 21)) (.part 1 (.row 3 1 (.int .i64)) .nil)))))) (.part 12 (.v (.st 24)) (.part 3 (.v (.st 22)) (.part 1 (.v .bool) .nil)))))) .nil),(.cons (.v .bool) (.cons (.box 188 (.st (.part 1 (.box 113 (.st (.part 952 (.v (.st 19)) (.part 1 (.box 184 (.v (.st 26))) (.part 320 (.v (.st 21)) (.part 1 (.row 3 1 (.int .i64)) .nil)))))) (.part 12 (.v (.st 24)) (.part 3 (.v (.st 22)) (.part 1 (.v .bool) .nil)))))) .nil)),[some 0,some 1,some 2,some 3], .nil,[],[[0]]⟩ (λx=>fq n x.1 x.2.1 x.2.2.1 x.2.2.2.1 x.2.2.2.2.1 x.2.2.2.2.2.1 x.2.2.2.2.2.2.1) (λy=>(y.1,y.2.1,y.2.2.1,y.2.2.2.1,y.2.2.2.2.1,y.2.2.2.2.2.1,y.2.2.2.2.2.2.1,y.2.2.2.2.2.2.2.1)) (λz=>(z.1,(z.2.1,(z.2.2.1,(z.2.2.2.1,(z.2.2.2.2.1,(z.2.2.2.2.2.1,(z.2.2.2.2.2.2.1,(z.2.2.2.2.2.2.2,())))))))))
def lA(n:Nat)(a0:aj)(a1:Int)(a2:Int):Option (Int×aj):=
cn (decide (a1<0)) (
some (2,a0)) (
cn (((decide ((wr .i64 (Int.tdiv a1 32))<0))||(decide (a0.n<=(wr .i64 (Int.tdiv a1 32)))))) (
some (2,a0)) (
bd (iC n a0.eo (wr .i64 (Int.tdiv a1 32))) λax=>
cn (ax) (
some (12,a0)) (
gu (dH (wr .i64 (Int.tdiv a1 32)) 64)<|
gu (dH (Int.tmod a1 32) 32)<|
lt (({a0 with bytes:=(iW a0.bytes (Int.toNat (wr .i64 (Int.tdiv a1 32))) (iW (a0.bytes (Int.toNat (wr .i64 (Int.tdiv a1 32)))) (Int.toNat (Int.tmod a1 32)) a2))}:aj):aj) λbp=>
some (0,bp))))
def CI(n:Nat):CT:=cV (tC n [] [n8 n] []) ⟨96,[],(.cons (.box 184 (.v (.st 26))) (.cons (.v (.int .i64)) (.cons (.v (.int .u8)) .nil))),(.cons (.v (.int .i64)) (.cons (.box 184 (.v (.st 26))) .nil)),[some 0], .nil,[],[[0]]⟩ (λx=>lA n x.1 x.2.1 x.2.2.1) (λy=>(y.1,y.2.1)) (λz=>(z.1,(z.2,())))
def mM(n:Nat)(a0:aj)(a1:Int):Option (Int×Int):=
cn (decide (a1<0)) (
lt (0:Int) λax=>
some (ax,2)) (
cn (((decide ((wr .i64 (Int.tdiv a1 32))<0))||(decide (a0.n<=(wr .i64 (Int.tdiv a1 32)))))) (
lt (0:Int) λbp=>
some (bp,2)) (
bd (iC n a0.eo (wr .i64 (Int.tdiv a1 32))) λbA=>
cn (bA) (
lt (0:Int) λcM=>
some (cM,12)) (
gu (dH (wr .i64 (Int.tdiv a1 32)) 64)<|
gu (dH (Int.tmod a1 32) 32)<|
lt (((a0.bytes (Int.toNat (wr .i64 (Int.tdiv a1 32)))) (Int.toNat (Int.tmod a1 32))):Int) λcU=>
lt (cU:Int) λdZ=>
some (dZ,0))))
def Eb(n:Nat):CT:=cV (tC n [] [n8 n] []) ⟨98,[(184, .v (.st 26))],(.cons (.bS 0) (.cons (.v (.int .i64)) .nil)),(.cons (.jc (.cons (.v (.int .u8)) (.cons (.v (.int .i64)) .nil))) .nil),[], .nil,[],[]⟩ (λx=>mM n x.1 x.2.1) (λy=>(y.1,y.2.1)) (λz=>(z.1,(z.2,())))
def cG(n:Nat)(cS:ae)(dg:aj)(dz:ai)(dy:(List Int))(cH:aF)(bU:ah)(bP:Bool):Option (Bool×ae×aj×ai×(List Int)×aF×ah×Bool):=
lt (cH.C:aD) λax=>
lt (λ(bp:ae) (bA:aj) (cM:ai) (cU:(List Int)) (dZ:aF) (cJ:ah) (dP:Bool)=>
bd (cK n bp ax) λeB=>
bd (cF n bp dZ.kA ax dZ.yR) λcL=>
lt (cL.1:ae) λgV=>
lt (cL.2.1:ah) λdh=>
cn ((dh.E !=0)) (
bd (fB n bp bA cM cU dZ cJ dP dh) λcN=>
some (true,cN.1,cN.2.1,cN.2.2.1,cN.2.2.2.1,cN.2.2.2.2.1,cN.2.2.2.2.2.1,cN.2.2.2.2.2.2)) (
lt (λ(dW:ae) (nC:aj) (dI:ai) (nQ:(List Int)) (gN:aF) (tM:ah) (iw:Bool) (o5:ah)=>
lt (gV:ae) λyu=>
lt (({gN with yR:=aB}:aF):aF) λx45=>
yj (λk51 (yO:Int) (JG:ae) (Kg:aj) (Ke:ai) (Cp:(List Int))=>
cn (decide (yO<(cL.2.2.length:Int))) (
gu (dH yO cL.2.2.length)<|
lt ((cL.2.2.getD (Int.toNat yO) default):av) λMU=>
bd (fM n JG Kg Ke Cp MU) λOD=>
k51 (wr .i64 (yO+1)) OD.1 OD.2.1 OD.2.2.1 OD.2.2.2) (
bd (fB n JG Kg Ke Cp x45 tM iw o5) λow=>
some (true,ow.1,ow.2.1,ow.2.2.1,ow.2.2.2.1,ow.2.2.2.2.1,ow.2.2.2.2.2.1,ow.2.2.2.2.2.2))) n 0 yu nC dI nQ) λj43=>
cn ((ax.Do==4)) (
Ih (λk63 (uW:Int) (Ht:ae) (MT:aj) (On:ai) (OC:(List Int)) (wX:aF) (x61:ah) (Sk:Bool)=>
cn (decide (uW<(eB.1.length:Int))) (
gu (dH uW eB.1.length)<|
gu (decide (0<=wr .i64 (8*uW)))<|
bd (lA n MT (eB.1.getD (Int.toNat uW) default) (wr .u8 (vM .u64 ax.V (wr .i64 (8*uW))))) λUq=>
k63 (wr .i64 (uW+1)) Ht Uq.2 On OC wX x61 Sk) (
j43 Ht MT On OC wX x61 Sk dh)) n 0 bp bA cM cU dZ cJ dP) (
cn ((ax.Do==3)) (
fe (λk67 (Sj:Int) (YY:ah)=>
cn (decide (Sj<(eB.1.length:Int))) (
gu (dH Sj eB.1.length)<|
bd (mM n bA (eB.1.getD (Int.toNat Sj) default)) λMS=>
gu (decide (0<=wr .i64 (8*Sj)))<|
lt (({YY with V:=orI .u64 YY.V (Lu .u64 (wr .u64 MS.1) (wr .i64 (8*Sj)))}:ah):ah) λT5=>
k67 (wr .i64 (Sj+1)) T5) (
j43 bp bA cM cU dZ cJ dP YY)) n 0 dh) (
j43 bp bA cM cU dZ cJ dP dh)))) λj29=>
cl ((decide (0<cH.yR.N)==true)) (bR n cS cH.kA ax) default λx70=>
cn (((decide (0<cH.yR.N))&&(x70 !=cH.yR.N))) (
bd (fM n cS dg dz dy cH.yR) λx71=>
lt (({cH with yR:=aB}:aF):aF) λx72=>
j29 x71.1 x71.2.1 x71.2.2.1 x71.2.2.2 x72 bU bP) (
j29 cS dg dz dy cH bU bP)
def xg(n:Nat):CT:=cV (tC n [(10, .join [(.via 0, .box 188 (.st (.part 1 (.box 113 (.st (.part 952 (.v (.st 19)) (.part 1 (.box 184 (.v (.st 26))) (.part 320 (.v (.st 21)) (.part 1 (.row 3 1 (.int .i64)) .nil)))))) (.part 12 (.v (.st 24)) (.part 3 (.v (.st 22)) (.part 1 (.v .bool) .nil))))))] []),(30, .join [(.via 65, .box 113 (.st (.part 952 (.v (.st 19)) (.part 1 (.box 184 (.v (.st 26))) (.part 320 (.v (.st 21)) (.part 1 (.row 3 1 (.int .i64)) .nil)))))),(.via 0, .box 188 (.st (.part 1 (.bS 0) (.part 12 (.v (.st 24)) (.part 3 (.v (.st 22)) (.part 1 (.v .bool) .nil)))))),(.via 7, .box 120 (.v (.st 22)))] []),(35, .loop [(.dS 130, .v (.int .i64)),(.via 65, .box 113 (.st (.part 952 (.v (.st 19)) (.part 1 (.box 184 (.v (.st 26))) (.part 320 (.v (.st 21)) (.part 1 (.row 3 1 (.int .i64)) .nil))))))]),(1100000003, .loop [(.dS 10, .v (.int .i64)),(.via 0, .box 188 (.st (.part 1 (.box 113 (.st (.part 952 (.v (.st 19)) (.part 1 (.box 184 (.v (.st 26))) (.part 320 (.v (.st 21)) (.part 1 (.row 3 1 (.int .i64)) .nil)))))) (.part 12 (.v (.st 24)) (.part 3 (.v (.st 22)) (.part 1 (.v .bool) .nil))))))]),(1160000003, .loop [(.dS 10, .v (.int .i64)),(.cap 2 1, .box 120 (.v (.st 22)))])] [AO n,wj n,nH n,vi n,CI n,Eb n,nG n] []) ⟨80,[],(.cons (.box 188 (.st (.part 1 (.box 113 (.st (.part 952 (.v (.st 19)) (.part 1 (.box 184 (.v (.st 26))) (.part 320 (.v (.st 21)) (.part 1 (.row 3 1 (.int .i64)) .nil)))))) (.part 12 (.v (.st 24)) (.part 3 (.v (.st 22)) (.part 1 (.v .bool) .nil)))))) .nil),(.cons (.v .bool) (.cons (.box 188 (.st (.part 1 (.box 113 (.st (.part 952 (.v (.st 19)) (.part 1 (.box 184 (.v (.st 26))) (.part 320 (.v (.st 21)) (.part 1 (.row 3 1 (.int .i64)) .nil)))))) (.part 12 (.v (.st 24)) (.part 3 (.v (.st 22)) (.part 1 (.v .bool) .nil)))))) .nil)),[some 0,some 1,some 2,none], .nil,[],[[0]]⟩ (λx=>cG n x.1 x.2.1 x.2.2.1 x.2.2.2.1 x.2.2.2.2.1 x.2.2.2.2.2.1 x.2.2.2.2.2.2.1) (λy=>(y.1,y.2.1,y.2.2.1,y.2.2.2.1,y.2.2.2.2.1,y.2.2.2.2.2.1,y.2.2.2.2.2.2.1,y.2.2.2.2.2.2.2.1)) (λz=>(z.1,(z.2.1,(z.2.2.1,(z.2.2.2.1,(z.2.2.2.2.1,(z.2.2.2.2.2.1,(z.2.2.2.2.2.2.1,(z.2.2.2.2.2.2.2,())))))))))
def dc(n:Nat)(cS:ae)(dg:aj)(dz:ai)(dy:(List Int))(a1:aF):Option (aF×ah×Bool×ae×aj×ai×(List Int)):=
lt (λ(ax:ae) (bp:aj) (bA:ai) (cM:(List Int)) (cU:aF) (dZ:ah) (cJ:Bool)=>
lt (cU:aF) λeF=>
lt (dZ:ah) λeB=>
some (eF,eB,cJ,ax,bp,bA,cM)) λj28=>
bd (eR n cS dg dz dy a1 az false) λcL=>
cn (cL.1) (
j28 cL.2.1 cL.2.2.1 cL.2.2.2.1 cL.2.2.2.2.1 cL.2.2.2.2.2.1 cL.2.2.2.2.2.2.1 cL.2.2.2.2.2.2.2) (
bd (fP n cL.2.1 cL.2.2.1 cL.2.2.2.1 cL.2.2.2.2.1 cL.2.2.2.2.2.1 cL.2.2.2.2.2.2.1 cL.2.2.2.2.2.2.2) λgV=>
cn (gV.1) (
j28 gV.2.1 gV.2.2.1 gV.2.2.2.1 gV.2.2.2.2.1 gV.2.2.2.2.2.1 gV.2.2.2.2.2.2.1 gV.2.2.2.2.2.2.2) (
bd (cy n gV.2.1 gV.2.2.1 gV.2.2.2.1 gV.2.2.2.2.1 gV.2.2.2.2.2.1 gV.2.2.2.2.2.2.1 gV.2.2.2.2.2.2.2) λdh=>
cn (dh.1) (
j28 dh.2.1 dh.2.2.1 dh.2.2.2.1 dh.2.2.2.2.1 dh.2.2.2.2.2.1 dh.2.2.2.2.2.2.1 dh.2.2.2.2.2.2.2) (
bd (fq n dh.2.1 dh.2.2.1 dh.2.2.2.1 dh.2.2.2.2.1 dh.2.2.2.2.2.1 dh.2.2.2.2.2.2.1 dh.2.2.2.2.2.2.2) λcN=>
cn (cN.1) (
j28 cN.2.1 cN.2.2.1 cN.2.2.2.1 cN.2.2.2.2.1 cN.2.2.2.2.2.1 cN.2.2.2.2.2.2.1 cN.2.2.2.2.2.2.2) (
bd (cG n cN.2.1 cN.2.2.1 cN.2.2.2.1 cN.2.2.2.2.1 cN.2.2.2.2.2.1 cN.2.2.2.2.2.2.1 cN.2.2.2.2.2.2.2) λdW=>
cn (dW.1) (
j28 dW.2.1 dW.2.2.1 dW.2.2.2.1 dW.2.2.2.2.1 dW.2.2.2.2.2.1 dW.2.2.2.2.2.2.1 dW.2.2.2.2.2.2.2) (
j28 dW.2.1 dW.2.2.1 dW.2.2.2.1 dW.2.2.2.2.1 dW.2.2.2.2.2.1 dW.2.2.2.2.2.2.1 dW.2.2.2.2.2.2.2)))))
def Eo(n:Nat):CT:=cV (tC n [(14, .join [(.via 7, .box 188 (.st (.part 1 (.box 113 (.st (.part 952 (.v (.st 19)) (.part 1 (.box 184 (.v (.st 26))) (.part 320 (.v (.st 21)) (.part 1 (.row 3 1 (.int .i64)) .nil)))))) (.part 12 (.v (.st 24)) (.part 3 (.v (.st 22)) (.part 1 (.v .bool) .nil))))))] []),(7, .HH)] [zc n,zb n,yA n,yz n,xg n] []) ⟨71,[],(.cons (.box 113 (.st (.part 952 (.v (.st 19)) (.part 1 (.box 184 (.v (.st 26))) (.part 320 (.v (.st 21)) (.part 1 (.row 3 1 (.int .i64)) .nil)))))) (.cons (.v (.st 24)) .nil)),(.cons (.jc (.cons (.v (.st 24)) (.cons (.v (.st 22)) (.cons (.v .bool) .nil)))) (.cons (.box 113 (.st (.part 952 (.v (.st 19)) (.part 1 (.box 184 (.v (.st 26))) (.part 320 (.v (.st 21)) (.part 1 (.row 3 1 (.int .i64)) .nil)))))) .nil)),[some 0,some 1,none], .nil,[],[[0]]⟩ (λx=>dc n x.1 x.2.1 x.2.2.1 x.2.2.2.1 x.2.2.2.2.1) (λy=>(y.1,y.2.1,y.2.2.1,y.2.2.2.1,y.2.2.2.2.1,y.2.2.2.2.2.1,y.2.2.2.2.2.2.1)) (λz=>(z.1,(z.2.1,(z.2.2.1,(z.2.2.2.1,(z.2.2.2.2.1,(z.2.2.2.2.2.1,(z.2.2.2.2.2.2,()))))))))
def eG(n:Nat)(cS:ae)(dg:aj)(dz:ai)(dy:(List Int))(cH:Int)(a1:aD):Option (ah×ae×aj×ai×(List Int)×Int):=
lt (({({kF with kA:=cH}:aF)with C:=a1}:aF):aF) λax=>
wJ (λk29 (bp:ah) (bA:ae) (cM:aj) (cU:ai) (dZ:(List Int)) (cJ:Int) (dP:aF)=>
cl (((!dP.Checked)==true)) (qF n bA cJ a1) default λeB=>
cn (((!dP.Checked)&&eB)) (
cn ((a1.Do==15)) (
lt (({az with E:=10}:ah):ah) λcL=>
some (cL,bA,cM,cU,dZ,cJ)) (
lt (({az with E:=12}:ah):ah) λgV=>
some (gV,bA,cM,cU,dZ,cJ))) (
bd (dc n bA cM cU dZ dP) λdh=>
lt (dh.1:aF) λcN=>
lt (dh.2.1:ah) λdW=>
cn (dh.2.2.1) (
lt (dW:ah) λnC=>
some (nC,dh.2.2.2.1,dh.2.2.2.2.1,dh.2.2.2.2.2.1,dh.2.2.2.2.2.2,cJ)) (
cn (((dP.Checked&&((cN.eJ.length:Int)==(dP.eJ.length:Int)))&&(decide (0<(dP.eJ.length:Int))))) (
bd (lT n dh.2.2.2.1 dh.2.2.2.2.1 dh.2.2.2.2.2.1 dh.2.2.2.2.2.2 dP) λdI=>
lt (({az with E:=12}:ah):ah) λnQ=>
some (nQ,dI.1,dI.2.1,dI.2.2.1,dI.2.2.2,cJ)) (
lt (cN:aF) λgN=>
k29 bp dh.2.2.2.1 dh.2.2.2.2.1 dh.2.2.2.2.2.1 dh.2.2.2.2.2.2 cJ gN)))) n az cS dg dz dy cH ax
def Hz(n:Nat):CT:=cV (tC n [(5, .loop [(.via 4, .box 120 (.v (.st 22))),(.via 0, .box 149 (.st (.part 1 (.box 113 (.st (.part 952 (.v (.st 19)) (.part 1 (.box 184 (.v (.st 26))) (.part 320 (.v (.st 21)) (.part 1 (.row 3 1 (.int .i64)) .nil)))))) (.part 1 (.v (.int .i64)) .nil)))),(.via 5, .box 171 (.v (.st 24)))])] [CL n,Eo n,xZ n] []) ⟨58,[],(.cons (.box 149 (.st (.part 1 (.box 113 (.st (.part 952 (.v (.st 19)) (.part 1 (.box 184 (.v (.st 26))) (.part 320 (.v (.st 21)) (.part 1 (.row 3 1 (.int .i64)) .nil)))))) (.part 1 (.v (.int .i64)) .nil)))) (.cons (.v (.st 23)) .nil)),(.cons (.v (.st 22)) (.cons (.box 149 (.st (.part 1 (.box 113 (.st (.part 952 (.v (.st 19)) (.part 1 (.box 184 (.v (.st 26))) (.part 320 (.v (.st 21)) (.part 1 (.row 3 1 (.int .i64)) .nil)))))) (.part 1 (.v (.int .i64)) .nil)))) .nil)),[some 0,some 1,some 2,none], .nil,[],[[0]]⟩ (λx=>eG n x.1 x.2.1 x.2.2.1 x.2.2.2.1 x.2.2.2.2.1 x.2.2.2.2.2.1) (λy=>(y.1,y.2.1,y.2.2.1,y.2.2.2.1,y.2.2.2.2.1,y.2.2.2.2.2.1)) (λz=>(z.1,(z.2.1,(z.2.2.1,(z.2.2.2.1,(z.2.2.2.2.1,(z.2.2.2.2.2,())))))))
def mN(n:Nat)(a0:aj)(a1:Int):Option (Int×aj):=
cn (((decide (a1<0))||(decide (a0.n<=a1)))) (
some (2,a0)) (
bd (iC n a0.eo a1) λax=>
cn (ax) (
some (12,a0)) (
gu (dH a1 64)<|
bd (mH n a0.eo a1 1) λbp=>
lt (({a0 with eo:=bp.1}:aj):aj) λbA=>
some (0,bA)))
def Ec(n:Nat):CT:=cV (tC n [] [n8 n,wg n] []) ⟨73,[],(.cons (.box 184 (.v (.st 26))) (.cons (.v (.int .i64)) .nil)),(.cons (.v (.int .i64)) (.cons (.box 184 (.v (.st 26))) .nil)),[some 0], .nil,[],[[0]]⟩ (λx=>mN n x.1 x.2.1) (λy=>(y.1,y.2.1)) (λz=>(z.1,(z.2,())))
def mS(n:Nat)(cS:ae)(dg:aj)(dz:ai)(dy:(List Int)):Option (Bool×ae×aj×ai×(List Int)):=
cn (((dy.length:Int)==0)) (
some (false,cS,dg,dz,dy)) (
gu (dH 0 dy.length)<|
bd (mN n dg (dy.getD (Int.toNat 0) default)) λax=>
gu (dH 1 (dy.length+1))<|
some (true,cS,ax.2,dz,dy.drop (Int.toNat 1)))
def Ep(n:Nat):CT:=cV (tC n [(1000025, .HH)] [Ec n] []) ⟨59,[],(.cons (.box 113 (.st (.part 952 (.v (.st 19)) (.part 1 (.box 184 (.v (.st 26))) (.part 320 (.v (.st 21)) (.part 1 (.row 3 1 (.int .i64)) .nil)))))) .nil),(.cons (.v .bool) (.cons (.box 113 (.st (.part 952 (.v (.st 19)) (.part 1 (.box 184 (.v (.st 26))) (.part 320 (.v (.st 21)) (.part 1 (.row 3 1 (.int .i64)) .nil)))))) .nil)),[some 0,some 1,none], .nil,[],[[0]]⟩ (λx=>mS n x.1 x.2.1 x.2.2.1 x.2.2.2.1) (λy=>(y.1,y.2.1,y.2.2.1,y.2.2.2.1,y.2.2.2.2.1)) (λz=>(z.1,(z.2.1,(z.2.2.1,(z.2.2.2.1,(z.2.2.2.2,()))))))
def di(n:Nat)(cS:ae)(dg:aj)(dz:ai)(dy:(List Int))(cH:Int)(a1:aD):Option (ah×ae×aj×ai×(List Int)×Int):=
bd (eG n cS dg dz dy cH a1) λax=>
lt (ax.1:ah) λbp=>
lt (λ(bA:ae) (cM:aj) (cU:ai) (dZ:(List Int)) (cJ:Int) (dP:ah)=>
lt (dP:ah) λeB=>
some (eB,bA,cM,cU,dZ,cJ)) λj29=>
cn (((bp.E==6)&&(decide (0<(ax.2.2.2.2.1.length:Int))))) (
yj (λk36 (cL:ae) (gV:aj) (dh:ai) (cN:(List Int)) (dW:Int)=>
bd (mS n cL gV dh cN) λdI=>
cn (dI.1) (
k36 dI.2.1 dI.2.2.1 dI.2.2.2.1 dI.2.2.2.2 dW) (
bd (eG n dI.2.1 dI.2.2.1 dI.2.2.2.1 dI.2.2.2.2 dW a1) λnQ=>
lt (nQ.1:ah) λgN=>
j29 nQ.2.1 nQ.2.2.1 nQ.2.2.2.1 nQ.2.2.2.2.1 nQ.2.2.2.2.2 gN)) n ax.2.1 ax.2.2.1 ax.2.2.2.1 ax.2.2.2.2.1 ax.2.2.2.2.2) (
j29 ax.2.1 ax.2.2.1 ax.2.2.2.1 ax.2.2.2.2.1 ax.2.2.2.2.2 bp)
def tU(n:Nat):CT:=cV (tC n [(14, .join [(.via 0, .box 149 (.st (.part 1 (.box 113 (.st (.part 952 (.v (.st 19)) (.part 1 (.box 184 (.v (.st 26))) (.part 320 (.v (.st 21)) (.part 1 (.row 3 1 (.int .i64)) .nil)))))) (.part 1 (.v (.int .i64)) .nil)))),(.via 5, .box 120 (.v (.st 22)))] []),(11, .loop [(.via 0, .box 149 (.st (.part 1 (.box 113 (.st (.part 952 (.v (.st 19)) (.part 1 (.box 184 (.v (.st 26))) (.part 320 (.v (.st 21)) (.part 1 (.row 3 1 (.int .i64)) .nil)))))) (.part 1 (.v (.int .i64)) .nil))))])] [Hz n,Ep n] []) ⟨26,[],(.cons (.box 149 (.st (.part 1 (.box 113 (.st (.part 952 (.v (.st 19)) (.part 1 (.box 184 (.v (.st 26))) (.part 320 (.v (.st 21)) (.part 1 (.row 3 1 (.int .i64)) .nil)))))) (.part 1 (.v (.int .i64)) .nil)))) (.cons (.v (.st 23)) .nil)),(.cons (.v (.st 22)) (.cons (.box 149 (.st (.part 1 (.box 113 (.st (.part 952 (.v (.st 19)) (.part 1 (.box 184 (.v (.st 26))) (.part 320 (.v (.st 21)) (.part 1 (.row 3 1 (.int .i64)) .nil)))))) (.part 1 (.v (.int .i64)) .nil)))) .nil)),[some 0,some 1,some 2,none], .nil,[],[[0]]⟩ (λx=>di n x.1 x.2.1 x.2.2.1 x.2.2.2.1 x.2.2.2.2.1 x.2.2.2.2.2.1) (λy=>(y.1,y.2.1,y.2.2.1,y.2.2.2.1,y.2.2.2.2.1,y.2.2.2.2.2.1)) (λz=>(z.1,(z.2.1,(z.2.2.1,(z.2.2.2.1,(z.2.2.2.2.1,(z.2.2.2.2.2,())))))))
def uD(n:Nat)(a0:Int):Option (Int×Bool):=
some (wr .u32 a0,((decide (0<=a0))&&(decide (a0<=4294967295))))
def Li(n:Nat):CT:=cV (tC n [] [] []) ⟨67,[],(.cons (.v (.int .i64)) .nil),(.cons (.jc (.cons (.v (.int .u32)) (.cons (.v .bool) .nil))) .nil),[], .nil,[],[]⟩ (λx=>uD n x.1) (λy=>(y.1,y.2.1)) (λz=>(z.1,(z.2,())))
def nq(n:Nat)(cS:ae)(dg:aj)(dz:ai)(dy:(List Int))(cH:Int)(a1:Int)(a2:Int)(a3:Int)(a4:Int)(a5:Int):Option (ah×ae×aj×ai×(List Int)×Int):=
bd (uD n a3) λax=>
bd (uD n a4) λbp=>
cn (((!ax.2)||(!bp.2))) (
lt (({az with E:=2}:ah):ah) λbA=>
some (bA,cS,dg,dz,dy,cH)) (
bd (di n cS dg dz dy cH ({({({({({fb with Do:=a1}:aD)with R:=a2}:aD)with A:=ax.1}:aD)with B:=bp.1}:aD)with V:=a5}:aD)) λcM=>
lt (cM.1:ah) λcU=>
some (cU,cM.2.1,cM.2.2.1,cM.2.2.2.1,cM.2.2.2.2.1,cM.2.2.2.2.2))
def tT(n:Nat):CT:=cV (tC n [] [Li n,tU n] []) ⟨52,[],(.cons (.box 149 (.st (.part 1 (.box 113 (.st (.part 952 (.v (.st 19)) (.part 1 (.box 184 (.v (.st 26))) (.part 320 (.v (.st 21)) (.part 1 (.row 3 1 (.int .i64)) .nil)))))) (.part 1 (.v (.int .i64)) .nil)))) (.cons (.v (.int .u8)) (.cons (.v (.int .u32)) (.cons (.v (.int .i64)) (.cons (.v (.int .i64)) (.cons (.v (.int .u64)) .nil)))))),(.cons (.v (.st 22)) (.cons (.box 149 (.st (.part 1 (.box 113 (.st (.part 952 (.v (.st 19)) (.part 1 (.box 184 (.v (.st 26))) (.part 320 (.v (.st 21)) (.part 1 (.row 3 1 (.int .i64)) .nil)))))) (.part 1 (.v (.int .i64)) .nil)))) .nil)),[some 0,some 1,some 2,none], .nil,[],[[0]]⟩ (λx=>nq n x.1 x.2.1 x.2.2.1 x.2.2.2.1 x.2.2.2.2.1 x.2.2.2.2.2.1 x.2.2.2.2.2.2.1 x.2.2.2.2.2.2.2.1 x.2.2.2.2.2.2.2.2.1 x.2.2.2.2.2.2.2.2.2.1) (λy=>(y.1,y.2.1,y.2.2.1,y.2.2.2.1,y.2.2.2.2.1,y.2.2.2.2.2.1)) (λz=>(z.1,(z.2.1,(z.2.2.1,(z.2.2.2.1,(z.2.2.2.2.1,(z.2.2.2.2.2,())))))))
def eV(n:Nat)(cS:ae)(dg:aj)(dz:ai)(dy:(List Int))(cH:Int)(a1:Int)(a2:Int)(a3:Int):Option (Int×Int×ae×aj×ai×(List Int)×Int):=
bd (nq n cS dg dz dy cH 2 a1 a2 a3 0) λax=>
lt (ax.1:ah) λbp=>
some (wr .i64 bp.V,bp.E,ax.2.1,ax.2.2.1,ax.2.2.2.1,ax.2.2.2.2.1,ax.2.2.2.2.2)
def so(n:Nat):CT:=cV (tC n [] [tT n] []) ⟨32,[],(.cons (.box 149 (.st (.part 1 (.box 113 (.st (.part 952 (.v (.st 19)) (.part 1 (.box 184 (.v (.st 26))) (.part 320 (.v (.st 21)) (.part 1 (.row 3 1 (.int .i64)) .nil)))))) (.part 1 (.v (.int .i64)) .nil)))) (.cons (.v (.int .u32)) (.cons (.v (.int .i64)) (.cons (.v (.int .i64)) .nil)))),(.cons (.jc (.cons (.v (.int .i64)) (.cons (.v (.int .i64)) .nil))) (.cons (.box 149 (.st (.part 1 (.box 113 (.st (.part 952 (.v (.st 19)) (.part 1 (.box 184 (.v (.st 26))) (.part 320 (.v (.st 21)) (.part 1 (.row 3 1 (.int .i64)) .nil)))))) (.part 1 (.v (.int .i64)) .nil)))) .nil)),[some 0,some 1,some 2,none], .nil,[],[[0]]⟩ (λx=>eV n x.1 x.2.1 x.2.2.1 x.2.2.2.1 x.2.2.2.2.1 x.2.2.2.2.2.1 x.2.2.2.2.2.2.1 x.2.2.2.2.2.2.2.1) (λy=>(y.1,y.2.1,y.2.2.1,y.2.2.2.1,y.2.2.2.2.1,y.2.2.2.2.2.1,y.2.2.2.2.2.2.1)) (λz=>(z.1,(z.2.1,(z.2.2.1,(z.2.2.2.1,(z.2.2.2.2.1,(z.2.2.2.2.2.1,(z.2.2.2.2.2.2,()))))))))
def kQ(n:Nat)(cS:ae)(dg:aj)(dz:ai)(dy:(List Int))(cH:Int)(a1:Int)(a2:Int):Option (Int×Int×ae×aj×ai×(List Int)×Int):=
bd (nq n cS dg dz dy cH 3 a1 a2 8 0) λax=>
lt (ax.1:ah) λbp=>
some (bp.V,bp.E,ax.2.1,ax.2.2.1,ax.2.2.2.1,ax.2.2.2.2.1,ax.2.2.2.2.2)
def y7(n:Nat):CT:=cV (tC n [] [tT n] []) ⟨63,[],(.cons (.box 149 (.st (.part 1 (.box 113 (.st (.part 952 (.v (.st 19)) (.part 1 (.box 184 (.v (.st 26))) (.part 320 (.v (.st 21)) (.part 1 (.row 3 1 (.int .i64)) .nil)))))) (.part 1 (.v (.int .i64)) .nil)))) (.cons (.v (.int .u32)) (.cons (.v (.int .i64)) .nil))),(.cons (.jc (.cons (.v (.int .u64)) (.cons (.v (.int .i64)) .nil))) (.cons (.box 149 (.st (.part 1 (.box 113 (.st (.part 952 (.v (.st 19)) (.part 1 (.box 184 (.v (.st 26))) (.part 320 (.v (.st 21)) (.part 1 (.row 3 1 (.int .i64)) .nil)))))) (.part 1 (.v (.int .i64)) .nil)))) .nil)),[some 0,some 1,some 2,none], .nil,[],[[0]]⟩ (λx=>kQ n x.1 x.2.1 x.2.2.1 x.2.2.2.1 x.2.2.2.2.1 x.2.2.2.2.2.1 x.2.2.2.2.2.2.1) (λy=>(y.1,y.2.1,y.2.2.1,y.2.2.2.1,y.2.2.2.2.1,y.2.2.2.2.2.1,y.2.2.2.2.2.2.1)) (λz=>(z.1,(z.2.1,(z.2.2.1,(z.2.2.2.1,(z.2.2.2.2.1,(z.2.2.2.2.2.1,(z.2.2.2.2.2.2,()))))))))
def qM(n:Nat)(a0:Int):Option (Except Int Unit):=
cn ((a0 !=0)) (
some (.error (a0))) (
some (.ok ()))
def y9(n:Nat):CT:=cX (tC n [] [] []) ⟨64,[],(.cons (.v (.int .i64)) .nil),(.cons (.jc .nil) .nil),[],(.cons (.iQ 43 (.v (.int .i64))) .nil),[],[]⟩ (λx=>qM n x.1) (λ_ =>()) (λ_ =>()) (λy=>(y.1)) (λz=>(z,()))
def aX(n:Nat)(cS:ae)(dg:aj)(dz:ai)(dy:(List Int))(cH:Int)(bU:Int)(bP:Int)(sD:Int)(a1:Int):Option (Except (Int×ae×aj×ai×(List Int)×Int×Int×Int×Int) (Int×ae×aj×ai×(List Int)×Int×Int×Int×Int)):=
bd (kQ n cS dg dz dy cH bU a1) λax=>
iL (qM n ax.2.1) (λ_=>
some (.ok (ax.1,ax.2.2.1,ax.2.2.2.1,ax.2.2.2.2.1,ax.2.2.2.2.2.1,ax.2.2.2.2.2.2,bU,bP,sD))) (λTC=>
some (.error (TC,ax.2.2.1,ax.2.2.2.1,ax.2.2.2.2.1,ax.2.2.2.2.2.1,ax.2.2.2.2.2.2,bU,bP,sD)))
def eS(n:Nat):CT:=cX (tC n [] [y7 n,y9 n] []) ⟨38,[],(.cons (.box 141 (.st (.part 3 (.st (.part 1 (.box 149 (.st (.part 1 (.box 113 (.st (.part 952 (.v (.st 19)) (.part 1 (.box 184 (.v (.st 26))) (.part 320 (.v (.st 21)) (.part 1 (.row 3 1 (.int .i64)) .nil)))))) (.part 1 (.v (.int .i64)) .nil)))) (.part 1 (.v (.int .u32)) (.part 1 (.v (.int .i64)) .nil)))) (.part 1 (.v (.int .i64)) .nil)))) (.cons (.v (.int .i64)) .nil)),(.cons (.v (.int .u64)) (.cons (.box 141 (.st (.part 3 (.st (.part 1 (.box 149 (.st (.part 1 (.box 113 (.st (.part 952 (.v (.st 19)) (.part 1 (.box 184 (.v (.st 26))) (.part 320 (.v (.st 21)) (.part 1 (.row 3 1 (.int .i64)) .nil)))))) (.part 1 (.v (.int .i64)) .nil)))) (.part 1 (.v (.int .u32)) (.part 1 (.v (.int .i64)) .nil)))) (.part 1 (.v (.int .i64)) .nil)))) .nil)),[some 0,some 1,some 2,some 3,none],(.cons (.iQ 43 (.v (.int .i64))) (.cons (.box 141 (.st (.part 3 (.st (.part 1 (.box 149 (.st (.part 1 (.box 113 (.st (.part 952 (.v (.st 19)) (.part 1 (.box 184 (.v (.st 26))) (.part 320 (.v (.st 21)) (.part 1 (.row 3 1 (.int .i64)) .nil)))))) (.part 1 (.v (.int .i64)) .nil)))) (.part 1 (.v (.int .u32)) (.part 1 (.v (.int .i64)) .nil)))) (.part 1 (.v (.int .i64)) .nil)))) .nil)),[some 0,some 1,some 2,some 3,none],[[0]]⟩ (λx=>aX n x.1 x.2.1 x.2.2.1 x.2.2.2.1 x.2.2.2.2.1 x.2.2.2.2.2.1 x.2.2.2.2.2.2.1 x.2.2.2.2.2.2.2.1 x.2.2.2.2.2.2.2.2.1) (λy=>(y.1,y.2.1,y.2.2.1,y.2.2.2.1,y.2.2.2.2.1,y.2.2.2.2.2.1,y.2.2.2.2.2.2.1,y.2.2.2.2.2.2.2.1,y.2.2.2.2.2.2.2.2.1)) (λz=>(z.1,(z.2.1,(z.2.2.1,(z.2.2.2.1,(z.2.2.2.2.1,(z.2.2.2.2.2.1,(z.2.2.2.2.2.2.1,(z.2.2.2.2.2.2.2.1,(z.2.2.2.2.2.2.2.2,())))))))))) (λy=>(y.1,y.2.1,y.2.2.1,y.2.2.2.1,y.2.2.2.2.1,y.2.2.2.2.2.1,y.2.2.2.2.2.2.1,y.2.2.2.2.2.2.2.1,y.2.2.2.2.2.2.2.2.1)) (λz=>(z.1,(z.2.1,(z.2.2.1,(z.2.2.2.1,(z.2.2.2.2.1,(z.2.2.2.2.2.1,(z.2.2.2.2.2.2.1,(z.2.2.2.2.2.2.2.1,(z.2.2.2.2.2.2.2.2,()))))))))))
def da(n:Nat)(cS:ae)(dg:aj)(dz:ai)(dy:(List Int))(cH:Int)(bU:Int)(bP:Int)(sD:Int)(a1:Int):Option (Except (Int×ae×aj×ai×(List Int)×Int×Int×Int×Int) (Int×ae×aj×ai×(List Int)×Int×Int×Int×Int)):=
iL (aX n cS dg dz dy cH bU bP sD (wr .i64 (bP+a1))) (λax=>
some (.ok (ax.1,ax.2.1,ax.2.2.1,ax.2.2.2.1,ax.2.2.2.2.1,ax.2.2.2.2.2.1,ax.2.2.2.2.2.2.1,ax.2.2.2.2.2.2.2.1,ax.2.2.2.2.2.2.2.2))) (λeW=>
some (.error (eW.1,eW.2.1,eW.2.2.1,eW.2.2.2.1,eW.2.2.2.2.1,eW.2.2.2.2.2.1,eW.2.2.2.2.2.2.1,eW.2.2.2.2.2.2.2.1,eW.2.2.2.2.2.2.2.2)))
def fR(n:Nat):CT:=cX (tC n [] [eS n] []) ⟨35,[],(.cons (.box 141 (.st (.part 3 (.st (.part 1 (.box 149 (.st (.part 1 (.box 113 (.st (.part 952 (.v (.st 19)) (.part 1 (.box 184 (.v (.st 26))) (.part 320 (.v (.st 21)) (.part 1 (.row 3 1 (.int .i64)) .nil)))))) (.part 1 (.v (.int .i64)) .nil)))) (.part 1 (.v (.int .u32)) (.part 1 (.v (.int .i64)) .nil)))) (.part 1 (.v (.int .i64)) .nil)))) (.cons (.v (.int .i64)) .nil)),(.cons (.v (.int .u64)) (.cons (.box 141 (.st (.part 3 (.st (.part 1 (.box 149 (.st (.part 1 (.box 113 (.st (.part 952 (.v (.st 19)) (.part 1 (.box 184 (.v (.st 26))) (.part 320 (.v (.st 21)) (.part 1 (.row 3 1 (.int .i64)) .nil)))))) (.part 1 (.v (.int .i64)) .nil)))) (.part 1 (.v (.int .u32)) (.part 1 (.v (.int .i64)) .nil)))) (.part 1 (.v (.int .i64)) .nil)))) .nil)),[some 0,some 1,some 2,some 3,none],(.cons (.iQ 43 (.v (.int .i64))) (.cons (.box 141 (.st (.part 3 (.st (.part 1 (.box 149 (.st (.part 1 (.box 113 (.st (.part 952 (.v (.st 19)) (.part 1 (.box 184 (.v (.st 26))) (.part 320 (.v (.st 21)) (.part 1 (.row 3 1 (.int .i64)) .nil)))))) (.part 1 (.v (.int .i64)) .nil)))) (.part 1 (.v (.int .u32)) (.part 1 (.v (.int .i64)) .nil)))) (.part 1 (.v (.int .i64)) .nil)))) .nil)),[some 0,some 1,some 2,some 3,none],[[0]]⟩ (λx=>da n x.1 x.2.1 x.2.2.1 x.2.2.2.1 x.2.2.2.2.1 x.2.2.2.2.2.1 x.2.2.2.2.2.2.1 x.2.2.2.2.2.2.2.1 x.2.2.2.2.2.2.2.2.1) (λy=>(y.1,y.2.1,y.2.2.1,y.2.2.2.1,y.2.2.2.2.1,y.2.2.2.2.2.1,y.2.2.2.2.2.2.1,y.2.2.2.2.2.2.2.1,y.2.2.2.2.2.2.2.2.1)) (λz=>(z.1,(z.2.1,(z.2.2.1,(z.2.2.2.1,(z.2.2.2.2.1,(z.2.2.2.2.2.1,(z.2.2.2.2.2.2.1,(z.2.2.2.2.2.2.2.1,(z.2.2.2.2.2.2.2.2,())))))))))) (λy=>(y.1,y.2.1,y.2.2.1,y.2.2.2.1,y.2.2.2.2.1,y.2.2.2.2.2.1,y.2.2.2.2.2.2.1,y.2.2.2.2.2.2.2.1,y.2.2.2.2.2.2.2.2.1)) (λz=>(z.1,(z.2.1,(z.2.2.1,(z.2.2.2.1,(z.2.2.2.2.1,(z.2.2.2.2.2.1,(z.2.2.2.2.2.2.1,(z.2.2.2.2.2.2.2.1,(z.2.2.2.2.2.2.2.2,()))))))))))
def gw(n:Nat)(a0:Int):Option Int:=
cn (((a0==0)||(decide (4294967296<a0)))) (
some ((-1))) (
some (wr .i64 (wr .u64 (a0-1))))
def qB(n:Nat):CT:=cV (tC n [] [] []) ⟨39,[],(.cons (.v (.int .u64)) .nil),(.cons (.v (.int .i64)) .nil),[], .nil,[],[]⟩ (λx=>gw n x.1) (λy=>(y.1)) (λz=>(z,()))
def dV(n:Nat)(cS:ae)(dg:aj)(dz:ai)(dy:(List Int))(cH:Int)(bU:Int)(bP:Int)(sD:Int)(a1:Int):Option (Except (Int×ae×aj×ai×(List Int)×Int×Int×Int×Int) (Int×ae×aj×ai×(List Int)×Int×Int×Int×Int)):=
lt (λ(ax:ae) (bp:aj) (bA:ai) (cM:(List Int)) (cU:Int) (dZ:Int) (cJ:Int) (dP:Int)=>
bd (gw n a1) λeB=>
some (.ok (eB,ax,bp,bA,cM,cU,dZ,cJ,dP))) λj29=>
lt (wr .i64 (sD+1):Int) λcL=>
cn (decide (64<cL)) (
some (.error (3,cS,dg,dz,dy,cH,bU,bP,cL))) (
j29 cS dg dz dy cH bU bP cL)
def fA(n:Nat):CT:=cX (tC n [(8, .join [(.via 0, .box 141 (.st (.part 3 (.st (.part 1 (.box 149 (.st (.part 1 (.box 113 (.st (.part 952 (.v (.st 19)) (.part 1 (.box 184 (.v (.st 26))) (.part 320 (.v (.st 21)) (.part 1 (.row 3 1 (.int .i64)) .nil)))))) (.part 1 (.v (.int .i64)) .nil)))) (.part 1 (.v (.int .u32)) (.part 1 (.v (.int .i64)) .nil)))) (.part 1 (.v (.int .i64)) .nil))))] [])] [qB n] []) ⟨48,[],(.cons (.box 141 (.st (.part 3 (.st (.part 1 (.box 149 (.st (.part 1 (.box 113 (.st (.part 952 (.v (.st 19)) (.part 1 (.box 184 (.v (.st 26))) (.part 320 (.v (.st 21)) (.part 1 (.row 3 1 (.int .i64)) .nil)))))) (.part 1 (.v (.int .i64)) .nil)))) (.part 1 (.v (.int .u32)) (.part 1 (.v (.int .i64)) .nil)))) (.part 1 (.v (.int .i64)) .nil)))) (.cons (.v (.int .u64)) .nil)),(.cons (.v (.int .i64)) (.cons (.box 141 (.st (.part 3 (.st (.part 1 (.box 149 (.st (.part 1 (.box 113 (.st (.part 952 (.v (.st 19)) (.part 1 (.box 184 (.v (.st 26))) (.part 320 (.v (.st 21)) (.part 1 (.row 3 1 (.int .i64)) .nil)))))) (.part 1 (.v (.int .i64)) .nil)))) (.part 1 (.v (.int .u32)) (.part 1 (.v (.int .i64)) .nil)))) (.part 1 (.v (.int .i64)) .nil)))) .nil)),[some 0,some 1,some 2,some 3,none],(.cons (.iQ 43 (.v (.int .i64))) (.cons (.box 141 (.st (.part 3 (.st (.part 1 (.box 149 (.st (.part 1 (.box 113 (.st (.part 952 (.v (.st 19)) (.part 1 (.box 184 (.v (.st 26))) (.part 320 (.v (.st 21)) (.part 1 (.row 3 1 (.int .i64)) .nil)))))) (.part 1 (.v (.int .i64)) .nil)))) (.part 1 (.v (.int .u32)) (.part 1 (.v (.int .i64)) .nil)))) (.part 1 (.v (.int .i64)) .nil)))) .nil)),[some 0,some 1,some 2,some 3,some 4],[[0]]⟩ (λx=>dV n x.1 x.2.1 x.2.2.1 x.2.2.2.1 x.2.2.2.2.1 x.2.2.2.2.2.1 x.2.2.2.2.2.2.1 x.2.2.2.2.2.2.2.1 x.2.2.2.2.2.2.2.2.1) (λy=>(y.1,y.2.1,y.2.2.1,y.2.2.2.1,y.2.2.2.2.1,y.2.2.2.2.2.1,y.2.2.2.2.2.2.1,y.2.2.2.2.2.2.2.1,y.2.2.2.2.2.2.2.2.1)) (λz=>(z.1,(z.2.1,(z.2.2.1,(z.2.2.2.1,(z.2.2.2.2.1,(z.2.2.2.2.2.1,(z.2.2.2.2.2.2.1,(z.2.2.2.2.2.2.2.1,(z.2.2.2.2.2.2.2.2,())))))))))) (λy=>(y.1,y.2.1,y.2.2.1,y.2.2.2.1,y.2.2.2.2.1,y.2.2.2.2.2.1,y.2.2.2.2.2.2.1,y.2.2.2.2.2.2.2.1,y.2.2.2.2.2.2.2.2.1)) (λz=>(z.1,(z.2.1,(z.2.2.1,(z.2.2.2.1,(z.2.2.2.2.1,(z.2.2.2.2.2.1,(z.2.2.2.2.2.2.1,(z.2.2.2.2.2.2.2.1,(z.2.2.2.2.2.2.2.2,()))))))))))
def kj(n:Nat)(cS:ae)(dg:aj)(dz:ai)(dy:(List Int))(cH:Int)(bU:Int)(bP:Int)(sD:Int)(a1:Int):Option (Except (Int×ae×aj×ai×(List Int)×Int×Int×Int×Int) (Int×ae×aj×ai×(List Int)×Int×Int×Int×Int)):=
iL (da n cS dg dz dy cH bU bP sD 0) (λax=>
Ig (λk32 (bA:Int) (cM:ae) (cU:aj) (dZ:ai) (cJ:(List Int)) (dP:Int) (eF:Int) (eB:Int) (cL:Int)=>
cn ((bA !=0)) (
iL (dV n cM cU dZ cJ dP eF eB cL bA) (λdh=>
iL (aX n dh.2.1 dh.2.2.1 dh.2.2.2.1 dh.2.2.2.2.1 dh.2.2.2.2.2.1 dh.2.2.2.2.2.2.1 dh.2.2.2.2.2.2.2.1 dh.2.2.2.2.2.2.2.2 (wr .i64 (dh.1+0))) (λdW=>
cn ((dW.1==a1)) (
some (.ok (bA,dW.2.1,dW.2.2.1,dW.2.2.2.1,dW.2.2.2.2.1,dW.2.2.2.2.2.1,dW.2.2.2.2.2.2.1,dW.2.2.2.2.2.2.2.1,dW.2.2.2.2.2.2.2.2))) (
cn (decide (a1<dW.1)) (
iL (aX n dW.2.1 dW.2.2.1 dW.2.2.2.1 dW.2.2.2.2.1 dW.2.2.2.2.2.1 dW.2.2.2.2.2.2.1 dW.2.2.2.2.2.2.2.1 dW.2.2.2.2.2.2.2.2 (wr .i64 (dh.1+16))) (λdI=>
k32 dI.1 dI.2.1 dI.2.2.1 dI.2.2.2.1 dI.2.2.2.2.1 dI.2.2.2.2.2.1 dI.2.2.2.2.2.2.1 dI.2.2.2.2.2.2.2.1 dI.2.2.2.2.2.2.2.2) (λmR=>
some (.error (mR.1,mR.2.1,mR.2.2.1,mR.2.2.2.1,mR.2.2.2.2.1,mR.2.2.2.2.2.1,mR.2.2.2.2.2.2.1,mR.2.2.2.2.2.2.2.1,mR.2.2.2.2.2.2.2.2)))) (
iL (aX n dW.2.1 dW.2.2.1 dW.2.2.2.1 dW.2.2.2.2.1 dW.2.2.2.2.2.1 dW.2.2.2.2.2.2.1 dW.2.2.2.2.2.2.2.1 dW.2.2.2.2.2.2.2.2 (wr .i64 (dh.1+24))) (λgN=>
k32 gN.1 gN.2.1 gN.2.2.1 gN.2.2.2.1 gN.2.2.2.2.1 gN.2.2.2.2.2.1 gN.2.2.2.2.2.2.1 gN.2.2.2.2.2.2.2.1 gN.2.2.2.2.2.2.2.2) (λxE=>
some (.error (xE.1,xE.2.1,xE.2.2.1,xE.2.2.2.1,xE.2.2.2.2.1,xE.2.2.2.2.2.1,xE.2.2.2.2.2.2.1,xE.2.2.2.2.2.2.2.1,xE.2.2.2.2.2.2.2.2)))))) (λmg=>
some (.error (mg.1,mg.2.1,mg.2.2.1,mg.2.2.2.1,mg.2.2.2.2.1,mg.2.2.2.2.2.1,mg.2.2.2.2.2.2.1,mg.2.2.2.2.2.2.2.1,mg.2.2.2.2.2.2.2.2)))) (λtF=>
some (.error (tF.1,tF.2.1,tF.2.2.1,tF.2.2.2.1,tF.2.2.2.2.1,tF.2.2.2.2.2.1,tF.2.2.2.2.2.2.1,tF.2.2.2.2.2.2.2.1,tF.2.2.2.2.2.2.2.2)))) (
some (.ok (0,cM,cU,dZ,cJ,dP,eF,eB,cL)))) n ax.1 ax.2.1 ax.2.2.1 ax.2.2.2.1 ax.2.2.2.2.1 ax.2.2.2.2.2.1 ax.2.2.2.2.2.2.1 ax.2.2.2.2.2.2.2.1 ax.2.2.2.2.2.2.2.2) (λeW=>
some (.error (eW.1,eW.2.1,eW.2.2.1,eW.2.2.2.1,eW.2.2.2.2.1,eW.2.2.2.2.2.1,eW.2.2.2.2.2.2.1,eW.2.2.2.2.2.2.2.1,eW.2.2.2.2.2.2.2.2)))
def qC(n:Nat):CT:=cX (tC n [(5, .loop [(.dS 5, .v (.int .u64)),(.via 0, .box 141 (.st (.part 3 (.st (.part 1 (.box 149 (.st (.part 1 (.box 113 (.st (.part 952 (.v (.st 19)) (.part 1 (.box 184 (.v (.st 26))) (.part 320 (.v (.st 21)) (.part 1 (.row 3 1 (.int .i64)) .nil)))))) (.part 1 (.v (.int .i64)) .nil)))) (.part 1 (.v (.int .u32)) (.part 1 (.v (.int .i64)) .nil)))) (.part 1 (.v (.int .i64)) .nil))))])] [fR n,fA n,eS n] []) ⟨37,[],(.cons (.box 141 (.st (.part 3 (.st (.part 1 (.box 149 (.st (.part 1 (.box 113 (.st (.part 952 (.v (.st 19)) (.part 1 (.box 184 (.v (.st 26))) (.part 320 (.v (.st 21)) (.part 1 (.row 3 1 (.int .i64)) .nil)))))) (.part 1 (.v (.int .i64)) .nil)))) (.part 1 (.v (.int .u32)) (.part 1 (.v (.int .i64)) .nil)))) (.part 1 (.v (.int .i64)) .nil)))) (.cons (.v (.int .u64)) .nil)),(.cons (.v (.int .u64)) (.cons (.box 141 (.st (.part 3 (.st (.part 1 (.box 149 (.st (.part 1 (.box 113 (.st (.part 952 (.v (.st 19)) (.part 1 (.box 184 (.v (.st 26))) (.part 320 (.v (.st 21)) (.part 1 (.row 3 1 (.int .i64)) .nil)))))) (.part 1 (.v (.int .i64)) .nil)))) (.part 1 (.v (.int .u32)) (.part 1 (.v (.int .i64)) .nil)))) (.part 1 (.v (.int .i64)) .nil)))) .nil)),[some 0,some 1,some 2,some 3,none],(.cons (.iQ 43 (.v (.int .i64))) (.cons (.box 141 (.st (.part 3 (.st (.part 1 (.box 149 (.st (.part 1 (.box 113 (.st (.part 952 (.v (.st 19)) (.part 1 (.box 184 (.v (.st 26))) (.part 320 (.v (.st 21)) (.part 1 (.row 3 1 (.int .i64)) .nil)))))) (.part 1 (.v (.int .i64)) .nil)))) (.part 1 (.v (.int .u32)) (.part 1 (.v (.int .i64)) .nil)))) (.part 1 (.v (.int .i64)) .nil)))) .nil)),[some 0,some 1,some 2,some 3,none],[[0]]⟩ (λx=>kj n x.1 x.2.1 x.2.2.1 x.2.2.2.1 x.2.2.2.2.1 x.2.2.2.2.2.1 x.2.2.2.2.2.2.1 x.2.2.2.2.2.2.2.1 x.2.2.2.2.2.2.2.2.1) (λy=>(y.1,y.2.1,y.2.2.1,y.2.2.2.1,y.2.2.2.2.1,y.2.2.2.2.2.1,y.2.2.2.2.2.2.1,y.2.2.2.2.2.2.2.1,y.2.2.2.2.2.2.2.2.1)) (λz=>(z.1,(z.2.1,(z.2.2.1,(z.2.2.2.1,(z.2.2.2.2.1,(z.2.2.2.2.2.1,(z.2.2.2.2.2.2.1,(z.2.2.2.2.2.2.2.1,(z.2.2.2.2.2.2.2.2,())))))))))) (λy=>(y.1,y.2.1,y.2.2.1,y.2.2.2.1,y.2.2.2.2.1,y.2.2.2.2.2.1,y.2.2.2.2.2.2.1,y.2.2.2.2.2.2.2.1,y.2.2.2.2.2.2.2.2.1)) (λz=>(z.1,(z.2.1,(z.2.2.1,(z.2.2.2.1,(z.2.2.2.2.1,(z.2.2.2.2.2.1,(z.2.2.2.2.2.2.1,(z.2.2.2.2.2.2.2.1,(z.2.2.2.2.2.2.2.2,()))))))))))
def vq(n:Nat)(cS:ae)(dg:aj)(dz:ai)(dy:(List Int))(cH:Int)(a1:Int)(a2:Int)(a3:Int):Option (Int×ae×aj×ai×(List Int)×Int):=
bd (nq n cS dg dz dy cH 4 a1 a2 8 a3) λax=>
some (ax.1.E,ax.2.1,ax.2.2.1,ax.2.2.2.1,ax.2.2.2.2.1,ax.2.2.2.2.2)
def JH(n:Nat):CT:=cV (tC n [] [tT n] []) ⟨22,[],(.cons (.box 149 (.st (.part 1 (.box 113 (.st (.part 952 (.v (.st 19)) (.part 1 (.box 184 (.v (.st 26))) (.part 320 (.v (.st 21)) (.part 1 (.row 3 1 (.int .i64)) .nil)))))) (.part 1 (.v (.int .i64)) .nil)))) (.cons (.v (.int .u32)) (.cons (.v (.int .i64)) (.cons (.v (.int .u64)) .nil)))),(.cons (.v (.int .i64)) (.cons (.box 149 (.st (.part 1 (.box 113 (.st (.part 952 (.v (.st 19)) (.part 1 (.box 184 (.v (.st 26))) (.part 320 (.v (.st 21)) (.part 1 (.row 3 1 (.int .i64)) .nil)))))) (.part 1 (.v (.int .i64)) .nil)))) .nil)),[some 0,some 1,some 2,none], .nil,[],[[0]]⟩ (λx=>vq n x.1 x.2.1 x.2.2.1 x.2.2.2.1 x.2.2.2.2.1 x.2.2.2.2.2.1 x.2.2.2.2.2.2.1 x.2.2.2.2.2.2.2.1) (λy=>(y.1,y.2.1,y.2.2.1,y.2.2.2.1,y.2.2.2.2.1,y.2.2.2.2.2.1)) (λz=>(z.1,(z.2.1,(z.2.2.1,(z.2.2.2.1,(z.2.2.2.2.1,(z.2.2.2.2.2,())))))))
def aW(n:Nat)(cS:ae)(dg:aj)(dz:ai)(dy:(List Int))(cH:Int)(bU:Int)(bP:Int)(sD:Int)(a1:Int)(a2:Int):Option (Except (Int×ae×aj×ai×(List Int)×Int×Int×Int×Int) (ae×aj×ai×(List Int)×Int×Int×Int×Int)):=
bd (vq n cS dg dz dy cH bU a1 a2) λax=>
iL (qM n ax.1) (λ_=>
some (.ok (ax.2.1,ax.2.2.1,ax.2.2.2.1,ax.2.2.2.2.1,ax.2.2.2.2.2,bU,bP,sD))) (λTC=>
some (.error (TC,ax.2.1,ax.2.2.1,ax.2.2.2.1,ax.2.2.2.2.1,ax.2.2.2.2.2,bU,bP,sD)))
def ic(n:Nat):CT:=cX (tC n [] [JH n,y9 n] []) ⟨41,[],(.cons (.box 141 (.st (.part 3 (.st (.part 1 (.box 149 (.st (.part 1 (.box 113 (.st (.part 952 (.v (.st 19)) (.part 1 (.box 184 (.v (.st 26))) (.part 320 (.v (.st 21)) (.part 1 (.row 3 1 (.int .i64)) .nil)))))) (.part 1 (.v (.int .i64)) .nil)))) (.part 1 (.v (.int .u32)) (.part 1 (.v (.int .i64)) .nil)))) (.part 1 (.v (.int .i64)) .nil)))) (.cons (.v (.int .i64)) (.cons (.v (.int .u64)) .nil))),(.cons (.jc .nil) (.cons (.box 141 (.st (.part 3 (.st (.part 1 (.box 149 (.st (.part 1 (.box 113 (.st (.part 952 (.v (.st 19)) (.part 1 (.box 184 (.v (.st 26))) (.part 320 (.v (.st 21)) (.part 1 (.row 3 1 (.int .i64)) .nil)))))) (.part 1 (.v (.int .i64)) .nil)))) (.part 1 (.v (.int .u32)) (.part 1 (.v (.int .i64)) .nil)))) (.part 1 (.v (.int .i64)) .nil)))) .nil)),[some 0,some 1,some 2,some 3,none],(.cons (.iQ 43 (.v (.int .i64))) (.cons (.box 141 (.st (.part 3 (.st (.part 1 (.box 149 (.st (.part 1 (.box 113 (.st (.part 952 (.v (.st 19)) (.part 1 (.box 184 (.v (.st 26))) (.part 320 (.v (.st 21)) (.part 1 (.row 3 1 (.int .i64)) .nil)))))) (.part 1 (.v (.int .i64)) .nil)))) (.part 1 (.v (.int .u32)) (.part 1 (.v (.int .i64)) .nil)))) (.part 1 (.v (.int .i64)) .nil)))) .nil)),[some 0,some 1,some 2,some 3,none],[[0]]⟩ (λx=>aW n x.1 x.2.1 x.2.2.1 x.2.2.2.1 x.2.2.2.2.1 x.2.2.2.2.2.1 x.2.2.2.2.2.2.1 x.2.2.2.2.2.2.2.1 x.2.2.2.2.2.2.2.2.1 x.2.2.2.2.2.2.2.2.2.1) (λy=>(y.1,y.2.1,y.2.2.1,y.2.2.2.1,y.2.2.2.2.1,y.2.2.2.2.2.1,y.2.2.2.2.2.2.1,y.2.2.2.2.2.2.2.1)) (λz=>(z.1,(z.2.1,(z.2.2.1,(z.2.2.2.1,(z.2.2.2.2.1,(z.2.2.2.2.2.1,(z.2.2.2.2.2.2.1,(z.2.2.2.2.2.2.2,()))))))))) (λy=>(y.1,y.2.1,y.2.2.1,y.2.2.2.1,y.2.2.2.2.1,y.2.2.2.2.2.1,y.2.2.2.2.2.2.1,y.2.2.2.2.2.2.2.1,y.2.2.2.2.2.2.2.2.1)) (λz=>(z.1,(z.2.1,(z.2.2.1,(z.2.2.2.1,(z.2.2.2.2.1,(z.2.2.2.2.2.1,(z.2.2.2.2.2.2.1,(z.2.2.2.2.2.2.2.1,(z.2.2.2.2.2.2.2.2,()))))))))))
def iR(n:Nat)(cS:ae)(dg:aj)(dz:ai)(dy:(List Int))(cH:Int)(bU:Int)(bP:Int)(sD:Int)(a1:Int)(a2:Int):Option (Except (Int×ae×aj×ai×(List Int)×Int×Int×Int×Int) (Int×ae×aj×ai×(List Int)×Int×Int×Int×Int)):=
iL (da n cS dg dz dy cH bU bP sD 16) (λax=>
lt (λ(bA:Int) (cM:ae) (cU:aj) (dZ:ai) (cJ:(List Int)) (dP:Int) (eF:Int) (eB:Int) (cL:Int)=>
bd (gw n bA) λdh=>
iL (aW n cM cU dZ cJ dP eF eB cL (wr .i64 (dh+0)) a1) (λcN=>
bd (gw n bA) λnC=>
iL (aW n cN.1 cN.2.1 cN.2.2.1 cN.2.2.2.1 cN.2.2.2.2.1 cN.2.2.2.2.2.1 cN.2.2.2.2.2.2.1 cN.2.2.2.2.2.2.2 (wr .i64 (nC+8)) a2) (λdI=>
some (.ok (bA,dI.1,dI.2.1,dI.2.2.1,dI.2.2.2.1,dI.2.2.2.2.1,dI.2.2.2.2.2.1,dI.2.2.2.2.2.2.1,dI.2.2.2.2.2.2.2))) (λmR=>
some (.error (mR.1,mR.2.1,mR.2.2.1,mR.2.2.2.1,mR.2.2.2.2.1,mR.2.2.2.2.2.1,mR.2.2.2.2.2.2.1,mR.2.2.2.2.2.2.2.1,mR.2.2.2.2.2.2.2.2)))) (λu7=>
some (.error (u7.1,u7.2.1,u7.2.2.1,u7.2.2.2.1,u7.2.2.2.2.1,u7.2.2.2.2.2.1,u7.2.2.2.2.2.2.1,u7.2.2.2.2.2.2.2.1,u7.2.2.2.2.2.2.2.2)))) λS5=>
cn ((ax.1==0)) (
bd (eV n ax.2.1 ax.2.2.1 ax.2.2.2.1 ax.2.2.2.2.1 ax.2.2.2.2.2.1 ax.2.2.2.2.2.2.1 32 8) λgN=>
iL (qM n gN.2.1) (λ_=>
S5 (wr .u64 ((wr .u64 gN.1)+1)) gN.2.2.1 gN.2.2.2.1 gN.2.2.2.2.1 gN.2.2.2.2.2.1 gN.2.2.2.2.2.2 ax.2.2.2.2.2.2.1 ax.2.2.2.2.2.2.2.1 ax.2.2.2.2.2.2.2.2) (λXv=>
some (.error (Xv,gN.2.2.1,gN.2.2.2.1,gN.2.2.2.2.1,gN.2.2.2.2.2.1,gN.2.2.2.2.2.2,ax.2.2.2.2.2.2.1,ax.2.2.2.2.2.2.2.1,ax.2.2.2.2.2.2.2.2)))) (
bd (gw n ax.1) λo5=>
bd (kQ n ax.2.1 ax.2.2.1 ax.2.2.2.1 ax.2.2.2.2.1 ax.2.2.2.2.2.1 ax.2.2.2.2.2.2.1 (wr .i64 (o5+16))) λrW=>
iL (qM n rW.2.1) (λ_=>
iL (aW n rW.2.2.1 rW.2.2.2.1 rW.2.2.2.2.1 rW.2.2.2.2.2.1 rW.2.2.2.2.2.2 ax.2.2.2.2.2.2.1 ax.2.2.2.2.2.2.2.1 ax.2.2.2.2.2.2.2.2 (wr .i64 (ax.2.2.2.2.2.2.2.1+16)) rW.1) (λyO=>
S5 ax.1 yO.1 yO.2.1 yO.2.2.1 yO.2.2.2.1 yO.2.2.2.2.1 yO.2.2.2.2.2.1 yO.2.2.2.2.2.2.1 yO.2.2.2.2.2.2.2) (λe47=>
some (.error (e47.1,e47.2.1,e47.2.2.1,e47.2.2.2.1,e47.2.2.2.2.1,e47.2.2.2.2.2.1,e47.2.2.2.2.2.2.1,e47.2.2.2.2.2.2.2.1,e47.2.2.2.2.2.2.2.2)))) (λRB=>
some (.error (RB,rW.2.2.1,rW.2.2.2.1,rW.2.2.2.2.1,rW.2.2.2.2.2.1,rW.2.2.2.2.2.2,ax.2.2.2.2.2.2.1,ax.2.2.2.2.2.2.2.1,ax.2.2.2.2.2.2.2.2))))) (λeW=>
some (.error (eW.1,eW.2.1,eW.2.2.1,eW.2.2.2.1,eW.2.2.2.2.1,eW.2.2.2.2.2.1,eW.2.2.2.2.2.2.1,eW.2.2.2.2.2.2.2.1,eW.2.2.2.2.2.2.2.2)))
def Ej(n:Nat):CT:=cX (tC n [(14, .join [(.dS 7, .v (.int .u64)),(.via 0, .box 141 (.st (.part 3 (.st (.part 1 (.box 149 (.st (.part 1 (.box 113 (.st (.part 952 (.v (.st 19)) (.part 1 (.box 184 (.v (.st 26))) (.part 320 (.v (.st 21)) (.part 1 (.row 3 1 (.int .i64)) .nil)))))) (.part 1 (.v (.int .i64)) .nil)))) (.part 1 (.v (.int .u32)) (.part 1 (.v (.int .i64)) .nil)))) (.part 1 (.v (.int .i64)) .nil))))] []),(2000038, .HH)] [fR n,qB n,ic n,so n,y9 n,y7 n] []) ⟨42,[],(.cons (.box 141 (.st (.part 3 (.st (.part 1 (.box 149 (.st (.part 1 (.box 113 (.st (.part 952 (.v (.st 19)) (.part 1 (.box 184 (.v (.st 26))) (.part 320 (.v (.st 21)) (.part 1 (.row 3 1 (.int .i64)) .nil)))))) (.part 1 (.v (.int .i64)) .nil)))) (.part 1 (.v (.int .u32)) (.part 1 (.v (.int .i64)) .nil)))) (.part 1 (.v (.int .i64)) .nil)))) (.cons (.v (.int .u64)) (.cons (.v (.int .u64)) .nil))),(.cons (.v (.int .u64)) (.cons (.box 141 (.st (.part 3 (.st (.part 1 (.box 149 (.st (.part 1 (.box 113 (.st (.part 952 (.v (.st 19)) (.part 1 (.box 184 (.v (.st 26))) (.part 320 (.v (.st 21)) (.part 1 (.row 3 1 (.int .i64)) .nil)))))) (.part 1 (.v (.int .i64)) .nil)))) (.part 1 (.v (.int .u32)) (.part 1 (.v (.int .i64)) .nil)))) (.part 1 (.v (.int .i64)) .nil)))) .nil)),[some 0,some 1,some 2,some 3,none],(.cons (.iQ 43 (.v (.int .i64))) (.cons (.box 141 (.st (.part 3 (.st (.part 1 (.box 149 (.st (.part 1 (.box 113 (.st (.part 952 (.v (.st 19)) (.part 1 (.box 184 (.v (.st 26))) (.part 320 (.v (.st 21)) (.part 1 (.row 3 1 (.int .i64)) .nil)))))) (.part 1 (.v (.int .i64)) .nil)))) (.part 1 (.v (.int .u32)) (.part 1 (.v (.int .i64)) .nil)))) (.part 1 (.v (.int .i64)) .nil)))) .nil)),[some 0,some 1,some 2,some 3,none],[[0]]⟩ (λx=>iR n x.1 x.2.1 x.2.2.1 x.2.2.2.1 x.2.2.2.2.1 x.2.2.2.2.2.1 x.2.2.2.2.2.2.1 x.2.2.2.2.2.2.2.1 x.2.2.2.2.2.2.2.2.1 x.2.2.2.2.2.2.2.2.2.1) (λy=>(y.1,y.2.1,y.2.2.1,y.2.2.2.1,y.2.2.2.2.1,y.2.2.2.2.2.1,y.2.2.2.2.2.2.1,y.2.2.2.2.2.2.2.1,y.2.2.2.2.2.2.2.2.1)) (λz=>(z.1,(z.2.1,(z.2.2.1,(z.2.2.2.1,(z.2.2.2.2.1,(z.2.2.2.2.2.1,(z.2.2.2.2.2.2.1,(z.2.2.2.2.2.2.2.1,(z.2.2.2.2.2.2.2.2,())))))))))) (λy=>(y.1,y.2.1,y.2.2.1,y.2.2.2.1,y.2.2.2.2.1,y.2.2.2.2.2.1,y.2.2.2.2.2.2.1,y.2.2.2.2.2.2.2.1,y.2.2.2.2.2.2.2.2.1)) (λz=>(z.1,(z.2.1,(z.2.2.1,(z.2.2.2.1,(z.2.2.2.2.1,(z.2.2.2.2.2.1,(z.2.2.2.2.2.2.1,(z.2.2.2.2.2.2.2.1,(z.2.2.2.2.2.2.2.2,()))))))))))
def zS(n:Nat)(a0:Int):Option Int:=
some (wr .u64 ((MR .u64 a0 (vM .u64 a0 33))*18397679294719823053))
theorem FR:∃f:Nat->Int->Option Int,f=zS:=⟨_,rfl⟩
def nu:Nat->Int->Option Int:=Classical.choose FR
theorem FQ:nu=zS:=Classical.choose_spec FR
def vh(n:Nat):CT:=cVq (tC n [] [] []) ⟨12,[],(.cons (.v (.int .u64)) .nil),(.cons (.v (.int .u64)) .nil),[], .nil,[],[]⟩ (λx=>zS n x.1) (λy=>(y.1)) (λz=>(z,())) (f':=λx=>nu n x.1) (by rw[FQ])
def lG(n:Nat):ae->aj->ai->(List Int)->Int->Int->Int->Int->Int->Int->Option (Except (Int×ae×aj×ai×(List Int)×Int×Int×Int×Int) (Int×Int×ae×aj×ai×(List Int)×Int×Int×Int×Int)):=Nat.rec (λ_ _ _ _ _ _ _ _ _ _ =>none) (λn ih cS dg dz dy cH bU bP sD a1 a2=>
cn ((a1==0)) (
some (.ok (0,0,cS,dg,dz,dy,cH,bU,bP,sD))) (
iL (dV n cS dg dz dy cH bU bP sD a1) (λax=>
iL (aX n ax.2.1 ax.2.2.1 ax.2.2.2.1 ax.2.2.2.2.1 ax.2.2.2.2.2.1 ax.2.2.2.2.2.2.1 ax.2.2.2.2.2.2.2.1 ax.2.2.2.2.2.2.2.2 (wr .i64 (ax.1+0))) (λbA=>
cn (decide (bA.1<a2)) (
iL (aX n bA.2.1 bA.2.2.1 bA.2.2.2.1 bA.2.2.2.2.1 bA.2.2.2.2.2.1 bA.2.2.2.2.2.2.1 bA.2.2.2.2.2.2.2.1 bA.2.2.2.2.2.2.2.2 (wr .i64 (ax.1+24))) (λcU=>
iL (ih cU.2.1 cU.2.2.1 cU.2.2.2.1 cU.2.2.2.2.1 cU.2.2.2.2.2.1 cU.2.2.2.2.2.2.1 cU.2.2.2.2.2.2.2.1 cU.2.2.2.2.2.2.2.2 cU.1 a2) (λcJ=>
iL (aW n cJ.2.2.1 cJ.2.2.2.1 cJ.2.2.2.2.1 cJ.2.2.2.2.2.1 cJ.2.2.2.2.2.2.1 cJ.2.2.2.2.2.2.2.1 cJ.2.2.2.2.2.2.2.2.1 cJ.2.2.2.2.2.2.2.2.2 (wr .i64 (ax.1+24)) cJ.1) (λeF=>
some (.ok (a1,cJ.2.1,eF.1,eF.2.1,eF.2.2.1,eF.2.2.2.1,eF.2.2.2.2.1,eF.2.2.2.2.2.1,eF.2.2.2.2.2.2.1,eF.2.2.2.2.2.2.2))) (λp7=>
some (.error (p7.1,p7.2.1,p7.2.2.1,p7.2.2.2.1,p7.2.2.2.2.1,p7.2.2.2.2.2.1,p7.2.2.2.2.2.2.1,p7.2.2.2.2.2.2.2.1,p7.2.2.2.2.2.2.2.2)))) (λxF=>
some (.error (xF.1,xF.2.1,xF.2.2.1,xF.2.2.2.1,xF.2.2.2.2.1,xF.2.2.2.2.2.1,xF.2.2.2.2.2.2.1,xF.2.2.2.2.2.2.2.1,xF.2.2.2.2.2.2.2.2)))) (λwZ=>
some (.error (wZ.1,wZ.2.1,wZ.2.2.1,wZ.2.2.2.1,wZ.2.2.2.2.1,wZ.2.2.2.2.2.1,wZ.2.2.2.2.2.2.1,wZ.2.2.2.2.2.2.2.1,wZ.2.2.2.2.2.2.2.2)))) (
iL (aX n bA.2.1 bA.2.2.1 bA.2.2.2.1 bA.2.2.2.2.1 bA.2.2.2.2.2.1 bA.2.2.2.2.2.2.1 bA.2.2.2.2.2.2.2.1 bA.2.2.2.2.2.2.2.2 (wr .i64 (ax.1+16))) (λcL=>
iL (ih cL.2.1 cL.2.2.1 cL.2.2.2.1 cL.2.2.2.2.1 cL.2.2.2.2.2.1 cL.2.2.2.2.2.2.1 cL.2.2.2.2.2.2.2.1 cL.2.2.2.2.2.2.2.2 cL.1 a2) (λdh=>
iL (aW n dh.2.2.1 dh.2.2.2.1 dh.2.2.2.2.1 dh.2.2.2.2.2.1 dh.2.2.2.2.2.2.1 dh.2.2.2.2.2.2.2.1 dh.2.2.2.2.2.2.2.2.1 dh.2.2.2.2.2.2.2.2.2 (wr .i64 (ax.1+16)) dh.2.1) (λdW=>
some (.ok (dh.1,a1,dW.1,dW.2.1,dW.2.2.1,dW.2.2.2.1,dW.2.2.2.2.1,dW.2.2.2.2.2.1,dW.2.2.2.2.2.2.1,dW.2.2.2.2.2.2.2))) (λmg=>
some (.error (mg.1,mg.2.1,mg.2.2.1,mg.2.2.2.1,mg.2.2.2.2.1,mg.2.2.2.2.2.1,mg.2.2.2.2.2.2.1,mg.2.2.2.2.2.2.2.1,mg.2.2.2.2.2.2.2.2)))) (λtF=>
some (.error (tF.1,tF.2.1,tF.2.2.1,tF.2.2.2.1,tF.2.2.2.2.1,tF.2.2.2.2.2.1,tF.2.2.2.2.2.2.1,tF.2.2.2.2.2.2.2.1,tF.2.2.2.2.2.2.2.2)))) (λyQ=>
some (.error (yQ.1,yQ.2.1,yQ.2.2.1,yQ.2.2.2.1,yQ.2.2.2.2.1,yQ.2.2.2.2.2.1,yQ.2.2.2.2.2.2.1,yQ.2.2.2.2.2.2.2.1,yQ.2.2.2.2.2.2.2.2))))) (λlP=>
some (.error (lP.1,lP.2.1,lP.2.2.1,lP.2.2.2.1,lP.2.2.2.2.1,lP.2.2.2.2.2.1,lP.2.2.2.2.2.2.1,lP.2.2.2.2.2.2.2.1,lP.2.2.2.2.2.2.2.2)))) (λeW=>
some (.error (eW.1,eW.2.1,eW.2.2.1,eW.2.2.2.1,eW.2.2.2.2.1,eW.2.2.2.2.2.1,eW.2.2.2.2.2.2.1,eW.2.2.2.2.2.2.2.1,eW.2.2.2.2.2.2.2.2))))) n
def CW(n:Nat):CT:=cRX (λn w=>tC n [] [w,fA n,eS n,ic n] []) ⟨65,[],(.cons (.box 141 (.st (.part 3 (.st (.part 1 (.box 149 (.st (.part 1 (.box 113 (.st (.part 952 (.v (.st 19)) (.part 1 (.box 184 (.v (.st 26))) (.part 320 (.v (.st 21)) (.part 1 (.row 3 1 (.int .i64)) .nil)))))) (.part 1 (.v (.int .i64)) .nil)))) (.part 1 (.v (.int .u32)) (.part 1 (.v (.int .i64)) .nil)))) (.part 1 (.v (.int .i64)) .nil)))) (.cons (.v (.int .u64)) (.cons (.v (.int .u64)) .nil))),(.cons (.jc (.cons (.v (.int .u64)) (.cons (.v (.int .u64)) .nil))) (.cons (.box 141 (.st (.part 3 (.st (.part 1 (.box 149 (.st (.part 1 (.box 113 (.st (.part 952 (.v (.st 19)) (.part 1 (.box 184 (.v (.st 26))) (.part 320 (.v (.st 21)) (.part 1 (.row 3 1 (.int .i64)) .nil)))))) (.part 1 (.v (.int .i64)) .nil)))) (.part 1 (.v (.int .u32)) (.part 1 (.v (.int .i64)) .nil)))) (.part 1 (.v (.int .i64)) .nil)))) .nil)),[some 0,some 1,some 2,some 3,none],(.cons (.iQ 43 (.v (.int .i64))) (.cons (.box 141 (.st (.part 3 (.st (.part 1 (.box 149 (.st (.part 1 (.box 113 (.st (.part 952 (.v (.st 19)) (.part 1 (.box 184 (.v (.st 26))) (.part 320 (.v (.st 21)) (.part 1 (.row 3 1 (.int .i64)) .nil)))))) (.part 1 (.v (.int .i64)) .nil)))) (.part 1 (.v (.int .u32)) (.part 1 (.v (.int .i64)) .nil)))) (.part 1 (.v (.int .i64)) .nil)))) .nil)),[some 0,some 1,some 2,some 3,none],[[0]]⟩ (λn x=>lG n x.1 x.2.1 x.2.2.1 x.2.2.2.1 x.2.2.2.2.1 x.2.2.2.2.2.1 x.2.2.2.2.2.2.1 x.2.2.2.2.2.2.2.1 x.2.2.2.2.2.2.2.2.1 x.2.2.2.2.2.2.2.2.2.1) (λy=>(y.1,y.2.1,y.2.2.1,y.2.2.2.1,y.2.2.2.2.1,y.2.2.2.2.2.1,y.2.2.2.2.2.2.1,y.2.2.2.2.2.2.2.1,y.2.2.2.2.2.2.2.2.1,y.2.2.2.2.2.2.2.2.2.1)) (λz=>(z.1,(z.2.1,(z.2.2.1,(z.2.2.2.1,(z.2.2.2.2.1,(z.2.2.2.2.2.1,(z.2.2.2.2.2.2.1,(z.2.2.2.2.2.2.2.1,(z.2.2.2.2.2.2.2.2.1,(z.2.2.2.2.2.2.2.2.2,()))))))))))) (λy=>(y.1,y.2.1,y.2.2.1,y.2.2.2.1,y.2.2.2.2.1,y.2.2.2.2.2.1,y.2.2.2.2.2.2.1,y.2.2.2.2.2.2.2.1,y.2.2.2.2.2.2.2.2.1)) (λz=>(z.1,(z.2.1,(z.2.2.1,(z.2.2.2.1,(z.2.2.2.2.1,(z.2.2.2.2.2.1,(z.2.2.2.2.2.2.1,(z.2.2.2.2.2.2.2.1,(z.2.2.2.2.2.2.2.2,())))))))))) n
def qL(n:Nat):ae->aj->ai->(List Int)->Int->Int->Int->Int->Int->Int->Int->Option (Except (Int×ae×aj×ai×(List Int)×Int×Int×Int×Int) (Int×ae×aj×ai×(List Int)×Int×Int×Int×Int)):=Nat.rec (λ_ _ _ _ _ _ _ _ _ _ _ =>none) (λn ih cS dg dz dy cH bU bP sD a1 a2 a3=>
cl (((a1==0)==false)) (nu n a3) default λax=>
cl (((a1==0)==false)) (gw n a1) default λbp=>
cn ((a1==0)) (
iL (lG n cS dg dz dy cH bU bP sD a1 a3) (λbA=>
bd (gw n a2) λcU=>
iL (aW n bA.2.2.1 bA.2.2.2.1 bA.2.2.2.2.1 bA.2.2.2.2.2.1 bA.2.2.2.2.2.2.1 bA.2.2.2.2.2.2.2.1 bA.2.2.2.2.2.2.2.2.1 bA.2.2.2.2.2.2.2.2.2 (wr .i64 (cU+16)) bA.1) (λdZ=>
bd (gw n a2) λdP=>
iL (aW n dZ.1 dZ.2.1 dZ.2.2.1 dZ.2.2.2.1 dZ.2.2.2.2.1 dZ.2.2.2.2.2.1 dZ.2.2.2.2.2.2.1 dZ.2.2.2.2.2.2.2 (wr .i64 (dP+24)) bA.2.1) (λeF=>
some (.ok (a2,eF.1,eF.2.1,eF.2.2.1,eF.2.2.2.1,eF.2.2.2.2.1,eF.2.2.2.2.2.1,eF.2.2.2.2.2.2.1,eF.2.2.2.2.2.2.2))) (λp7=>
some (.error (p7.1,p7.2.1,p7.2.2.1,p7.2.2.2.1,p7.2.2.2.2.1,p7.2.2.2.2.2.1,p7.2.2.2.2.2.2.1,p7.2.2.2.2.2.2.2.1,p7.2.2.2.2.2.2.2.2)))) (λFP=>
some (.error (FP.1,FP.2.1,FP.2.2.1,FP.2.2.2.1,FP.2.2.2.2.1,FP.2.2.2.2.2.1,FP.2.2.2.2.2.2.1,FP.2.2.2.2.2.2.2.1,FP.2.2.2.2.2.2.2.2)))) (λlP=>
some (.error (lP.1,lP.2.1,lP.2.2.1,lP.2.2.2.1,lP.2.2.2.2.1,lP.2.2.2.2.2.1,lP.2.2.2.2.2.2.1,lP.2.2.2.2.2.2.2.1,lP.2.2.2.2.2.2.2.2)))) (
iL (aX n cS dg dz dy cH bU bP sD (wr .i64 (bp+0))) (λcL=>
bd (nu n cL.1) λdh=>
cn (decide (dh<ax)) (
iL (lG n cL.2.1 cL.2.2.1 cL.2.2.2.1 cL.2.2.2.2.1 cL.2.2.2.2.2.1 cL.2.2.2.2.2.2.1 cL.2.2.2.2.2.2.2.1 cL.2.2.2.2.2.2.2.2 a1 a3) (λcN=>
bd (gw n a2) λnC=>
iL (aW n cN.2.2.1 cN.2.2.2.1 cN.2.2.2.2.1 cN.2.2.2.2.2.1 cN.2.2.2.2.2.2.1 cN.2.2.2.2.2.2.2.1 cN.2.2.2.2.2.2.2.2.1 cN.2.2.2.2.2.2.2.2.2 (wr .i64 (nC+16)) cN.1) (λdI=>
bd (gw n a2) λgN=>
iL (aW n dI.1 dI.2.1 dI.2.2.1 dI.2.2.2.1 dI.2.2.2.2.1 dI.2.2.2.2.2.1 dI.2.2.2.2.2.2.1 dI.2.2.2.2.2.2.2 (wr .i64 (gN+24)) cN.2.1) (λtM=>
some (.ok (a2,tM.1,tM.2.1,tM.2.2.1,tM.2.2.2.1,tM.2.2.2.2.1,tM.2.2.2.2.2.1,tM.2.2.2.2.2.2.1,tM.2.2.2.2.2.2.2))) (λXv=>
some (.error (Xv.1,Xv.2.1,Xv.2.2.1,Xv.2.2.2.1,Xv.2.2.2.2.1,Xv.2.2.2.2.2.1,Xv.2.2.2.2.2.2.1,Xv.2.2.2.2.2.2.2.1,Xv.2.2.2.2.2.2.2.2)))) (λmR=>
some (.error (mR.1,mR.2.1,mR.2.2.1,mR.2.2.2.1,mR.2.2.2.2.1,mR.2.2.2.2.2.1,mR.2.2.2.2.2.2.1,mR.2.2.2.2.2.2.2.1,mR.2.2.2.2.2.2.2.2)))) (λu7=>
some (.error (u7.1,u7.2.1,u7.2.2.1,u7.2.2.2.1,u7.2.2.2.2.1,u7.2.2.2.2.2.1,u7.2.2.2.2.2.2.1,u7.2.2.2.2.2.2.2.1,u7.2.2.2.2.2.2.2.2)))) (
iL (dV n cL.2.1 cL.2.2.1 cL.2.2.2.1 cL.2.2.2.2.1 cL.2.2.2.2.2.1 cL.2.2.2.2.2.2.1 cL.2.2.2.2.2.2.2.1 cL.2.2.2.2.2.2.2.2 a1) (λo5=>
lt (λ(yu:Int) (x45:ae) (yO:aj) (JG:ai) (Kg:(List Int)) (Ke:Int) (Cp:Int) (x51:Int) (MU:Int)=>
iL (aX n x45 yO JG Kg Ke Cp x51 MU (wr .i64 (o5.1+yu))) (λow=>
iL (ih ow.2.1 ow.2.2.1 ow.2.2.2.1 ow.2.2.2.2.1 ow.2.2.2.2.2.1 ow.2.2.2.2.2.2.1 ow.2.2.2.2.2.2.2.1 ow.2.2.2.2.2.2.2.2 ow.1 a2 a3) (λHt=>
iL (aW n Ht.2.1 Ht.2.2.1 Ht.2.2.2.1 Ht.2.2.2.2.1 Ht.2.2.2.2.2.1 Ht.2.2.2.2.2.2.1 Ht.2.2.2.2.2.2.2.1 Ht.2.2.2.2.2.2.2.2 (wr .i64 (o5.1+yu)) Ht.1) (λOn=>
some (.ok (a1,On.1,On.2.1,On.2.2.1,On.2.2.2.1,On.2.2.2.2.1,On.2.2.2.2.2.1,On.2.2.2.2.2.2.1,On.2.2.2.2.2.2.2))) (λe59=>
some (.error (e59.1,e59.2.1,e59.2.2.1,e59.2.2.2.1,e59.2.2.2.2.1,e59.2.2.2.2.2.1,e59.2.2.2.2.2.2.1,e59.2.2.2.2.2.2.2.1,e59.2.2.2.2.2.2.2.2)))) (λe57=>
some (.error (e57.1,e57.2.1,e57.2.2.1,e57.2.2.2.1,e57.2.2.2.2.1,e57.2.2.2.2.2.1,e57.2.2.2.2.2.2.1,e57.2.2.2.2.2.2.2.1,e57.2.2.2.2.2.2.2.2)))) (λe55=>
some (.error (e55.1,e55.2.1,e55.2.2.1,e55.2.2.2.1,e55.2.2.2.2.1,e55.2.2.2.2.2.1,e55.2.2.2.2.2.2.1,e55.2.2.2.2.2.2.2.1,e55.2.2.2.2.2.2.2.2)))) λj53=>
iL (aX n o5.2.1 o5.2.2.1 o5.2.2.2.1 o5.2.2.2.2.1 o5.2.2.2.2.2.1 o5.2.2.2.2.2.2.1 o5.2.2.2.2.2.2.2.1 o5.2.2.2.2.2.2.2.2 (wr .i64 (o5.1+0))) (λwX=>
cn (decide (a3<wX.1)) (
j53 16 wX.2.1 wX.2.2.1 wX.2.2.2.1 wX.2.2.2.2.1 wX.2.2.2.2.2.1 wX.2.2.2.2.2.2.1 wX.2.2.2.2.2.2.2.1 wX.2.2.2.2.2.2.2.2) (
j53 24 wX.2.1 wX.2.2.1 wX.2.2.2.1 wX.2.2.2.2.1 wX.2.2.2.2.2.1 wX.2.2.2.2.2.2.1 wX.2.2.2.2.2.2.2.1 wX.2.2.2.2.2.2.2.2)) (λe61=>
some (.error (e61.1,e61.2.1,e61.2.2.1,e61.2.2.2.1,e61.2.2.2.2.1,e61.2.2.2.2.2.1,e61.2.2.2.2.2.2.1,e61.2.2.2.2.2.2.2.1,e61.2.2.2.2.2.2.2.2)))) (λe43=>
some (.error (e43.1,e43.2.1,e43.2.2.1,e43.2.2.2.1,e43.2.2.2.2.1,e43.2.2.2.2.2.1,e43.2.2.2.2.2.2.1,e43.2.2.2.2.2.2.2.1,e43.2.2.2.2.2.2.2.2))))) (λyQ=>
some (.error (yQ.1,yQ.2.1,yQ.2.2.1,yQ.2.2.2.1,yQ.2.2.2.2.1,yQ.2.2.2.2.2.1,yQ.2.2.2.2.2.2.1,yQ.2.2.2.2.2.2.2.1,yQ.2.2.2.2.2.2.2.2))))) n
def BM(n:Nat):CT:=cRX (λn w=>tC n [(20, .join [(.dS 12, .v (.int .i64)),(.via 0, .box 141 (.st (.part 3 (.st (.part 1 (.box 149 (.st (.part 1 (.box 113 (.st (.part 952 (.v (.st 19)) (.part 1 (.box 184 (.v (.st 26))) (.part 320 (.v (.st 21)) (.part 1 (.row 3 1 (.int .i64)) .nil)))))) (.part 1 (.v (.int .i64)) .nil)))) (.part 1 (.v (.int .u32)) (.part 1 (.v (.int .i64)) .nil)))) (.part 1 (.v (.int .i64)) .nil))))] [])] [w,vh n,qB n,CW n,ic n,eS n,fA n] []) ⟨43,[],(.cons (.box 141 (.st (.part 3 (.st (.part 1 (.box 149 (.st (.part 1 (.box 113 (.st (.part 952 (.v (.st 19)) (.part 1 (.box 184 (.v (.st 26))) (.part 320 (.v (.st 21)) (.part 1 (.row 3 1 (.int .i64)) .nil)))))) (.part 1 (.v (.int .i64)) .nil)))) (.part 1 (.v (.int .u32)) (.part 1 (.v (.int .i64)) .nil)))) (.part 1 (.v (.int .i64)) .nil)))) (.cons (.v (.int .u64)) (.cons (.v (.int .u64)) (.cons (.v (.int .u64)) .nil)))),(.cons (.v (.int .u64)) (.cons (.box 141 (.st (.part 3 (.st (.part 1 (.box 149 (.st (.part 1 (.box 113 (.st (.part 952 (.v (.st 19)) (.part 1 (.box 184 (.v (.st 26))) (.part 320 (.v (.st 21)) (.part 1 (.row 3 1 (.int .i64)) .nil)))))) (.part 1 (.v (.int .i64)) .nil)))) (.part 1 (.v (.int .u32)) (.part 1 (.v (.int .i64)) .nil)))) (.part 1 (.v (.int .i64)) .nil)))) .nil)),[some 0,some 1,some 2,some 3,none],(.cons (.iQ 43 (.v (.int .i64))) (.cons (.box 141 (.st (.part 3 (.st (.part 1 (.box 149 (.st (.part 1 (.box 113 (.st (.part 952 (.v (.st 19)) (.part 1 (.box 184 (.v (.st 26))) (.part 320 (.v (.st 21)) (.part 1 (.row 3 1 (.int .i64)) .nil)))))) (.part 1 (.v (.int .i64)) .nil)))) (.part 1 (.v (.int .u32)) (.part 1 (.v (.int .i64)) .nil)))) (.part 1 (.v (.int .i64)) .nil)))) .nil)),[some 0,some 1,some 2,some 3,none],[[0]]⟩ (λn x=>qL n x.1 x.2.1 x.2.2.1 x.2.2.2.1 x.2.2.2.2.1 x.2.2.2.2.2.1 x.2.2.2.2.2.2.1 x.2.2.2.2.2.2.2.1 x.2.2.2.2.2.2.2.2.1 x.2.2.2.2.2.2.2.2.2.1 x.2.2.2.2.2.2.2.2.2.2.1) (λy=>(y.1,y.2.1,y.2.2.1,y.2.2.2.1,y.2.2.2.2.1,y.2.2.2.2.2.1,y.2.2.2.2.2.2.1,y.2.2.2.2.2.2.2.1,y.2.2.2.2.2.2.2.2.1)) (λz=>(z.1,(z.2.1,(z.2.2.1,(z.2.2.2.1,(z.2.2.2.2.1,(z.2.2.2.2.2.1,(z.2.2.2.2.2.2.1,(z.2.2.2.2.2.2.2.1,(z.2.2.2.2.2.2.2.2,())))))))))) (λy=>(y.1,y.2.1,y.2.2.1,y.2.2.2.1,y.2.2.2.2.1,y.2.2.2.2.2.1,y.2.2.2.2.2.2.1,y.2.2.2.2.2.2.2.1,y.2.2.2.2.2.2.2.2.1)) (λz=>(z.1,(z.2.1,(z.2.2.1,(z.2.2.2.1,(z.2.2.2.2.1,(z.2.2.2.2.2.1,(z.2.2.2.2.2.2.1,(z.2.2.2.2.2.2.2.1,(z.2.2.2.2.2.2.2.2,())))))))))) n
def eX(n:Nat)(cS:ae)(dg:aj)(dz:ai)(dy:(List Int))(cH:Int)(bU:Int)(bP:Int)(a1:Int)(a2:Int):Option (Bool×Int×ae×aj×ai×(List Int)×Int×Int×Int):=
iL (kj n cS dg dz dy cH bU bP 0 a1) (λax=>
cn ((ax.1!=0)) (
bd (gw n ax.1) λbA=>
iL (aW n ax.2.1 ax.2.2.1 ax.2.2.2.1 ax.2.2.2.2.1 ax.2.2.2.2.2.1 ax.2.2.2.2.2.2.1 ax.2.2.2.2.2.2.2.1 ax.2.2.2.2.2.2.2.2 (wr .i64 (bA+8)) a2) (λcM=>
lt (true:Bool) λdZ=>
some (dZ,0,cM.1,cM.2.1,cM.2.2.1,cM.2.2.2.1,cM.2.2.2.2.1,bU,bP)) (λDB=>
lt (false:Bool) λcJ=>
some (cJ,DB.1,DB.2.1,DB.2.2.1,DB.2.2.2.1,DB.2.2.2.2.1,DB.2.2.2.2.2.1,bU,bP))) (
iL (iR n ax.2.1 ax.2.2.1 ax.2.2.2.1 ax.2.2.2.2.1 ax.2.2.2.2.2.1 ax.2.2.2.2.2.2.1 ax.2.2.2.2.2.2.2.1 ax.2.2.2.2.2.2.2.2 a1 a2) (λdP=>
iL (da n dP.2.1 dP.2.2.1 dP.2.2.2.1 dP.2.2.2.2.1 dP.2.2.2.2.2.1 dP.2.2.2.2.2.2.1 dP.2.2.2.2.2.2.2.1 0 0) (λeB=>
iL (qL n eB.2.1 eB.2.2.1 eB.2.2.2.1 eB.2.2.2.2.1 eB.2.2.2.2.2.1 eB.2.2.2.2.2.2.1 eB.2.2.2.2.2.2.2.1 eB.2.2.2.2.2.2.2.2 eB.1 dP.1 a1) (λgV=>
iL (aW n gV.2.1 gV.2.2.1 gV.2.2.2.1 gV.2.2.2.2.1 gV.2.2.2.2.2.1 gV.2.2.2.2.2.2.1 gV.2.2.2.2.2.2.2.1 gV.2.2.2.2.2.2.2.2 (wr .i64 (bP+0)) gV.1) (λcN=>
iL (da n cN.1 cN.2.1 cN.2.2.1 cN.2.2.2.1 cN.2.2.2.2.1 cN.2.2.2.2.2.1 cN.2.2.2.2.2.2.1 cN.2.2.2.2.2.2.2 8) (λnC=>
iL (aW n nC.2.1 nC.2.2.1 nC.2.2.2.1 nC.2.2.2.2.1 nC.2.2.2.2.2.1 nC.2.2.2.2.2.2.1 nC.2.2.2.2.2.2.2.1 nC.2.2.2.2.2.2.2.2 (wr .i64 (bP+8)) (wr .u64 (nC.1+1))) (λnQ=>
lt (false:Bool) λtM=>
some (tM,0,nQ.1,nQ.2.1,nQ.2.2.1,nQ.2.2.2.1,nQ.2.2.2.2.1,bU,bP)) (λe39=>
lt (false:Bool) λiw=>
some (iw,e39.1,e39.2.1,e39.2.2.1,e39.2.2.2.1,e39.2.2.2.2.1,e39.2.2.2.2.2.1,bU,bP))) (λe37=>
lt (false:Bool) λo5=>
some (o5,e37.1,e37.2.1,e37.2.2.1,e37.2.2.2.1,e37.2.2.2.2.1,e37.2.2.2.2.2.1,bU,bP))) (λu7=>
lt (false:Bool) λrW=>
some (rW,u7.1,u7.2.1,u7.2.2.1,u7.2.2.2.1,u7.2.2.2.2.1,u7.2.2.2.2.2.1,bU,bP))) (λOv=>
lt (false:Bool) λyu=>
some (yu,Ov.1,Ov.2.1,Ov.2.2.1,Ov.2.2.2.1,Ov.2.2.2.2.1,Ov.2.2.2.2.2.1,bU,bP))) (λe31=>
lt (false:Bool) λx45=>
some (x45,e31.1,e31.2.1,e31.2.2.1,e31.2.2.2.1,e31.2.2.2.2.1,e31.2.2.2.2.2.1,bU,bP))) (λTz=>
lt (false:Bool) λyO=>
some (yO,Tz.1,Tz.2.1,Tz.2.2.1,Tz.2.2.2.1,Tz.2.2.2.2.1,Tz.2.2.2.2.2.1,bU,bP)))) (λeW=>
lt (false:Bool) λJG=>
some (JG,eW.1,eW.2.1,eW.2.2.1,eW.2.2.2.1,eW.2.2.2.2.1,eW.2.2.2.2.2.1,bU,bP))
def xY(n:Nat):CT:=cV (tC n [] [qC n,qB n,ic n,Ej n,fR n,BM n] []) ⟨17,[],(.cons (.st (.part 1 (.box 149 (.st (.part 1 (.box 113 (.st (.part 952 (.v (.st 19)) (.part 1 (.box 184 (.v (.st 26))) (.part 320 (.v (.st 21)) (.part 1 (.row 3 1 (.int .i64)) .nil)))))) (.part 1 (.v (.int .i64)) .nil)))) (.part 1 (.v (.int .u32)) (.part 1 (.v (.int .i64)) .nil)))) (.cons (.v (.int .u64)) (.cons (.v (.int .u64)) .nil))),(.cons (.jc (.cons (.v .bool) (.cons (.v (.int .i64)) .nil))) (.cons (.st (.part 1 (.box 149 (.st (.part 1 (.box 113 (.st (.part 952 (.v (.st 19)) (.part 1 (.box 184 (.v (.st 26))) (.part 320 (.v (.st 21)) (.part 1 (.row 3 1 (.int .i64)) .nil)))))) (.part 1 (.v (.int .i64)) .nil)))) (.part 1 (.v (.int .u32)) (.part 1 (.v (.int .i64)) .nil)))) .nil)),[some 0,some 1,some 2,none], .nil,[],[[0]]⟩ (λx=>eX n x.1 x.2.1 x.2.2.1 x.2.2.2.1 x.2.2.2.2.1 x.2.2.2.2.2.1 x.2.2.2.2.2.2.1 x.2.2.2.2.2.2.2.1 x.2.2.2.2.2.2.2.2.1) (λy=>(y.1,y.2.1,y.2.2.1,y.2.2.2.1,y.2.2.2.2.1,y.2.2.2.2.2.1,y.2.2.2.2.2.2.1,y.2.2.2.2.2.2.2.1,y.2.2.2.2.2.2.2.2.1)) (λz=>(z.1,(z.2.1,(z.2.2.1,(z.2.2.2.1,(z.2.2.2.2.1,(z.2.2.2.2.2.1,(z.2.2.2.2.2.2.1,(z.2.2.2.2.2.2.2.1,(z.2.2.2.2.2.2.2.2,()))))))))))
def qb(n:Nat):Int->ae->aj->ai->(List Int)->Int->Int->Int->Int->(List bN)->Option (Except (Int×ae×aj×ai×(List Int)×Int×Int×Int×Int×(List bN)) (ae×aj×ai×(List Int)×Int×Int×Int×Int×(List bN))):=Nat.rec (λ_ _ _ _ _ _ _ _ _ _ =>none) (λn ih a0 gJ oP I6 Mw XW XV XU XT a2=>
cn ((a0==0)) (
some (.ok (gJ,oP,I6,Mw,XW,XV,XU,XT,a2))) (
iL (dV n gJ oP I6 Mw XW XV XU XT a0) (λax=>
iL (aX n ax.2.1 ax.2.2.1 ax.2.2.2.1 ax.2.2.2.2.1 ax.2.2.2.2.2.1 ax.2.2.2.2.2.2.1 ax.2.2.2.2.2.2.2.1 ax.2.2.2.2.2.2.2.2 (wr .i64 (ax.1+16))) (λbA=>
iL (ih bA.1 bA.2.1 bA.2.2.1 bA.2.2.2.1 bA.2.2.2.2.1 bA.2.2.2.2.2.1 bA.2.2.2.2.2.2.1 bA.2.2.2.2.2.2.2.1 bA.2.2.2.2.2.2.2.2 a2) (λcU=>
iL (aX n cU.1 cU.2.1 cU.2.2.1 cU.2.2.2.1 cU.2.2.2.2.1 cU.2.2.2.2.2.1 cU.2.2.2.2.2.2.1 cU.2.2.2.2.2.2.2.1 (wr .i64 (ax.1+0))) (λcJ=>
iL (aX n cJ.2.1 cJ.2.2.1 cJ.2.2.2.1 cJ.2.2.2.2.1 cJ.2.2.2.2.2.1 cJ.2.2.2.2.2.2.1 cJ.2.2.2.2.2.2.2.1 cJ.2.2.2.2.2.2.2.2 (wr .i64 (ax.1+8))) (λeF=>
gu (ig cU.2.2.2.2.2.2.2.2.length [({iZ:=cJ.1,uR:=eF.1}:bN)].length 16)<|
lt (cU.2.2.2.2.2.2.2.2++[({iZ:=cJ.1,uR:=eF.1}:bN)]:List bN) λcL=>
iL (aX n eF.2.1 eF.2.2.1 eF.2.2.2.1 eF.2.2.2.2.1 eF.2.2.2.2.2.1 eF.2.2.2.2.2.2.1 eF.2.2.2.2.2.2.2.1 eF.2.2.2.2.2.2.2.2 (wr .i64 (ax.1+24))) (λgV=>
iL (ih gV.1 gV.2.1 gV.2.2.1 gV.2.2.2.1 gV.2.2.2.2.1 gV.2.2.2.2.2.1 gV.2.2.2.2.2.2.1 gV.2.2.2.2.2.2.2.1 gV.2.2.2.2.2.2.2.2 cL) (λcN=>
some (.ok (cN.1,cN.2.1,cN.2.2.1,cN.2.2.2.1,cN.2.2.2.2.1,cN.2.2.2.2.2.1,cN.2.2.2.2.2.2.1,cN.2.2.2.2.2.2.2.1,cN.2.2.2.2.2.2.2.2))) (λu7=>
some (.error (u7.1,u7.2.1,u7.2.2.1,u7.2.2.2.1,u7.2.2.2.2.1,u7.2.2.2.2.2.1,u7.2.2.2.2.2.2.1,u7.2.2.2.2.2.2.2.1,u7.2.2.2.2.2.2.2.2.1,u7.2.2.2.2.2.2.2.2.2)))) (λOv=>
some (.error (Ov.1,Ov.2.1,Ov.2.2.1,Ov.2.2.2.1,Ov.2.2.2.2.1,Ov.2.2.2.2.2.1,Ov.2.2.2.2.2.2.1,Ov.2.2.2.2.2.2.2.1,Ov.2.2.2.2.2.2.2.2,cL)))) (λp7=>
some (.error (p7.1,p7.2.1,p7.2.2.1,p7.2.2.2.1,p7.2.2.2.2.1,p7.2.2.2.2.2.1,p7.2.2.2.2.2.2.1,p7.2.2.2.2.2.2.2.1,p7.2.2.2.2.2.2.2.2,cU.2.2.2.2.2.2.2.2)))) (λxF=>
some (.error (xF.1,xF.2.1,xF.2.2.1,xF.2.2.2.1,xF.2.2.2.2.1,xF.2.2.2.2.2.1,xF.2.2.2.2.2.2.1,xF.2.2.2.2.2.2.2.1,xF.2.2.2.2.2.2.2.2,cU.2.2.2.2.2.2.2.2)))) (λwZ=>
some (.error (wZ.1,wZ.2.1,wZ.2.2.1,wZ.2.2.2.1,wZ.2.2.2.2.1,wZ.2.2.2.2.2.1,wZ.2.2.2.2.2.2.1,wZ.2.2.2.2.2.2.2.1,wZ.2.2.2.2.2.2.2.2.1,wZ.2.2.2.2.2.2.2.2.2)))) (λlP=>
some (.error (lP.1,lP.2.1,lP.2.2.1,lP.2.2.2.1,lP.2.2.2.2.1,lP.2.2.2.2.2.1,lP.2.2.2.2.2.2.1,lP.2.2.2.2.2.2.2.1,lP.2.2.2.2.2.2.2.2,a2)))) (λeW=>
some (.error (eW.1,eW.2.1,eW.2.2.1,eW.2.2.2.1,eW.2.2.2.2.1,eW.2.2.2.2.2.1,eW.2.2.2.2.2.2.1,eW.2.2.2.2.2.2.2.1,eW.2.2.2.2.2.2.2.2,a2))))) n
def AQ(n:Nat):CT:=cRX (λn w=>tC n [] [w,fA n,eS n] []) ⟨47,[],(.cons (.v (.int .u64)) (.cons (.box 134 (.box 141 (.st (.part 3 (.st (.part 1 (.box 149 (.st (.part 1 (.box 113 (.st (.part 952 (.v (.st 19)) (.part 1 (.box 184 (.v (.st 26))) (.part 320 (.v (.st 21)) (.part 1 (.row 3 1 (.int .i64)) .nil)))))) (.part 1 (.v (.int .i64)) .nil)))) (.part 1 (.v (.int .u32)) (.part 1 (.v (.int .i64)) .nil)))) (.part 1 (.v (.int .i64)) .nil))))) (.cons (.box 145 (.fn (.func 47) .nil (.cons (.bS 0) (.cons (.bS 6) (.cons (.box 53 (.row 57 2 (.st 3))) .nil))))) (.cons (.bS 7) .nil)))),(.cons (.jc .nil) (.cons (.box 134 (.box 141 (.st (.part 3 (.st (.part 1 (.box 149 (.st (.part 1 (.box 113 (.st (.part 952 (.v (.st 19)) (.part 1 (.box 184 (.v (.st 26))) (.part 320 (.v (.st 21)) (.part 1 (.row 3 1 (.int .i64)) .nil)))))) (.part 1 (.v (.int .i64)) .nil)))) (.part 1 (.v (.int .u32)) (.part 1 (.v (.int .i64)) .nil)))) (.part 1 (.v (.int .i64)) .nil))))) (.cons (.box 145 (.fn (.func 47) .nil (.cons (.bS 0) (.cons (.bS 6) (.cons (.box 53 (.row 57 2 (.st 3))) .nil))))) .nil))),[some 0,some 1,some 2,some 3,some 4,none,some 6,some 7,none],(.cons (.iQ 43 (.v (.int .i64))) (.cons (.box 134 (.box 141 (.st (.part 3 (.st (.part 1 (.box 149 (.st (.part 1 (.box 113 (.st (.part 952 (.v (.st 19)) (.part 1 (.box 184 (.v (.st 26))) (.part 320 (.v (.st 21)) (.part 1 (.row 3 1 (.int .i64)) .nil)))))) (.part 1 (.v (.int .i64)) .nil)))) (.part 1 (.v (.int .u32)) (.part 1 (.v (.int .i64)) .nil)))) (.part 1 (.v (.int .i64)) .nil))))) (.cons (.box 145 (.fn (.func 47) .nil (.cons (.bS 0) (.cons (.bS 6) (.cons (.box 53 (.row 57 2 (.st 3))) .nil))))) .nil))),[some 0,some 1,some 2,some 3,some 4,none,some 6,some 7,none],[[1],[2]]⟩ (λn x=>qb n x.1 x.2.1 x.2.2.1 x.2.2.2.1 x.2.2.2.2.1 x.2.2.2.2.2.1 x.2.2.2.2.2.2.1 x.2.2.2.2.2.2.2.1 x.2.2.2.2.2.2.2.2.1 x.2.2.2.2.2.2.2.2.2.1) (λy=>(y.1,y.2.1,y.2.2.1,y.2.2.2.1,y.2.2.2.2.1,y.2.2.2.2.2.1,y.2.2.2.2.2.2.1,y.2.2.2.2.2.2.2.1,y.2.2.2.2.2.2.2.2.1)) (λz=>(z.1,(z.2.1,(z.2.2.1,(z.2.2.2.1,(z.2.2.2.2.1,(z.2.2.2.2.2.1,(z.2.2.2.2.2.2.1,(z.2.2.2.2.2.2.2.1,(z.2.2.2.2.2.2.2.2,())))))))))) (λy=>(y.1,y.2.1,y.2.2.1,y.2.2.2.1,y.2.2.2.2.1,y.2.2.2.2.2.1,y.2.2.2.2.2.2.1,y.2.2.2.2.2.2.2.1,y.2.2.2.2.2.2.2.2.1,y.2.2.2.2.2.2.2.2.2.1)) (λz=>(z.1,(z.2.1,(z.2.2.1,(z.2.2.2.1,(z.2.2.2.2.1,(z.2.2.2.2.2.1,(z.2.2.2.2.2.2.1,(z.2.2.2.2.2.2.2.1,(z.2.2.2.2.2.2.2.2.1,(z.2.2.2.2.2.2.2.2.2,()))))))))))) n
def qZ(n:Nat)(cS:ae)(dg:aj)(dz:ai)(dy:(List Int))(cH:Int)(bU:Int)(bP:Int):Option ((List bN)×Int×ae×aj×ai×(List Int)×Int×Int×Int):=
iL (da n cS dg dz dy cH bU bP 0 0) (λax=>
iL (qb n ax.1 ax.2.1 ax.2.2.1 ax.2.2.2.1 ax.2.2.2.2.1 ax.2.2.2.2.2.1 ax.2.2.2.2.2.2.1 ax.2.2.2.2.2.2.2.1 ax.2.2.2.2.2.2.2.2 []) (λbA=>
some (bA.2.2.2.2.2.2.2.2,0,bA.1,bA.2.1,bA.2.2.1,bA.2.2.2.1,bA.2.2.2.2.1,bU,bP)) (λlP=>
cn ((lP.1!=0)) (
some ([],lP.1,lP.2.1,lP.2.2.1,lP.2.2.2.1,lP.2.2.2.2.1,lP.2.2.2.2.2.1,bU,bP)) (
some (lP.2.2.2.2.2.2.2.2.2,0,lP.2.1,lP.2.2.1,lP.2.2.2.1,lP.2.2.2.2.1,lP.2.2.2.2.2.1,bU,bP)))) (λeW=>
cn ((eW.1!=0)) (
some ([],eW.1,eW.2.1,eW.2.2.1,eW.2.2.2.1,eW.2.2.2.2.1,eW.2.2.2.2.2.1,bU,bP)) (
some ([],0,eW.2.1,eW.2.2.1,eW.2.2.2.1,eW.2.2.2.2.1,eW.2.2.2.2.2.1,bU,bP)))
def Gg(n:Nat):CT:=cV (tC n [] [fR n,AQ n] []) ⟨19,[],(.cons (.st (.part 1 (.box 149 (.st (.part 1 (.box 113 (.st (.part 952 (.v (.st 19)) (.part 1 (.box 184 (.v (.st 26))) (.part 320 (.v (.st 21)) (.part 1 (.row 3 1 (.int .i64)) .nil)))))) (.part 1 (.v (.int .i64)) .nil)))) (.part 1 (.v (.int .u32)) (.part 1 (.v (.int .i64)) .nil)))) .nil),(.cons (.jc (.cons (.row 57 2 (.st 3)) (.cons (.v (.int .i64)) .nil))) (.cons (.st (.part 1 (.box 149 (.st (.part 1 (.box 113 (.st (.part 952 (.v (.st 19)) (.part 1 (.box 184 (.v (.st 26))) (.part 320 (.v (.st 21)) (.part 1 (.row 3 1 (.int .i64)) .nil)))))) (.part 1 (.v (.int .i64)) .nil)))) (.part 1 (.v (.int .u32)) (.part 1 (.v (.int .i64)) .nil)))) .nil)),[none,some 0,some 1,some 2,none], .nil,[],[[0]]⟩ (λx=>qZ n x.1 x.2.1 x.2.2.1 x.2.2.2.1 x.2.2.2.2.1 x.2.2.2.2.2.1 x.2.2.2.2.2.2.1) (λy=>(y.1,y.2.1,y.2.2.1,y.2.2.2.1,y.2.2.2.2.1,y.2.2.2.2.2.1,y.2.2.2.2.2.2.1,y.2.2.2.2.2.2.2.1,y.2.2.2.2.2.2.2.2.1)) (λz=>(z.1,(z.2.1,(z.2.2.1,(z.2.2.2.1,(z.2.2.2.2.1,(z.2.2.2.2.2.1,(z.2.2.2.2.2.2.1,(z.2.2.2.2.2.2.2.1,(z.2.2.2.2.2.2.2.2,()))))))))))
def qY(n:Nat)(cS:ae)(dg:aj)(dz:ai)(dy:(List Int))(cH:Int)(bU:Int)(bP:Int):Option (Int×Int×ae×aj×ai×(List Int)×Int×Int×Int):=
iL (da n cS dg dz dy cH bU bP 0 8) (λax=>
lt (wr .i64 ax.1:Int) λbA=>
lt (bA:Int) λcM=>
some (cM,0,ax.2.1,ax.2.2.1,ax.2.2.2.1,ax.2.2.2.2.1,ax.2.2.2.2.2.1,bU,bP)) (λeW=>
lt (0:Int) λcU=>
some (cU,eW.1,eW.2.1,eW.2.2.1,eW.2.2.2.1,eW.2.2.2.2.1,eW.2.2.2.2.2.1,bU,bP))
def Gc(n:Nat):CT:=cV (tC n [] [fR n] []) ⟨15,[],(.cons (.st (.part 1 (.box 149 (.st (.part 1 (.box 113 (.st (.part 952 (.v (.st 19)) (.part 1 (.box 184 (.v (.st 26))) (.part 320 (.v (.st 21)) (.part 1 (.row 3 1 (.int .i64)) .nil)))))) (.part 1 (.v (.int .i64)) .nil)))) (.part 1 (.v (.int .u32)) (.part 1 (.v (.int .i64)) .nil)))) .nil),(.cons (.jc (.cons (.v (.int .i64)) (.cons (.v (.int .i64)) .nil))) (.cons (.st (.part 1 (.box 149 (.st (.part 1 (.box 113 (.st (.part 952 (.v (.st 19)) (.part 1 (.box 184 (.v (.st 26))) (.part 320 (.v (.st 21)) (.part 1 (.row 3 1 (.int .i64)) .nil)))))) (.part 1 (.v (.int .i64)) .nil)))) (.part 1 (.v (.int .u32)) (.part 1 (.v (.int .i64)) .nil)))) .nil)),[some 0,some 1,some 2,none], .nil,[],[[0]]⟩ (λx=>qY n x.1 x.2.1 x.2.2.1 x.2.2.2.1 x.2.2.2.2.1 x.2.2.2.2.2.1 x.2.2.2.2.2.2.1) (λy=>(y.1,y.2.1,y.2.2.1,y.2.2.2.1,y.2.2.2.2.1,y.2.2.2.2.2.1,y.2.2.2.2.2.2.1,y.2.2.2.2.2.2.2.1,y.2.2.2.2.2.2.2.2.1)) (λz=>(z.1,(z.2.1,(z.2.2.1,(z.2.2.2.1,(z.2.2.2.2.1,(z.2.2.2.2.2.1,(z.2.2.2.2.2.2.1,(z.2.2.2.2.2.2.2.1,(z.2.2.2.2.2.2.2.2,()))))))))))
def kV(n:Nat):Int->ae->aj->ai->(List Int)->Int->Int->Int->Int->Option (Except (Int×ae×aj×ai×(List Int)×Int×Int×Int×Int) (Int×ae×aj×ai×(List Int)×Int×Int×Int×Int)):=Nat.rec (λ_ _ _ _ _ _ _ _ _ =>none) (λn ih a0 gJ oP I6 Mw XW XV XU XT=>
cn ((a0==0)) (
some (.ok (0,gJ,oP,I6,Mw,XW,XV,XU,XT))) (
iL (dV n gJ oP I6 Mw XW XV XU XT a0) (λax=>
iL (aX n ax.2.1 ax.2.2.1 ax.2.2.2.1 ax.2.2.2.2.1 ax.2.2.2.2.2.1 ax.2.2.2.2.2.2.1 ax.2.2.2.2.2.2.2.1 ax.2.2.2.2.2.2.2.2 (wr .i64 (ax.1+16))) (λbA=>
iL (ih bA.1 bA.2.1 bA.2.2.1 bA.2.2.2.1 bA.2.2.2.2.1 bA.2.2.2.2.2.1 bA.2.2.2.2.2.2.1 bA.2.2.2.2.2.2.2.1 bA.2.2.2.2.2.2.2.2) (λcU=>
iL (aX n cU.2.1 cU.2.2.1 cU.2.2.2.1 cU.2.2.2.2.1 cU.2.2.2.2.2.1 cU.2.2.2.2.2.2.1 cU.2.2.2.2.2.2.2.1 cU.2.2.2.2.2.2.2.2 (wr .i64 (ax.1+24))) (λcJ=>
iL (ih cJ.1 cJ.2.1 cJ.2.2.1 cJ.2.2.2.1 cJ.2.2.2.2.1 cJ.2.2.2.2.2.1 cJ.2.2.2.2.2.2.1 cJ.2.2.2.2.2.2.2.1 cJ.2.2.2.2.2.2.2.2) (λeF=>
some (.ok (wr .i64 (1+(if cU.1<eF.1 then eF.1 else cU.1)),eF.2.1,eF.2.2.1,eF.2.2.2.1,eF.2.2.2.2.1,eF.2.2.2.2.2.1,eF.2.2.2.2.2.2.1,eF.2.2.2.2.2.2.2.1,eF.2.2.2.2.2.2.2.2))) (λp7=>
some (.error (p7.1,p7.2.1,p7.2.2.1,p7.2.2.2.1,p7.2.2.2.2.1,p7.2.2.2.2.2.1,p7.2.2.2.2.2.2.1,p7.2.2.2.2.2.2.2.1,p7.2.2.2.2.2.2.2.2)))) (λxF=>
some (.error (xF.1,xF.2.1,xF.2.2.1,xF.2.2.2.1,xF.2.2.2.2.1,xF.2.2.2.2.2.1,xF.2.2.2.2.2.2.1,xF.2.2.2.2.2.2.2.1,xF.2.2.2.2.2.2.2.2)))) (λwZ=>
some (.error (wZ.1,wZ.2.1,wZ.2.2.1,wZ.2.2.2.1,wZ.2.2.2.2.1,wZ.2.2.2.2.2.1,wZ.2.2.2.2.2.2.1,wZ.2.2.2.2.2.2.2.1,wZ.2.2.2.2.2.2.2.2)))) (λlP=>
some (.error (lP.1,lP.2.1,lP.2.2.1,lP.2.2.2.1,lP.2.2.2.2.1,lP.2.2.2.2.2.1,lP.2.2.2.2.2.2.1,lP.2.2.2.2.2.2.2.1,lP.2.2.2.2.2.2.2.2)))) (λeW=>
some (.error (eW.1,eW.2.1,eW.2.2.1,eW.2.2.2.1,eW.2.2.2.2.1,eW.2.2.2.2.2.1,eW.2.2.2.2.2.2.1,eW.2.2.2.2.2.2.2.1,eW.2.2.2.2.2.2.2.2))))) n
def za(n:Nat):CT:=cRX (λn w=>tC n [] [w,fA n,eS n] []) ⟨51,[],(.cons (.v (.int .u64)) (.cons (.box 134 (.box 141 (.st (.part 3 (.st (.part 1 (.box 149 (.st (.part 1 (.box 113 (.st (.part 952 (.v (.st 19)) (.part 1 (.box 184 (.v (.st 26))) (.part 320 (.v (.st 21)) (.part 1 (.row 3 1 (.int .i64)) .nil)))))) (.part 1 (.v (.int .i64)) .nil)))) (.part 1 (.v (.int .u32)) (.part 1 (.v (.int .i64)) .nil)))) (.part 1 (.v (.int .i64)) .nil))))) (.cons (.box 137 (.fn (.func 51) .nil (.cons (.bS 0) (.cons (.bS 6) .nil)))) .nil))),(.cons (.v (.int .i64)) (.cons (.box 134 (.box 141 (.st (.part 3 (.st (.part 1 (.box 149 (.st (.part 1 (.box 113 (.st (.part 952 (.v (.st 19)) (.part 1 (.box 184 (.v (.st 26))) (.part 320 (.v (.st 21)) (.part 1 (.row 3 1 (.int .i64)) .nil)))))) (.part 1 (.v (.int .i64)) .nil)))) (.part 1 (.v (.int .u32)) (.part 1 (.v (.int .i64)) .nil)))) (.part 1 (.v (.int .i64)) .nil))))) (.cons (.box 137 (.fn (.func 51) .nil (.cons (.bS 0) (.cons (.bS 6) .nil)))) .nil))),[some 0,some 1,some 2,some 3,some 4,none,some 6],(.cons (.iQ 43 (.v (.int .i64))) (.cons (.box 134 (.box 141 (.st (.part 3 (.st (.part 1 (.box 149 (.st (.part 1 (.box 113 (.st (.part 952 (.v (.st 19)) (.part 1 (.box 184 (.v (.st 26))) (.part 320 (.v (.st 21)) (.part 1 (.row 3 1 (.int .i64)) .nil)))))) (.part 1 (.v (.int .i64)) .nil)))) (.part 1 (.v (.int .u32)) (.part 1 (.v (.int .i64)) .nil)))) (.part 1 (.v (.int .i64)) .nil))))) (.cons (.box 137 (.fn (.func 51) .nil (.cons (.bS 0) (.cons (.bS 6) .nil)))) .nil))),[some 0,some 1,some 2,some 3,some 4,none,some 6],[[1],[2]]⟩ (λn x=>kV n x.1 x.2.1 x.2.2.1 x.2.2.2.1 x.2.2.2.2.1 x.2.2.2.2.2.1 x.2.2.2.2.2.2.1 x.2.2.2.2.2.2.2.1 x.2.2.2.2.2.2.2.2.1) (λy=>(y.1,y.2.1,y.2.2.1,y.2.2.2.1,y.2.2.2.2.1,y.2.2.2.2.2.1,y.2.2.2.2.2.2.1,y.2.2.2.2.2.2.2.1,y.2.2.2.2.2.2.2.2.1)) (λz=>(z.1,(z.2.1,(z.2.2.1,(z.2.2.2.1,(z.2.2.2.2.1,(z.2.2.2.2.2.1,(z.2.2.2.2.2.2.1,(z.2.2.2.2.2.2.2.1,(z.2.2.2.2.2.2.2.2,())))))))))) (λy=>(y.1,y.2.1,y.2.2.1,y.2.2.2.1,y.2.2.2.2.1,y.2.2.2.2.2.1,y.2.2.2.2.2.2.1,y.2.2.2.2.2.2.2.1,y.2.2.2.2.2.2.2.2.1)) (λz=>(z.1,(z.2.1,(z.2.2.1,(z.2.2.2.1,(z.2.2.2.2.1,(z.2.2.2.2.2.1,(z.2.2.2.2.2.2.1,(z.2.2.2.2.2.2.2.1,(z.2.2.2.2.2.2.2.2,())))))))))) n
def p9(n:Nat)(cS:ae)(dg:aj)(dz:ai)(dy:(List Int))(cH:Int)(bU:Int)(bP:Int):Option (Int×Int×ae×aj×ai×(List Int)×Int×Int×Int):=
iL (da n cS dg dz dy cH bU bP 0 0) (λax=>
iL (kV n ax.1 ax.2.1 ax.2.2.1 ax.2.2.2.1 ax.2.2.2.2.1 ax.2.2.2.2.2.1 ax.2.2.2.2.2.2.1 ax.2.2.2.2.2.2.2.1 ax.2.2.2.2.2.2.2.2) (λbA=>
lt (bA.1:Int) λcU=>
lt (cU:Int) λdZ=>
some (dZ,0,bA.2.1,bA.2.2.1,bA.2.2.2.1,bA.2.2.2.2.1,bA.2.2.2.2.2.1,bU,bP)) (λlP=>
cn ((lP.1!=0)) (
some (0,lP.1,lP.2.1,lP.2.2.1,lP.2.2.2.1,lP.2.2.2.2.1,lP.2.2.2.2.2.1,bU,bP)) (
lt (0:Int) λcJ=>
some (cJ,0,lP.2.1,lP.2.2.1,lP.2.2.2.1,lP.2.2.2.2.1,lP.2.2.2.2.2.1,bU,bP)))) (λeW=>
cn ((eW.1!=0)) (
some (0,eW.1,eW.2.1,eW.2.2.1,eW.2.2.2.1,eW.2.2.2.2.1,eW.2.2.2.2.2.1,bU,bP)) (
lt (0:Int) λdP=>
some (dP,0,eW.2.1,eW.2.2.1,eW.2.2.2.1,eW.2.2.2.2.1,eW.2.2.2.2.2.1,bU,bP)))
def Em(n:Nat):CT:=cV (tC n [] [fR n,za n] []) ⟨21,[],(.cons (.st (.part 1 (.box 149 (.st (.part 1 (.box 113 (.st (.part 952 (.v (.st 19)) (.part 1 (.box 184 (.v (.st 26))) (.part 320 (.v (.st 21)) (.part 1 (.row 3 1 (.int .i64)) .nil)))))) (.part 1 (.v (.int .i64)) .nil)))) (.part 1 (.v (.int .u32)) (.part 1 (.v (.int .i64)) .nil)))) .nil),(.cons (.jc (.cons (.v (.int .i64)) (.cons (.v (.int .i64)) .nil))) (.cons (.st (.part 1 (.box 149 (.st (.part 1 (.box 113 (.st (.part 952 (.v (.st 19)) (.part 1 (.box 184 (.v (.st 26))) (.part 320 (.v (.st 21)) (.part 1 (.row 3 1 (.int .i64)) .nil)))))) (.part 1 (.v (.int .i64)) .nil)))) (.part 1 (.v (.int .u32)) (.part 1 (.v (.int .i64)) .nil)))) .nil)),[some 0,some 1,some 2,none], .nil,[],[[0]]⟩ (λx=>p9 n x.1 x.2.1 x.2.2.1 x.2.2.2.1 x.2.2.2.2.1 x.2.2.2.2.2.1 x.2.2.2.2.2.2.1) (λy=>(y.1,y.2.1,y.2.2.1,y.2.2.2.1,y.2.2.2.2.1,y.2.2.2.2.2.1,y.2.2.2.2.2.2.1,y.2.2.2.2.2.2.2.1,y.2.2.2.2.2.2.2.2.1)) (λz=>(z.1,(z.2.1,(z.2.2.1,(z.2.2.2.1,(z.2.2.2.2.1,(z.2.2.2.2.2.1,(z.2.2.2.2.2.2.1,(z.2.2.2.2.2.2.2.1,(z.2.2.2.2.2.2.2.2,()))))))))))
def s6(n:Nat)(a0:Int):Option Int:=
some (wr .u64 ((MR .u64 a0 (wr .u64 (Int.tdiv a0 8589934592)))*18397679294719823053))
theorem C9:∃f:Nat->Int->Option Int,f=s6:=⟨_,rfl⟩
def qE:Nat->Int->Option Int:=Classical.choose C9
theorem C8:qE=s6:=Classical.choose_spec C9
def CF(n:Nat):CT:=cVq (tC n [] [] []) ⟨13,[],(.cons (.v (.int .u64)) .nil),(.cons (.v (.int .u64)) .nil),[], .nil,[],[]⟩ (λx=>s6 n x.1) (λy=>(y.1)) (λz=>(z,())) (f':=λx=>qE n x.1) (by rw[C8])
def wB(n:Nat)(a0:(List aM)):Option Int:=
fe (λk23 (ax:Int) (bp:Int)=>
cn (decide (ax<(a0.length:Int))) (
lt (λ(cM:Int)=>
k23 (wr .i64 (ax+1)) cM) λj25=>
gu (dH ax a0.length)<|
bd (qE n ((a0.getD (Int.toNat ax) default).iZ)) λdZ=>
gu (dH bp a0.length)<|
bd (qE n ((a0.getD (Int.toNat bp) default).iZ)) λcJ=>
cn (decide (cJ<dZ)) (
j25 ax) (
j25 bp)) (
some (bp))) n 1 0
def MX(n:Nat):CT:=cV (tC n [(7, .loop [(.dS 4, .v (.int .i64)),(.dS 3, .v (.int .i64))]),(8, .join [(.dS 3, .v (.int .i64))] [])] [CF n] []) ⟨61,[],(.cons (.v (.sl (.st 1))) .nil),(.cons (.v (.int .i64)) .nil),[], .nil,[],[]⟩ (λx=>wB n x.1) (λy=>(y.1)) (λz=>(z,()))
def kN(n:Nat):(List aM)->Option Int:=Nat.rec (λ_ =>none) (λn ih a0=>
cn (((a0.length:Int)==0)) (
some (0)) (
bd (wB n a0) λax=>
gu (dH ax (a0.length+1))<|
bd (ih (a0.take (Int.toNat ax))) λbp=>
gu (dH (wr .i64 (ax+1)) (a0.length+1))<|
bd (ih (a0.drop (Int.toNat (wr .i64 (ax+1))))) λbA=>
some (wr .i64 (1+(if bp<bA then bA else bp))))) n
def CG(n:Nat):CT:=cR (λn w=>tC n [] [w,MX n] []) ⟨31,[],(.cons (.v (.sl (.st 1))) .nil),(.cons (.v (.int .i64)) .nil),[], .nil,[],[]⟩ (λn x=>kN n x.1) (λy=>(y.1)) (λz=>(z,())) n
def uE(n:Nat)(cS:ae)(dg:aj)(dz:ai)(dy:(List Int))(cH:Int)(bU:Int)(bP:Int)(a1:bj):Option (Bool×ae×aj×ai×(List Int)×Int×Int×Int):=
bd (qZ n cS dg dz dy cH bU bP) λax=>
bd (qY n ax.2.2.1 ax.2.2.2.1 ax.2.2.2.2.1 ax.2.2.2.2.2.1 ax.2.2.2.2.2.2.1 bU bP) λbp=>
bd (p9 n bp.2.2.1 bp.2.2.2.1 bp.2.2.2.2.1 bp.2.2.2.2.2.1 bp.2.2.2.2.2.2.1 bU bP) λbA=>
cl (((((((ax.2.1!=0)||(bp.2.1!=0))||(bA.2.1!=0))||((ax.1.length:Int)!=(a1.L.length:Int)))||(bp.1!=(ax.1.length:Int)))==false)) (kN n a1.L) default λcM=>
cn (((((((ax.2.1!=0)||(bp.2.1!=0))||(bA.2.1!=0))||((ax.1.length:Int)!=(a1.L.length:Int)))||(bp.1!=(ax.1.length:Int)))||(bA.1!=cM))) (
some (false,bA.2.2.1,bA.2.2.2.1,bA.2.2.2.2.1,bA.2.2.2.2.2.1,bA.2.2.2.2.2.2.1,bU,bP)) (
iv (λk26 (cU:Int)=>
cn (decide (cU<bp.1)) (
gu (dH cU ax.1.length)<|
gu (dH cU a1.L.length)<|
cn ((!(((ax.1.getD (Int.toNat cU) default).iZ==(a1.L.getD (Int.toNat cU) default).iZ)&&((ax.1.getD (Int.toNat cU) default).uR==(a1.L.getD (Int.toNat cU) default).uR)))) (
some (false,bA.2.2.1,bA.2.2.2.1,bA.2.2.2.2.1,bA.2.2.2.2.2.1,bA.2.2.2.2.2.2.1,bU,bP)) (
k26 (wr .i64 (cU+1)))) (
some (true,bA.2.2.1,bA.2.2.2.1,bA.2.2.2.2.1,bA.2.2.2.2.2.1,bA.2.2.2.2.2.2.1,bU,bP))) n 0)
def CR(n:Nat):CT:=cV (tC n [(15, .loop [(.dS 11, .v (.int .i64))])] [Gg n,Gc n,Em n,CG n] []) ⟨11,[],(.cons (.st (.part 1 (.box 149 (.st (.part 1 (.box 113 (.st (.part 952 (.v (.st 19)) (.part 1 (.box 184 (.v (.st 26))) (.part 320 (.v (.st 21)) (.part 1 (.row 3 1 (.int .i64)) .nil)))))) (.part 1 (.v (.int .i64)) .nil)))) (.part 1 (.v (.int .u32)) (.part 1 (.v (.int .i64)) .nil)))) (.cons (.v (.st 2)) .nil)),(.cons (.v .bool) (.cons (.st (.part 1 (.box 149 (.st (.part 1 (.box 113 (.st (.part 952 (.v (.st 19)) (.part 1 (.box 184 (.v (.st 26))) (.part 320 (.v (.st 21)) (.part 1 (.row 3 1 (.int .i64)) .nil)))))) (.part 1 (.v (.int .i64)) .nil)))) (.part 1 (.v (.int .u32)) (.part 1 (.v (.int .i64)) .nil)))) .nil)),[some 0,some 1,some 2,none], .nil,[],[[0]]⟩ (λx=>uE n x.1 x.2.1 x.2.2.1 x.2.2.2.1 x.2.2.2.2.1 x.2.2.2.2.2.1 x.2.2.2.2.2.2.1 x.2.2.2.2.2.2.2.1) (λy=>(y.1,y.2.1,y.2.2.1,y.2.2.2.1,y.2.2.2.2.1,y.2.2.2.2.2.1,y.2.2.2.2.2.2.1,y.2.2.2.2.2.2.2.1)) (λz=>(z.1,(z.2.1,(z.2.2.1,(z.2.2.2.1,(z.2.2.2.2.1,(z.2.2.2.2.2.1,(z.2.2.2.2.2.2.1,(z.2.2.2.2.2.2.2,())))))))))
def rI(n:Nat):Option Bool:=
bd (C6 n 64) λax=>
bd (rG n) λbp=>
bd (di n bp ({({kE with n:=64}:aj)with eo:=ax}:aj) bG [] 0 ({({fb with Do:=1}:aD)with A:=wr .u32 8}:aD)) λbA=>
lt (bA.1:ah) λcM=>
bd (eV n bA.2.1 bA.2.2.1 bA.2.2.2.1 bA.2.2.2.2.1 bA.2.2.2.2.2 cM.W 24 8) λcU=>
cn ((cU.2.1!=0)) (
cn ((!((cM.E==0)&&(cU.2.1==0)))) (
some (false)) (
lt (false:Bool) λdZ=>
lt (false:Bool) λcJ=>
lt (false:Bool) λdP=>
cn (((((((!dZ)&&false)&&(!cJ))&&false)&&dP)&&false)) (
lt (0:Int) λ_=>
cl ((true==false)) (kN n (({jG with L:=[({iZ:=3,uR:=2}:aM),({iZ:=5,uR:=4}:aM)]}:bj).L)) default λ_=>
some (false)) (
some (false)))) (
cn ((!((cM.E==0)&&true))) (
some (false)) (
bd (eX n cU.2.2.1 cU.2.2.2.1 cU.2.2.2.2.1 cU.2.2.2.2.2.1 cU.2.2.2.2.2.2 cM.W cU.1 5 1) λcL=>
bd (eX n cL.2.2.1 cL.2.2.2.1 cL.2.2.2.2.1 cL.2.2.2.2.2.1 cL.2.2.2.2.2.2.1 cM.W cU.1 3 2) λgV=>
bd (eX n gV.2.2.1 gV.2.2.2.1 gV.2.2.2.2.1 gV.2.2.2.2.2.1 gV.2.2.2.2.2.2.1 cM.W cU.1 5 4) λdh=>
cn (((((((!cL.1)&&(cL.2.1==0))&&(!gV.1))&&(gV.2.1==0))&&dh.1)&&(dh.2.1==0))) (
bd (uE n dh.2.2.1 dh.2.2.2.1 dh.2.2.2.2.1 dh.2.2.2.2.2.1 dh.2.2.2.2.2.2.1 cM.W cU.1 ({jG with L:=[({iZ:=3,uR:=2}:aM),({iZ:=5,uR:=4}:aM)]}:bj)) λcN=>
cl ((cN.1==true)) (nu n 1) default λdW=>
some ((cN.1&&(dW==18397679294719823053)))) (
some (false))))
def JI(n:Nat):CT:=cV (tC n [] [Kj n,Bn n,tU n,so n,CG n,xY n,CR n,vh n] []) ⟨8,[], .nil,(.cons (.v .bool) .nil),[], .nil,[],[]⟩ (λ_=>rI n) (λy=>(y.1)) (λz=>(z,()))
def uJ(n:Nat):ae->aj->ai->(List Int)->Int->Int->Int->Int->Int->Int->Option (Except (Int×ae×aj×ai×(List Int)×Int×Int×Int×Int) (Int×ae×aj×ai×(List Int)×Int×Int×Int×Int)):=Nat.rec (λ_ _ _ _ _ _ _ _ _ _ =>none) (λn ih cS dg dz dy cH bU bP sD a1 a2=>
cn ((a1==0)) (
some (.ok (a2,cS,dg,dz,dy,cH,bU,bP,sD))) (
cn ((a2==0)) (
some (.ok (a1,cS,dg,dz,dy,cH,bU,bP,sD))) (
bd (gw n a1) λax=>
iL (aX n cS dg dz dy cH bU bP sD (wr .i64 (ax+0))) (λbp=>
bd (nu n bp.1) λcM=>
bd (gw n a2) λcU=>
iL (aX n bp.2.1 bp.2.2.1 bp.2.2.2.1 bp.2.2.2.2.1 bp.2.2.2.2.2.1 bp.2.2.2.2.2.2.1 bp.2.2.2.2.2.2.2.1 bp.2.2.2.2.2.2.2.2 (wr .i64 (cU+0))) (λdZ=>
bd (nu n dZ.1) λdP=>
cn (decide (dP<cM)) (
iL (dV n dZ.2.1 dZ.2.2.1 dZ.2.2.2.1 dZ.2.2.2.2.1 dZ.2.2.2.2.2.1 dZ.2.2.2.2.2.2.1 dZ.2.2.2.2.2.2.2.1 dZ.2.2.2.2.2.2.2.2 a1) (λeF=>
iL (aX n eF.2.1 eF.2.2.1 eF.2.2.2.1 eF.2.2.2.2.1 eF.2.2.2.2.2.1 eF.2.2.2.2.2.2.1 eF.2.2.2.2.2.2.2.1 eF.2.2.2.2.2.2.2.2 (wr .i64 (eF.1+24))) (λcL=>
iL (ih cL.2.1 cL.2.2.1 cL.2.2.2.1 cL.2.2.2.2.1 cL.2.2.2.2.2.1 cL.2.2.2.2.2.2.1 cL.2.2.2.2.2.2.2.1 cL.2.2.2.2.2.2.2.2 cL.1 a2) (λdh=>
iL (aW n dh.2.1 dh.2.2.1 dh.2.2.2.1 dh.2.2.2.2.1 dh.2.2.2.2.2.1 dh.2.2.2.2.2.2.1 dh.2.2.2.2.2.2.2.1 dh.2.2.2.2.2.2.2.2 (wr .i64 (eF.1+24)) dh.1) (λdW=>
some (.ok (a1,dW.1,dW.2.1,dW.2.2.1,dW.2.2.2.1,dW.2.2.2.2.1,dW.2.2.2.2.2.1,dW.2.2.2.2.2.2.1,dW.2.2.2.2.2.2.2))) (λmg=>
some (.error (mg.1,mg.2.1,mg.2.2.1,mg.2.2.2.1,mg.2.2.2.2.1,mg.2.2.2.2.2.1,mg.2.2.2.2.2.2.1,mg.2.2.2.2.2.2.2.1,mg.2.2.2.2.2.2.2.2)))) (λtF=>
some (.error (tF.1,tF.2.1,tF.2.2.1,tF.2.2.2.1,tF.2.2.2.2.1,tF.2.2.2.2.2.1,tF.2.2.2.2.2.2.1,tF.2.2.2.2.2.2.2.1,tF.2.2.2.2.2.2.2.2)))) (λyQ=>
some (.error (yQ.1,yQ.2.1,yQ.2.2.1,yQ.2.2.2.1,yQ.2.2.2.2.1,yQ.2.2.2.2.2.1,yQ.2.2.2.2.2.2.1,yQ.2.2.2.2.2.2.2.1,yQ.2.2.2.2.2.2.2.2)))) (λp7=>
some (.error (p7.1,p7.2.1,p7.2.2.1,p7.2.2.2.1,p7.2.2.2.2.1,p7.2.2.2.2.2.1,p7.2.2.2.2.2.2.1,p7.2.2.2.2.2.2.2.1,p7.2.2.2.2.2.2.2.2)))) (
iL (dV n dZ.2.1 dZ.2.2.1 dZ.2.2.2.1 dZ.2.2.2.2.1 dZ.2.2.2.2.2.1 dZ.2.2.2.2.2.2.1 dZ.2.2.2.2.2.2.2.1 dZ.2.2.2.2.2.2.2.2 a2) (λdI=>
iL (aX n dI.2.1 dI.2.2.1 dI.2.2.2.1 dI.2.2.2.2.1 dI.2.2.2.2.2.1 dI.2.2.2.2.2.2.1 dI.2.2.2.2.2.2.2.1 dI.2.2.2.2.2.2.2.2 (wr .i64 (dI.1+16))) (λgN=>
iL (ih gN.2.1 gN.2.2.1 gN.2.2.2.1 gN.2.2.2.2.1 gN.2.2.2.2.2.1 gN.2.2.2.2.2.2.1 gN.2.2.2.2.2.2.2.1 gN.2.2.2.2.2.2.2.2 a1 gN.1) (λiw=>
iL (aW n iw.2.1 iw.2.2.1 iw.2.2.2.1 iw.2.2.2.2.1 iw.2.2.2.2.2.1 iw.2.2.2.2.2.2.1 iw.2.2.2.2.2.2.2.1 iw.2.2.2.2.2.2.2.2 (wr .i64 (dI.1+16)) iw.1) (λrW=>
some (.ok (a2,rW.1,rW.2.1,rW.2.2.1,rW.2.2.2.1,rW.2.2.2.2.1,rW.2.2.2.2.2.1,rW.2.2.2.2.2.2.1,rW.2.2.2.2.2.2.2))) (λe44=>
some (.error (e44.1,e44.2.1,e44.2.2.1,e44.2.2.2.1,e44.2.2.2.2.1,e44.2.2.2.2.2.1,e44.2.2.2.2.2.2.1,e44.2.2.2.2.2.2.2.1,e44.2.2.2.2.2.2.2.2)))) (λe42=>
some (.error (e42.1,e42.2.1,e42.2.2.1,e42.2.2.2.1,e42.2.2.2.2.1,e42.2.2.2.2.2.1,e42.2.2.2.2.2.2.1,e42.2.2.2.2.2.2.2.1,e42.2.2.2.2.2.2.2.2)))) (λxE=>
some (.error (xE.1,xE.2.1,xE.2.2.1,xE.2.2.2.1,xE.2.2.2.2.1,xE.2.2.2.2.2.1,xE.2.2.2.2.2.2.1,xE.2.2.2.2.2.2.2.1,xE.2.2.2.2.2.2.2.2)))) (λmR=>
some (.error (mR.1,mR.2.1,mR.2.2.1,mR.2.2.2.1,mR.2.2.2.2.1,mR.2.2.2.2.2.1,mR.2.2.2.2.2.2.1,mR.2.2.2.2.2.2.2.1,mR.2.2.2.2.2.2.2.2))))) (λFP=>
some (.error (FP.1,FP.2.1,FP.2.2.1,FP.2.2.2.1,FP.2.2.2.2.1,FP.2.2.2.2.2.1,FP.2.2.2.2.2.2.1,FP.2.2.2.2.2.2.2.1,FP.2.2.2.2.2.2.2.2)))) (λTC=>
some (.error (TC.1,TC.2.1,TC.2.2.1,TC.2.2.2.1,TC.2.2.2.2.1,TC.2.2.2.2.2.1,TC.2.2.2.2.2.2.1,TC.2.2.2.2.2.2.2.1,TC.2.2.2.2.2.2.2.2)))))) n
def El(n:Nat):CT:=cRX (λn w=>tC n [] [w,qB n,eS n,vh n,fA n,ic n] []) ⟨66,[],(.cons (.box 141 (.st (.part 3 (.st (.part 1 (.box 149 (.st (.part 1 (.box 113 (.st (.part 952 (.v (.st 19)) (.part 1 (.box 184 (.v (.st 26))) (.part 320 (.v (.st 21)) (.part 1 (.row 3 1 (.int .i64)) .nil)))))) (.part 1 (.v (.int .i64)) .nil)))) (.part 1 (.v (.int .u32)) (.part 1 (.v (.int .i64)) .nil)))) (.part 1 (.v (.int .i64)) .nil)))) (.cons (.v (.int .u64)) (.cons (.v (.int .u64)) .nil))),(.cons (.v (.int .u64)) (.cons (.box 141 (.st (.part 3 (.st (.part 1 (.box 149 (.st (.part 1 (.box 113 (.st (.part 952 (.v (.st 19)) (.part 1 (.box 184 (.v (.st 26))) (.part 320 (.v (.st 21)) (.part 1 (.row 3 1 (.int .i64)) .nil)))))) (.part 1 (.v (.int .i64)) .nil)))) (.part 1 (.v (.int .u32)) (.part 1 (.v (.int .i64)) .nil)))) (.part 1 (.v (.int .i64)) .nil)))) .nil)),[some 0,some 1,some 2,some 3,none],(.cons (.iQ 43 (.v (.int .i64))) (.cons (.box 141 (.st (.part 3 (.st (.part 1 (.box 149 (.st (.part 1 (.box 113 (.st (.part 952 (.v (.st 19)) (.part 1 (.box 184 (.v (.st 26))) (.part 320 (.v (.st 21)) (.part 1 (.row 3 1 (.int .i64)) .nil)))))) (.part 1 (.v (.int .i64)) .nil)))) (.part 1 (.v (.int .u32)) (.part 1 (.v (.int .i64)) .nil)))) (.part 1 (.v (.int .i64)) .nil)))) .nil)),[some 0,some 1,some 2,some 3,none],[[0]]⟩ (λn x=>uJ n x.1 x.2.1 x.2.2.1 x.2.2.2.1 x.2.2.2.2.1 x.2.2.2.2.2.1 x.2.2.2.2.2.2.1 x.2.2.2.2.2.2.2.1 x.2.2.2.2.2.2.2.2.1 x.2.2.2.2.2.2.2.2.2.1) (λy=>(y.1,y.2.1,y.2.2.1,y.2.2.2.1,y.2.2.2.2.1,y.2.2.2.2.2.1,y.2.2.2.2.2.2.1,y.2.2.2.2.2.2.2.1,y.2.2.2.2.2.2.2.2.1)) (λz=>(z.1,(z.2.1,(z.2.2.1,(z.2.2.2.1,(z.2.2.2.2.1,(z.2.2.2.2.2.1,(z.2.2.2.2.2.2.1,(z.2.2.2.2.2.2.2.1,(z.2.2.2.2.2.2.2.2,())))))))))) (λy=>(y.1,y.2.1,y.2.2.1,y.2.2.2.1,y.2.2.2.2.1,y.2.2.2.2.2.1,y.2.2.2.2.2.2.1,y.2.2.2.2.2.2.2.1,y.2.2.2.2.2.2.2.2.1)) (λz=>(z.1,(z.2.1,(z.2.2.1,(z.2.2.2.1,(z.2.2.2.2.1,(z.2.2.2.2.2.1,(z.2.2.2.2.2.2.1,(z.2.2.2.2.2.2.2.1,(z.2.2.2.2.2.2.2.2,())))))))))) n
def qK(n:Nat):ae->aj->ai->(List Int)->Int->Int->Int->Int->Int->Int->Option (Except (Int×ae×aj×ai×(List Int)×Int×Int×Int×Int) (Int×Int×ae×aj×ai×(List Int)×Int×Int×Int×Int)):=Nat.rec (λ_ _ _ _ _ _ _ _ _ _ =>none) (λn ih cS dg dz dy cH bU bP sD a1 a2=>
iL (dV n cS dg dz dy cH bU bP sD a1) (λax=>
iL (aX n ax.2.1 ax.2.2.1 ax.2.2.2.1 ax.2.2.2.2.1 ax.2.2.2.2.2.1 ax.2.2.2.2.2.2.1 ax.2.2.2.2.2.2.2.1 ax.2.2.2.2.2.2.2.2 (wr .i64 (ax.1+0))) (λbA=>
cn ((bA.1==a2)) (
iL (aX n bA.2.1 bA.2.2.1 bA.2.2.2.1 bA.2.2.2.2.1 bA.2.2.2.2.2.1 bA.2.2.2.2.2.2.1 bA.2.2.2.2.2.2.2.1 bA.2.2.2.2.2.2.2.2 (wr .i64 (ax.1+16))) (λcU=>
iL (aX n cU.2.1 cU.2.2.1 cU.2.2.2.1 cU.2.2.2.2.1 cU.2.2.2.2.2.1 cU.2.2.2.2.2.2.1 cU.2.2.2.2.2.2.2.1 cU.2.2.2.2.2.2.2.2 (wr .i64 (ax.1+24))) (λcJ=>
iL (uJ n cJ.2.1 cJ.2.2.1 cJ.2.2.2.1 cJ.2.2.2.2.1 cJ.2.2.2.2.2.1 cJ.2.2.2.2.2.2.1 cJ.2.2.2.2.2.2.2.1 cJ.2.2.2.2.2.2.2.2 cU.1 cJ.1) (λeF=>
some (.ok (eF.1,a1,eF.2.1,eF.2.2.1,eF.2.2.2.1,eF.2.2.2.2.1,eF.2.2.2.2.2.1,eF.2.2.2.2.2.2.1,eF.2.2.2.2.2.2.2.1,eF.2.2.2.2.2.2.2.2))) (λp7=>
some (.error (p7.1,p7.2.1,p7.2.2.1,p7.2.2.2.1,p7.2.2.2.2.1,p7.2.2.2.2.2.1,p7.2.2.2.2.2.2.1,p7.2.2.2.2.2.2.2.1,p7.2.2.2.2.2.2.2.2)))) (λxF=>
some (.error (xF.1,xF.2.1,xF.2.2.1,xF.2.2.2.1,xF.2.2.2.2.1,xF.2.2.2.2.2.1,xF.2.2.2.2.2.2.1,xF.2.2.2.2.2.2.2.1,xF.2.2.2.2.2.2.2.2)))) (λwZ=>
some (.error (wZ.1,wZ.2.1,wZ.2.2.1,wZ.2.2.2.1,wZ.2.2.2.2.1,wZ.2.2.2.2.2.1,wZ.2.2.2.2.2.2.1,wZ.2.2.2.2.2.2.2.1,wZ.2.2.2.2.2.2.2.2)))) (
lt (λ(cL:Int)=>
iL (aX n bA.2.1 bA.2.2.1 bA.2.2.2.1 bA.2.2.2.2.1 bA.2.2.2.2.2.1 bA.2.2.2.2.2.2.1 bA.2.2.2.2.2.2.2.1 bA.2.2.2.2.2.2.2.2 (wr .i64 (ax.1+cL))) (λdh=>
iL (ih dh.2.1 dh.2.2.1 dh.2.2.2.1 dh.2.2.2.2.1 dh.2.2.2.2.2.1 dh.2.2.2.2.2.2.1 dh.2.2.2.2.2.2.2.1 dh.2.2.2.2.2.2.2.2 dh.1 a2) (λdW=>
iL (aW n dW.2.2.1 dW.2.2.2.1 dW.2.2.2.2.1 dW.2.2.2.2.2.1 dW.2.2.2.2.2.2.1 dW.2.2.2.2.2.2.2.1 dW.2.2.2.2.2.2.2.2.1 dW.2.2.2.2.2.2.2.2.2 (wr .i64 (ax.1+cL)) dW.1) (λdI=>
some (.ok (a1,dW.2.1,dI.1,dI.2.1,dI.2.2.1,dI.2.2.2.1,dI.2.2.2.2.1,dI.2.2.2.2.2.1,dI.2.2.2.2.2.2.1,dI.2.2.2.2.2.2.2))) (λmR=>
some (.error (mR.1,mR.2.1,mR.2.2.1,mR.2.2.2.1,mR.2.2.2.2.1,mR.2.2.2.2.2.1,mR.2.2.2.2.2.2.1,mR.2.2.2.2.2.2.2.1,mR.2.2.2.2.2.2.2.2)))) (λmg=>
some (.error (mg.1,mg.2.1,mg.2.2.1,mg.2.2.2.1,mg.2.2.2.2.1,mg.2.2.2.2.2.1,mg.2.2.2.2.2.2.1,mg.2.2.2.2.2.2.2.1,mg.2.2.2.2.2.2.2.2)))) (λtF=>
some (.error (tF.1,tF.2.1,tF.2.2.1,tF.2.2.2.1,tF.2.2.2.2.1,tF.2.2.2.2.2.1,tF.2.2.2.2.2.2.1,tF.2.2.2.2.2.2.2.1,tF.2.2.2.2.2.2.2.2)))) λS5=>
cn (decide (a2<bA.1)) (
S5 16) (
S5 24))) (λlP=>
some (.error (lP.1,lP.2.1,lP.2.2.1,lP.2.2.2.1,lP.2.2.2.2.1,lP.2.2.2.2.2.1,lP.2.2.2.2.2.2.1,lP.2.2.2.2.2.2.2.1,lP.2.2.2.2.2.2.2.2)))) (λeW=>
some (.error (eW.1,eW.2.1,eW.2.2.1,eW.2.2.2.1,eW.2.2.2.2.1,eW.2.2.2.2.2.1,eW.2.2.2.2.2.2.1,eW.2.2.2.2.2.2.2.1,eW.2.2.2.2.2.2.2.2)))) n
def BL(n:Nat):CT:=cRX (λn w=>tC n [(16, .join [(.dS 10, .v (.int .i64))] [])] [w,fA n,eS n,El n,ic n] []) ⟨45,[],(.cons (.box 141 (.st (.part 3 (.st (.part 1 (.box 149 (.st (.part 1 (.box 113 (.st (.part 952 (.v (.st 19)) (.part 1 (.box 184 (.v (.st 26))) (.part 320 (.v (.st 21)) (.part 1 (.row 3 1 (.int .i64)) .nil)))))) (.part 1 (.v (.int .i64)) .nil)))) (.part 1 (.v (.int .u32)) (.part 1 (.v (.int .i64)) .nil)))) (.part 1 (.v (.int .i64)) .nil)))) (.cons (.v (.int .u64)) (.cons (.v (.int .u64)) .nil))),(.cons (.jc (.cons (.v (.int .u64)) (.cons (.v (.int .u64)) .nil))) (.cons (.box 141 (.st (.part 3 (.st (.part 1 (.box 149 (.st (.part 1 (.box 113 (.st (.part 952 (.v (.st 19)) (.part 1 (.box 184 (.v (.st 26))) (.part 320 (.v (.st 21)) (.part 1 (.row 3 1 (.int .i64)) .nil)))))) (.part 1 (.v (.int .i64)) .nil)))) (.part 1 (.v (.int .u32)) (.part 1 (.v (.int .i64)) .nil)))) (.part 1 (.v (.int .i64)) .nil)))) .nil)),[some 0,some 1,some 2,some 3,none],(.cons (.iQ 43 (.v (.int .i64))) (.cons (.box 141 (.st (.part 3 (.st (.part 1 (.box 149 (.st (.part 1 (.box 113 (.st (.part 952 (.v (.st 19)) (.part 1 (.box 184 (.v (.st 26))) (.part 320 (.v (.st 21)) (.part 1 (.row 3 1 (.int .i64)) .nil)))))) (.part 1 (.v (.int .i64)) .nil)))) (.part 1 (.v (.int .u32)) (.part 1 (.v (.int .i64)) .nil)))) (.part 1 (.v (.int .i64)) .nil)))) .nil)),[some 0,some 1,some 2,some 3,none],[[0]]⟩ (λn x=>qK n x.1 x.2.1 x.2.2.1 x.2.2.2.1 x.2.2.2.2.1 x.2.2.2.2.2.1 x.2.2.2.2.2.2.1 x.2.2.2.2.2.2.2.1 x.2.2.2.2.2.2.2.2.1 x.2.2.2.2.2.2.2.2.2.1) (λy=>(y.1,y.2.1,y.2.2.1,y.2.2.2.1,y.2.2.2.2.1,y.2.2.2.2.2.1,y.2.2.2.2.2.2.1,y.2.2.2.2.2.2.2.1,y.2.2.2.2.2.2.2.2.1,y.2.2.2.2.2.2.2.2.2.1)) (λz=>(z.1,(z.2.1,(z.2.2.1,(z.2.2.2.1,(z.2.2.2.2.1,(z.2.2.2.2.2.1,(z.2.2.2.2.2.2.1,(z.2.2.2.2.2.2.2.1,(z.2.2.2.2.2.2.2.2.1,(z.2.2.2.2.2.2.2.2.2,()))))))))))) (λy=>(y.1,y.2.1,y.2.2.1,y.2.2.2.1,y.2.2.2.2.1,y.2.2.2.2.2.1,y.2.2.2.2.2.2.1,y.2.2.2.2.2.2.2.1,y.2.2.2.2.2.2.2.2.1)) (λz=>(z.1,(z.2.1,(z.2.2.1,(z.2.2.2.1,(z.2.2.2.2.1,(z.2.2.2.2.2.1,(z.2.2.2.2.2.2.1,(z.2.2.2.2.2.2.2.1,(z.2.2.2.2.2.2.2.2,())))))))))) n
def lR(n:Nat)(cS:ae)(dg:aj)(dz:ai)(dy:(List Int))(cH:Int)(bU:Int)(bP:Int)(a1:Int):Option (Bool×Int×ae×aj×ai×(List Int)×Int×Int×Int):=
iL (kj n cS dg dz dy cH bU bP 0 a1) (λax=>
cn ((ax.1==0)) (
lt (false:Bool) λbA=>
some (bA,0,ax.2.1,ax.2.2.1,ax.2.2.2.1,ax.2.2.2.2.1,ax.2.2.2.2.2.1,bU,bP)) (
iL (da n ax.2.1 ax.2.2.1 ax.2.2.2.1 ax.2.2.2.2.1 ax.2.2.2.2.2.1 ax.2.2.2.2.2.2.1 ax.2.2.2.2.2.2.2.1 0 0) (λcM=>
iL (qK n cM.2.1 cM.2.2.1 cM.2.2.2.1 cM.2.2.2.2.1 cM.2.2.2.2.2.1 cM.2.2.2.2.2.2.1 cM.2.2.2.2.2.2.2.1 cM.2.2.2.2.2.2.2.2 cM.1 a1) (λdZ=>
iL (aW n dZ.2.2.1 dZ.2.2.2.1 dZ.2.2.2.2.1 dZ.2.2.2.2.2.1 dZ.2.2.2.2.2.2.1 dZ.2.2.2.2.2.2.2.1 dZ.2.2.2.2.2.2.2.2.1 dZ.2.2.2.2.2.2.2.2.2 (wr .i64 (bP+0)) dZ.1) (λdP=>
bd (gw n dZ.2.1) λeB=>
iL (da n dP.1 dP.2.1 dP.2.2.1 dP.2.2.2.1 dP.2.2.2.2.1 dP.2.2.2.2.2.1 dP.2.2.2.2.2.2.1 dP.2.2.2.2.2.2.2 16) (λcL=>
iL (aW n cL.2.1 cL.2.2.1 cL.2.2.2.1 cL.2.2.2.2.1 cL.2.2.2.2.2.1 cL.2.2.2.2.2.2.1 cL.2.2.2.2.2.2.2.1 cL.2.2.2.2.2.2.2.2 (wr .i64 (eB+16)) cL.1) (λdh=>
iL (aW n dh.1 dh.2.1 dh.2.2.1 dh.2.2.2.1 dh.2.2.2.2.1 dh.2.2.2.2.2.1 dh.2.2.2.2.2.2.1 dh.2.2.2.2.2.2.2 (wr .i64 (bP+16)) dZ.2.1) (λdW=>
iL (da n dW.1 dW.2.1 dW.2.2.1 dW.2.2.2.1 dW.2.2.2.2.1 dW.2.2.2.2.2.1 dW.2.2.2.2.2.2.1 dW.2.2.2.2.2.2.2 8) (λdI=>
iL (aW n dI.2.1 dI.2.2.1 dI.2.2.2.1 dI.2.2.2.2.1 dI.2.2.2.2.2.1 dI.2.2.2.2.2.2.1 dI.2.2.2.2.2.2.2.1 dI.2.2.2.2.2.2.2.2 (wr .i64 (bP+8)) (wr .u64 (dI.1-1))) (λgN=>
lt (true:Bool) λiw=>
some (iw,0,gN.1,gN.2.1,gN.2.2.1,gN.2.2.2.1,gN.2.2.2.2.1,bU,bP)) (λxE=>
lt (false:Bool) λo5=>
some (o5,xE.1,xE.2.1,xE.2.2.1,xE.2.2.2.1,xE.2.2.2.2.1,xE.2.2.2.2.2.1,bU,bP))) (λmR=>
lt (false:Bool) λrW=>
some (rW,mR.1,mR.2.1,mR.2.2.1,mR.2.2.2.1,mR.2.2.2.2.1,mR.2.2.2.2.2.1,bU,bP))) (λmg=>
lt (false:Bool) λyu=>
some (yu,mg.1,mg.2.1,mg.2.2.1,mg.2.2.2.1,mg.2.2.2.2.1,mg.2.2.2.2.2.1,bU,bP))) (λtF=>
lt (false:Bool) λx45=>
some (x45,tF.1,tF.2.1,tF.2.2.1,tF.2.2.2.1,tF.2.2.2.2.1,tF.2.2.2.2.2.1,bU,bP))) (λyQ=>
lt (false:Bool) λyO=>
some (yO,yQ.1,yQ.2.1,yQ.2.2.1,yQ.2.2.2.1,yQ.2.2.2.2.1,yQ.2.2.2.2.2.1,bU,bP))) (λTz=>
lt (false:Bool) λJG=>
some (JG,Tz.1,Tz.2.1,Tz.2.2.1,Tz.2.2.2.1,Tz.2.2.2.2.1,Tz.2.2.2.2.2.1,bU,bP))) (λFP=>
lt (false:Bool) λKg=>
some (Kg,FP.1,FP.2.1,FP.2.2.1,FP.2.2.2.1,FP.2.2.2.2.1,FP.2.2.2.2.2.1,bU,bP))) (λDB=>
lt (false:Bool) λKe=>
some (Ke,DB.1,DB.2.1,DB.2.2.1,DB.2.2.2.1,DB.2.2.2.2.1,DB.2.2.2.2.2.1,bU,bP)))) (λeW=>
lt (false:Bool) λCp=>
some (Cp,eW.1,eW.2.1,eW.2.2.1,eW.2.2.2.1,eW.2.2.2.2.1,eW.2.2.2.2.2.1,bU,bP))
def Gf(n:Nat):CT:=cV (tC n [] [qC n,fR n,BL n,ic n,qB n] []) ⟨18,[],(.cons (.st (.part 1 (.box 149 (.st (.part 1 (.box 113 (.st (.part 952 (.v (.st 19)) (.part 1 (.box 184 (.v (.st 26))) (.part 320 (.v (.st 21)) (.part 1 (.row 3 1 (.int .i64)) .nil)))))) (.part 1 (.v (.int .i64)) .nil)))) (.part 1 (.v (.int .u32)) (.part 1 (.v (.int .i64)) .nil)))) (.cons (.v (.int .u64)) .nil)),(.cons (.jc (.cons (.v .bool) (.cons (.v (.int .i64)) .nil))) (.cons (.st (.part 1 (.box 149 (.st (.part 1 (.box 113 (.st (.part 952 (.v (.st 19)) (.part 1 (.box 184 (.v (.st 26))) (.part 320 (.v (.st 21)) (.part 1 (.row 3 1 (.int .i64)) .nil)))))) (.part 1 (.v (.int .i64)) .nil)))) (.part 1 (.v (.int .u32)) (.part 1 (.v (.int .i64)) .nil)))) .nil)),[some 0,some 1,some 2,none], .nil,[],[[0]]⟩ (λx=>lR n x.1 x.2.1 x.2.2.1 x.2.2.2.1 x.2.2.2.2.1 x.2.2.2.2.2.1 x.2.2.2.2.2.2.1 x.2.2.2.2.2.2.2.1) (λy=>(y.1,y.2.1,y.2.2.1,y.2.2.2.1,y.2.2.2.2.1,y.2.2.2.2.2.1,y.2.2.2.2.2.2.1,y.2.2.2.2.2.2.2.1,y.2.2.2.2.2.2.2.2.1)) (λz=>(z.1,(z.2.1,(z.2.2.1,(z.2.2.2.1,(z.2.2.2.2.1,(z.2.2.2.2.2.1,(z.2.2.2.2.2.2.1,(z.2.2.2.2.2.2.2.1,(z.2.2.2.2.2.2.2.2,()))))))))))
def iD(n:Nat)(a0:bj)(a1:Int):Option Int:=
iv (λk22 (ax:Int)=>
cn (decide (ax<(a0.L.length:Int))) (
gu (dH ax a0.L.length)<|
cn ((((a0.L.getD (Int.toNat ax) default).iZ)==a1)) (
some (ax)) (
k22 (wr .i64 (ax+1)))) (
some ((-1)))) n 0
def se(n:Nat):CT:=cV (tC n [(5, .loop [(.dS 5, .v (.int .i64))])] [] []) ⟨60,[],(.cons (.v (.st 2)) (.cons (.v (.int .u64)) .nil)),(.cons (.v (.int .i64)) .nil),[], .nil,[],[]⟩ (λx=>iD n x.1 x.2.1) (λy=>(y.1)) (λz=>(z,()))
def j8(n:Nat)(a0:bj)(a1:Int):Option (bj×Bool):=
bd (iD n a0 a1) λax=>
cn (decide (ax<0)) (
lt (a0:bj) λbp=>
some (bp,false)) (
gu (dH ax (a0.L.length+1))<|
gu (ig 0 (a0.L.take (Int.toNat ax)).length 16)<|
lt (a0.L.take (Int.toNat ax):List aM) λbA=>
gu (dH (wr .i64 (ax+1)) (a0.L.length+1))<|
gu (ig bA.length (a0.L.drop (Int.toNat (wr .i64 (ax+1)))).length 16)<|
lt (bA++(a0.L.drop (Int.toNat (wr .i64 (ax+1)))):List aM) λcM=>
lt (({L:=cM,mh:=a0.mh}:bj):bj) λcU=>
some (cU,true))
def D9(n:Nat):CT:=cV (tC n [] [se n] []) ⟨27,[],(.cons (.v (.st 2)) (.cons (.v (.int .u64)) .nil)),(.cons (.jc (.cons (.v (.st 2)) (.cons (.v .bool) .nil))) .nil),[], .nil,[],[]⟩ (λx=>j8 n x.1 x.2.1) (λy=>(y.1,y.2.1)) (λz=>(z.1,(z.2,())))
def lQ(n:Nat)(cS:ae)(dg:aj)(dz:ai)(dy:(List Int))(cH:Int)(bU:Int)(bP:Int)(a1:Int):Option (Int×Bool×Int×ae×aj×ai×(List Int)×Int×Int×Int):=
iL (kj n cS dg dz dy cH bU bP 0 a1) (λax=>
cn ((ax.1!=0)) (
bd (gw n ax.1) λbA=>
iL (aX n ax.2.1 ax.2.2.1 ax.2.2.2.1 ax.2.2.2.2.1 ax.2.2.2.2.2.1 ax.2.2.2.2.2.2.1 ax.2.2.2.2.2.2.2.1 ax.2.2.2.2.2.2.2.2 (wr .i64 (bA+8))) (λcM=>
lt (cM.1:Int) λdZ=>
lt (dZ:Int) λcJ=>
some (cJ,true,0,cM.2.1,cM.2.2.1,cM.2.2.2.1,cM.2.2.2.2.1,cM.2.2.2.2.2.1,bU,bP)) (λDB=>
cn ((DB.1!=0)) (
some (0,false,DB.1,DB.2.1,DB.2.2.1,DB.2.2.2.1,DB.2.2.2.2.1,DB.2.2.2.2.2.1,bU,bP)) (
lt (0:Int) λdP=>
lt (false:Bool) λeF=>
some (dP,eF,0,DB.2.1,DB.2.2.1,DB.2.2.2.1,DB.2.2.2.2.1,DB.2.2.2.2.2.1,bU,bP)))) (
lt (0:Int) λeB=>
lt (false:Bool) λcL=>
some (eB,cL,0,ax.2.1,ax.2.2.1,ax.2.2.2.1,ax.2.2.2.2.1,ax.2.2.2.2.2.1,bU,bP))) (λeW=>
cn ((eW.1!=0)) (
some (0,false,eW.1,eW.2.1,eW.2.2.1,eW.2.2.2.1,eW.2.2.2.2.1,eW.2.2.2.2.2.1,bU,bP)) (
lt (0:Int) λgV=>
lt (false:Bool) λdh=>
some (gV,dh,0,eW.2.1,eW.2.2.1,eW.2.2.2.1,eW.2.2.2.2.1,eW.2.2.2.2.2.1,bU,bP)))
def Ge(n:Nat):CT:=cV (tC n [] [qC n,qB n,eS n] []) ⟨16,[],(.cons (.st (.part 1 (.box 149 (.st (.part 1 (.box 113 (.st (.part 952 (.v (.st 19)) (.part 1 (.box 184 (.v (.st 26))) (.part 320 (.v (.st 21)) (.part 1 (.row 3 1 (.int .i64)) .nil)))))) (.part 1 (.v (.int .i64)) .nil)))) (.part 1 (.v (.int .u32)) (.part 1 (.v (.int .i64)) .nil)))) (.cons (.v (.int .u64)) .nil)),(.cons (.jc (.cons (.v (.int .u64)) (.cons (.v .bool) (.cons (.v (.int .i64)) .nil)))) (.cons (.st (.part 1 (.box 149 (.st (.part 1 (.box 113 (.st (.part 952 (.v (.st 19)) (.part 1 (.box 184 (.v (.st 26))) (.part 320 (.v (.st 21)) (.part 1 (.row 3 1 (.int .i64)) .nil)))))) (.part 1 (.v (.int .i64)) .nil)))) (.part 1 (.v (.int .u32)) (.part 1 (.v (.int .i64)) .nil)))) .nil)),[some 0,some 1,some 2,none], .nil,[],[[0]]⟩ (λx=>lQ n x.1 x.2.1 x.2.2.1 x.2.2.2.1 x.2.2.2.2.1 x.2.2.2.2.2.1 x.2.2.2.2.2.2.1 x.2.2.2.2.2.2.2.1) (λy=>(y.1,y.2.1,y.2.2.1,y.2.2.2.1,y.2.2.2.2.1,y.2.2.2.2.2.1,y.2.2.2.2.2.2.1,y.2.2.2.2.2.2.2.1,y.2.2.2.2.2.2.2.2.1,y.2.2.2.2.2.2.2.2.2.1)) (λz=>(z.1,(z.2.1,(z.2.2.1,(z.2.2.2.1,(z.2.2.2.2.1,(z.2.2.2.2.2.1,(z.2.2.2.2.2.2.1,(z.2.2.2.2.2.2.2.1,(z.2.2.2.2.2.2.2.2.1,(z.2.2.2.2.2.2.2.2.2,())))))))))))
def j0(n:Nat)(a0:bj)(a1:Int):Option (Int×Bool):=
bd (iD n a0 a1) λax=>
cn (decide (ax<0)) (
some (0,false)) (
gu (dH ax a0.L.length)<|
some ((a0.L.getD (Int.toNat ax) default).uR,true))
def D8(n:Nat):CT:=cV (tC n [] [se n] []) ⟨28,[],(.cons (.v (.st 2)) (.cons (.v (.int .u64)) .nil)),(.cons (.jc (.cons (.v (.int .u64)) (.cons (.v .bool) .nil))) .nil),[], .nil,[],[]⟩ (λx=>j0 n x.1 x.2.1) (λy=>(y.1,y.2.1)) (λz=>(z.1,(z.2,())))
def qa(n:Nat)(cS:ae)(dg:aj)(dz:ai)(dy:(List Int))(cH:Int)(bU:Int)(bP:Int)(a1:Int):Option (bN×Bool×Int×ae×aj×ai×(List Int)×Int×Int×Int):=
iL (da n cS dg dz dy cH bU bP 0 0) (λax=>
EP (λk34 (bA:Int) (cM:ae) (cU:aj) (dZ:ai) (cJ:(List Int)) (dP:Int) (eF:Int) (eB:Int) (cL:Int) (gV:bN) (dh:Bool)=>
cn ((bA !=0)) (
iL (dV n cM cU dZ cJ dP eF eB cL bA) (λdW=>
iL (aX n dW.2.1 dW.2.2.1 dW.2.2.2.1 dW.2.2.2.2.1 dW.2.2.2.2.2.1 dW.2.2.2.2.2.2.1 dW.2.2.2.2.2.2.2.1 dW.2.2.2.2.2.2.2.2 (wr .i64 (dW.1+0))) (λdI=>
cn (decide (dI.1<a1)) (
iL (aX n dI.2.1 dI.2.2.1 dI.2.2.2.1 dI.2.2.2.2.1 dI.2.2.2.2.2.1 dI.2.2.2.2.2.2.1 dI.2.2.2.2.2.2.2.1 dI.2.2.2.2.2.2.2.2 (wr .i64 (dW.1+24))) (λgN=>
k34 gN.1 gN.2.1 gN.2.2.1 gN.2.2.2.1 gN.2.2.2.2.1 gN.2.2.2.2.2.1 gN.2.2.2.2.2.2.1 gN.2.2.2.2.2.2.2.1 gN.2.2.2.2.2.2.2.2 gV dh) (λxE=>
cn ((xE.1!=0)) (
lt (fC:bN) λiw=>
some (iw,false,xE.1,xE.2.1,xE.2.2.1,xE.2.2.2.1,xE.2.2.2.2.1,xE.2.2.2.2.2.1,bU,bP)) (
lt (gV:bN) λo5=>
lt (dh:Bool) λrW=>
some (o5,rW,0,xE.2.1,xE.2.2.1,xE.2.2.2.1,xE.2.2.2.2.1,xE.2.2.2.2.2.1,bU,bP)))) (
iL (aX n dI.2.1 dI.2.2.1 dI.2.2.2.1 dI.2.2.2.2.1 dI.2.2.2.2.2.1 dI.2.2.2.2.2.2.1 dI.2.2.2.2.2.2.2.1 dI.2.2.2.2.2.2.2.2 (wr .i64 (dW.1+8))) (λyu=>
lt (({iZ:=dI.1,uR:=yu.1}:bN):bN) λyO=>
iL (aX n yu.2.1 yu.2.2.1 yu.2.2.2.1 yu.2.2.2.2.1 yu.2.2.2.2.2.1 yu.2.2.2.2.2.2.1 yu.2.2.2.2.2.2.2.1 yu.2.2.2.2.2.2.2.2 (wr .i64 (dW.1+16))) (λJG=>
k34 JG.1 JG.2.1 JG.2.2.1 JG.2.2.2.1 JG.2.2.2.2.1 JG.2.2.2.2.2.1 JG.2.2.2.2.2.2.1 JG.2.2.2.2.2.2.2.1 JG.2.2.2.2.2.2.2.2 yO true) (λUf=>
cn ((Uf.1!=0)) (
lt (fC:bN) λKe=>
some (Ke,false,Uf.1,Uf.2.1,Uf.2.2.1,Uf.2.2.2.1,Uf.2.2.2.2.1,Uf.2.2.2.2.2.1,bU,bP)) (
lt (yO:bN) λCp=>
some (Cp,true,0,Uf.2.1,Uf.2.2.1,Uf.2.2.2.1,Uf.2.2.2.2.1,Uf.2.2.2.2.2.1,bU,bP)))) (λRB=>
cn ((RB.1!=0)) (
lt (fC:bN) λx51=>
some (x51,false,RB.1,RB.2.1,RB.2.2.1,RB.2.2.2.1,RB.2.2.2.2.1,RB.2.2.2.2.2.1,bU,bP)) (
lt (gV:bN) λMU=>
lt (dh:Bool) λOD=>
some (MU,OD,0,RB.2.1,RB.2.2.1,RB.2.2.2.1,RB.2.2.2.2.1,RB.2.2.2.2.2.1,bU,bP))))) (λmR=>
cn ((mR.1!=0)) (
lt (fC:bN) λow=>
some (ow,false,mR.1,mR.2.1,mR.2.2.1,mR.2.2.2.1,mR.2.2.2.2.1,mR.2.2.2.2.2.1,bU,bP)) (
lt (gV:bN) λuW=>
lt (dh:Bool) λHt=>
some (uW,Ht,0,mR.2.1,mR.2.2.1,mR.2.2.2.1,mR.2.2.2.2.1,mR.2.2.2.2.2.1,bU,bP)))) (λmg=>
cn ((mg.1!=0)) (
lt (fC:bN) λMT=>
some (MT,false,mg.1,mg.2.1,mg.2.2.1,mg.2.2.2.1,mg.2.2.2.2.1,mg.2.2.2.2.2.1,bU,bP)) (
lt (gV:bN) λOn=>
lt (dh:Bool) λOC=>
some (On,OC,0,mg.2.1,mg.2.2.1,mg.2.2.2.1,mg.2.2.2.2.1,mg.2.2.2.2.2.1,bU,bP)))) (
lt (gV:bN) λwX=>
lt (dh:Bool) λx61=>
some (wX,x61,0,cM,cU,dZ,cJ,dP,bU,bP))) n ax.1 ax.2.1 ax.2.2.1 ax.2.2.2.1 ax.2.2.2.2.1 ax.2.2.2.2.2.1 ax.2.2.2.2.2.2.1 ax.2.2.2.2.2.2.2.1 ax.2.2.2.2.2.2.2.2 fC false) (λeW=>
cn ((eW.1!=0)) (
lt (fC:bN) λSk=>
some (Sk,false,eW.1,eW.2.1,eW.2.2.1,eW.2.2.2.1,eW.2.2.2.2.1,eW.2.2.2.2.2.1,bU,bP)) (
lt (fC:bN) λx63=>
lt (false:Bool) λUq=>
some (x63,Uq,0,eW.2.1,eW.2.2.1,eW.2.2.2.1,eW.2.2.2.2.1,eW.2.2.2.2.2.1,bU,bP)))
def En(n:Nat):CT:=cV (tC n [(100130000003, .loop [(.dS 5, .v (.int .u64)),(.via 0, .box 141 (.st (.part 3 (.st (.part 1 (.box 149 (.st (.part 1 (.box 113 (.st (.part 952 (.v (.st 19)) (.part 1 (.box 184 (.v (.st 26))) (.part 320 (.v (.st 21)) (.part 1 (.row 3 1 (.int .i64)) .nil)))))) (.part 1 (.v (.int .i64)) .nil)))) (.part 1 (.v (.int .u32)) (.part 1 (.v (.int .i64)) .nil)))) (.part 1 (.v (.int .i64)) .nil)))),(.via 2, .box 57 (.v (.st 3))),(.via 3, .box 4 (.v .bool))])] [fR n,fA n,eS n] []) ⟨20,[],(.cons (.st (.part 1 (.box 149 (.st (.part 1 (.box 113 (.st (.part 952 (.v (.st 19)) (.part 1 (.box 184 (.v (.st 26))) (.part 320 (.v (.st 21)) (.part 1 (.row 3 1 (.int .i64)) .nil)))))) (.part 1 (.v (.int .i64)) .nil)))) (.part 1 (.v (.int .u32)) (.part 1 (.v (.int .i64)) .nil)))) (.cons (.v (.int .u64)) .nil)),(.cons (.jc (.cons (.v (.st 3)) (.cons (.v .bool) (.cons (.v (.int .i64)) .nil)))) (.cons (.st (.part 1 (.box 149 (.st (.part 1 (.box 113 (.st (.part 952 (.v (.st 19)) (.part 1 (.box 184 (.v (.st 26))) (.part 320 (.v (.st 21)) (.part 1 (.row 3 1 (.int .i64)) .nil)))))) (.part 1 (.v (.int .i64)) .nil)))) (.part 1 (.v (.int .u32)) (.part 1 (.v (.int .i64)) .nil)))) .nil)),[some 0,some 1,some 2,none], .nil,[],[[0]]⟩ (λx=>qa n x.1 x.2.1 x.2.2.1 x.2.2.2.1 x.2.2.2.2.1 x.2.2.2.2.2.1 x.2.2.2.2.2.2.1 x.2.2.2.2.2.2.2.1) (λy=>(y.1,y.2.1,y.2.2.1,y.2.2.2.1,y.2.2.2.2.1,y.2.2.2.2.2.1,y.2.2.2.2.2.2.1,y.2.2.2.2.2.2.2.1,y.2.2.2.2.2.2.2.2.1,y.2.2.2.2.2.2.2.2.2.1)) (λz=>(z.1,(z.2.1,(z.2.2.1,(z.2.2.2.1,(z.2.2.2.2.1,(z.2.2.2.2.2.1,(z.2.2.2.2.2.2.1,(z.2.2.2.2.2.2.2.1,(z.2.2.2.2.2.2.2.2.1,(z.2.2.2.2.2.2.2.2.2,())))))))))))
def oe(n:Nat)(a0:bj)(a1:Int):Option (aM×Bool):=
fe (λk23 (ax:Int) (bp:aM)=>
cn (decide (ax<(a0.L.length:Int))) (
gu (dH ax a0.L.length)<|
cn (decide (a1<=((a0.L.getD (Int.toNat ax) default).iZ))) (
gu (dH ax a0.L.length)<|
lt ((a0.L.getD (Int.toNat ax) default):aM) λcM=>
some (cM,true)) (
k23 (wr .i64 (ax+1)) bp)) (
lt (gL:aM) λcU=>
some (cU,false))) n 0 gL
def CH(n:Nat):CT:=cV (tC n [(5, .loop [(.dS 6, .v (.int .i64)),(.via 4, .box 116 (.v (.st 1)))])] [] []) ⟨29,[],(.cons (.v (.st 2)) (.cons (.v (.int .u64)) .nil)),(.cons (.jc (.cons (.v (.st 1)) (.cons (.v .bool) .nil))) .nil),[], .nil,[],[]⟩ (λx=>oe n x.1 x.2.1) (λy=>(y.1,y.2.1)) (λz=>(z.1,(z.2,())))
def jZ(n:Nat)(a0:bj)(a1:Int)(a2:Int):Option (bj×Bool):=
bd (iD n a0 a1) λax=>
gu (ig 0 a0.L.length 16)<|
lt (a0.L:List aM) λbp=>
cn (decide (0<=ax)) (
gu (dH ax bp.length)<|
lt (bp.set (Int.toNat ax) ({(bp.getD (Int.toNat ax) default)with uR:=a2}:aM):List aM) λbA=>
lt (({L:=bA,mh:=a0.mh}:bj):bj) λcM=>
some (cM,true)) (
iv (λk26 (cU:Int)=>
gu (!(decide (cU<(bp.length:Int))==true)||dH cU bp.length)<|
cn (((decide (cU<(bp.length:Int)))&&(decide (((bp.getD (Int.toNat cU) default).iZ)<a1)))) (
k26 (wr .i64 (cU+1))) (
gu (dH cU (bp.length+1))<|
gu (ig 0 (bp.take (Int.toNat cU)).length 16)<|
lt (bp.take (Int.toNat cU):List aM) λcJ=>
gu (ig cJ.length [({iZ:=a1,uR:=a2}:aM)].length 16)<|
lt (cJ++[({iZ:=a1,uR:=a2}:aM)]:List aM) λdP=>
gu (dH cU (bp.length+1))<|
gu (ig dP.length (bp.drop (Int.toNat cU)).length 16)<|
lt (dP++(bp.drop (Int.toNat cU)):List aM) λeF=>
lt (({L:=eF,mh:=(if a0.mh<(eF.length:Int)then(eF.length:Int)else a0.mh)}:bj):bj) λeB=>
some (eB,false))) n 0)
def D7(n:Nat):CT:=cV (tC n [(15, .loop [(.dS 10, .v (.int .i64))])] [se n] []) ⟨30,[],(.cons (.v (.st 2)) (.cons (.v (.int .u64)) (.cons (.v (.int .u64)) .nil))),(.cons (.jc (.cons (.v (.st 2)) (.cons (.v .bool) .nil))) .nil),[], .nil,[],[]⟩ (λx=>jZ n x.1 x.2.1 x.2.2.1) (λy=>(y.1,y.2.1)) (λz=>(z.1,(z.2,())))
def xw(n:Nat)(cS:ae)(dg:aj)(dz:ai)(dy:(List Int))(cH:Int)(bU:Int)(bP:Int)(a1:bj)(a2:fD):Option (bj×Bool×ae×aj×ai×(List Int)×Int×Int×Int):=
cn ((a2.Do==0)) (
bd (lR n cS dg dz dy cH bU bP a2.iZ) λax=>
bd (j8 n a1 a2.iZ) λbp=>
lt (bp.1:bj) λbA=>
lt (bA:bj) λcM=>
some (cM,((ax.1==bp.2)&&(ax.2.1==0)),ax.2.2.1,ax.2.2.2.1,ax.2.2.2.2.1,ax.2.2.2.2.2.1,ax.2.2.2.2.2.2.1,bU,bP)) (
cn ((a2.Do==1)) (
bd (lQ n cS dg dz dy cH bU bP a2.iZ) λcU=>
bd (j0 n a1 a2.iZ) λdZ=>
lt (a1:bj) λcJ=>
some (cJ,(((cU.1==dZ.1)&&(cU.2.1==dZ.2))&&(cU.2.2.1==0)),cU.2.2.2.1,cU.2.2.2.2.1,cU.2.2.2.2.2.1,cU.2.2.2.2.2.2.1,cU.2.2.2.2.2.2.2.1,bU,bP)) (
cn ((a2.Do==2)) (
bd (qa n cS dg dz dy cH bU bP a2.iZ) λdP=>
lt (dP.1:bN) λeF=>
bd (oe n a1 a2.iZ) λeB=>
lt (eB.1:aM) λcL=>
lt (a1:bj) λgV=>
some (gV,((((eF.iZ==cL.iZ)&&(eF.uR==cL.uR))&&(dP.2.1==eB.2))&&(dP.2.2.1==0)),dP.2.2.2.1,dP.2.2.2.2.1,dP.2.2.2.2.2.1,dP.2.2.2.2.2.2.1,dP.2.2.2.2.2.2.2.1,bU,bP)) (
bd (eX n cS dg dz dy cH bU bP a2.iZ a2.uR) λdh=>
bd (jZ n a1 a2.iZ a2.uR) λcN=>
lt (cN.1:bj) λdW=>
cn (((dh.2.1==6)&&(decide (a1.mh<dW.mh)))) (
lt (a1:bj) λnC=>
some (nC,(!dh.1),dh.2.2.1,dh.2.2.2.1,dh.2.2.2.2.1,dh.2.2.2.2.2.1,dh.2.2.2.2.2.2.1,bU,bP)) (
lt (dW:bj) λdI=>
some (dI,((dh.1==cN.2)&&(dh.2.1==0)),dh.2.2.1,dh.2.2.2.1,dh.2.2.2.2.1,dh.2.2.2.2.2.1,dh.2.2.2.2.2.2.1,bU,bP)))))
def Lj(n:Nat):CT:=cV (tC n [] [Gf n,D9 n,Ge n,D8 n,En n,CH n,xY n,D7 n] []) ⟨10,[],(.cons (.st (.part 1 (.box 149 (.st (.part 1 (.box 113 (.st (.part 952 (.v (.st 19)) (.part 1 (.box 184 (.v (.st 26))) (.part 320 (.v (.st 21)) (.part 1 (.row 3 1 (.int .i64)) .nil)))))) (.part 1 (.v (.int .i64)) .nil)))) (.part 1 (.v (.int .u32)) (.part 1 (.v (.int .i64)) .nil)))) (.cons (.v (.st 2)) (.cons (.v (.st 0)) .nil))),(.cons (.jc (.cons (.v (.st 2)) (.cons (.v .bool) .nil))) (.cons (.st (.part 1 (.box 149 (.st (.part 1 (.box 113 (.st (.part 952 (.v (.st 19)) (.part 1 (.box 184 (.v (.st 26))) (.part 320 (.v (.st 21)) (.part 1 (.row 3 1 (.int .i64)) .nil)))))) (.part 1 (.v (.int .i64)) .nil)))) (.part 1 (.v (.int .u32)) (.part 1 (.v (.int .i64)) .nil)))) .nil)),[some 0,some 1,some 2,none], .nil,[],[[0]]⟩ (λx=>xw n x.1 x.2.1 x.2.2.1 x.2.2.2.1 x.2.2.2.2.1 x.2.2.2.2.2.1 x.2.2.2.2.2.2.1 x.2.2.2.2.2.2.2.1 x.2.2.2.2.2.2.2.2.1) (λy=>(y.1,y.2.1,y.2.2.1,y.2.2.2.1,y.2.2.2.2.1,y.2.2.2.2.2.1,y.2.2.2.2.2.2.1,y.2.2.2.2.2.2.2.1,y.2.2.2.2.2.2.2.2.1)) (λz=>(z.1,(z.2.1,(z.2.2.1,(z.2.2.2.1,(z.2.2.2.2.1,(z.2.2.2.2.2.1,(z.2.2.2.2.2.2.1,(z.2.2.2.2.2.2.2.1,(z.2.2.2.2.2.2.2.2,()))))))))))
def sA(n:Nat)(a0:Int)(a1:(List fD))(a2:Int):Option Bool:=
cl ((((decide (a0<1))||(decide (64<a0)))==false)) (zE n a1) default λax=>
cn ((((decide (a0<1))||(decide (64<a0)))||ax)) (
bd (rI n) λbp=>
some (bp)) (
bd (C6 n 64) λbA=>
bd (rG n) λcM=>
bd (di n cM ({({kE with n:=64}:aj)with eo:=bA}:aj) bG [] 0 ({({fb with Do:=1}:aD)with A:=wr .u32 (wr .i64 a0)}:aD)) λcU=>
lt (cU.1:ah) λdZ=>
bd (eV n cU.2.1 cU.2.2.1 cU.2.2.2.1 cU.2.2.2.2.1 cU.2.2.2.2.2 dZ.W 24 8) λcJ=>
cn ((cJ.2.1!=0)) (
cn ((!((dZ.E==0)&&(cJ.2.1==0)))) (
some (false)) (
none)) (
cn ((!((dZ.E==0)&&true))) (
some (false)) (
Ig (λJv (dP:Int) (eF:ae) (eB:aj) (cL:ai) (gV:(List Int)) (dh:Int) (cN:Int) (dW:Int) (nC:bj)=>
cn (decide (dP<(a1.length:Int))) (
gu (dH dP a1.length)<|
bd (xw n eF eB cL gV dh cN dW nC (a1.getD (Int.toNat dP) default)) λnQ=>
lt (nQ.1:bj) λgN=>
cn ((!nQ.2.1)) (
some (false)) (
bd (uE n nQ.2.2.1 nQ.2.2.2.1 nQ.2.2.2.2.1 nQ.2.2.2.2.2.1 nQ.2.2.2.2.2.2.1 cN dW gN) λtM=>
cn ((!tM.1)) (
some (false)) (
lt (gN:bj) λiw=>
Jv (wr .i64 (dP+1)) tM.2.1 tM.2.2.1 tM.2.2.2.1 tM.2.2.2.2.1 tM.2.2.2.2.2.1 cN dW iw))) (
bd (nu n a2) λo5=>
bd (qE n a2) λrW=>
cl (((o5==rW)==true)) (rI n) default λyu=>
some (((o5==rW)&&yu)))) n 0 cJ.2.2.1 cJ.2.2.2.1 cJ.2.2.2.2.1 cJ.2.2.2.2.2.1 cJ.2.2.2.2.2.2 dZ.W cJ.1 jG)))
def CS(n:Nat):CT:=cV (tC n [(17, .loop [(.dS 10, .v (.int .i64)),(.via 7, .box 30 (.st (.part 1 (.box 149 (.st (.part 1 (.box 113 (.st (.part 952 (.v (.st 19)) (.part 1 (.box 184 (.v (.st 26))) (.part 320 (.v (.st 21)) (.part 1 (.row 3 1 (.int .i64)) .nil)))))) (.part 1 (.v (.int .i64)) .nil)))) (.part 1 (.v (.int .u32)) (.part 1 (.v (.int .i64)) .nil))))),(.via 9, .box 35 (.v (.st 2)))])] [JJ n,JI n,Kj n,Bn n,tU n,so n,Lj n,CR n,vh n,CF n] []) ⟨3,[],(.cons (.v (.int .u8)) (.cons (.v (.sl (.st 0))) (.cons (.v (.int .u64)) .nil))),(.cons (.v .bool) .nil),[], .nil,[],[]⟩ (λx=>sA n x.1 x.2.1 x.2.2.1) (λy=>(y.1)) (λz=>(z,()))
end
end Go.Proofs.Z
