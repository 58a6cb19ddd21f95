/- Part 14 of what a proof leans on; pruned and shortened by a program out of longer texts. -/
import Derived.Test.YtioeklchieeebaaGreatDoorQ13
namespace Go.Proofs.Z
open Go Go.Bw Go.Rw Go.RowKit
noncomputable section
abbrev tC(n:Nat)(h:List (Nat×Hn))(cs:List CT)(Sw:List (It Tryz.prog sg)):uo Tryz.prog sg:=afq tt zt n h cs Sw eks
def bH(n:Nat)(a0:Int):Option (Int×Bool):=
some (wr .u32 a0,((decide (0<=a0))&&(decide (a0<=4294967295))))
def sP(n:Nat):CT:=cV (tC n [] [] []) ⟨57,[],(.cons (.v (.int .i64)) .nil),(.cons (.gS (.cons (.v (.int .u32)) (.cons (.v .bool) .nil))) .nil),[], .nil,[],[]⟩ (λx=>bH n x.1) (λy=>(y.1,y.2.1)) (λz=>(z.1,(z.2,())))
def ya(n:Nat)(a0:ak)(a1:Int)(a2:ai):Option Int:=
bd (eM n a0 a1 a2) λaE=>
cn (decide (0<aE)) (
some (0)) (
bd (mK n a0 a1 a2 cy) λaW=>
lt (aW.1:ak) λ_=>
lt (aW.2.1:ah) λcz=>
some (cz.E))
def y9(n:Nat):CT:=cV (tC n [] [jL n,rV n] []) ⟨65,[],(.cons (.v (.st 15)) (.cons (.v (.int .i64)) (.cons (.v (.st 20)) .nil))),(.cons (.v (.int .i64)) .nil),[], .nil,[],[]⟩ (λx=>ya n x.1 x.2.1 x.2.2.1) (λy=>(y.1)) (λz=>(z,()))
def xZ(n:Nat)(a0:ak)(a1:Int)(a2:ai):Option Bool:=
cl (((a2.Do==15)==true)) (ya n a0 a1 a2) default λaE=>
some (((a2.Do==15)&&(aE==10)))
def y8(n:Nat):CT:=cV (tC n [] [y9 n] []) ⟨53,[],(.cons (.v (.st 15)) (.cons (.v (.int .i64)) (.cons (.v (.st 20)) .nil))),(.cons (.v .bool) .nil),[], .nil,[],[]⟩ (λx=>xZ n x.1 x.2.1 x.2.2.1) (λy=>(y.1)) (λz=>(z,()))
def kE(n:Nat)(da:ak)(dA:au)(dM:aq)(dL:(List Int))(a1:av):Option (ak×au×aq×(List Int)):=
DE (λk26 (aE:Int) (aW:ak) (bU:au) (cz:aq) (dO:(List Int))=>
cn (decide (aE<a1.N)) (
gu (gR dO.length [wr .i64 (a1.At+aE)].length 8)<|
lt (dO++[wr .i64 (a1.At+aE)]:List Int) λcY=>
k26 (wr .i64 (aE+1)) aW bU cz cY) (
some (aW,bU,cz,dO))) n 0 da dA dM dL
def qP(n:Nat):CT:=cV (tC n [(5, .loop [(.slot 7, .v (.int .i64)),(.via 0, .box 94 (.st (.part 952 (.v (.st 15)) (.part 1 (.box 126 (.v (.st 21))) (.part 320 (.v (.st 17)) (.part 1 (.row 3 1 (.int .i64)) .nil))))))])] [] []) ⟨71,[],(.cons (.box 94 (.st (.part 952 (.v (.st 15)) (.part 1 (.box 126 (.v (.st 21))) (.part 320 (.v (.st 17)) (.part 1 (.row 3 1 (.int .i64)) .nil)))))) (.cons (.v (.st 3)) .nil)),(.cons (.gS .nil) (.cons (.box 94 (.st (.part 952 (.v (.st 15)) (.part 1 (.box 126 (.v (.st 21))) (.part 320 (.v (.st 17)) (.part 1 (.row 3 1 (.int .i64)) .nil)))))) .nil)),[some 0,some 1,none], .nil,[],[[0]]⟩ (λx=>kE n x.1 x.2.1 x.2.2.1 x.2.2.2.1 x.2.2.2.2.1) (λy=>(y.1,y.2.1,y.2.2.1,y.2.2.2.1)) (λz=>(z.1,(z.2.1,(z.2.2.1,(z.2.2.2,())))))
def zD(n:Nat)(a0:Int)(a1:Int):Option Bool:=
some (((((decide (0<=a0))&&(decide (a0<32)))&&(decide (0<=a1)))&&(decide (a1<8))))
def xS(n:Nat):CT:=cV (tC n [] [] []) ⟨91,[],(.cons (.v (.int .i64)) (.cons (.v (.int .i64)) .nil)),(.cons (.v .bool) .nil),[], .nil,[],[]⟩ (λx=>zD n x.1 x.2.1) (λy=>(y.1)) (λz=>(z,()))
def ud(n:Nat)(a0:aq)(a1:Int)(a2:Int):Option aq:=
lt (λ(aE:aq)=>
lt (aE:aq) λbU=>
some (bU)) λMZ=>
bd (zD n a1 a2) λcz=>
gu (!(cz==true)||cF a1 32)<|
cn ((cz&&((wr .i64 ((a0.bD (Int.toNat a1)).Q8))==(wr .i64 (a2+1))))) (
gu (cF a1 32)<|
lt (({a0 with bD:=(mZ a0.bD (Int.toNat a1) ({(a0.bD (Int.toNat a1))with Q8:=0}:bP))}:aq):aq) λdO=>
MZ dO) (
MZ a0)
def ze(n:Nat):CT:=cV (tC n [(6, .join [(.via 3, .box 91 (.v (.st 17)))] [])] [xS n] []) ⟨90,[],(.cons (.v (.st 17)) (.cons (.v (.int .i64)) (.cons (.v (.int .i64)) .nil))),(.cons (.v (.st 17)) .nil),[], .nil,[],[]⟩ (λx=>ud n x.1 x.2.1 x.2.2.1) (λy=>(y.1)) (λz=>(z,()))
def qU(n:Nat)(a0:(List Int))(a1:Int):Option Int:=
gL (λk22 (aE:Int)=>
cn (decide (aE<(a0.length:Int))) (
gu (cF aE a0.length)<|
cn ((a1==(a0.getD (Int.toNat aE) default))) (
some (aE)) (
k22 (wr .i64 (aE+1)))) (
some ((-1)))) n 0
def wR(n:Nat):CT:=cV (tC n [(5, .loop [(.slot 8, .v (.int .i64))])] [] []) ⟨123,[],(.cons (.v (.sl (.int .u8))) (.cons (.v (.int .u8)) .nil)),(.cons (.v (.int .i64)) .nil),[], .nil,[],[]⟩ (λx=>qU n x.1 x.2.1) (λy=>(y.1)) (λz=>(z,()))
def oC(n:Nat)(a0:bP)(a1:Int):Option Int:=
gu (cF a0.n 9)<|
bd (qU n ((List.range (Int.toNat a0.n)).map a0.B5) (wr .u8 a1)) λaE=>
some (aE)
def qO(n:Nat):CT:=cV (tC n [(1000008, .Ds)] [wR n] []) ⟨106,[],(.cons (.v (.st 16)) (.cons (.v (.int .i64)) .nil)),(.cons (.v (.int .i64)) .nil),[], .nil,[],[]⟩ (λx=>oC n x.1 x.2.1) (λy=>(y.1)) (λz=>(z,()))
def mL(n:Nat)(a0:bP)(a1:Int):Option bP:=
bd (oC n a0 a1) λaE=>
cn (decide (aE<0)) (
lt (a0:bP) λaW=>
some (aW)) (
gu (cF aE 9)<|
gu (cF (wr .i64 (aE+1)) 9)<|
lt (({a0 with B5:=UB (Int.toNat aE) (Int.toNat (wr .i64 (aE+1))) 8 a0.B5}:bP):bP) λbU=>
lt (({bU with n:=wr .i64 (bU.n-1)}:bP):bP) λcz=>
gu (cF cz.n 8)<|
lt (({cz with B5:=(mZ cz.B5 (Int.toNat cz.n) 0)}:bP):bP) λdO=>
lt (dO:bP) λdQ=>
some (dQ))
def oR(n:Nat):CT:=cV (tC n [] [qO n] []) ⟨92,[],(.cons (.v (.st 16)) (.cons (.v (.int .i64)) .nil)),(.cons (.v (.st 16)) .nil),[], .nil,[],[]⟩ (λx=>mL n x.1 x.2.1) (λy=>(y.1)) (λz=>(z,()))
def uc(n:Nat)(a0:aq)(a1:Int):Option aq:=
dH (λk23 (aE:Int) (aW:aq)=>
cn (decide (aE<32)) (
lt (λ(cz:aq)=>
k23 (wr .i64 (aE+1)) cz) λj25=>
bd (ud n aW aE a1) λdQ=>
lt (dQ:aq) λcY=>
bd (zD n aE a1) λdy=>
cn (dy) (
gu (cF aE 32)<|
bd (mL n (cY.bD (Int.toNat aE)) a1) λfq=>
gu (cF aE 32)<|
lt (({cY with bD:=(mZ cY.bD (Int.toNat aE) fq)}:aq):aq) λcW=>
j25 cW) (
j25 cY)) (
lt (aW:aq) λcU=>
some (cU))) n 0 a0
def zc(n:Nat):CT:=cV (tC n [(5, .loop [(.slot 6, .v (.int .i64)),(.via 2, .box 91 (.v (.st 17)))]),(14, .join [(.via 2, .box 91 (.v (.st 17)))] [])] [ze n,xS n,oR n] []) ⟨72,[],(.cons (.v (.st 17)) (.cons (.v (.int .i64)) .nil)),(.cons (.v (.st 17)) .nil),[], .nil,[],[]⟩ (λx=>uc n x.1 x.2.1) (λy=>(y.1)) (λz=>(z,()))
def rN(n:Nat)(da:ak)(dA:au)(dM:aq)(dL:(List Int))(a1:aN):Option (ak×au×aq×(List Int)):=
bd (kE n da dA dM dL a1.Iu) λaE=>
bd (uc n aE.2.2.1 a1.nc) λaW=>
lt (aW:aq) λbU=>
some (aE.1,aE.2.1,bU,aE.2.2.2)
def tO(n:Nat):CT:=cV (tC n [] [qP n,zc n] []) ⟨55,[],(.cons (.box 94 (.st (.part 952 (.v (.st 15)) (.part 1 (.box 126 (.v (.st 21))) (.part 320 (.v (.st 17)) (.part 1 (.row 3 1 (.int .i64)) .nil)))))) (.cons (.v (.st 23)) .nil)),(.cons (.gS .nil) (.cons (.box 94 (.st (.part 952 (.v (.st 15)) (.part 1 (.box 126 (.v (.st 21))) (.part 320 (.v (.st 17)) (.part 1 (.row 3 1 (.int .i64)) .nil)))))) .nil)),[some 0,some 1,none], .nil,[],[[0]]⟩ (λx=>rN n x.1 x.2.1 x.2.2.1 x.2.2.2.1 x.2.2.2.2.1) (λy=>(y.1,y.2.1,y.2.2.1,y.2.2.2.1)) (λz=>(z.1,(z.2.1,(z.2.2.1,(z.2.2.2,())))))
def gi(n:Nat)(da:ak)(dA:au)(dM:aq)(dL:(List Int))(cP:aN)(cN:ah)(tq:Bool)(a1:ah):Option (ak×au×aq×(List Int)×aN×ah×Bool):=
lt (a1:ah) λaE=>
bd (rN n da dA dM dL cP) λaW=>
some (aW.1,aW.2.1,aW.2.2.1,aW.2.2.2,cP,aE,true)
def jM(n:Nat):CT:=cV (tC n [] [tO n] []) ⟨79,[],(.cons (.box 168 (.st (.part 1 (.box 94 (.st (.part 952 (.v (.st 15)) (.part 1 (.box 126 (.v (.st 21))) (.part 320 (.v (.st 17)) (.part 1 (.row 3 1 (.int .i64)) .nil)))))) (.part 12 (.v (.st 23)) (.part 3 (.v (.st 19)) (.part 1 (.v .bool) .nil)))))) (.cons (.v (.st 19)) .nil)),(.cons (.gS .nil) (.cons (.box 168 (.st (.part 1 (.box 94 (.st (.part 952 (.v (.st 15)) (.part 1 (.box 126 (.v (.st 21))) (.part 320 (.v (.st 17)) (.part 1 (.row 3 1 (.int .i64)) .nil)))))) (.part 12 (.v (.st 23)) (.part 3 (.v (.st 19)) (.part 1 (.v .bool) .nil)))))) .nil)),[some 0,some 1,some 2,none], .nil,[],[[0]]⟩ (λx=>gi n x.1 x.2.1 x.2.2.1 x.2.2.2.1 x.2.2.2.2.1 x.2.2.2.2.2.1 x.2.2.2.2.2.2.1 x.2.2.2.2.2.2.2.1) (λy=>(y.1,y.2.1,y.2.2.1,y.2.2.2.1,y.2.2.2.2.1,y.2.2.2.2.2.1,y.2.2.2.2.2.2.1)) (λz=>(z.1,(z.2.1,(z.2.2.1,(z.2.2.2.1,(z.2.2.2.2.1,(z.2.2.2.2.2.1,(z.2.2.2.2.2.2,()))))))))
def iB(n:Nat)(a0:ak)(a1:Int):Option (List Int):=
bd (aJ n a0.dg.T.bN.iX a1) λaE=>
cn ((!aE)) (
some ([])) (
some ([a1]))
def IV(n:Nat):CT:=cV (tC n [] [aP n] []) ⟨98,[],(.cons (.v (.st 15)) (.cons (.v (.int .u32)) .nil)),(.cons (.row 25 1 (.int .u32)) .nil),[none], .nil,[],[]⟩ (λx=>iB n x.1 x.2.1) (λy=>(y.1)) (λz=>(z,()))
def fD(n:Nat)(a0:ay)(a1:Int):Option (List Int):=
bd (aJ n a0.bN.iX a1) λaE=>
cn ((!aE)) (
some ([])) (
bd (mO n a0 a1) λaW=>
bd (ji n aW.1 aW.2) λdQ=>
yc (λ(e25:Int) k24 (bU:(List Int))=>
gu (gR bU.length [e25].length 4)<|
lt (bU++[e25]:List Int) λdy=>
k24 dy) (λ(bU:(List Int))=>
some (bU)) dQ [])
def AB(n:Nat):CT:=cV (tC n [(150050000005, .loop [(.via 2, .box 45 (.row 25 1 (.int .u32)))])] [aP n,lZ n] [jF n]) ⟨100,[],(.cons (.v (.st 6)) (.cons (.v (.int .u32)) .nil)),(.cons (.row 25 1 (.int .u32)) .nil),[none], .nil,[],[]⟩ (λx=>fD n x.1 x.2.1) (λy=>(y.1)) (λz=>(z,()))
def oV(n:Nat)(a0:(List Int))(a1:Int):Option (Int×(List Int)):=
gL (λk22 (aE:Int)=>
cn (decide (aE<(a0.length:Int))) (
gu (cF aE a0.length)<|
cn ((a1==(a0.getD (Int.toNat aE) default))) (
some (aE,a0)) (
k22 (wr .i64 (aE+1)))) (
some ((-1),a0))) n 0
def uy(n:Nat):CT:=cV (tC n [(5, .loop [(.slot 8, .v (.int .i64))])] [] []) ⟨122,[],(.cons (.row 25 1 (.int .u32)) (.cons (.v (.int .u32)) .nil)),(.cons (.v (.int .i64)) (.cons (.row 25 1 (.int .u32)) .nil)),[some 0], .nil,[],[[0]]⟩ (λx=>oV n x.1 x.2.1) (λy=>(y.1,y.2.1)) (λz=>(z.1,(z.2,())))
def mw(n:Nat)(a0:(List Int))(a1:Int):Option (Bool×(List Int)):=
bd (oV n a0 a1) λaE=>
some (decide (0<=aE.1),aE.2)
def rB(n:Nat):CT:=cV (tC n [] [uy n] []) ⟨102,[],(.cons (.row 25 1 (.int .u32)) (.cons (.v (.int .u32)) .nil)),(.cons (.v .bool) (.cons (.row 25 1 (.int .u32)) .nil)),[some 0], .nil,[],[[0]]⟩ (λx=>mw n x.1 x.2.1) (λy=>(y.1,y.2.1)) (λz=>(z.1,(z.2,())))
def zv(n:Nat)(a0:ak)(a1:ai):Option (List Int):=
cn (a1.Do==1) (
bd (iB n a0 a1.R) λsG=>
some (sG)) (
cn (a1.Do==2) (
bd (iB n a0 a1.R) λiF=>
some (iF)) (
cn (a1.Do==3) (
bd (iB n a0 a1.R) λnO=>
some (nO)) (
cn (a1.Do==4) (
bd (iB n a0 a1.R) λnP=>
some (nP)) (
cn (a1.Do==5) (
bd (iB n a0 a1.R) λry=>
some (ry)) (
cn (a1.Do==10) (
bd (iB n a0 a1.R) λfO=>
some (fO)) (
cn (a1.Do==12) (
bd (iB n a0 a1.R) λmX=>
some (mX)) (
cn (a1.Do==18) (
bd (iB n a0 a1.R) λgF=>
some (gF)) (
cn (a1.Do==19) (
bd (iB n a0 a1.R) λcQ=>
some (cQ)) (
cn (a1.Do==6) (
bd (fD n a0.dg.T a1.R) λfG=>
some (fG)) (
cn (a1.Do==7) (
bd (fD n a0.dg.T a1.R) λeI=>
some (eI)) (
cn (a1.Do==9) (
bd (fD n a0.dg.T a1.R) λcU=>
some (cU)) (
cn (a1.Do==11) (
bd (fD n a0.dg.T a1.R) λcW=>
some (cW)) (
cn (a1.Do==8) (
bd (fD n a0.dg.T a1.R) λdQ=>
cl ((((dQ.length:Int)==0)==false)) (aJ n a0.dg.T.bN.iX a1.S) default λcY=>
cn ((((dQ.length:Int)==0)||(!cY))) (
some ([])) (
bd (mw n dQ a1.S) λdy=>
cn (dy.1) (
some (dy.2)) (
gu (gR dy.2.length [a1.S].length 4)<|
lt (dy.2++[a1.S]:List Int) λfq=>
some (fq)))) (
cn (a1.Do==13) (
bd (bZ n a0.dg.K a1.S) λbU=>
lt (bU.1:bp) λcz=>
cn ((bU.2!=0)) (
some ([])) (
bd (iB n a0 cz.Region) λdO=>
some (dO))) (
cn (a1.Do==14) (
cn ((a1.B==1)) (
bd (iB n a0 a1.R) λaE=>
some (aE)) (
bd (fD n a0.dg.T a1.R) λaW=>
some (aW))) (
some ([])))))))))))))))))
def Dg(n:Nat):CT:=cV (tC n [] [IV n,AB n,di n,aP n,rB n] []) ⟨80,[],(.cons (.v (.st 15)) (.cons (.v (.st 20)) .nil)),(.cons (.v (.sl (.int .u32))) .nil),[], .nil,[],[]⟩ (λx=>zv n x.1 x.2.1) (λy=>(y.1)) (λz=>(z,()))
def qw(n:Nat)(da:ak)(dA:au)(dM:aq)(dL:(List Int))(cP:aN)(cN:ah)(tq:Bool):Option (Bool×ak×au×aq×(List Int)×aN×ah×Bool):=
cn (cP.Checked) (
some (false,da,dA,dM,dL,cP,cN,tq)) (
bd (xZ n da cP.nc cP.C) λaE=>
cn (aE) (
some (true,da,dA,dM,dL,cP,cN,tq)) (
bd (ya n da cP.nc cP.C) λaW=>
cn ((aW !=0)) (
bd (gi n da dA dM dL cP cN tq ({aU with E:=aW}:ah)) λbU=>
some (true,bU.1,bU.2.1,bU.2.2.1,bU.2.2.2.1,bU.2.2.2.2.1,bU.2.2.2.2.2.1,bU.2.2.2.2.2.2)) (
bd (zv n da cP.C) λcz=>
lt (({cP with Checked:=true}:aN):aN) λdO=>
lt (({dO with iv:=cz}:aN):aN) λdQ=>
some (true,da,dA,dM,dL,dQ,cN,tq))))
def u6(n:Nat):CT:=cV (tC n [] [y8 n,y9 n,jM n,Dg n] []) ⟨66,[],(.cons (.box 168 (.st (.part 1 (.box 94 (.st (.part 952 (.v (.st 15)) (.part 1 (.box 126 (.v (.st 21))) (.part 320 (.v (.st 17)) (.part 1 (.row 3 1 (.int .i64)) .nil)))))) (.part 12 (.v (.st 23)) (.part 3 (.v (.st 19)) (.part 1 (.v .bool) .nil)))))) .nil),(.cons (.v .bool) (.cons (.box 168 (.st (.part 1 (.box 94 (.st (.part 952 (.v (.st 15)) (.part 1 (.box 126 (.v (.st 21))) (.part 320 (.v (.st 17)) (.part 1 (.row 3 1 (.int .i64)) .nil)))))) (.part 12 (.v (.st 23)) (.part 3 (.v (.st 19)) (.part 1 (.v .bool) .nil)))))) .nil)),[some 0,some 1,some 2,none], .nil,[],[[0]]⟩ (λx=>qw n x.1 x.2.1 x.2.2.1 x.2.2.2.1 x.2.2.2.2.1 x.2.2.2.2.2.1 x.2.2.2.2.2.2.1) (λy=>(y.1,y.2.1,y.2.2.1,y.2.2.2.1,y.2.2.2.2.1,y.2.2.2.2.2.1,y.2.2.2.2.2.2.1,y.2.2.2.2.2.2.2.1)) (λz=>(z.1,(z.2.1,(z.2.2.1,(z.2.2.2.1,(z.2.2.2.2.1,(z.2.2.2.2.2.1,(z.2.2.2.2.2.2.1,(z.2.2.2.2.2.2.2,())))))))))
def vC(n:Nat)(a0:aq)(a1:Int)(a2:Int):Option (aq×Bool):=
bd (zD n a1 a2) λaE=>
cn ((!aE)) (
lt (a0:aq) λaW=>
some (aW,false)) (
gu (cF a1 32)<|
lt (λ(bU:aq) (cz:aq)=>
lt (cz:aq) λdQ=>
some (dQ,false)) λj25=>
bd (oC n (a0.bD (Int.toNat a1)) a2) λcY=>
cn (((wr .i64 ((a0.bD (Int.toNat a1)).Q8))==(wr .i64 (a2+1)))) (
lt (a0:aq) λdy=>
some (dy,true)) (
cn (((((a0.bD (Int.toNat a1)).Q8)==0)&&((((a0.bD (Int.toNat a1)).n)==0)||(cY==0)))) (
bd (mL n (a0.bD (Int.toNat a1)) a2) λfq=>
lt (({a0 with bD:=(mZ a0.bD (Int.toNat a1) fq)}:aq):aq) λcW=>
lt (({cW with bD:=(mZ cW.bD (Int.toNat a1) ({(cW.bD (Int.toNat a1))with Q8:=wr .u8 (wr .i64 (a2+1))}:bP))}:aq):aq) λcU=>
lt (cU:aq) λeI=>
some (eI,true)) (
cn (decide (cY<0)) (
gu (cF ((a0.bD (Int.toNat a1)).n) 8)<|
lt (({a0 with bD:=(mZ a0.bD (Int.toNat a1) ({(a0.bD (Int.toNat a1))with B5:=(mZ ((a0.bD (Int.toNat a1)).B5) (Int.toNat ((a0.bD (Int.toNat a1)).n)) (wr .u8 a2))}:bP))}:aq):aq) λfG=>
lt (({fG with bD:=(mZ fG.bD (Int.toNat a1) ({(fG.bD (Int.toNat a1))with n:=wr .i64 (((fG.bD (Int.toNat a1)).n)+1)}:bP))}:aq):aq) λcQ=>
j25 bW cQ) (
j25 bW a0))))
def AJ(n:Nat):CT:=cV (tC n [(28, .join [(.via 6, .box 91 (.v (.st 17))),(.via 3, .box 91 (.v (.st 17)))] [])] [xS n,qO n,oR n] []) ⟨81,[],(.cons (.v (.st 17)) (.cons (.v (.int .i64)) (.cons (.v (.int .i64)) .nil))),(.cons (.gS (.cons (.v (.st 17)) (.cons (.v .bool) .nil))) .nil),[], .nil,[],[]⟩ (λx=>vC n x.1 x.2.1 x.2.2.1) (λy=>(y.1,y.2.1)) (λz=>(z.1,(z.2,())))
def qv(n:Nat)(da:ak)(dA:au)(dM:aq)(dL:(List Int))(cP:aN)(cN:ah)(tq:Bool):Option (Bool×ak×au×aq×(List Int)×aN×ah×Bool):=
cn (((cP.iv.length:Int)==0)) (
some (false,da,dA,dM,dL,cP,cN,tq)) (
gu (cF 0 cP.iv.length)<|
bd (bx n (cP.iv.getD (Int.toNat 0) default)) λaE=>
bd (vC n dM aE.1 cP.nc) λaW=>
lt (aW.1:aq) λbU=>
lt (bU:aq) λcz=>
lt (λ(dO:ak) (dQ:au) (cY:aq) (dy:(List Int)) (fq:aN) (cW:ah) (cU:Bool)=>
some (true,dO,dQ,cY,dy,fq,cW,cU)) λQ4=>
cn (aW.2) (
gu (cF 1 (cP.iv.length+1))<|
lt (({cP with iv:=cP.iv.drop (Int.toNat 1)}:aN):aN) λfG=>
Q4 da dA cz dL fG cN tq) (
Q4 da dA cz dL cP cN tq))
def uZ(n:Nat):CT:=cV (tC n [(16, .join [(.via 0, .box 168 (.st (.part 1 (.box 94 (.st (.part 952 (.v (.st 15)) (.part 1 (.box 126 (.v (.st 21))) (.part 320 (.v (.st 17)) (.part 1 (.row 3 1 (.int .i64)) .nil)))))) (.part 12 (.v (.st 23)) (.part 3 (.v (.st 19)) (.part 1 (.v .bool) .nil))))))] [])] [bB n,AJ n] []) ⟨67,[],(.cons (.box 168 (.st (.part 1 (.box 94 (.st (.part 952 (.v (.st 15)) (.part 1 (.box 126 (.v (.st 21))) (.part 320 (.v (.st 17)) (.part 1 (.row 3 1 (.int .i64)) .nil)))))) (.part 12 (.v (.st 23)) (.part 3 (.v (.st 19)) (.part 1 (.v .bool) .nil)))))) .nil),(.cons (.v .bool) (.cons (.box 168 (.st (.part 1 (.box 94 (.st (.part 952 (.v (.st 15)) (.part 1 (.box 126 (.v (.st 21))) (.part 320 (.v (.st 17)) (.part 1 (.row 3 1 (.int .i64)) .nil)))))) (.part 12 (.v (.st 23)) (.part 3 (.v (.st 19)) (.part 1 (.v .bool) .nil)))))) .nil)),[some 0,some 1,some 2,none], .nil,[],[[0]]⟩ (λx=>qv n x.1 x.2.1 x.2.2.1 x.2.2.2.1 x.2.2.2.2.1 x.2.2.2.2.2.1 x.2.2.2.2.2.2.1) (λy=>(y.1,y.2.1,y.2.2.1,y.2.2.2.1,y.2.2.2.2.1,y.2.2.2.2.2.1,y.2.2.2.2.2.2.1,y.2.2.2.2.2.2.2.1)) (λz=>(z.1,(z.2.1,(z.2.2.1,(z.2.2.2.1,(z.2.2.2.2.1,(z.2.2.2.2.2.1,(z.2.2.2.2.2.2.1,(z.2.2.2.2.2.2.2,())))))))))
def tY(n:Nat)(a0:au)(a1:Int):Option (Int×Int×au):=
cn (decide (a1<1)) (
some (0,2,a0)) (
bd (vn n a0.pe a1) λaE=>
cn ((!aE.2)) (
some (0,6,a0)) (
bd (mh n a0.pe aE.1 a1) λaW=>
lt (({a0 with pe:=aW.1}:au):au) λbU=>
some (aE.1,0,bU)))
def y7(n:Nat):CT:=cV (tC n [] [AA n,Az n] []) ⟨82,[],(.cons (.box 126 (.v (.st 21))) (.cons (.v (.int .i64)) .nil)),(.cons (.gS (.cons (.v (.int .i64)) (.cons (.v (.int .i64)) .nil))) (.cons (.box 126 (.v (.st 21))) .nil)),[some 0], .nil,[],[[0]]⟩ (λx=>tY n x.1 x.2.1) (λy=>(y.1,y.2.1,y.2.2.1)) (λz=>(z.1,(z.2.1,(z.2.2,()))))
def oY(n:Nat)(da:ak)(dA:au)(dM:aq)(dL:(List Int))(cP:aN)(cN:ah)(tq:Bool):Option (Bool×ak×au×aq×(List Int)×aN×ah×Bool):=
bd (eM n da cP.nc cP.C) λaE=>
cn (((aE==0)||(decide (0<cP.Iu.N)))) (
some (false,da,dA,dM,dL,cP,cN,tq)) (
bd (tY n dA aE) λaW=>
cn ((aW.2.1!=0)) (
bd (gi n da aW.2.2 dM dL cP cN tq ({aU with E:=aW.2.1}:ah)) λbU=>
some (true,bU.1,bU.2.1,bU.2.2.1,bU.2.2.2.1,bU.2.2.2.2.1,bU.2.2.2.2.2.1,bU.2.2.2.2.2.2)) (
lt (({cP with Iu:=({At:=aW.1,N:=aE}:av)}:aN):aN) λcz=>
some (true,da,aW.2.2,dM,dL,cz,cN,tq)))
def uB(n:Nat):CT:=cV (tC n [] [jL n,y7 n,jM n] []) ⟨68,[],(.cons (.box 168 (.st (.part 1 (.box 94 (.st (.part 952 (.v (.st 15)) (.part 1 (.box 126 (.v (.st 21))) (.part 320 (.v (.st 17)) (.part 1 (.row 3 1 (.int .i64)) .nil)))))) (.part 12 (.v (.st 23)) (.part 3 (.v (.st 19)) (.part 1 (.v .bool) .nil)))))) .nil),(.cons (.v .bool) (.cons (.box 168 (.st (.part 1 (.box 94 (.st (.part 952 (.v (.st 15)) (.part 1 (.box 126 (.v (.st 21))) (.part 320 (.v (.st 17)) (.part 1 (.row 3 1 (.int .i64)) .nil)))))) (.part 12 (.v (.st 23)) (.part 3 (.v (.st 19)) (.part 1 (.v .bool) .nil)))))) .nil)),[some 0,some 1,some 2,none], .nil,[],[[0]]⟩ (λx=>oY n x.1 x.2.1 x.2.2.1 x.2.2.2.1 x.2.2.2.2.1 x.2.2.2.2.2.1 x.2.2.2.2.2.2.1) (λy=>(y.1,y.2.1,y.2.2.1,y.2.2.2.1,y.2.2.2.2.1,y.2.2.2.2.2.1,y.2.2.2.2.2.2.1,y.2.2.2.2.2.2.2.1)) (λz=>(z.1,(z.2.1,(z.2.2.1,(z.2.2.2.1,(z.2.2.2.2.1,(z.2.2.2.2.2.1,(z.2.2.2.2.2.2.1,(z.2.2.2.2.2.2.2,())))))))))
def tV(n:Nat)(a0:au)(a1:Int):Option (Int×au):=
cn (((decide (a1<0))||(decide (a0.n<=a1)))) (
some (2,a0)) (
bd (jW n a0.pe a1) λaE=>
cn (aE) (
some (12,a0)) (
gu (cF a1 64)<|
lt (({a0 with bytes:=(mZ a0.bytes (Int.toNat a1) (λ_ =>0))}:au):au) λaW=>
some (0,aW)))
def y6(n:Nat):CT:=cV (tC n [] [ku n] []) ⟨83,[],(.cons (.box 126 (.v (.st 21))) (.cons (.v (.int .i64)) .nil)),(.cons (.v (.int .i64)) (.cons (.box 126 (.v (.st 21))) .nil)),[some 0], .nil,[],[[0]]⟩ (λx=>tV n x.1 x.2.1) (λy=>(y.1,y.2.1)) (λz=>(z.1,(z.2,())))
def oX(n:Nat)(da:ak)(dA:au)(dM:aq)(dL:(List Int))(cP:aN)(cN:ah)(tq:Bool):Option (Bool×ak×au×aq×(List Int)×aN×ah×Bool):=
cn (decide (cP.Iu.N<=cP.pF)) (
some (false,da,dA,dM,dL,cP,cN,tq)) (
bd (tV n dA (wr .i64 (cP.Iu.At+cP.pF))) λaE=>
lt (({cP with pF:=wr .i64 (cP.pF+1)}:aN):aN) λaW=>
some (true,da,aE.2,dM,dL,aW,cN,tq))
def uA(n:Nat):CT:=cV (tC n [] [y6 n] []) ⟨69,[],(.cons (.box 168 (.st (.part 1 (.box 94 (.st (.part 952 (.v (.st 15)) (.part 1 (.box 126 (.v (.st 21))) (.part 320 (.v (.st 17)) (.part 1 (.row 3 1 (.int .i64)) .nil)))))) (.part 12 (.v (.st 23)) (.part 3 (.v (.st 19)) (.part 1 (.v .bool) .nil)))))) .nil),(.cons (.v .bool) (.cons (.box 168 (.st (.part 1 (.box 94 (.st (.part 952 (.v (.st 15)) (.part 1 (.box 126 (.v (.st 21))) (.part 320 (.v (.st 17)) (.part 1 (.row 3 1 (.int .i64)) .nil)))))) (.part 12 (.v (.st 23)) (.part 3 (.v (.st 19)) (.part 1 (.v .bool) .nil)))))) .nil)),[some 0,some 1,some 2,some 3], .nil,[],[[0]]⟩ (λx=>oX n x.1 x.2.1 x.2.2.1 x.2.2.2.1 x.2.2.2.2.1 x.2.2.2.2.2.1 x.2.2.2.2.2.2.1) (λy=>(y.1,y.2.1,y.2.2.1,y.2.2.2.1,y.2.2.2.2.1,y.2.2.2.2.2.1,y.2.2.2.2.2.2.1,y.2.2.2.2.2.2.2.1)) (λz=>(z.1,(z.2.1,(z.2.2.1,(z.2.2.2.1,(z.2.2.2.2.1,(z.2.2.2.2.2.1,(z.2.2.2.2.2.2.1,(z.2.2.2.2.2.2.2,())))))))))
def tU(n:Nat)(a0:au)(a1:Int)(a2:Int):Option (Int×au):=
cn (decide (a1<0)) (
some (2,a0)) (
cn (((decide ((wr .i64 (Int.tdiv a1 32))<0))||(decide (a0.n<=(wr .i64 (Int.tdiv a1 32)))))) (
some (2,a0)) (
bd (jW n a0.pe (wr .i64 (Int.tdiv a1 32))) λaE=>
cn (aE) (
some (12,a0)) (
gu (cF (wr .i64 (Int.tdiv a1 32)) 64)<|
gu (cF (Int.tmod a1 32) 32)<|
lt (({a0 with bytes:=(mZ a0.bytes (Int.toNat (wr .i64 (Int.tdiv a1 32))) (mZ (a0.bytes (Int.toNat (wr .i64 (Int.tdiv a1 32)))) (Int.toNat (Int.tmod a1 32)) a2))}:au):au) λaW=>
some (0,aW))))
def y5(n:Nat):CT:=cV (tC n [] [ku n] []) ⟨87,[],(.cons (.box 126 (.v (.st 21))) (.cons (.v (.int .i64)) (.cons (.v (.int .u8)) .nil))),(.cons (.v (.int .i64)) (.cons (.box 126 (.v (.st 21))) .nil)),[some 0], .nil,[],[[0]]⟩ (λx=>tU n x.1 x.2.1 x.2.2.1) (λy=>(y.1,y.2.1)) (λz=>(z.1,(z.2,())))
def vr(n:Nat)(a0:au)(a1:Int):Option (Int×Int):=
cn (decide (a1<0)) (
lt (0:Int) λaE=>
some (aE,2)) (
cn (((decide ((wr .i64 (Int.tdiv a1 32))<0))||(decide (a0.n<=(wr .i64 (Int.tdiv a1 32)))))) (
lt (0:Int) λaW=>
some (aW,2)) (
bd (jW n a0.pe (wr .i64 (Int.tdiv a1 32))) λbU=>
cn (bU) (
lt (0:Int) λcz=>
some (cz,12)) (
gu (cF (wr .i64 (Int.tdiv a1 32)) 64)<|
gu (cF (Int.tmod a1 32) 32)<|
lt (((a0.bytes (Int.toNat (wr .i64 (Int.tdiv a1 32)))) (Int.toNat (Int.tmod a1 32))):Int) λdO=>
lt (dO:Int) λdQ=>
some (dQ,0))))
def AE(n:Nat):CT:=cV (tC n [] [ku n] []) ⟨89,[(126, .v (.st 21))],(.cons (.bF 0) (.cons (.v (.int .i64)) .nil)),(.cons (.gS (.cons (.v (.int .u8)) (.cons (.v (.int .i64)) .nil))) .nil),[], .nil,[],[]⟩ (λx=>vr n x.1 x.2.1) (λy=>(y.1,y.2.1)) (λz=>(z.1,(z.2,())))
def oa(n:Nat)(da:ak)(dA:au)(dM:aq)(dL:(List Int))(cP:aN)(cN:ah)(tq:Bool):Option (Bool×ak×au×aq×(List Int)×aN×ah×Bool):=
lt (cP.C:ai) λaE=>
lt (λ(aW:ak) (bU:au) (cz:aq) (dO:(List Int)) (dQ:aN) (cY:ah) (dy:Bool)=>
bd (qY n aW aE) λcW=>
bd (mK n aW dQ.nc aE dQ.Iu) λcU=>
lt (cU.1:ak) λeI=>
lt (cU.2.1:ah) λfG=>
cn ((fG.E !=0)) (
bd (gi n aW bU cz dO dQ cY dy fG) λcQ=>
some (true,cQ.1,cQ.2.1,cQ.2.2.1,cQ.2.2.2.1,cQ.2.2.2.2.1,cQ.2.2.2.2.2.1,cQ.2.2.2.2.2.2)) (
lt (λ(gF:ak) (mX:au) (fO:aq) (ry:(List Int)) (nP:aN) (nO:ah) (iF:Bool) (sG:ah)=>
lt (eI:ak) λAm=>
lt (({nP with Iu:=cy}:aN):aN) λKk=>
DE (λk51 (G6:Int) (TW:ak) (G5:au) (ID:aq) (xL:(List Int))=>
cn (decide (G6<(cU.2.2.length:Int))) (
gu (cF G6 cU.2.2.length)<|
lt ((cU.2.2.getD (Int.toNat G6) default):av) λCN=>
bd (kE n TW G5 ID xL CN) λEG=>
k51 (wr .i64 (G6+1)) EG.1 EG.2.1 EG.2.2.1 EG.2.2.2) (
bd (gi n TW G5 ID xL Kk nO iF sG) λxK=>
some (true,xK.1,xK.2.1,xK.2.2.1,xK.2.2.2.1,xK.2.2.2.2.1,xK.2.2.2.2.2.1,xK.2.2.2.2.2.2))) n 0 Am mX fO ry) λj43=>
cn ((aE.Do==4)) (
DD (λk63 (sK:Int) (wD:ak) (G4:au) (IC:aq) (Ai:(List Int)) (IB:aN) (YT:ah) (UQ:Bool)=>
cn (decide (sK<(cW.1.length:Int))) (
gu (cF sK cW.1.length)<|
gu (decide (0<=wr .i64 (8*sK)))<|
bd (tU n G4 (cW.1.getD (Int.toNat sK) default) (wr .u8 (I6 .u64 aE.V (wr .i64 (8*sK))))) λUP=>
k63 (wr .i64 (sK+1)) wD UP.2 IC Ai IB YT UQ) (
j43 wD G4 IC Ai IB YT UQ fG)) n 0 aW bU cz dO dQ cY dy) (
cn ((aE.Do==3)) (
dH (λk67 (Ri:Int) (UO:ah)=>
cn (decide (Ri<(cW.1.length:Int))) (
gu (cF Ri cW.1.length)<|
bd (vr n bU (cW.1.getD (Int.toNat Ri) default)) λFU=>
gu (decide (0<=wr .i64 (8*Ri)))<|
lt (({UO with V:=orI .u64 UO.V (Ol .u64 (wr .u64 FU.1) (wr .i64 (8*Ri)))}:ah):ah) λRh=>
k67 (wr .i64 (Ri+1)) Rh) (
j43 aW bU cz dO dQ cY dy UO)) n 0 fG) (
j43 aW bU cz dO dQ cY dy fG)))) λj29=>
cl ((decide (0<cP.Iu.N)==true)) (eM n da cP.nc aE) default λx70=>
cn (((decide (0<cP.Iu.N))&&(x70 !=cP.Iu.N))) (
bd (kE n da dA dM dL cP.Iu) λYS=>
lt (({cP with Iu:=cy}:aN):aN) λYR=>
j29 YS.1 YS.2.1 YS.2.2.1 YS.2.2.2 YR cN tq) (
j29 da dA dM dL cP cN tq)
def sS(n:Nat):CT:=cV (tC n [(10, .join [(.via 0, .box 168 (.st (.part 1 (.box 94 (.st (.part 952 (.v (.st 15)) (.part 1 (.box 126 (.v (.st 21))) (.part 320 (.v (.st 17)) (.part 1 (.row 3 1 (.int .i64)) .nil)))))) (.part 12 (.v (.st 23)) (.part 3 (.v (.st 19)) (.part 1 (.v .bool) .nil))))))] []),(30, .join [(.via 65, .box 94 (.st (.part 952 (.v (.st 15)) (.part 1 (.box 126 (.v (.st 21))) (.part 320 (.v (.st 17)) (.part 1 (.row 3 1 (.int .i64)) .nil)))))),(.via 0, .box 168 (.st (.part 1 (.bF 0) (.part 12 (.v (.st 23)) (.part 3 (.v (.st 19)) (.part 1 (.v .bool) .nil)))))),(.via 7, .box 104 (.v (.st 19)))] []),(35, .loop [(.slot 130, .v (.int .i64)),(.via 65, .box 94 (.st (.part 952 (.v (.st 15)) (.part 1 (.box 126 (.v (.st 21))) (.part 320 (.v (.st 17)) (.part 1 (.row 3 1 (.int .i64)) .nil))))))]),(1100000003, .loop [(.slot 10, .v (.int .i64)),(.via 0, .box 168 (.st (.part 1 (.box 94 (.st (.part 952 (.v (.st 15)) (.part 1 (.box 126 (.v (.st 21))) (.part 320 (.v (.st 17)) (.part 1 (.row 3 1 (.int .i64)) .nil)))))) (.part 12 (.v (.st 23)) (.part 3 (.v (.st 19)) (.part 1 (.v .bool) .nil))))))]),(1160000003, .loop [(.slot 10, .v (.int .i64)),(.cap 2 1, .box 104 (.v (.st 19)))])] [wS n,rV n,jM n,qP n,y5 n,AE n,jL n] []) ⟨70,[],(.cons (.box 168 (.st (.part 1 (.box 94 (.st (.part 952 (.v (.st 15)) (.part 1 (.box 126 (.v (.st 21))) (.part 320 (.v (.st 17)) (.part 1 (.row 3 1 (.int .i64)) .nil)))))) (.part 12 (.v (.st 23)) (.part 3 (.v (.st 19)) (.part 1 (.v .bool) .nil)))))) .nil),(.cons (.v .bool) (.cons (.box 168 (.st (.part 1 (.box 94 (.st (.part 952 (.v (.st 15)) (.part 1 (.box 126 (.v (.st 21))) (.part 320 (.v (.st 17)) (.part 1 (.row 3 1 (.int .i64)) .nil)))))) (.part 12 (.v (.st 23)) (.part 3 (.v (.st 19)) (.part 1 (.v .bool) .nil)))))) .nil)),[some 0,some 1,some 2,none], .nil,[],[[0]]⟩ (λx=>oa n x.1 x.2.1 x.2.2.1 x.2.2.2.1 x.2.2.2.2.1 x.2.2.2.2.2.1 x.2.2.2.2.2.2.1) (λy=>(y.1,y.2.1,y.2.2.1,y.2.2.2.1,y.2.2.2.2.1,y.2.2.2.2.2.1,y.2.2.2.2.2.2.1,y.2.2.2.2.2.2.2.1)) (λz=>(z.1,(z.2.1,(z.2.2.1,(z.2.2.2.1,(z.2.2.2.2.1,(z.2.2.2.2.2.1,(z.2.2.2.2.2.2.1,(z.2.2.2.2.2.2.2,())))))))))
def vR(n:Nat)(da:ak)(dA:au)(dM:aq)(dL:(List Int))(a1:aN):Option (aN×ah×Bool×ak×au×aq×(List Int)):=
lt (λ(aE:ak) (aW:au) (bU:aq) (cz:(List Int)) (dO:aN) (dQ:ah) (cY:Bool)=>
lt (dO:aN) λfq=>
lt (dQ:ah) λcW=>
some (fq,cW,cY,aE,aW,bU,cz)) λX7=>
bd (qw n da dA dM dL a1 aU false) λcU=>
cn (cU.1) (
X7 cU.2.1 cU.2.2.1 cU.2.2.2.1 cU.2.2.2.2.1 cU.2.2.2.2.2.1 cU.2.2.2.2.2.2.1 cU.2.2.2.2.2.2.2) (
bd (qv n cU.2.1 cU.2.2.1 cU.2.2.2.1 cU.2.2.2.2.1 cU.2.2.2.2.2.1 cU.2.2.2.2.2.2.1 cU.2.2.2.2.2.2.2) λeI=>
cn (eI.1) (
X7 eI.2.1 eI.2.2.1 eI.2.2.2.1 eI.2.2.2.2.1 eI.2.2.2.2.2.1 eI.2.2.2.2.2.2.1 eI.2.2.2.2.2.2.2) (
bd (oY n eI.2.1 eI.2.2.1 eI.2.2.2.1 eI.2.2.2.2.1 eI.2.2.2.2.2.1 eI.2.2.2.2.2.2.1 eI.2.2.2.2.2.2.2) λfG=>
cn (fG.1) (
X7 fG.2.1 fG.2.2.1 fG.2.2.2.1 fG.2.2.2.2.1 fG.2.2.2.2.2.1 fG.2.2.2.2.2.2.1 fG.2.2.2.2.2.2.2) (
bd (oX n fG.2.1 fG.2.2.1 fG.2.2.2.1 fG.2.2.2.2.1 fG.2.2.2.2.2.1 fG.2.2.2.2.2.2.1 fG.2.2.2.2.2.2.2) λcQ=>
cn (cQ.1) (
X7 cQ.2.1 cQ.2.2.1 cQ.2.2.2.1 cQ.2.2.2.2.1 cQ.2.2.2.2.2.1 cQ.2.2.2.2.2.2.1 cQ.2.2.2.2.2.2.2) (
bd (oa n cQ.2.1 cQ.2.2.1 cQ.2.2.2.1 cQ.2.2.2.2.1 cQ.2.2.2.2.2.1 cQ.2.2.2.2.2.2.1 cQ.2.2.2.2.2.2.2) λgF=>
cn (gF.1) (
X7 gF.2.1 gF.2.2.1 gF.2.2.2.1 gF.2.2.2.2.1 gF.2.2.2.2.2.1 gF.2.2.2.2.2.2.1 gF.2.2.2.2.2.2.2) (
X7 gF.2.1 gF.2.2.1 gF.2.2.2.1 gF.2.2.2.2.1 gF.2.2.2.2.2.1 gF.2.2.2.2.2.2.1 gF.2.2.2.2.2.2.2)))))
def AP(n:Nat):CT:=cV (tC n [(14, .join [(.via 7, .box 168 (.st (.part 1 (.box 94 (.st (.part 952 (.v (.st 15)) (.part 1 (.box 126 (.v (.st 21))) (.part 320 (.v (.st 17)) (.part 1 (.row 3 1 (.int .i64)) .nil)))))) (.part 12 (.v (.st 23)) (.part 3 (.v (.st 19)) (.part 1 (.v .bool) .nil))))))] []),(7, .Ds)] [u6 n,uZ n,uB n,uA n,sS n] []) ⟨54,[],(.cons (.box 94 (.st (.part 952 (.v (.st 15)) (.part 1 (.box 126 (.v (.st 21))) (.part 320 (.v (.st 17)) (.part 1 (.row 3 1 (.int .i64)) .nil)))))) (.cons (.v (.st 23)) .nil)),(.cons (.gS (.cons (.v (.st 23)) (.cons (.v (.st 19)) (.cons (.v .bool) .nil)))) (.cons (.box 94 (.st (.part 952 (.v (.st 15)) (.part 1 (.box 126 (.v (.st 21))) (.part 320 (.v (.st 17)) (.part 1 (.row 3 1 (.int .i64)) .nil)))))) .nil)),[some 0,some 1,none], .nil,[],[[0]]⟩ (λx=>vR n x.1 x.2.1 x.2.2.1 x.2.2.2.1 x.2.2.2.2.1) (λy=>(y.1,y.2.1,y.2.2.1,y.2.2.2.1,y.2.2.2.2.1,y.2.2.2.2.2.1,y.2.2.2.2.2.2.1)) (λz=>(z.1,(z.2.1,(z.2.2.1,(z.2.2.2.1,(z.2.2.2.2.1,(z.2.2.2.2.2.1,(z.2.2.2.2.2.2,()))))))))
def s7(n:Nat)(da:ak)(dA:au)(dM:aq)(dL:(List Int))(cP:Int)(a1:ai):Option (ah×ak×au×aq×(List Int)×Int):=
lt (({({gW with nc:=cP}:aN)with C:=a1}:aN):aN) λaE=>
Fu (λVR (aW:ah) (bU:ak) (cz:au) (dO:aq) (dQ:(List Int)) (cY:Int) (dy:aN)=>
cl (((!dy.Checked)==true)) (xZ n bU cY a1) default λcW=>
cn (((!dy.Checked)&&cW)) (
cn ((a1.Do==15)) (
lt (({aU with E:=10}:ah):ah) λcU=>
some (cU,bU,cz,dO,dQ,cY)) (
lt (({aU with E:=12}:ah):ah) λeI=>
some (eI,bU,cz,dO,dQ,cY))) (
bd (vR n bU cz dO dQ dy) λfG=>
lt (fG.1:aN) λcQ=>
lt (fG.2.1:ah) λgF=>
cn (fG.2.2.1) (
lt (gF:ah) λmX=>
some (mX,fG.2.2.2.1,fG.2.2.2.2.1,fG.2.2.2.2.2.1,fG.2.2.2.2.2.2,cY)) (
cn (((dy.Checked&&((cQ.iv.length:Int)==(dy.iv.length:Int)))&&(decide (0<(dy.iv.length:Int))))) (
bd (rN n fG.2.2.2.1 fG.2.2.2.2.1 fG.2.2.2.2.2.1 fG.2.2.2.2.2.2 dy) λfO=>
lt (({aU with E:=12}:ah):ah) λry=>
some (ry,fO.1,fO.2.1,fO.2.2.1,fO.2.2.2,cY)) (
lt (cQ:aN) λnP=>
VR aW fG.2.2.2.1 fG.2.2.2.2.1 fG.2.2.2.2.2.1 fG.2.2.2.2.2.2 cY nP)))) n aU da dA dM dL cP aE
def Di(n:Nat):CT:=cV (tC n [(5, .loop [(.via 4, .box 104 (.v (.st 19))),(.via 0, .box 121 (.st (.part 1 (.box 94 (.st (.part 952 (.v (.st 15)) (.part 1 (.box 126 (.v (.st 21))) (.part 320 (.v (.st 17)) (.part 1 (.row 3 1 (.int .i64)) .nil)))))) (.part 1 (.v (.int .i64)) .nil)))),(.via 5, .box 150 (.v (.st 23)))])] [y8 n,AP n,tO n] []) ⟨42,[],(.cons (.box 121 (.st (.part 1 (.box 94 (.st (.part 952 (.v (.st 15)) (.part 1 (.box 126 (.v (.st 21))) (.part 320 (.v (.st 17)) (.part 1 (.row 3 1 (.int .i64)) .nil)))))) (.part 1 (.v (.int .i64)) .nil)))) (.cons (.v (.st 20)) .nil)),(.cons (.v (.st 19)) (.cons (.box 121 (.st (.part 1 (.box 94 (.st (.part 952 (.v (.st 15)) (.part 1 (.box 126 (.v (.st 21))) (.part 320 (.v (.st 17)) (.part 1 (.row 3 1 (.int .i64)) .nil)))))) (.part 1 (.v (.int .i64)) .nil)))) .nil)),[some 0,some 1,some 2,none], .nil,[],[[0]]⟩ (λx=>s7 n x.1 x.2.1 x.2.2.1 x.2.2.2.1 x.2.2.2.2.1 x.2.2.2.2.2.1) (λy=>(y.1,y.2.1,y.2.2.1,y.2.2.2.1,y.2.2.2.2.1,y.2.2.2.2.2.1)) (λz=>(z.1,(z.2.1,(z.2.2.1,(z.2.2.2.1,(z.2.2.2.2.1,(z.2.2.2.2.2,())))))))
def vt(n:Nat)(a0:au)(a1:Int):Option (Int×au):=
cn (((decide (a1<0))||(decide (a0.n<=a1)))) (
some (2,a0)) (
bd (jW n a0.pe a1) λaE=>
cn (aE) (
some (12,a0)) (
gu (cF a1 64)<|
bd (qe n a0.pe a1 1) λaW=>
lt (({a0 with pe:=aW.1}:au):au) λbU=>
some (0,bU)))
def AG(n:Nat):CT:=cV (tC n [] [ku n,rT n] []) ⟨56,[],(.cons (.box 126 (.v (.st 21))) (.cons (.v (.int .i64)) .nil)),(.cons (.v (.int .i64)) (.cons (.box 126 (.v (.st 21))) .nil)),[some 0], .nil,[],[[0]]⟩ (λx=>vt n x.1 x.2.1) (λy=>(y.1,y.2.1)) (λz=>(z.1,(z.2,())))
def vS(n:Nat)(da:ak)(dA:au)(dM:aq)(dL:(List Int)):Option (Bool×ak×au×aq×(List Int)):=
cn (((dL.length:Int)==0)) (
some (false,da,dA,dM,dL)) (
gu (cF 0 dL.length)<|
bd (vt n dA (dL.getD (Int.toNat 0) default)) λaE=>
gu (cF 1 (dL.length+1))<|
some (true,da,aE.2,dM,dL.drop (Int.toNat 1)))
def AQ(n:Nat):CT:=cV (tC n [(1000025, .Ds)] [AG n] []) ⟨43,[],(.cons (.box 94 (.st (.part 952 (.v (.st 15)) (.part 1 (.box 126 (.v (.st 21))) (.part 320 (.v (.st 17)) (.part 1 (.row 3 1 (.int .i64)) .nil)))))) .nil),(.cons (.v .bool) (.cons (.box 94 (.st (.part 952 (.v (.st 15)) (.part 1 (.box 126 (.v (.st 21))) (.part 320 (.v (.st 17)) (.part 1 (.row 3 1 (.int .i64)) .nil)))))) .nil)),[some 0,some 1,none], .nil,[],[[0]]⟩ (λx=>vS n x.1 x.2.1 x.2.2.1 x.2.2.2.1) (λy=>(y.1,y.2.1,y.2.2.1,y.2.2.2.1,y.2.2.2.2.1)) (λz=>(z.1,(z.2.1,(z.2.2.1,(z.2.2.2.1,(z.2.2.2.2,()))))))
def az(n:Nat)(da:ak)(dA:au)(dM:aq)(dL:(List Int))(cP:Int)(a1:ai):Option (ah×ak×au×aq×(List Int)×Int):=
bd (s7 n da dA dM dL cP a1) λaE=>
lt (aE.1:ah) λaW=>
lt (λ(bU:ak) (cz:au) (dO:aq) (dQ:(List Int)) (cY:Int) (dy:ah)=>
lt (dy:ah) λcW=>
some (cW,bU,cz,dO,dQ,cY)) λj29=>
cn (((aW.E==6)&&(decide (0<(aE.2.2.2.2.1.length:Int))))) (
DE (λk36 (cU:ak) (eI:au) (fG:aq) (cQ:(List Int)) (gF:Int)=>
bd (vS n cU eI fG cQ) λfO=>
cn (fO.1) (
k36 fO.2.1 fO.2.2.1 fO.2.2.2.1 fO.2.2.2.2 gF) (
bd (s7 n fO.2.1 fO.2.2.1 fO.2.2.2.1 fO.2.2.2.2 gF a1) λry=>
lt (ry.1:ah) λnP=>
j29 ry.2.1 ry.2.2.1 ry.2.2.2.1 ry.2.2.2.2.1 ry.2.2.2.2.2 nP)) n aE.2.1 aE.2.2.1 aE.2.2.2.1 aE.2.2.2.2.1 aE.2.2.2.2.2) (
j29 aE.2.1 aE.2.2.1 aE.2.2.2.1 aE.2.2.2.2.1 aE.2.2.2.2.2 aW)
def pX(n:Nat):CT:=cV (tC n [(14, .join [(.via 0, .box 121 (.st (.part 1 (.box 94 (.st (.part 952 (.v (.st 15)) (.part 1 (.box 126 (.v (.st 21))) (.part 320 (.v (.st 17)) (.part 1 (.row 3 1 (.int .i64)) .nil)))))) (.part 1 (.v (.int .i64)) .nil)))),(.via 5, .box 104 (.v (.st 19)))] []),(11, .loop [(.via 0, .box 121 (.st (.part 1 (.box 94 (.st (.part 952 (.v (.st 15)) (.part 1 (.box 126 (.v (.st 21))) (.part 320 (.v (.st 17)) (.part 1 (.row 3 1 (.int .i64)) .nil)))))) (.part 1 (.v (.int .i64)) .nil))))])] [Di n,AQ n] []) ⟨21,[],(.cons (.box 121 (.st (.part 1 (.box 94 (.st (.part 952 (.v (.st 15)) (.part 1 (.box 126 (.v (.st 21))) (.part 320 (.v (.st 17)) (.part 1 (.row 3 1 (.int .i64)) .nil)))))) (.part 1 (.v (.int .i64)) .nil)))) (.cons (.v (.st 20)) .nil)),(.cons (.v (.st 19)) (.cons (.box 121 (.st (.part 1 (.box 94 (.st (.part 952 (.v (.st 15)) (.part 1 (.box 126 (.v (.st 21))) (.part 320 (.v (.st 17)) (.part 1 (.row 3 1 (.int .i64)) .nil)))))) (.part 1 (.v (.int .i64)) .nil)))) .nil)),[some 0,some 1,some 2,none], .nil,[],[[0]]⟩ (λx=>az n x.1 x.2.1 x.2.2.1 x.2.2.2.1 x.2.2.2.2.1 x.2.2.2.2.2.1) (λy=>(y.1,y.2.1,y.2.2.1,y.2.2.2.1,y.2.2.2.2.1,y.2.2.2.2.2.1)) (λz=>(z.1,(z.2.1,(z.2.2.1,(z.2.2.2.1,(z.2.2.2.2.1,(z.2.2.2.2.2,())))))))
def pb(n:Nat)(da:ak)(dA:au)(dM:aq)(dL:(List Int))(cP:Int)(a1:Int)(a2:Int)(a3:Int)(a4:Int)(a5:Int):Option (ah×ak×au×aq×(List Int)×Int):=
bd (bH n a3) λaE=>
bd (bH n a4) λaW=>
cn (((!aE.2)||(!aW.2))) (
lt (({aU with E:=2}:ah):ah) λbU=>
some (bU,da,dA,dM,dL,cP)) (
bd (az n da dA dM dL cP ({({({({({ax with Do:=a1}:ai)with R:=a2}:ai)with A:=aE.1}:ai)with B:=aW.1}:ai)with V:=a5}:ai)) λcz=>
lt (cz.1:ah) λdO=>
some (dO,cz.2.1,cz.2.2.1,cz.2.2.2.1,cz.2.2.2.2.1,cz.2.2.2.2.2))
def pW(n:Nat):CT:=cV (tC n [] [sP n,pX n] []) ⟨45,[],(.cons (.box 121 (.st (.part 1 (.box 94 (.st (.part 952 (.v (.st 15)) (.part 1 (.box 126 (.v (.st 21))) (.part 320 (.v (.st 17)) (.part 1 (.row 3 1 (.int .i64)) .nil)))))) (.part 1 (.v (.int .i64)) .nil)))) (.cons (.v (.int .u8)) (.cons (.v (.int .u32)) (.cons (.v (.int .i64)) (.cons (.v (.int .i64)) (.cons (.v (.int .u64)) .nil)))))),(.cons (.v (.st 19)) (.cons (.box 121 (.st (.part 1 (.box 94 (.st (.part 952 (.v (.st 15)) (.part 1 (.box 126 (.v (.st 21))) (.part 320 (.v (.st 17)) (.part 1 (.row 3 1 (.int .i64)) .nil)))))) (.part 1 (.v (.int .i64)) .nil)))) .nil)),[some 0,some 1,some 2,none], .nil,[],[[0]]⟩ (λx=>pb n x.1 x.2.1 x.2.2.1 x.2.2.2.1 x.2.2.2.2.1 x.2.2.2.2.2.1 x.2.2.2.2.2.2.1 x.2.2.2.2.2.2.2.1 x.2.2.2.2.2.2.2.2.1 x.2.2.2.2.2.2.2.2.2.1) (λy=>(y.1,y.2.1,y.2.2.1,y.2.2.2.1,y.2.2.2.2.1,y.2.2.2.2.2.1)) (λz=>(z.1,(z.2.1,(z.2.2.1,(z.2.2.2.1,(z.2.2.2.2.1,(z.2.2.2.2.2,())))))))
def jD(n:Nat)(da:ak)(dA:au)(dM:aq)(dL:(List Int))(cP:Int)(a1:Int)(a2:Int):Option (Int×Int×ak×au×aq×(List Int)×Int):=
bd (pb n da dA dM dL cP 3 a1 a2 8 0) λaE=>
lt (aE.1:ah) λaW=>
some (aW.V,aW.E,aE.2.1,aE.2.2.1,aE.2.2.2.1,aE.2.2.2.2.1,aE.2.2.2.2.2)
def lY(n:Nat):CT:=cV (tC n [] [pW n] []) ⟨24,[],(.cons (.box 121 (.st (.part 1 (.box 94 (.st (.part 952 (.v (.st 15)) (.part 1 (.box 126 (.v (.st 21))) (.part 320 (.v (.st 17)) (.part 1 (.row 3 1 (.int .i64)) .nil)))))) (.part 1 (.v (.int .i64)) .nil)))) (.cons (.v (.int .u32)) (.cons (.v (.int .i64)) .nil))),(.cons (.gS (.cons (.v (.int .u64)) (.cons (.v (.int .i64)) .nil))) (.cons (.box 121 (.st (.part 1 (.box 94 (.st (.part 952 (.v (.st 15)) (.part 1 (.box 126 (.v (.st 21))) (.part 320 (.v (.st 17)) (.part 1 (.row 3 1 (.int .i64)) .nil)))))) (.part 1 (.v (.int .i64)) .nil)))) .nil)),[some 0,some 1,some 2,none], .nil,[],[[0]]⟩ (λx=>jD n x.1 x.2.1 x.2.2.1 x.2.2.2.1 x.2.2.2.2.1 x.2.2.2.2.2.1 x.2.2.2.2.2.2.1) (λy=>(y.1,y.2.1,y.2.2.1,y.2.2.2.1,y.2.2.2.2.1,y.2.2.2.2.2.1,y.2.2.2.2.2.2.1)) (λz=>(z.1,(z.2.1,(z.2.2.1,(z.2.2.2.1,(z.2.2.2.2.1,(z.2.2.2.2.2.1,(z.2.2.2.2.2.2,()))))))))
def Dq(n:Nat)(a0:Int):Option Int:=
some (wr .i64 ((wr .i64 (a0*16))-2))
def Db(n:Nat):CT:=cV (tC n [] [] []) ⟨29,[],(.cons (.v (.int .i64)) .nil),(.cons (.v (.int .i64)) .nil),[], .nil,[],[]⟩ (λx=>Dq n x.1) (λy=>(y.1)) (λz=>(z,()))
def jA(n:Nat)(da:ak)(dA:au)(dM:aq)(dL:(List Int))(cP:Int)(cN:Int):Option (Int×Int×Int×ak×au×aq×(List Int)×Int×Int):=
bd (jD n da dA dM dL cP cN 0) λaE=>
cn ((aE.2.1!=0)) (
some (0,0,aE.2.1,aE.2.2.1,aE.2.2.2.1,aE.2.2.2.2.1,aE.2.2.2.2.2.1,aE.2.2.2.2.2.2,cN)) (
bd (jD n aE.2.2.1 aE.2.2.2.1 aE.2.2.2.2.1 aE.2.2.2.2.2.1 aE.2.2.2.2.2.2 cN 8) λaW=>
cn ((aW.2.1!=0)) (
some (0,0,aW.2.1,aW.2.2.1,aW.2.2.2.1,aW.2.2.2.2.1,aW.2.2.2.2.2.1,aW.2.2.2.2.2.2,cN)) (
cl ((((decide (254<aE.1))||(decide (16<aW.1)))==false)) (Dq n (wr .i64 aW.1)) default λbU=>
cn ((((decide (254<aE.1))||(decide (16<aW.1)))||(decide (bU<(wr .i64 aE.1))))) (
some (0,0,3,aW.2.2.1,aW.2.2.2.1,aW.2.2.2.2.1,aW.2.2.2.2.2.1,aW.2.2.2.2.2.2,cN)) (
some (wr .i64 aE.1,wr .i64 aW.1,0,aW.2.2.1,aW.2.2.2.1,aW.2.2.2.2.1,aW.2.2.2.2.2.1,aW.2.2.2.2.2.2,cN))))
def iZ(n:Nat):CT:=cV (tC n [] [lY n,Db n] []) ⟨23,[],(.cons (.st (.part 1 (.box 121 (.st (.part 1 (.box 94 (.st (.part 952 (.v (.st 15)) (.part 1 (.box 126 (.v (.st 21))) (.part 320 (.v (.st 17)) (.part 1 (.row 3 1 (.int .i64)) .nil)))))) (.part 1 (.v (.int .i64)) .nil)))) (.part 1 (.v (.int .u32)) .nil))) .nil),(.cons (.gS (.cons (.v (.int .i64)) (.cons (.v (.int .i64)) (.cons (.v (.int .i64)) .nil)))) (.cons (.st (.part 1 (.box 121 (.st (.part 1 (.box 94 (.st (.part 952 (.v (.st 15)) (.part 1 (.box 126 (.v (.st 21))) (.part 320 (.v (.st 17)) (.part 1 (.row 3 1 (.int .i64)) .nil)))))) (.part 1 (.v (.int .i64)) .nil)))) (.part 1 (.v (.int .u32)) .nil))) .nil)),[some 0,some 1,some 2,none], .nil,[],[[0]]⟩ (λx=>jA n x.1 x.2.1 x.2.2.1 x.2.2.2.1 x.2.2.2.2.1 x.2.2.2.2.2.1) (λy=>(y.1,y.2.1,y.2.2.1,y.2.2.2.1,y.2.2.2.2.1,y.2.2.2.2.2.1,y.2.2.2.2.2.2.1,y.2.2.2.2.2.2.2.1,y.2.2.2.2.2.2.2.2.1)) (λz=>(z.1,(z.2.1,(z.2.2.1,(z.2.2.2.1,(z.2.2.2.2.1,(z.2.2.2.2.2.1,(z.2.2.2.2.2.2.1,(z.2.2.2.2.2.2.2.1,(z.2.2.2.2.2.2.2.2,()))))))))))
def BK(n:Nat)(da:ak)(dA:au)(dM:aq)(dL:(List Int))(cP:Int)(cN:Int):Option (Int×Int×ak×au×aq×(List Int)×Int×Int):=
bd (jA n da dA dM dL cP cN) λaE=>
some (aE.1,aE.2.2.1,aE.2.2.2.1,aE.2.2.2.2.1,aE.2.2.2.2.2.1,aE.2.2.2.2.2.2.1,aE.2.2.2.2.2.2.2.1,cN)
def EJ(n:Nat):CT:=cV (tC n [] [iZ n] []) ⟨5,[],(.cons (.st (.part 1 (.box 121 (.st (.part 1 (.box 94 (.st (.part 952 (.v (.st 15)) (.part 1 (.box 126 (.v (.st 21))) (.part 320 (.v (.st 17)) (.part 1 (.row 3 1 (.int .i64)) .nil)))))) (.part 1 (.v (.int .i64)) .nil)))) (.part 1 (.v (.int .u32)) .nil))) .nil),(.cons (.gS (.cons (.v (.int .i64)) (.cons (.v (.int .i64)) .nil))) (.cons (.st (.part 1 (.box 121 (.st (.part 1 (.box 94 (.st (.part 952 (.v (.st 15)) (.part 1 (.box 126 (.v (.st 21))) (.part 320 (.v (.st 17)) (.part 1 (.row 3 1 (.int .i64)) .nil)))))) (.part 1 (.v (.int .i64)) .nil)))) (.part 1 (.v (.int .u32)) .nil))) .nil)),[some 0,some 1,some 2,none], .nil,[],[[0]]⟩ (λx=>BK n x.1 x.2.1 x.2.2.1 x.2.2.2.1 x.2.2.2.2.1 x.2.2.2.2.2.1) (λy=>(y.1,y.2.1,y.2.2.1,y.2.2.2.1,y.2.2.2.2.1,y.2.2.2.2.2.1,y.2.2.2.2.2.2.1,y.2.2.2.2.2.2.2.1)) (λz=>(z.1,(z.2.1,(z.2.2.1,(z.2.2.2.1,(z.2.2.2.2.1,(z.2.2.2.2.2.1,(z.2.2.2.2.2.2.1,(z.2.2.2.2.2.2.2,())))))))))
def jc(n:Nat)(a0:Int):Option Int:=
some (wr .i64 (16+(wr .i64 (8*a0))))
def pP(n:Nat):CT:=cV (tC n [] [] []) ⟨25,[],(.cons (.v (.int .i64)) .nil),(.cons (.v (.int .i64)) .nil),[], .nil,[],[]⟩ (λx=>jc n x.1) (λy=>(y.1)) (λz=>(z,()))
def gU(n:Nat)(da:ak)(dA:au)(dM:aq)(dL:(List Int))(cP:Int)(a1:Int)(a2:Int)(a3:Int):Option (Int×ak×au×aq×(List Int)×Int):=
bd (pb n da dA dM dL cP 4 a1 a2 8 a3) λaE=>
some (aE.1.E,aE.2.1,aE.2.2.1,aE.2.2.2.1,aE.2.2.2.2.1,aE.2.2.2.2.2)
def nJ(n:Nat):CT:=cV (tC n [] [pW n] []) ⟨26,[],(.cons (.box 121 (.st (.part 1 (.box 94 (.st (.part 952 (.v (.st 15)) (.part 1 (.box 126 (.v (.st 21))) (.part 320 (.v (.st 17)) (.part 1 (.row 3 1 (.int .i64)) .nil)))))) (.part 1 (.v (.int .i64)) .nil)))) (.cons (.v (.int .u32)) (.cons (.v (.int .i64)) (.cons (.v (.int .u64)) .nil)))),(.cons (.v (.int .i64)) (.cons (.box 121 (.st (.part 1 (.box 94 (.st (.part 952 (.v (.st 15)) (.part 1 (.box 126 (.v (.st 21))) (.part 320 (.v (.st 17)) (.part 1 (.row 3 1 (.int .i64)) .nil)))))) (.part 1 (.v (.int .i64)) .nil)))) .nil)),[some 0,some 1,some 2,none], .nil,[],[[0]]⟩ (λx=>gU n x.1 x.2.1 x.2.2.1 x.2.2.2.1 x.2.2.2.2.1 x.2.2.2.2.2.1 x.2.2.2.2.2.2.1 x.2.2.2.2.2.2.2.1) (λy=>(y.1,y.2.1,y.2.2.1,y.2.2.2.1,y.2.2.2.2.1,y.2.2.2.2.2.1)) (λz=>(z.1,(z.2.1,(z.2.2.1,(z.2.2.2.1,(z.2.2.2.2.1,(z.2.2.2.2.2,())))))))
def BJ(n:Nat)(da:ak)(dA:au)(dM:aq)(dL:(List Int))(cP:Int)(cN:Int):Option (Int×Int×ak×au×aq×(List Int)×Int×Int):=
bd (jA n da dA dM dL cP cN) λaE=>
lt (λ(aW:Int)=>
cn ((aW !=0)) (
some (0,aW,aE.2.2.2.1,aE.2.2.2.2.1,aE.2.2.2.2.2.1,aE.2.2.2.2.2.2.1,aE.2.2.2.2.2.2.2.1,cN)) (
bd (jc n (wr .i64 (aE.1-1))) λcz=>
bd (jD n aE.2.2.2.1 aE.2.2.2.2.1 aE.2.2.2.2.2.1 aE.2.2.2.2.2.2.1 aE.2.2.2.2.2.2.2.1 cN cz) λdO=>
lt (λ(dQ:Int) (cY:ak) (dy:au) (fq:aq) (cW:(List Int)) (cU:Int)=>
cn ((dQ !=0)) (
some (0,dQ,cY,dy,fq,cW,cU,cN)) (
some (dO.1,0,cY,dy,fq,cW,cU,cN))) λQ4=>
cn ((dO.2.1==0)) (
bd (gU n dO.2.2.1 dO.2.2.2.1 dO.2.2.2.2.1 dO.2.2.2.2.2.1 dO.2.2.2.2.2.2 cN 0 (wr .u64 ((wr .u64 aE.1)-1))) λfG=>
Q4 fG.1 fG.2.1 fG.2.2.1 fG.2.2.2.1 fG.2.2.2.2.1 fG.2.2.2.2.2) (
Q4 dO.2.1 dO.2.2.1 dO.2.2.2.1 dO.2.2.2.2.1 dO.2.2.2.2.2.1 dO.2.2.2.2.2.2))) λj23=>
cn (((aE.2.2.1==0)&&(aE.1==0))) (
j23 10) (
j23 aE.2.2.1)
def EI(n:Nat):CT:=cV (tC n [(8, .join [(.slot 6, .v (.int .i64))] []),(18, .join [(.slot 6, .v (.int .i64)),(.via 25, .box 121 (.st (.part 1 (.box 94 (.st (.part 952 (.v (.st 15)) (.part 1 (.box 126 (.v (.st 21))) (.part 320 (.v (.st 17)) (.part 1 (.row 3 1 (.int .i64)) .nil)))))) (.part 1 (.v (.int .i64)) .nil))))] [])] [iZ n,pP n,lY n,nJ n] []) ⟨6,[],(.cons (.st (.part 1 (.box 121 (.st (.part 1 (.box 94 (.st (.part 952 (.v (.st 15)) (.part 1 (.box 126 (.v (.st 21))) (.part 320 (.v (.st 17)) (.part 1 (.row 3 1 (.int .i64)) .nil)))))) (.part 1 (.v (.int .i64)) .nil)))) (.part 1 (.v (.int .u32)) .nil))) .nil),(.cons (.gS (.cons (.v (.int .u64)) (.cons (.v (.int .i64)) .nil))) (.cons (.st (.part 1 (.box 121 (.st (.part 1 (.box 94 (.st (.part 952 (.v (.st 15)) (.part 1 (.box 126 (.v (.st 21))) (.part 320 (.v (.st 17)) (.part 1 (.row 3 1 (.int .i64)) .nil)))))) (.part 1 (.v (.int .i64)) .nil)))) (.part 1 (.v (.int .u32)) .nil))) .nil)),[some 0,some 1,some 2,none], .nil,[],[[0]]⟩ (λx=>BJ n x.1 x.2.1 x.2.2.1 x.2.2.2.1 x.2.2.2.2.1 x.2.2.2.2.2.1) (λy=>(y.1,y.2.1,y.2.2.1,y.2.2.2.1,y.2.2.2.2.1,y.2.2.2.2.2.1,y.2.2.2.2.2.2.1,y.2.2.2.2.2.2.2.1)) (λz=>(z.1,(z.2.1,(z.2.2.1,(z.2.2.2.1,(z.2.2.2.2.1,(z.2.2.2.2.2.1,(z.2.2.2.2.2.2.1,(z.2.2.2.2.2.2.2,())))))))))
def vg(n:Nat)(da:ak)(dA:au)(dM:aq)(dL:(List Int))(cP:Int)(cN:Int):Option ((List Int)×Int×ak×au×aq×(List Int)×Int×Int):=
bd (jA n da dA dM dL cP cN) λaE=>
cn ((aE.2.2.1!=0)) (
some ([],aE.2.2.1,aE.2.2.2.1,aE.2.2.2.2.1,aE.2.2.2.2.2.1,aE.2.2.2.2.2.2.1,aE.2.2.2.2.2.2.2.1,cN)) (
DD (λUj (aW:Int) (bU:(List Int)) (cz:ak) (dO:au) (dQ:aq) (cY:(List Int)) (dy:Int) (fq:Int)=>
cn (decide (aW<aE.1)) (
bd (jc n aW) λcU=>
bd (jD n cz dO dQ cY dy fq cU) λeI=>
cn ((eI.2.1!=0)) (
some ([],eI.2.1,eI.2.2.1,eI.2.2.2.1,eI.2.2.2.2.1,eI.2.2.2.2.2.1,eI.2.2.2.2.2.2,cN)) (
gu (gR bU.length [eI.1].length 8)<|
lt (bU++[eI.1]:List Int) λfG=>
Uj (wr .i64 (aW+1)) fG eI.2.2.1 eI.2.2.2.1 eI.2.2.2.2.1 eI.2.2.2.2.2.1 eI.2.2.2.2.2.2 fq)) (
some (bU,0,cz,dO,dQ,cY,dy,cN))) n 0 [] aE.2.2.2.1 aE.2.2.2.2.1 aE.2.2.2.2.2.1 aE.2.2.2.2.2.2.1 aE.2.2.2.2.2.2.2.1 cN)
def xm(n:Nat):CT:=cV (tC n [(13, .loop [(.slot 21, .v (.int .i64)),(.slot 7, .row 22 1 (.int .u64)),(.via 1, .box 27 (.st (.part 1 (.box 121 (.st (.part 1 (.box 94 (.st (.part 952 (.v (.st 15)) (.part 1 (.box 126 (.v (.st 21))) (.part 320 (.v (.st 17)) (.part 1 (.row 3 1 (.int .i64)) .nil)))))) (.part 1 (.v (.int .i64)) .nil)))) (.part 1 (.v (.int .u32)) .nil))))])] [iZ n,pP n,lY n] []) ⟨8,[],(.cons (.st (.part 1 (.box 121 (.st (.part 1 (.box 94 (.st (.part 952 (.v (.st 15)) (.part 1 (.box 126 (.v (.st 21))) (.part 320 (.v (.st 17)) (.part 1 (.row 3 1 (.int .i64)) .nil)))))) (.part 1 (.v (.int .i64)) .nil)))) (.part 1 (.v (.int .u32)) .nil))) .nil),(.cons (.gS (.cons (.row 22 1 (.int .u64)) (.cons (.v (.int .i64)) .nil))) (.cons (.st (.part 1 (.box 121 (.st (.part 1 (.box 94 (.st (.part 952 (.v (.st 15)) (.part 1 (.box 126 (.v (.st 21))) (.part 320 (.v (.st 17)) (.part 1 (.row 3 1 (.int .i64)) .nil)))))) (.part 1 (.v (.int .i64)) .nil)))) (.part 1 (.v (.int .u32)) .nil))) .nil)),[none,some 0,some 1,some 2,none], .nil,[],[[0]]⟩ (λx=>vg n x.1 x.2.1 x.2.2.1 x.2.2.2.1 x.2.2.2.2.1 x.2.2.2.2.2.1) (λy=>(y.1,y.2.1,y.2.2.1,y.2.2.2.1,y.2.2.2.2.1,y.2.2.2.2.2.1,y.2.2.2.2.2.2.1,y.2.2.2.2.2.2.2.1)) (λz=>(z.1,(z.2.1,(z.2.2.1,(z.2.2.2.1,(z.2.2.2.2.1,(z.2.2.2.2.2.1,(z.2.2.2.2.2.2.1,(z.2.2.2.2.2.2.2,())))))))))
def zh(n:Nat)(da:ak)(dA:au)(dM:aq)(dL:(List Int))(cP:Int)(cN:Int)(a1:Int):Option (Int×Int×ak×au×aq×(List Int)×Int×Int):=
bd (jA n da dA dM dL cP cN) λaE=>
cn ((aE.2.2.1!=0)) (
some (0,aE.2.2.1,aE.2.2.2.1,aE.2.2.2.2.1,aE.2.2.2.2.2.1,aE.2.2.2.2.2.2.1,aE.2.2.2.2.2.2.2.1,cN)) (
DD (λUj (aW:Int) (bU:Int) (cz:ak) (dO:au) (dQ:aq) (cY:(List Int)) (dy:Int) (fq:Int)=>
cn (decide (bU<aW)) (
bd (jc n (wr .i64 (Int.tdiv (wr .i64 (bU+aW)) 2))) λcU=>
bd (jD n cz dO dQ cY dy fq cU) λeI=>
cn ((eI.2.1!=0)) (
some (0,eI.2.1,eI.2.2.1,eI.2.2.2.1,eI.2.2.2.2.1,eI.2.2.2.2.2.1,eI.2.2.2.2.2.2,cN)) (
cn (decide (eI.1<a1)) (
Uj aW (wr .i64 ((wr .i64 (Int.tdiv (wr .i64 (bU+aW)) 2))+1)) eI.2.2.1 eI.2.2.2.1 eI.2.2.2.2.1 eI.2.2.2.2.2.1 eI.2.2.2.2.2.2 fq) (
Uj (wr .i64 (Int.tdiv (wr .i64 (bU+aW)) 2)) bU eI.2.2.1 eI.2.2.2.1 eI.2.2.2.2.1 eI.2.2.2.2.2.1 eI.2.2.2.2.2.2 fq))) (
some (bU,0,cz,dO,dQ,cY,dy,cN))) n aE.1 0 aE.2.2.2.1 aE.2.2.2.2.1 aE.2.2.2.2.2.1 aE.2.2.2.2.2.2.1 aE.2.2.2.2.2.2.2.1 cN)
def De(n:Nat):CT:=cV (tC n [(11, .loop [(.slot 10, .v (.int .i64)),(.slot 9, .v (.int .i64)),(.via 2, .box 27 (.st (.part 1 (.box 121 (.st (.part 1 (.box 94 (.st (.part 952 (.v (.st 15)) (.part 1 (.box 126 (.v (.st 21))) (.part 320 (.v (.st 17)) (.part 1 (.row 3 1 (.int .i64)) .nil)))))) (.part 1 (.v (.int .i64)) .nil)))) (.part 1 (.v (.int .u32)) .nil))))])] [iZ n,pP n,lY n] []) ⟨9,[],(.cons (.st (.part 1 (.box 121 (.st (.part 1 (.box 94 (.st (.part 952 (.v (.st 15)) (.part 1 (.box 126 (.v (.st 21))) (.part 320 (.v (.st 17)) (.part 1 (.row 3 1 (.int .i64)) .nil)))))) (.part 1 (.v (.int .i64)) .nil)))) (.part 1 (.v (.int .u32)) .nil))) (.cons (.v (.int .u64)) .nil)),(.cons (.gS (.cons (.v (.int .i64)) (.cons (.v (.int .i64)) .nil))) (.cons (.st (.part 1 (.box 121 (.st (.part 1 (.box 94 (.st (.part 952 (.v (.st 15)) (.part 1 (.box 126 (.v (.st 21))) (.part 320 (.v (.st 17)) (.part 1 (.row 3 1 (.int .i64)) .nil)))))) (.part 1 (.v (.int .i64)) .nil)))) (.part 1 (.v (.int .u32)) .nil))) .nil)),[some 0,some 1,some 2,none], .nil,[],[[0]]⟩ (λx=>zh n x.1 x.2.1 x.2.2.1 x.2.2.2.1 x.2.2.2.2.1 x.2.2.2.2.2.1 x.2.2.2.2.2.2.1) (λy=>(y.1,y.2.1,y.2.2.1,y.2.2.2.1,y.2.2.2.2.1,y.2.2.2.2.2.1,y.2.2.2.2.2.2.1,y.2.2.2.2.2.2.2.1)) (λz=>(z.1,(z.2.1,(z.2.2.1,(z.2.2.2.1,(z.2.2.2.2.1,(z.2.2.2.2.2.1,(z.2.2.2.2.2.2.1,(z.2.2.2.2.2.2.2,())))))))))
def xB(n:Nat)(da:ak)(dA:au)(dM:aq)(dL:(List Int))(cP:Int)(a1:Int)(a2:Int)(a3:Int):Option (Int×Int×ak×au×aq×(List Int)×Int):=
bd (pb n da dA dM dL cP 2 a1 a2 a3 0) λaE=>
lt (aE.1:ah) λaW=>
some (wr .i64 aW.V,aW.E,aE.2.1,aE.2.2.1,aE.2.2.2.1,aE.2.2.2.2.1,aE.2.2.2.2.2)
def B9(n:Nat):CT:=cV (tC n [] [pW n] []) ⟨44,[],(.cons (.box 121 (.st (.part 1 (.box 94 (.st (.part 952 (.v (.st 15)) (.part 1 (.box 126 (.v (.st 21))) (.part 320 (.v (.st 17)) (.part 1 (.row 3 1 (.int .i64)) .nil)))))) (.part 1 (.v (.int .i64)) .nil)))) (.cons (.v (.int .u32)) (.cons (.v (.int .i64)) (.cons (.v (.int .i64)) .nil)))),(.cons (.gS (.cons (.v (.int .i64)) (.cons (.v (.int .i64)) .nil))) (.cons (.box 121 (.st (.part 1 (.box 94 (.st (.part 952 (.v (.st 15)) (.part 1 (.box 126 (.v (.st 21))) (.part 320 (.v (.st 17)) (.part 1 (.row 3 1 (.int .i64)) .nil)))))) (.part 1 (.v (.int .i64)) .nil)))) .nil)),[some 0,some 1,some 2,none], .nil,[],[[0]]⟩ (λx=>xB n x.1 x.2.1 x.2.2.1 x.2.2.2.1 x.2.2.2.2.1 x.2.2.2.2.2.1 x.2.2.2.2.2.2.1 x.2.2.2.2.2.2.2.1) (λy=>(y.1,y.2.1,y.2.2.1,y.2.2.2.1,y.2.2.2.2.1,y.2.2.2.2.2.1,y.2.2.2.2.2.2.1)) (λz=>(z.1,(z.2.1,(z.2.2.1,(z.2.2.2.1,(z.2.2.2.2.1,(z.2.2.2.2.2.1,(z.2.2.2.2.2.2,()))))))))
def aR(n:Nat)(da:ak)(dA:au)(dM:aq)(dL:(List Int))(cP:Int)(cN:Int)(a1:Int):Option (Int×ak×au×aq×(List Int)×Int×Int):=
bd (xB n da dA dM dL cP cN 128 8) λaE=>
cn ((aE.2.1!=0)) (
some (aE.2.1,aE.2.2.1,aE.2.2.2.1,aE.2.2.2.2.1,aE.2.2.2.2.2.1,aE.2.2.2.2.2.2,cN)) (
bd (gU n aE.2.2.1 aE.2.2.2.1 aE.2.2.2.2.1 aE.2.2.2.2.2.1 aE.2.2.2.2.2.2 cN 8 (wr .u64 a1)) λaW=>
some (aW.1,aW.2.1,aW.2.2.1,aW.2.2.2.1,aW.2.2.2.2.1,aW.2.2.2.2.2,cN))
def oy(n:Nat):CT:=cV (tC n [] [B9 n,nJ n] []) ⟨22,[],(.cons (.st (.part 1 (.box 121 (.st (.part 1 (.box 94 (.st (.part 952 (.v (.st 15)) (.part 1 (.box 126 (.v (.st 21))) (.part 320 (.v (.st 17)) (.part 1 (.row 3 1 (.int .i64)) .nil)))))) (.part 1 (.v (.int .i64)) .nil)))) (.part 1 (.v (.int .u32)) .nil))) (.cons (.v (.int .i64)) .nil)),(.cons (.v (.int .i64)) (.cons (.st (.part 1 (.box 121 (.st (.part 1 (.box 94 (.st (.part 952 (.v (.st 15)) (.part 1 (.box 126 (.v (.st 21))) (.part 320 (.v (.st 17)) (.part 1 (.row 3 1 (.int .i64)) .nil)))))) (.part 1 (.v (.int .i64)) .nil)))) (.part 1 (.v (.int .u32)) .nil))) .nil)),[some 0,some 1,some 2,none], .nil,[],[[0]]⟩ (λx=>aR n x.1 x.2.1 x.2.2.1 x.2.2.2.1 x.2.2.2.2.1 x.2.2.2.2.2.1 x.2.2.2.2.2.2.1) (λy=>(y.1,y.2.1,y.2.2.1,y.2.2.2.1,y.2.2.2.2.1,y.2.2.2.2.2.1,y.2.2.2.2.2.2.1)) (λz=>(z.1,(z.2.1,(z.2.2.1,(z.2.2.2.1,(z.2.2.2.2.1,(z.2.2.2.2.2.1,(z.2.2.2.2.2.2,()))))))))
def o5(n:Nat)(da:ak)(dA:au)(dM:aq)(dL:(List Int))(cP:Int)(cN:Int)(a1:Int):Option (Int×ak×au×aq×(List Int)×Int×Int):=
bd (jA n da dA dM dL cP cN) λaE=>
lt (aE.1:Int) λaW=>
lt (aE.2.1:Int) λbU=>
cn ((aE.2.2.1!=0)) (
some (aE.2.2.1,aE.2.2.2.1,aE.2.2.2.2.1,aE.2.2.2.2.2.1,aE.2.2.2.2.2.2.1,aE.2.2.2.2.2.2.2.1,cN)) (
bd (Dq n bU) λcz=>
cn (decide (aW<cz)) (
bd (jc n aW) λdO=>
bd (gU n aE.2.2.2.1 aE.2.2.2.2.1 aE.2.2.2.2.2.1 aE.2.2.2.2.2.2.1 aE.2.2.2.2.2.2.2.1 cN dO a1) λdQ=>
cn ((dQ.1!=0)) (
some (dQ.1,dQ.2.1,dQ.2.2.1,dQ.2.2.2.1,dQ.2.2.2.2.1,dQ.2.2.2.2.2,cN)) (
bd (gU n dQ.2.1 dQ.2.2.1 dQ.2.2.2.1 dQ.2.2.2.2.1 dQ.2.2.2.2.2 cN 0 (wr .u64 ((wr .u64 aW)+1))) λcY=>
cn ((cY.1!=0)) (
some (cY.1,cY.2.1,cY.2.2.1,cY.2.2.2.1,cY.2.2.2.2.1,cY.2.2.2.2.2,cN)) (
some (0,cY.2.1,cY.2.2.1,cY.2.2.2.1,cY.2.2.2.2.1,cY.2.2.2.2.2,cN)))) (
bd (aR n aE.2.2.2.1 aE.2.2.2.2.1 aE.2.2.2.2.2.1 aE.2.2.2.2.2.2.1 aE.2.2.2.2.2.2.2.1 cN (wr .i64 (bU+1))) λdy=>
cn ((dy.1!=0)) (
some (dy.1,dy.2.1,dy.2.2.1,dy.2.2.2.1,dy.2.2.2.2.1,dy.2.2.2.2.2.1,cN)) (
bd (jc n aW) λfq=>
bd (gU n dy.2.1 dy.2.2.1 dy.2.2.2.1 dy.2.2.2.2.1 dy.2.2.2.2.2.1 cN fq a1) λcW=>
cn ((cW.1!=0)) (
some (cW.1,cW.2.1,cW.2.2.1,cW.2.2.2.1,cW.2.2.2.2.1,cW.2.2.2.2.2,cN)) (
bd (gU n cW.2.1 cW.2.2.1 cW.2.2.2.1 cW.2.2.2.2.1 cW.2.2.2.2.2 cN 0 (wr .u64 ((wr .u64 aW)+1))) λcU=>
cn ((cU.1!=0)) (
some (cU.1,cU.2.1,cU.2.2.1,cU.2.2.2.1,cU.2.2.2.2.1,cU.2.2.2.2.2,cN)) (
some (0,cU.2.1,cU.2.2.1,cU.2.2.2.1,cU.2.2.2.2.1,cU.2.2.2.2.2,cN))))))
def Dd(n:Nat):CT:=cV (tC n [(250000009, .Ds)] [iZ n,Db n,pP n,nJ n,oy n] []) ⟨10,[],(.cons (.st (.part 1 (.box 121 (.st (.part 1 (.box 94 (.st (.part 952 (.v (.st 15)) (.part 1 (.box 126 (.v (.st 21))) (.part 320 (.v (.st 17)) (.part 1 (.row 3 1 (.int .i64)) .nil)))))) (.part 1 (.v (.int .i64)) .nil)))) (.part 1 (.v (.int .u32)) .nil))) (.cons (.v (.int .u64)) .nil)),(.cons (.v (.int .i64)) (.cons (.st (.part 1 (.box 121 (.st (.part 1 (.box 94 (.st (.part 952 (.v (.st 15)) (.part 1 (.box 126 (.v (.st 21))) (.part 320 (.v (.st 17)) (.part 1 (.row 3 1 (.int .i64)) .nil)))))) (.part 1 (.v (.int .i64)) .nil)))) (.part 1 (.v (.int .u32)) .nil))) .nil)),[some 0,some 1,some 2,none], .nil,[],[[0]]⟩ (λx=>o5 n x.1 x.2.1 x.2.2.1 x.2.2.2.1 x.2.2.2.2.1 x.2.2.2.2.2.1 x.2.2.2.2.2.2.1) (λy=>(y.1,y.2.1,y.2.2.1,y.2.2.2.1,y.2.2.2.2.1,y.2.2.2.2.2.1,y.2.2.2.2.2.2.1)) (λz=>(z.1,(z.2.1,(z.2.2.1,(z.2.2.2.1,(z.2.2.2.2.1,(z.2.2.2.2.2.1,(z.2.2.2.2.2.2,()))))))))
def qu(n:Nat)(a0:Int):Option Bool:=
some ((a0 !=a0))
def AO(n:Nat):CT:=cV (tC n [] [] []) ⟨76,[],(.cons (.v (.int .u64)) .nil),(.cons (.v .bool) .nil),[], .nil,[],[]⟩ (λx=>qu n x.1) (λy=>(y.1)) (λz=>(z,()))
def xF(n:Nat)(a0:Int)(a1:Int):Option Bool:=
bd (qu n a0) λaE=>
cl ((aE==true)) (qu n a1) default λaW=>
some (((aE&&(!aW))||(decide (a0<a1))))
def Cc(n:Nat):CT:=cV (tC n [] [AO n] []) ⟨58,[],(.cons (.v (.int .u64)) (.cons (.v (.int .u64)) .nil)),(.cons (.v .bool) .nil),[], .nil,[],[]⟩ (λx=>xF n x.1 x.2.1) (λy=>(y.1)) (λz=>(z,()))
def fC(n:Nat)(a0:(List Int))(a1:Int)(a2:Int):Option (Int×(List Int)):=
gu (cF a1 a0.length)<|
gu (cF a2 a0.length)<|
bd (xF n (a0.getD (Int.toNat a1) default) (a0.getD (Int.toNat a2) default)) λaE=>
cn (aE) (
some (a2,a0)) (
some (a1,a0))
def uX(n:Nat):CT:=cV (tC n [] [Cc n] []) ⟨46,[],(.cons (.row 22 1 (.int .u64)) (.cons (.v (.int .i64)) (.cons (.v (.int .i64)) .nil))),(.cons (.v (.int .i64)) (.cons (.row 22 1 (.int .u64)) .nil)),[some 0], .nil,[],[[0]]⟩ (λx=>fC n x.1 x.2.1 x.2.2.1) (λy=>(y.1,y.2.1)) (λz=>(z.1,(z.2,())))
def zg(n:Nat)(da:ak)(dA:au)(dM:aq)(dL:(List Int))(cP:Int)(cN:Int):Option (Int×ak×au×aq×(List Int)×Int×Int):=
bd (vg n da dA dM dL cP cN) λaE=>
cn ((aE.2.1!=0)) (
some (aE.2.1,aE.2.2.1,aE.2.2.2.1,aE.2.2.2.2.1,aE.2.2.2.2.2.1,aE.2.2.2.2.2.2.1,cN)) (
dH (λk24 (aW:Int) (bU:(List Int))=>
cn (decide (0<=aW)) (
dH (λk27 (dO:Int) (dQ:(List Int))=>
cn (decide ((wr .i64 ((wr .i64 (2*dO))+1))<(bU.length:Int))) (
bd (fC n dQ dO (wr .i64 ((wr .i64 (2*dO))+1))) λdy=>
lt (λ(fq:Int) (cW:(List Int))=>
cn ((fq==dO)) (
k24 (wr .i64 (aW-1)) cW) (
gu (cF fq cW.length)<|
gu (cF dO cW.length)<|
gu (cF dO cW.length)<|
lt (cW.set (Int.toNat dO) (cW.getD (Int.toNat fq) default):List Int) λeI=>
gu (cF fq eI.length)<|
lt (eI.set (Int.toNat fq) (cW.getD (Int.toNat dO) default):List Int) λfG=>
k27 fq fG)) λj31=>
cn (decide ((wr .i64 ((wr .i64 (2*dO))+2))<(bU.length:Int))) (
bd (fC n dy.2 dy.1 (wr .i64 ((wr .i64 (2*dO))+2))) λcQ=>
j31 cQ.1 cQ.2) (
j31 dy.1 dy.2)) (
k24 (wr .i64 (aW-1)) dQ)) n aW bU) (
dH (λET (gF:Int) (mX:(List Int))=>
cn (decide (0<gF)) (
gu (cF gF mX.length)<|
gu (cF 0 mX.length)<|
gu (cF 0 mX.length)<|
lt (mX.set (Int.toNat 0) (mX.getD (Int.toNat gF) default):List Int) λry=>
gu (cF gF ry.length)<|
lt (ry.set (Int.toNat gF) (mX.getD (Int.toNat 0) default):List Int) λnP=>
dH (λX5 (nO:Int) (iF:(List Int))=>
cn (decide ((wr .i64 ((wr .i64 (2*nO))+1))<gF)) (
bd (fC n iF nO (wr .i64 ((wr .i64 (2*nO))+1))) λyP=>
lt (λ(Am:Int) (Kk:(List Int))=>
cn ((Am==nO)) (
ET (wr .i64 (gF-1)) Kk) (
gu (cF Am Kk.length)<|
gu (cF nO Kk.length)<|
gu (cF nO Kk.length)<|
lt (Kk.set (Int.toNat nO) (Kk.getD (Int.toNat Am) default):List Int) λTW=>
gu (cF Am TW.length)<|
lt (TW.set (Int.toNat Am) (Kk.getD (Int.toNat nO) default):List Int) λG5=>
X5 Am G5)) λj46=>
cn (decide ((wr .i64 ((wr .i64 (2*nO))+2))<gF)) (
bd (fC n yP.2 yP.1 (wr .i64 ((wr .i64 (2*nO))+2))) λID=>
j46 ID.1 ID.2) (
j46 yP.1 yP.2)) (
ET (wr .i64 (gF-1)) iF)) n 0 nP) (
Fu (λk57 (xL:Int) (MV:ak) (CN:au) (EG:aq) (xK:(List Int)) (sK:Int) (wD:Int)=>
cn (decide (xL<(mX.length:Int))) (
gu (cF xL mX.length)<|
bd (jc n xL) λIC=>
bd (gU n MV CN EG xK sK wD IC (mX.getD (Int.toNat xL) default)) λAi=>
cn ((Ai.1!=0)) (
some (Ai.1,Ai.2.1,Ai.2.2.1,Ai.2.2.2.1,Ai.2.2.2.2.1,Ai.2.2.2.2.2,cN)) (
k57 (wr .i64 (xL+1)) Ai.2.1 Ai.2.2.1 Ai.2.2.2.1 Ai.2.2.2.2.1 Ai.2.2.2.2.2 wD)) (
some (0,MV,CN,EG,xK,sK,cN))) n 0 aE.2.2.1 aE.2.2.2.1 aE.2.2.2.2.1 aE.2.2.2.2.2.1 aE.2.2.2.2.2.2.1 cN)) n (wr .i64 ((bU.length:Int)-1)) bU)) n (wr .i64 (Int.tdiv (aE.1.length:Int) 2)) aE.1)
def Dc(n:Nat):CT:=cV (tC n [(11, .loop [(.slot 5, .v (.int .i64)),(.via 3, .row 22 1 (.int .u64))]),(300000001, .loop [(.slot 1, .v (.int .i64)),(.via 0, .row 22 1 (.int .u64))]),(300000008, .join [(.slot 6, .v (.int .i64)),(.via 0, .row 22 1 (.int .u64))] []),(19, .loop [(.slot 6, .v (.int .i64)),(.via 3, .row 22 1 (.int .u64))]),(520000001, .loop [(.slot 1, .v (.int .i64)),(.via 0, .row 22 1 (.int .u64))]),(520000008, .join [(.slot 6, .v (.int .i64)),(.via 0, .row 22 1 (.int .u64))] []),(29, .loop [(.slot 54, .v (.int .i64)),(.via 1, .box 27 (.st (.part 1 (.box 121 (.st (.part 1 (.box 94 (.st (.part 952 (.v (.st 15)) (.part 1 (.box 126 (.v (.st 21))) (.part 320 (.v (.st 17)) (.part 1 (.row 3 1 (.int .i64)) .nil)))))) (.part 1 (.v (.int .i64)) .nil)))) (.part 1 (.v (.int .u32)) .nil))))])] [xm n,uX n,pP n,nJ n] []) ⟨12,[],(.cons (.st (.part 1 (.box 121 (.st (.part 1 (.box 94 (.st (.part 952 (.v (.st 15)) (.part 1 (.box 126 (.v (.st 21))) (.part 320 (.v (.st 17)) (.part 1 (.row 3 1 (.int .i64)) .nil)))))) (.part 1 (.v (.int .i64)) .nil)))) (.part 1 (.v (.int .u32)) .nil))) .nil),(.cons (.v (.int .i64)) (.cons (.st (.part 1 (.box 121 (.st (.part 1 (.box 94 (.st (.part 952 (.v (.st 15)) (.part 1 (.box 126 (.v (.st 21))) (.part 320 (.v (.st 17)) (.part 1 (.row 3 1 (.int .i64)) .nil)))))) (.part 1 (.v (.int .i64)) .nil)))) (.part 1 (.v (.int .u32)) .nil))) .nil)),[some 0,some 1,some 2,none], .nil,[],[[0]]⟩ (λx=>zg n x.1 x.2.1 x.2.2.1 x.2.2.2.1 x.2.2.2.2.1 x.2.2.2.2.2.1) (λy=>(y.1,y.2.1,y.2.2.1,y.2.2.2.1,y.2.2.2.2.1,y.2.2.2.2.2.1,y.2.2.2.2.2.2.1)) (λz=>(z.1,(z.2.1,(z.2.2.1,(z.2.2.2.1,(z.2.2.2.2.1,(z.2.2.2.2.2.1,(z.2.2.2.2.2.2,()))))))))
def aD(n:Nat)(a0:au):Option bO:=
lt (a0.pe:bO) λaE=>
some (aE)
def AF(n:Nat):CT:=cV (tC n [] [] []) ⟨18,[(126, .v (.st 21))],(.cons (.bF 0) .nil),(.cons (.v (.st 18)) .nil),[], .nil,[],[]⟩ (λx=>aD n x.1) (λy=>(y.1)) (λz=>(z,()))
def DH(n:Nat)(da:ak)(dA:au)(dM:aq)(dL:(List Int))(cP:Int)(cN:Int)(a1:gJ):Option (Bool×ak×au×aq×(List Int)×Int×Int):=
bd (BK n da dA dM dL cP cN) λaE=>
bd (vg n aE.2.2.1 aE.2.2.2.1 aE.2.2.2.2.1 aE.2.2.2.2.2.1 aE.2.2.2.2.2.2.1 cN) λaW=>
bd (ae n aW.2.2.2.2.2.1) λ_=>
bd (dK n aW.2.2.1.dg.T cN) λcz=>
lt (cz.1:aT) λdO=>
cn (((((((aE.2.1!=0)||(aW.2.1!=0))||(cz.2!=0))||(aE.1!=(a1.L.length:Int)))||((aW.1.length:Int)!=aE.1))||(dO.E.Kg !=(wr .i64 (128*a1.yG))))) (
some (false,aW.2.2.1,aW.2.2.2.1,aW.2.2.2.2.1,aW.2.2.2.2.2.1,aW.2.2.2.2.2.2.1,cN)) (
gL (λk27 (dQ:Int)=>
cn (decide (dQ<aE.1)) (
gu (cF dQ aW.1.length)<|
gu (cF dQ a1.L.length)<|
cn (((aW.1.getD (Int.toNat dQ) default)!=(a1.L.getD (Int.toNat dQ) default))) (
some (false,aW.2.2.1,aW.2.2.2.1,aW.2.2.2.2.1,aW.2.2.2.2.2.1,aW.2.2.2.2.2.2.1,cN)) (
k27 (wr .i64 (dQ+1)))) (
some (true,aW.2.2.1,aW.2.2.2.1,aW.2.2.2.2.1,aW.2.2.2.2.2.1,aW.2.2.2.2.2.2.1,cN))) n 0)
def FV(n:Nat):CT:=cV (tC n [(15, .loop [(.slot 11, .v (.int .i64))])] [EJ n,xm n,oI n,dD n] []) ⟨41,[],(.cons (.st (.part 1 (.box 121 (.st (.part 1 (.box 94 (.st (.part 952 (.v (.st 15)) (.part 1 (.box 126 (.v (.st 21))) (.part 320 (.v (.st 17)) (.part 1 (.row 3 1 (.int .i64)) .nil)))))) (.part 1 (.v (.int .i64)) .nil)))) (.part 1 (.v (.int .u32)) .nil))) (.cons (.v (.st 22)) .nil)),(.cons (.v .bool) (.cons (.st (.part 1 (.box 121 (.st (.part 1 (.box 94 (.st (.part 952 (.v (.st 15)) (.part 1 (.box 126 (.v (.st 21))) (.part 320 (.v (.st 17)) (.part 1 (.v (.sl (.int .i64))) .nil)))))) (.part 1 (.v (.int .i64)) .nil)))) (.part 1 (.v (.int .u32)) .nil))) .nil)),[some 0,some 1,some 2], .nil,[],[[0]]⟩ (λx=>DH n x.1 x.2.1 x.2.2.1 x.2.2.2.1 x.2.2.2.2.1 x.2.2.2.2.2.1 x.2.2.2.2.2.2.1) (λy=>(y.1,y.2.1,y.2.2.1,y.2.2.2.1,y.2.2.2.2.1,y.2.2.2.2.2.1,y.2.2.2.2.2.2.1)) (λz=>(z.1,(z.2.1,(z.2.2.1,(z.2.2.2.1,(z.2.2.2.2.1,(z.2.2.2.2.2.1,(z.2.2.2.2.2.2,()))))))))
def aM(n:Nat):Option Bool:=
bd (nK n 8) λaE=>
bd (fe n) λaW=>
bd (az n aW ({({dF with n:=8}:au)with pe:=aE}:au) bW [] 0 ({({({ax with Do:=1}:ai)with R:=0}:ai)with A:=wr .u32 8}:ai)) λbU=>
lt (bU.1:ah) λcz=>
cn ((cz.E !=0)) (
cn ((!(cz.E==0))) (
some (false)) (
lt (λ(dO:Int)=>
cn ((dO !=0)) (
some (false)) (
bd (jc n (-1)) λcY=>
bd (bH n cY) λ_=>
bd (bH n 8) λ_=>
lt (({aU with E:=1}:ah):ah) λcW=>
lt (cW:ah) λcU=>
lt (λ(eI:Int)=>
cn ((eI !=0)) (
some (false)) (
some (false))) λj33=>
cn ((cU.E==0)) (
bd (bH n 0) λ_=>
bd (bH n 8) λ_=>
lt (({aU with E:=1}:ah):ah) λmX=>
j33 mX.E) (
j33 cU.E))) λX8=>
X8 1)) (
bd (aR n bU.2.1 bU.2.2.1 bU.2.2.2.1 bU.2.2.2.2.1 bU.2.2.2.2.2 cz.W 1) λfO=>
cn ((fO.1!=0)) (
bd (az n fO.2.1 fO.2.2.1 fO.2.2.2.1 fO.2.2.2.2.1 fO.2.2.2.2.2.1 ({({ax with Do:=6}:ai)with R:=cz.W}:ai)) λ_=>
cn ((!(fO.1==0))) (
some (false)) (
lt (λ(nP:Int)=>
cn ((nP !=0)) (
some (false)) (
bd (jc n (-1)) λiF=>
bd (bH n iF) λ_=>
bd (bH n 8) λ_=>
lt (({aU with E:=1}:ah):ah) λAm=>
lt (Am:ah) λKk=>
lt (λ(G6:Int)=>
cn ((G6 !=0)) (
some (false)) (
some (false))) λj47=>
cn ((Kk.E==0)) (
bd (bH n 0) λ_=>
bd (bH n 8) λ_=>
lt (({aU with E:=1}:ah):ah) λxL=>
j47 xL.E) (
j47 Kk.E))) λVT=>
VT 1)) (
bd (o5 n fO.2.1 fO.2.2.1 fO.2.2.2.1 fO.2.2.2.2.1 fO.2.2.2.2.2.1 cz.W 5) λMV=>
bd (o5 n MV.2.1 MV.2.2.1 MV.2.2.2.1 MV.2.2.2.2.1 MV.2.2.2.2.2.1 cz.W 3) λCN=>
bd (o5 n CN.2.1 CN.2.2.1 CN.2.2.2.1 CN.2.2.2.2.1 CN.2.2.2.2.2.1 cz.W 4) λEG=>
bd (zg n EG.2.1 EG.2.2.1 EG.2.2.2.1 EG.2.2.2.2.1 EG.2.2.2.2.2.1 cz.W) λxK=>
bd (zh n xK.2.1 xK.2.2.1 xK.2.2.2.1 xK.2.2.2.2.1 xK.2.2.2.2.2.1 cz.W 4) λsK=>
bd (BJ n sK.2.2.1 sK.2.2.2.1 sK.2.2.2.2.1 sK.2.2.2.2.2.1 sK.2.2.2.2.2.2.1 cz.W) λwD=>
cn (((((((((MV.1==0)&&(CN.1==0))&&(EG.1==0))&&(xK.1==0))&&(sK.1==1))&&(sK.2.1==0))&&(wD.1==5))&&(wD.2.1==0))) (
bd (DH n wD.2.2.1 wD.2.2.2.1 wD.2.2.2.2.1 wD.2.2.2.2.2.1 wD.2.2.2.2.2.2.1 cz.W ({L:=[3,4],yG:=1}:gJ)) λG4=>
some (G4.1)) (
some (false))))
def EK(n:Nat):CT:=cV (tC n [(330000008, .join [(.slot 6, .v (.int .i64))] []),(330000018, .join [(.slot 6, .v (.int .i64))] [])] [E9 n,xq n,pX n,pP n,sP n,oy n,Dd n,Dc n,De n,EI n,FV n] []) ⟨20,[], .nil,(.cons (.v .bool) .nil),[], .nil,[],[]⟩ (λ_=>aM n) (λy=>(y.1)) (λz=>(z,()))
def zH(n:Nat)(a0:Int)(a1:Int)(a2:Int):Option Bool:=
lt (λ(aE:Int)=>
cn ((aE !=0)) (
lt (λ(bU:Int)=>
cn ((bU !=0)) (
cn (((((aE !=1)||(bU !=1))||false)||false)) (
some (false)) (
lt (λ(dO:Int)=>
cn ((dO !=0)) (
cn ((dO !=1)) (
some (false)) (
bd (nK n 3) λcY=>
bd (fe n) λdy=>
bd (az n dy ({({dF with n:=3}:au)with pe:=cY}:au) bW [] 0 ({({({ax with Do:=1}:ai)with R:=0}:ai)with A:=wr .u32 9}:ai)) λfq=>
lt (fq.1:ah) λcW=>
cn ((cW.E !=0)) (
bd (az n fq.2.1 fq.2.2.1 fq.2.2.2.1 fq.2.2.2.2.1 fq.2.2.2.2.2 ({({({ax with Do:=1}:ai)with R:=9}:ai)with A:=wr .u32 4}:ai)) λcU=>
lt (cU.1:ah) λeI=>
cn ((eI.E !=0)) (
cn ((cW.E==6)) (
bd (ae n cU.2.2.2.2.1) λ_=>
bd (aC n cU.2.1.dg.T.bN) λcQ=>
cn (((cQ.length:Int)==0)) (
bd (ae n cU.2.2.2.2.1) λ_=>
bd (aD n cU.2.2.1) λmX=>
bd (aB n mX) λfO=>
bd (ae n cU.2.2.2.2.1) λry=>
cl ((((((wr .i64 (fO+(ry.length:Int)))==3)&&true)&&(eI.E==4))==true)) (aM n) default λnP=>
some ((((((wr .i64 (fO+(ry.length:Int)))==3)&&true)&&(eI.E==4))&&nP))) (
some (false))) (
some (false))) (
bd (aR n cU.2.1 cU.2.2.1 cU.2.2.2.1 cU.2.2.2.2.1 cU.2.2.2.2.2 eI.W 1) λnO=>
cn ((nO.1!=0)) (
bd (az n nO.2.1 nO.2.2.1 nO.2.2.2.1 nO.2.2.2.2.1 nO.2.2.2.2.2.1 ({({ax with Do:=6}:ai)with R:=eI.W}:ai)) λiF=>
cn ((cW.E==6)) (
bd (ae n iF.2.2.2.2.1) λ_=>
bd (aC n iF.2.1.dg.T.bN) λyP=>
cn (((yP.length:Int)==0)) (
bd (ae n iF.2.2.2.2.1) λ_=>
bd (aD n iF.2.2.1) λKk=>
bd (aB n Kk) λG6=>
bd (ae n iF.2.2.2.2.1) λTW=>
cl ((((((wr .i64 (G6+(TW.length:Int)))==3)&&true)&&(nO.1==4))==true)) (aM n) default λG5=>
some ((((((wr .i64 (G6+(TW.length:Int)))==3)&&true)&&(nO.1==4))&&G5))) (
some (false))) (
some (false))) (
cn ((cW.E==6)) (
bd (ae n nO.2.2.2.2.1) λ_=>
bd (aC n nO.2.1.dg.T.bN) λxL=>
cn (((xL.length:Int)==0)) (
bd (ae n nO.2.2.2.2.1) λ_=>
bd (aD n nO.2.2.1) λCN=>
bd (aB n CN) λEG=>
bd (ae n nO.2.2.2.2.1) λxK=>
cl ((((((wr .i64 (EG+(xK.length:Int)))==3)&&true)&&false)==true)) (aM n) default λsK=>
some ((((((wr .i64 (EG+(xK.length:Int)))==3)&&true)&&false)&&sK))) (
some (false))) (
some (false))))) (
bd (aR n fq.2.1 fq.2.2.1 fq.2.2.2.1 fq.2.2.2.2.1 fq.2.2.2.2.2 cW.W 1) λwD=>
cn ((wD.1!=0)) (
bd (az n wD.2.1 wD.2.2.1 wD.2.2.2.1 wD.2.2.2.2.1 wD.2.2.2.2.2.1 ({({ax with Do:=6}:ai)with R:=cW.W}:ai)) λG4=>
bd (az n G4.2.1 G4.2.2.1 G4.2.2.2.1 G4.2.2.2.2.1 G4.2.2.2.2.2 ({({({ax with Do:=1}:ai)with R:=9}:ai)with A:=wr .u32 4}:ai)) λIC=>
lt (IC.1:ah) λAi=>
cn ((Ai.E !=0)) (
cn ((wD.1==6)) (
bd (ae n IC.2.2.2.2.1) λ_=>
bd (aC n IC.2.1.dg.T.bN) λYT=>
cn (((YT.length:Int)==0)) (
bd (ae n IC.2.2.2.2.1) λ_=>
bd (aD n IC.2.2.1) λx63=>
bd (aB n x63) λUP=>
bd (ae n IC.2.2.2.2.1) λRi=>
cl ((((((wr .i64 (UP+(Ri.length:Int)))==3)&&true)&&(Ai.E==4))==true)) (aM n) default λUO=>
some ((((((wr .i64 (UP+(Ri.length:Int)))==3)&&true)&&(Ai.E==4))&&UO))) (
some (false))) (
some (false))) (
bd (aR n IC.2.1 IC.2.2.1 IC.2.2.2.1 IC.2.2.2.2.1 IC.2.2.2.2.2 Ai.W 1) λEF=>
cn ((EF.1!=0)) (
bd (az n EF.2.1 EF.2.2.1 EF.2.2.2.1 EF.2.2.2.2.1 EF.2.2.2.2.2.1 ({({ax with Do:=6}:ai)with R:=Ai.W}:ai)) λFU=>
cn ((wD.1==6)) (
bd (ae n FU.2.2.2.2.1) λ_=>
bd (aC n FU.2.1.dg.T.bN) λx70=>
cn (((x70.length:Int)==0)) (
bd (ae n FU.2.2.2.2.1) λ_=>
bd (aD n FU.2.2.1) λYR=>
bd (aB n YR) λTV=>
bd (ae n FU.2.2.2.2.1) λx74=>
cl ((((((wr .i64 (TV+(x74.length:Int)))==3)&&true)&&(EF.1==4))==true)) (aM n) default λx75=>
some ((((((wr .i64 (TV+(x74.length:Int)))==3)&&true)&&(EF.1==4))&&x75))) (
some (false))) (
some (false))) (
cn ((wD.1==6)) (
bd (ae n EF.2.2.2.2.1) λ_=>
bd (aC n EF.2.1.dg.T.bN) λx77=>
cn (((x77.length:Int)==0)) (
bd (ae n EF.2.2.2.2.1) λ_=>
bd (aD n EF.2.2.1) λYQ=>
bd (aB n YQ) λx80=>
bd (ae n EF.2.2.2.2.1) λx81=>
cl ((((((wr .i64 (x80+(x81.length:Int)))==3)&&true)&&false)==true)) (aM n) default λx82=>
some ((((((wr .i64 (x80+(x81.length:Int)))==3)&&true)&&false)&&x82))) (
some (false))) (
some (false))))) (
bd (az n wD.2.1 wD.2.2.1 wD.2.2.2.1 wD.2.2.2.2.1 wD.2.2.2.2.2.1 ({({({ax with Do:=1}:ai)with R:=9}:ai)with A:=wr .u32 4}:ai)) λXU=>
lt (XU.1:ah) λRg=>
cn ((Rg.E !=0)) (
some (false)) (
bd (aR n XU.2.1 XU.2.2.1 XU.2.2.2.1 XU.2.2.2.2.1 XU.2.2.2.2.2 Rg.W 1) λTU=>
cn ((TU.1!=0)) (
bd (az n TU.2.1 TU.2.2.1 TU.2.2.2.1 TU.2.2.2.2.1 TU.2.2.2.2.2.1 ({({ax with Do:=6}:ai)with R:=Rg.W}:ai)) λ_=>
some (false)) (
some (false))))))) (
bd (jc n a0) λx87=>
bd (bH n x87) λ_=>
bd (bH n 8) λ_=>
lt (({aU with E:=1}:ah):ah) λx90=>
cn ((x90.E !=1)) (
some (false)) (
bd (nK n 3) λx91=>
bd (fe n) λx92=>
bd (az n x92 ({({dF with n:=3}:au)with pe:=x91}:au) bW [] 0 ({({({ax with Do:=1}:ai)with R:=0}:ai)with A:=wr .u32 9}:ai)) λLs=>
lt (Ls.1:ah) λXT=>
cn ((XT.E !=0)) (
bd (az n Ls.2.1 Ls.2.2.1 Ls.2.2.2.1 Ls.2.2.2.2.1 Ls.2.2.2.2.2 ({({({ax with Do:=1}:ai)with R:=9}:ai)with A:=wr .u32 4}:ai)) λNb=>
lt (Nb.1:ah) λYP=>
cn ((YP.E !=0)) (
cn ((XT.E==6)) (
bd (ae n Nb.2.2.2.2.1) λ_=>
bd (aC n Nb.2.1.dg.T.bN) λx98=>
cn (((x98.length:Int)==0)) (
bd (ae n Nb.2.2.2.2.1) λ_=>
bd (aD n Nb.2.2.1) λafp=>
bd (aB n afp) λaao=>
bd (ae n Nb.2.2.2.2.1) λaan=>
cl ((((((wr .i64 (aao+(aan.length:Int)))==3)&&true)&&(YP.E==4))==true)) (aM n) default λLZ=>
some ((((((wr .i64 (aao+(aan.length:Int)))==3)&&true)&&(YP.E==4))&&LZ))) (
some (false))) (
some (false))) (
bd (aR n Nb.2.1 Nb.2.2.1 Nb.2.2.2.1 Nb.2.2.2.2.1 Nb.2.2.2.2.2 YP.W 1) λrz=>
cn ((rz.1!=0)) (
bd (az n rz.2.1 rz.2.2.1 rz.2.2.2.1 rz.2.2.2.2.1 rz.2.2.2.2.2.1 ({({ax with Do:=6}:ai)with R:=YP.W}:ai)) λNM=>
cn ((XT.E==6)) (
bd (ae n NM.2.2.2.2.1) λ_=>
bd (aC n NM.2.1.dg.T.bN) λafo=>
cn (((afo.length:Int)==0)) (
bd (ae n NM.2.2.2.2.1) λ_=>
bd (aD n NM.2.2.1) λafn=>
bd (aB n afn) λaam=>
bd (ae n NM.2.2.2.2.1) λaal=>
cl ((((((wr .i64 (aam+(aal.length:Int)))==3)&&true)&&(rz.1==4))==true)) (aM n) default λafm=>
some ((((((wr .i64 (aam+(aal.length:Int)))==3)&&true)&&(rz.1==4))&&afm))) (
some (false))) (
some (false))) (
cn ((XT.E==6)) (
bd (ae n rz.2.2.2.2.1) λ_=>
bd (aC n rz.2.1.dg.T.bN) λU1=>
cn (((U1.length:Int)==0)) (
bd (ae n rz.2.2.2.2.1) λ_=>
bd (aD n rz.2.2.1) λafl=>
bd (aB n afl) λaak=>
bd (ae n rz.2.2.2.2.1) λaaj=>
cl ((((((wr .i64 (aak+(aaj.length:Int)))==3)&&true)&&false)==true)) (aM n) default λafk=>
some ((((((wr .i64 (aak+(aaj.length:Int)))==3)&&true)&&false)&&afk))) (
some (false))) (
some (false))))) (
bd (aR n Ls.2.1 Ls.2.2.1 Ls.2.2.2.1 Ls.2.2.2.2.1 Ls.2.2.2.2.2 XT.W 1) λyV=>
cn ((yV.1!=0)) (
bd (az n yV.2.1 yV.2.2.1 yV.2.2.2.1 yV.2.2.2.2.1 yV.2.2.2.2.2.1 ({({ax with Do:=6}:ai)with R:=XT.W}:ai)) λNK=>
bd (az n NK.2.1 NK.2.2.1 NK.2.2.2.1 NK.2.2.2.2.1 NK.2.2.2.2.2 ({({({ax with Do:=1}:ai)with R:=9}:ai)with A:=wr .u32 4}:ai)) λC9=>
lt (C9.1:ah) λNJ=>
cn ((NJ.E !=0)) (
cn ((yV.1==6)) (
bd (ae n C9.2.2.2.2.1) λ_=>
bd (aC n C9.2.1.dg.T.bN) λafj=>
cn (((afj.length:Int)==0)) (
bd (ae n C9.2.2.2.2.1) λ_=>
bd (aD n C9.2.2.1) λafi=>
bd (aB n afi) λaai=>
bd (ae n C9.2.2.2.2.1) λaah=>
cl ((((((wr .i64 (aai+(aah.length:Int)))==3)&&true)&&(NJ.E==4))==true)) (aM n) default λafh=>
some ((((((wr .i64 (aai+(aah.length:Int)))==3)&&true)&&(NJ.E==4))&&afh))) (
some (false))) (
some (false))) (
bd (aR n C9.2.1 C9.2.2.1 C9.2.2.2.1 C9.2.2.2.2.1 C9.2.2.2.2.2 NJ.W 1) λAy=>
cn ((Ay.1!=0)) (
bd (az n Ay.2.1 Ay.2.2.1 Ay.2.2.2.1 Ay.2.2.2.2.1 Ay.2.2.2.2.2.1 ({({ax with Do:=6}:ai)with R:=NJ.W}:ai)) λNI=>
cn ((yV.1==6)) (
bd (ae n NI.2.2.2.2.1) λ_=>
bd (aC n NI.2.1.dg.T.bN) λafg=>
cn (((afg.length:Int)==0)) (
bd (ae n NI.2.2.2.2.1) λ_=>
bd (aD n NI.2.2.1) λaff=>
bd (aB n aff) λaag=>
bd (ae n NI.2.2.2.2.1) λaaf=>
cl ((((((wr .i64 (aag+(aaf.length:Int)))==3)&&true)&&(Ay.1==4))==true)) (aM n) default λafe=>
some ((((((wr .i64 (aag+(aaf.length:Int)))==3)&&true)&&(Ay.1==4))&&afe))) (
some (false))) (
some (false))) (
cn ((yV.1==6)) (
bd (ae n Ay.2.2.2.2.1) λ_=>
bd (aC n Ay.2.1.dg.T.bN) λafd=>
cn (((afd.length:Int)==0)) (
bd (ae n Ay.2.2.2.2.1) λ_=>
bd (aD n Ay.2.2.1) λafc=>
bd (aB n afc) λaae=>
bd (ae n Ay.2.2.2.2.1) λIT=>
cl ((((((wr .i64 (aae+(IT.length:Int)))==3)&&true)&&false)==true)) (aM n) default λLY=>
some ((((((wr .i64 (aae+(IT.length:Int)))==3)&&true)&&false)&&LY))) (
some (false))) (
some (false))))) (
bd (az n yV.2.1 yV.2.2.1 yV.2.2.2.1 yV.2.2.2.2.1 yV.2.2.2.2.2.1 ({({({ax with Do:=1}:ai)with R:=9}:ai)with A:=wr .u32 4}:ai)) λLX=>
lt (LX.1:ah) λU0=>
cn ((U0.E !=0)) (
some (false)) (
bd (aR n LX.2.1 LX.2.2.1 LX.2.2.2.1 LX.2.2.2.2.1 LX.2.2.2.2.2 U0.W 1) λLW=>
cn ((LW.1!=0)) (
bd (az n LW.2.1 LW.2.2.1 LW.2.2.2.1 LW.2.2.2.2.1 LW.2.2.2.2.2.1 ({({ax with Do:=6}:ai)with R:=U0.W}:ai)) λ_=>
some (false)) (
some (false)))))))) λX8=>
X8 1)) (
bd (jc n a0) λafb=>
bd (bH n afb) λ_=>
bd (bH n 8) λ_=>
lt (({aU with E:=1}:ah):ah) λafa=>
lt (afa:ah) λae9=>
cn (((((aE !=1)||(ae9.E !=1))||false)||false)) (
some (false)) (
lt (λ(Rj:Int)=>
cn ((Rj !=0)) (
cn ((Rj !=1)) (
some (false)) (
bd (nK n 3) λae8=>
bd (fe n) λae7=>
bd (az n ae7 ({({dF with n:=3}:au)with pe:=ae8}:au) bW [] 0 ({({({ax with Do:=1}:ai)with R:=0}:ai)with A:=wr .u32 9}:ai)) λC8=>
lt (C8.1:ah) λLV=>
cn ((LV.E !=0)) (
bd (az n C8.2.1 C8.2.2.1 C8.2.2.2.1 C8.2.2.2.2.1 C8.2.2.2.2.2 ({({({ax with Do:=1}:ai)with R:=9}:ai)with A:=wr .u32 4}:ai)) λC7=>
lt (C7.1:ah) λNH=>
cn ((NH.E !=0)) (
cn ((LV.E==6)) (
bd (ae n C7.2.2.2.2.1) λ_=>
bd (aC n C7.2.1.dg.T.bN) λae6=>
cn (((ae6.length:Int)==0)) (
bd (ae n C7.2.2.2.2.1) λ_=>
bd (aD n C7.2.2.1) λae5=>
bd (aB n ae5) λaad=>
bd (ae n C7.2.2.2.2.1) λLU=>
cl ((((((wr .i64 (aad+(LU.length:Int)))==3)&&true)&&(NH.E==4))==true)) (aM n) default λae4=>
some ((((((wr .i64 (aad+(LU.length:Int)))==3)&&true)&&(NH.E==4))&&ae4))) (
some (false))) (
some (false))) (
bd (aR n C7.2.1 C7.2.2.1 C7.2.2.2.1 C7.2.2.2.2.1 C7.2.2.2.2.2 NH.W 1) λAw=>
cn ((Aw.1!=0)) (
bd (az n Aw.2.1 Aw.2.2.1 Aw.2.2.2.1 Aw.2.2.2.2.1 Aw.2.2.2.2.2.1 ({({ax with Do:=6}:ai)with R:=NH.W}:ai)) λNG=>
cn ((LV.E==6)) (
bd (ae n NG.2.2.2.2.1) λ_=>
bd (aC n NG.2.1.dg.T.bN) λae3=>
cn (((ae3.length:Int)==0)) (
bd (ae n NG.2.2.2.2.1) λ_=>
bd (aD n NG.2.2.1) λae2=>
bd (aB n ae2) λaac=>
bd (ae n NG.2.2.2.2.1) λZ9=>
cl ((((((wr .i64 (aac+(Z9.length:Int)))==3)&&true)&&(Aw.1==4))==true)) (aM n) default λae1=>
some ((((((wr .i64 (aac+(Z9.length:Int)))==3)&&true)&&(Aw.1==4))&&ae1))) (
some (false))) (
some (false))) (
cn ((LV.E==6)) (
bd (ae n Aw.2.2.2.2.1) λ_=>
bd (aC n Aw.2.1.dg.T.bN) λae0=>
cn (((ae0.length:Int)==0)) (
bd (ae n Aw.2.2.2.2.1) λ_=>
bd (aD n Aw.2.2.1) λaeZ=>
bd (aB n aeZ) λZ8=>
bd (ae n Aw.2.2.2.2.1) λZ7=>
cl ((((((wr .i64 (Z8+(Z7.length:Int)))==3)&&true)&&false)==true)) (aM n) default λaeY=>
some ((((((wr .i64 (Z8+(Z7.length:Int)))==3)&&true)&&false)&&aeY))) (
some (false))) (
some (false))))) (
bd (aR n C8.2.1 C8.2.2.1 C8.2.2.2.1 C8.2.2.2.2.1 C8.2.2.2.2.2 LV.W 1) λyU=>
cn ((yU.1!=0)) (
bd (az n yU.2.1 yU.2.2.1 yU.2.2.2.1 yU.2.2.2.2.1 yU.2.2.2.2.2.1 ({({ax with Do:=6}:ai)with R:=LV.W}:ai)) λEH=>
bd (az n EH.2.1 EH.2.2.1 EH.2.2.2.1 EH.2.2.2.2.1 EH.2.2.2.2.2 ({({({ax with Do:=1}:ai)with R:=9}:ai)with A:=wr .u32 4}:ai)) λyT=>
lt (yT.1:ah) λNF=>
cn ((NF.E !=0)) (
cn ((yU.1==6)) (
bd (ae n yT.2.2.2.2.1) λ_=>
bd (aC n yT.2.1.dg.T.bN) λaeX=>
cn (((aeX.length:Int)==0)) (
bd (ae n yT.2.2.2.2.1) λ_=>
bd (aD n yT.2.2.1) λaeW=>
bd (aB n aeW) λZ6=>
bd (ae n yT.2.2.2.2.1) λZ5=>
cl ((((((wr .i64 (Z6+(Z5.length:Int)))==3)&&true)&&(NF.E==4))==true)) (aM n) default λaeV=>
some ((((((wr .i64 (Z6+(Z5.length:Int)))==3)&&true)&&(NF.E==4))&&aeV))) (
some (false))) (
some (false))) (
bd (aR n yT.2.1 yT.2.2.1 yT.2.2.2.1 yT.2.2.2.2.1 yT.2.2.2.2.2 NF.W 1) λAv=>
cn ((Av.1!=0)) (
bd (az n Av.2.1 Av.2.2.1 Av.2.2.2.1 Av.2.2.2.2.1 Av.2.2.2.2.2.1 ({({ax with Do:=6}:ai)with R:=NF.W}:ai)) λIS=>
cn ((yU.1==6)) (
bd (ae n IS.2.2.2.2.1) λ_=>
bd (aC n IS.2.1.dg.T.bN) λaeU=>
cn (((aeU.length:Int)==0)) (
bd (ae n IS.2.2.2.2.1) λ_=>
bd (aD n IS.2.2.1) λaeT=>
bd (aB n aeT) λZ4=>
bd (ae n IS.2.2.2.2.1) λZ3=>
cl ((((((wr .i64 (Z4+(Z3.length:Int)))==3)&&true)&&(Av.1==4))==true)) (aM n) default λaeS=>
some ((((((wr .i64 (Z4+(Z3.length:Int)))==3)&&true)&&(Av.1==4))&&aeS))) (
some (false))) (
some (false))) (
cn ((yU.1==6)) (
bd (ae n Av.2.2.2.2.1) λ_=>
bd (aC n Av.2.1.dg.T.bN) λaeR=>
cn (((aeR.length:Int)==0)) (
bd (ae n Av.2.2.2.2.1) λ_=>
bd (aD n Av.2.2.1) λaeQ=>
bd (aB n aeQ) λZ2=>
bd (ae n Av.2.2.2.2.1) λZ1=>
cl ((((((wr .i64 (Z2+(Z1.length:Int)))==3)&&true)&&false)==true)) (aM n) default λaeP=>
some ((((((wr .i64 (Z2+(Z1.length:Int)))==3)&&true)&&false)&&aeP))) (
some (false))) (
some (false))))) (
bd (az n yU.2.1 yU.2.2.1 yU.2.2.2.1 yU.2.2.2.2.1 yU.2.2.2.2.2.1 ({({({ax with Do:=1}:ai)with R:=9}:ai)with A:=wr .u32 4}:ai)) λLR=>
lt (LR.1:ah) λUZ=>
cn ((UZ.E !=0)) (
some (false)) (
bd (aR n LR.2.1 LR.2.2.1 LR.2.2.2.1 LR.2.2.2.2.1 LR.2.2.2.2.2 UZ.W 1) λLQ=>
cn ((LQ.1!=0)) (
bd (az n LQ.2.1 LQ.2.2.1 LQ.2.2.2.1 LQ.2.2.2.2.1 LQ.2.2.2.2.2.1 ({({ax with Do:=6}:ai)with R:=UZ.W}:ai)) λ_=>
some (false)) (
some (false))))))) (
bd (jc n a0) λaeO=>
bd (bH n aeO) λ_=>
bd (bH n 8) λ_=>
lt (({aU with E:=1}:ah):ah) λaeN=>
cn ((aeN.E !=1)) (
some (false)) (
bd (nK n 3) λaeM=>
bd (fe n) λaeL=>
bd (az n aeL ({({dF with n:=3}:au)with pe:=aeM}:au) bW [] 0 ({({({ax with Do:=1}:ai)with R:=0}:ai)with A:=wr .u32 9}:ai)) λC6=>
lt (C6.1:ah) λLM=>
cn ((LM.E !=0)) (
bd (az n C6.2.1 C6.2.2.1 C6.2.2.2.1 C6.2.2.2.2.1 C6.2.2.2.2.2 ({({({ax with Do:=1}:ai)with R:=9}:ai)with A:=wr .u32 4}:ai)) λC5=>
lt (C5.1:ah) λND=>
cn ((ND.E !=0)) (
cn ((LM.E==6)) (
bd (ae n C5.2.2.2.2.1) λ_=>
bd (aC n C5.2.1.dg.T.bN) λaeK=>
cn (((aeK.length:Int)==0)) (
bd (ae n C5.2.2.2.2.1) λ_=>
bd (aD n C5.2.2.1) λaeJ=>
bd (aB n aeJ) λZ0=>
bd (ae n C5.2.2.2.2.1) λZZ=>
cl ((((((wr .i64 (Z0+(ZZ.length:Int)))==3)&&true)&&(ND.E==4))==true)) (aM n) default λaeI=>
some ((((((wr .i64 (Z0+(ZZ.length:Int)))==3)&&true)&&(ND.E==4))&&aeI))) (
some (false))) (
some (false))) (
bd (aR n C5.2.1 C5.2.2.1 C5.2.2.2.1 C5.2.2.2.2.1 C5.2.2.2.2.2 ND.W 1) λAu=>
cn ((Au.1!=0)) (
bd (az n Au.2.1 Au.2.2.1 Au.2.2.2.1 Au.2.2.2.2.1 Au.2.2.2.2.2.1 ({({ax with Do:=6}:ai)with R:=ND.W}:ai)) λNB=>
cn ((LM.E==6)) (
bd (ae n NB.2.2.2.2.1) λ_=>
bd (aC n NB.2.1.dg.T.bN) λaeH=>
cn (((aeH.length:Int)==0)) (
bd (ae n NB.2.2.2.2.1) λ_=>
bd (aD n NB.2.2.1) λaeG=>
bd (aB n aeG) λZY=>
bd (ae n NB.2.2.2.2.1) λZX=>
cl ((((((wr .i64 (ZY+(ZX.length:Int)))==3)&&true)&&(Au.1==4))==true)) (aM n) default λaeF=>
some ((((((wr .i64 (ZY+(ZX.length:Int)))==3)&&true)&&(Au.1==4))&&aeF))) (
some (false))) (
some (false))) (
cn ((LM.E==6)) (
bd (ae n Au.2.2.2.2.1) λ_=>
bd (aC n Au.2.1.dg.T.bN) λaeE=>
cn (((aeE.length:Int)==0)) (
bd (ae n Au.2.2.2.2.1) λ_=>
bd (aD n Au.2.2.1) λaeD=>
bd (aB n aeD) λZW=>
bd (ae n Au.2.2.2.2.1) λZV=>
cl ((((((wr .i64 (ZW+(ZV.length:Int)))==3)&&true)&&false)==true)) (aM n) default λaeC=>
some ((((((wr .i64 (ZW+(ZV.length:Int)))==3)&&true)&&false)&&aeC))) (
some (false))) (
some (false))))) (
bd (aR n C6.2.1 C6.2.2.1 C6.2.2.2.1 C6.2.2.2.2.1 C6.2.2.2.2.2 LM.W 1) λyS=>
cn ((yS.1!=0)) (
bd (az n yS.2.1 yS.2.2.1 yS.2.2.2.1 yS.2.2.2.2.1 yS.2.2.2.2.2.1 ({({ax with Do:=6}:ai)with R:=LM.W}:ai)) λNA=>
bd (az n NA.2.1 NA.2.2.1 NA.2.2.2.1 NA.2.2.2.2.1 NA.2.2.2.2.2 ({({({ax with Do:=1}:ai)with R:=9}:ai)with A:=wr .u32 4}:ai)) λC4=>
lt (C4.1:ah) λNz=>
cn ((Nz.E !=0)) (
cn ((yS.1==6)) (
bd (ae n C4.2.2.2.2.1) λ_=>
bd (aC n C4.2.1.dg.T.bN) λaeB=>
cn (((aeB.length:Int)==0)) (
bd (ae n C4.2.2.2.2.1) λ_=>
bd (aD n C4.2.2.1) λaeA=>
bd (aB n aeA) λZU=>
bd (ae n C4.2.2.2.2.1) λZS=>
cl ((((((wr .i64 (ZU+(ZS.length:Int)))==3)&&true)&&(Nz.E==4))==true)) (aM n) default λaez=>
some ((((((wr .i64 (ZU+(ZS.length:Int)))==3)&&true)&&(Nz.E==4))&&aez))) (
some (false))) (
some (false))) (
bd (aR n C4.2.1 C4.2.2.1 C4.2.2.2.1 C4.2.2.2.2.1 C4.2.2.2.2.2 Nz.W 1) λAs=>
cn ((As.1!=0)) (
bd (az n As.2.1 As.2.2.1 As.2.2.2.1 As.2.2.2.2.1 As.2.2.2.2.2.1 ({({ax with Do:=6}:ai)with R:=Nz.W}:ai)) λNy=>
cn ((yS.1==6)) (
bd (ae n Ny.2.2.2.2.1) λ_=>
bd (aC n Ny.2.1.dg.T.bN) λaey=>
cn (((aey.length:Int)==0)) (
bd (ae n Ny.2.2.2.2.1) λ_=>
bd (aD n Ny.2.2.1) λaex=>
bd (aB n aex) λZR=>
bd (ae n Ny.2.2.2.2.1) λZQ=>
cl ((((((wr .i64 (ZR+(ZQ.length:Int)))==3)&&true)&&(As.1==4))==true)) (aM n) default λaew=>
some ((((((wr .i64 (ZR+(ZQ.length:Int)))==3)&&true)&&(As.1==4))&&aew))) (
some (false))) (
some (false))) (
cn ((yS.1==6)) (
bd (ae n As.2.2.2.2.1) λ_=>
bd (aC n As.2.1.dg.T.bN) λaev=>
cn (((aev.length:Int)==0)) (
bd (ae n As.2.2.2.2.1) λ_=>
bd (aD n As.2.2.1) λaeu=>
bd (aB n aeu) λZP=>
bd (ae n As.2.2.2.2.1) λZO=>
cl ((((((wr .i64 (ZP+(ZO.length:Int)))==3)&&true)&&false)==true)) (aM n) default λaet=>
some ((((((wr .i64 (ZP+(ZO.length:Int)))==3)&&true)&&false)&&aet))) (
some (false))) (
some (false))))) (
bd (az n yS.2.1 yS.2.2.1 yS.2.2.2.1 yS.2.2.2.2.1 yS.2.2.2.2.2.1 ({({({ax with Do:=1}:ai)with R:=9}:ai)with A:=wr .u32 4}:ai)) λLL=>
lt (LL.1:ah) λUY=>
cn ((UY.E !=0)) (
some (false)) (
bd (aR n LL.2.1 LL.2.2.1 LL.2.2.2.1 LL.2.2.2.2.1 LL.2.2.2.2.2 UY.W 1) λLK=>
cn ((LK.1!=0)) (
bd (az n LK.2.1 LK.2.2.1 LK.2.2.2.1 LK.2.2.2.2.1 LK.2.2.2.2.2.1 ({({ax with Do:=6}:ai)with R:=UY.W}:ai)) λ_=>
some (false)) (
some (false)))))))) λafM=>
afM 1))) λj24=>
j24 1) (
bd (jc n (-1)) λaes=>
bd (bH n aes) λ_=>
bd (bH n 8) λ_=>
lt (({aU with E:=1}:ah):ah) λaer=>
lt (aer:ah) λZN=>
lt (λ(UX:Int)=>
cn ((UX !=0)) (
lt (λ(ZM:Int)=>
cn ((ZM !=0)) (
cn (((((UX !=1)||(ZM !=1))||false)||false)) (
some (false)) (
lt (λ(ZL:Int)=>
cn ((ZL !=0)) (
cn ((ZL !=1)) (
some (false)) (
bd (nK n 3) λaeq=>
bd (fe n) λaep=>
bd (az n aep ({({dF with n:=3}:au)with pe:=aeq}:au) bW [] 0 ({({({ax with Do:=1}:ai)with R:=0}:ai)with A:=wr .u32 9}:ai)) λC3=>
lt (C3.1:ah) λLJ=>
cn ((LJ.E !=0)) (
bd (az n C3.2.1 C3.2.2.1 C3.2.2.2.1 C3.2.2.2.2.1 C3.2.2.2.2.2 ({({({ax with Do:=1}:ai)with R:=9}:ai)with A:=wr .u32 4}:ai)) λC2=>
lt (C2.1:ah) λNx=>
cn ((Nx.E !=0)) (
cn ((LJ.E==6)) (
bd (ae n C2.2.2.2.2.1) λ_=>
bd (aC n C2.2.1.dg.T.bN) λaeo=>
cn (((aeo.length:Int)==0)) (
bd (ae n C2.2.2.2.2.1) λ_=>
bd (aD n C2.2.2.1) λaen=>
bd (aB n aen) λZK=>
bd (ae n C2.2.2.2.2.1) λZJ=>
cl ((((((wr .i64 (ZK+(ZJ.length:Int)))==3)&&true)&&(Nx.E==4))==true)) (aM n) default λaem=>
some ((((((wr .i64 (ZK+(ZJ.length:Int)))==3)&&true)&&(Nx.E==4))&&aem))) (
some (false))) (
some (false))) (
bd (aR n C2.2.1 C2.2.2.1 C2.2.2.2.1 C2.2.2.2.2.1 C2.2.2.2.2.2 Nx.W 1) λAr=>
cn ((Ar.1!=0)) (
bd (az n Ar.2.1 Ar.2.2.1 Ar.2.2.2.1 Ar.2.2.2.2.1 Ar.2.2.2.2.2.1 ({({ax with Do:=6}:ai)with R:=Nx.W}:ai)) λNw=>
cn ((LJ.E==6)) (
bd (ae n Nw.2.2.2.2.1) λ_=>
bd (aC n Nw.2.1.dg.T.bN) λael=>
cn (((ael.length:Int)==0)) (
bd (ae n Nw.2.2.2.2.1) λ_=>
bd (aD n Nw.2.2.1) λaek=>
bd (aB n aek) λZI=>
bd (ae n Nw.2.2.2.2.1) λZH=>
cl ((((((wr .i64 (ZI+(ZH.length:Int)))==3)&&true)&&(Ar.1==4))==true)) (aM n) default λaej=>
some ((((((wr .i64 (ZI+(ZH.length:Int)))==3)&&true)&&(Ar.1==4))&&aej))) (
some (false))) (
some (false))) (
cn ((LJ.E==6)) (
bd (ae n Ar.2.2.2.2.1) λ_=>
bd (aC n Ar.2.1.dg.T.bN) λaei=>
cn (((aei.length:Int)==0)) (
bd (ae n Ar.2.2.2.2.1) λ_=>
bd (aD n Ar.2.2.1) λaeh=>
bd (aB n aeh) λZG=>
bd (ae n Ar.2.2.2.2.1) λZF=>
cl ((((((wr .i64 (ZG+(ZF.length:Int)))==3)&&true)&&false)==true)) (aM n) default λaeg=>
some ((((((wr .i64 (ZG+(ZF.length:Int)))==3)&&true)&&false)&&aeg))) (
some (false))) (
some (false))))) (
bd (aR n C3.2.1 C3.2.2.1 C3.2.2.2.1 C3.2.2.2.2.1 C3.2.2.2.2.2 LJ.W 1) λyR=>
cn ((yR.1!=0)) (
bd (az n yR.2.1 yR.2.2.1 yR.2.2.2.1 yR.2.2.2.2.1 yR.2.2.2.2.2.1 ({({ax with Do:=6}:ai)with R:=LJ.W}:ai)) λNv=>
bd (az n Nv.2.1 Nv.2.2.1 Nv.2.2.2.1 Nv.2.2.2.2.1 Nv.2.2.2.2.2 ({({({ax with Do:=1}:ai)with R:=9}:ai)with A:=wr .u32 4}:ai)) λC0=>
lt (C0.1:ah) λNu=>
cn ((Nu.E !=0)) (
cn ((yR.1==6)) (
bd (ae n C0.2.2.2.2.1) λ_=>
bd (aC n C0.2.1.dg.T.bN) λaef=>
cn (((aef.length:Int)==0)) (
bd (ae n C0.2.2.2.2.1) λ_=>
bd (aD n C0.2.2.1) λaee=>
bd (aB n aee) λZE=>
bd (ae n C0.2.2.2.2.1) λZD=>
cl ((((((wr .i64 (ZE+(ZD.length:Int)))==3)&&true)&&(Nu.E==4))==true)) (aM n) default λaed=>
some ((((((wr .i64 (ZE+(ZD.length:Int)))==3)&&true)&&(Nu.E==4))&&aed))) (
some (false))) (
some (false))) (
bd (aR n C0.2.1 C0.2.2.1 C0.2.2.2.1 C0.2.2.2.2.1 C0.2.2.2.2.2 Nu.W 1) λAq=>
cn ((Aq.1!=0)) (
bd (az n Aq.2.1 Aq.2.2.1 Aq.2.2.2.1 Aq.2.2.2.2.1 Aq.2.2.2.2.2.1 ({({ax with Do:=6}:ai)with R:=Nu.W}:ai)) λNt=>
cn ((yR.1==6)) (
bd (ae n Nt.2.2.2.2.1) λ_=>
bd (aC n Nt.2.1.dg.T.bN) λaec=>
cn (((aec.length:Int)==0)) (
bd (ae n Nt.2.2.2.2.1) λ_=>
bd (aD n Nt.2.2.1) λaeb=>
bd (aB n aeb) λZC=>
bd (ae n Nt.2.2.2.2.1) λZB=>
cl ((((((wr .i64 (ZC+(ZB.length:Int)))==3)&&true)&&(Aq.1==4))==true)) (aM n) default λaea=>
some ((((((wr .i64 (ZC+(ZB.length:Int)))==3)&&true)&&(Aq.1==4))&&aea))) (
some (false))) (
some (false))) (
cn ((yR.1==6)) (
bd (ae n Aq.2.2.2.2.1) λ_=>
bd (aC n Aq.2.1.dg.T.bN) λad9=>
cn (((ad9.length:Int)==0)) (
bd (ae n Aq.2.2.2.2.1) λ_=>
bd (aD n Aq.2.2.1) λad8=>
bd (aB n ad8) λZA=>
bd (ae n Aq.2.2.2.2.1) λZz=>
cl ((((((wr .i64 (ZA+(Zz.length:Int)))==3)&&true)&&false)==true)) (aM n) default λad7=>
some ((((((wr .i64 (ZA+(Zz.length:Int)))==3)&&true)&&false)&&ad7))) (
some (false))) (
some (false))))) (
bd (az n yR.2.1 yR.2.2.1 yR.2.2.2.1 yR.2.2.2.2.1 yR.2.2.2.2.2.1 ({({({ax with Do:=1}:ai)with R:=9}:ai)with A:=wr .u32 4}:ai)) λLH=>
lt (LH.1:ah) λUW=>
cn ((UW.E !=0)) (
some (false)) (
bd (aR n LH.2.1 LH.2.2.1 LH.2.2.2.1 LH.2.2.2.2.1 LH.2.2.2.2.2 UW.W 1) λLG=>
cn ((LG.1!=0)) (
bd (az n LG.2.1 LG.2.2.1 LG.2.2.2.1 LG.2.2.2.2.1 LG.2.2.2.2.2.1 ({({ax with Do:=6}:ai)with R:=UW.W}:ai)) λ_=>
some (false)) (
some (false))))))) (
bd (jc n a0) λad6=>
bd (bH n ad6) λ_=>
bd (bH n 8) λ_=>
lt (({aU with E:=1}:ah):ah) λad5=>
cn ((ad5.E !=1)) (
some (false)) (
bd (nK n 3) λad4=>
bd (fe n) λad3=>
bd (az n ad3 ({({dF with n:=3}:au)with pe:=ad4}:au) bW [] 0 ({({({ax with Do:=1}:ai)with R:=0}:ai)with A:=wr .u32 9}:ai)) λCZ=>
lt (CZ.1:ah) λLF=>
cn ((LF.E !=0)) (
bd (az n CZ.2.1 CZ.2.2.1 CZ.2.2.2.1 CZ.2.2.2.2.1 CZ.2.2.2.2.2 ({({({ax with Do:=1}:ai)with R:=9}:ai)with A:=wr .u32 4}:ai)) λCY=>
lt (CY.1:ah) λNs=>
cn ((Ns.E !=0)) (
cn ((LF.E==6)) (
bd (ae n CY.2.2.2.2.1) λ_=>
bd (aC n CY.2.1.dg.T.bN) λad2=>
cn (((ad2.length:Int)==0)) (
bd (ae n CY.2.2.2.2.1) λ_=>
bd (aD n CY.2.2.1) λad1=>
bd (aB n ad1) λZy=>
bd (ae n CY.2.2.2.2.1) λZx=>
cl ((((((wr .i64 (Zy+(Zx.length:Int)))==3)&&true)&&(Ns.E==4))==true)) (aM n) default λad0=>
some ((((((wr .i64 (Zy+(Zx.length:Int)))==3)&&true)&&(Ns.E==4))&&ad0))) (
some (false))) (
some (false))) (
bd (aR n CY.2.1 CY.2.2.1 CY.2.2.2.1 CY.2.2.2.2.1 CY.2.2.2.2.2 Ns.W 1) λAp=>
cn ((Ap.1!=0)) (
bd (az n Ap.2.1 Ap.2.2.1 Ap.2.2.2.1 Ap.2.2.2.2.1 Ap.2.2.2.2.2.1 ({({ax with Do:=6}:ai)with R:=Ns.W}:ai)) λNr=>
cn ((LF.E==6)) (
bd (ae n Nr.2.2.2.2.1) λ_=>
bd (aC n Nr.2.1.dg.T.bN) λadZ=>
cn (((adZ.length:Int)==0)) (
bd (ae n Nr.2.2.2.2.1) λ_=>
bd (aD n Nr.2.2.1) λadY=>
bd (aB n adY) λZw=>
bd (ae n Nr.2.2.2.2.1) λZv=>
cl ((((((wr .i64 (Zw+(Zv.length:Int)))==3)&&true)&&(Ap.1==4))==true)) (aM n) default λadX=>
some ((((((wr .i64 (Zw+(Zv.length:Int)))==3)&&true)&&(Ap.1==4))&&adX))) (
some (false))) (
some (false))) (
cn ((LF.E==6)) (
bd (ae n Ap.2.2.2.2.1) λ_=>
bd (aC n Ap.2.1.dg.T.bN) λadW=>
cn (((adW.length:Int)==0)) (
bd (ae n Ap.2.2.2.2.1) λ_=>
bd (aD n Ap.2.2.1) λadV=>
bd (aB n adV) λZu=>
bd (ae n Ap.2.2.2.2.1) λZt=>
cl ((((((wr .i64 (Zu+(Zt.length:Int)))==3)&&true)&&false)==true)) (aM n) default λadU=>
some ((((((wr .i64 (Zu+(Zt.length:Int)))==3)&&true)&&false)&&adU))) (
some (false))) (
some (false))))) (
bd (aR n CZ.2.1 CZ.2.2.1 CZ.2.2.2.1 CZ.2.2.2.2.1 CZ.2.2.2.2.2 LF.W 1) λyQ=>
cn ((yQ.1!=0)) (
bd (az n yQ.2.1 yQ.2.2.1 yQ.2.2.2.1 yQ.2.2.2.2.1 yQ.2.2.2.2.2.1 ({({ax with Do:=6}:ai)with R:=LF.W}:ai)) λNq=>
bd (az n Nq.2.1 Nq.2.2.1 Nq.2.2.2.1 Nq.2.2.2.2.1 Nq.2.2.2.2.2 ({({({ax with Do:=1}:ai)with R:=9}:ai)with A:=wr .u32 4}:ai)) λCX=>
lt (CX.1:ah) λNp=>
cn ((Np.E !=0)) (
cn ((yQ.1==6)) (
bd (ae n CX.2.2.2.2.1) λ_=>
bd (aC n CX.2.1.dg.T.bN) λadT=>
cn (((adT.length:Int)==0)) (
bd (ae n CX.2.2.2.2.1) λ_=>
bd (aD n CX.2.2.1) λadS=>
bd (aB n adS) λZs=>
bd (ae n CX.2.2.2.2.1) λZr=>
cl ((((((wr .i64 (Zs+(Zr.length:Int)))==3)&&true)&&(Np.E==4))==true)) (aM n) default λadR=>
some ((((((wr .i64 (Zs+(Zr.length:Int)))==3)&&true)&&(Np.E==4))&&adR))) (
some (false))) (
some (false))) (
bd (aR n CX.2.1 CX.2.2.1 CX.2.2.2.1 CX.2.2.2.2.1 CX.2.2.2.2.2 Np.W 1) λAo=>
cn ((Ao.1!=0)) (
bd (az n Ao.2.1 Ao.2.2.1 Ao.2.2.2.1 Ao.2.2.2.2.1 Ao.2.2.2.2.2.1 ({({ax with Do:=6}:ai)with R:=Np.W}:ai)) λNo=>
cn ((yQ.1==6)) (
bd (ae n No.2.2.2.2.1) λ_=>
bd (aC n No.2.1.dg.T.bN) λadQ=>
cn (((adQ.length:Int)==0)) (
bd (ae n No.2.2.2.2.1) λ_=>
bd (aD n No.2.2.1) λadP=>
bd (aB n adP) λZq=>
bd (ae n No.2.2.2.2.1) λZp=>
cl ((((((wr .i64 (Zq+(Zp.length:Int)))==3)&&true)&&(Ao.1==4))==true)) (aM n) default λadO=>
some ((((((wr .i64 (Zq+(Zp.length:Int)))==3)&&true)&&(Ao.1==4))&&adO))) (
some (false))) (
some (false))) (
cn ((yQ.1==6)) (
bd (ae n Ao.2.2.2.2.1) λ_=>
bd (aC n Ao.2.1.dg.T.bN) λadN=>
cn (((adN.length:Int)==0)) (
bd (ae n Ao.2.2.2.2.1) λ_=>
bd (aD n Ao.2.2.1) λadM=>
bd (aB n adM) λZo=>
bd (ae n Ao.2.2.2.2.1) λZn=>
cl ((((((wr .i64 (Zo+(Zn.length:Int)))==3)&&true)&&false)==true)) (aM n) default λadL=>
some ((((((wr .i64 (Zo+(Zn.length:Int)))==3)&&true)&&false)&&adL))) (
some (false))) (
some (false))))) (
bd (az n yQ.2.1 yQ.2.2.1 yQ.2.2.2.1 yQ.2.2.2.2.1 yQ.2.2.2.2.2.1 ({({({ax with Do:=1}:ai)with R:=9}:ai)with A:=wr .u32 4}:ai)) λLD=>
lt (LD.1:ah) λUU=>
cn ((UU.E !=0)) (
some (false)) (
bd (aR n LD.2.1 LD.2.2.1 LD.2.2.2.1 LD.2.2.2.2.1 LD.2.2.2.2.2 UU.W 1) λLC=>
cn ((LC.1!=0)) (
bd (az n LC.2.1 LC.2.2.1 LC.2.2.2.1 LC.2.2.2.2.1 LC.2.2.2.2.2.1 ({({ax with Do:=6}:ai)with R:=UU.W}:ai)) λ_=>
some (false)) (
some (false)))))))) λafK=>
afK 1)) (
bd (jc n a0) λadK=>
bd (bH n adK) λ_=>
bd (bH n 8) λ_=>
lt (({aU with E:=1}:ah):ah) λadJ=>
lt (adJ:ah) λadI=>
cn (((((UX !=1)||(adI.E !=1))||false)||false)) (
some (false)) (
lt (λ(Zm:Int)=>
cn ((Zm !=0)) (
cn ((Zm !=1)) (
some (false)) (
bd (nK n 3) λadH=>
bd (fe n) λadG=>
bd (az n adG ({({dF with n:=3}:au)with pe:=adH}:au) bW [] 0 ({({({ax with Do:=1}:ai)with R:=0}:ai)with A:=wr .u32 9}:ai)) λCW=>
lt (CW.1:ah) λLz=>
cn ((Lz.E !=0)) (
bd (az n CW.2.1 CW.2.2.1 CW.2.2.2.1 CW.2.2.2.2.1 CW.2.2.2.2.2 ({({({ax with Do:=1}:ai)with R:=9}:ai)with A:=wr .u32 4}:ai)) λCS=>
lt (CS.1:ah) λNn=>
cn ((Nn.E !=0)) (
cn ((Lz.E==6)) (
bd (ae n CS.2.2.2.2.1) λ_=>
bd (aC n CS.2.1.dg.T.bN) λadF=>
cn (((adF.length:Int)==0)) (
bd (ae n CS.2.2.2.2.1) λ_=>
bd (aD n CS.2.2.1) λadE=>
bd (aB n adE) λZl=>
bd (ae n CS.2.2.2.2.1) λZk=>
cl ((((((wr .i64 (Zl+(Zk.length:Int)))==3)&&true)&&(Nn.E==4))==true)) (aM n) default λadD=>
some ((((((wr .i64 (Zl+(Zk.length:Int)))==3)&&true)&&(Nn.E==4))&&adD))) (
some (false))) (
some (false))) (
bd (aR n CS.2.1 CS.2.2.1 CS.2.2.2.1 CS.2.2.2.2.1 CS.2.2.2.2.2 Nn.W 1) λAn=>
cn ((An.1!=0)) (
bd (az n An.2.1 An.2.2.1 An.2.2.2.1 An.2.2.2.2.1 An.2.2.2.2.2.1 ({({ax with Do:=6}:ai)with R:=Nn.W}:ai)) λNm=>
cn ((Lz.E==6)) (
bd (ae n Nm.2.2.2.2.1) λ_=>
bd (aC n Nm.2.1.dg.T.bN) λadC=>
cn (((adC.length:Int)==0)) (
bd (ae n Nm.2.2.2.2.1) λ_=>
bd (aD n Nm.2.2.1) λadB=>
bd (aB n adB) λZj=>
bd (ae n Nm.2.2.2.2.1) λZi=>
cl ((((((wr .i64 (Zj+(Zi.length:Int)))==3)&&true)&&(An.1==4))==true)) (aM n) default λadA=>
some ((((((wr .i64 (Zj+(Zi.length:Int)))==3)&&true)&&(An.1==4))&&adA))) (
some (false))) (
some (false))) (
cn ((Lz.E==6)) (
bd (ae n An.2.2.2.2.1) λ_=>
bd (aC n An.2.1.dg.T.bN) λadz=>
cn (((adz.length:Int)==0)) (
bd (ae n An.2.2.2.2.1) λ_=>
bd (aD n An.2.2.1) λady=>
bd (aB n ady) λZh=>
bd (ae n An.2.2.2.2.1) λZg=>
cl ((((((wr .i64 (Zh+(Zg.length:Int)))==3)&&true)&&false)==true)) (aM n) default λadx=>
some ((((((wr .i64 (Zh+(Zg.length:Int)))==3)&&true)&&false)&&adx))) (
some (false))) (
some (false))))) (
bd (aR n CW.2.1 CW.2.2.1 CW.2.2.2.1 CW.2.2.2.2.1 CW.2.2.2.2.2 Lz.W 1) λyO=>
cn ((yO.1!=0)) (
bd (az n yO.2.1 yO.2.2.1 yO.2.2.2.1 yO.2.2.2.2.1 yO.2.2.2.2.2.1 ({({ax with Do:=6}:ai)with R:=Lz.W}:ai)) λNl=>
bd (az n Nl.2.1 Nl.2.2.1 Nl.2.2.2.1 Nl.2.2.2.2.1 Nl.2.2.2.2.2 ({({({ax with Do:=1}:ai)with R:=9}:ai)with A:=wr .u32 4}:ai)) λCR=>
lt (CR.1:ah) λNk=>
cn ((Nk.E !=0)) (
cn ((yO.1==6)) (
bd (ae n CR.2.2.2.2.1) λ_=>
bd (aC n CR.2.1.dg.T.bN) λadw=>
cn (((adw.length:Int)==0)) (
bd (ae n CR.2.2.2.2.1) λ_=>
bd (aD n CR.2.2.1) λadv=>
bd (aB n adv) λZf=>
bd (ae n CR.2.2.2.2.1) λZe=>
cl ((((((wr .i64 (Zf+(Ze.length:Int)))==3)&&true)&&(Nk.E==4))==true)) (aM n) default λadu=>
some ((((((wr .i64 (Zf+(Ze.length:Int)))==3)&&true)&&(Nk.E==4))&&adu))) (
some (false))) (
some (false))) (
bd (aR n CR.2.1 CR.2.2.1 CR.2.2.2.1 CR.2.2.2.2.1 CR.2.2.2.2.2 Nk.W 1) λAl=>
cn ((Al.1!=0)) (
bd (az n Al.2.1 Al.2.2.1 Al.2.2.2.1 Al.2.2.2.2.1 Al.2.2.2.2.2.1 ({({ax with Do:=6}:ai)with R:=Nk.W}:ai)) λNj=>
cn ((yO.1==6)) (
bd (ae n Nj.2.2.2.2.1) λ_=>
bd (aC n Nj.2.1.dg.T.bN) λadt=>
cn (((adt.length:Int)==0)) (
bd (ae n Nj.2.2.2.2.1) λ_=>
bd (aD n Nj.2.2.1) λads=>
bd (aB n ads) λZd=>
bd (ae n Nj.2.2.2.2.1) λZc=>
cl ((((((wr .i64 (Zd+(Zc.length:Int)))==3)&&true)&&(Al.1==4))==true)) (aM n) default λadr=>
some ((((((wr .i64 (Zd+(Zc.length:Int)))==3)&&true)&&(Al.1==4))&&adr))) (
some (false))) (
some (false))) (
cn ((yO.1==6)) (
bd (ae n Al.2.2.2.2.1) λ_=>
bd (aC n Al.2.1.dg.T.bN) λadq=>
cn (((adq.length:Int)==0)) (
bd (ae n Al.2.2.2.2.1) λ_=>
bd (aD n Al.2.2.1) λadp=>
bd (aB n adp) λZb=>
bd (ae n Al.2.2.2.2.1) λZa=>
cl ((((((wr .i64 (Zb+(Za.length:Int)))==3)&&true)&&false)==true)) (aM n) default λado=>
some ((((((wr .i64 (Zb+(Za.length:Int)))==3)&&true)&&false)&&ado))) (
some (false))) (
some (false))))) (
bd (az n yO.2.1 yO.2.2.1 yO.2.2.2.1 yO.2.2.2.2.1 yO.2.2.2.2.2.1 ({({({ax with Do:=1}:ai)with R:=9}:ai)with A:=wr .u32 4}:ai)) λLx=>
lt (Lx.1:ah) λUT=>
cn ((UT.E !=0)) (
some (false)) (
bd (aR n Lx.2.1 Lx.2.2.1 Lx.2.2.2.1 Lx.2.2.2.2.1 Lx.2.2.2.2.2 UT.W 1) λLw=>
cn ((Lw.1!=0)) (
bd (az n Lw.2.1 Lw.2.2.1 Lw.2.2.2.1 Lw.2.2.2.2.1 Lw.2.2.2.2.2.1 ({({ax with Do:=6}:ai)with R:=UT.W}:ai)) λ_=>
some (false)) (
some (false))))))) (
bd (jc n a0) λadn=>
bd (bH n adn) λ_=>
bd (bH n 8) λ_=>
lt (({aU with E:=1}:ah):ah) λadl=>
cn ((adl.E !=1)) (
some (false)) (
bd (nK n 3) λadk=>
bd (fe n) λadj=>
bd (az n adj ({({dF with n:=3}:au)with pe:=adk}:au) bW [] 0 ({({({ax with Do:=1}:ai)with R:=0}:ai)with A:=wr .u32 9}:ai)) λCQ=>
lt (CQ.1:ah) λLv=>
cn ((Lv.E !=0)) (
bd (az n CQ.2.1 CQ.2.2.1 CQ.2.2.2.1 CQ.2.2.2.2.1 CQ.2.2.2.2.2 ({({({ax with Do:=1}:ai)with R:=9}:ai)with A:=wr .u32 4}:ai)) λCP=>
lt (CP.1:ah) λNi=>
cn ((Ni.E !=0)) (
cn ((Lv.E==6)) (
bd (ae n CP.2.2.2.2.1) λ_=>
bd (aC n CP.2.1.dg.T.bN) λadi=>
cn (((adi.length:Int)==0)) (
bd (ae n CP.2.2.2.2.1) λ_=>
bd (aD n CP.2.2.1) λadh=>
bd (aB n adh) λY9=>
bd (ae n CP.2.2.2.2.1) λY8=>
cl ((((((wr .i64 (Y9+(Y8.length:Int)))==3)&&true)&&(Ni.E==4))==true)) (aM n) default λadg=>
some ((((((wr .i64 (Y9+(Y8.length:Int)))==3)&&true)&&(Ni.E==4))&&adg))) (
some (false))) (
some (false))) (
bd (aR n CP.2.1 CP.2.2.1 CP.2.2.2.1 CP.2.2.2.2.1 CP.2.2.2.2.2 Ni.W 1) λAk=>
cn ((Ak.1!=0)) (
bd (az n Ak.2.1 Ak.2.2.1 Ak.2.2.2.1 Ak.2.2.2.2.1 Ak.2.2.2.2.2.1 ({({ax with Do:=6}:ai)with R:=Ni.W}:ai)) λNh=>
cn ((Lv.E==6)) (
bd (ae n Nh.2.2.2.2.1) λ_=>
bd (aC n Nh.2.1.dg.T.bN) λadf=>
cn (((adf.length:Int)==0)) (
bd (ae n Nh.2.2.2.2.1) λ_=>
bd (aD n Nh.2.2.1) λade=>
bd (aB n ade) λY7=>
bd (ae n Nh.2.2.2.2.1) λY6=>
cl ((((((wr .i64 (Y7+(Y6.length:Int)))==3)&&true)&&(Ak.1==4))==true)) (aM n) default λadb=>
some ((((((wr .i64 (Y7+(Y6.length:Int)))==3)&&true)&&(Ak.1==4))&&adb))) (
some (false))) (
some (false))) (
cn ((Lv.E==6)) (
bd (ae n Ak.2.2.2.2.1) λ_=>
bd (aC n Ak.2.1.dg.T.bN) λada=>
cn (((ada.length:Int)==0)) (
bd (ae n Ak.2.2.2.2.1) λ_=>
bd (aD n Ak.2.2.1) λac9=>
bd (aB n ac9) λY5=>
bd (ae n Ak.2.2.2.2.1) λY4=>
cl ((((((wr .i64 (Y5+(Y4.length:Int)))==3)&&true)&&false)==true)) (aM n) default λac8=>
some ((((((wr .i64 (Y5+(Y4.length:Int)))==3)&&true)&&false)&&ac8))) (
some (false))) (
some (false))))) (
bd (aR n CQ.2.1 CQ.2.2.1 CQ.2.2.2.1 CQ.2.2.2.2.1 CQ.2.2.2.2.2 Lv.W 1) λyN=>
cn ((yN.1!=0)) (
bd (az n yN.2.1 yN.2.2.1 yN.2.2.2.1 yN.2.2.2.2.1 yN.2.2.2.2.2.1 ({({ax with Do:=6}:ai)with R:=Lv.W}:ai)) λNg=>
bd (az n Ng.2.1 Ng.2.2.1 Ng.2.2.2.1 Ng.2.2.2.2.1 Ng.2.2.2.2.2 ({({({ax with Do:=1}:ai)with R:=9}:ai)with A:=wr .u32 4}:ai)) λCO=>
lt (CO.1:ah) λNf=>
cn ((Nf.E !=0)) (
cn ((yN.1==6)) (
bd (ae n CO.2.2.2.2.1) λ_=>
bd (aC n CO.2.1.dg.T.bN) λac7=>
cn (((ac7.length:Int)==0)) (
bd (ae n CO.2.2.2.2.1) λ_=>
bd (aD n CO.2.2.1) λac6=>
bd (aB n ac6) λYZ=>
bd (ae n CO.2.2.2.2.1) λYY=>
cl ((((((wr .i64 (YZ+(YY.length:Int)))==3)&&true)&&(Nf.E==4))==true)) (aM n) default λac5=>
some ((((((wr .i64 (YZ+(YY.length:Int)))==3)&&true)&&(Nf.E==4))&&ac5))) (
some (false))) (
some (false))) (
bd (aR n CO.2.1 CO.2.2.1 CO.2.2.2.1 CO.2.2.2.2.1 CO.2.2.2.2.2 Nf.W 1) λAj=>
cn ((Aj.1!=0)) (
bd (az n Aj.2.1 Aj.2.2.1 Aj.2.2.2.1 Aj.2.2.2.2.1 Aj.2.2.2.2.2.1 ({({ax with Do:=6}:ai)with R:=Nf.W}:ai)) λNd=>
cn ((yN.1==6)) (
bd (ae n Nd.2.2.2.2.1) λ_=>
bd (aC n Nd.2.1.dg.T.bN) λac4=>
cn (((ac4.length:Int)==0)) (
bd (ae n Nd.2.2.2.2.1) λ_=>
bd (aD n Nd.2.2.1) λac3=>
bd (aB n ac3) λYX=>
bd (ae n Nd.2.2.2.2.1) λYW=>
cl ((((((wr .i64 (YX+(YW.length:Int)))==3)&&true)&&(Aj.1==4))==true)) (aM n) default λac2=>
some ((((((wr .i64 (YX+(YW.length:Int)))==3)&&true)&&(Aj.1==4))&&ac2))) (
some (false))) (
some (false))) (
cn ((yN.1==6)) (
bd (ae n Aj.2.2.2.2.1) λ_=>
bd (aC n Aj.2.1.dg.T.bN) λac1=>
cn (((ac1.length:Int)==0)) (
bd (ae n Aj.2.2.2.2.1) λ_=>
bd (aD n Aj.2.2.1) λac0=>
bd (aB n ac0) λYV=>
bd (ae n Aj.2.2.2.2.1) λYU=>
cl ((((((wr .i64 (YV+(YU.length:Int)))==3)&&true)&&false)==true)) (aM n) default λacZ=>
some ((((((wr .i64 (YV+(YU.length:Int)))==3)&&true)&&false)&&acZ))) (
some (false))) (
some (false))))) (
bd (az n yN.2.1 yN.2.2.1 yN.2.2.2.1 yN.2.2.2.2.1 yN.2.2.2.2.2.1 ({({({ax with Do:=1}:ai)with R:=9}:ai)with A:=wr .u32 4}:ai)) λLu=>
lt (Lu.1:ah) λUR=>
cn ((UR.E !=0)) (
some (false)) (
bd (aR n Lu.2.1 Lu.2.2.1 Lu.2.2.2.1 Lu.2.2.2.2.1 Lu.2.2.2.2.2 UR.W 1) λLt=>
cn ((Lt.1!=0)) (
bd (az n Lt.2.1 Lt.2.2.1 Lt.2.2.2.1 Lt.2.2.2.2.1 Lt.2.2.2.2.2.1 ({({ax with Do:=6}:ai)with R:=UR.W}:ai)) λ_=>
some (false)) (
some (false)))))))) λafJ=>
afJ 1))) λafL=>
afL 1) (
lt (λ(acY:Int)=>
cn ((acY !=0)) (
some (false)) (
bd (jc n a0) λacX=>
bd (bH n acX) λ_=>
bd (bH n 8) λ_=>
lt (({aU with E:=1}:ah):ah) λacW=>
lt (acW:ah) λ_=>
some (false))) λafI=>
afI 1)) λaa8=>
cn ((ZN.E==0)) (
bd (bH n 0) λ_=>
bd (bH n 8) λ_=>
lt (({aU with E:=1}:ah):ah) λacV=>
aa8 acV.E) (
aa8 ZN.E))) λMZ=>
MZ 1
def Dl(n:Nat):CT:=cV (tC n [(410000008, .join [(.slot 6, .v (.int .i64))] []),(470100000008, .join [(.slot 7, .v (.int .i64))] []),(990110000008, .join [(.slot 7, .v (.int .i64))] []),(410000018, .join [(.slot 6, .v (.int .i64))] [])] [E9 n,xq n,pX n,oI n,jy n,AF n,y4 n,EK n,oy n,pP n,sP n] []) ⟨3,[],(.cons (.v (.int .i64)) (.cons (.v (.int .u64)) (.cons (.v (.int .i64)) .nil))),(.cons (.v .bool) .nil),[], .nil,[],[]⟩ (λx=>zH n x.1 x.2.1 x.2.2.1) (λy=>(y.1)) (λz=>(z,()))
end
end Go.Proofs.Z
