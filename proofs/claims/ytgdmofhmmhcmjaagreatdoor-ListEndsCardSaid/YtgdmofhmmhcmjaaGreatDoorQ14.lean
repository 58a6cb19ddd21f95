/- Part 14 of what a proof leans on; pruned and shortened by a program out of longer texts. -/
import Derived.Test.YtgdmofhmmhcmjaaGreatDoorQ13
namespace Go.Proofs.Z
open Go Go.Bw Go.Rw Go.RowKit
noncomputable section
abbrev tC(n:Nat)(h:List (Nat×Hn))(cs:List CT)(XU:List (It Tryz.prog sg)):wZ Tryz.prog sg:=agC tt zt n h cs XU eks
def fX(n:Nat)(a0:ae)(a1:Int)(a2:aC):Option Int:=
bd (bH n a0 a1 a2) λaB=>
cn (decide (0<aB)) (
some (0)) (
bd (cq n a0 a1 a2 aA) λaR=>
lt (aR.1:ae) λ_=>
lt (aR.2.1:ah) λcH=>
some (cH.E))
def Br(n:Nat):CT:=cV (tC n [] [mN n,uT n] []) ⟨70,[],(.cons (.v (.st 19)) (.cons (.v (.int .i64)) (.cons (.v (.st 3)) .nil))),(.cons (.v (.int .i64)) .nil),[], .nil,[],[]⟩ (λx=>fX n x.1 x.2.1 x.2.2.1) (λy=>(y.1)) (λz=>(z,()))
def pK(n:Nat)(a0:ae)(a1:Int)(a2:aC):Option Bool:=
cl (((a2.Do==15)==true)) (fX n a0 a1 a2) default λaB=>
some (((a2.Do==15)&&(aB==10)))
def Bq(n:Nat):CT:=cV (tC n [] [Br n] []) ⟨64,[],(.cons (.v (.st 19)) (.cons (.v (.int .i64)) (.cons (.v (.st 3)) .nil))),(.cons (.v .bool) .nil),[], .nil,[],[]⟩ (λx=>pK n x.1 x.2.1 x.2.2.1) (λy=>(y.1)) (λz=>(z,()))
def eZ(n:Nat)(da:ae)(dJ:aj)(dQ:ai)(dP:(List Int))(a1:au):Option (ae×aj×ai×(List Int)):=
wT (λk26 (aB:Int) (aR:ae) (bS:aj) (cH:ai) (dO:(List Int))=>
cn (decide (aB<a1.N)) (
gu (gZ dO.length [wr .i64 (a1.At+aB)].length 8)<|
lt (dO++[wr .i64 (a1.At+aB)]:List Int) λdD=>
k26 (wr .i64 (aB+1)) aR bS cH dD) (
some (aR,bS,cH,dO))) n 0 da dJ dQ dP
def tI(n:Nat):CT:=cV (tC n [(5, .loop [(.dz 7, .v (.int .i64)),(.via 0, .box 113 (.st (.part 952 (.v (.st 19)) (.part 1 (.box 185 (.v (.st 24))) (.part 320 (.v (.st 21)) (.part 1 (.row 3 1 (.int .i64)) .nil))))))])] [] []) ⟨76,[],(.cons (.box 113 (.st (.part 952 (.v (.st 19)) (.part 1 (.box 185 (.v (.st 24))) (.part 320 (.v (.st 21)) (.part 1 (.row 3 1 (.int .i64)) .nil)))))) (.cons (.v (.st 4)) .nil)),(.cons (.jP .nil) (.cons (.box 113 (.st (.part 952 (.v (.st 19)) (.part 1 (.box 185 (.v (.st 24))) (.part 320 (.v (.st 21)) (.part 1 (.row 3 1 (.int .i64)) .nil)))))) .nil)),[some 0,some 1,none], .nil,[],[[0]]⟩ (λx=>eZ n x.1 x.2.1 x.2.2.1 x.2.2.2.1 x.2.2.2.2.1) (λy=>(y.1,y.2.1,y.2.2.1,y.2.2.2.1)) (λz=>(z.1,(z.2.1,(z.2.2.1,(z.2.2.2,())))))
def vn(n:Nat)(a0:Int)(a1:Int):Option Bool:=
some (((((decide (0<=a0))&&(decide (a0<32)))&&(decide (0<=a1)))&&(decide (a1<8))))
def Aw(n:Nat):CT:=cV (tC n [] [] []) ⟨96,[],(.cons (.v (.int .i64)) (.cons (.v (.int .i64)) .nil)),(.cons (.v .bool) .nil),[], .nil,[],[]⟩ (λx=>vn n x.1 x.2.1) (λy=>(y.1)) (λz=>(z,()))
def nt(n:Nat)(a0:ai)(a1:Int)(a2:Int):Option ai:=
lt (λ(aB:ai)=>
lt (aB:ai) λbS=>
some (bS)) λWa=>
bd (vn n a1 a2) λcH=>
gu (!(cH==true)||dm a1 32)<|
cn ((cH&&((wr .i64 ((a0.bp (Int.toNat a1)).EE))==(wr .i64 (a2+1))))) (
gu (dm a1 32)<|
lt (({a0 with bp:=(iB a0.bp (Int.toNat a1) ({(a0.bp (Int.toNat a1))with EE:=0}:cj))}:ai):ai) λdO=>
Wa dO) (
Wa a0)
def Bx(n:Nat):CT:=cV (tC n [(6, .join [(.via 3, .box 110 (.v (.st 21)))] [])] [Aw n] []) ⟨95,[],(.cons (.v (.st 21)) (.cons (.v (.int .i64)) (.cons (.v (.int .i64)) .nil))),(.cons (.v (.st 21)) .nil),[], .nil,[],[]⟩ (λx=>nt n x.1 x.2.1 x.2.2.1) (λy=>(y.1)) (λz=>(z,()))
def tM(n:Nat)(a0:(List Int))(a1:Int):Option Int:=
iu (λk22 (aB:Int)=>
cn (decide (aB<(a0.length:Int))) (
gu (dm aB a0.length)<|
cn ((a1==(a0.getD (Int.toNat aB) default))) (
some (aB)) (
k22 (wr .i64 (aB+1)))) (
some ((-1)))) n 0
def zA(n:Nat):CT:=cV (tC n [(5, .loop [(.dz 8, .v (.int .i64))])] [] []) ⟨130,[],(.cons (.v (.sl (.int .u8))) (.cons (.v (.int .u8)) .nil)),(.cons (.v (.int .i64)) .nil),[], .nil,[],[]⟩ (λx=>tM n x.1 x.2.1) (λy=>(y.1)) (λz=>(z,()))
def kM(n:Nat)(a0:cj)(a1:Int):Option Int:=
gu (dm a0.n 9)<|
bd (tM n ((List.range (Int.toNat a0.n)).map a0.Eo) (wr .u8 a1)) λaB=>
some (aB)
def tH(n:Nat):CT:=cV (tC n [(1000008, .Jr)] [zA n] []) ⟨112,[],(.cons (.v (.st 20)) (.cons (.v (.int .i64)) .nil)),(.cons (.v (.int .i64)) .nil),[], .nil,[],[]⟩ (λx=>kM n x.1 x.2.1) (λy=>(y.1)) (λz=>(z,()))
def jc(n:Nat)(a0:cj)(a1:Int):Option cj:=
bd (kM n a0 a1) λaB=>
cn (decide (aB<0)) (
lt (a0:cj) λaR=>
some (aR)) (
gu (dm aB 9)<|
gu (dm (wr .i64 (aB+1)) 9)<|
lt (({a0 with Eo:=cpA (Int.toNat aB) (Int.toNat (wr .i64 (aB+1))) 8 a0.Eo}:cj):cj) λbS=>
lt (({bS with n:=wr .i64 (bS.n-1)}:cj):cj) λcH=>
gu (dm cH.n 8)<|
lt (({cH with Eo:=(iB cH.Eo (Int.toNat cH.n) 0)}:cj):cj) λdO=>
lt (dO:cj) λfz=>
some (fz))
def ri(n:Nat):CT:=cV (tC n [] [tH n] []) ⟨97,[],(.cons (.v (.st 20)) (.cons (.v (.int .i64)) .nil)),(.cons (.v (.st 20)) .nil),[], .nil,[],[]⟩ (λx=>jc n x.1 x.2.1) (λy=>(y.1)) (λz=>(z,()))
def cU(n:Nat)(a0:ai)(a1:Int):Option ai:=
eV (λk23 (aB:Int) (aR:ai)=>
cn (decide (aB<32)) (
lt (λ(cH:ai)=>
k23 (wr .i64 (aB+1)) cH) λZ3=>
bd (nt n aR aB a1) λfz=>
lt (fz:ai) λdD=>
bd (vn n aB a1) λeM=>
cn (eM) (
gu (dm aB 32)<|
bd (jc n (dD.bp (Int.toNat aB)) a1) λiE=>
gu (dm aB 32)<|
lt (({dD with bp:=(iB dD.bp (Int.toNat aB) iE)}:ai):ai) λdZ=>
Z3 dZ) (
Z3 dD)) (
lt (aR:ai) λdK=>
some (dK))) n 0 a0
def Bv(n:Nat):CT:=cV (tC n [(5, .loop [(.dz 6, .v (.int .i64)),(.via 2, .box 110 (.v (.st 21)))]),(14, .join [(.via 2, .box 110 (.v (.st 21)))] [])] [Bx n,Aw n,ri n] []) ⟨77,[],(.cons (.v (.st 21)) (.cons (.v (.int .i64)) .nil)),(.cons (.v (.st 21)) .nil),[], .nil,[],[]⟩ (λx=>cU n x.1 x.2.1) (λy=>(y.1)) (λz=>(z,()))
def kR(n:Nat)(da:ae)(dJ:aj)(dQ:ai)(dP:(List Int))(a1:aF):Option (ae×aj×ai×(List Int)):=
bd (eZ n da dJ dQ dP a1.xA) λaB=>
bd (cU n aB.2.2.1 a1.jS) λaR=>
lt (aR:ai) λbS=>
some (aB.1,aB.2.1,bS,aB.2.2.2)
def wK(n:Nat):CT:=cV (tC n [] [tI n,Bv n] []) ⟨66,[],(.cons (.box 113 (.st (.part 952 (.v (.st 19)) (.part 1 (.box 185 (.v (.st 24))) (.part 320 (.v (.st 21)) (.part 1 (.row 3 1 (.int .i64)) .nil)))))) (.cons (.v (.st 22)) .nil)),(.cons (.jP .nil) (.cons (.box 113 (.st (.part 952 (.v (.st 19)) (.part 1 (.box 185 (.v (.st 24))) (.part 320 (.v (.st 21)) (.part 1 (.row 3 1 (.int .i64)) .nil)))))) .nil)),[some 0,some 1,none], .nil,[],[[0]]⟩ (λx=>kR n x.1 x.2.1 x.2.2.1 x.2.2.2.1 x.2.2.2.2.1) (λy=>(y.1,y.2.1,y.2.2.1,y.2.2.2.1)) (λz=>(z.1,(z.2.1,(z.2.2.1,(z.2.2.2,())))))
def eK(n:Nat)(da:ae)(dJ:aj)(dQ:ai)(dP:(List Int))(cM:aF)(eH:ah)(eG:Bool)(a1:ah):Option (ae×aj×ai×(List Int)×aF×ah×Bool):=
lt (a1:ah) λaB=>
bd (kR n da dJ dQ dP cM) λaR=>
some (aR.1,aR.2.1,aR.2.2.1,aR.2.2.2,cM,aB,true)
def mO(n:Nat):CT:=cV (tC n [] [wK n] []) ⟨84,[],(.cons (.box 173 (.st (.part 1 (.box 113 (.st (.part 952 (.v (.st 19)) (.part 1 (.box 185 (.v (.st 24))) (.part 320 (.v (.st 21)) (.part 1 (.row 3 1 (.int .i64)) .nil)))))) (.part 12 (.v (.st 22)) (.part 3 (.v (.st 2)) (.part 1 (.v .bool) .nil)))))) (.cons (.v (.st 2)) .nil)),(.cons (.jP .nil) (.cons (.box 173 (.st (.part 1 (.box 113 (.st (.part 952 (.v (.st 19)) (.part 1 (.box 185 (.v (.st 24))) (.part 320 (.v (.st 21)) (.part 1 (.row 3 1 (.int .i64)) .nil)))))) (.part 12 (.v (.st 22)) (.part 3 (.v (.st 2)) (.part 1 (.v .bool) .nil)))))) .nil)),[some 0,some 1,some 2,none], .nil,[],[[0]]⟩ (λx=>eK n x.1 x.2.1 x.2.2.1 x.2.2.2.1 x.2.2.2.2.1 x.2.2.2.2.2.1 x.2.2.2.2.2.2.1 x.2.2.2.2.2.2.2.1) (λy=>(y.1,y.2.1,y.2.2.1,y.2.2.2.1,y.2.2.2.2.1,y.2.2.2.2.2.1,y.2.2.2.2.2.2.1)) (λz=>(z.1,(z.2.1,(z.2.2.1,(z.2.2.2.1,(z.2.2.2.2.1,(z.2.2.2.2.2.1,(z.2.2.2.2.2.2,()))))))))
def iU(n:Nat)(a0:ae)(a1:Int):Option (List Int):=
bd (aJ n a0.dx.T.fB.kO a1) λaB=>
cn ((!aB)) (
some ([])) (
some ([a1]))
def ME(n:Nat):CT:=cV (tC n [] [aP n] []) ⟨104,[],(.cons (.v (.st 19)) (.cons (.v (.int .u32)) .nil)),(.cons (.row 25 1 (.int .u32)) .nil),[none], .nil,[],[]⟩ (λx=>iU n x.1 x.2.1) (λy=>(y.1)) (λz=>(z,()))
def ij(n:Nat)(a0:ax)(a1:Int):Option (List Int):=
bd (aJ n a0.fB.kO a1) λaB=>
cn ((!aB)) (
some ([])) (
bd (oU n a0 a1) λaR=>
bd (lY n aR.1 aR.2) λfz=>
xh (λ(e25:Int) k24 (bS:(List Int))=>
gu (gZ bS.length [e25].length 4)<|
lt (bS++[e25]:List Int) λeM=>
k24 eM) (λ(bS:(List Int))=>
some (bS)) fz [])
def CJ(n:Nat):CT:=cV (tC n [(150050000005, .loop [(.via 2, .box 156 (.row 25 1 (.int .u32)))])] [aP n,ox n] [mF n]) ⟨106,[],(.cons (.v (.st 10)) (.cons (.v (.int .u32)) .nil)),(.cons (.row 25 1 (.int .u32)) .nil),[none], .nil,[],[]⟩ (λx=>ij n x.1 x.2.1) (λy=>(y.1)) (λz=>(z,()))
def ru(n:Nat)(a0:(List Int))(a1:Int):Option (Int×(List Int)):=
iu (λk22 (aB:Int)=>
cn (decide (aB<(a0.length:Int))) (
gu (dm aB a0.length)<|
cn ((a1==(a0.getD (Int.toNat aB) default))) (
some (aB,a0)) (
k22 (wr .i64 (aB+1)))) (
some ((-1),a0))) n 0
def w8(n:Nat):CT:=cV (tC n [(5, .loop [(.dz 8, .v (.int .i64))])] [] []) ⟨129,[],(.cons (.row 25 1 (.int .u32)) (.cons (.v (.int .u32)) .nil)),(.cons (.v (.int .i64)) (.cons (.row 25 1 (.int .u32)) .nil)),[some 0], .nil,[],[[0]]⟩ (λx=>ru n x.1 x.2.1) (λy=>(y.1,y.2.1)) (λz=>(z.1,(z.2,())))
def oJ(n:Nat)(a0:(List Int))(a1:Int):Option (Bool×(List Int)):=
bd (ru n a0 a1) λaB=>
some (decide (0<=aB.1),aB.2)
def uk(n:Nat):CT:=cV (tC n [] [w8 n] []) ⟨108,[],(.cons (.row 25 1 (.int .u32)) (.cons (.v (.int .u32)) .nil)),(.cons (.v .bool) (.cons (.row 25 1 (.int .u32)) .nil)),[some 0], .nil,[],[[0]]⟩ (λx=>oJ n x.1 x.2.1) (λy=>(y.1,y.2.1)) (λz=>(z.1,(z.2,())))
def ke(n:Nat)(a0:ae)(a1:aC):Option (List Int):=
cn (a1.Do==1) (
bd (iU n a0 a1.R) λkY=>
some (kY)) (
cn (a1.Do==2) (
bd (iU n a0 a1.R) λgi=>
some (gi)) (
cn (a1.Do==3) (
bd (iU n a0 a1.R) λtv=>
some (tv)) (
cn (a1.Do==4) (
bd (iU n a0 a1.R) λgB=>
some (gB)) (
cn (a1.Do==5) (
bd (iU n a0 a1.R) λjo=>
some (jo)) (
cn (a1.Do==10) (
bd (iU n a0 a1.R) λdR=>
some (dR)) (
cn (a1.Do==12) (
bd (iU n a0 a1.R) λjx=>
some (jx)) (
cn (a1.Do==18) (
bd (iU n a0 a1.R) λfP=>
some (fP)) (
cn (a1.Do==19) (
bd (iU n a0 a1.R) λcC=>
some (cC)) (
cn (a1.Do==6) (
bd (ij n a0.dx.T a1.R) λeL=>
some (eL)) (
cn (a1.Do==7) (
bd (ij n a0.dx.T a1.R) λiM=>
some (iM)) (
cn (a1.Do==9) (
bd (ij n a0.dx.T a1.R) λdK=>
some (dK)) (
cn (a1.Do==11) (
bd (ij n a0.dx.T a1.R) λdZ=>
some (dZ)) (
cn (a1.Do==8) (
bd (ij n a0.dx.T a1.R) λfz=>
cl ((((fz.length:Int)==0)==false)) (aJ n a0.dx.T.fB.kO a1.S) default λdD=>
cn ((((fz.length:Int)==0)||(!dD))) (
some ([])) (
bd (oJ n fz a1.S) λeM=>
cn (eM.1) (
some (eM.2)) (
gu (gZ eM.2.length [a1.S].length 4)<|
lt (eM.2++[a1.S]:List Int) λiE=>
some (iE)))) (
cn (a1.Do==13) (
bd (cR n a0.dx.K a1.S) λbS=>
lt (bS.1:bw) λcH=>
cn ((bS.2!=0)) (
some ([])) (
bd (iU n a0 cH.Region) λdO=>
some (dO))) (
cn (a1.Do==14) (
cn ((a1.B==1)) (
bd (iU n a0 a1.R) λaB=>
some (aB)) (
bd (ij n a0.dx.T a1.R) λaR=>
some (aR))) (
some ([])))))))))))))))))
def FB(n:Nat):CT:=cV (tC n [] [ME n,CJ n,eo n,aP n,uk n] []) ⟨85,[],(.cons (.v (.st 19)) (.cons (.v (.st 3)) .nil)),(.cons (.v (.sl (.int .u32))) .nil),[], .nil,[],[]⟩ (λx=>ke n x.1 x.2.1) (λy=>(y.1)) (λz=>(z,()))
def eu(n:Nat)(da:ae)(dJ:aj)(dQ:ai)(dP:(List Int))(cM:aF)(eH:ah)(eG:Bool):Option (Bool×ae×aj×ai×(List Int)×aF×ah×Bool):=
cn (cM.Checked) (
some (false,da,dJ,dQ,dP,cM,eH,eG)) (
bd (pK n da cM.jS cM.C) λaB=>
cn (aB) (
some (true,da,dJ,dQ,dP,cM,eH,eG)) (
bd (fX n da cM.jS cM.C) λaR=>
cn ((aR !=0)) (
bd (eK n da dJ dQ dP cM eH eG ({ay with E:=aR}:ah)) λbS=>
some (true,bS.1,bS.2.1,bS.2.2.1,bS.2.2.2.1,bS.2.2.2.2.1,bS.2.2.2.2.2.1,bS.2.2.2.2.2.2)) (
bd (ke n da cM.C) λcH=>
lt (({cM with Checked:=true}:aF):aF) λdO=>
lt (({dO with ei:=cH}:aF):aF) λfz=>
some (true,da,dJ,dQ,dP,fz,eH,eG))))
def xN(n:Nat):CT:=cV (tC n [] [Bq n,Br n,mO n,FB n] []) ⟨71,[],(.cons (.box 173 (.st (.part 1 (.box 113 (.st (.part 952 (.v (.st 19)) (.part 1 (.box 185 (.v (.st 24))) (.part 320 (.v (.st 21)) (.part 1 (.row 3 1 (.int .i64)) .nil)))))) (.part 12 (.v (.st 22)) (.part 3 (.v (.st 2)) (.part 1 (.v .bool) .nil)))))) .nil),(.cons (.v .bool) (.cons (.box 173 (.st (.part 1 (.box 113 (.st (.part 952 (.v (.st 19)) (.part 1 (.box 185 (.v (.st 24))) (.part 320 (.v (.st 21)) (.part 1 (.row 3 1 (.int .i64)) .nil)))))) (.part 12 (.v (.st 22)) (.part 3 (.v (.st 2)) (.part 1 (.v .bool) .nil)))))) .nil)),[some 0,some 1,some 2,none], .nil,[],[[0]]⟩ (λx=>eu n x.1 x.2.1 x.2.2.1 x.2.2.2.1 x.2.2.2.2.1 x.2.2.2.2.2.1 x.2.2.2.2.2.2.1) (λy=>(y.1,y.2.1,y.2.2.1,y.2.2.2.1,y.2.2.2.2.1,y.2.2.2.2.2.1,y.2.2.2.2.2.2.1,y.2.2.2.2.2.2.2.1)) (λz=>(z.1,(z.2.1,(z.2.2.1,(z.2.2.2.1,(z.2.2.2.2.1,(z.2.2.2.2.2.1,(z.2.2.2.2.2.2.1,(z.2.2.2.2.2.2.2,())))))))))
def oS(n:Nat)(a0:ai)(a1:Int)(a2:Int):Option (ai×Bool):=
bd (vn n a1 a2) λaB=>
cn ((!aB)) (
lt (a0:ai) λaR=>
some (aR,false)) (
gu (dm a1 32)<|
lt (λ(bS:ai) (cH:ai)=>
lt (cH:ai) λfz=>
some (fz,false)) λZ3=>
bd (kM n (a0.bp (Int.toNat a1)) a2) λdD=>
cn (((wr .i64 ((a0.bp (Int.toNat a1)).EE))==(wr .i64 (a2+1)))) (
lt (a0:ai) λeM=>
some (eM,true)) (
cn (((((a0.bp (Int.toNat a1)).EE)==0)&&((((a0.bp (Int.toNat a1)).n)==0)||(dD==0)))) (
bd (jc n (a0.bp (Int.toNat a1)) a2) λiE=>
lt (({a0 with bp:=(iB a0.bp (Int.toNat a1) iE)}:ai):ai) λdZ=>
lt (({dZ with bp:=(iB dZ.bp (Int.toNat a1) ({(dZ.bp (Int.toNat a1))with EE:=wr .u8 (wr .i64 (a2+1))}:cj))}:ai):ai) λdK=>
lt (dK:ai) λiM=>
some (iM,true)) (
cn (decide (dD<0)) (
gu (dm ((a0.bp (Int.toNat a1)).n) 8)<|
lt (({a0 with bp:=(iB a0.bp (Int.toNat a1) ({(a0.bp (Int.toNat a1))with Eo:=(iB ((a0.bp (Int.toNat a1)).Eo) (Int.toNat ((a0.bp (Int.toNat a1)).n)) (wr .u8 a2))}:cj))}:ai):ai) λeL=>
lt (({eL with bp:=(iB eL.bp (Int.toNat a1) ({(eL.bp (Int.toNat a1))with n:=wr .i64 (((eL.bp (Int.toNat a1)).n)+1)}:cj))}:ai):ai) λcC=>
Z3 bn cC) (
Z3 bn a0))))
def CO(n:Nat):CT:=cV (tC n [(28, .join [(.via 6, .box 110 (.v (.st 21))),(.via 3, .box 110 (.v (.st 21)))] [])] [Aw n,tH n,ri n] []) ⟨86,[],(.cons (.v (.st 21)) (.cons (.v (.int .i64)) (.cons (.v (.int .i64)) .nil))),(.cons (.jP (.cons (.v (.st 21)) (.cons (.v .bool) .nil))) .nil),[], .nil,[],[]⟩ (λx=>oS n x.1 x.2.1 x.2.2.1) (λy=>(y.1,y.2.1)) (λz=>(z.1,(z.2,())))
def fg(n:Nat)(da:ae)(dJ:aj)(dQ:ai)(dP:(List Int))(cM:aF)(eH:ah)(eG:Bool):Option (Bool×ae×aj×ai×(List Int)×aF×ah×Bool):=
cn (((cM.ei.length:Int)==0)) (
some (false,da,dJ,dQ,dP,cM,eH,eG)) (
gu (dm 0 cM.ei.length)<|
bd (bh n (cM.ei.getD (Int.toNat 0) default)) λaB=>
bd (oS n dQ aB.1 cM.jS) λaR=>
lt (aR.1:ai) λbS=>
lt (bS:ai) λcH=>
lt (λ(dO:ae) (fz:aj) (dD:ai) (eM:(List Int)) (iE:aF) (dZ:ah) (dK:Bool)=>
some (true,dO,fz,dD,eM,iE,dZ,dK)) λV9=>
cn (aR.2) (
gu (dm 1 (cM.ei.length+1))<|
lt (({cM with ei:=cM.ei.drop (Int.toNat 1)}:aF):aF) λeL=>
V9 da dJ cH dP eL eH eG) (
V9 da dJ cH dP cM eH eG))
def xM(n:Nat):CT:=cV (tC n [(16, .join [(.via 0, .box 173 (.st (.part 1 (.box 113 (.st (.part 952 (.v (.st 19)) (.part 1 (.box 185 (.v (.st 24))) (.part 320 (.v (.st 21)) (.part 1 (.row 3 1 (.int .i64)) .nil)))))) (.part 12 (.v (.st 22)) (.part 3 (.v (.st 2)) (.part 1 (.v .bool) .nil))))))] [])] [bO n,CO n] []) ⟨72,[],(.cons (.box 173 (.st (.part 1 (.box 113 (.st (.part 952 (.v (.st 19)) (.part 1 (.box 185 (.v (.st 24))) (.part 320 (.v (.st 21)) (.part 1 (.row 3 1 (.int .i64)) .nil)))))) (.part 12 (.v (.st 22)) (.part 3 (.v (.st 2)) (.part 1 (.v .bool) .nil)))))) .nil),(.cons (.v .bool) (.cons (.box 173 (.st (.part 1 (.box 113 (.st (.part 952 (.v (.st 19)) (.part 1 (.box 185 (.v (.st 24))) (.part 320 (.v (.st 21)) (.part 1 (.row 3 1 (.int .i64)) .nil)))))) (.part 12 (.v (.st 22)) (.part 3 (.v (.st 2)) (.part 1 (.v .bool) .nil)))))) .nil)),[some 0,some 1,some 2,none], .nil,[],[[0]]⟩ (λx=>fg n x.1 x.2.1 x.2.2.1 x.2.2.2.1 x.2.2.2.2.1 x.2.2.2.2.2.1 x.2.2.2.2.2.2.1) (λy=>(y.1,y.2.1,y.2.2.1,y.2.2.2.1,y.2.2.2.2.1,y.2.2.2.2.2.1,y.2.2.2.2.2.2.1,y.2.2.2.2.2.2.2.1)) (λz=>(z.1,(z.2.1,(z.2.2.1,(z.2.2.2.1,(z.2.2.2.2.1,(z.2.2.2.2.2.1,(z.2.2.2.2.2.2.1,(z.2.2.2.2.2.2.2,())))))))))
def iO(n:Nat)(a0:aj)(a1:Int):Option (Int×Int×aj):=
cn (decide (a1<1)) (
some (0,2,a0)) (
bd (oG n a0.dF a1) λaB=>
cn ((!aB.2)) (
some (0,6,a0)) (
bd (jI n a0.dF aB.1 a1) λaR=>
lt (({a0 with dF:=aR.1}:aj):aj) λbS=>
some (aB.1,0,bS)))
def Bp(n:Nat):CT:=cV (tC n [] [CI n,CH n] []) ⟨87,[],(.cons (.box 185 (.v (.st 24))) (.cons (.v (.int .i64)) .nil)),(.cons (.jP (.cons (.v (.int .i64)) (.cons (.v (.int .i64)) .nil))) (.cons (.box 185 (.v (.st 24))) .nil)),[some 0], .nil,[],[[0]]⟩ (λx=>iO n x.1 x.2.1) (λy=>(y.1,y.2.1,y.2.2.1)) (λz=>(z.1,(z.2.1,(z.2.2,()))))
def bY(n:Nat)(da:ae)(dJ:aj)(dQ:ai)(dP:(List Int))(cM:aF)(eH:ah)(eG:Bool):Option (Bool×ae×aj×ai×(List Int)×aF×ah×Bool):=
bd (bH n da cM.jS cM.C) λaB=>
cn (((aB==0)||(decide (0<cM.xA.N)))) (
some (false,da,dJ,dQ,dP,cM,eH,eG)) (
bd (iO n dJ aB) λaR=>
cn ((aR.2.1!=0)) (
bd (eK n da aR.2.2 dQ dP cM eH eG ({ay with E:=aR.2.1}:ah)) λbS=>
some (true,bS.1,bS.2.1,bS.2.2.1,bS.2.2.2.1,bS.2.2.2.2.1,bS.2.2.2.2.2.1,bS.2.2.2.2.2.2)) (
lt (({cM with xA:=({At:=aR.1,N:=aB}:au)}:aF):aF) λcH=>
some (true,da,aR.2.2,dQ,dP,cH,eH,eG)))
def xd(n:Nat):CT:=cV (tC n [] [mN n,Bp n,mO n] []) ⟨73,[],(.cons (.box 173 (.st (.part 1 (.box 113 (.st (.part 952 (.v (.st 19)) (.part 1 (.box 185 (.v (.st 24))) (.part 320 (.v (.st 21)) (.part 1 (.row 3 1 (.int .i64)) .nil)))))) (.part 12 (.v (.st 22)) (.part 3 (.v (.st 2)) (.part 1 (.v .bool) .nil)))))) .nil),(.cons (.v .bool) (.cons (.box 173 (.st (.part 1 (.box 113 (.st (.part 952 (.v (.st 19)) (.part 1 (.box 185 (.v (.st 24))) (.part 320 (.v (.st 21)) (.part 1 (.row 3 1 (.int .i64)) .nil)))))) (.part 12 (.v (.st 22)) (.part 3 (.v (.st 2)) (.part 1 (.v .bool) .nil)))))) .nil)),[some 0,some 1,some 2,none], .nil,[],[[0]]⟩ (λx=>bY n x.1 x.2.1 x.2.2.1 x.2.2.2.1 x.2.2.2.2.1 x.2.2.2.2.2.1 x.2.2.2.2.2.2.1) (λy=>(y.1,y.2.1,y.2.2.1,y.2.2.2.1,y.2.2.2.2.1,y.2.2.2.2.2.1,y.2.2.2.2.2.2.1,y.2.2.2.2.2.2.2.1)) (λz=>(z.1,(z.2.1,(z.2.2.1,(z.2.2.2.1,(z.2.2.2.2.1,(z.2.2.2.2.2.1,(z.2.2.2.2.2.2.1,(z.2.2.2.2.2.2.2,())))))))))
def kK(n:Nat)(a0:aj)(a1:Int):Option (Int×aj):=
cn (((decide (a1<0))||(decide (a0.n<=a1)))) (
some (2,a0)) (
bd (gQ n a0.dF a1) λaB=>
cn (aB) (
some (12,a0)) (
gu (dm a1 64)<|
lt (({a0 with bytes:=(iB a0.bytes (Int.toNat a1) (λ_ =>0))}:aj):aj) λaR=>
some (0,aR)))
def Bo(n:Nat):CT:=cV (tC n [] [nj n] []) ⟨88,[],(.cons (.box 185 (.v (.st 24))) (.cons (.v (.int .i64)) .nil)),(.cons (.v (.int .i64)) (.cons (.box 185 (.v (.st 24))) .nil)),[some 0], .nil,[],[[0]]⟩ (λx=>kK n x.1 x.2.1) (λy=>(y.1,y.2.1)) (λz=>(z.1,(z.2,())))
def eF(n:Nat)(da:ae)(dJ:aj)(dQ:ai)(dP:(List Int))(cM:aF)(eH:ah)(eG:Bool):Option (Bool×ae×aj×ai×(List Int)×aF×ah×Bool):=
cn (decide (cM.xA.N<=cM.pZ)) (
some (false,da,dJ,dQ,dP,cM,eH,eG)) (
bd (kK n dJ (wr .i64 (cM.xA.At+cM.pZ))) λaB=>
lt (({cM with pZ:=wr .i64 (cM.pZ+1)}:aF):aF) λaR=>
some (true,da,aB.2,dQ,dP,aR,eH,eG))
def xb(n:Nat):CT:=cV (tC n [] [Bo n] []) ⟨74,[],(.cons (.box 173 (.st (.part 1 (.box 113 (.st (.part 952 (.v (.st 19)) (.part 1 (.box 185 (.v (.st 24))) (.part 320 (.v (.st 21)) (.part 1 (.row 3 1 (.int .i64)) .nil)))))) (.part 12 (.v (.st 22)) (.part 3 (.v (.st 2)) (.part 1 (.v .bool) .nil)))))) .nil),(.cons (.v .bool) (.cons (.box 173 (.st (.part 1 (.box 113 (.st (.part 952 (.v (.st 19)) (.part 1 (.box 185 (.v (.st 24))) (.part 320 (.v (.st 21)) (.part 1 (.row 3 1 (.int .i64)) .nil)))))) (.part 12 (.v (.st 22)) (.part 3 (.v (.st 2)) (.part 1 (.v .bool) .nil)))))) .nil)),[some 0,some 1,some 2,some 3], .nil,[],[[0]]⟩ (λx=>eF n x.1 x.2.1 x.2.2.1 x.2.2.2.1 x.2.2.2.2.1 x.2.2.2.2.2.1 x.2.2.2.2.2.2.1) (λy=>(y.1,y.2.1,y.2.2.1,y.2.2.2.1,y.2.2.2.2.1,y.2.2.2.2.2.1,y.2.2.2.2.2.2.1,y.2.2.2.2.2.2.2.1)) (λz=>(z.1,(z.2.1,(z.2.2.1,(z.2.2.2.1,(z.2.2.2.2.1,(z.2.2.2.2.2.1,(z.2.2.2.2.2.2.1,(z.2.2.2.2.2.2.2,())))))))))
def kJ(n:Nat)(a0:aj)(a1:Int)(a2:Int):Option (Int×aj):=
cn (decide (a1<0)) (
some (2,a0)) (
cn (((decide ((wr .i64 (Int.tdiv a1 32))<0))||(decide (a0.n<=(wr .i64 (Int.tdiv a1 32)))))) (
some (2,a0)) (
bd (gQ n a0.dF (wr .i64 (Int.tdiv a1 32))) λaB=>
cn (aB) (
some (12,a0)) (
gu (dm (wr .i64 (Int.tdiv a1 32)) 64)<|
gu (dm (Int.tmod a1 32) 32)<|
lt (({a0 with bytes:=(iB a0.bytes (Int.toNat (wr .i64 (Int.tdiv a1 32))) (iB (a0.bytes (Int.toNat (wr .i64 (Int.tdiv a1 32)))) (Int.toNat (Int.tmod a1 32)) a2))}:aj):aj) λaR=>
some (0,aR))))
def Bn(n:Nat):CT:=cV (tC n [] [nj n] []) ⟨92,[],(.cons (.box 185 (.v (.st 24))) (.cons (.v (.int .i64)) (.cons (.v (.int .u8)) .nil))),(.cons (.v (.int .i64)) (.cons (.box 185 (.v (.st 24))) .nil)),[some 0], .nil,[],[[0]]⟩ (λx=>kJ n x.1 x.2.1 x.2.2.1) (λy=>(y.1,y.2.1)) (λz=>(z.1,(z.2,())))
def lT(n:Nat)(a0:aj)(a1:Int):Option (Int×Int):=
cn (decide (a1<0)) (
lt (0:Int) λaB=>
some (aB,2)) (
cn (((decide ((wr .i64 (Int.tdiv a1 32))<0))||(decide (a0.n<=(wr .i64 (Int.tdiv a1 32)))))) (
lt (0:Int) λaR=>
some (aR,2)) (
bd (gQ n a0.dF (wr .i64 (Int.tdiv a1 32))) λbS=>
cn (bS) (
lt (0:Int) λcH=>
some (cH,12)) (
gu (dm (wr .i64 (Int.tdiv a1 32)) 64)<|
gu (dm (Int.tmod a1 32) 32)<|
lt (((a0.bytes (Int.toNat (wr .i64 (Int.tdiv a1 32)))) (Int.toNat (Int.tmod a1 32))):Int) λdO=>
lt (dO:Int) λfz=>
some (fz,0))))
def CK(n:Nat):CT:=cV (tC n [] [nj n] []) ⟨94,[(185, .v (.st 24))],(.cons (.bU 0) (.cons (.v (.int .i64)) .nil)),(.cons (.jP (.cons (.v (.int .u8)) (.cons (.v (.int .i64)) .nil))) .nil),[], .nil,[],[]⟩ (λx=>lT n x.1 x.2.1) (λy=>(y.1,y.2.1)) (λz=>(z.1,(z.2,())))
def cu(n:Nat)(da:ae)(dJ:aj)(dQ:ai)(dP:(List Int))(cM:aF)(eH:ah)(eG:Bool):Option (Bool×ae×aj×ai×(List Int)×aF×ah×Bool):=
lt (cM.C:aC) λaB=>
lt (λ(aR:ae) (bS:aj) (cH:ai) (dO:(List Int)) (fz:aF) (dD:ah) (eM:Bool)=>
bd (cv n aR aB) λdZ=>
bd (cq n aR fz.jS aB fz.xA) λdK=>
lt (dK.1:ae) λiM=>
lt (dK.2.1:ah) λeL=>
cn ((eL.E !=0)) (
bd (eK n aR bS cH dO fz dD eM eL) λcC=>
some (true,cC.1,cC.2.1,cC.2.2.1,cC.2.2.2.1,cC.2.2.2.2.1,cC.2.2.2.2.2.1,cC.2.2.2.2.2.2)) (
lt (λ(fP:ae) (jx:aj) (dR:ai) (jo:(List Int)) (gB:aF) (tv:ah) (gi:Bool) (kY:ah)=>
lt (iM:ae) λtG=>
lt (({gB with xA:=aA}:aF):aF) λCG=>
wT (λk51 (vH:Int) (zZ:ae) (tF:aj) (rU:ai) (uh:(List Int))=>
cn (decide (vH<(dK.2.2.length:Int))) (
gu (dm vH dK.2.2.length)<|
lt ((dK.2.2.getD (Int.toNat vH) default):au) λMB=>
bd (eZ n zZ tF rU uh MB) λw5=>
k51 (wr .i64 (vH+1)) w5.1 w5.2.1 w5.2.2.1 w5.2.2.2) (
bd (eK n zZ tF rU uh CG tv gi kY) λg9=>
some (true,g9.1,g9.2.1,g9.2.2.1,g9.2.2.2.1,g9.2.2.2.2.1,g9.2.2.2.2.2.1,g9.2.2.2.2.2.2))) n 0 tG jx dR jo) λj43=>
cn ((aB.Do==4)) (
BZ (λk63 (pb:Int) (CF:ae) (pH:aj) (MA:ai) (Fv:(List Int)) (y7:aF) (VY:ah) (Jk:Bool)=>
cn (decide (pb<(dZ.1.length:Int))) (
gu (dm pb dZ.1.length)<|
gu (decide (0<=wr .i64 (8*pb)))<|
bd (kJ n pH (dZ.1.getD (Int.toNat pb) default) (wr .u8 (zE .u64 aB.V (wr .i64 (8*pb))))) λPO=>
k63 (wr .i64 (pb+1)) CF PO.2 MA Fv y7 VY Jk) (
j43 CF pH MA Fv y7 VY Jk eL)) n 0 aR bS cH dO fz dD eM) (
cn ((aB.Do==3)) (
eV (λk67 (uN:Int) (Rz:ah)=>
cn (decide (uN<(dZ.1.length:Int))) (
gu (dm uN dZ.1.length)<|
bd (lT n bS (dZ.1.getD (Int.toNat uN) default)) λJi=>
gu (decide (0<=wr .i64 (8*uN)))<|
lt (({Rz with V:=ZL .u64 Rz.V (Jv .u64 (wr .u64 Ji.1) (wr .i64 (8*uN)))}:ah):ah) λHJ=>
k67 (wr .i64 (uN+1)) HJ) (
j43 aR bS cH dO fz dD eM Rz)) n 0 eL) (
j43 aR bS cH dO fz dD eM eL)))) λj29=>
cl ((decide (0<cM.xA.N)==true)) (bH n da cM.jS aB) default λx70=>
cn (((decide (0<cM.xA.N))&&(x70 !=cM.xA.N))) (
bd (eZ n da dJ dQ dP cM.xA) λx71=>
lt (({cM with xA:=aA}:aF):aF) λMz=>
j29 x71.1 x71.2.1 x71.2.2.1 x71.2.2.2 Mz eH eG) (
j29 da dJ dQ dP cM eH eG)
def vO(n:Nat):CT:=cV (tC n [(10, .join [(.via 0, .box 173 (.st (.part 1 (.box 113 (.st (.part 952 (.v (.st 19)) (.part 1 (.box 185 (.v (.st 24))) (.part 320 (.v (.st 21)) (.part 1 (.row 3 1 (.int .i64)) .nil)))))) (.part 12 (.v (.st 22)) (.part 3 (.v (.st 2)) (.part 1 (.v .bool) .nil))))))] []),(30, .join [(.via 65, .box 113 (.st (.part 952 (.v (.st 19)) (.part 1 (.box 185 (.v (.st 24))) (.part 320 (.v (.st 21)) (.part 1 (.row 3 1 (.int .i64)) .nil)))))),(.via 0, .box 173 (.st (.part 1 (.bU 0) (.part 12 (.v (.st 22)) (.part 3 (.v (.st 2)) (.part 1 (.v .bool) .nil)))))),(.via 7, .box 55 (.v (.st 2)))] []),(35, .loop [(.dz 130, .v (.int .i64)),(.via 65, .box 113 (.st (.part 952 (.v (.st 19)) (.part 1 (.box 185 (.v (.st 24))) (.part 320 (.v (.st 21)) (.part 1 (.row 3 1 (.int .i64)) .nil))))))]),(1100000003, .loop [(.dz 10, .v (.int .i64)),(.via 0, .box 173 (.st (.part 1 (.box 113 (.st (.part 952 (.v (.st 19)) (.part 1 (.box 185 (.v (.st 24))) (.part 320 (.v (.st 21)) (.part 1 (.row 3 1 (.int .i64)) .nil)))))) (.part 12 (.v (.st 22)) (.part 3 (.v (.st 2)) (.part 1 (.v .bool) .nil))))))]),(1160000003, .loop [(.dz 10, .v (.int .i64)),(.cap 2 1, .box 55 (.v (.st 2)))])] [zB n,uT n,mO n,tI n,Bn n,CK n,mN n] []) ⟨75,[],(.cons (.box 173 (.st (.part 1 (.box 113 (.st (.part 952 (.v (.st 19)) (.part 1 (.box 185 (.v (.st 24))) (.part 320 (.v (.st 21)) (.part 1 (.row 3 1 (.int .i64)) .nil)))))) (.part 12 (.v (.st 22)) (.part 3 (.v (.st 2)) (.part 1 (.v .bool) .nil)))))) .nil),(.cons (.v .bool) (.cons (.box 173 (.st (.part 1 (.box 113 (.st (.part 952 (.v (.st 19)) (.part 1 (.box 185 (.v (.st 24))) (.part 320 (.v (.st 21)) (.part 1 (.row 3 1 (.int .i64)) .nil)))))) (.part 12 (.v (.st 22)) (.part 3 (.v (.st 2)) (.part 1 (.v .bool) .nil)))))) .nil)),[some 0,some 1,some 2,none], .nil,[],[[0]]⟩ (λx=>cu n x.1 x.2.1 x.2.2.1 x.2.2.2.1 x.2.2.2.2.1 x.2.2.2.2.2.1 x.2.2.2.2.2.2.1) (λy=>(y.1,y.2.1,y.2.2.1,y.2.2.2.1,y.2.2.2.2.1,y.2.2.2.2.2.1,y.2.2.2.2.2.2.1,y.2.2.2.2.2.2.2.1)) (λz=>(z.1,(z.2.1,(z.2.2.1,(z.2.2.2.1,(z.2.2.2.2.1,(z.2.2.2.2.2.1,(z.2.2.2.2.2.2.1,(z.2.2.2.2.2.2.2,())))))))))
def cK(n:Nat)(da:ae)(dJ:aj)(dQ:ai)(dP:(List Int))(a1:aF):Option (aF×ah×Bool×ae×aj×ai×(List Int)):=
lt (λ(aB:ae) (aR:aj) (bS:ai) (cH:(List Int)) (dO:aF) (fz:ah) (dD:Bool)=>
lt (dO:aF) λiE=>
lt (fz:ah) λdZ=>
some (iE,dZ,dD,aB,aR,bS,cH)) λj28=>
bd (eu n da dJ dQ dP a1 ay false) λdK=>
cn (dK.1) (
j28 dK.2.1 dK.2.2.1 dK.2.2.2.1 dK.2.2.2.2.1 dK.2.2.2.2.2.1 dK.2.2.2.2.2.2.1 dK.2.2.2.2.2.2.2) (
bd (fg n dK.2.1 dK.2.2.1 dK.2.2.2.1 dK.2.2.2.2.1 dK.2.2.2.2.2.1 dK.2.2.2.2.2.2.1 dK.2.2.2.2.2.2.2) λiM=>
cn (iM.1) (
j28 iM.2.1 iM.2.2.1 iM.2.2.2.1 iM.2.2.2.2.1 iM.2.2.2.2.2.1 iM.2.2.2.2.2.2.1 iM.2.2.2.2.2.2.2) (
bd (bY n iM.2.1 iM.2.2.1 iM.2.2.2.1 iM.2.2.2.2.1 iM.2.2.2.2.2.1 iM.2.2.2.2.2.2.1 iM.2.2.2.2.2.2.2) λeL=>
cn (eL.1) (
j28 eL.2.1 eL.2.2.1 eL.2.2.2.1 eL.2.2.2.2.1 eL.2.2.2.2.2.1 eL.2.2.2.2.2.2.1 eL.2.2.2.2.2.2.2) (
bd (eF n eL.2.1 eL.2.2.1 eL.2.2.2.1 eL.2.2.2.2.1 eL.2.2.2.2.2.1 eL.2.2.2.2.2.2.1 eL.2.2.2.2.2.2.2) λcC=>
cn (cC.1) (
j28 cC.2.1 cC.2.2.1 cC.2.2.2.1 cC.2.2.2.2.1 cC.2.2.2.2.2.1 cC.2.2.2.2.2.2.1 cC.2.2.2.2.2.2.2) (
bd (cu n cC.2.1 cC.2.2.1 cC.2.2.2.1 cC.2.2.2.2.1 cC.2.2.2.2.2.1 cC.2.2.2.2.2.2.1 cC.2.2.2.2.2.2.2) λfP=>
cn (fP.1) (
j28 fP.2.1 fP.2.2.1 fP.2.2.2.1 fP.2.2.2.2.1 fP.2.2.2.2.2.1 fP.2.2.2.2.2.2.1 fP.2.2.2.2.2.2.2) (
j28 fP.2.1 fP.2.2.1 fP.2.2.2.1 fP.2.2.2.2.1 fP.2.2.2.2.2.1 fP.2.2.2.2.2.2.1 fP.2.2.2.2.2.2.2)))))
def CX(n:Nat):CT:=cV (tC n [(14, .join [(.via 7, .box 173 (.st (.part 1 (.box 113 (.st (.part 952 (.v (.st 19)) (.part 1 (.box 185 (.v (.st 24))) (.part 320 (.v (.st 21)) (.part 1 (.row 3 1 (.int .i64)) .nil)))))) (.part 12 (.v (.st 22)) (.part 3 (.v (.st 2)) (.part 1 (.v .bool) .nil))))))] []),(7, .Jr)] [xN n,xM n,xd n,xb n,vO n] []) ⟨65,[],(.cons (.box 113 (.st (.part 952 (.v (.st 19)) (.part 1 (.box 185 (.v (.st 24))) (.part 320 (.v (.st 21)) (.part 1 (.row 3 1 (.int .i64)) .nil)))))) (.cons (.v (.st 22)) .nil)),(.cons (.jP (.cons (.v (.st 22)) (.cons (.v (.st 2)) (.cons (.v .bool) .nil)))) (.cons (.box 113 (.st (.part 952 (.v (.st 19)) (.part 1 (.box 185 (.v (.st 24))) (.part 320 (.v (.st 21)) (.part 1 (.row 3 1 (.int .i64)) .nil)))))) .nil)),[some 0,some 1,none], .nil,[],[[0]]⟩ (λx=>cK n x.1 x.2.1 x.2.2.1 x.2.2.2.1 x.2.2.2.2.1) (λy=>(y.1,y.2.1,y.2.2.1,y.2.2.2.1,y.2.2.2.2.1,y.2.2.2.2.2.1,y.2.2.2.2.2.2.1)) (λz=>(z.1,(z.2.1,(z.2.2.1,(z.2.2.2.1,(z.2.2.2.2.1,(z.2.2.2.2.2.1,(z.2.2.2.2.2.2,()))))))))
def dX(n:Nat)(da:ae)(dJ:aj)(dQ:ai)(dP:(List Int))(cM:Int)(a1:aC):Option (ah×ae×aj×ai×(List Int)×Int):=
lt (({({jW with jS:=cM}:aF)with C:=a1}:aF):aF) λaB=>
vo (λXT (aR:ah) (bS:ae) (cH:aj) (dO:ai) (fz:(List Int)) (dD:Int) (eM:aF)=>
cl (((!eM.Checked)==true)) (pK n bS dD a1) default λdZ=>
cn (((!eM.Checked)&&dZ)) (
cn ((a1.Do==15)) (
lt (({ay with E:=10}:ah):ah) λdK=>
some (dK,bS,cH,dO,fz,dD)) (
lt (({ay with E:=12}:ah):ah) λiM=>
some (iM,bS,cH,dO,fz,dD))) (
bd (cK n bS cH dO fz eM) λeL=>
lt (eL.1:aF) λcC=>
lt (eL.2.1:ah) λfP=>
cn (eL.2.2.1) (
lt (fP:ah) λjx=>
some (jx,eL.2.2.2.1,eL.2.2.2.2.1,eL.2.2.2.2.2.1,eL.2.2.2.2.2.2,dD)) (
cn (((eM.Checked&&((cC.ei.length:Int)==(eM.ei.length:Int)))&&(decide (0<(eM.ei.length:Int))))) (
bd (kR n eL.2.2.2.1 eL.2.2.2.2.1 eL.2.2.2.2.2.1 eL.2.2.2.2.2.2 eM) λdR=>
lt (({ay with E:=12}:ah):ah) λjo=>
some (jo,dR.1,dR.2.1,dR.2.2.1,dR.2.2.2,dD)) (
lt (cC:aF) λgB=>
XT aR eL.2.2.2.1 eL.2.2.2.2.1 eL.2.2.2.2.2.1 eL.2.2.2.2.2.2 dD gB)))) n ay da dJ dQ dP cM aB
def FE(n:Nat):CT:=cV (tC n [(5, .loop [(.via 4, .box 55 (.v (.st 2))),(.via 0, .box 141 (.st (.part 1 (.box 113 (.st (.part 952 (.v (.st 19)) (.part 1 (.box 185 (.v (.st 24))) (.part 320 (.v (.st 21)) (.part 1 (.row 3 1 (.int .i64)) .nil)))))) (.part 1 (.v (.int .i64)) .nil)))),(.via 5, .box 160 (.v (.st 22)))])] [Bq n,CX n,wK n] []) ⟨49,[],(.cons (.box 141 (.st (.part 1 (.box 113 (.st (.part 952 (.v (.st 19)) (.part 1 (.box 185 (.v (.st 24))) (.part 320 (.v (.st 21)) (.part 1 (.row 3 1 (.int .i64)) .nil)))))) (.part 1 (.v (.int .i64)) .nil)))) (.cons (.v (.st 3)) .nil)),(.cons (.v (.st 2)) (.cons (.box 141 (.st (.part 1 (.box 113 (.st (.part 952 (.v (.st 19)) (.part 1 (.box 185 (.v (.st 24))) (.part 320 (.v (.st 21)) (.part 1 (.row 3 1 (.int .i64)) .nil)))))) (.part 1 (.v (.int .i64)) .nil)))) .nil)),[some 0,some 1,some 2,none], .nil,[],[[0]]⟩ (λx=>dX n x.1 x.2.1 x.2.2.1 x.2.2.2.1 x.2.2.2.2.1 x.2.2.2.2.2.1) (λy=>(y.1,y.2.1,y.2.2.1,y.2.2.2.1,y.2.2.2.2.1,y.2.2.2.2.2.1)) (λz=>(z.1,(z.2.1,(z.2.2.1,(z.2.2.2.1,(z.2.2.2.2.1,(z.2.2.2.2.2,())))))))
def lU(n:Nat)(a0:aj)(a1:Int):Option (Int×aj):=
cn (((decide (a1<0))||(decide (a0.n<=a1)))) (
some (2,a0)) (
bd (gQ n a0.dF a1) λaB=>
cn (aB) (
some (12,a0)) (
gu (dm a1 64)<|
bd (lK n a0.dF a1 1) λaR=>
lt (({a0 with dF:=aR.1}:aj):aj) λbS=>
some (0,bS)))
def CL(n:Nat):CT:=cV (tC n [] [nj n,uR n] []) ⟨67,[],(.cons (.box 185 (.v (.st 24))) (.cons (.v (.int .i64)) .nil)),(.cons (.v (.int .i64)) (.cons (.box 185 (.v (.st 24))) .nil)),[some 0], .nil,[],[[0]]⟩ (λx=>lU n x.1 x.2.1) (λy=>(y.1,y.2.1)) (λz=>(z.1,(z.2,())))
def lZ(n:Nat)(da:ae)(dJ:aj)(dQ:ai)(dP:(List Int)):Option (Bool×ae×aj×ai×(List Int)):=
cn (((dP.length:Int)==0)) (
some (false,da,dJ,dQ,dP)) (
gu (dm 0 dP.length)<|
bd (lU n dJ (dP.getD (Int.toNat 0) default)) λaB=>
gu (dm 1 (dP.length+1))<|
some (true,da,aB.2,dQ,dP.drop (Int.toNat 1)))
def CY(n:Nat):CT:=cV (tC n [(1000025, .Jr)] [CL n] []) ⟨50,[],(.cons (.box 113 (.st (.part 952 (.v (.st 19)) (.part 1 (.box 185 (.v (.st 24))) (.part 320 (.v (.st 21)) (.part 1 (.row 3 1 (.int .i64)) .nil)))))) .nil),(.cons (.v .bool) (.cons (.box 113 (.st (.part 952 (.v (.st 19)) (.part 1 (.box 185 (.v (.st 24))) (.part 320 (.v (.st 21)) (.part 1 (.row 3 1 (.int .i64)) .nil)))))) .nil)),[some 0,some 1,none], .nil,[],[[0]]⟩ (λx=>lZ n x.1 x.2.1 x.2.2.1 x.2.2.2.1) (λy=>(y.1,y.2.1,y.2.2.1,y.2.2.2.1,y.2.2.2.2.1)) (λz=>(z.1,(z.2.1,(z.2.2.1,(z.2.2.2.1,(z.2.2.2.2,()))))))
def cy(n:Nat)(da:ae)(dJ:aj)(dQ:ai)(dP:(List Int))(cM:Int)(a1:aC):Option (ah×ae×aj×ai×(List Int)×Int):=
bd (dX n da dJ dQ dP cM a1) λaB=>
lt (aB.1:ah) λaR=>
lt (λ(bS:ae) (cH:aj) (dO:ai) (fz:(List Int)) (dD:Int) (eM:ah)=>
lt (eM:ah) λdZ=>
some (dZ,bS,cH,dO,fz,dD)) λj29=>
cn (((aR.E==6)&&(decide (0<(aB.2.2.2.2.1.length:Int))))) (
wT (λk36 (dK:ae) (iM:aj) (eL:ai) (cC:(List Int)) (fP:Int)=>
bd (lZ n dK iM eL cC) λdR=>
cn (dR.1) (
k36 dR.2.1 dR.2.2.1 dR.2.2.2.1 dR.2.2.2.2 fP) (
bd (dX n dR.2.1 dR.2.2.1 dR.2.2.2.1 dR.2.2.2.2 fP a1) λjo=>
lt (jo.1:ah) λgB=>
j29 jo.2.1 jo.2.2.1 jo.2.2.2.1 jo.2.2.2.2.1 jo.2.2.2.2.2 gB)) n aB.2.1 aB.2.2.1 aB.2.2.2.1 aB.2.2.2.2.1 aB.2.2.2.2.2) (
j29 aB.2.1 aB.2.2.1 aB.2.2.2.1 aB.2.2.2.2.1 aB.2.2.2.2.2 aR)
def sD(n:Nat):CT:=cV (tC n [(14, .join [(.via 0, .box 141 (.st (.part 1 (.box 113 (.st (.part 952 (.v (.st 19)) (.part 1 (.box 185 (.v (.st 24))) (.part 320 (.v (.st 21)) (.part 1 (.row 3 1 (.int .i64)) .nil)))))) (.part 1 (.v (.int .i64)) .nil)))),(.via 5, .box 55 (.v (.st 2)))] []),(11, .loop [(.via 0, .box 141 (.st (.part 1 (.box 113 (.st (.part 952 (.v (.st 19)) (.part 1 (.box 185 (.v (.st 24))) (.part 320 (.v (.st 21)) (.part 1 (.row 3 1 (.int .i64)) .nil)))))) (.part 1 (.v (.int .i64)) .nil))))])] [FE n,CY n] []) ⟨17,[],(.cons (.box 141 (.st (.part 1 (.box 113 (.st (.part 952 (.v (.st 19)) (.part 1 (.box 185 (.v (.st 24))) (.part 320 (.v (.st 21)) (.part 1 (.row 3 1 (.int .i64)) .nil)))))) (.part 1 (.v (.int .i64)) .nil)))) (.cons (.v (.st 3)) .nil)),(.cons (.v (.st 2)) (.cons (.box 141 (.st (.part 1 (.box 113 (.st (.part 952 (.v (.st 19)) (.part 1 (.box 185 (.v (.st 24))) (.part 320 (.v (.st 21)) (.part 1 (.row 3 1 (.int .i64)) .nil)))))) (.part 1 (.v (.int .i64)) .nil)))) .nil)),[some 0,some 1,some 2,none], .nil,[],[[0]]⟩ (λx=>cy n x.1 x.2.1 x.2.2.1 x.2.2.2.1 x.2.2.2.2.1 x.2.2.2.2.2.1) (λy=>(y.1,y.2.1,y.2.2.1,y.2.2.2.1,y.2.2.2.2.1,y.2.2.2.2.2.1)) (λz=>(z.1,(z.2.1,(z.2.2.1,(z.2.2.2.1,(z.2.2.2.2.1,(z.2.2.2.2.2,())))))))
def lX(n:Nat)(a0:Int):Option (Int×Bool):=
some (wr .u32 a0,((decide (0<=a0))&&(decide (a0<=4294967295))))
def Jl(n:Nat):CT:=cV (tC n [] [] []) ⟨59,[],(.cons (.v (.int .i64)) .nil),(.cons (.jP (.cons (.v (.int .u32)) (.cons (.v .bool) .nil))) .nil),[], .nil,[],[]⟩ (λx=>lX n x.1) (λy=>(y.1,y.2.1)) (λz=>(z.1,(z.2,())))
def ja(n:Nat)(da:ae)(dJ:aj)(dQ:ai)(dP:(List Int))(cM:Int)(a1:Int)(a2:Int)(a3:Int)(a4:Int)(a5:Int):Option (ah×ae×aj×ai×(List Int)×Int):=
bd (lX n a3) λaB=>
bd (lX n a4) λaR=>
cn (((!aB.2)||(!aR.2))) (
lt (({ay with E:=2}:ah):ah) λbS=>
some (bS,da,dJ,dQ,dP,cM)) (
bd (cy n da dJ dQ dP cM ({({({({({eC with Do:=a1}:aC)with R:=a2}:aC)with A:=aB.1}:aC)with B:=aR.1}:aC)with V:=a5}:aC)) λcH=>
lt (cH.1:ah) λdO=>
some (dO,cH.2.1,cH.2.2.1,cH.2.2.2.1,cH.2.2.2.2.1,cH.2.2.2.2.2))
def sC(n:Nat):CT:=cV (tC n [] [Jl n,sD n] []) ⟨34,[],(.cons (.box 141 (.st (.part 1 (.box 113 (.st (.part 952 (.v (.st 19)) (.part 1 (.box 185 (.v (.st 24))) (.part 320 (.v (.st 21)) (.part 1 (.row 3 1 (.int .i64)) .nil)))))) (.part 1 (.v (.int .i64)) .nil)))) (.cons (.v (.int .u8)) (.cons (.v (.int .u32)) (.cons (.v (.int .i64)) (.cons (.v (.int .i64)) (.cons (.v (.int .u64)) .nil)))))),(.cons (.v (.st 2)) (.cons (.box 141 (.st (.part 1 (.box 113 (.st (.part 952 (.v (.st 19)) (.part 1 (.box 185 (.v (.st 24))) (.part 320 (.v (.st 21)) (.part 1 (.row 3 1 (.int .i64)) .nil)))))) (.part 1 (.v (.int .i64)) .nil)))) .nil)),[some 0,some 1,some 2,none], .nil,[],[[0]]⟩ (λx=>ja n x.1 x.2.1 x.2.2.1 x.2.2.2.1 x.2.2.2.2.1 x.2.2.2.2.2.1 x.2.2.2.2.2.2.1 x.2.2.2.2.2.2.2.1 x.2.2.2.2.2.2.2.2.1 x.2.2.2.2.2.2.2.2.2.1) (λy=>(y.1,y.2.1,y.2.2.1,y.2.2.2.1,y.2.2.2.2.1,y.2.2.2.2.2.1)) (λz=>(z.1,(z.2.1,(z.2.2.1,(z.2.2.2.1,(z.2.2.2.2.1,(z.2.2.2.2.2,())))))))
def dU(n:Nat)(da:ae)(dJ:aj)(dQ:ai)(dP:(List Int))(cM:Int)(a1:Int)(a2:Int)(a3:Int):Option (Int×Int×ae×aj×ai×(List Int)×Int):=
bd (ja n da dJ dQ dP cM 2 a1 a2 a3 0) λaB=>
lt (aB.1:ah) λaR=>
some (wr .i64 aR.V,aR.E,aB.2.1,aB.2.2.1,aB.2.2.2.1,aB.2.2.2.2.1,aB.2.2.2.2.2)
def qN(n:Nat):CT:=cV (tC n [] [sC n] []) ⟨48,[],(.cons (.box 141 (.st (.part 1 (.box 113 (.st (.part 952 (.v (.st 19)) (.part 1 (.box 185 (.v (.st 24))) (.part 320 (.v (.st 21)) (.part 1 (.row 3 1 (.int .i64)) .nil)))))) (.part 1 (.v (.int .i64)) .nil)))) (.cons (.v (.int .u32)) (.cons (.v (.int .i64)) (.cons (.v (.int .i64)) .nil)))),(.cons (.jP (.cons (.v (.int .i64)) (.cons (.v (.int .i64)) .nil))) (.cons (.box 141 (.st (.part 1 (.box 113 (.st (.part 952 (.v (.st 19)) (.part 1 (.box 185 (.v (.st 24))) (.part 320 (.v (.st 21)) (.part 1 (.row 3 1 (.int .i64)) .nil)))))) (.part 1 (.v (.int .i64)) .nil)))) .nil)),[some 0,some 1,some 2,none], .nil,[],[[0]]⟩ (λx=>dU n x.1 x.2.1 x.2.2.1 x.2.2.2.1 x.2.2.2.2.1 x.2.2.2.2.2.1 x.2.2.2.2.2.2.1 x.2.2.2.2.2.2.2.1) (λy=>(y.1,y.2.1,y.2.2.1,y.2.2.2.1,y.2.2.2.2.1,y.2.2.2.2.2.1,y.2.2.2.2.2.2.1)) (λz=>(z.1,(z.2.1,(z.2.2.1,(z.2.2.2.1,(z.2.2.2.2.1,(z.2.2.2.2.2.1,(z.2.2.2.2.2.2,()))))))))
def kj(n:Nat)(da:ae)(dJ:aj)(dQ:ai)(dP:(List Int))(cM:Int)(a1:Int)(a2:Int):Option (Int×Int×ae×aj×ai×(List Int)×Int):=
bd (ja n da dJ dQ dP cM 3 a1 a2 8 0) λaB=>
lt (aB.1:ah) λaR=>
some (aR.V,aR.E,aB.2.1,aB.2.2.1,aB.2.2.2.1,aB.2.2.2.2.1,aB.2.2.2.2.2)
def FF(n:Nat):CT:=cV (tC n [] [sC n] []) ⟨61,[],(.cons (.box 141 (.st (.part 1 (.box 113 (.st (.part 952 (.v (.st 19)) (.part 1 (.box 185 (.v (.st 24))) (.part 320 (.v (.st 21)) (.part 1 (.row 3 1 (.int .i64)) .nil)))))) (.part 1 (.v (.int .i64)) .nil)))) (.cons (.v (.int .u32)) (.cons (.v (.int .i64)) .nil))),(.cons (.jP (.cons (.v (.int .u64)) (.cons (.v (.int .i64)) .nil))) (.cons (.box 141 (.st (.part 1 (.box 113 (.st (.part 952 (.v (.st 19)) (.part 1 (.box 185 (.v (.st 24))) (.part 320 (.v (.st 21)) (.part 1 (.row 3 1 (.int .i64)) .nil)))))) (.part 1 (.v (.int .i64)) .nil)))) .nil)),[some 0,some 1,some 2,none], .nil,[],[[0]]⟩ (λx=>kj n x.1 x.2.1 x.2.2.1 x.2.2.2.1 x.2.2.2.2.1 x.2.2.2.2.2.1 x.2.2.2.2.2.2.1) (λy=>(y.1,y.2.1,y.2.2.1,y.2.2.2.1,y.2.2.2.2.1,y.2.2.2.2.2.1,y.2.2.2.2.2.2.1)) (λz=>(z.1,(z.2.1,(z.2.2.1,(z.2.2.2.1,(z.2.2.2.2.1,(z.2.2.2.2.2.1,(z.2.2.2.2.2.2,()))))))))
def bN(n:Nat)(da:ae)(dJ:aj)(dQ:ai)(dP:(List Int))(cM:Int)(eH:Int)(eG:Int)(A1:Int)(a1:Int):Option (Int×ae×aj×ai×(List Int)×Int×Int×Int×Int):=
cn ((A1 !=0)) (
some (0,da,dJ,dQ,dP,cM,eH,eG,A1)) (
bd (kj n da dJ dQ dP cM eH a1) λaB=>
lt (aB.2.1:Int) λaR=>
some (aB.1,aB.2.2.1,aB.2.2.2.1,aB.2.2.2.2.1,aB.2.2.2.2.2.1,aB.2.2.2.2.2.2,eH,eG,aR))
def gH(n:Nat):CT:=cV (tC n [] [FF n] []) ⟨38,[],(.cons (.box 150 (.st (.part 3 (.st (.part 1 (.box 141 (.st (.part 1 (.box 113 (.st (.part 952 (.v (.st 19)) (.part 1 (.box 185 (.v (.st 24))) (.part 320 (.v (.st 21)) (.part 1 (.row 3 1 (.int .i64)) .nil)))))) (.part 1 (.v (.int .i64)) .nil)))) (.part 1 (.v (.int .u32)) (.part 1 (.v (.int .i64)) .nil)))) (.part 1 (.v (.int .i64)) .nil)))) (.cons (.v (.int .i64)) .nil)),(.cons (.v (.int .u64)) (.cons (.box 150 (.st (.part 3 (.st (.part 1 (.box 141 (.st (.part 1 (.box 113 (.st (.part 952 (.v (.st 19)) (.part 1 (.box 185 (.v (.st 24))) (.part 320 (.v (.st 21)) (.part 1 (.row 3 1 (.int .i64)) .nil)))))) (.part 1 (.v (.int .i64)) .nil)))) (.part 1 (.v (.int .u32)) (.part 1 (.v (.int .i64)) .nil)))) (.part 1 (.v (.int .i64)) .nil)))) .nil)),[some 0,some 1,some 2,some 3,none], .nil,[],[[0]]⟩ (λx=>bN n x.1 x.2.1 x.2.2.1 x.2.2.2.1 x.2.2.2.2.1 x.2.2.2.2.2.1 x.2.2.2.2.2.2.1 x.2.2.2.2.2.2.2.1 x.2.2.2.2.2.2.2.2.1) (λy=>(y.1,y.2.1,y.2.2.1,y.2.2.2.1,y.2.2.2.2.1,y.2.2.2.2.2.1,y.2.2.2.2.2.2.1,y.2.2.2.2.2.2.2.1,y.2.2.2.2.2.2.2.2.1)) (λz=>(z.1,(z.2.1,(z.2.2.1,(z.2.2.2.1,(z.2.2.2.2.1,(z.2.2.2.2.2.1,(z.2.2.2.2.2.2.1,(z.2.2.2.2.2.2.2.1,(z.2.2.2.2.2.2.2.2,()))))))))))
def bP(n:Nat)(da:ae)(dJ:aj)(dQ:ai)(dP:(List Int))(cM:Int)(eH:Int)(eG:Int)(A1:Int)(a1:Int):Option (Int×ae×aj×ai×(List Int)×Int×Int×Int×Int):=
bd (bN n da dJ dQ dP cM eH eG A1 (wr .i64 (eG+a1))) λaB=>
some (aB.1,aB.2.1,aB.2.2.1,aB.2.2.2.1,aB.2.2.2.2.1,aB.2.2.2.2.2.1,aB.2.2.2.2.2.2.1,aB.2.2.2.2.2.2.2.1,aB.2.2.2.2.2.2.2.2)
def fq(n:Nat):CT:=cV (tC n [] [gH n] []) ⟨28,[],(.cons (.box 150 (.st (.part 3 (.st (.part 1 (.box 141 (.st (.part 1 (.box 113 (.st (.part 952 (.v (.st 19)) (.part 1 (.box 185 (.v (.st 24))) (.part 320 (.v (.st 21)) (.part 1 (.row 3 1 (.int .i64)) .nil)))))) (.part 1 (.v (.int .i64)) .nil)))) (.part 1 (.v (.int .u32)) (.part 1 (.v (.int .i64)) .nil)))) (.part 1 (.v (.int .i64)) .nil)))) (.cons (.v (.int .i64)) .nil)),(.cons (.v (.int .u64)) (.cons (.box 150 (.st (.part 3 (.st (.part 1 (.box 141 (.st (.part 1 (.box 113 (.st (.part 952 (.v (.st 19)) (.part 1 (.box 185 (.v (.st 24))) (.part 320 (.v (.st 21)) (.part 1 (.row 3 1 (.int .i64)) .nil)))))) (.part 1 (.v (.int .i64)) .nil)))) (.part 1 (.v (.int .u32)) (.part 1 (.v (.int .i64)) .nil)))) (.part 1 (.v (.int .i64)) .nil)))) .nil)),[some 0,some 1,some 2,some 3,none], .nil,[],[[0]]⟩ (λx=>bP n x.1 x.2.1 x.2.2.1 x.2.2.2.1 x.2.2.2.2.1 x.2.2.2.2.2.1 x.2.2.2.2.2.2.1 x.2.2.2.2.2.2.2.1 x.2.2.2.2.2.2.2.2.1) (λy=>(y.1,y.2.1,y.2.2.1,y.2.2.2.1,y.2.2.2.2.1,y.2.2.2.2.2.1,y.2.2.2.2.2.2.1,y.2.2.2.2.2.2.2.1,y.2.2.2.2.2.2.2.2.1)) (λz=>(z.1,(z.2.1,(z.2.2.1,(z.2.2.2.1,(z.2.2.2.2.1,(z.2.2.2.2.2.1,(z.2.2.2.2.2.2.1,(z.2.2.2.2.2.2.2.1,(z.2.2.2.2.2.2.2.2,()))))))))))
def fL(n:Nat)(a0:Int):Option Int:=
cn (((a0==0)||(decide (4294967296<a0)))) (
some ((-1))) (
some (wr .i64 (wr .u64 (a0-1))))
def rV(n:Nat):CT:=cV (tC n [] [] []) ⟨33,[],(.cons (.v (.int .u64)) .nil),(.cons (.v (.int .i64)) .nil),[], .nil,[],[]⟩ (λx=>fL n x.1) (λy=>(y.1)) (λz=>(z,()))
def gS(n:Nat)(da:ae)(dJ:aj)(dQ:ai)(dP:(List Int))(cM:Int)(a1:Int)(a2:Int)(a3:Int):Option (Int×ae×aj×ai×(List Int)×Int):=
bd (ja n da dJ dQ dP cM 4 a1 a2 8 a3) λaB=>
some (aB.1.E,aB.2.1,aB.2.2.1,aB.2.2.2.1,aB.2.2.2.2.1,aB.2.2.2.2.2)
def Ac(n:Nat):CT:=cV (tC n [] [sC n] []) ⟨10,[],(.cons (.box 141 (.st (.part 1 (.box 113 (.st (.part 952 (.v (.st 19)) (.part 1 (.box 185 (.v (.st 24))) (.part 320 (.v (.st 21)) (.part 1 (.row 3 1 (.int .i64)) .nil)))))) (.part 1 (.v (.int .i64)) .nil)))) (.cons (.v (.int .u32)) (.cons (.v (.int .i64)) (.cons (.v (.int .u64)) .nil)))),(.cons (.v (.int .i64)) (.cons (.box 141 (.st (.part 1 (.box 113 (.st (.part 952 (.v (.st 19)) (.part 1 (.box 185 (.v (.st 24))) (.part 320 (.v (.st 21)) (.part 1 (.row 3 1 (.int .i64)) .nil)))))) (.part 1 (.v (.int .i64)) .nil)))) .nil)),[some 0,some 1,some 2,none], .nil,[],[[0]]⟩ (λx=>gS n x.1 x.2.1 x.2.2.1 x.2.2.2.1 x.2.2.2.2.1 x.2.2.2.2.2.1 x.2.2.2.2.2.2.1 x.2.2.2.2.2.2.2.1) (λy=>(y.1,y.2.1,y.2.2.1,y.2.2.2.1,y.2.2.2.2.1,y.2.2.2.2.2.1)) (λz=>(z.1,(z.2.1,(z.2.2.1,(z.2.2.2.1,(z.2.2.2.2.1,(z.2.2.2.2.2,())))))))
def dg(n:Nat)(da:ae)(dJ:aj)(dQ:ai)(dP:(List Int))(cM:Int)(eH:Int)(eG:Int)(A1:Int)(a1:Int)(a2:Int):Option (ae×aj×ai×(List Int)×Int×Int×Int×Int):=
cn ((A1==0)) (
bd (gS n da dJ dQ dP cM eH a1 a2) λaB=>
lt (aB.1:Int) λaR=>
some (aB.2.1,aB.2.2.1,aB.2.2.2.1,aB.2.2.2.2.1,aB.2.2.2.2.2,eH,eG,aR)) (
some (da,dJ,dQ,dP,cM,eH,eG,A1))
def kG(n:Nat):CT:=cV (tC n [] [Ac n] []) ⟨30,[],(.cons (.box 150 (.st (.part 3 (.st (.part 1 (.box 141 (.st (.part 1 (.box 113 (.st (.part 952 (.v (.st 19)) (.part 1 (.box 185 (.v (.st 24))) (.part 320 (.v (.st 21)) (.part 1 (.row 3 1 (.int .i64)) .nil)))))) (.part 1 (.v (.int .i64)) .nil)))) (.part 1 (.v (.int .u32)) (.part 1 (.v (.int .i64)) .nil)))) (.part 1 (.v (.int .i64)) .nil)))) (.cons (.v (.int .i64)) (.cons (.v (.int .u64)) .nil))),(.cons (.jP .nil) (.cons (.box 150 (.st (.part 3 (.st (.part 1 (.box 141 (.st (.part 1 (.box 113 (.st (.part 952 (.v (.st 19)) (.part 1 (.box 185 (.v (.st 24))) (.part 320 (.v (.st 21)) (.part 1 (.row 3 1 (.int .i64)) .nil)))))) (.part 1 (.v (.int .i64)) .nil)))) (.part 1 (.v (.int .u32)) (.part 1 (.v (.int .i64)) .nil)))) (.part 1 (.v (.int .i64)) .nil)))) .nil)),[some 0,some 1,some 2,some 3,none], .nil,[],[[0]]⟩ (λx=>dg n x.1 x.2.1 x.2.2.1 x.2.2.2.1 x.2.2.2.2.1 x.2.2.2.2.2.1 x.2.2.2.2.2.2.1 x.2.2.2.2.2.2.2.1 x.2.2.2.2.2.2.2.2.1 x.2.2.2.2.2.2.2.2.2.1) (λy=>(y.1,y.2.1,y.2.2.1,y.2.2.2.1,y.2.2.2.2.1,y.2.2.2.2.2.1,y.2.2.2.2.2.2.1,y.2.2.2.2.2.2.2.1)) (λz=>(z.1,(z.2.1,(z.2.2.1,(z.2.2.2.1,(z.2.2.2.2.1,(z.2.2.2.2.2.1,(z.2.2.2.2.2.2.1,(z.2.2.2.2.2.2.2,())))))))))
def bz(n:Nat)(da:ae)(dJ:aj)(dQ:ai)(dP:(List Int))(cM:Int)(eH:Int)(eG:Int)(A1:Int)(a1:Int)(a2:Int):Option (ae×aj×ai×(List Int)×Int×Int×Int×Int):=
bd (dg n da dJ dQ dP cM eH eG A1 (wr .i64 (eG+a1)) a2) λaB=>
some (aB.1,aB.2.1,aB.2.2.1,aB.2.2.2.1,aB.2.2.2.2.1,aB.2.2.2.2.2.1,aB.2.2.2.2.2.2.1,aB.2.2.2.2.2.2.2)
def jG(n:Nat):CT:=cV (tC n [] [kG n] []) ⟨31,[],(.cons (.box 150 (.st (.part 3 (.st (.part 1 (.box 141 (.st (.part 1 (.box 113 (.st (.part 952 (.v (.st 19)) (.part 1 (.box 185 (.v (.st 24))) (.part 320 (.v (.st 21)) (.part 1 (.row 3 1 (.int .i64)) .nil)))))) (.part 1 (.v (.int .i64)) .nil)))) (.part 1 (.v (.int .u32)) (.part 1 (.v (.int .i64)) .nil)))) (.part 1 (.v (.int .i64)) .nil)))) (.cons (.v (.int .i64)) (.cons (.v (.int .u64)) .nil))),(.cons (.jP .nil) (.cons (.box 150 (.st (.part 3 (.st (.part 1 (.box 141 (.st (.part 1 (.box 113 (.st (.part 952 (.v (.st 19)) (.part 1 (.box 185 (.v (.st 24))) (.part 320 (.v (.st 21)) (.part 1 (.row 3 1 (.int .i64)) .nil)))))) (.part 1 (.v (.int .i64)) .nil)))) (.part 1 (.v (.int .u32)) (.part 1 (.v (.int .i64)) .nil)))) (.part 1 (.v (.int .i64)) .nil)))) .nil)),[some 0,some 1,some 2,some 3,none], .nil,[],[[0]]⟩ (λx=>bz n x.1 x.2.1 x.2.2.1 x.2.2.2.1 x.2.2.2.2.1 x.2.2.2.2.2.1 x.2.2.2.2.2.2.1 x.2.2.2.2.2.2.2.1 x.2.2.2.2.2.2.2.2.1 x.2.2.2.2.2.2.2.2.2.1) (λy=>(y.1,y.2.1,y.2.2.1,y.2.2.2.1,y.2.2.2.2.1,y.2.2.2.2.2.1,y.2.2.2.2.2.2.1,y.2.2.2.2.2.2.2.1)) (λz=>(z.1,(z.2.1,(z.2.2.1,(z.2.2.2.1,(z.2.2.2.2.1,(z.2.2.2.2.2.1,(z.2.2.2.2.2.2.1,(z.2.2.2.2.2.2.2,())))))))))
def iv(n:Nat)(da:ae)(dJ:aj)(dQ:ai)(dP:(List Int))(cM:Int)(eH:Int)(eG:Int)(A1:Int):Option (Int×ae×aj×ai×(List Int)×Int×Int×Int×Int):=
bd (bP n da dJ dQ dP cM eH eG A1 24) λaB=>
cn ((aB.2.2.2.2.2.2.2.2!=0)) (
some (0,aB.2.1,aB.2.2.1,aB.2.2.2.1,aB.2.2.2.2.1,aB.2.2.2.2.2.1,aB.2.2.2.2.2.2.1,aB.2.2.2.2.2.2.2.1,aB.2.2.2.2.2.2.2.2)) (
cn ((aB.1==0)) (
bd (dU n aB.2.1 aB.2.2.1 aB.2.2.2.1 aB.2.2.2.2.1 aB.2.2.2.2.2.1 aB.2.2.2.2.2.2.1 16 8) λaR=>
lt (aR.2.1:Int) λbS=>
some (aR.1,aR.2.2.1,aR.2.2.2.1,aR.2.2.2.2.1,aR.2.2.2.2.2.1,aR.2.2.2.2.2.2,aB.2.2.2.2.2.2.1,aB.2.2.2.2.2.2.2.1,bS)) (
bd (fL n aB.1) λcH=>
bd (bN n aB.2.1 aB.2.2.1 aB.2.2.2.1 aB.2.2.2.2.1 aB.2.2.2.2.2.1 aB.2.2.2.2.2.2.1 aB.2.2.2.2.2.2.2.1 aB.2.2.2.2.2.2.2.2 (wr .i64 (cH+0))) λdO=>
bd (bz n dO.2.1 dO.2.2.1 dO.2.2.2.1 dO.2.2.2.2.1 dO.2.2.2.2.2.1 dO.2.2.2.2.2.2.1 dO.2.2.2.2.2.2.2.1 dO.2.2.2.2.2.2.2.2 24 dO.1) λfz=>
bd (fL n aB.1) λdD=>
some (dD,fz.1,fz.2.1,fz.2.2.1,fz.2.2.2.1,fz.2.2.2.2.1,fz.2.2.2.2.2.1,fz.2.2.2.2.2.2.1,fz.2.2.2.2.2.2.2)))
def uU(n:Nat):CT:=cV (tC n [] [fq n,qN n,rV n,gH n,jG n] []) ⟨29,[],(.cons (.box 150 (.st (.part 3 (.st (.part 1 (.box 141 (.st (.part 1 (.box 113 (.st (.part 952 (.v (.st 19)) (.part 1 (.box 185 (.v (.st 24))) (.part 320 (.v (.st 21)) (.part 1 (.row 3 1 (.int .i64)) .nil)))))) (.part 1 (.v (.int .i64)) .nil)))) (.part 1 (.v (.int .u32)) (.part 1 (.v (.int .i64)) .nil)))) (.part 1 (.v (.int .i64)) .nil)))) .nil),(.cons (.v (.int .i64)) (.cons (.box 150 (.st (.part 3 (.st (.part 1 (.box 141 (.st (.part 1 (.box 113 (.st (.part 952 (.v (.st 19)) (.part 1 (.box 185 (.v (.st 24))) (.part 320 (.v (.st 21)) (.part 1 (.row 3 1 (.int .i64)) .nil)))))) (.part 1 (.v (.int .i64)) .nil)))) (.part 1 (.v (.int .u32)) (.part 1 (.v (.int .i64)) .nil)))) (.part 1 (.v (.int .i64)) .nil)))) .nil)),[some 0,some 1,some 2,some 3,none], .nil,[],[[0]]⟩ (λx=>iv n x.1 x.2.1 x.2.2.1 x.2.2.2.1 x.2.2.2.2.1 x.2.2.2.2.2.1 x.2.2.2.2.2.2.1 x.2.2.2.2.2.2.2.1) (λy=>(y.1,y.2.1,y.2.2.1,y.2.2.2.1,y.2.2.2.2.1,y.2.2.2.2.2.1,y.2.2.2.2.2.2.1,y.2.2.2.2.2.2.2.1,y.2.2.2.2.2.2.2.2.1)) (λz=>(z.1,(z.2.1,(z.2.2.1,(z.2.2.2.1,(z.2.2.2.2.1,(z.2.2.2.2.2.1,(z.2.2.2.2.2.2.1,(z.2.2.2.2.2.2.2.1,(z.2.2.2.2.2.2.2.2,()))))))))))
def gY(n:Nat)(a0:Int):Option Int:=
some (wr .u64 ((wr .u64 a0)+1))
def xK(n:Nat):CT:=cV (tC n [] [] []) ⟨32,[],(.cons (.v (.int .i64)) .nil),(.cons (.v (.int .u64)) .nil),[], .nil,[],[]⟩ (λx=>gY n x.1) (λy=>(y.1)) (λz=>(z,()))
def jL(n:Nat)(da:ae)(dJ:aj)(dQ:ai)(dP:(List Int))(cM:Int)(eH:Int)(eG:Int)(a1:Int):Option (Int×ae×aj×ai×(List Int)×Int×Int×Int):=
bd (bP n da dJ dQ dP cM eH eG 0 16) λaB=>
bd (bP n aB.2.1 aB.2.2.1 aB.2.2.2.1 aB.2.2.2.2.1 aB.2.2.2.2.2.1 aB.2.2.2.2.2.2.1 aB.2.2.2.2.2.2.2.1 aB.2.2.2.2.2.2.2.2 8) λaR=>
bd (iv n aR.2.1 aR.2.2.1 aR.2.2.2.1 aR.2.2.2.2.1 aR.2.2.2.2.2.1 aR.2.2.2.2.2.2.1 aR.2.2.2.2.2.2.2.1 aR.2.2.2.2.2.2.2.2) λbS=>
bd (dg n bS.2.1 bS.2.2.1 bS.2.2.2.1 bS.2.2.2.2.1 bS.2.2.2.2.2.1 bS.2.2.2.2.2.2.1 bS.2.2.2.2.2.2.2.1 bS.2.2.2.2.2.2.2.2 (wr .i64 (bS.1+0)) 0) λcH=>
bd (dg n cH.1 cH.2.1 cH.2.2.1 cH.2.2.2.1 cH.2.2.2.2.1 cH.2.2.2.2.2.1 cH.2.2.2.2.2.2.1 cH.2.2.2.2.2.2.2 (wr .i64 (bS.1+8)) a1) λdO=>
lt (λ(fz:ae) (dD:aj) (eM:ai) (iE:(List Int)) (dZ:Int) (dK:Int) (iM:Int) (eL:Int)=>
bd (gY n bS.1) λfP=>
bd (bz n fz dD eM iE dZ dK iM eL 8 fP) λjx=>
bd (bz n jx.1 jx.2.1 jx.2.2.1 jx.2.2.2.1 jx.2.2.2.2.1 jx.2.2.2.2.2.1 jx.2.2.2.2.2.2.1 jx.2.2.2.2.2.2.2 16 (wr .u64 (aB.1+1))) λdR=>
some (dR.2.2.2.2.2.2.2,dR.1,dR.2.1,dR.2.2.1,dR.2.2.2.1,dR.2.2.2.2.1,eH,eG)) λj34=>
cn ((aB.1==0)) (
bd (gY n bS.1) λjo=>
bd (bz n dO.1 dO.2.1 dO.2.2.1 dO.2.2.2.1 dO.2.2.2.2.1 dO.2.2.2.2.2.1 dO.2.2.2.2.2.2.1 dO.2.2.2.2.2.2.2 0 jo) λgB=>
j34 gB.1 gB.2.1 gB.2.2.1 gB.2.2.2.1 gB.2.2.2.2.1 gB.2.2.2.2.2.1 gB.2.2.2.2.2.2.1 gB.2.2.2.2.2.2.2) (
bd (fL n aR.1) λtv=>
bd (gY n bS.1) λgi=>
bd (dg n dO.1 dO.2.1 dO.2.2.1 dO.2.2.2.1 dO.2.2.2.2.1 dO.2.2.2.2.2.1 dO.2.2.2.2.2.2.1 dO.2.2.2.2.2.2.2 (wr .i64 (tv+0)) gi) λkY=>
j34 kY.1 kY.2.1 kY.2.2.1 kY.2.2.2.1 kY.2.2.2.2.1 kY.2.2.2.2.2.1 kY.2.2.2.2.2.2.1 kY.2.2.2.2.2.2.2)
def uV(n:Nat):CT:=cV (tC n [(80150000014, .join [(.via 0, .box 150 (.st (.part 3 (.st (.part 1 (.box 141 (.st (.part 1 (.box 113 (.st (.part 952 (.v (.st 19)) (.part 1 (.box 185 (.v (.st 24))) (.part 320 (.v (.st 21)) (.part 1 (.row 3 1 (.int .i64)) .nil)))))) (.part 1 (.v (.int .i64)) .nil)))) (.part 1 (.v (.int .u32)) (.part 1 (.v (.int .i64)) .nil)))) (.part 1 (.v (.int .i64)) .nil))))] [])] [fq n,uU n,kG n,xK n,jG n,rV n] []) ⟨9,[],(.cons (.st (.part 1 (.box 141 (.st (.part 1 (.box 113 (.st (.part 952 (.v (.st 19)) (.part 1 (.box 185 (.v (.st 24))) (.part 320 (.v (.st 21)) (.part 1 (.row 3 1 (.int .i64)) .nil)))))) (.part 1 (.v (.int .i64)) .nil)))) (.part 1 (.v (.int .u32)) (.part 1 (.v (.int .i64)) .nil)))) (.cons (.v (.int .u64)) .nil)),(.cons (.v (.int .i64)) (.cons (.st (.part 1 (.box 141 (.st (.part 1 (.box 113 (.st (.part 952 (.v (.st 19)) (.part 1 (.box 185 (.v (.st 24))) (.part 320 (.v (.st 21)) (.part 1 (.row 3 1 (.int .i64)) .nil)))))) (.part 1 (.v (.int .i64)) .nil)))) (.part 1 (.v (.int .u32)) (.part 1 (.v (.int .i64)) .nil)))) .nil)),[some 0,some 1,some 2,none], .nil,[],[[0]]⟩ (λx=>jL n x.1 x.2.1 x.2.2.1 x.2.2.2.1 x.2.2.2.2.1 x.2.2.2.2.2.1 x.2.2.2.2.2.2.1 x.2.2.2.2.2.2.2.1) (λy=>(y.1,y.2.1,y.2.2.1,y.2.2.2.1,y.2.2.2.2.1,y.2.2.2.2.2.1,y.2.2.2.2.2.2.1,y.2.2.2.2.2.2.2.1)) (λz=>(z.1,(z.2.1,(z.2.2.1,(z.2.2.2.1,(z.2.2.2.2.1,(z.2.2.2.2.2.1,(z.2.2.2.2.2.2.1,(z.2.2.2.2.2.2.2,())))))))))
def wV(n:Nat)(da:ae)(dJ:aj)(dQ:ai)(dP:(List Int))(cM:Int)(eH:Int)(eG:Int)(a1:Int):Option (Int×ae×aj×ai×(List Int)×Int×Int×Int):=
bd (bP n da dJ dQ dP cM eH eG 0 16) λaB=>
bd (bP n aB.2.1 aB.2.2.1 aB.2.2.2.1 aB.2.2.2.2.1 aB.2.2.2.2.2.1 aB.2.2.2.2.2.2.1 aB.2.2.2.2.2.2.2.1 aB.2.2.2.2.2.2.2.2 0) λaR=>
bd (iv n aR.2.1 aR.2.2.1 aR.2.2.2.1 aR.2.2.2.2.1 aR.2.2.2.2.2.1 aR.2.2.2.2.2.2.1 aR.2.2.2.2.2.2.2.1 aR.2.2.2.2.2.2.2.2) λbS=>
bd (dg n bS.2.1 bS.2.2.1 bS.2.2.2.1 bS.2.2.2.2.1 bS.2.2.2.2.2.1 bS.2.2.2.2.2.2.1 bS.2.2.2.2.2.2.2.1 bS.2.2.2.2.2.2.2.2 (wr .i64 (bS.1+0)) aR.1) λcH=>
bd (dg n cH.1 cH.2.1 cH.2.2.1 cH.2.2.2.1 cH.2.2.2.2.1 cH.2.2.2.2.2.1 cH.2.2.2.2.2.2.1 cH.2.2.2.2.2.2.2 (wr .i64 (bS.1+8)) a1) λdO=>
bd (gY n bS.1) λfz=>
bd (bz n dO.1 dO.2.1 dO.2.2.1 dO.2.2.2.1 dO.2.2.2.2.1 dO.2.2.2.2.2.1 dO.2.2.2.2.2.2.1 dO.2.2.2.2.2.2.2 0 fz) λdD=>
lt (λ(eM:ae) (iE:aj) (dZ:ai) (dK:(List Int)) (iM:Int) (eL:Int) (cC:Int) (fP:Int)=>
bd (bz n eM iE dZ dK iM eL cC fP 16 (wr .u64 (aB.1+1))) λdR=>
some (dR.2.2.2.2.2.2.2,dR.1,dR.2.1,dR.2.2.1,dR.2.2.2.1,dR.2.2.2.2.1,eH,eG)) λj36=>
cn ((aB.1==0)) (
bd (gY n bS.1) λjo=>
bd (bz n dD.1 dD.2.1 dD.2.2.1 dD.2.2.2.1 dD.2.2.2.2.1 dD.2.2.2.2.2.1 dD.2.2.2.2.2.2.1 dD.2.2.2.2.2.2.2 8 jo) λgB=>
j36 gB.1 gB.2.1 gB.2.2.1 gB.2.2.2.1 gB.2.2.2.2.1 gB.2.2.2.2.2.1 gB.2.2.2.2.2.2.1 gB.2.2.2.2.2.2.2) (
j36 dD.1 dD.2.1 dD.2.2.1 dD.2.2.2.1 dD.2.2.2.2.1 dD.2.2.2.2.2.1 dD.2.2.2.2.2.2.1 dD.2.2.2.2.2.2.2)
def Bz(n:Nat):CT:=cV (tC n [(80150000014, .join [(.via 0, .box 150 (.st (.part 3 (.st (.part 1 (.box 141 (.st (.part 1 (.box 113 (.st (.part 952 (.v (.st 19)) (.part 1 (.box 185 (.v (.st 24))) (.part 320 (.v (.st 21)) (.part 1 (.row 3 1 (.int .i64)) .nil)))))) (.part 1 (.v (.int .i64)) .nil)))) (.part 1 (.v (.int .u32)) (.part 1 (.v (.int .i64)) .nil)))) (.part 1 (.v (.int .i64)) .nil))))] [])] [fq n,uU n,kG n,xK n,jG n] []) ⟨23,[],(.cons (.st (.part 1 (.box 141 (.st (.part 1 (.box 113 (.st (.part 952 (.v (.st 19)) (.part 1 (.box 185 (.v (.st 24))) (.part 320 (.v (.st 21)) (.part 1 (.row 3 1 (.int .i64)) .nil)))))) (.part 1 (.v (.int .i64)) .nil)))) (.part 1 (.v (.int .u32)) (.part 1 (.v (.int .i64)) .nil)))) (.cons (.v (.int .u64)) .nil)),(.cons (.v (.int .i64)) (.cons (.st (.part 1 (.box 141 (.st (.part 1 (.box 113 (.st (.part 952 (.v (.st 19)) (.part 1 (.box 185 (.v (.st 24))) (.part 320 (.v (.st 21)) (.part 1 (.row 3 1 (.int .i64)) .nil)))))) (.part 1 (.v (.int .i64)) .nil)))) (.part 1 (.v (.int .u32)) (.part 1 (.v (.int .i64)) .nil)))) .nil)),[some 0,some 1,some 2,none], .nil,[],[[0]]⟩ (λx=>wV n x.1 x.2.1 x.2.2.1 x.2.2.2.1 x.2.2.2.2.1 x.2.2.2.2.2.1 x.2.2.2.2.2.2.1 x.2.2.2.2.2.2.2.1) (λy=>(y.1,y.2.1,y.2.2.1,y.2.2.2.1,y.2.2.2.2.1,y.2.2.2.2.2.1,y.2.2.2.2.2.2.1,y.2.2.2.2.2.2.2.1)) (λz=>(z.1,(z.2.1,(z.2.2.1,(z.2.2.2.1,(z.2.2.2.2.1,(z.2.2.2.2.2.1,(z.2.2.2.2.2.2.1,(z.2.2.2.2.2.2.2,())))))))))
def Ak(n:Nat)(da:ae)(dJ:aj)(dQ:ai)(dP:(List Int))(cM:Int)(eH:Int)(eG:Int):Option (Int×Int×ae×aj×ai×(List Int)×Int×Int×Int):=
bd (bP n da dJ dQ dP cM eH eG 0 16) λaB=>
bd (bP n aB.2.1 aB.2.2.1 aB.2.2.2.1 aB.2.2.2.2.1 aB.2.2.2.2.2.1 aB.2.2.2.2.2.2.1 aB.2.2.2.2.2.2.2.1 aB.2.2.2.2.2.2.2.2 0) λaR=>
bd (bP n aR.2.1 aR.2.2.1 aR.2.2.2.1 aR.2.2.2.2.1 aR.2.2.2.2.2.1 aR.2.2.2.2.2.2.1 aR.2.2.2.2.2.2.2.1 aR.2.2.2.2.2.2.2.2 24) λbS=>
lt (λ(cH:ae) (dO:aj) (fz:ai) (dD:(List Int)) (eM:Int) (iE:Int) (dZ:Int) (dK:Int)=>
bd (fL n aR.1) λeL=>
bd (bN n cH dO fz dD eM iE dZ dK (wr .i64 (eL+0))) λcC=>
bd (bN n cC.2.1 cC.2.2.1 cC.2.2.2.1 cC.2.2.2.2.1 cC.2.2.2.2.2.1 cC.2.2.2.2.2.2.1 cC.2.2.2.2.2.2.2.1 cC.2.2.2.2.2.2.2.2 (wr .i64 (eL+8))) λfP=>
lt (fP.1:Int) λjx=>
bd (dg n fP.2.1 fP.2.2.1 fP.2.2.2.1 fP.2.2.2.2.1 fP.2.2.2.2.2.1 fP.2.2.2.2.2.2.1 fP.2.2.2.2.2.2.2.1 fP.2.2.2.2.2.2.2.2 (wr .i64 (eL+0)) bS.1) λdR=>
bd (bz n dR.1 dR.2.1 dR.2.2.1 dR.2.2.2.1 dR.2.2.2.2.1 dR.2.2.2.2.2.1 dR.2.2.2.2.2.2.1 dR.2.2.2.2.2.2.2 24 aR.1) λjo=>
bd (bz n jo.1 jo.2.1 jo.2.2.1 jo.2.2.2.1 jo.2.2.2.2.1 jo.2.2.2.2.2.1 jo.2.2.2.2.2.2.1 jo.2.2.2.2.2.2.2 0 cC.1) λgB=>
lt (λ(tv:ae) (gi:aj) (kY:ai) (z6:(List Int)) (tG:Int) (CG:Int) (vH:Int) (zZ:Int)=>
bd (bz n tv gi kY z6 tG CG vH zZ 16 (wr .u64 (aB.1-1))) λrU=>
lt (λ(uh:Int)=>
lt (uh:Int) λMB=>
some (MB,rU.2.2.2.2.2.2.2,rU.1,rU.2.1,rU.2.2.1,rU.2.2.2.1,rU.2.2.2.2.1,eH,eG)) λZ1=>
cn ((rU.2.2.2.2.2.2.2!=0)) (
Z1 0) (
Z1 jx)) λj48=>
cn ((aB.1==1)) (
bd (bz n gB.1 gB.2.1 gB.2.2.1 gB.2.2.2.1 gB.2.2.2.2.1 gB.2.2.2.2.2.1 gB.2.2.2.2.2.2.1 gB.2.2.2.2.2.2.2 8 0) λw5=>
j48 w5.1 w5.2.1 w5.2.2.1 w5.2.2.2.1 w5.2.2.2.2.1 w5.2.2.2.2.2.1 w5.2.2.2.2.2.2.1 w5.2.2.2.2.2.2.2) (
j48 gB.1 gB.2.1 gB.2.2.1 gB.2.2.2.1 gB.2.2.2.2.1 gB.2.2.2.2.2.1 gB.2.2.2.2.2.2.1 gB.2.2.2.2.2.2.2)) λV9=>
cn (((bS.2.2.2.2.2.2.2.2==0)&&(aB.1==0))) (
V9 bS.2.1 bS.2.2.1 bS.2.2.2.1 bS.2.2.2.2.1 bS.2.2.2.2.2.1 bS.2.2.2.2.2.2.1 bS.2.2.2.2.2.2.2.1 10) (
V9 bS.2.1 bS.2.2.1 bS.2.2.2.1 bS.2.2.2.2.1 bS.2.2.2.2.2.1 bS.2.2.2.2.2.2.1 bS.2.2.2.2.2.2.2.1 bS.2.2.2.2.2.2.2.2)
def Ew(n:Nat):CT:=cV (tC n [(70150000006, .join [(.via 0, .box 150 (.st (.part 3 (.st (.part 1 (.box 141 (.st (.part 1 (.box 113 (.st (.part 952 (.v (.st 19)) (.part 1 (.box 185 (.v (.st 24))) (.part 320 (.v (.st 21)) (.part 1 (.row 3 1 (.int .i64)) .nil)))))) (.part 1 (.v (.int .i64)) .nil)))) (.part 1 (.v (.int .u32)) (.part 1 (.v (.int .i64)) .nil)))) (.part 1 (.v (.int .i64)) .nil))))] []),(70150000022, .join [(.via 0, .box 150 (.st (.part 3 (.st (.part 1 (.box 141 (.st (.part 1 (.box 113 (.st (.part 952 (.v (.st 19)) (.part 1 (.box 185 (.v (.st 24))) (.part 320 (.v (.st 21)) (.part 1 (.row 3 1 (.int .i64)) .nil)))))) (.part 1 (.v (.int .i64)) .nil)))) (.part 1 (.v (.int .u32)) (.part 1 (.v (.int .i64)) .nil)))) (.part 1 (.v (.int .i64)) .nil))))] []),(8, .join [(.via 2, .box 33 (.v (.int .u64)))] [])] [fq n,rV n,gH n,kG n,jG n] []) ⟨24,[],(.cons (.st (.part 1 (.box 141 (.st (.part 1 (.box 113 (.st (.part 952 (.v (.st 19)) (.part 1 (.box 185 (.v (.st 24))) (.part 320 (.v (.st 21)) (.part 1 (.row 3 1 (.int .i64)) .nil)))))) (.part 1 (.v (.int .i64)) .nil)))) (.part 1 (.v (.int .u32)) (.part 1 (.v (.int .i64)) .nil)))) .nil),(.cons (.jP (.cons (.v (.int .u64)) (.cons (.v (.int .i64)) .nil))) (.cons (.st (.part 1 (.box 141 (.st (.part 1 (.box 113 (.st (.part 952 (.v (.st 19)) (.part 1 (.box 185 (.v (.st 24))) (.part 320 (.v (.st 21)) (.part 1 (.row 3 1 (.int .i64)) .nil)))))) (.part 1 (.v (.int .i64)) .nil)))) (.part 1 (.v (.int .u32)) (.part 1 (.v (.int .i64)) .nil)))) .nil)),[some 0,some 1,some 2,none], .nil,[],[[0]]⟩ (λx=>Ak n x.1 x.2.1 x.2.2.1 x.2.2.2.1 x.2.2.2.2.1 x.2.2.2.2.2.1 x.2.2.2.2.2.2.1) (λy=>(y.1,y.2.1,y.2.2.1,y.2.2.2.1,y.2.2.2.2.1,y.2.2.2.2.2.1,y.2.2.2.2.2.2.1,y.2.2.2.2.2.2.2.1,y.2.2.2.2.2.2.2.2.1)) (λz=>(z.1,(z.2.1,(z.2.2.1,(z.2.2.2.1,(z.2.2.2.2.1,(z.2.2.2.2.2.1,(z.2.2.2.2.2.2.1,(z.2.2.2.2.2.2.2.1,(z.2.2.2.2.2.2.2.2,()))))))))))
def vr(n:Nat)(da:ae)(dJ:aj)(dQ:ai)(dP:(List Int))(cM:Int)(eH:Int)(eG:Int)(A1:Int):Option (ae×aj×ai×(List Int)×Int×Int×Int×Int):=
bd (bP n da dJ dQ dP cM eH eG A1 16) λaB=>
bd (bP n aB.2.1 aB.2.2.1 aB.2.2.2.1 aB.2.2.2.2.1 aB.2.2.2.2.2.1 aB.2.2.2.2.2.2.1 aB.2.2.2.2.2.2.2.1 aB.2.2.2.2.2.2.2.2 0) λaR=>
lt (λ(bS:ae) (cH:aj) (dO:ai) (fz:(List Int)) (dD:Int) (eM:Int) (iE:Int) (dZ:Int)=>
uB (λk43 (iM:Int) (eL:Int) (cC:(List Int)) (fP:ae) (jx:aj) (dR:ai) (jo:(List Int)) (gB:Int) (tv:Int) (gi:Int) (kY:Int)=>
cn (decide (iM<aB.1)) (
lt (λ(tG:ae) (CG:aj) (vH:ai) (zZ:(List Int)) (tF:Int) (rU:Int) (uh:Int) (Bc:Int)=>
cl (((Bc !=0)==false)) (fL n eL) default λw5=>
cn ((Bc !=0)) (
Dl (λk64 (g9:Int) (pb:Int) (CF:ae) (pH:aj) (MA:ai) (Fv:(List Int)) (y7:Int) (VY:Int) (Jk:Int) (RA:Int)=>
cn (decide (g9<(cC.length:Int))) (
gu (dm g9 cC.length)<|
bd (dg n CF pH MA Fv y7 VY Jk RA (wr .i64 ((cC.getD (Int.toNat g9) default)+0)) pb) λuN=>
bd (gY n (cC.getD (Int.toNat g9) default)) λRz=>
k64 (wr .i64 (g9+1)) Rz uN.1 uN.2.1 uN.2.2.1 uN.2.2.2.1 uN.2.2.2.2.1 uN.2.2.2.2.2.1 uN.2.2.2.2.2.2.1 uN.2.2.2.2.2.2.2) (
cn (decide (0<(cC.length:Int))) (
bd (bz n CF pH MA Fv y7 VY Jk RA 0 pb) λJj=>
gu (dm 0 cC.length)<|
bd (gY n (cC.getD (Int.toNat 0) default)) λJi=>
bd (bz n Jj.1 Jj.2.1 Jj.2.2.1 Jj.2.2.2.1 Jj.2.2.2.2.1 Jj.2.2.2.2.2.1 Jj.2.2.2.2.2.2.1 Jj.2.2.2.2.2.2.2 8 Ji) λHJ=>
some (HJ.1,HJ.2.1,HJ.2.2.1,HJ.2.2.2.1,HJ.2.2.2.2.1,HJ.2.2.2.2.2.1,HJ.2.2.2.2.2.2.1,HJ.2.2.2.2.2.2.2)) (
some (CF,pH,MA,Fv,y7,VY,Jk,RA)))) n 0 0 tG CG vH zZ tF rU uh Bc) (
gu (gZ cC.length [w5].length 8)<|
lt (cC++[w5]:List Int) λx70=>
bd (fL n eL) λx71=>
bd (bN n tG CG vH zZ tF rU uh Bc (wr .i64 (x71+0))) λMz=>
k43 (wr .u64 (iM+1)) Mz.1 x70 Mz.2.1 Mz.2.2.1 Mz.2.2.2.1 Mz.2.2.2.2.1 Mz.2.2.2.2.2.1 Mz.2.2.2.2.2.2.1 Mz.2.2.2.2.2.2.2.1 Mz.2.2.2.2.2.2.2.2)) λZ0=>
cn (((kY==0)&&(eL==0))) (
Z0 fP jx dR jo gB tv gi 3) (
Z0 fP jx dR jo gB tv gi kY)) (
Dl (λk83 (PN:Int) (x74:Int) (x75:ae) (EX:aj) (x77:ai) (Wr:(List Int)) (Wq:Int) (x80:Int) (x81:Int) (x82:Int)=>
cn (decide (PN<(cC.length:Int))) (
gu (dm PN cC.length)<|
bd (dg n x75 EX x77 Wr Wq x80 x81 x82 (wr .i64 ((cC.getD (Int.toNat PN) default)+0)) x74) λMm=>
bd (gY n (cC.getD (Int.toNat PN) default)) λx85=>
k83 (wr .i64 (PN+1)) x85 Mm.1 Mm.2.1 Mm.2.2.1 Mm.2.2.2.1 Mm.2.2.2.2.1 Mm.2.2.2.2.2.1 Mm.2.2.2.2.2.2.1 Mm.2.2.2.2.2.2.2) (
cn (decide (0<(cC.length:Int))) (
bd (bz n x75 EX x77 Wr Wq x80 x81 x82 0 x74) λZx=>
gu (dm 0 cC.length)<|
bd (gY n (cC.getD (Int.toNat 0) default)) λx87=>
bd (bz n Zx.1 Zx.2.1 Zx.2.2.1 Zx.2.2.2.1 Zx.2.2.2.2.1 Zx.2.2.2.2.2.1 Zx.2.2.2.2.2.2.1 Zx.2.2.2.2.2.2.2 8 x87) λOc=>
some (Oc.1,Oc.2.1,Oc.2.2.1,Oc.2.2.2.1,Oc.2.2.2.2.1,Oc.2.2.2.2.2.1,Oc.2.2.2.2.2.2.1,Oc.2.2.2.2.2.2.2)) (
some (x75,EX,x77,Wr,Wq,x80,x81,x82)))) n 0 0 fP jx dR jo gB tv gi kY)) n 0 aR.1 [] bS cH dO fz dD eM iE dZ) λj31=>
cn (((aR.2.2.2.2.2.2.2.2==0)&&(decide (128<aB.1)))) (
j31 aR.2.1 aR.2.2.1 aR.2.2.2.1 aR.2.2.2.2.1 aR.2.2.2.2.2.1 aR.2.2.2.2.2.2.1 aR.2.2.2.2.2.2.2.1 3) (
j31 aR.2.1 aR.2.2.1 aR.2.2.2.1 aR.2.2.2.2.1 aR.2.2.2.2.2.1 aR.2.2.2.2.2.2.1 aR.2.2.2.2.2.2.2.1 aR.2.2.2.2.2.2.2.2)
def Ay(n:Nat):CT:=cV (tC n [(9990000006, .join [(.via 5, .box 150 (.st (.part 3 (.st (.part 1 (.box 141 (.st (.part 1 (.box 113 (.st (.part 952 (.v (.st 19)) (.part 1 (.box 185 (.v (.st 24))) (.part 320 (.v (.st 21)) (.part 1 (.row 3 1 (.int .i64)) .nil)))))) (.part 1 (.v (.int .i64)) .nil)))) (.part 1 (.v (.int .u32)) (.part 1 (.v (.int .i64)) .nil)))) (.part 1 (.v (.int .i64)) .nil))))] []),(9990000009, .loop [(.dz 20, .v (.int .u64)),(.dz 4, .v (.int .u64)),(.frm 0 2, .box 111 (.row 3 1 (.int .i64))),(.via 5, .box 150 (.st (.part 3 (.st (.part 1 (.box 141 (.st (.part 1 (.box 113 (.st (.part 952 (.v (.st 19)) (.part 1 (.box 185 (.v (.st 24))) (.part 320 (.v (.st 21)) (.part 1 (.row 3 1 (.int .i64)) .nil)))))) (.part 1 (.v (.int .i64)) .nil)))) (.part 1 (.v (.int .u32)) (.part 1 (.v (.int .i64)) .nil)))) (.part 1 (.v (.int .i64)) .nil))))]),(9990000014, .join [(.via 5, .box 150 (.st (.part 3 (.st (.part 1 (.box 141 (.st (.part 1 (.box 113 (.st (.part 952 (.v (.st 19)) (.part 1 (.box 185 (.v (.st 24))) (.part 320 (.v (.st 21)) (.part 1 (.row 3 1 (.int .i64)) .nil)))))) (.part 1 (.v (.int .i64)) .nil)))) (.part 1 (.v (.int .u32)) (.part 1 (.v (.int .i64)) .nil)))) (.part 1 (.v (.int .i64)) .nil))))] []),(13, .loop [(.dz 18, .v (.int .i64)),(.dz 4, .v (.int .u64)),(.via 0, .box 150 (.st (.part 3 (.st (.part 1 (.box 141 (.st (.part 1 (.box 113 (.st (.part 952 (.v (.st 19)) (.part 1 (.box 185 (.v (.st 24))) (.part 320 (.v (.st 21)) (.part 1 (.row 3 1 (.int .i64)) .nil)))))) (.part 1 (.v (.int .i64)) .nil)))) (.part 1 (.v (.int .u32)) (.part 1 (.v (.int .i64)) .nil)))) (.part 1 (.v (.int .i64)) .nil))))])] [fq n,rV n,kG n,xK n,jG n,gH n] []) ⟨58,[],(.cons (.box 150 (.st (.part 3 (.st (.part 1 (.box 141 (.st (.part 1 (.box 113 (.st (.part 952 (.v (.st 19)) (.part 1 (.box 185 (.v (.st 24))) (.part 320 (.v (.st 21)) (.part 1 (.row 3 1 (.int .i64)) .nil)))))) (.part 1 (.v (.int .i64)) .nil)))) (.part 1 (.v (.int .u32)) (.part 1 (.v (.int .i64)) .nil)))) (.part 1 (.v (.int .i64)) .nil)))) .nil),(.cons (.jP .nil) (.cons (.box 150 (.st (.part 3 (.st (.part 1 (.box 141 (.st (.part 1 (.box 113 (.st (.part 952 (.v (.st 19)) (.part 1 (.box 185 (.v (.st 24))) (.part 320 (.v (.st 21)) (.part 1 (.row 3 1 (.int .i64)) .nil)))))) (.part 1 (.v (.int .i64)) .nil)))) (.part 1 (.v (.int .u32)) (.part 1 (.v (.int .i64)) .nil)))) (.part 1 (.v (.int .i64)) .nil)))) .nil)),[some 0,some 1,some 2,some 3,none], .nil,[],[[0]]⟩ (λx=>vr n x.1 x.2.1 x.2.2.1 x.2.2.2.1 x.2.2.2.2.1 x.2.2.2.2.2.1 x.2.2.2.2.2.2.1 x.2.2.2.2.2.2.2.1) (λy=>(y.1,y.2.1,y.2.2.1,y.2.2.2.1,y.2.2.2.2.1,y.2.2.2.2.2.1,y.2.2.2.2.2.2.1,y.2.2.2.2.2.2.2.1)) (λz=>(z.1,(z.2.1,(z.2.2.1,(z.2.2.2.1,(z.2.2.2.2.1,(z.2.2.2.2.2.1,(z.2.2.2.2.2.2.1,(z.2.2.2.2.2.2.2,())))))))))
def yg(n:Nat)(da:ae)(dJ:aj)(dQ:ai)(dP:(List Int))(cM:Int)(eH:Int)(eG:Int):Option (Int×ae×aj×ai×(List Int)×Int×Int×Int):=
bd (vr n da dJ dQ dP cM eH eG 0) λaB=>
some (aB.2.2.2.2.2.2.2,aB.1,aB.2.1,aB.2.2.1,aB.2.2.2.1,aB.2.2.2.2.1,eH,eG)
def CR(n:Nat):CT:=cV (tC n [] [Ay n] []) ⟨25,[],(.cons (.st (.part 1 (.box 141 (.st (.part 1 (.box 113 (.st (.part 952 (.v (.st 19)) (.part 1 (.box 185 (.v (.st 24))) (.part 320 (.v (.st 21)) (.part 1 (.row 3 1 (.int .i64)) .nil)))))) (.part 1 (.v (.int .i64)) .nil)))) (.part 1 (.v (.int .u32)) (.part 1 (.v (.int .i64)) .nil)))) .nil),(.cons (.v (.int .i64)) (.cons (.st (.part 1 (.box 141 (.st (.part 1 (.box 113 (.st (.part 952 (.v (.st 19)) (.part 1 (.box 185 (.v (.st 24))) (.part 320 (.v (.st 21)) (.part 1 (.row 3 1 (.int .i64)) .nil)))))) (.part 1 (.v (.int .i64)) .nil)))) (.part 1 (.v (.int .u32)) (.part 1 (.v (.int .i64)) .nil)))) .nil)),[some 0,some 1,some 2,none], .nil,[],[[0]]⟩ (λx=>yg n x.1 x.2.1 x.2.2.1 x.2.2.2.1 x.2.2.2.2.1 x.2.2.2.2.2.1 x.2.2.2.2.2.2.1) (λy=>(y.1,y.2.1,y.2.2.1,y.2.2.2.1,y.2.2.2.2.1,y.2.2.2.2.2.1,y.2.2.2.2.2.2.1,y.2.2.2.2.2.2.2.1)) (λz=>(z.1,(z.2.1,(z.2.2.1,(z.2.2.2.1,(z.2.2.2.2.1,(z.2.2.2.2.2.1,(z.2.2.2.2.2.2.1,(z.2.2.2.2.2.2.2,())))))))))
def mX(n:Nat)(da:ae)(dJ:aj)(dQ:ai)(dP:(List Int))(cM:Int)(eH:Int)(eG:Int):Option (Int×Int×ae×aj×ai×(List Int)×Int×Int×Int):=
bd (bP n da dJ dQ dP cM eH eG 0 16) λaB=>
lt (wr .i64 aB.1:Int) λaR=>
lt (aR:Int) λbS=>
some (bS,aB.2.2.2.2.2.2.2.2,aB.2.1,aB.2.2.1,aB.2.2.2.1,aB.2.2.2.2.1,aB.2.2.2.2.2.1,eH,eG)
def wG(n:Nat):CT:=cV (tC n [] [fq n] []) ⟨11,[],(.cons (.st (.part 1 (.box 141 (.st (.part 1 (.box 113 (.st (.part 952 (.v (.st 19)) (.part 1 (.box 185 (.v (.st 24))) (.part 320 (.v (.st 21)) (.part 1 (.row 3 1 (.int .i64)) .nil)))))) (.part 1 (.v (.int .i64)) .nil)))) (.part 1 (.v (.int .u32)) (.part 1 (.v (.int .i64)) .nil)))) .nil),(.cons (.jP (.cons (.v (.int .i64)) (.cons (.v (.int .i64)) .nil))) (.cons (.st (.part 1 (.box 141 (.st (.part 1 (.box 113 (.st (.part 952 (.v (.st 19)) (.part 1 (.box 185 (.v (.st 24))) (.part 320 (.v (.st 21)) (.part 1 (.row 3 1 (.int .i64)) .nil)))))) (.part 1 (.v (.int .i64)) .nil)))) (.part 1 (.v (.int .u32)) (.part 1 (.v (.int .i64)) .nil)))) .nil)),[some 0,some 1,some 2,none], .nil,[],[[0]]⟩ (λx=>mX n x.1 x.2.1 x.2.2.1 x.2.2.2.1 x.2.2.2.2.1 x.2.2.2.2.2.1 x.2.2.2.2.2.2.1) (λy=>(y.1,y.2.1,y.2.2.1,y.2.2.2.1,y.2.2.2.2.1,y.2.2.2.2.2.1,y.2.2.2.2.2.2.1,y.2.2.2.2.2.2.2.1,y.2.2.2.2.2.2.2.2.1)) (λz=>(z.1,(z.2.1,(z.2.2.1,(z.2.2.2.1,(z.2.2.2.2.1,(z.2.2.2.2.2.1,(z.2.2.2.2.2.2.1,(z.2.2.2.2.2.2.2.1,(z.2.2.2.2.2.2.2.2,()))))))))))
def mZ(n:Nat)(da:ae)(dJ:aj)(dQ:ai)(dP:(List Int))(cM:Int)(eH:Int)(eG:Int):Option ((List Int)×Int×ae×aj×ai×(List Int)×Int×Int×Int):=
bd (bP n da dJ dQ dP cM eH eG 0 16) λaB=>
bd (bP n aB.2.1 aB.2.2.1 aB.2.2.2.1 aB.2.2.2.2.1 aB.2.2.2.2.2.1 aB.2.2.2.2.2.2.1 aB.2.2.2.2.2.2.2.1 aB.2.2.2.2.2.2.2.2 0) λaR=>
lt (λ(bS:ae) (cH:aj) (dO:ai) (fz:(List Int)) (dD:Int) (eM:Int) (iE:Int) (dZ:Int)=>
uB (λk43 (iM:Int) (eL:Int) (cC:ae) (fP:aj) (jx:ai) (dR:(List Int)) (jo:Int) (gB:Int) (tv:Int) (gi:Int) (kY:(List Int))=>
cn (decide (iM<aB.1)) (
lt (λ(tG:ae) (CG:aj) (vH:ai) (zZ:(List Int)) (tF:Int) (rU:Int) (uh:Int) (Bc:Int)=>
cl (((Bc !=0)==false)) (fL n eL) default λw5=>
cn ((Bc !=0)) (
cn ((Bc !=0)) (
some ([],Bc,tG,CG,vH,zZ,tF,eH,eG)) (
some (kY,Bc,tG,CG,vH,zZ,tF,eH,eG))) (
bd (bN n tG CG vH zZ tF rU uh Bc (wr .i64 (w5+8))) λg9=>
gu (gZ kY.length [g9.1].length 8)<|
lt (kY++[g9.1]:List Int) λpb=>
bd (fL n eL) λCF=>
bd (bN n g9.2.1 g9.2.2.1 g9.2.2.2.1 g9.2.2.2.2.1 g9.2.2.2.2.2.1 g9.2.2.2.2.2.2.1 g9.2.2.2.2.2.2.2.1 g9.2.2.2.2.2.2.2.2 (wr .i64 (CF+0))) λpH=>
k43 (wr .u64 (iM+1)) pH.1 pH.2.1 pH.2.2.1 pH.2.2.2.1 pH.2.2.2.2.1 pH.2.2.2.2.2.1 pH.2.2.2.2.2.2.1 pH.2.2.2.2.2.2.2.1 pH.2.2.2.2.2.2.2.2 pb)) λZ0=>
cn (((gi==0)&&(eL==0))) (
Z0 cC fP jx dR jo gB tv 3) (
Z0 cC fP jx dR jo gB tv gi)) (
cn ((gi !=0)) (
some ([],gi,cC,fP,jx,dR,jo,eH,eG)) (
some (kY,gi,cC,fP,jx,dR,jo,eH,eG)))) n 0 aR.1 bS cH dO fz dD eM iE dZ []) λj31=>
cn (((aR.2.2.2.2.2.2.2.2==0)&&(decide (128<aB.1)))) (
j31 aR.2.1 aR.2.2.1 aR.2.2.2.1 aR.2.2.2.2.1 aR.2.2.2.2.2.1 aR.2.2.2.2.2.2.1 aR.2.2.2.2.2.2.2.1 3) (
j31 aR.2.1 aR.2.2.1 aR.2.2.2.1 aR.2.2.2.2.1 aR.2.2.2.2.2.1 aR.2.2.2.2.2.2.1 aR.2.2.2.2.2.2.2.1 aR.2.2.2.2.2.2.2.2)
def wH(n:Nat):CT:=cV (tC n [(70159990000006, .join [(.via 5, .box 150 (.st (.part 3 (.st (.part 1 (.box 141 (.st (.part 1 (.box 113 (.st (.part 952 (.v (.st 19)) (.part 1 (.box 185 (.v (.st 24))) (.part 320 (.v (.st 21)) (.part 1 (.row 3 1 (.int .i64)) .nil)))))) (.part 1 (.v (.int .i64)) .nil)))) (.part 1 (.v (.int .u32)) (.part 1 (.v (.int .i64)) .nil)))) (.part 1 (.v (.int .i64)) .nil))))] []),(70159990000009, .loop [(.dz 20, .v (.int .u64)),(.dz 4, .v (.int .u64)),(.via 5, .box 150 (.st (.part 3 (.st (.part 1 (.box 141 (.st (.part 1 (.box 113 (.st (.part 952 (.v (.st 19)) (.part 1 (.box 185 (.v (.st 24))) (.part 320 (.v (.st 21)) (.part 1 (.row 3 1 (.int .i64)) .nil)))))) (.part 1 (.v (.int .i64)) .nil)))) (.part 1 (.v (.int .u32)) (.part 1 (.v (.int .i64)) .nil)))) (.part 1 (.v (.int .i64)) .nil)))),(.frm 0 1, .box 22 (.row 33 1 (.int .u64)))]),(70159990000014, .join [(.via 5, .box 150 (.st (.part 3 (.st (.part 1 (.box 141 (.st (.part 1 (.box 113 (.st (.part 952 (.v (.st 19)) (.part 1 (.box 185 (.v (.st 24))) (.part 320 (.v (.st 21)) (.part 1 (.row 3 1 (.int .i64)) .nil)))))) (.part 1 (.v (.int .i64)) .nil)))) (.part 1 (.v (.int .u32)) (.part 1 (.v (.int .i64)) .nil)))) (.part 1 (.v (.int .i64)) .nil))))] [])] [fq n,rV n,gH n] []) ⟨12,[],(.cons (.st (.part 1 (.box 141 (.st (.part 1 (.box 113 (.st (.part 952 (.v (.st 19)) (.part 1 (.box 185 (.v (.st 24))) (.part 320 (.v (.st 21)) (.part 1 (.row 3 1 (.int .i64)) .nil)))))) (.part 1 (.v (.int .i64)) .nil)))) (.part 1 (.v (.int .u32)) (.part 1 (.v (.int .i64)) .nil)))) .nil),(.cons (.jP (.cons (.row 33 1 (.int .u64)) (.cons (.v (.int .i64)) .nil))) (.cons (.st (.part 1 (.box 141 (.st (.part 1 (.box 113 (.st (.part 952 (.v (.st 19)) (.part 1 (.box 185 (.v (.st 24))) (.part 320 (.v (.st 21)) (.part 1 (.row 3 1 (.int .i64)) .nil)))))) (.part 1 (.v (.int .i64)) .nil)))) (.part 1 (.v (.int .u32)) (.part 1 (.v (.int .i64)) .nil)))) .nil)),[none,some 0,some 1,some 2,none], .nil,[],[[0]]⟩ (λx=>mZ n x.1 x.2.1 x.2.2.1 x.2.2.2.1 x.2.2.2.2.1 x.2.2.2.2.2.1 x.2.2.2.2.2.2.1) (λy=>(y.1,y.2.1,y.2.2.1,y.2.2.2.1,y.2.2.2.2.1,y.2.2.2.2.2.1,y.2.2.2.2.2.2.1,y.2.2.2.2.2.2.2.1,y.2.2.2.2.2.2.2.2.1)) (λz=>(z.1,(z.2.1,(z.2.2.1,(z.2.2.2.1,(z.2.2.2.2.1,(z.2.2.2.2.2.1,(z.2.2.2.2.2.2.1,(z.2.2.2.2.2.2.2.1,(z.2.2.2.2.2.2.2.2,()))))))))))
def Ga(n:Nat)(da:ae)(dJ:aj)(dQ:ai)(dP:(List Int))(cM:Int)(eH:Int)(eG:Int)(a1:ig):Option (Bool×ae×aj×ai×(List Int)×Int×Int×Int):=
bd (mX n da dJ dQ dP cM eH eG) λaB=>
bd (mZ n aB.2.2.1 aB.2.2.2.1 aB.2.2.2.2.1 aB.2.2.2.2.2.1 aB.2.2.2.2.2.2.1 eH eG) λaR=>
cn (((((aB.2.1!=0)||(aR.2.1!=0))||(aB.1!=(a1.L.length:Int)))||((aR.1.length:Int)!=aB.1))) (
some (false,aR.2.2.1,aR.2.2.2.1,aR.2.2.2.2.1,aR.2.2.2.2.2.1,aR.2.2.2.2.2.2.1,eH,eG)) (
iu (λk24 (bS:Int)=>
cn (decide (bS<aB.1)) (
gu (dm bS aR.1.length)<|
gu (dm bS a1.L.length)<|
cn (((aR.1.getD (Int.toNat bS) default)!=(a1.L.getD (Int.toNat bS) default))) (
some (false,aR.2.2.1,aR.2.2.2.1,aR.2.2.2.2.1,aR.2.2.2.2.2.1,aR.2.2.2.2.2.2.1,eH,eG)) (
k24 (wr .i64 (bS+1)))) (
some (true,aR.2.2.1,aR.2.2.2.1,aR.2.2.2.2.1,aR.2.2.2.2.2.1,aR.2.2.2.2.2.2.1,eH,eG))) n 0)
def Jm(n:Nat):CT:=cV (tC n [(13, .loop [(.dz 9, .v (.int .i64))])] [wG n,wH n] []) ⟨15,[],(.cons (.st (.part 1 (.box 141 (.st (.part 1 (.box 113 (.st (.part 952 (.v (.st 19)) (.part 1 (.box 185 (.v (.st 24))) (.part 320 (.v (.st 21)) (.part 1 (.row 3 1 (.int .i64)) .nil)))))) (.part 1 (.v (.int .i64)) .nil)))) (.part 1 (.v (.int .u32)) (.part 1 (.v (.int .i64)) .nil)))) (.cons (.v (.st 1)) .nil)),(.cons (.v .bool) (.cons (.st (.part 1 (.box 141 (.st (.part 1 (.box 113 (.st (.part 952 (.v (.st 19)) (.part 1 (.box 185 (.v (.st 24))) (.part 320 (.v (.st 21)) (.part 1 (.row 3 1 (.int .i64)) .nil)))))) (.part 1 (.v (.int .i64)) .nil)))) (.part 1 (.v (.int .u32)) (.part 1 (.v (.int .i64)) .nil)))) .nil)),[some 0,some 1,some 2,none], .nil,[],[[0]]⟩ (λx=>Ga n x.1 x.2.1 x.2.2.1 x.2.2.2.1 x.2.2.2.2.1 x.2.2.2.2.2.1 x.2.2.2.2.2.2.1 x.2.2.2.2.2.2.2.1) (λy=>(y.1,y.2.1,y.2.2.1,y.2.2.2.1,y.2.2.2.2.1,y.2.2.2.2.2.1,y.2.2.2.2.2.2.1,y.2.2.2.2.2.2.2.1)) (λz=>(z.1,(z.2.1,(z.2.2.1,(z.2.2.2.1,(z.2.2.2.2.1,(z.2.2.2.2.2.1,(z.2.2.2.2.2.2.1,(z.2.2.2.2.2.2.2,())))))))))
def qo(n:Nat):Option Bool:=
bd (BI n 64) λaB=>
bd (tQ n) λaR=>
bd (cy n aR ({({jV with n:=64}:aj)with dF:=aB}:aj) bn [] 0 ({({eC with Do:=1}:aC)with A:=wr .u32 8}:aC)) λbS=>
lt (bS.1:ah) λcH=>
bd (dU n bS.2.1 bS.2.2.1 bS.2.2.2.1 bS.2.2.2.2.1 bS.2.2.2.2.2 cH.W 32 8) λdO=>
cn ((dO.2.1!=0)) (
cn ((!((cH.E==0)&&(dO.2.1==0)))) (
some (false)) (
lt (λ(fz:Int)=>
lt (fz:Int) λ_=>
some (false)) λj27=>
j27 0)) (
cn ((!((cH.E==0)&&true))) (
some (false)) (
bd (jL n dO.2.2.1 dO.2.2.2.1 dO.2.2.2.2.1 dO.2.2.2.2.2.1 dO.2.2.2.2.2.2 cH.W dO.1 1) λiE=>
bd (jL n iE.2.1 iE.2.2.1 iE.2.2.2.1 iE.2.2.2.2.1 iE.2.2.2.2.2.1 cH.W dO.1 2) λdZ=>
bd (wV n dZ.2.1 dZ.2.2.1 dZ.2.2.2.1 dZ.2.2.2.2.1 dZ.2.2.2.2.2.1 cH.W dO.1 0) λdK=>
bd (Ak n dK.2.1 dK.2.2.1 dK.2.2.2.1 dK.2.2.2.2.1 dK.2.2.2.2.2.1 cH.W dO.1) λiM=>
bd (yg n iM.2.2.1 iM.2.2.2.1 iM.2.2.2.2.1 iM.2.2.2.2.2.1 iM.2.2.2.2.2.2.1 cH.W dO.1) λeL=>
cn (((((((iE.1==0)&&(dZ.1==0))&&(dK.1==0))&&(iM.1==0))&&(iM.2.1==0))&&(eL.1==0))) (
bd (Ga n eL.2.1 eL.2.2.1 eL.2.2.2.1 eL.2.2.2.2.1 eL.2.2.2.2.2.1 cH.W dO.1 ({oZ with L:=[2,1]}:ig)) λcC=>
some (cC.1)) (
some (false))))
def HM(n:Nat):CT:=cV (tC n [(240000008, .join [(.via 2, .box 33 (.v (.int .u64)))] [])] [Im n,Ab n,sD n,qN n,uV n,Bz n,Ew n,CR n,Jm n] []) ⟨8,[], .nil,(.cons (.v .bool) .nil),[], .nil,[],[]⟩ (λ_=>qo n) (λy=>(y.1)) (λz=>(z,()))
def ku(n:Nat)(da:ae)(dJ:aj)(dQ:ai)(dP:(List Int))(cM:Int)(eH:Int)(eG:Int)(A1:Int)(a1:Int):Option (Int×ae×aj×ai×(List Int)×Int×Int×Int×Int):=
bd (bP n da dJ dQ dP cM eH eG A1 16) λaB=>
lt (λ(aR:ae) (bS:aj) (cH:ai) (dO:(List Int)) (fz:Int) (dD:Int) (eM:Int) (iE:Int)=>
bd (bP n aR bS cH dO fz dD eM iE 0) λdK=>
lt (λ(iM:ae) (eL:aj) (cC:ai) (fP:(List Int)) (jx:Int) (dR:Int) (jo:Int) (gB:Int)=>
uB (λk52 (gi:Int) (kY:Int) (z6:Int) (tG:ae) (CG:aj) (vH:ai) (zZ:(List Int)) (tF:Int) (rU:Int) (uh:Int) (Bc:Int)=>
cn (decide (gi<(wr .u64 ((wr .u64 (if 0<a1 then a1 else 0))+1)))) (
lt (λ(w5:ae) (g9:aj) (pb:ai) (CF:(List Int)) (pH:Int) (MA:Int) (Fv:Int) (y7:Int)=>
cl (((y7 !=0)==false)) (fL n kY) default λJk=>
cn ((y7 !=0)) (
some (z6,w5,g9,pb,CF,pH,MA,Fv,y7)) (
lt (Jk:Int) λRA=>
bd (fL n kY) λPO=>
bd (bN n w5 g9 pb CF pH MA Fv y7 (wr .i64 (PO+0))) λuN=>
k52 (wr .u64 (gi+1)) uN.1 RA uN.2.1 uN.2.2.1 uN.2.2.2.1 uN.2.2.2.2.1 uN.2.2.2.2.2.1 uN.2.2.2.2.2.2.1 uN.2.2.2.2.2.2.2.1 uN.2.2.2.2.2.2.2.2)) λj61=>
cn (((Bc==0)&&(kY==0))) (
j61 tG CG vH zZ tF rU uh 3) (
j61 tG CG vH zZ tF rU uh Bc)) (
some (z6,tG,CG,vH,zZ,tF,rU,uh,Bc))) n 0 dK.1 0 iM eL cC fP jx dR jo gB) λZ2=>
cn (((dK.2.2.2.2.2.2.2.2==0)&&(decide (128<(wr .u64 ((wr .u64 (if 0<a1 then a1 else 0))+1)))))) (
Z2 dK.2.1 dK.2.2.1 dK.2.2.2.1 dK.2.2.2.2.1 dK.2.2.2.2.2.1 dK.2.2.2.2.2.2.1 dK.2.2.2.2.2.2.2.1 3) (
Z2 dK.2.1 dK.2.2.1 dK.2.2.2.1 dK.2.2.2.2.1 dK.2.2.2.2.2.1 dK.2.2.2.2.2.2.1 dK.2.2.2.2.2.2.2.1 dK.2.2.2.2.2.2.2.2)) λj30=>
cn (((aB.2.2.2.2.2.2.2.2==0)&&((decide (a1<0))||(decide (aB.1<=(wr .u64 a1)))))) (
j30 aB.2.1 aB.2.2.1 aB.2.2.2.1 aB.2.2.2.2.1 aB.2.2.2.2.2.1 aB.2.2.2.2.2.2.1 aB.2.2.2.2.2.2.2.1 9) (
j30 aB.2.1 aB.2.2.1 aB.2.2.2.1 aB.2.2.2.2.1 aB.2.2.2.2.2.1 aB.2.2.2.2.2.2.1 aB.2.2.2.2.2.2.2.1 aB.2.2.2.2.2.2.2.2)
def FJ(n:Nat):CT:=cV (tC n [(8, .join [(.via 0, .box 150 (.st (.part 3 (.st (.part 1 (.box 141 (.st (.part 1 (.box 113 (.st (.part 952 (.v (.st 19)) (.part 1 (.box 185 (.v (.st 24))) (.part 320 (.v (.st 21)) (.part 1 (.row 3 1 (.int .i64)) .nil)))))) (.part 1 (.v (.int .i64)) .nil)))) (.part 1 (.v (.int .u32)) (.part 1 (.v (.int .i64)) .nil)))) (.part 1 (.v (.int .i64)) .nil))))] []),(9990000006, .join [(.via 5, .box 150 (.st (.part 3 (.st (.part 1 (.box 141 (.st (.part 1 (.box 113 (.st (.part 952 (.v (.st 19)) (.part 1 (.box 185 (.v (.st 24))) (.part 320 (.v (.st 21)) (.part 1 (.row 3 1 (.int .i64)) .nil)))))) (.part 1 (.v (.int .i64)) .nil)))) (.part 1 (.v (.int .u32)) (.part 1 (.v (.int .i64)) .nil)))) (.part 1 (.v (.int .i64)) .nil))))] []),(9990000009, .loop [(.dz 20, .v (.int .u64)),(.dz 4, .v (.int .u64)),(.frm 0 6, .box 3 (.v (.int .i64))),(.via 5, .box 150 (.st (.part 3 (.st (.part 1 (.box 141 (.st (.part 1 (.box 113 (.st (.part 952 (.v (.st 19)) (.part 1 (.box 185 (.v (.st 24))) (.part 320 (.v (.st 21)) (.part 1 (.row 3 1 (.int .i64)) .nil)))))) (.part 1 (.v (.int .i64)) .nil)))) (.part 1 (.v (.int .u32)) (.part 1 (.v (.int .i64)) .nil)))) (.part 1 (.v (.int .i64)) .nil))))]),(9990000014, .join [(.via 5, .box 150 (.st (.part 3 (.st (.part 1 (.box 141 (.st (.part 1 (.box 113 (.st (.part 952 (.v (.st 19)) (.part 1 (.box 185 (.v (.st 24))) (.part 320 (.v (.st 21)) (.part 1 (.row 3 1 (.int .i64)) .nil)))))) (.part 1 (.v (.int .i64)) .nil)))) (.part 1 (.v (.int .u32)) (.part 1 (.v (.int .i64)) .nil)))) (.part 1 (.v (.int .i64)) .nil))))] [])] [fq n,rV n,gH n] []) ⟨40,[],(.cons (.box 150 (.st (.part 3 (.st (.part 1 (.box 141 (.st (.part 1 (.box 113 (.st (.part 952 (.v (.st 19)) (.part 1 (.box 185 (.v (.st 24))) (.part 320 (.v (.st 21)) (.part 1 (.row 3 1 (.int .i64)) .nil)))))) (.part 1 (.v (.int .i64)) .nil)))) (.part 1 (.v (.int .u32)) (.part 1 (.v (.int .i64)) .nil)))) (.part 1 (.v (.int .i64)) .nil)))) (.cons (.v (.int .i64)) .nil)),(.cons (.v (.int .i64)) (.cons (.box 150 (.st (.part 3 (.st (.part 1 (.box 141 (.st (.part 1 (.box 113 (.st (.part 952 (.v (.st 19)) (.part 1 (.box 185 (.v (.st 24))) (.part 320 (.v (.st 21)) (.part 1 (.row 3 1 (.int .i64)) .nil)))))) (.part 1 (.v (.int .i64)) .nil)))) (.part 1 (.v (.int .u32)) (.part 1 (.v (.int .i64)) .nil)))) (.part 1 (.v (.int .i64)) .nil)))) .nil)),[some 0,some 1,some 2,some 3,none], .nil,[],[[0]]⟩ (λx=>ku n x.1 x.2.1 x.2.2.1 x.2.2.2.1 x.2.2.2.2.1 x.2.2.2.2.2.1 x.2.2.2.2.2.2.1 x.2.2.2.2.2.2.2.1 x.2.2.2.2.2.2.2.2.1) (λy=>(y.1,y.2.1,y.2.2.1,y.2.2.2.1,y.2.2.2.2.1,y.2.2.2.2.2.1,y.2.2.2.2.2.2.1,y.2.2.2.2.2.2.2.1,y.2.2.2.2.2.2.2.2.1)) (λz=>(z.1,(z.2.1,(z.2.2.1,(z.2.2.2.1,(z.2.2.2.2.1,(z.2.2.2.2.2.1,(z.2.2.2.2.2.2.1,(z.2.2.2.2.2.2.2.1,(z.2.2.2.2.2.2.2.2,()))))))))))
def mY(n:Nat)(da:ae)(dJ:aj)(dQ:ai)(dP:(List Int))(cM:Int)(eH:Int)(eG:Int)(a1:Int):Option (Int×Int×ae×aj×ai×(List Int)×Int×Int×Int):=
bd (ku n da dJ dQ dP cM eH eG 0 a1) λaB=>
bd (bN n aB.2.1 aB.2.2.1 aB.2.2.2.1 aB.2.2.2.2.1 aB.2.2.2.2.2.1 aB.2.2.2.2.2.2.1 aB.2.2.2.2.2.2.2.1 aB.2.2.2.2.2.2.2.2 (wr .i64 (aB.1+8))) λaR=>
lt (aR.1:Int) λbS=>
lt (λ(cH:Int)=>
lt (cH:Int) λfz=>
some (fz,aR.2.2.2.2.2.2.2.2,aR.2.1,aR.2.2.1,aR.2.2.2.1,aR.2.2.2.2.1,aR.2.2.2.2.2.1,eH,eG)) λZ3=>
cn ((aR.2.2.2.2.2.2.2.2!=0)) (
Z3 0) (
Z3 bS)
def Ey(n:Nat):CT:=cV (tC n [(8, .join [(.via 4, .box 33 (.v (.int .u64)))] [])] [FJ n,gH n] []) ⟨13,[],(.cons (.st (.part 1 (.box 141 (.st (.part 1 (.box 113 (.st (.part 952 (.v (.st 19)) (.part 1 (.box 185 (.v (.st 24))) (.part 320 (.v (.st 21)) (.part 1 (.row 3 1 (.int .i64)) .nil)))))) (.part 1 (.v (.int .i64)) .nil)))) (.part 1 (.v (.int .u32)) (.part 1 (.v (.int .i64)) .nil)))) (.cons (.v (.int .i64)) .nil)),(.cons (.jP (.cons (.v (.int .u64)) (.cons (.v (.int .i64)) .nil))) (.cons (.st (.part 1 (.box 141 (.st (.part 1 (.box 113 (.st (.part 952 (.v (.st 19)) (.part 1 (.box 185 (.v (.st 24))) (.part 320 (.v (.st 21)) (.part 1 (.row 3 1 (.int .i64)) .nil)))))) (.part 1 (.v (.int .i64)) .nil)))) (.part 1 (.v (.int .u32)) (.part 1 (.v (.int .i64)) .nil)))) .nil)),[some 0,some 1,some 2,none], .nil,[],[[0]]⟩ (λx=>mY n x.1 x.2.1 x.2.2.1 x.2.2.2.1 x.2.2.2.2.1 x.2.2.2.2.2.1 x.2.2.2.2.2.2.1 x.2.2.2.2.2.2.2.1) (λy=>(y.1,y.2.1,y.2.2.1,y.2.2.2.1,y.2.2.2.2.1,y.2.2.2.2.2.1,y.2.2.2.2.2.2.1,y.2.2.2.2.2.2.2.1,y.2.2.2.2.2.2.2.2.1)) (λz=>(z.1,(z.2.1,(z.2.2.1,(z.2.2.2.1,(z.2.2.2.2.1,(z.2.2.2.2.2.1,(z.2.2.2.2.2.2.1,(z.2.2.2.2.2.2.2.1,(z.2.2.2.2.2.2.2.2,()))))))))))
def sY(n:Nat)(a0:(List Int))(a1:Int):Option Bool:=
bd (BI n 64) λaB=>
bd (tQ n) λaR=>
bd (cy n aR ({({jV with n:=64}:aj)with dF:=aB}:aj) bn [] 0 ({({eC with Do:=1}:aC)with A:=wr .u32 16}:aC)) λbS=>
lt (bS.1:ah) λcH=>
bd (dU n bS.2.1 bS.2.2.1 bS.2.2.2.1 bS.2.2.2.2.1 bS.2.2.2.2.2 cH.W 32 8) λdO=>
cn ((dO.2.1!=0)) (
cn (((!((cH.E==0)&&(dO.2.1==0)))||(decide (30<(a0.length:Int))))) (
cl ((((cH.E==0)&&(dO.2.1==0))==true)) (qo n) default λfz=>
some ((((cH.E==0)&&(dO.2.1==0))&&fz))) (
none)) (
cn (((!((cH.E==0)&&true))||(decide (30<(a0.length:Int))))) (
cl ((((cH.E==0)&&true)==true)) (qo n) default λdD=>
some ((((cH.E==0)&&true)&&dD))) (
BZ (λk36 (eM:Int) (iE:ae) (dZ:aj) (dK:ai) (iM:(List Int)) (eL:Int) (cC:Int) (fP:Int)=>
cn (decide (eM<12)) (
bd (jL n iE dZ dK iM eL cC fP (wr .u64 eM)) λdR=>
cn ((dR.1!=0)) (
some (false)) (
k36 (wr .i64 (eM+1)) dR.2.1 dR.2.2.1 dR.2.2.2.1 dR.2.2.2.2.1 dR.2.2.2.2.2.1 cC fP)) (
BZ (λk46 (jo:Int) (gB:ae) (tv:aj) (gi:ai) (kY:(List Int)) (z6:Int) (tG:Int) (CG:Int)=>
cn (decide (jo<(a0.length:Int))) (
gu (dm jo a0.length)<|
bd (gS n gB tv gi kY z6 tG (wr .i64 (8*jo)) (a0.getD (Int.toNat jo) default)) λzZ=>
k46 (wr .i64 (jo+1)) zZ.2.1 zZ.2.2.1 zZ.2.2.2.1 zZ.2.2.2.2.1 zZ.2.2.2.2.2 tG CG) (
bd (mX n gB tv gi kY z6 tG CG) λtF=>
bd (mZ n tF.2.2.1 tF.2.2.2.1 tF.2.2.2.2.1 tF.2.2.2.2.2.1 tF.2.2.2.2.2.2.1 tG CG) λrU=>
bd (mY n rU.2.2.1 rU.2.2.2.1 rU.2.2.2.2.1 rU.2.2.2.2.2.1 rU.2.2.2.2.2.2.1 tG CG a1) λuh=>
cn (((((tF.2.1!=0)||((rU.2.1==0)&&((rU.1.length:Int)!=tF.1)))||((rU.2.1!=0)&&(decide (0<(rU.1.length:Int)))))||((rU.2.1==0)&&((uh.2.1==0)!=((decide (0<=a1))&&(decide (a1<tF.1))))))) (
some (false)) (
bd (qo n) λBc=>
some (Bc)))) n 0 iE dZ dK iM eL cC fP)) n 0 dO.2.2.1 dO.2.2.2.1 dO.2.2.2.2.1 dO.2.2.2.2.2.1 dO.2.2.2.2.2.2 cH.W dO.1))
def CS(n:Nat):CT:=cV (tC n [(11, .loop [(.dz 7, .v (.int .i64)),(.via 5, .box 27 (.st (.part 1 (.box 141 (.st (.part 1 (.box 113 (.st (.part 952 (.v (.st 19)) (.part 1 (.box 185 (.v (.st 24))) (.part 320 (.v (.st 21)) (.part 1 (.row 3 1 (.int .i64)) .nil)))))) (.part 1 (.v (.int .i64)) .nil)))) (.part 1 (.v (.int .u32)) (.part 1 (.v (.int .i64)) .nil)))))]),(21, .loop [(.dz 8, .v (.int .i64)),(.via 5, .box 27 (.st (.part 1 (.box 141 (.st (.part 1 (.box 113 (.st (.part 952 (.v (.st 19)) (.part 1 (.box 185 (.v (.st 24))) (.part 320 (.v (.st 21)) (.part 1 (.row 3 1 (.int .i64)) .nil)))))) (.part 1 (.v (.int .i64)) .nil)))) (.part 1 (.v (.int .u32)) (.part 1 (.v (.int .i64)) .nil)))))])] [Im n,Ab n,sD n,qN n,HM n,uV n,Ac n,wG n,wH n,Ey n] []) ⟨3,[],(.cons (.v (.sl (.int .u64))) (.cons (.v (.int .i64)) .nil)),(.cons (.v .bool) .nil),[], .nil,[],[]⟩ (λx=>sY n x.1 x.2.1) (λy=>(y.1)) (λz=>(z,()))
end
end Go.Proofs.Z
