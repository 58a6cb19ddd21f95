/- Part 14 of what a proof leans on; pruned and shortened by a program out of longer texts. -/
import Derived.Test.YtgdmofhmmhcmjaaGreatDoorQ13
namespace Go.Proofs.Z
open Go Go.Bw Go.Rw Go.RowKit
noncomputable section
abbrev tC(n:Nat)(h:List (Nat×Hn))(cs:List CT)(YR:List (It Tryz.prog sg)):xD Tryz.prog sg:=ahi tt zt n h cs YR eks
def fY(n:Nat)(a0:ae)(a1:Int)(a2:aC):Option Int:=
bd (bJ n a0 a1 a2) λaA=>
cn (decide (0<aA)) (
some (0)) (
bd (cq n a0 a1 a2 aB) λaQ=>
lt (aQ.1:ae) λ_=>
lt (aQ.2.1:ah) λcB=>
some (cB.E))
def BX(n:Nat):CT:=cV (tC n [] [mY n,vp n] []) ⟨70,[],(.cons (.v (.st 19)) (.cons (.v (.int .i64)) (.cons (.v (.st 3)) .nil))),(.cons (.v (.int .i64)) .nil),[], .nil,[],[]⟩ (λx=>fY n x.1 x.2.1 x.2.2.1) (λy=>(y.1)) (λz=>(z,()))
def pS(n:Nat)(a0:ae)(a1:Int)(a2:aC):Option Bool:=
cl (((a2.Do==15)==true)) (fY n a0 a1 a2) default λaA=>
some (((a2.Do==15)&&(aA==10)))
def BW(n:Nat):CT:=cV (tC n [] [BX n] []) ⟨64,[],(.cons (.v (.st 19)) (.cons (.v (.int .i64)) (.cons (.v (.st 3)) .nil))),(.cons (.v .bool) .nil),[], .nil,[],[]⟩ (λx=>pS n x.1 x.2.1 x.2.2.1) (λy=>(y.1)) (λz=>(z,()))
def fg(n:Nat)(cL:ae)(dc:aj)(dy:ai)(dx:(List Int))(a1:av):Option (ae×aj×ai×(List Int)):=
xw (λk26 (aA:Int) (aQ:ae) (bS:aj) (cB:ai) (dS:(List Int))=>
cn (decide (aA<a1.N)) (
gu (gC dS.length [wr .i64 (a1.At+aA)].length 8)<|
lt (dS++[wr .i64 (a1.At+aA)]:List Int) λdk=>
k26 (wr .i64 (aA+1)) aQ bS cB dk) (
some (aQ,bS,cB,dS))) n 0 cL dc dy dx
def uf(n:Nat):CT:=cV (tC n [(5, .loop [(.cY 7, .v (.int .i64)),(.via 0, .box 113 (.st (.part 952 (.v (.st 19)) (.part 1 (.box 185 (.v (.st 24))) (.part 320 (.v (.st 21)) (.part 1 (.row 3 1 (.int .i64)) .nil))))))])] [] []) ⟨76,[],(.cons (.box 113 (.st (.part 952 (.v (.st 19)) (.part 1 (.box 185 (.v (.st 24))) (.part 320 (.v (.st 21)) (.part 1 (.row 3 1 (.int .i64)) .nil)))))) (.cons (.v (.st 4)) .nil)),(.cons (.jy .nil) (.cons (.box 113 (.st (.part 952 (.v (.st 19)) (.part 1 (.box 185 (.v (.st 24))) (.part 320 (.v (.st 21)) (.part 1 (.row 3 1 (.int .i64)) .nil)))))) .nil)),[some 0,some 1,none], .nil,[],[[0]]⟩ (λx=>fg n x.1 x.2.1 x.2.2.1 x.2.2.2.1 x.2.2.2.2.1) (λy=>(y.1,y.2.1,y.2.2.1,y.2.2.2.1)) (λz=>(z.1,(z.2.1,(z.2.2.1,(z.2.2.2,())))))
def vJ(n:Nat)(a0:Int)(a1:Int):Option Bool:=
some (((((decide (0<=a0))&&(decide (a0<32)))&&(decide (0<=a1)))&&(decide (a1<8))))
def A4(n:Nat):CT:=cV (tC n [] [] []) ⟨96,[],(.cons (.v (.int .i64)) (.cons (.v (.int .i64)) .nil)),(.cons (.v .bool) .nil),[], .nil,[],[]⟩ (λx=>vJ n x.1 x.2.1) (λy=>(y.1)) (λz=>(z,()))
def nH(n:Nat)(a0:ai)(a1:Int)(a2:Int):Option ai:=
lt (λ(aA:ai)=>
lt (aA:ai) λbS=>
some (bS)) λXi=>
bd (vJ n a1 a2) λcB=>
gu (!(cB==true)||dg a1 32)<|
cn ((cB&&((wr .i64 ((a0.bq (Int.toNat a1)).E9))==(wr .i64 (a2+1))))) (
gu (dg a1 32)<|
lt (({a0 with bq:=(iD a0.bq (Int.toNat a1) ({(a0.bq (Int.toNat a1))with E9:=0}:cj))}:ai):ai) λdS=>
Xi dS) (
Xi a0)
def B3(n:Nat):CT:=cV (tC n [(6, .join [(.via 3, .box 110 (.v (.st 21)))] [])] [A4 n] []) ⟨95,[],(.cons (.v (.st 21)) (.cons (.v (.int .i64)) (.cons (.v (.int .i64)) .nil))),(.cons (.v (.st 21)) .nil),[], .nil,[],[]⟩ (λx=>nH n x.1 x.2.1 x.2.2.1) (λy=>(y.1)) (λz=>(z,()))
def uk(n:Nat)(a0:(List Int))(a1:Int):Option Int:=
iw (λk22 (aA:Int)=>
cn (decide (aA<(a0.length:Int))) (
gu (dg aA a0.length)<|
cn ((a1==(a0.getD (Int.toNat aA) default))) (
some (aA)) (
k22 (wr .i64 (aA+1)))) (
some ((-1)))) n 0
def Aa(n:Nat):CT:=cV (tC n [(5, .loop [(.cY 8, .v (.int .i64))])] [] []) ⟨130,[],(.cons (.v (.sl (.int .u8))) (.cons (.v (.int .u8)) .nil)),(.cons (.v (.int .i64)) .nil),[], .nil,[],[]⟩ (λx=>uk n x.1 x.2.1) (λy=>(y.1)) (λz=>(z,()))
def kP(n:Nat)(a0:cj)(a1:Int):Option Int:=
gu (dg a0.n 9)<|
bd (uk n ((List.range (Int.toNat a0.n)).map a0.EO) (wr .u8 a1)) λaA=>
some (aA)
def uc(n:Nat):CT:=cV (tC n [(1000008, .J9)] [Aa n] []) ⟨112,[],(.cons (.v (.st 20)) (.cons (.v (.int .i64)) .nil)),(.cons (.v (.int .i64)) .nil),[], .nil,[],[]⟩ (λx=>kP n x.1 x.2.1) (λy=>(y.1)) (λz=>(z,()))
def jb(n:Nat)(a0:cj)(a1:Int):Option cj:=
bd (kP n a0 a1) λaA=>
cn (decide (aA<0)) (
lt (a0:cj) λaQ=>
some (aQ)) (
gu (dg aA 9)<|
gu (dg (wr .i64 (aA+1)) 9)<|
lt (({a0 with EO:=cpA (Int.toNat aA) (Int.toNat (wr .i64 (aA+1))) 8 a0.EO}:cj):cj) λbS=>
lt (({bS with n:=wr .i64 (bS.n-1)}:cj):cj) λcB=>
gu (dg cB.n 8)<|
lt (({cB with EO:=(iD cB.EO (Int.toNat cB.n) 0)}:cj):cj) λdS=>
lt (dS:cj) λeP=>
some (eP))
def rG(n:Nat):CT:=cV (tC n [] [uc n] []) ⟨97,[],(.cons (.v (.st 20)) (.cons (.v (.int .i64)) .nil)),(.cons (.v (.st 20)) .nil),[], .nil,[],[]⟩ (λx=>jb n x.1 x.2.1) (λy=>(y.1)) (λz=>(z,()))
def da(n:Nat)(a0:ai)(a1:Int):Option ai:=
eS (λk23 (aA:Int) (aQ:ai)=>
cn (decide (aA<32)) (
lt (λ(cB:ai)=>
k23 (wr .i64 (aA+1)) cB) λj25=>
bd (nH n aQ aA a1) λeP=>
lt (eP:ai) λdk=>
bd (vJ n aA a1) λeH=>
cn (eH) (
gu (dg aA 32)<|
bd (jb n (dk.bq (Int.toNat aA)) a1) λgM=>
gu (dg aA 32)<|
lt (({dk with bq:=(iD dk.bq (Int.toNat aA) gM)}:ai):ai) λep=>
j25 ep) (
j25 dk)) (
lt (aQ:ai) λdP=>
some (dP))) n 0 a0
def B0(n:Nat):CT:=cV (tC n [(5, .loop [(.cY 6, .v (.int .i64)),(.via 2, .box 110 (.v (.st 21)))]),(14, .join [(.via 2, .box 110 (.v (.st 21)))] [])] [B3 n,A4 n,rG n] []) ⟨77,[],(.cons (.v (.st 21)) (.cons (.v (.int .i64)) .nil)),(.cons (.v (.st 21)) .nil),[], .nil,[],[]⟩ (λx=>da n x.1 x.2.1) (λy=>(y.1)) (λz=>(z,()))
def kW(n:Nat)(cL:ae)(dc:aj)(dy:ai)(dx:(List Int))(a1:aF):Option (ae×aj×ai×(List Int)):=
bd (fg n cL dc dy dx a1.ya) λaA=>
bd (da n aA.2.2.1 a1.jU) λaQ=>
lt (aQ:ai) λbS=>
some (aA.1,aA.2.1,bS,aA.2.2.2)
def xj(n:Nat):CT:=cV (tC n [] [uf n,B0 n] []) ⟨66,[],(.cons (.box 113 (.st (.part 952 (.v (.st 19)) (.part 1 (.box 185 (.v (.st 24))) (.part 320 (.v (.st 21)) (.part 1 (.row 3 1 (.int .i64)) .nil)))))) (.cons (.v (.st 22)) .nil)),(.cons (.jy .nil) (.cons (.box 113 (.st (.part 952 (.v (.st 19)) (.part 1 (.box 185 (.v (.st 24))) (.part 320 (.v (.st 21)) (.part 1 (.row 3 1 (.int .i64)) .nil)))))) .nil)),[some 0,some 1,none], .nil,[],[[0]]⟩ (λx=>kW n x.1 x.2.1 x.2.2.1 x.2.2.2.1 x.2.2.2.2.1) (λy=>(y.1,y.2.1,y.2.2.1,y.2.2.2.1)) (λz=>(z.1,(z.2.1,(z.2.2.1,(z.2.2.2,())))))
def eU(n:Nat)(cL:ae)(dc:aj)(dy:ai)(dx:(List Int))(cF:aF)(dF:ah)(dD:Bool)(a1:ah):Option (ae×aj×ai×(List Int)×aF×ah×Bool):=
lt (a1:ah) λaA=>
bd (kW n cL dc dy dx cF) λaQ=>
some (aQ.1,aQ.2.1,aQ.2.2.1,aQ.2.2.2,cF,aA,true)
def mZ(n:Nat):CT:=cV (tC n [] [xj n] []) ⟨84,[],(.cons (.box 173 (.st (.part 1 (.box 113 (.st (.part 952 (.v (.st 19)) (.part 1 (.box 185 (.v (.st 24))) (.part 320 (.v (.st 21)) (.part 1 (.row 3 1 (.int .i64)) .nil)))))) (.part 12 (.v (.st 22)) (.part 3 (.v (.st 2)) (.part 1 (.v .bool) .nil)))))) (.cons (.v (.st 2)) .nil)),(.cons (.jy .nil) (.cons (.box 173 (.st (.part 1 (.box 113 (.st (.part 952 (.v (.st 19)) (.part 1 (.box 185 (.v (.st 24))) (.part 320 (.v (.st 21)) (.part 1 (.row 3 1 (.int .i64)) .nil)))))) (.part 12 (.v (.st 22)) (.part 3 (.v (.st 2)) (.part 1 (.v .bool) .nil)))))) .nil)),[some 0,some 1,some 2,none], .nil,[],[[0]]⟩ (λx=>eU n x.1 x.2.1 x.2.2.1 x.2.2.2.1 x.2.2.2.2.1 x.2.2.2.2.2.1 x.2.2.2.2.2.2.1 x.2.2.2.2.2.2.2.1) (λy=>(y.1,y.2.1,y.2.2.1,y.2.2.2.1,y.2.2.2.2.1,y.2.2.2.2.2.1,y.2.2.2.2.2.2.1)) (λz=>(z.1,(z.2.1,(z.2.2.1,(z.2.2.2.1,(z.2.2.2.2.1,(z.2.2.2.2.2.1,(z.2.2.2.2.2.2,()))))))))
def iU(n:Nat)(a0:ae)(a1:Int):Option (List Int):=
bd (aJ n a0.dH.T.fE.kS a1) λaA=>
cn ((!aA)) (
some ([])) (
some ([a1]))
def Ni(n:Nat):CT:=cV (tC n [] [aR n] []) ⟨104,[],(.cons (.v (.st 19)) (.cons (.v (.int .u32)) .nil)),(.cons (.row 25 1 (.int .u32)) .nil),[none], .nil,[],[]⟩ (λx=>iU n x.1 x.2.1) (λy=>(y.1)) (λz=>(z,()))
def iu(n:Nat)(a0:ax)(a1:Int):Option (List Int):=
bd (aJ n a0.fE.kS a1) λaA=>
cn ((!aA)) (
some ([])) (
bd (o9 n a0 a1) λaQ=>
bd (mq n aQ.1 aQ.2) λeP=>
xL (λ(e25:Int) k24 (bS:(List Int))=>
gu (gC bS.length [e25].length 4)<|
lt (bS++[e25]:List Int) λeH=>
k24 eH) (λ(bS:(List Int))=>
some (bS)) eP [])
def Dg(n:Nat):CT:=cV (tC n [(150050000005, .loop [(.via 2, .box 156 (.row 25 1 (.int .u32)))])] [aR n,oF n] [mQ n]) ⟨106,[],(.cons (.v (.st 10)) (.cons (.v (.int .u32)) .nil)),(.cons (.row 25 1 (.int .u32)) .nil),[none], .nil,[],[]⟩ (λx=>iu n x.1 x.2.1) (λy=>(y.1)) (λz=>(z,()))
def rK(n:Nat)(a0:(List Int))(a1:Int):Option (Int×(List Int)):=
iw (λk22 (aA:Int)=>
cn (decide (aA<(a0.length:Int))) (
gu (dg aA a0.length)<|
cn ((a1==(a0.getD (Int.toNat aA) default))) (
some (aA,a0)) (
k22 (wr .i64 (aA+1)))) (
some ((-1),a0))) n 0
def xF(n:Nat):CT:=cV (tC n [(5, .loop [(.cY 8, .v (.int .i64))])] [] []) ⟨129,[],(.cons (.row 25 1 (.int .u32)) (.cons (.v (.int .u32)) .nil)),(.cons (.v (.int .i64)) (.cons (.row 25 1 (.int .u32)) .nil)),[some 0], .nil,[],[[0]]⟩ (λx=>rK n x.1 x.2.1) (λy=>(y.1,y.2.1)) (λz=>(z.1,(z.2,())))
def oR(n:Nat)(a0:(List Int))(a1:Int):Option (Bool×(List Int)):=
bd (rK n a0 a1) λaA=>
some (decide (0<=aA.1),aA.2)
def uO(n:Nat):CT:=cV (tC n [] [xF n] []) ⟨108,[],(.cons (.row 25 1 (.int .u32)) (.cons (.v (.int .u32)) .nil)),(.cons (.v .bool) (.cons (.row 25 1 (.int .u32)) .nil)),[some 0], .nil,[],[[0]]⟩ (λx=>oR n x.1 x.2.1) (λy=>(y.1,y.2.1)) (λz=>(z.1,(z.2,())))
def kr(n:Nat)(a0:ae)(a1:aC):Option (List Int):=
cn (a1.Do==1) (
bd (iU n a0 a1.R) λlJ=>
some (lJ)) (
cn (a1.Do==2) (
bd (iU n a0 a1.R) λgF=>
some (gF)) (
cn (a1.Do==3) (
bd (iU n a0 a1.R) λmU=>
some (mU)) (
cn (a1.Do==4) (
bd (iU n a0 a1.R) λgR=>
some (gR)) (
cn (a1.Do==5) (
bd (iU n a0 a1.R) λjk=>
some (jk)) (
cn (a1.Do==10) (
bd (iU n a0 a1.R) λdV=>
some (dV)) (
cn (a1.Do==12) (
bd (iU n a0 a1.R) λjx=>
some (jx)) (
cn (a1.Do==18) (
bd (iU n a0 a1.R) λfR=>
some (fR)) (
cn (a1.Do==19) (
bd (iU n a0 a1.R) λcJ=>
some (cJ)) (
cn (a1.Do==6) (
bd (iu n a0.dH.T a1.R) λeV=>
some (eV)) (
cn (a1.Do==7) (
bd (iu n a0.dH.T a1.R) λjo=>
some (jo)) (
cn (a1.Do==9) (
bd (iu n a0.dH.T a1.R) λdP=>
some (dP)) (
cn (a1.Do==11) (
bd (iu n a0.dH.T a1.R) λep=>
some (ep)) (
cn (a1.Do==8) (
bd (iu n a0.dH.T a1.R) λeP=>
cl ((((eP.length:Int)==0)==false)) (aJ n a0.dH.T.fE.kS a1.S) default λdk=>
cn ((((eP.length:Int)==0)||(!dk))) (
some ([])) (
bd (oR n eP a1.S) λeH=>
cn (eH.1) (
some (eH.2)) (
gu (gC eH.2.length [a1.S].length 4)<|
lt (eH.2++[a1.S]:List Int) λgM=>
some (gM)))) (
cn (a1.Do==13) (
bd (cW n a0.dH.K a1.S) λbS=>
lt (bS.1:bB) λcB=>
cn ((bS.2!=0)) (
some ([])) (
bd (iU n a0 cB.Region) λdS=>
some (dS))) (
cn (a1.Do==14) (
cn ((a1.B==1)) (
bd (iU n a0 a1.R) λaA=>
some (aA)) (
bd (iu n a0.dH.T a1.R) λaQ=>
some (aQ))) (
some ([])))))))))))))))))
def F6(n:Nat):CT:=cV (tC n [] [Ni n,Dg n,ez n,aR n,uO n] []) ⟨85,[],(.cons (.v (.st 19)) (.cons (.v (.st 3)) .nil)),(.cons (.v (.sl (.int .u32))) .nil),[], .nil,[],[]⟩ (λx=>kr n x.1 x.2.1) (λy=>(y.1)) (λz=>(z,()))
def eD(n:Nat)(cL:ae)(dc:aj)(dy:ai)(dx:(List Int))(cF:aF)(dF:ah)(dD:Bool):Option (Bool×ae×aj×ai×(List Int)×aF×ah×Bool):=
cn (cF.Checked) (
some (false,cL,dc,dy,dx,cF,dF,dD)) (
bd (pS n cL cF.jU cF.C) λaA=>
cn (aA) (
some (true,cL,dc,dy,dx,cF,dF,dD)) (
bd (fY n cL cF.jU cF.C) λaQ=>
cn ((aQ !=0)) (
bd (eU n cL dc dy dx cF dF dD ({ay with E:=aQ}:ah)) λbS=>
some (true,bS.1,bS.2.1,bS.2.2.1,bS.2.2.2.1,bS.2.2.2.2.1,bS.2.2.2.2.2.1,bS.2.2.2.2.2.2)) (
bd (kr n cL cF.C) λcB=>
lt (({cF with Checked:=true}:aF):aF) λdS=>
lt (({dS with ew:=cB}:aF):aF) λeP=>
some (true,cL,dc,dy,dx,eP,dF,dD))))
def yx(n:Nat):CT:=cV (tC n [] [BW n,BX n,mZ n,F6 n] []) ⟨71,[],(.cons (.box 173 (.st (.part 1 (.box 113 (.st (.part 952 (.v (.st 19)) (.part 1 (.box 185 (.v (.st 24))) (.part 320 (.v (.st 21)) (.part 1 (.row 3 1 (.int .i64)) .nil)))))) (.part 12 (.v (.st 22)) (.part 3 (.v (.st 2)) (.part 1 (.v .bool) .nil)))))) .nil),(.cons (.v .bool) (.cons (.box 173 (.st (.part 1 (.box 113 (.st (.part 952 (.v (.st 19)) (.part 1 (.box 185 (.v (.st 24))) (.part 320 (.v (.st 21)) (.part 1 (.row 3 1 (.int .i64)) .nil)))))) (.part 12 (.v (.st 22)) (.part 3 (.v (.st 2)) (.part 1 (.v .bool) .nil)))))) .nil)),[some 0,some 1,some 2,none], .nil,[],[[0]]⟩ (λx=>eD n x.1 x.2.1 x.2.2.1 x.2.2.2.1 x.2.2.2.2.1 x.2.2.2.2.2.1 x.2.2.2.2.2.2.1) (λy=>(y.1,y.2.1,y.2.2.1,y.2.2.2.1,y.2.2.2.2.1,y.2.2.2.2.2.1,y.2.2.2.2.2.2.1,y.2.2.2.2.2.2.2.1)) (λz=>(z.1,(z.2.1,(z.2.2.1,(z.2.2.2.1,(z.2.2.2.2.1,(z.2.2.2.2.2.1,(z.2.2.2.2.2.2.1,(z.2.2.2.2.2.2.2,())))))))))
def o5(n:Nat)(a0:ai)(a1:Int)(a2:Int):Option (ai×Bool):=
bd (vJ n a1 a2) λaA=>
cn ((!aA)) (
lt (a0:ai) λaQ=>
some (aQ,false)) (
gu (dg a1 32)<|
lt (λ(bS:ai) (cB:ai)=>
lt (cB:ai) λeP=>
some (eP,false)) λj25=>
bd (kP n (a0.bq (Int.toNat a1)) a2) λdk=>
cn (((wr .i64 ((a0.bq (Int.toNat a1)).E9))==(wr .i64 (a2+1)))) (
lt (a0:ai) λeH=>
some (eH,true)) (
cn (((((a0.bq (Int.toNat a1)).E9)==0)&&((((a0.bq (Int.toNat a1)).n)==0)||(dk==0)))) (
bd (jb n (a0.bq (Int.toNat a1)) a2) λgM=>
lt (({a0 with bq:=(iD a0.bq (Int.toNat a1) gM)}:ai):ai) λep=>
lt (({ep with bq:=(iD ep.bq (Int.toNat a1) ({(ep.bq (Int.toNat a1))with E9:=wr .u8 (wr .i64 (a2+1))}:cj))}:ai):ai) λdP=>
lt (dP:ai) λjo=>
some (jo,true)) (
cn (decide (dk<0)) (
gu (dg ((a0.bq (Int.toNat a1)).n) 8)<|
lt (({a0 with bq:=(iD a0.bq (Int.toNat a1) ({(a0.bq (Int.toNat a1))with EO:=(iD ((a0.bq (Int.toNat a1)).EO) (Int.toNat ((a0.bq (Int.toNat a1)).n)) (wr .u8 a2))}:cj))}:ai):ai) λeV=>
lt (({eV with bq:=(iD eV.bq (Int.toNat a1) ({(eV.bq (Int.toNat a1))with n:=wr .i64 (((eV.bq (Int.toNat a1)).n)+1)}:cj))}:ai):ai) λcJ=>
j25 bA cJ) (
j25 bA a0))))
def Dl(n:Nat):CT:=cV (tC n [(28, .join [(.via 6, .box 110 (.v (.st 21))),(.via 3, .box 110 (.v (.st 21)))] [])] [A4 n,uc n,rG n] []) ⟨86,[],(.cons (.v (.st 21)) (.cons (.v (.int .i64)) (.cons (.v (.int .i64)) .nil))),(.cons (.jy (.cons (.v (.st 21)) (.cons (.v .bool) .nil))) .nil),[], .nil,[],[]⟩ (λx=>o5 n x.1 x.2.1 x.2.2.1) (λy=>(y.1,y.2.1)) (λz=>(z.1,(z.2,())))
def fq(n:Nat)(cL:ae)(dc:aj)(dy:ai)(dx:(List Int))(cF:aF)(dF:ah)(dD:Bool):Option (Bool×ae×aj×ai×(List Int)×aF×ah×Bool):=
cn (((cF.ew.length:Int)==0)) (
some (false,cL,dc,dy,dx,cF,dF,dD)) (
gu (dg 0 cF.ew.length)<|
bd (bn n (cF.ew.getD (Int.toNat 0) default)) λaA=>
bd (o5 n dy aA.1 cF.jU) λaQ=>
lt (aQ.1:ai) λbS=>
lt (bS:ai) λcB=>
lt (λ(dS:ae) (eP:aj) (dk:ai) (eH:(List Int)) (gM:aF) (ep:ah) (dP:Bool)=>
some (true,dS,eP,dk,eH,gM,ep,dP)) λXh=>
cn (aQ.2) (
gu (dg 1 (cF.ew.length+1))<|
lt (({cF with ew:=cF.ew.drop (Int.toNat 1)}:aF):aF) λeV=>
Xh cL dc cB dx eV dF dD) (
Xh cL dc cB dx cF dF dD))
def yw(n:Nat):CT:=cV (tC n [(16, .join [(.via 0, .box 173 (.st (.part 1 (.box 113 (.st (.part 952 (.v (.st 19)) (.part 1 (.box 185 (.v (.st 24))) (.part 320 (.v (.st 21)) (.part 1 (.row 3 1 (.int .i64)) .nil)))))) (.part 12 (.v (.st 22)) (.part 3 (.v (.st 2)) (.part 1 (.v .bool) .nil))))))] [])] [bP n,Dl n] []) ⟨72,[],(.cons (.box 173 (.st (.part 1 (.box 113 (.st (.part 952 (.v (.st 19)) (.part 1 (.box 185 (.v (.st 24))) (.part 320 (.v (.st 21)) (.part 1 (.row 3 1 (.int .i64)) .nil)))))) (.part 12 (.v (.st 22)) (.part 3 (.v (.st 2)) (.part 1 (.v .bool) .nil)))))) .nil),(.cons (.v .bool) (.cons (.box 173 (.st (.part 1 (.box 113 (.st (.part 952 (.v (.st 19)) (.part 1 (.box 185 (.v (.st 24))) (.part 320 (.v (.st 21)) (.part 1 (.row 3 1 (.int .i64)) .nil)))))) (.part 12 (.v (.st 22)) (.part 3 (.v (.st 2)) (.part 1 (.v .bool) .nil)))))) .nil)),[some 0,some 1,some 2,none], .nil,[],[[0]]⟩ (λx=>fq n x.1 x.2.1 x.2.2.1 x.2.2.2.1 x.2.2.2.2.1 x.2.2.2.2.2.1 x.2.2.2.2.2.2.1) (λy=>(y.1,y.2.1,y.2.2.1,y.2.2.2.1,y.2.2.2.2.1,y.2.2.2.2.2.1,y.2.2.2.2.2.2.1,y.2.2.2.2.2.2.2.1)) (λz=>(z.1,(z.2.1,(z.2.2.1,(z.2.2.2.1,(z.2.2.2.2.1,(z.2.2.2.2.2.1,(z.2.2.2.2.2.2.1,(z.2.2.2.2.2.2.2,())))))))))
def iP(n:Nat)(a0:aj)(a1:Int):Option (Int×Int×aj):=
cn (decide (a1<1)) (
some (0,2,a0)) (
bd (oO n a0.dX a1) λaA=>
cn ((!aA.2)) (
some (0,6,a0)) (
bd (jK n a0.dX aA.1 a1) λaQ=>
lt (({a0 with dX:=aQ.1}:aj):aj) λbS=>
some (aA.1,0,bS)))
def BV(n:Nat):CT:=cV (tC n [] [Db n,Da n] []) ⟨87,[],(.cons (.box 185 (.v (.st 24))) (.cons (.v (.int .i64)) .nil)),(.cons (.jy (.cons (.v (.int .i64)) (.cons (.v (.int .i64)) .nil))) (.cons (.box 185 (.v (.st 24))) .nil)),[some 0], .nil,[],[[0]]⟩ (λx=>iP n x.1 x.2.1) (λy=>(y.1,y.2.1,y.2.2.1)) (λz=>(z.1,(z.2.1,(z.2.2,()))))
def bY(n:Nat)(cL:ae)(dc:aj)(dy:ai)(dx:(List Int))(cF:aF)(dF:ah)(dD:Bool):Option (Bool×ae×aj×ai×(List Int)×aF×ah×Bool):=
bd (bJ n cL cF.jU cF.C) λaA=>
cn (((aA==0)||(decide (0<cF.ya.N)))) (
some (false,cL,dc,dy,dx,cF,dF,dD)) (
bd (iP n dc aA) λaQ=>
cn ((aQ.2.1!=0)) (
bd (eU n cL aQ.2.2 dy dx cF dF dD ({ay with E:=aQ.2.1}:ah)) λbS=>
some (true,bS.1,bS.2.1,bS.2.2.1,bS.2.2.2.1,bS.2.2.2.2.1,bS.2.2.2.2.2.1,bS.2.2.2.2.2.2)) (
lt (({cF with ya:=({At:=aQ.1,N:=aA}:av)}:aF):aF) λcB=>
some (true,cL,aQ.2.2,dy,dx,cB,dF,dD)))
def xI(n:Nat):CT:=cV (tC n [] [mY n,BV n,mZ n] []) ⟨73,[],(.cons (.box 173 (.st (.part 1 (.box 113 (.st (.part 952 (.v (.st 19)) (.part 1 (.box 185 (.v (.st 24))) (.part 320 (.v (.st 21)) (.part 1 (.row 3 1 (.int .i64)) .nil)))))) (.part 12 (.v (.st 22)) (.part 3 (.v (.st 2)) (.part 1 (.v .bool) .nil)))))) .nil),(.cons (.v .bool) (.cons (.box 173 (.st (.part 1 (.box 113 (.st (.part 952 (.v (.st 19)) (.part 1 (.box 185 (.v (.st 24))) (.part 320 (.v (.st 21)) (.part 1 (.row 3 1 (.int .i64)) .nil)))))) (.part 12 (.v (.st 22)) (.part 3 (.v (.st 2)) (.part 1 (.v .bool) .nil)))))) .nil)),[some 0,some 1,some 2,none], .nil,[],[[0]]⟩ (λx=>bY n x.1 x.2.1 x.2.2.1 x.2.2.2.1 x.2.2.2.2.1 x.2.2.2.2.2.1 x.2.2.2.2.2.2.1) (λy=>(y.1,y.2.1,y.2.2.1,y.2.2.2.1,y.2.2.2.2.1,y.2.2.2.2.2.1,y.2.2.2.2.2.2.1,y.2.2.2.2.2.2.2.1)) (λz=>(z.1,(z.2.1,(z.2.2.1,(z.2.2.2.1,(z.2.2.2.2.1,(z.2.2.2.2.2.1,(z.2.2.2.2.2.2.1,(z.2.2.2.2.2.2.2,())))))))))
def kM(n:Nat)(a0:aj)(a1:Int):Option (Int×aj):=
cn (((decide (a1<0))||(decide (a0.n<=a1)))) (
some (2,a0)) (
bd (g8 n a0.dX a1) λaA=>
cn (aA) (
some (12,a0)) (
gu (dg a1 64)<|
lt (({a0 with bytes:=(iD a0.bytes (Int.toNat a1) (λ_ =>0))}:aj):aj) λaQ=>
some (0,aQ)))
def BU(n:Nat):CT:=cV (tC n [] [nC n] []) ⟨88,[],(.cons (.box 185 (.v (.st 24))) (.cons (.v (.int .i64)) .nil)),(.cons (.v (.int .i64)) (.cons (.box 185 (.v (.st 24))) .nil)),[some 0], .nil,[],[[0]]⟩ (λx=>kM n x.1 x.2.1) (λy=>(y.1,y.2.1)) (λz=>(z.1,(z.2,())))
def eL(n:Nat)(cL:ae)(dc:aj)(dy:ai)(dx:(List Int))(cF:aF)(dF:ah)(dD:Bool):Option (Bool×ae×aj×ai×(List Int)×aF×ah×Bool):=
cn (decide (cF.ya.N<=cF.qg)) (
some (false,cL,dc,dy,dx,cF,dF,dD)) (
bd (kM n dc (wr .i64 (cF.ya.At+cF.qg))) λaA=>
lt (({cF with qg:=wr .i64 (cF.qg+1)}:aF):aF) λaQ=>
some (true,cL,aA.2,dy,dx,aQ,dF,dD))
def xH(n:Nat):CT:=cV (tC n [] [BU n] []) ⟨74,[],(.cons (.box 173 (.st (.part 1 (.box 113 (.st (.part 952 (.v (.st 19)) (.part 1 (.box 185 (.v (.st 24))) (.part 320 (.v (.st 21)) (.part 1 (.row 3 1 (.int .i64)) .nil)))))) (.part 12 (.v (.st 22)) (.part 3 (.v (.st 2)) (.part 1 (.v .bool) .nil)))))) .nil),(.cons (.v .bool) (.cons (.box 173 (.st (.part 1 (.box 113 (.st (.part 952 (.v (.st 19)) (.part 1 (.box 185 (.v (.st 24))) (.part 320 (.v (.st 21)) (.part 1 (.row 3 1 (.int .i64)) .nil)))))) (.part 12 (.v (.st 22)) (.part 3 (.v (.st 2)) (.part 1 (.v .bool) .nil)))))) .nil)),[some 0,some 1,some 2,some 3], .nil,[],[[0]]⟩ (λx=>eL n x.1 x.2.1 x.2.2.1 x.2.2.2.1 x.2.2.2.2.1 x.2.2.2.2.2.1 x.2.2.2.2.2.2.1) (λy=>(y.1,y.2.1,y.2.2.1,y.2.2.2.1,y.2.2.2.2.1,y.2.2.2.2.2.1,y.2.2.2.2.2.2.1,y.2.2.2.2.2.2.2.1)) (λz=>(z.1,(z.2.1,(z.2.2.1,(z.2.2.2.1,(z.2.2.2.2.1,(z.2.2.2.2.2.1,(z.2.2.2.2.2.2.1,(z.2.2.2.2.2.2.2,())))))))))
def kL(n:Nat)(a0:aj)(a1:Int)(a2:Int):Option (Int×aj):=
cn (decide (a1<0)) (
some (2,a0)) (
cn (((decide ((wr .i64 (Int.tdiv a1 32))<0))||(decide (a0.n<=(wr .i64 (Int.tdiv a1 32)))))) (
some (2,a0)) (
bd (g8 n a0.dX (wr .i64 (Int.tdiv a1 32))) λaA=>
cn (aA) (
some (12,a0)) (
gu (dg (wr .i64 (Int.tdiv a1 32)) 64)<|
gu (dg (Int.tmod a1 32) 32)<|
lt (({a0 with bytes:=(iD a0.bytes (Int.toNat (wr .i64 (Int.tdiv a1 32))) (iD (a0.bytes (Int.toNat (wr .i64 (Int.tdiv a1 32)))) (Int.toNat (Int.tmod a1 32)) a2))}:aj):aj) λaQ=>
some (0,aQ))))
def BT(n:Nat):CT:=cV (tC n [] [nC n] []) ⟨92,[],(.cons (.box 185 (.v (.st 24))) (.cons (.v (.int .i64)) (.cons (.v (.int .u8)) .nil))),(.cons (.v (.int .i64)) (.cons (.box 185 (.v (.st 24))) .nil)),[some 0], .nil,[],[[0]]⟩ (λx=>kL n x.1 x.2.1 x.2.2.1) (λy=>(y.1,y.2.1)) (λz=>(z.1,(z.2,())))
def lZ(n:Nat)(a0:aj)(a1:Int):Option (Int×Int):=
cn (decide (a1<0)) (
lt (0:Int) λaA=>
some (aA,2)) (
cn (((decide ((wr .i64 (Int.tdiv a1 32))<0))||(decide (a0.n<=(wr .i64 (Int.tdiv a1 32)))))) (
lt (0:Int) λaQ=>
some (aQ,2)) (
bd (g8 n a0.dX (wr .i64 (Int.tdiv a1 32))) λbS=>
cn (bS) (
lt (0:Int) λcB=>
some (cB,12)) (
gu (dg (wr .i64 (Int.tdiv a1 32)) 64)<|
gu (dg (Int.tmod a1 32) 32)<|
lt (((a0.bytes (Int.toNat (wr .i64 (Int.tdiv a1 32)))) (Int.toNat (Int.tmod a1 32))):Int) λdS=>
lt (dS:Int) λeP=>
some (eP,0))))
def Dh(n:Nat):CT:=cV (tC n [] [nC n] []) ⟨94,[(185, .v (.st 24))],(.cons (.bU 0) (.cons (.v (.int .i64)) .nil)),(.cons (.jy (.cons (.v (.int .u8)) (.cons (.v (.int .i64)) .nil))) .nil),[], .nil,[],[]⟩ (λx=>lZ n x.1 x.2.1) (λy=>(y.1,y.2.1)) (λz=>(z.1,(z.2,())))
def cu(n:Nat)(cL:ae)(dc:aj)(dy:ai)(dx:(List Int))(cF:aF)(dF:ah)(dD:Bool):Option (Bool×ae×aj×ai×(List Int)×aF×ah×Bool):=
lt (cF.C:aC) λaA=>
lt (λ(aQ:ae) (bS:aj) (cB:ai) (dS:(List Int)) (eP:aF) (dk:ah) (eH:Bool)=>
bd (cv n aQ aA) λep=>
bd (cq n aQ eP.jU aA eP.ya) λdP=>
lt (dP.1:ae) λjo=>
lt (dP.2.1:ah) λeV=>
cn ((eV.E !=0)) (
bd (eU n aQ bS cB dS eP dk eH eV) λcJ=>
some (true,cJ.1,cJ.2.1,cJ.2.2.1,cJ.2.2.2.1,cJ.2.2.2.2.1,cJ.2.2.2.2.2.1,cJ.2.2.2.2.2.2)) (
lt (λ(fR:ae) (jx:aj) (dV:ai) (jk:(List Int)) (gR:aF) (mU:ah) (gF:Bool) (lJ:ah)=>
lt (jo:ae) λv5=>
lt (({gR with ya:=aB}:aF):aF) λIU=>
xw (λk51 (vj:Int) (Fw:ae) (zY:aj) (qW:ai) (ua:(List Int))=>
cn (decide (vj<(dP.2.2.length:Int))) (
gu (dg vj dP.2.2.length)<|
lt ((dP.2.2.getD (Int.toNat vj) default):av) λJU=>
bd (fg n Fw zY qW ua JU) λym=>
k51 (wr .i64 (vj+1)) ym.1 ym.2.1 ym.2.2.1 ym.2.2.2) (
bd (eU n Fw zY qW ua IU mU gF lJ) λlu=>
some (true,lu.1,lu.2.1,lu.2.2.1,lu.2.2.2.1,lu.2.2.2.2.1,lu.2.2.2.2.2.1,lu.2.2.2.2.2.2))) n 0 v5 jx dV jk) λj43=>
cn ((aA.Do==4)) (
GD (λk63 (qc:Int) (F1:ae) (yj:aj) (Nf:ai) (FZ:(List Int)) (zH:aF) (Xb:ah) (JS:Bool)=>
cn (decide (qc<(ep.1.length:Int))) (
gu (dg qc ep.1.length)<|
gu (decide (0<=wr .i64 (8*qc)))<|
bd (kL n yj (ep.1.getD (Int.toNat qc) default) (wr .u8 (Ag .u64 aA.V (wr .i64 (8*qc))))) λQC=>
k63 (wr .i64 (qc+1)) F1 QC.2 Nf FZ zH Xb JS) (
j43 F1 yj Nf FZ zH Xb JS eV)) n 0 aQ bS cB dS eP dk eH) (
cn ((aA.Do==3)) (
eS (λk67 (vi:Int) (SA:ah)=>
cn (decide (vi<(ep.1.length:Int))) (
gu (dg vi ep.1.length)<|
bd (lZ n bS (ep.1.getD (Int.toNat vi) default)) λJQ=>
gu (decide (0<=wr .i64 (8*vi)))<|
lt (({SA with V:=orI .u64 SA.V (Kh .u64 (wr .u64 JQ.1) (wr .i64 (8*vi)))}:ah):ah) λIm=>
k67 (wr .i64 (vi+1)) Im) (
j43 aQ bS cB dS eP dk eH SA)) n 0 eV) (
j43 aQ bS cB dS eP dk eH eV)))) λj29=>
cl ((decide (0<cF.ya.N)==true)) (bJ n cL cF.jU aA) default λx70=>
cn (((decide (0<cF.ya.N))&&(x70 !=cF.ya.N))) (
bd (fg n cL dc dy dx cF.ya) λx71=>
lt (({cF with ya:=aB}:aF):aF) λNd=>
j29 x71.1 x71.2.1 x71.2.2.1 x71.2.2.2 Nd dF dD) (
j29 cL dc dy dx cF dF dD)
def wm(n:Nat):CT:=cV (tC n [(10, .join [(.via 0, .box 173 (.st (.part 1 (.box 113 (.st (.part 952 (.v (.st 19)) (.part 1 (.box 185 (.v (.st 24))) (.part 320 (.v (.st 21)) (.part 1 (.row 3 1 (.int .i64)) .nil)))))) (.part 12 (.v (.st 22)) (.part 3 (.v (.st 2)) (.part 1 (.v .bool) .nil))))))] []),(30, .join [(.via 65, .box 113 (.st (.part 952 (.v (.st 19)) (.part 1 (.box 185 (.v (.st 24))) (.part 320 (.v (.st 21)) (.part 1 (.row 3 1 (.int .i64)) .nil)))))),(.via 0, .box 173 (.st (.part 1 (.bU 0) (.part 12 (.v (.st 22)) (.part 3 (.v (.st 2)) (.part 1 (.v .bool) .nil)))))),(.via 7, .box 55 (.v (.st 2)))] []),(35, .loop [(.cY 130, .v (.int .i64)),(.via 65, .box 113 (.st (.part 952 (.v (.st 19)) (.part 1 (.box 185 (.v (.st 24))) (.part 320 (.v (.st 21)) (.part 1 (.row 3 1 (.int .i64)) .nil))))))]),(1100000003, .loop [(.cY 10, .v (.int .i64)),(.via 0, .box 173 (.st (.part 1 (.box 113 (.st (.part 952 (.v (.st 19)) (.part 1 (.box 185 (.v (.st 24))) (.part 320 (.v (.st 21)) (.part 1 (.row 3 1 (.int .i64)) .nil)))))) (.part 12 (.v (.st 22)) (.part 3 (.v (.st 2)) (.part 1 (.v .bool) .nil))))))]),(1160000003, .loop [(.cY 10, .v (.int .i64)),(.cap 2 1, .box 55 (.v (.st 2)))])] [Ac n,vp n,mZ n,uf n,BT n,Dh n,mY n] []) ⟨75,[],(.cons (.box 173 (.st (.part 1 (.box 113 (.st (.part 952 (.v (.st 19)) (.part 1 (.box 185 (.v (.st 24))) (.part 320 (.v (.st 21)) (.part 1 (.row 3 1 (.int .i64)) .nil)))))) (.part 12 (.v (.st 22)) (.part 3 (.v (.st 2)) (.part 1 (.v .bool) .nil)))))) .nil),(.cons (.v .bool) (.cons (.box 173 (.st (.part 1 (.box 113 (.st (.part 952 (.v (.st 19)) (.part 1 (.box 185 (.v (.st 24))) (.part 320 (.v (.st 21)) (.part 1 (.row 3 1 (.int .i64)) .nil)))))) (.part 12 (.v (.st 22)) (.part 3 (.v (.st 2)) (.part 1 (.v .bool) .nil)))))) .nil)),[some 0,some 1,some 2,none], .nil,[],[[0]]⟩ (λx=>cu n x.1 x.2.1 x.2.2.1 x.2.2.2.1 x.2.2.2.2.1 x.2.2.2.2.2.1 x.2.2.2.2.2.2.1) (λy=>(y.1,y.2.1,y.2.2.1,y.2.2.2.1,y.2.2.2.2.1,y.2.2.2.2.2.1,y.2.2.2.2.2.2.1,y.2.2.2.2.2.2.2.1)) (λz=>(z.1,(z.2.1,(z.2.2.1,(z.2.2.2.1,(z.2.2.2.2.1,(z.2.2.2.2.2.1,(z.2.2.2.2.2.2.1,(z.2.2.2.2.2.2.2,())))))))))
def cO(n:Nat)(cL:ae)(dc:aj)(dy:ai)(dx:(List Int))(a1:aF):Option (aF×ah×Bool×ae×aj×ai×(List Int)):=
lt (λ(aA:ae) (aQ:aj) (bS:ai) (cB:(List Int)) (dS:aF) (eP:ah) (dk:Bool)=>
lt (dS:aF) λgM=>
lt (eP:ah) λep=>
some (gM,ep,dk,aA,aQ,bS,cB)) λj28=>
bd (eD n cL dc dy dx a1 ay false) λdP=>
cn (dP.1) (
j28 dP.2.1 dP.2.2.1 dP.2.2.2.1 dP.2.2.2.2.1 dP.2.2.2.2.2.1 dP.2.2.2.2.2.2.1 dP.2.2.2.2.2.2.2) (
bd (fq n dP.2.1 dP.2.2.1 dP.2.2.2.1 dP.2.2.2.2.1 dP.2.2.2.2.2.1 dP.2.2.2.2.2.2.1 dP.2.2.2.2.2.2.2) λjo=>
cn (jo.1) (
j28 jo.2.1 jo.2.2.1 jo.2.2.2.1 jo.2.2.2.2.1 jo.2.2.2.2.2.1 jo.2.2.2.2.2.2.1 jo.2.2.2.2.2.2.2) (
bd (bY n jo.2.1 jo.2.2.1 jo.2.2.2.1 jo.2.2.2.2.1 jo.2.2.2.2.2.1 jo.2.2.2.2.2.2.1 jo.2.2.2.2.2.2.2) λeV=>
cn (eV.1) (
j28 eV.2.1 eV.2.2.1 eV.2.2.2.1 eV.2.2.2.2.1 eV.2.2.2.2.2.1 eV.2.2.2.2.2.2.1 eV.2.2.2.2.2.2.2) (
bd (eL n eV.2.1 eV.2.2.1 eV.2.2.2.1 eV.2.2.2.2.1 eV.2.2.2.2.2.1 eV.2.2.2.2.2.2.1 eV.2.2.2.2.2.2.2) λcJ=>
cn (cJ.1) (
j28 cJ.2.1 cJ.2.2.1 cJ.2.2.2.1 cJ.2.2.2.2.1 cJ.2.2.2.2.2.1 cJ.2.2.2.2.2.2.1 cJ.2.2.2.2.2.2.2) (
bd (cu n cJ.2.1 cJ.2.2.1 cJ.2.2.2.1 cJ.2.2.2.2.1 cJ.2.2.2.2.2.1 cJ.2.2.2.2.2.2.1 cJ.2.2.2.2.2.2.2) λfR=>
cn (fR.1) (
j28 fR.2.1 fR.2.2.1 fR.2.2.2.1 fR.2.2.2.2.1 fR.2.2.2.2.2.1 fR.2.2.2.2.2.2.1 fR.2.2.2.2.2.2.2) (
j28 fR.2.1 fR.2.2.1 fR.2.2.2.1 fR.2.2.2.2.1 fR.2.2.2.2.2.1 fR.2.2.2.2.2.2.1 fR.2.2.2.2.2.2.2)))))
def Dr(n:Nat):CT:=cV (tC n [(14, .join [(.via 7, .box 173 (.st (.part 1 (.box 113 (.st (.part 952 (.v (.st 19)) (.part 1 (.box 185 (.v (.st 24))) (.part 320 (.v (.st 21)) (.part 1 (.row 3 1 (.int .i64)) .nil)))))) (.part 12 (.v (.st 22)) (.part 3 (.v (.st 2)) (.part 1 (.v .bool) .nil))))))] []),(7, .J9)] [yx n,yw n,xI n,xH n,wm n] []) ⟨65,[],(.cons (.box 113 (.st (.part 952 (.v (.st 19)) (.part 1 (.box 185 (.v (.st 24))) (.part 320 (.v (.st 21)) (.part 1 (.row 3 1 (.int .i64)) .nil)))))) (.cons (.v (.st 22)) .nil)),(.cons (.jy (.cons (.v (.st 22)) (.cons (.v (.st 2)) (.cons (.v .bool) .nil)))) (.cons (.box 113 (.st (.part 952 (.v (.st 19)) (.part 1 (.box 185 (.v (.st 24))) (.part 320 (.v (.st 21)) (.part 1 (.row 3 1 (.int .i64)) .nil)))))) .nil)),[some 0,some 1,none], .nil,[],[[0]]⟩ (λx=>cO n x.1 x.2.1 x.2.2.1 x.2.2.2.1 x.2.2.2.2.1) (λy=>(y.1,y.2.1,y.2.2.1,y.2.2.2.1,y.2.2.2.2.1,y.2.2.2.2.2.1,y.2.2.2.2.2.2.1)) (λz=>(z.1,(z.2.1,(z.2.2.1,(z.2.2.2.1,(z.2.2.2.2.1,(z.2.2.2.2.2.1,(z.2.2.2.2.2.2,()))))))))
def er(n:Nat)(cL:ae)(dc:aj)(dy:ai)(dx:(List Int))(cF:Int)(a1:aC):Option (ah×ae×aj×ai×(List Int)×Int):=
lt (({({jY with jU:=cF}:aF)with C:=a1}:aF):aF) λaA=>
vK (λYP (aQ:ah) (bS:ae) (cB:aj) (dS:ai) (eP:(List Int)) (dk:Int) (eH:aF)=>
cl (((!eH.Checked)==true)) (pS n bS dk a1) default λep=>
cn (((!eH.Checked)&&ep)) (
cn ((a1.Do==15)) (
lt (({ay with E:=10}:ah):ah) λdP=>
some (dP,bS,cB,dS,eP,dk)) (
lt (({ay with E:=12}:ah):ah) λjo=>
some (jo,bS,cB,dS,eP,dk))) (
bd (cO n bS cB dS eP eH) λeV=>
lt (eV.1:aF) λcJ=>
lt (eV.2.1:ah) λfR=>
cn (eV.2.2.1) (
lt (fR:ah) λjx=>
some (jx,eV.2.2.2.1,eV.2.2.2.2.1,eV.2.2.2.2.2.1,eV.2.2.2.2.2.2,dk)) (
cn (((eH.Checked&&((cJ.ew.length:Int)==(eH.ew.length:Int)))&&(decide (0<(eH.ew.length:Int))))) (
bd (kW n eV.2.2.2.1 eV.2.2.2.2.1 eV.2.2.2.2.2.1 eV.2.2.2.2.2.2 eH) λdV=>
lt (({ay with E:=12}:ah):ah) λjk=>
some (jk,dV.1,dV.2.1,dV.2.2.1,dV.2.2.2,dk)) (
lt (cJ:aF) λgR=>
YP aQ eV.2.2.2.1 eV.2.2.2.2.1 eV.2.2.2.2.2.1 eV.2.2.2.2.2.2 dk gR)))) n ay cL dc dy dx cF aA
def F8(n:Nat):CT:=cV (tC n [(5, .loop [(.via 4, .box 55 (.v (.st 2))),(.via 0, .box 141 (.st (.part 1 (.box 113 (.st (.part 952 (.v (.st 19)) (.part 1 (.box 185 (.v (.st 24))) (.part 320 (.v (.st 21)) (.part 1 (.row 3 1 (.int .i64)) .nil)))))) (.part 1 (.v (.int .i64)) .nil)))),(.via 5, .box 160 (.v (.st 22)))])] [BW n,Dr n,xj n] []) ⟨49,[],(.cons (.box 141 (.st (.part 1 (.box 113 (.st (.part 952 (.v (.st 19)) (.part 1 (.box 185 (.v (.st 24))) (.part 320 (.v (.st 21)) (.part 1 (.row 3 1 (.int .i64)) .nil)))))) (.part 1 (.v (.int .i64)) .nil)))) (.cons (.v (.st 3)) .nil)),(.cons (.v (.st 2)) (.cons (.box 141 (.st (.part 1 (.box 113 (.st (.part 952 (.v (.st 19)) (.part 1 (.box 185 (.v (.st 24))) (.part 320 (.v (.st 21)) (.part 1 (.row 3 1 (.int .i64)) .nil)))))) (.part 1 (.v (.int .i64)) .nil)))) .nil)),[some 0,some 1,some 2,none], .nil,[],[[0]]⟩ (λx=>er n x.1 x.2.1 x.2.2.1 x.2.2.2.1 x.2.2.2.2.1 x.2.2.2.2.2.1) (λy=>(y.1,y.2.1,y.2.2.1,y.2.2.2.1,y.2.2.2.2.1,y.2.2.2.2.2.1)) (λz=>(z.1,(z.2.1,(z.2.2.1,(z.2.2.2.1,(z.2.2.2.2.1,(z.2.2.2.2.2,())))))))
def l6(n:Nat)(a0:aj)(a1:Int):Option (Int×aj):=
cn (((decide (a1<0))||(decide (a0.n<=a1)))) (
some (2,a0)) (
bd (g8 n a0.dX a1) λaA=>
cn (aA) (
some (12,a0)) (
gu (dg a1 64)<|
bd (lV n a0.dX a1 1) λaQ=>
lt (({a0 with dX:=aQ.1}:aj):aj) λbS=>
some (0,bS)))
def Di(n:Nat):CT:=cV (tC n [] [nC n,vn n] []) ⟨67,[],(.cons (.box 185 (.v (.st 24))) (.cons (.v (.int .i64)) .nil)),(.cons (.v (.int .i64)) (.cons (.box 185 (.v (.st 24))) .nil)),[some 0], .nil,[],[[0]]⟩ (λx=>l6 n x.1 x.2.1) (λy=>(y.1,y.2.1)) (λz=>(z.1,(z.2,())))
def mw(n:Nat)(cL:ae)(dc:aj)(dy:ai)(dx:(List Int)):Option (Bool×ae×aj×ai×(List Int)):=
cn (((dx.length:Int)==0)) (
some (false,cL,dc,dy,dx)) (
gu (dg 0 dx.length)<|
bd (l6 n dc (dx.getD (Int.toNat 0) default)) λaA=>
gu (dg 1 (dx.length+1))<|
some (true,cL,aA.2,dy,dx.drop (Int.toNat 1)))
def Ds(n:Nat):CT:=cV (tC n [(1000025, .J9)] [Di n] []) ⟨50,[],(.cons (.box 113 (.st (.part 952 (.v (.st 19)) (.part 1 (.box 185 (.v (.st 24))) (.part 320 (.v (.st 21)) (.part 1 (.row 3 1 (.int .i64)) .nil)))))) .nil),(.cons (.v .bool) (.cons (.box 113 (.st (.part 952 (.v (.st 19)) (.part 1 (.box 185 (.v (.st 24))) (.part 320 (.v (.st 21)) (.part 1 (.row 3 1 (.int .i64)) .nil)))))) .nil)),[some 0,some 1,none], .nil,[],[[0]]⟩ (λx=>mw n x.1 x.2.1 x.2.2.1 x.2.2.2.1) (λy=>(y.1,y.2.1,y.2.2.1,y.2.2.2.1,y.2.2.2.2.1)) (λz=>(z.1,(z.2.1,(z.2.2.1,(z.2.2.2.1,(z.2.2.2.2,()))))))
def cI(n:Nat)(cL:ae)(dc:aj)(dy:ai)(dx:(List Int))(cF:Int)(a1:aC):Option (ah×ae×aj×ai×(List Int)×Int):=
bd (er n cL dc dy dx cF a1) λaA=>
lt (aA.1:ah) λaQ=>
lt (λ(bS:ae) (cB:aj) (dS:ai) (eP:(List Int)) (dk:Int) (eH:ah)=>
lt (eH:ah) λep=>
some (ep,bS,cB,dS,eP,dk)) λj29=>
cn (((aQ.E==6)&&(decide (0<(aA.2.2.2.2.1.length:Int))))) (
xw (λk36 (dP:ae) (jo:aj) (eV:ai) (cJ:(List Int)) (fR:Int)=>
bd (mw n dP jo eV cJ) λdV=>
cn (dV.1) (
k36 dV.2.1 dV.2.2.1 dV.2.2.2.1 dV.2.2.2.2 fR) (
bd (er n dV.2.1 dV.2.2.1 dV.2.2.2.1 dV.2.2.2.2 fR a1) λjk=>
lt (jk.1:ah) λgR=>
j29 jk.2.1 jk.2.2.1 jk.2.2.2.1 jk.2.2.2.2.1 jk.2.2.2.2.2 gR)) n aA.2.1 aA.2.2.1 aA.2.2.2.1 aA.2.2.2.2.1 aA.2.2.2.2.2) (
j29 aA.2.1 aA.2.2.1 aA.2.2.2.1 aA.2.2.2.2.1 aA.2.2.2.2.2 aQ)
def sV(n:Nat):CT:=cV (tC n [(14, .join [(.via 0, .box 141 (.st (.part 1 (.box 113 (.st (.part 952 (.v (.st 19)) (.part 1 (.box 185 (.v (.st 24))) (.part 320 (.v (.st 21)) (.part 1 (.row 3 1 (.int .i64)) .nil)))))) (.part 1 (.v (.int .i64)) .nil)))),(.via 5, .box 55 (.v (.st 2)))] []),(11, .loop [(.via 0, .box 141 (.st (.part 1 (.box 113 (.st (.part 952 (.v (.st 19)) (.part 1 (.box 185 (.v (.st 24))) (.part 320 (.v (.st 21)) (.part 1 (.row 3 1 (.int .i64)) .nil)))))) (.part 1 (.v (.int .i64)) .nil))))])] [F8 n,Ds n] []) ⟨17,[],(.cons (.box 141 (.st (.part 1 (.box 113 (.st (.part 952 (.v (.st 19)) (.part 1 (.box 185 (.v (.st 24))) (.part 320 (.v (.st 21)) (.part 1 (.row 3 1 (.int .i64)) .nil)))))) (.part 1 (.v (.int .i64)) .nil)))) (.cons (.v (.st 3)) .nil)),(.cons (.v (.st 2)) (.cons (.box 141 (.st (.part 1 (.box 113 (.st (.part 952 (.v (.st 19)) (.part 1 (.box 185 (.v (.st 24))) (.part 320 (.v (.st 21)) (.part 1 (.row 3 1 (.int .i64)) .nil)))))) (.part 1 (.v (.int .i64)) .nil)))) .nil)),[some 0,some 1,some 2,none], .nil,[],[[0]]⟩ (λx=>cI n x.1 x.2.1 x.2.2.1 x.2.2.2.1 x.2.2.2.2.1 x.2.2.2.2.2.1) (λy=>(y.1,y.2.1,y.2.2.1,y.2.2.2.1,y.2.2.2.2.1,y.2.2.2.2.2.1)) (λz=>(z.1,(z.2.1,(z.2.2.1,(z.2.2.2.1,(z.2.2.2.2.1,(z.2.2.2.2.2,())))))))
def mg(n:Nat)(a0:Int):Option (Int×Bool):=
some (wr .u32 a0,((decide (0<=a0))&&(decide (a0<=4294967295))))
def JV(n:Nat):CT:=cV (tC n [] [] []) ⟨59,[],(.cons (.v (.int .i64)) .nil),(.cons (.jy (.cons (.v (.int .u32)) (.cons (.v .bool) .nil))) .nil),[], .nil,[],[]⟩ (λx=>mg n x.1) (λy=>(y.1,y.2.1)) (λz=>(z.1,(z.2,())))
def ja(n:Nat)(cL:ae)(dc:aj)(dy:ai)(dx:(List Int))(cF:Int)(a1:Int)(a2:Int)(a3:Int)(a4:Int)(a5:Int):Option (ah×ae×aj×ai×(List Int)×Int):=
bd (mg n a3) λaA=>
bd (mg n a4) λaQ=>
cn (((!aA.2)||(!aQ.2))) (
lt (({ay with E:=2}:ah):ah) λbS=>
some (bS,cL,dc,dy,dx,cF)) (
bd (cI n cL dc dy dx cF ({({({({({eF with Do:=a1}:aC)with R:=a2}:aC)with A:=aA.1}:aC)with B:=aQ.1}:aC)with V:=a5}:aC)) λcB=>
lt (cB.1:ah) λdS=>
some (dS,cB.2.1,cB.2.2.1,cB.2.2.2.1,cB.2.2.2.2.1,cB.2.2.2.2.2))
def sU(n:Nat):CT:=cV (tC n [] [JV n,sV n] []) ⟨34,[],(.cons (.box 141 (.st (.part 1 (.box 113 (.st (.part 952 (.v (.st 19)) (.part 1 (.box 185 (.v (.st 24))) (.part 320 (.v (.st 21)) (.part 1 (.row 3 1 (.int .i64)) .nil)))))) (.part 1 (.v (.int .i64)) .nil)))) (.cons (.v (.int .u8)) (.cons (.v (.int .u32)) (.cons (.v (.int .i64)) (.cons (.v (.int .i64)) (.cons (.v (.int .u64)) .nil)))))),(.cons (.v (.st 2)) (.cons (.box 141 (.st (.part 1 (.box 113 (.st (.part 952 (.v (.st 19)) (.part 1 (.box 185 (.v (.st 24))) (.part 320 (.v (.st 21)) (.part 1 (.row 3 1 (.int .i64)) .nil)))))) (.part 1 (.v (.int .i64)) .nil)))) .nil)),[some 0,some 1,some 2,none], .nil,[],[[0]]⟩ (λx=>ja n x.1 x.2.1 x.2.2.1 x.2.2.2.1 x.2.2.2.2.1 x.2.2.2.2.2.1 x.2.2.2.2.2.2.1 x.2.2.2.2.2.2.2.1 x.2.2.2.2.2.2.2.2.1 x.2.2.2.2.2.2.2.2.2.1) (λy=>(y.1,y.2.1,y.2.2.1,y.2.2.2.1,y.2.2.2.2.1,y.2.2.2.2.2.1)) (λz=>(z.1,(z.2.1,(z.2.2.1,(z.2.2.2.1,(z.2.2.2.2.1,(z.2.2.2.2.2,())))))))
def ef(n:Nat)(cL:ae)(dc:aj)(dy:ai)(dx:(List Int))(cF:Int)(a1:Int)(a2:Int)(a3:Int):Option (Int×Int×ae×aj×ai×(List Int)×Int):=
bd (ja n cL dc dy dx cF 2 a1 a2 a3 0) λaA=>
lt (aA.1:ah) λaQ=>
some (wr .i64 aQ.V,aQ.E,aA.2.1,aA.2.2.1,aA.2.2.2.1,aA.2.2.2.2.1,aA.2.2.2.2.2)
def qX(n:Nat):CT:=cV (tC n [] [sU n] []) ⟨48,[],(.cons (.box 141 (.st (.part 1 (.box 113 (.st (.part 952 (.v (.st 19)) (.part 1 (.box 185 (.v (.st 24))) (.part 320 (.v (.st 21)) (.part 1 (.row 3 1 (.int .i64)) .nil)))))) (.part 1 (.v (.int .i64)) .nil)))) (.cons (.v (.int .u32)) (.cons (.v (.int .i64)) (.cons (.v (.int .i64)) .nil)))),(.cons (.jy (.cons (.v (.int .i64)) (.cons (.v (.int .i64)) .nil))) (.cons (.box 141 (.st (.part 1 (.box 113 (.st (.part 952 (.v (.st 19)) (.part 1 (.box 185 (.v (.st 24))) (.part 320 (.v (.st 21)) (.part 1 (.row 3 1 (.int .i64)) .nil)))))) (.part 1 (.v (.int .i64)) .nil)))) .nil)),[some 0,some 1,some 2,none], .nil,[],[[0]]⟩ (λx=>ef n x.1 x.2.1 x.2.2.1 x.2.2.2.1 x.2.2.2.2.1 x.2.2.2.2.2.1 x.2.2.2.2.2.2.1 x.2.2.2.2.2.2.2.1) (λy=>(y.1,y.2.1,y.2.2.1,y.2.2.2.1,y.2.2.2.2.1,y.2.2.2.2.2.1,y.2.2.2.2.2.2.1)) (λz=>(z.1,(z.2.1,(z.2.2.1,(z.2.2.2.1,(z.2.2.2.2.1,(z.2.2.2.2.2.1,(z.2.2.2.2.2.2,()))))))))
def kx(n:Nat)(cL:ae)(dc:aj)(dy:ai)(dx:(List Int))(cF:Int)(a1:Int)(a2:Int):Option (Int×Int×ae×aj×ai×(List Int)×Int):=
bd (ja n cL dc dy dx cF 3 a1 a2 8 0) λaA=>
lt (aA.1:ah) λaQ=>
some (aQ.V,aQ.E,aA.2.1,aA.2.2.1,aA.2.2.2.1,aA.2.2.2.2.1,aA.2.2.2.2.2)
def F9(n:Nat):CT:=cV (tC n [] [sU n] []) ⟨61,[],(.cons (.box 141 (.st (.part 1 (.box 113 (.st (.part 952 (.v (.st 19)) (.part 1 (.box 185 (.v (.st 24))) (.part 320 (.v (.st 21)) (.part 1 (.row 3 1 (.int .i64)) .nil)))))) (.part 1 (.v (.int .i64)) .nil)))) (.cons (.v (.int .u32)) (.cons (.v (.int .i64)) .nil))),(.cons (.jy (.cons (.v (.int .u64)) (.cons (.v (.int .i64)) .nil))) (.cons (.box 141 (.st (.part 1 (.box 113 (.st (.part 952 (.v (.st 19)) (.part 1 (.box 185 (.v (.st 24))) (.part 320 (.v (.st 21)) (.part 1 (.row 3 1 (.int .i64)) .nil)))))) (.part 1 (.v (.int .i64)) .nil)))) .nil)),[some 0,some 1,some 2,none], .nil,[],[[0]]⟩ (λx=>kx n x.1 x.2.1 x.2.2.1 x.2.2.2.1 x.2.2.2.2.1 x.2.2.2.2.2.1 x.2.2.2.2.2.2.1) (λy=>(y.1,y.2.1,y.2.2.1,y.2.2.2.1,y.2.2.2.2.1,y.2.2.2.2.2.1,y.2.2.2.2.2.2.1)) (λz=>(z.1,(z.2.1,(z.2.2.1,(z.2.2.2.1,(z.2.2.2.2.1,(z.2.2.2.2.2.1,(z.2.2.2.2.2.2,()))))))))
def cz(n:Nat)(cL:ae)(dc:aj)(dy:ai)(dx:(List Int))(cF:Int)(dF:Int)(dD:Int)(Bv:Int)(a1:Int):Option (Int×ae×aj×ai×(List Int)×Int×Int×Int×Int):=
cn ((Bv !=0)) (
some (0,cL,dc,dy,dx,cF,dF,dD,Bv)) (
bd (kx n cL dc dy dx cF dF a1) λaA=>
lt (aA.2.1:Int) λaQ=>
some (aA.1,aA.2.2.1,aA.2.2.2.1,aA.2.2.2.2.1,aA.2.2.2.2.2.1,aA.2.2.2.2.2.2,dF,dD,aQ))
def gN(n:Nat):CT:=cV (tC n [] [F9 n] []) ⟨38,[],(.cons (.box 150 (.st (.part 3 (.st (.part 1 (.box 141 (.st (.part 1 (.box 113 (.st (.part 952 (.v (.st 19)) (.part 1 (.box 185 (.v (.st 24))) (.part 320 (.v (.st 21)) (.part 1 (.row 3 1 (.int .i64)) .nil)))))) (.part 1 (.v (.int .i64)) .nil)))) (.part 1 (.v (.int .u32)) (.part 1 (.v (.int .i64)) .nil)))) (.part 1 (.v (.int .i64)) .nil)))) (.cons (.v (.int .i64)) .nil)),(.cons (.v (.int .u64)) (.cons (.box 150 (.st (.part 3 (.st (.part 1 (.box 141 (.st (.part 1 (.box 113 (.st (.part 952 (.v (.st 19)) (.part 1 (.box 185 (.v (.st 24))) (.part 320 (.v (.st 21)) (.part 1 (.row 3 1 (.int .i64)) .nil)))))) (.part 1 (.v (.int .i64)) .nil)))) (.part 1 (.v (.int .u32)) (.part 1 (.v (.int .i64)) .nil)))) (.part 1 (.v (.int .i64)) .nil)))) .nil)),[some 0,some 1,some 2,some 3,none], .nil,[],[[0]]⟩ (λx=>cz n x.1 x.2.1 x.2.2.1 x.2.2.2.1 x.2.2.2.2.1 x.2.2.2.2.2.1 x.2.2.2.2.2.2.1 x.2.2.2.2.2.2.2.1 x.2.2.2.2.2.2.2.2.1) (λy=>(y.1,y.2.1,y.2.2.1,y.2.2.2.1,y.2.2.2.2.1,y.2.2.2.2.2.1,y.2.2.2.2.2.2.1,y.2.2.2.2.2.2.2.1,y.2.2.2.2.2.2.2.2.1)) (λz=>(z.1,(z.2.1,(z.2.2.1,(z.2.2.2.1,(z.2.2.2.2.1,(z.2.2.2.2.2.1,(z.2.2.2.2.2.2.1,(z.2.2.2.2.2.2.2.1,(z.2.2.2.2.2.2.2.2,()))))))))))
def bQ(n:Nat)(cL:ae)(dc:aj)(dy:ai)(dx:(List Int))(cF:Int)(dF:Int)(dD:Int)(Bv:Int)(a1:Int):Option (Int×ae×aj×ai×(List Int)×Int×Int×Int×Int):=
bd (cz n cL dc dy dx cF dF dD Bv (wr .i64 (dD+a1))) λaA=>
some (aA.1,aA.2.1,aA.2.2.1,aA.2.2.2.1,aA.2.2.2.2.1,aA.2.2.2.2.2.1,aA.2.2.2.2.2.2.1,aA.2.2.2.2.2.2.2.1,aA.2.2.2.2.2.2.2.2)
def fB(n:Nat):CT:=cV (tC n [] [gN n] []) ⟨28,[],(.cons (.box 150 (.st (.part 3 (.st (.part 1 (.box 141 (.st (.part 1 (.box 113 (.st (.part 952 (.v (.st 19)) (.part 1 (.box 185 (.v (.st 24))) (.part 320 (.v (.st 21)) (.part 1 (.row 3 1 (.int .i64)) .nil)))))) (.part 1 (.v (.int .i64)) .nil)))) (.part 1 (.v (.int .u32)) (.part 1 (.v (.int .i64)) .nil)))) (.part 1 (.v (.int .i64)) .nil)))) (.cons (.v (.int .i64)) .nil)),(.cons (.v (.int .u64)) (.cons (.box 150 (.st (.part 3 (.st (.part 1 (.box 141 (.st (.part 1 (.box 113 (.st (.part 952 (.v (.st 19)) (.part 1 (.box 185 (.v (.st 24))) (.part 320 (.v (.st 21)) (.part 1 (.row 3 1 (.int .i64)) .nil)))))) (.part 1 (.v (.int .i64)) .nil)))) (.part 1 (.v (.int .u32)) (.part 1 (.v (.int .i64)) .nil)))) (.part 1 (.v (.int .i64)) .nil)))) .nil)),[some 0,some 1,some 2,some 3,none], .nil,[],[[0]]⟩ (λx=>bQ n x.1 x.2.1 x.2.2.1 x.2.2.2.1 x.2.2.2.2.1 x.2.2.2.2.2.1 x.2.2.2.2.2.2.1 x.2.2.2.2.2.2.2.1 x.2.2.2.2.2.2.2.2.1) (λy=>(y.1,y.2.1,y.2.2.1,y.2.2.2.1,y.2.2.2.2.1,y.2.2.2.2.2.1,y.2.2.2.2.2.2.1,y.2.2.2.2.2.2.2.1,y.2.2.2.2.2.2.2.2.1)) (λz=>(z.1,(z.2.1,(z.2.2.1,(z.2.2.2.1,(z.2.2.2.2.1,(z.2.2.2.2.2.1,(z.2.2.2.2.2.2.1,(z.2.2.2.2.2.2.2.1,(z.2.2.2.2.2.2.2.2,()))))))))))
def gV(n:Nat)(a0:Int):Option Int:=
cn (((a0==0)||(decide (4294967296<a0)))) (
some ((-1))) (
some (wr .i64 (wr .u64 (a0-1))))
def sA(n:Nat):CT:=cV (tC n [] [] []) ⟨33,[],(.cons (.v (.int .u64)) .nil),(.cons (.v (.int .i64)) .nil),[], .nil,[],[]⟩ (λx=>gV n x.1) (λy=>(y.1)) (λz=>(z,()))
def uz(n:Nat)(cL:ae)(dc:aj)(dy:ai)(dx:(List Int))(cF:Int)(a1:Int)(a2:Int)(a3:Int):Option (Int×ae×aj×ai×(List Int)×Int):=
bd (ja n cL dc dy dx cF 4 a1 a2 8 a3) λaA=>
some (aA.1.E,aA.2.1,aA.2.2.1,aA.2.2.2.1,aA.2.2.2.2.1,aA.2.2.2.2.2)
def Io(n:Nat):CT:=cV (tC n [] [sU n] []) ⟨10,[],(.cons (.box 141 (.st (.part 1 (.box 113 (.st (.part 952 (.v (.st 19)) (.part 1 (.box 185 (.v (.st 24))) (.part 320 (.v (.st 21)) (.part 1 (.row 3 1 (.int .i64)) .nil)))))) (.part 1 (.v (.int .i64)) .nil)))) (.cons (.v (.int .u32)) (.cons (.v (.int .i64)) (.cons (.v (.int .u64)) .nil)))),(.cons (.v (.int .i64)) (.cons (.box 141 (.st (.part 1 (.box 113 (.st (.part 952 (.v (.st 19)) (.part 1 (.box 185 (.v (.st 24))) (.part 320 (.v (.st 21)) (.part 1 (.row 3 1 (.int .i64)) .nil)))))) (.part 1 (.v (.int .i64)) .nil)))) .nil)),[some 0,some 1,some 2,none], .nil,[],[[0]]⟩ (λx=>uz n x.1 x.2.1 x.2.2.1 x.2.2.2.1 x.2.2.2.2.1 x.2.2.2.2.2.1 x.2.2.2.2.2.2.1 x.2.2.2.2.2.2.2.1) (λy=>(y.1,y.2.1,y.2.2.1,y.2.2.2.1,y.2.2.2.2.1,y.2.2.2.2.2.1)) (λz=>(z.1,(z.2.1,(z.2.2.1,(z.2.2.2.1,(z.2.2.2.2.1,(z.2.2.2.2.2,())))))))
def cK(n:Nat)(cL:ae)(dc:aj)(dy:ai)(dx:(List Int))(cF:Int)(dF:Int)(dD:Int)(Bv:Int)(a1:Int)(a2:Int):Option (ae×aj×ai×(List Int)×Int×Int×Int×Int):=
cn ((Bv==0)) (
bd (uz n cL dc dy dx cF dF a1 a2) λaA=>
lt (aA.1:Int) λaQ=>
some (aA.2.1,aA.2.2.1,aA.2.2.2.1,aA.2.2.2.2.1,aA.2.2.2.2.2,dF,dD,aQ)) (
some (cL,dc,dy,dx,cF,dF,dD,Bv))
def iN(n:Nat):CT:=cV (tC n [] [Io n] []) ⟨30,[],(.cons (.box 150 (.st (.part 3 (.st (.part 1 (.box 141 (.st (.part 1 (.box 113 (.st (.part 952 (.v (.st 19)) (.part 1 (.box 185 (.v (.st 24))) (.part 320 (.v (.st 21)) (.part 1 (.row 3 1 (.int .i64)) .nil)))))) (.part 1 (.v (.int .i64)) .nil)))) (.part 1 (.v (.int .u32)) (.part 1 (.v (.int .i64)) .nil)))) (.part 1 (.v (.int .i64)) .nil)))) (.cons (.v (.int .i64)) (.cons (.v (.int .u64)) .nil))),(.cons (.jy .nil) (.cons (.box 150 (.st (.part 3 (.st (.part 1 (.box 141 (.st (.part 1 (.box 113 (.st (.part 952 (.v (.st 19)) (.part 1 (.box 185 (.v (.st 24))) (.part 320 (.v (.st 21)) (.part 1 (.row 3 1 (.int .i64)) .nil)))))) (.part 1 (.v (.int .i64)) .nil)))) (.part 1 (.v (.int .u32)) (.part 1 (.v (.int .i64)) .nil)))) (.part 1 (.v (.int .i64)) .nil)))) .nil)),[some 0,some 1,some 2,some 3,none], .nil,[],[[0]]⟩ (λx=>cK n x.1 x.2.1 x.2.2.1 x.2.2.2.1 x.2.2.2.2.1 x.2.2.2.2.2.1 x.2.2.2.2.2.2.1 x.2.2.2.2.2.2.2.1 x.2.2.2.2.2.2.2.2.1 x.2.2.2.2.2.2.2.2.2.1) (λy=>(y.1,y.2.1,y.2.2.1,y.2.2.2.1,y.2.2.2.2.1,y.2.2.2.2.2.1,y.2.2.2.2.2.2.1,y.2.2.2.2.2.2.2.1)) (λz=>(z.1,(z.2.1,(z.2.2.1,(z.2.2.2.1,(z.2.2.2.2.1,(z.2.2.2.2.2.1,(z.2.2.2.2.2.2.1,(z.2.2.2.2.2.2.2,())))))))))
def bh(n:Nat)(cL:ae)(dc:aj)(dy:ai)(dx:(List Int))(cF:Int)(dF:Int)(dD:Int)(Bv:Int)(a1:Int)(a2:Int):Option (ae×aj×ai×(List Int)×Int×Int×Int×Int):=
bd (cK n cL dc dy dx cF dF dD Bv (wr .i64 (dD+a1)) a2) λaA=>
some (aA.1,aA.2.1,aA.2.2.1,aA.2.2.2.1,aA.2.2.2.2.1,aA.2.2.2.2.2.1,aA.2.2.2.2.2.2.1,aA.2.2.2.2.2.2.2)
def jI(n:Nat):CT:=cV (tC n [] [iN n] []) ⟨31,[],(.cons (.box 150 (.st (.part 3 (.st (.part 1 (.box 141 (.st (.part 1 (.box 113 (.st (.part 952 (.v (.st 19)) (.part 1 (.box 185 (.v (.st 24))) (.part 320 (.v (.st 21)) (.part 1 (.row 3 1 (.int .i64)) .nil)))))) (.part 1 (.v (.int .i64)) .nil)))) (.part 1 (.v (.int .u32)) (.part 1 (.v (.int .i64)) .nil)))) (.part 1 (.v (.int .i64)) .nil)))) (.cons (.v (.int .i64)) (.cons (.v (.int .u64)) .nil))),(.cons (.jy .nil) (.cons (.box 150 (.st (.part 3 (.st (.part 1 (.box 141 (.st (.part 1 (.box 113 (.st (.part 952 (.v (.st 19)) (.part 1 (.box 185 (.v (.st 24))) (.part 320 (.v (.st 21)) (.part 1 (.row 3 1 (.int .i64)) .nil)))))) (.part 1 (.v (.int .i64)) .nil)))) (.part 1 (.v (.int .u32)) (.part 1 (.v (.int .i64)) .nil)))) (.part 1 (.v (.int .i64)) .nil)))) .nil)),[some 0,some 1,some 2,some 3,none], .nil,[],[[0]]⟩ (λx=>bh n x.1 x.2.1 x.2.2.1 x.2.2.2.1 x.2.2.2.2.1 x.2.2.2.2.2.1 x.2.2.2.2.2.2.1 x.2.2.2.2.2.2.2.1 x.2.2.2.2.2.2.2.2.1 x.2.2.2.2.2.2.2.2.2.1) (λy=>(y.1,y.2.1,y.2.2.1,y.2.2.2.1,y.2.2.2.2.1,y.2.2.2.2.2.1,y.2.2.2.2.2.2.1,y.2.2.2.2.2.2.2.1)) (λz=>(z.1,(z.2.1,(z.2.2.1,(z.2.2.2.1,(z.2.2.2.2.1,(z.2.2.2.2.2.1,(z.2.2.2.2.2.2.1,(z.2.2.2.2.2.2.2,())))))))))
def iy(n:Nat)(cL:ae)(dc:aj)(dy:ai)(dx:(List Int))(cF:Int)(dF:Int)(dD:Int)(Bv:Int):Option (Int×ae×aj×ai×(List Int)×Int×Int×Int×Int):=
bd (bQ n cL dc dy dx cF dF dD Bv 24) λaA=>
cn ((aA.2.2.2.2.2.2.2.2!=0)) (
some (0,aA.2.1,aA.2.2.1,aA.2.2.2.1,aA.2.2.2.2.1,aA.2.2.2.2.2.1,aA.2.2.2.2.2.2.1,aA.2.2.2.2.2.2.2.1,aA.2.2.2.2.2.2.2.2)) (
cn ((aA.1==0)) (
bd (ef n aA.2.1 aA.2.2.1 aA.2.2.2.1 aA.2.2.2.2.1 aA.2.2.2.2.2.1 aA.2.2.2.2.2.2.1 16 8) λaQ=>
lt (aQ.2.1:Int) λbS=>
some (aQ.1,aQ.2.2.1,aQ.2.2.2.1,aQ.2.2.2.2.1,aQ.2.2.2.2.2.1,aQ.2.2.2.2.2.2,aA.2.2.2.2.2.2.1,aA.2.2.2.2.2.2.2.1,bS)) (
bd (gV n aA.1) λcB=>
bd (cz n aA.2.1 aA.2.2.1 aA.2.2.2.1 aA.2.2.2.2.1 aA.2.2.2.2.2.1 aA.2.2.2.2.2.2.1 aA.2.2.2.2.2.2.2.1 aA.2.2.2.2.2.2.2.2 (wr .i64 (cB+0))) λdS=>
bd (bh n dS.2.1 dS.2.2.1 dS.2.2.2.1 dS.2.2.2.2.1 dS.2.2.2.2.2.1 dS.2.2.2.2.2.2.1 dS.2.2.2.2.2.2.2.1 dS.2.2.2.2.2.2.2.2 24 dS.1) λeP=>
bd (gV n aA.1) λdk=>
some (dk,eP.1,eP.2.1,eP.2.2.1,eP.2.2.2.1,eP.2.2.2.2.1,eP.2.2.2.2.2.1,eP.2.2.2.2.2.2.1,eP.2.2.2.2.2.2.2)))
def vq(n:Nat):CT:=cV (tC n [] [fB n,qX n,sA n,gN n,jI n] []) ⟨29,[],(.cons (.box 150 (.st (.part 3 (.st (.part 1 (.box 141 (.st (.part 1 (.box 113 (.st (.part 952 (.v (.st 19)) (.part 1 (.box 185 (.v (.st 24))) (.part 320 (.v (.st 21)) (.part 1 (.row 3 1 (.int .i64)) .nil)))))) (.part 1 (.v (.int .i64)) .nil)))) (.part 1 (.v (.int .u32)) (.part 1 (.v (.int .i64)) .nil)))) (.part 1 (.v (.int .i64)) .nil)))) .nil),(.cons (.v (.int .i64)) (.cons (.box 150 (.st (.part 3 (.st (.part 1 (.box 141 (.st (.part 1 (.box 113 (.st (.part 952 (.v (.st 19)) (.part 1 (.box 185 (.v (.st 24))) (.part 320 (.v (.st 21)) (.part 1 (.row 3 1 (.int .i64)) .nil)))))) (.part 1 (.v (.int .i64)) .nil)))) (.part 1 (.v (.int .u32)) (.part 1 (.v (.int .i64)) .nil)))) (.part 1 (.v (.int .i64)) .nil)))) .nil)),[some 0,some 1,some 2,some 3,none], .nil,[],[[0]]⟩ (λx=>iy n x.1 x.2.1 x.2.2.1 x.2.2.2.1 x.2.2.2.2.1 x.2.2.2.2.2.1 x.2.2.2.2.2.2.1 x.2.2.2.2.2.2.2.1) (λy=>(y.1,y.2.1,y.2.2.1,y.2.2.2.1,y.2.2.2.2.1,y.2.2.2.2.2.1,y.2.2.2.2.2.2.1,y.2.2.2.2.2.2.2.1,y.2.2.2.2.2.2.2.2.1)) (λz=>(z.1,(z.2.1,(z.2.2.1,(z.2.2.2.1,(z.2.2.2.2.1,(z.2.2.2.2.2.1,(z.2.2.2.2.2.2.1,(z.2.2.2.2.2.2.2.1,(z.2.2.2.2.2.2.2.2,()))))))))))
def gi(n:Nat)(a0:Int):Option Int:=
some (wr .u64 ((wr .u64 a0)+1))
def yq(n:Nat):CT:=cV (tC n [] [] []) ⟨32,[],(.cons (.v (.int .i64)) .nil),(.cons (.v (.int .u64)) .nil),[], .nil,[],[]⟩ (λx=>gi n x.1) (λy=>(y.1)) (λz=>(z,()))
def jN(n:Nat)(cL:ae)(dc:aj)(dy:ai)(dx:(List Int))(cF:Int)(dF:Int)(dD:Int)(a1:Int):Option (Int×ae×aj×ai×(List Int)×Int×Int×Int):=
bd (bQ n cL dc dy dx cF dF dD 0 16) λaA=>
bd (bQ n aA.2.1 aA.2.2.1 aA.2.2.2.1 aA.2.2.2.2.1 aA.2.2.2.2.2.1 aA.2.2.2.2.2.2.1 aA.2.2.2.2.2.2.2.1 aA.2.2.2.2.2.2.2.2 8) λaQ=>
bd (iy n aQ.2.1 aQ.2.2.1 aQ.2.2.2.1 aQ.2.2.2.2.1 aQ.2.2.2.2.2.1 aQ.2.2.2.2.2.2.1 aQ.2.2.2.2.2.2.2.1 aQ.2.2.2.2.2.2.2.2) λbS=>
bd (cK n bS.2.1 bS.2.2.1 bS.2.2.2.1 bS.2.2.2.2.1 bS.2.2.2.2.2.1 bS.2.2.2.2.2.2.1 bS.2.2.2.2.2.2.2.1 bS.2.2.2.2.2.2.2.2 (wr .i64 (bS.1+0)) 0) λcB=>
bd (cK n cB.1 cB.2.1 cB.2.2.1 cB.2.2.2.1 cB.2.2.2.2.1 cB.2.2.2.2.2.1 cB.2.2.2.2.2.2.1 cB.2.2.2.2.2.2.2 (wr .i64 (bS.1+8)) a1) λdS=>
lt (λ(eP:ae) (dk:aj) (eH:ai) (gM:(List Int)) (ep:Int) (dP:Int) (jo:Int) (eV:Int)=>
bd (gi n bS.1) λfR=>
bd (bh n eP dk eH gM ep dP jo eV 8 fR) λjx=>
bd (bh n jx.1 jx.2.1 jx.2.2.1 jx.2.2.2.1 jx.2.2.2.2.1 jx.2.2.2.2.2.1 jx.2.2.2.2.2.2.1 jx.2.2.2.2.2.2.2 16 (wr .u64 (aA.1+1))) λdV=>
some (dV.2.2.2.2.2.2.2,dV.1,dV.2.1,dV.2.2.1,dV.2.2.2.1,dV.2.2.2.2.1,dF,dD)) λYQ=>
cn ((aA.1==0)) (
bd (gi n bS.1) λjk=>
bd (bh n dS.1 dS.2.1 dS.2.2.1 dS.2.2.2.1 dS.2.2.2.2.1 dS.2.2.2.2.2.1 dS.2.2.2.2.2.2.1 dS.2.2.2.2.2.2.2 0 jk) λgR=>
YQ gR.1 gR.2.1 gR.2.2.1 gR.2.2.2.1 gR.2.2.2.2.1 gR.2.2.2.2.2.1 gR.2.2.2.2.2.2.1 gR.2.2.2.2.2.2.2) (
bd (gV n aQ.1) λmU=>
bd (gi n bS.1) λgF=>
bd (cK n dS.1 dS.2.1 dS.2.2.1 dS.2.2.2.1 dS.2.2.2.2.1 dS.2.2.2.2.2.1 dS.2.2.2.2.2.2.1 dS.2.2.2.2.2.2.2 (wr .i64 (mU+0)) gF) λlJ=>
YQ lJ.1 lJ.2.1 lJ.2.2.1 lJ.2.2.2.1 lJ.2.2.2.2.1 lJ.2.2.2.2.2.1 lJ.2.2.2.2.2.2.1 lJ.2.2.2.2.2.2.2)
def vt(n:Nat):CT:=cV (tC n [(80150000014, .join [(.via 0, .box 150 (.st (.part 3 (.st (.part 1 (.box 141 (.st (.part 1 (.box 113 (.st (.part 952 (.v (.st 19)) (.part 1 (.box 185 (.v (.st 24))) (.part 320 (.v (.st 21)) (.part 1 (.row 3 1 (.int .i64)) .nil)))))) (.part 1 (.v (.int .i64)) .nil)))) (.part 1 (.v (.int .u32)) (.part 1 (.v (.int .i64)) .nil)))) (.part 1 (.v (.int .i64)) .nil))))] [])] [fB n,vq n,iN n,yq n,jI n,sA n] []) ⟨9,[],(.cons (.st (.part 1 (.box 141 (.st (.part 1 (.box 113 (.st (.part 952 (.v (.st 19)) (.part 1 (.box 185 (.v (.st 24))) (.part 320 (.v (.st 21)) (.part 1 (.row 3 1 (.int .i64)) .nil)))))) (.part 1 (.v (.int .i64)) .nil)))) (.part 1 (.v (.int .u32)) (.part 1 (.v (.int .i64)) .nil)))) (.cons (.v (.int .u64)) .nil)),(.cons (.v (.int .i64)) (.cons (.st (.part 1 (.box 141 (.st (.part 1 (.box 113 (.st (.part 952 (.v (.st 19)) (.part 1 (.box 185 (.v (.st 24))) (.part 320 (.v (.st 21)) (.part 1 (.row 3 1 (.int .i64)) .nil)))))) (.part 1 (.v (.int .i64)) .nil)))) (.part 1 (.v (.int .u32)) (.part 1 (.v (.int .i64)) .nil)))) .nil)),[some 0,some 1,some 2,none], .nil,[],[[0]]⟩ (λx=>jN n x.1 x.2.1 x.2.2.1 x.2.2.2.1 x.2.2.2.2.1 x.2.2.2.2.2.1 x.2.2.2.2.2.2.1 x.2.2.2.2.2.2.2.1) (λy=>(y.1,y.2.1,y.2.2.1,y.2.2.2.1,y.2.2.2.2.1,y.2.2.2.2.2.1,y.2.2.2.2.2.2.1,y.2.2.2.2.2.2.2.1)) (λz=>(z.1,(z.2.1,(z.2.2.1,(z.2.2.2.1,(z.2.2.2.2.1,(z.2.2.2.2.2.1,(z.2.2.2.2.2.2.1,(z.2.2.2.2.2.2.2,())))))))))
def kQ(n:Nat)(cL:ae)(dc:aj)(dy:ai)(dx:(List Int))(cF:Int)(dF:Int)(dD:Int)(a1:Int):Option (Int×ae×aj×ai×(List Int)×Int×Int×Int):=
bd (bQ n cL dc dy dx cF dF dD 0 16) λaA=>
bd (bQ n aA.2.1 aA.2.2.1 aA.2.2.2.1 aA.2.2.2.2.1 aA.2.2.2.2.2.1 aA.2.2.2.2.2.2.1 aA.2.2.2.2.2.2.2.1 aA.2.2.2.2.2.2.2.2 0) λaQ=>
bd (iy n aQ.2.1 aQ.2.2.1 aQ.2.2.2.1 aQ.2.2.2.2.1 aQ.2.2.2.2.2.1 aQ.2.2.2.2.2.2.1 aQ.2.2.2.2.2.2.2.1 aQ.2.2.2.2.2.2.2.2) λbS=>
bd (cK n bS.2.1 bS.2.2.1 bS.2.2.2.1 bS.2.2.2.2.1 bS.2.2.2.2.2.1 bS.2.2.2.2.2.2.1 bS.2.2.2.2.2.2.2.1 bS.2.2.2.2.2.2.2.2 (wr .i64 (bS.1+0)) aQ.1) λcB=>
bd (cK n cB.1 cB.2.1 cB.2.2.1 cB.2.2.2.1 cB.2.2.2.2.1 cB.2.2.2.2.2.1 cB.2.2.2.2.2.2.1 cB.2.2.2.2.2.2.2 (wr .i64 (bS.1+8)) a1) λdS=>
bd (gi n bS.1) λeP=>
bd (bh n dS.1 dS.2.1 dS.2.2.1 dS.2.2.2.1 dS.2.2.2.2.1 dS.2.2.2.2.2.1 dS.2.2.2.2.2.2.1 dS.2.2.2.2.2.2.2 0 eP) λdk=>
lt (λ(eH:ae) (gM:aj) (ep:ai) (dP:(List Int)) (jo:Int) (eV:Int) (cJ:Int) (fR:Int)=>
bd (bh n eH gM ep dP jo eV cJ fR 16 (wr .u64 (aA.1+1))) λdV=>
some (dV.2.2.2.2.2.2.2,dV.1,dV.2.1,dV.2.2.1,dV.2.2.2.1,dV.2.2.2.2.1,dF,dD)) λj36=>
cn ((aA.1==0)) (
bd (gi n bS.1) λjk=>
bd (bh n dk.1 dk.2.1 dk.2.2.1 dk.2.2.2.1 dk.2.2.2.2.1 dk.2.2.2.2.2.1 dk.2.2.2.2.2.2.1 dk.2.2.2.2.2.2.2 8 jk) λgR=>
j36 gR.1 gR.2.1 gR.2.2.1 gR.2.2.2.1 gR.2.2.2.2.1 gR.2.2.2.2.2.1 gR.2.2.2.2.2.2.1 gR.2.2.2.2.2.2.2) (
j36 dk.1 dk.2.1 dk.2.2.1 dk.2.2.2.1 dk.2.2.2.2.1 dk.2.2.2.2.2.1 dk.2.2.2.2.2.2.1 dk.2.2.2.2.2.2.2)
def ud(n:Nat):CT:=cV (tC n [(80150000014, .join [(.via 0, .box 150 (.st (.part 3 (.st (.part 1 (.box 141 (.st (.part 1 (.box 113 (.st (.part 952 (.v (.st 19)) (.part 1 (.box 185 (.v (.st 24))) (.part 320 (.v (.st 21)) (.part 1 (.row 3 1 (.int .i64)) .nil)))))) (.part 1 (.v (.int .i64)) .nil)))) (.part 1 (.v (.int .u32)) (.part 1 (.v (.int .i64)) .nil)))) (.part 1 (.v (.int .i64)) .nil))))] [])] [fB n,vq n,iN n,yq n,jI n] []) ⟨23,[],(.cons (.st (.part 1 (.box 141 (.st (.part 1 (.box 113 (.st (.part 952 (.v (.st 19)) (.part 1 (.box 185 (.v (.st 24))) (.part 320 (.v (.st 21)) (.part 1 (.row 3 1 (.int .i64)) .nil)))))) (.part 1 (.v (.int .i64)) .nil)))) (.part 1 (.v (.int .u32)) (.part 1 (.v (.int .i64)) .nil)))) (.cons (.v (.int .u64)) .nil)),(.cons (.v (.int .i64)) (.cons (.st (.part 1 (.box 141 (.st (.part 1 (.box 113 (.st (.part 952 (.v (.st 19)) (.part 1 (.box 185 (.v (.st 24))) (.part 320 (.v (.st 21)) (.part 1 (.row 3 1 (.int .i64)) .nil)))))) (.part 1 (.v (.int .i64)) .nil)))) (.part 1 (.v (.int .u32)) (.part 1 (.v (.int .i64)) .nil)))) .nil)),[some 0,some 1,some 2,none], .nil,[],[[0]]⟩ (λx=>kQ n x.1 x.2.1 x.2.2.1 x.2.2.2.1 x.2.2.2.2.1 x.2.2.2.2.2.1 x.2.2.2.2.2.2.1 x.2.2.2.2.2.2.2.1) (λy=>(y.1,y.2.1,y.2.2.1,y.2.2.2.1,y.2.2.2.2.1,y.2.2.2.2.2.1,y.2.2.2.2.2.2.1,y.2.2.2.2.2.2.2.1)) (λz=>(z.1,(z.2.1,(z.2.2.1,(z.2.2.2.1,(z.2.2.2.2.1,(z.2.2.2.2.2.1,(z.2.2.2.2.2.2.1,(z.2.2.2.2.2.2.2,())))))))))
def jr(n:Nat)(cL:ae)(dc:aj)(dy:ai)(dx:(List Int))(cF:Int)(dF:Int)(dD:Int):Option (Int×Int×ae×aj×ai×(List Int)×Int×Int×Int):=
bd (bQ n cL dc dy dx cF dF dD 0 16) λaA=>
bd (bQ n aA.2.1 aA.2.2.1 aA.2.2.2.1 aA.2.2.2.2.1 aA.2.2.2.2.2.1 aA.2.2.2.2.2.2.1 aA.2.2.2.2.2.2.2.1 aA.2.2.2.2.2.2.2.2 0) λaQ=>
bd (bQ n aQ.2.1 aQ.2.2.1 aQ.2.2.2.1 aQ.2.2.2.2.1 aQ.2.2.2.2.2.1 aQ.2.2.2.2.2.2.1 aQ.2.2.2.2.2.2.2.1 aQ.2.2.2.2.2.2.2.2 24) λbS=>
lt (λ(cB:ae) (dS:aj) (eP:ai) (dk:(List Int)) (eH:Int) (gM:Int) (ep:Int) (dP:Int)=>
bd (gV n aQ.1) λeV=>
bd (cz n cB dS eP dk eH gM ep dP (wr .i64 (eV+0))) λcJ=>
bd (cz n cJ.2.1 cJ.2.2.1 cJ.2.2.2.1 cJ.2.2.2.2.1 cJ.2.2.2.2.2.1 cJ.2.2.2.2.2.2.1 cJ.2.2.2.2.2.2.2.1 cJ.2.2.2.2.2.2.2.2 (wr .i64 (eV+8))) λfR=>
lt (fR.1:Int) λjx=>
bd (cK n fR.2.1 fR.2.2.1 fR.2.2.2.1 fR.2.2.2.2.1 fR.2.2.2.2.2.1 fR.2.2.2.2.2.2.1 fR.2.2.2.2.2.2.2.1 fR.2.2.2.2.2.2.2.2 (wr .i64 (eV+0)) bS.1) λdV=>
bd (bh n dV.1 dV.2.1 dV.2.2.1 dV.2.2.2.1 dV.2.2.2.2.1 dV.2.2.2.2.2.1 dV.2.2.2.2.2.2.1 dV.2.2.2.2.2.2.2 24 aQ.1) λjk=>
bd (bh n jk.1 jk.2.1 jk.2.2.1 jk.2.2.2.1 jk.2.2.2.2.1 jk.2.2.2.2.2.1 jk.2.2.2.2.2.2.1 jk.2.2.2.2.2.2.2 0 cJ.1) λgR=>
lt (λ(mU:ae) (gF:aj) (lJ:ai) (v7:(List Int)) (v5:Int) (IU:Int) (vj:Int) (Fw:Int)=>
bd (bh n mU gF lJ v7 v5 IU vj Fw 16 (wr .u64 (aA.1-1))) λqW=>
lt (λ(ua:Int)=>
lt (ua:Int) λJU=>
some (JU,qW.2.2.2.2.2.2.2,qW.1,qW.2.1,qW.2.2.1,qW.2.2.2.1,qW.2.2.2.2.1,dF,dD)) λUF=>
cn ((qW.2.2.2.2.2.2.2!=0)) (
UF 0) (
UF jx)) λj48=>
cn ((aA.1==1)) (
bd (bh n gR.1 gR.2.1 gR.2.2.1 gR.2.2.2.1 gR.2.2.2.2.1 gR.2.2.2.2.2.1 gR.2.2.2.2.2.2.1 gR.2.2.2.2.2.2.2 8 0) λym=>
j48 ym.1 ym.2.1 ym.2.2.1 ym.2.2.2.1 ym.2.2.2.2.1 ym.2.2.2.2.2.1 ym.2.2.2.2.2.2.1 ym.2.2.2.2.2.2.2) (
j48 gR.1 gR.2.1 gR.2.2.1 gR.2.2.2.1 gR.2.2.2.2.1 gR.2.2.2.2.2.1 gR.2.2.2.2.2.2.1 gR.2.2.2.2.2.2.2)) λXh=>
cn (((bS.2.2.2.2.2.2.2.2==0)&&(aA.1==0))) (
Xh bS.2.1 bS.2.2.1 bS.2.2.2.1 bS.2.2.2.2.1 bS.2.2.2.2.2.1 bS.2.2.2.2.2.2.1 bS.2.2.2.2.2.2.2.1 10) (
Xh bS.2.1 bS.2.2.1 bS.2.2.2.1 bS.2.2.2.2.1 bS.2.2.2.2.2.1 bS.2.2.2.2.2.2.1 bS.2.2.2.2.2.2.2.1 bS.2.2.2.2.2.2.2.2)
def xd(n:Nat):CT:=cV (tC n [(70150000006, .join [(.via 0, .box 150 (.st (.part 3 (.st (.part 1 (.box 141 (.st (.part 1 (.box 113 (.st (.part 952 (.v (.st 19)) (.part 1 (.box 185 (.v (.st 24))) (.part 320 (.v (.st 21)) (.part 1 (.row 3 1 (.int .i64)) .nil)))))) (.part 1 (.v (.int .i64)) .nil)))) (.part 1 (.v (.int .u32)) (.part 1 (.v (.int .i64)) .nil)))) (.part 1 (.v (.int .i64)) .nil))))] []),(70150000022, .join [(.via 0, .box 150 (.st (.part 3 (.st (.part 1 (.box 141 (.st (.part 1 (.box 113 (.st (.part 952 (.v (.st 19)) (.part 1 (.box 185 (.v (.st 24))) (.part 320 (.v (.st 21)) (.part 1 (.row 3 1 (.int .i64)) .nil)))))) (.part 1 (.v (.int .i64)) .nil)))) (.part 1 (.v (.int .u32)) (.part 1 (.v (.int .i64)) .nil)))) (.part 1 (.v (.int .i64)) .nil))))] []),(8, .join [(.via 2, .box 33 (.v (.int .u64)))] [])] [fB n,sA n,gN n,iN n,jI n] []) ⟨24,[],(.cons (.st (.part 1 (.box 141 (.st (.part 1 (.box 113 (.st (.part 952 (.v (.st 19)) (.part 1 (.box 185 (.v (.st 24))) (.part 320 (.v (.st 21)) (.part 1 (.row 3 1 (.int .i64)) .nil)))))) (.part 1 (.v (.int .i64)) .nil)))) (.part 1 (.v (.int .u32)) (.part 1 (.v (.int .i64)) .nil)))) .nil),(.cons (.jy (.cons (.v (.int .u64)) (.cons (.v (.int .i64)) .nil))) (.cons (.st (.part 1 (.box 141 (.st (.part 1 (.box 113 (.st (.part 952 (.v (.st 19)) (.part 1 (.box 185 (.v (.st 24))) (.part 320 (.v (.st 21)) (.part 1 (.row 3 1 (.int .i64)) .nil)))))) (.part 1 (.v (.int .i64)) .nil)))) (.part 1 (.v (.int .u32)) (.part 1 (.v (.int .i64)) .nil)))) .nil)),[some 0,some 1,some 2,none], .nil,[],[[0]]⟩ (λx=>jr n x.1 x.2.1 x.2.2.1 x.2.2.2.1 x.2.2.2.2.1 x.2.2.2.2.2.1 x.2.2.2.2.2.2.1) (λy=>(y.1,y.2.1,y.2.2.1,y.2.2.2.1,y.2.2.2.2.1,y.2.2.2.2.2.1,y.2.2.2.2.2.2.1,y.2.2.2.2.2.2.2.1,y.2.2.2.2.2.2.2.2.1)) (λz=>(z.1,(z.2.1,(z.2.2.1,(z.2.2.2.1,(z.2.2.2.2.1,(z.2.2.2.2.2.1,(z.2.2.2.2.2.2.1,(z.2.2.2.2.2.2.2.1,(z.2.2.2.2.2.2.2.2,()))))))))))
def mN(n:Nat)(cL:ae)(dc:aj)(dy:ai)(dx:(List Int))(cF:Int)(dF:Int)(dD:Int)(Bv:Int):Option (ae×aj×ai×(List Int)×Int×Int×Int×Int):=
bd (bQ n cL dc dy dx cF dF dD Bv 16) λaA=>
bd (bQ n aA.2.1 aA.2.2.1 aA.2.2.2.1 aA.2.2.2.2.1 aA.2.2.2.2.2.1 aA.2.2.2.2.2.2.1 aA.2.2.2.2.2.2.2.1 aA.2.2.2.2.2.2.2.2 0) λaQ=>
lt (λ(bS:ae) (cB:aj) (dS:ai) (eP:(List Int)) (dk:Int) (eH:Int) (gM:Int) (ep:Int)=>
wG (λk43 (jo:Int) (eV:Int) (cJ:(List Int)) (fR:ae) (jx:aj) (dV:ai) (jk:(List Int)) (gR:Int) (mU:Int) (gF:Int) (lJ:Int)=>
cn (decide (jo<aA.1)) (
lt (λ(v5:ae) (IU:aj) (vj:ai) (Fw:(List Int)) (zY:Int) (qW:Int) (ua:Int) (C6:Int)=>
cl (((C6 !=0)==false)) (gV n eV) default λym=>
cn ((C6 !=0)) (
wH (λk64 (lu:Int) (qc:Int) (F1:ae) (yj:aj) (Nf:ai) (FZ:(List Int)) (zH:Int) (Xb:Int) (JS:Int) (SB:Int)=>
cn (decide (lu<(cJ.length:Int))) (
gu (dg lu cJ.length)<|
bd (cK n F1 yj Nf FZ zH Xb JS SB (wr .i64 ((cJ.getD (Int.toNat lu) default)+0)) qc) λvi=>
bd (gi n (cJ.getD (Int.toNat lu) default)) λSA=>
k64 (wr .i64 (lu+1)) SA vi.1 vi.2.1 vi.2.2.1 vi.2.2.2.1 vi.2.2.2.2.1 vi.2.2.2.2.2.1 vi.2.2.2.2.2.2.1 vi.2.2.2.2.2.2.2) (
cn (decide (0<(cJ.length:Int))) (
bd (bh n F1 yj Nf FZ zH Xb JS SB 0 qc) λJR=>
gu (dg 0 cJ.length)<|
bd (gi n (cJ.getD (Int.toNat 0) default)) λJQ=>
bd (bh n JR.1 JR.2.1 JR.2.2.1 JR.2.2.2.1 JR.2.2.2.2.1 JR.2.2.2.2.2.1 JR.2.2.2.2.2.2.1 JR.2.2.2.2.2.2.2 8 JQ) λIm=>
some (Im.1,Im.2.1,Im.2.2.1,Im.2.2.2.1,Im.2.2.2.2.1,Im.2.2.2.2.2.1,Im.2.2.2.2.2.2.1,Im.2.2.2.2.2.2.2)) (
some (F1,yj,Nf,FZ,zH,Xb,JS,SB)))) n 0 0 v5 IU vj Fw zY qW ua C6) (
gu (gC cJ.length [ym].length 8)<|
lt (cJ++[ym]:List Int) λx70=>
bd (gV n eV) λx71=>
bd (cz n v5 IU vj Fw zY qW ua C6 (wr .i64 (x71+0))) λNd=>
k43 (wr .u64 (jo+1)) Nd.1 x70 Nd.2.1 Nd.2.2.1 Nd.2.2.2.1 Nd.2.2.2.2.1 Nd.2.2.2.2.2.1 Nd.2.2.2.2.2.2.1 Nd.2.2.2.2.2.2.2.1 Nd.2.2.2.2.2.2.2.2)) λj52=>
cn (((lJ==0)&&(eV==0))) (
j52 fR jx dV jk gR mU gF 3) (
j52 fR jx dV jk gR mU gF lJ)) (
wH (λk83 (JP:Int) (x74:Int) (x75:ae) (C5:aj) (Sz:ai) (QB:(List Int)) (QA:Int) (x80:Int) (Xv:Int) (x82:Int)=>
cn (decide (JP<(cJ.length:Int))) (
gu (dg JP cJ.length)<|
bd (cK n x75 C5 Sz QB QA x80 Xv x82 (wr .i64 ((cJ.getD (Int.toNat JP) default)+0)) x74) λEN=>
bd (gi n (cJ.getD (Int.toNat JP) default)) λXu=>
k83 (wr .i64 (JP+1)) Xu EN.1 EN.2.1 EN.2.2.1 EN.2.2.2.1 EN.2.2.2.2.1 EN.2.2.2.2.2.1 EN.2.2.2.2.2.2.1 EN.2.2.2.2.2.2.2) (
cn (decide (0<(cJ.length:Int))) (
bd (bh n x75 C5 Sz QB QA x80 Xv x82 0 x74) λLv=>
gu (dg 0 cJ.length)<|
bd (gi n (cJ.getD (Int.toNat 0) default)) λx87=>
bd (bh n Lv.1 Lv.2.1 Lv.2.2.1 Lv.2.2.2.1 Lv.2.2.2.2.1 Lv.2.2.2.2.2.1 Lv.2.2.2.2.2.2.1 Lv.2.2.2.2.2.2.2 8 x87) λFY=>
some (FY.1,FY.2.1,FY.2.2.1,FY.2.2.2.1,FY.2.2.2.2.1,FY.2.2.2.2.2.1,FY.2.2.2.2.2.2.1,FY.2.2.2.2.2.2.2)) (
some (x75,C5,Sz,QB,QA,x80,Xv,x82)))) n 0 0 fR jx dV jk gR mU gF lJ)) n 0 aQ.1 [] bS cB dS eP dk eH gM ep) λj31=>
cn (((aQ.2.2.2.2.2.2.2.2==0)&&(decide (128<aA.1)))) (
j31 aQ.2.1 aQ.2.2.1 aQ.2.2.2.1 aQ.2.2.2.2.1 aQ.2.2.2.2.2.1 aQ.2.2.2.2.2.2.1 aQ.2.2.2.2.2.2.2.1 3) (
j31 aQ.2.1 aQ.2.2.1 aQ.2.2.2.1 aQ.2.2.2.2.1 aQ.2.2.2.2.2.1 aQ.2.2.2.2.2.2.1 aQ.2.2.2.2.2.2.2.1 aQ.2.2.2.2.2.2.2.2)
def A5(n:Nat):CT:=cV (tC n [(9990000006, .join [(.via 5, .box 150 (.st (.part 3 (.st (.part 1 (.box 141 (.st (.part 1 (.box 113 (.st (.part 952 (.v (.st 19)) (.part 1 (.box 185 (.v (.st 24))) (.part 320 (.v (.st 21)) (.part 1 (.row 3 1 (.int .i64)) .nil)))))) (.part 1 (.v (.int .i64)) .nil)))) (.part 1 (.v (.int .u32)) (.part 1 (.v (.int .i64)) .nil)))) (.part 1 (.v (.int .i64)) .nil))))] []),(9990000009, .loop [(.cY 20, .v (.int .u64)),(.cY 4, .v (.int .u64)),(.frm 0 2, .box 111 (.row 3 1 (.int .i64))),(.via 5, .box 150 (.st (.part 3 (.st (.part 1 (.box 141 (.st (.part 1 (.box 113 (.st (.part 952 (.v (.st 19)) (.part 1 (.box 185 (.v (.st 24))) (.part 320 (.v (.st 21)) (.part 1 (.row 3 1 (.int .i64)) .nil)))))) (.part 1 (.v (.int .i64)) .nil)))) (.part 1 (.v (.int .u32)) (.part 1 (.v (.int .i64)) .nil)))) (.part 1 (.v (.int .i64)) .nil))))]),(9990000014, .join [(.via 5, .box 150 (.st (.part 3 (.st (.part 1 (.box 141 (.st (.part 1 (.box 113 (.st (.part 952 (.v (.st 19)) (.part 1 (.box 185 (.v (.st 24))) (.part 320 (.v (.st 21)) (.part 1 (.row 3 1 (.int .i64)) .nil)))))) (.part 1 (.v (.int .i64)) .nil)))) (.part 1 (.v (.int .u32)) (.part 1 (.v (.int .i64)) .nil)))) (.part 1 (.v (.int .i64)) .nil))))] []),(13, .loop [(.cY 18, .v (.int .i64)),(.cY 4, .v (.int .u64)),(.via 0, .box 150 (.st (.part 3 (.st (.part 1 (.box 141 (.st (.part 1 (.box 113 (.st (.part 952 (.v (.st 19)) (.part 1 (.box 185 (.v (.st 24))) (.part 320 (.v (.st 21)) (.part 1 (.row 3 1 (.int .i64)) .nil)))))) (.part 1 (.v (.int .i64)) .nil)))) (.part 1 (.v (.int .u32)) (.part 1 (.v (.int .i64)) .nil)))) (.part 1 (.v (.int .i64)) .nil))))])] [fB n,sA n,iN n,yq n,jI n,gN n] []) ⟨58,[],(.cons (.box 150 (.st (.part 3 (.st (.part 1 (.box 141 (.st (.part 1 (.box 113 (.st (.part 952 (.v (.st 19)) (.part 1 (.box 185 (.v (.st 24))) (.part 320 (.v (.st 21)) (.part 1 (.row 3 1 (.int .i64)) .nil)))))) (.part 1 (.v (.int .i64)) .nil)))) (.part 1 (.v (.int .u32)) (.part 1 (.v (.int .i64)) .nil)))) (.part 1 (.v (.int .i64)) .nil)))) .nil),(.cons (.jy .nil) (.cons (.box 150 (.st (.part 3 (.st (.part 1 (.box 141 (.st (.part 1 (.box 113 (.st (.part 952 (.v (.st 19)) (.part 1 (.box 185 (.v (.st 24))) (.part 320 (.v (.st 21)) (.part 1 (.row 3 1 (.int .i64)) .nil)))))) (.part 1 (.v (.int .i64)) .nil)))) (.part 1 (.v (.int .u32)) (.part 1 (.v (.int .i64)) .nil)))) (.part 1 (.v (.int .i64)) .nil)))) .nil)),[some 0,some 1,some 2,some 3,none], .nil,[],[[0]]⟩ (λx=>mN n x.1 x.2.1 x.2.2.1 x.2.2.2.1 x.2.2.2.2.1 x.2.2.2.2.2.1 x.2.2.2.2.2.2.1 x.2.2.2.2.2.2.2.1) (λy=>(y.1,y.2.1,y.2.2.1,y.2.2.2.1,y.2.2.2.2.1,y.2.2.2.2.2.1,y.2.2.2.2.2.2.1,y.2.2.2.2.2.2.2.1)) (λz=>(z.1,(z.2.1,(z.2.2.1,(z.2.2.2.1,(z.2.2.2.2.1,(z.2.2.2.2.2.1,(z.2.2.2.2.2.2.1,(z.2.2.2.2.2.2.2,())))))))))
def mh(n:Nat)(cL:ae)(dc:aj)(dy:ai)(dx:(List Int))(cF:Int)(dF:Int)(dD:Int):Option (Int×ae×aj×ai×(List Int)×Int×Int×Int):=
bd (mN n cL dc dy dx cF dF dD 0) λaA=>
some (aA.2.2.2.2.2.2.2,aA.1,aA.2.1,aA.2.2.1,aA.2.2.2.1,aA.2.2.2.2.1,dF,dD)
def vr(n:Nat):CT:=cV (tC n [] [A5 n] []) ⟨25,[],(.cons (.st (.part 1 (.box 141 (.st (.part 1 (.box 113 (.st (.part 952 (.v (.st 19)) (.part 1 (.box 185 (.v (.st 24))) (.part 320 (.v (.st 21)) (.part 1 (.row 3 1 (.int .i64)) .nil)))))) (.part 1 (.v (.int .i64)) .nil)))) (.part 1 (.v (.int .u32)) (.part 1 (.v (.int .i64)) .nil)))) .nil),(.cons (.v (.int .i64)) (.cons (.st (.part 1 (.box 141 (.st (.part 1 (.box 113 (.st (.part 952 (.v (.st 19)) (.part 1 (.box 185 (.v (.st 24))) (.part 320 (.v (.st 21)) (.part 1 (.row 3 1 (.int .i64)) .nil)))))) (.part 1 (.v (.int .i64)) .nil)))) (.part 1 (.v (.int .u32)) (.part 1 (.v (.int .i64)) .nil)))) .nil)),[some 0,some 1,some 2,none], .nil,[],[[0]]⟩ (λx=>mh n x.1 x.2.1 x.2.2.1 x.2.2.2.1 x.2.2.2.2.1 x.2.2.2.2.2.1 x.2.2.2.2.2.2.1) (λy=>(y.1,y.2.1,y.2.2.1,y.2.2.2.1,y.2.2.2.2.1,y.2.2.2.2.2.1,y.2.2.2.2.2.2.1,y.2.2.2.2.2.2.2.1)) (λz=>(z.1,(z.2.1,(z.2.2.1,(z.2.2.2.1,(z.2.2.2.2.1,(z.2.2.2.2.2.1,(z.2.2.2.2.2.2.1,(z.2.2.2.2.2.2.2,())))))))))
def nn(n:Nat)(cL:ae)(dc:aj)(dy:ai)(dx:(List Int))(cF:Int)(dF:Int)(dD:Int):Option (Int×Int×ae×aj×ai×(List Int)×Int×Int×Int):=
bd (bQ n cL dc dy dx cF dF dD 0 16) λaA=>
lt (wr .i64 aA.1:Int) λaQ=>
lt (aQ:Int) λbS=>
some (bS,aA.2.2.2.2.2.2.2.2,aA.2.1,aA.2.2.1,aA.2.2.2.1,aA.2.2.2.2.1,aA.2.2.2.2.2.1,dF,dD)
def xe(n:Nat):CT:=cV (tC n [] [fB n] []) ⟨11,[],(.cons (.st (.part 1 (.box 141 (.st (.part 1 (.box 113 (.st (.part 952 (.v (.st 19)) (.part 1 (.box 185 (.v (.st 24))) (.part 320 (.v (.st 21)) (.part 1 (.row 3 1 (.int .i64)) .nil)))))) (.part 1 (.v (.int .i64)) .nil)))) (.part 1 (.v (.int .u32)) (.part 1 (.v (.int .i64)) .nil)))) .nil),(.cons (.jy (.cons (.v (.int .i64)) (.cons (.v (.int .i64)) .nil))) (.cons (.st (.part 1 (.box 141 (.st (.part 1 (.box 113 (.st (.part 952 (.v (.st 19)) (.part 1 (.box 185 (.v (.st 24))) (.part 320 (.v (.st 21)) (.part 1 (.row 3 1 (.int .i64)) .nil)))))) (.part 1 (.v (.int .i64)) .nil)))) (.part 1 (.v (.int .u32)) (.part 1 (.v (.int .i64)) .nil)))) .nil)),[some 0,some 1,some 2,none], .nil,[],[[0]]⟩ (λx=>nn n x.1 x.2.1 x.2.2.1 x.2.2.2.1 x.2.2.2.2.1 x.2.2.2.2.2.1 x.2.2.2.2.2.2.1) (λy=>(y.1,y.2.1,y.2.2.1,y.2.2.2.1,y.2.2.2.2.1,y.2.2.2.2.2.1,y.2.2.2.2.2.2.1,y.2.2.2.2.2.2.2.1,y.2.2.2.2.2.2.2.2.1)) (λz=>(z.1,(z.2.1,(z.2.2.1,(z.2.2.2.1,(z.2.2.2.2.1,(z.2.2.2.2.2.1,(z.2.2.2.2.2.2.1,(z.2.2.2.2.2.2.2.1,(z.2.2.2.2.2.2.2.2,()))))))))))
def AQ(n:Nat)(cL:ae)(dc:aj)(dy:ai)(dx:(List Int))(cF:Int)(dF:Int)(dD:Int):Option ((List Int)×Int×ae×aj×ai×(List Int)×Int×Int×Int):=
bd (bQ n cL dc dy dx cF dF dD 0 16) λaA=>
bd (bQ n aA.2.1 aA.2.2.1 aA.2.2.2.1 aA.2.2.2.2.1 aA.2.2.2.2.2.1 aA.2.2.2.2.2.2.1 aA.2.2.2.2.2.2.2.1 aA.2.2.2.2.2.2.2.2 0) λaQ=>
lt (λ(bS:ae) (cB:aj) (dS:ai) (eP:(List Int)) (dk:Int) (eH:Int) (gM:Int) (ep:Int)=>
wG (λk43 (jo:Int) (eV:Int) (cJ:ae) (fR:aj) (jx:ai) (dV:(List Int)) (jk:Int) (gR:Int) (mU:Int) (gF:Int) (lJ:(List Int))=>
cn (decide (jo<aA.1)) (
lt (λ(v5:ae) (IU:aj) (vj:ai) (Fw:(List Int)) (zY:Int) (qW:Int) (ua:Int) (C6:Int)=>
cl (((C6 !=0)==false)) (gV n eV) default λym=>
cn ((C6 !=0)) (
cn ((C6 !=0)) (
some ([],C6,v5,IU,vj,Fw,zY,dF,dD)) (
some (lJ,C6,v5,IU,vj,Fw,zY,dF,dD))) (
bd (cz n v5 IU vj Fw zY qW ua C6 (wr .i64 (ym+8))) λlu=>
gu (gC lJ.length [lu.1].length 8)<|
lt (lJ++[lu.1]:List Int) λqc=>
bd (gV n eV) λF1=>
bd (cz n lu.2.1 lu.2.2.1 lu.2.2.2.1 lu.2.2.2.2.1 lu.2.2.2.2.2.1 lu.2.2.2.2.2.2.1 lu.2.2.2.2.2.2.2.1 lu.2.2.2.2.2.2.2.2 (wr .i64 (F1+0))) λyj=>
k43 (wr .u64 (jo+1)) yj.1 yj.2.1 yj.2.2.1 yj.2.2.2.1 yj.2.2.2.2.1 yj.2.2.2.2.2.1 yj.2.2.2.2.2.2.1 yj.2.2.2.2.2.2.2.1 yj.2.2.2.2.2.2.2.2 qc)) λj52=>
cn (((gF==0)&&(eV==0))) (
j52 cJ fR jx dV jk gR mU 3) (
j52 cJ fR jx dV jk gR mU gF)) (
cn ((gF !=0)) (
some ([],gF,cJ,fR,jx,dV,jk,dF,dD)) (
some (lJ,gF,cJ,fR,jx,dV,jk,dF,dD)))) n 0 aQ.1 bS cB dS eP dk eH gM ep []) λj31=>
cn (((aQ.2.2.2.2.2.2.2.2==0)&&(decide (128<aA.1)))) (
j31 aQ.2.1 aQ.2.2.1 aQ.2.2.2.1 aQ.2.2.2.2.1 aQ.2.2.2.2.2.1 aQ.2.2.2.2.2.2.1 aQ.2.2.2.2.2.2.2.1 3) (
j31 aQ.2.1 aQ.2.2.1 aQ.2.2.2.1 aQ.2.2.2.2.1 aQ.2.2.2.2.2.1 aQ.2.2.2.2.2.2.1 aQ.2.2.2.2.2.2.2.1 aQ.2.2.2.2.2.2.2.2)
def EX(n:Nat):CT:=cV (tC n [(70159990000006, .join [(.via 5, .box 150 (.st (.part 3 (.st (.part 1 (.box 141 (.st (.part 1 (.box 113 (.st (.part 952 (.v (.st 19)) (.part 1 (.box 185 (.v (.st 24))) (.part 320 (.v (.st 21)) (.part 1 (.row 3 1 (.int .i64)) .nil)))))) (.part 1 (.v (.int .i64)) .nil)))) (.part 1 (.v (.int .u32)) (.part 1 (.v (.int .i64)) .nil)))) (.part 1 (.v (.int .i64)) .nil))))] []),(70159990000009, .loop [(.cY 20, .v (.int .u64)),(.cY 4, .v (.int .u64)),(.via 5, .box 150 (.st (.part 3 (.st (.part 1 (.box 141 (.st (.part 1 (.box 113 (.st (.part 952 (.v (.st 19)) (.part 1 (.box 185 (.v (.st 24))) (.part 320 (.v (.st 21)) (.part 1 (.row 3 1 (.int .i64)) .nil)))))) (.part 1 (.v (.int .i64)) .nil)))) (.part 1 (.v (.int .u32)) (.part 1 (.v (.int .i64)) .nil)))) (.part 1 (.v (.int .i64)) .nil)))),(.frm 0 1, .box 22 (.row 33 1 (.int .u64)))]),(70159990000014, .join [(.via 5, .box 150 (.st (.part 3 (.st (.part 1 (.box 141 (.st (.part 1 (.box 113 (.st (.part 952 (.v (.st 19)) (.part 1 (.box 185 (.v (.st 24))) (.part 320 (.v (.st 21)) (.part 1 (.row 3 1 (.int .i64)) .nil)))))) (.part 1 (.v (.int .i64)) .nil)))) (.part 1 (.v (.int .u32)) (.part 1 (.v (.int .i64)) .nil)))) (.part 1 (.v (.int .i64)) .nil))))] [])] [fB n,sA n,gN n] []) ⟨12,[],(.cons (.st (.part 1 (.box 141 (.st (.part 1 (.box 113 (.st (.part 952 (.v (.st 19)) (.part 1 (.box 185 (.v (.st 24))) (.part 320 (.v (.st 21)) (.part 1 (.row 3 1 (.int .i64)) .nil)))))) (.part 1 (.v (.int .i64)) .nil)))) (.part 1 (.v (.int .u32)) (.part 1 (.v (.int .i64)) .nil)))) .nil),(.cons (.jy (.cons (.row 33 1 (.int .u64)) (.cons (.v (.int .i64)) .nil))) (.cons (.st (.part 1 (.box 141 (.st (.part 1 (.box 113 (.st (.part 952 (.v (.st 19)) (.part 1 (.box 185 (.v (.st 24))) (.part 320 (.v (.st 21)) (.part 1 (.row 3 1 (.int .i64)) .nil)))))) (.part 1 (.v (.int .i64)) .nil)))) (.part 1 (.v (.int .u32)) (.part 1 (.v (.int .i64)) .nil)))) .nil)),[none,some 0,some 1,some 2,none], .nil,[],[[0]]⟩ (λx=>AQ n x.1 x.2.1 x.2.2.1 x.2.2.2.1 x.2.2.2.2.1 x.2.2.2.2.2.1 x.2.2.2.2.2.2.1) (λy=>(y.1,y.2.1,y.2.2.1,y.2.2.2.1,y.2.2.2.2.1,y.2.2.2.2.2.1,y.2.2.2.2.2.2.1,y.2.2.2.2.2.2.2.1,y.2.2.2.2.2.2.2.2.1)) (λz=>(z.1,(z.2.1,(z.2.2.1,(z.2.2.2.1,(z.2.2.2.2.1,(z.2.2.2.2.2.1,(z.2.2.2.2.2.2.1,(z.2.2.2.2.2.2.2.1,(z.2.2.2.2.2.2.2.2,()))))))))))
def GK(n:Nat)(cL:ae)(dc:aj)(dy:ai)(dx:(List Int))(cF:Int)(dF:Int)(dD:Int)(a1:aT):Option (Bool×ae×aj×ai×(List Int)×Int×Int×Int):=
bd (nn n cL dc dy dx cF dF dD) λaA=>
bd (AQ n aA.2.2.1 aA.2.2.2.1 aA.2.2.2.2.1 aA.2.2.2.2.2.1 aA.2.2.2.2.2.2.1 dF dD) λaQ=>
cn (((((aA.2.1!=0)||(aQ.2.1!=0))||(aA.1!=(a1.L.length:Int)))||((aQ.1.length:Int)!=aA.1))) (
some (false,aQ.2.2.1,aQ.2.2.2.1,aQ.2.2.2.2.1,aQ.2.2.2.2.2.1,aQ.2.2.2.2.2.2.1,dF,dD)) (
iw (λk24 (bS:Int)=>
cn (decide (bS<aA.1)) (
gu (dg bS aQ.1.length)<|
gu (dg bS a1.L.length)<|
cn (((aQ.1.getD (Int.toNat bS) default)!=(a1.L.getD (Int.toNat bS) default))) (
some (false,aQ.2.2.1,aQ.2.2.2.1,aQ.2.2.2.2.1,aQ.2.2.2.2.2.1,aQ.2.2.2.2.2.2.1,dF,dD)) (
k24 (wr .i64 (bS+1)))) (
some (true,aQ.2.2.1,aQ.2.2.2.1,aQ.2.2.2.2.1,aQ.2.2.2.2.2.1,aQ.2.2.2.2.2.2.1,dF,dD))) n 0)
def JY(n:Nat):CT:=cV (tC n [(13, .loop [(.cY 9, .v (.int .i64))])] [xe n,EX n] []) ⟨15,[],(.cons (.st (.part 1 (.box 141 (.st (.part 1 (.box 113 (.st (.part 952 (.v (.st 19)) (.part 1 (.box 185 (.v (.st 24))) (.part 320 (.v (.st 21)) (.part 1 (.row 3 1 (.int .i64)) .nil)))))) (.part 1 (.v (.int .i64)) .nil)))) (.part 1 (.v (.int .u32)) (.part 1 (.v (.int .i64)) .nil)))) (.cons (.v (.st 1)) .nil)),(.cons (.v .bool) (.cons (.st (.part 1 (.box 141 (.st (.part 1 (.box 113 (.st (.part 952 (.v (.st 19)) (.part 1 (.box 185 (.v (.st 24))) (.part 320 (.v (.st 21)) (.part 1 (.row 3 1 (.int .i64)) .nil)))))) (.part 1 (.v (.int .i64)) .nil)))) (.part 1 (.v (.int .u32)) (.part 1 (.v (.int .i64)) .nil)))) .nil)),[some 0,some 1,some 2,none], .nil,[],[[0]]⟩ (λx=>GK n x.1 x.2.1 x.2.2.1 x.2.2.2.1 x.2.2.2.2.1 x.2.2.2.2.2.1 x.2.2.2.2.2.2.1 x.2.2.2.2.2.2.2.1) (λy=>(y.1,y.2.1,y.2.2.1,y.2.2.2.1,y.2.2.2.2.1,y.2.2.2.2.2.1,y.2.2.2.2.2.2.1,y.2.2.2.2.2.2.2.1)) (λz=>(z.1,(z.2.1,(z.2.2.1,(z.2.2.2.1,(z.2.2.2.2.1,(z.2.2.2.2.2.1,(z.2.2.2.2.2.2.1,(z.2.2.2.2.2.2.2,())))))))))
def uB(n:Nat):Option Bool:=
bd (Ca n 64) λaA=>
bd (uy n) λaQ=>
bd (cI n aQ ({({jX with n:=64}:aj)with dX:=aA}:aj) bA [] 0 ({({eF with Do:=1}:aC)with A:=wr .u32 8}:aC)) λbS=>
lt (bS.1:ah) λcB=>
bd (ef n bS.2.1 bS.2.2.1 bS.2.2.2.1 bS.2.2.2.2.1 bS.2.2.2.2.2 cB.W 32 8) λdS=>
cn ((dS.2.1!=0)) (
cn ((!((cB.E==0)&&(dS.2.1==0)))) (
some (false)) (
lt (λ(eP:Int)=>
lt (eP:Int) λ_=>
some (false)) λj27=>
j27 0)) (
cn ((!((cB.E==0)&&true))) (
some (false)) (
bd (jN n dS.2.2.1 dS.2.2.2.1 dS.2.2.2.2.1 dS.2.2.2.2.2.1 dS.2.2.2.2.2.2 cB.W dS.1 1) λgM=>
bd (jN n gM.2.1 gM.2.2.1 gM.2.2.2.1 gM.2.2.2.2.1 gM.2.2.2.2.2.1 cB.W dS.1 2) λep=>
bd (kQ n ep.2.1 ep.2.2.1 ep.2.2.2.1 ep.2.2.2.2.1 ep.2.2.2.2.2.1 cB.W dS.1 0) λdP=>
bd (jr n dP.2.1 dP.2.2.1 dP.2.2.2.1 dP.2.2.2.2.1 dP.2.2.2.2.2.1 cB.W dS.1) λjo=>
bd (mh n jo.2.2.1 jo.2.2.2.1 jo.2.2.2.2.1 jo.2.2.2.2.2.1 jo.2.2.2.2.2.2.1 cB.W dS.1) λeV=>
cn (((((((gM.1==0)&&(ep.1==0))&&(dP.1==0))&&(jo.1==0))&&(jo.2.1==0))&&(eV.1==0))) (
bd (GK n eV.2.1 eV.2.2.1 eV.2.2.2.1 eV.2.2.2.2.1 eV.2.2.2.2.2.1 cB.W dS.1 ({kF with L:=[2,1]}:aT)) λcJ=>
some (cJ.1)) (
some (false))))
def Ip(n:Nat):CT:=cV (tC n [(240000008, .join [(.via 2, .box 33 (.v (.int .u64)))] [])] [IX n,AH n,sV n,qX n,vt n,ud n,xd n,vr n,JY n] []) ⟨8,[], .nil,(.cons (.v .bool) .nil),[], .nil,[],[]⟩ (λ_=>uB n) (λy=>(y.1)) (λz=>(z,()))
def pQ(n:Nat)(a0:aT)(a1:(List Int)):Option aT:=
lt (({L:=a1,rO:=(if a0.rO<(a1.length:Int)then(a1.length:Int)else a0.rO)}:aT):aT) λaA=>
some (aA)
def sO(n:Nat):CT:=cV (tC n [] [] []) ⟨62,[],(.cons (.v (.st 1)) (.cons (.v (.sl (.int .u64))) .nil)),(.cons (.v (.st 1)) .nil),[], .nil,[],[]⟩ (λx=>pQ n x.1 x.2.1) (λy=>(y.1)) (λz=>(z,()))
def pR(n:Nat)(a0:aT)(a1:Int):Option aT:=
gu (gC [a1].length a0.L.length 8)<|
lt ([a1]++a0.L:List Int) λaA=>
bd (pQ n a0 aA) λaQ=>
lt (aQ:aT) λbS=>
some (bS)
def A2(n:Nat):CT:=cV (tC n [] [sO n] []) ⟨41,[],(.cons (.v (.st 1)) (.cons (.v (.int .u64)) .nil)),(.cons (.v (.st 1)) .nil),[], .nil,[],[]⟩ (λx=>pR n x.1 x.2.1) (λy=>(y.1)) (λz=>(z,()))
def tj(n:Nat)(a0:aT):Option (aT×Int×Int):=
cn (((a0.L.length:Int)==0)) (
lt (a0:aT) λaA=>
some (aA,0,10)) (
gu (dg 1 (a0.L.length+1))<|
gu (dg 0 a0.L.length)<|
lt (({L:=a0.L.drop (Int.toNat 1),rO:=a0.rO}:aT):aT) λaQ=>
some (aQ,(a0.L.getD (Int.toNat 0) default),0))
def Dd(n:Nat):CT:=cV (tC n [] [] []) ⟨42,[],(.cons (.v (.st 1)) .nil),(.cons (.jy (.cons (.v (.st 1)) (.cons (.v (.int .u64)) (.cons (.v (.int .i64)) .nil)))) .nil),[], .nil,[],[]⟩ (λx=>tj n x.1) (λy=>(y.1,y.2.1,y.2.2.1)) (λz=>(z.1,(z.2.1,(z.2.2,()))))
def jc(n:Nat)(cL:ae)(dc:aj)(dy:ai)(dx:(List Int))(cF:Int)(dF:Int)(dD:Int)(Bv:Int)(a1:Int):Option (Int×ae×aj×ai×(List Int)×Int×Int×Int×Int):=
bd (bQ n cL dc dy dx cF dF dD Bv 16) λaA=>
lt (λ(aQ:ae) (bS:aj) (cB:ai) (dS:(List Int)) (eP:Int) (dk:Int) (eH:Int) (gM:Int)=>
bd (bQ n aQ bS cB dS eP dk eH gM 0) λdP=>
lt (λ(jo:ae) (eV:aj) (cJ:ai) (fR:(List Int)) (jx:Int) (dV:Int) (jk:Int) (gR:Int)=>
wG (λk52 (gF:Int) (lJ:Int) (v7:Int) (v5:ae) (IU:aj) (vj:ai) (Fw:(List Int)) (zY:Int) (qW:Int) (ua:Int) (C6:Int)=>
cn (decide (gF<(wr .u64 ((wr .u64 (if 0<a1 then a1 else 0))+1)))) (
lt (λ(ym:ae) (lu:aj) (qc:ai) (F1:(List Int)) (yj:Int) (Nf:Int) (FZ:Int) (zH:Int)=>
cl (((zH !=0)==false)) (gV n lJ) default λJS=>
cn ((zH !=0)) (
some (v7,ym,lu,qc,F1,yj,Nf,FZ,zH)) (
lt (JS:Int) λSB=>
bd (gV n lJ) λQC=>
bd (cz n ym lu qc F1 yj Nf FZ zH (wr .i64 (QC+0))) λvi=>
k52 (wr .u64 (gF+1)) vi.1 SB vi.2.1 vi.2.2.1 vi.2.2.2.1 vi.2.2.2.2.1 vi.2.2.2.2.2.1 vi.2.2.2.2.2.2.1 vi.2.2.2.2.2.2.2.1 vi.2.2.2.2.2.2.2.2)) λj61=>
cn (((C6==0)&&(lJ==0))) (
j61 v5 IU vj Fw zY qW ua 3) (
j61 v5 IU vj Fw zY qW ua C6)) (
some (v7,v5,IU,vj,Fw,zY,qW,ua,C6))) n 0 dP.1 0 jo eV cJ fR jx dV jk gR) λj40=>
cn (((dP.2.2.2.2.2.2.2.2==0)&&(decide (128<(wr .u64 ((wr .u64 (if 0<a1 then a1 else 0))+1)))))) (
j40 dP.2.1 dP.2.2.1 dP.2.2.2.1 dP.2.2.2.2.1 dP.2.2.2.2.2.1 dP.2.2.2.2.2.2.1 dP.2.2.2.2.2.2.2.1 3) (
j40 dP.2.1 dP.2.2.1 dP.2.2.2.1 dP.2.2.2.2.1 dP.2.2.2.2.2.1 dP.2.2.2.2.2.2.1 dP.2.2.2.2.2.2.2.1 dP.2.2.2.2.2.2.2.2)) λj30=>
cn (((aA.2.2.2.2.2.2.2.2==0)&&((decide (a1<0))||(decide (aA.1<=(wr .u64 a1)))))) (
j30 aA.2.1 aA.2.2.1 aA.2.2.2.1 aA.2.2.2.2.1 aA.2.2.2.2.2.1 aA.2.2.2.2.2.2.1 aA.2.2.2.2.2.2.2.1 9) (
j30 aA.2.1 aA.2.2.1 aA.2.2.2.1 aA.2.2.2.2.1 aA.2.2.2.2.2.1 aA.2.2.2.2.2.2.1 aA.2.2.2.2.2.2.2.1 aA.2.2.2.2.2.2.2.2)
def yt(n:Nat):CT:=cV (tC n [(8, .join [(.via 0, .box 150 (.st (.part 3 (.st (.part 1 (.box 141 (.st (.part 1 (.box 113 (.st (.part 952 (.v (.st 19)) (.part 1 (.box 185 (.v (.st 24))) (.part 320 (.v (.st 21)) (.part 1 (.row 3 1 (.int .i64)) .nil)))))) (.part 1 (.v (.int .i64)) .nil)))) (.part 1 (.v (.int .u32)) (.part 1 (.v (.int .i64)) .nil)))) (.part 1 (.v (.int .i64)) .nil))))] []),(9990000006, .join [(.via 5, .box 150 (.st (.part 3 (.st (.part 1 (.box 141 (.st (.part 1 (.box 113 (.st (.part 952 (.v (.st 19)) (.part 1 (.box 185 (.v (.st 24))) (.part 320 (.v (.st 21)) (.part 1 (.row 3 1 (.int .i64)) .nil)))))) (.part 1 (.v (.int .i64)) .nil)))) (.part 1 (.v (.int .u32)) (.part 1 (.v (.int .i64)) .nil)))) (.part 1 (.v (.int .i64)) .nil))))] []),(9990000009, .loop [(.cY 20, .v (.int .u64)),(.cY 4, .v (.int .u64)),(.frm 0 6, .box 3 (.v (.int .i64))),(.via 5, .box 150 (.st (.part 3 (.st (.part 1 (.box 141 (.st (.part 1 (.box 113 (.st (.part 952 (.v (.st 19)) (.part 1 (.box 185 (.v (.st 24))) (.part 320 (.v (.st 21)) (.part 1 (.row 3 1 (.int .i64)) .nil)))))) (.part 1 (.v (.int .i64)) .nil)))) (.part 1 (.v (.int .u32)) (.part 1 (.v (.int .i64)) .nil)))) (.part 1 (.v (.int .i64)) .nil))))]),(9990000014, .join [(.via 5, .box 150 (.st (.part 3 (.st (.part 1 (.box 141 (.st (.part 1 (.box 113 (.st (.part 952 (.v (.st 19)) (.part 1 (.box 185 (.v (.st 24))) (.part 320 (.v (.st 21)) (.part 1 (.row 3 1 (.int .i64)) .nil)))))) (.part 1 (.v (.int .i64)) .nil)))) (.part 1 (.v (.int .u32)) (.part 1 (.v (.int .i64)) .nil)))) (.part 1 (.v (.int .i64)) .nil))))] [])] [fB n,sA n,gN n] []) ⟨40,[],(.cons (.box 150 (.st (.part 3 (.st (.part 1 (.box 141 (.st (.part 1 (.box 113 (.st (.part 952 (.v (.st 19)) (.part 1 (.box 185 (.v (.st 24))) (.part 320 (.v (.st 21)) (.part 1 (.row 3 1 (.int .i64)) .nil)))))) (.part 1 (.v (.int .i64)) .nil)))) (.part 1 (.v (.int .u32)) (.part 1 (.v (.int .i64)) .nil)))) (.part 1 (.v (.int .i64)) .nil)))) (.cons (.v (.int .i64)) .nil)),(.cons (.v (.int .i64)) (.cons (.box 150 (.st (.part 3 (.st (.part 1 (.box 141 (.st (.part 1 (.box 113 (.st (.part 952 (.v (.st 19)) (.part 1 (.box 185 (.v (.st 24))) (.part 320 (.v (.st 21)) (.part 1 (.row 3 1 (.int .i64)) .nil)))))) (.part 1 (.v (.int .i64)) .nil)))) (.part 1 (.v (.int .u32)) (.part 1 (.v (.int .i64)) .nil)))) (.part 1 (.v (.int .i64)) .nil)))) .nil)),[some 0,some 1,some 2,some 3,none], .nil,[],[[0]]⟩ (λx=>jc n x.1 x.2.1 x.2.2.1 x.2.2.2.1 x.2.2.2.2.1 x.2.2.2.2.2.1 x.2.2.2.2.2.2.1 x.2.2.2.2.2.2.2.1 x.2.2.2.2.2.2.2.2.1) (λy=>(y.1,y.2.1,y.2.2.1,y.2.2.2.1,y.2.2.2.2.1,y.2.2.2.2.2.1,y.2.2.2.2.2.2.1,y.2.2.2.2.2.2.2.1,y.2.2.2.2.2.2.2.2.1)) (λz=>(z.1,(z.2.1,(z.2.2.1,(z.2.2.2.1,(z.2.2.2.2.1,(z.2.2.2.2.2.1,(z.2.2.2.2.2.2.1,(z.2.2.2.2.2.2.2.1,(z.2.2.2.2.2.2.2.2,()))))))))))
def qd(n:Nat)(cL:ae)(dc:aj)(dy:ai)(dx:(List Int))(cF:Int)(dF:Int)(dD:Int)(a1:Int)(a2:Int):Option (Int×ae×aj×ai×(List Int)×Int×Int×Int):=
bd (jc n cL dc dy dx cF dF dD 0 a1) λaA=>
bd (cK n aA.2.1 aA.2.2.1 aA.2.2.2.1 aA.2.2.2.2.1 aA.2.2.2.2.2.1 aA.2.2.2.2.2.2.1 aA.2.2.2.2.2.2.2.1 aA.2.2.2.2.2.2.2.2 (wr .i64 (aA.1+8)) a2) λaQ=>
some (aQ.2.2.2.2.2.2.2,aQ.1,aQ.2.1,aQ.2.2.1,aQ.2.2.2.1,aQ.2.2.2.2.1,dF,dD)
def EV(n:Nat):CT:=cV (tC n [] [yt n,iN n] []) ⟨43,[],(.cons (.st (.part 1 (.box 141 (.st (.part 1 (.box 113 (.st (.part 952 (.v (.st 19)) (.part 1 (.box 185 (.v (.st 24))) (.part 320 (.v (.st 21)) (.part 1 (.row 3 1 (.int .i64)) .nil)))))) (.part 1 (.v (.int .i64)) .nil)))) (.part 1 (.v (.int .u32)) (.part 1 (.v (.int .i64)) .nil)))) (.cons (.v (.int .i64)) (.cons (.v (.int .u64)) .nil))),(.cons (.v (.int .i64)) (.cons (.st (.part 1 (.box 141 (.st (.part 1 (.box 113 (.st (.part 952 (.v (.st 19)) (.part 1 (.box 185 (.v (.st 24))) (.part 320 (.v (.st 21)) (.part 1 (.row 3 1 (.int .i64)) .nil)))))) (.part 1 (.v (.int .i64)) .nil)))) (.part 1 (.v (.int .u32)) (.part 1 (.v (.int .i64)) .nil)))) .nil)),[some 0,some 1,some 2,none], .nil,[],[[0]]⟩ (λx=>qd n x.1 x.2.1 x.2.2.1 x.2.2.2.1 x.2.2.2.2.1 x.2.2.2.2.2.1 x.2.2.2.2.2.2.1 x.2.2.2.2.2.2.2.1 x.2.2.2.2.2.2.2.2.1) (λy=>(y.1,y.2.1,y.2.2.1,y.2.2.2.1,y.2.2.2.2.1,y.2.2.2.2.2.1,y.2.2.2.2.2.2.1,y.2.2.2.2.2.2.2.1)) (λz=>(z.1,(z.2.1,(z.2.2.1,(z.2.2.2.1,(z.2.2.2.2.1,(z.2.2.2.2.2.1,(z.2.2.2.2.2.2.1,(z.2.2.2.2.2.2.2,())))))))))
def tg(n:Nat)(a0:aT)(a1:Int)(a2:Int):Option (aT×Int):=
cn (((decide (a1<0))||(decide ((a0.L.length:Int)<=a1)))) (
lt (a0:aT) λaA=>
some (aA,9)) (
gu (gC 0 a0.L.length 8)<|
lt (a0.L:List Int) λaQ=>
gu (dg a1 aQ.length)<|
lt (aQ.set (Int.toNat a1) a2:List Int) λbS=>
lt (({L:=bS,rO:=a0.rO}:aT):aT) λcB=>
some (cB,0))
def Dc(n:Nat):CT:=cV (tC n [] [] []) ⟨44,[],(.cons (.v (.st 1)) (.cons (.v (.int .i64)) (.cons (.v (.int .u64)) .nil))),(.cons (.jy (.cons (.v (.st 1)) (.cons (.v (.int .i64)) .nil))) .nil),[], .nil,[],[]⟩ (λx=>tg n x.1 x.2.1 x.2.2.1) (λy=>(y.1,y.2.1)) (λz=>(z.1,(z.2,())))
def q8(n:Nat)(a0:aT):Option aT:=
eS (λk23 (aA:Int) (aQ:(List Int))=>
cn (decide (0<=aA)) (
gu (dg aA a0.L.length)<|
gu (gC aQ.length [(a0.L.getD (Int.toNat aA) default)].length 8)<|
lt (aQ++[(a0.L.getD (Int.toNat aA) default)]:List Int) λcB=>
k23 (wr .i64 (aA-1)) cB) (
lt (({L:=aQ,rO:=a0.rO}:aT):aT) λdS=>
some (dS))) n (wr .i64 ((a0.L.length:Int)-1)) []
def BR(n:Nat):CT:=cV (tC n [(7, .loop [(.cY 4, .v (.int .i64)),(.cY 3, .row 33 1 (.int .u64))])] [] []) ⟨45,[],(.cons (.v (.st 1)) .nil),(.cons (.v (.st 1)) .nil),[], .nil,[],[]⟩ (λx=>q8 n x.1) (λy=>(y.1)) (λz=>(z,()))
def kU(n:Nat)(cL:ae)(dc:aj)(dy:ai)(dx:(List Int))(cF:Int)(dF:Int)(dD:Int)(a1:Int):Option (Int×Int×ae×aj×ai×(List Int)×Int×Int×Int):=
bd (jc n cL dc dy dx cF dF dD 0 a1) λaA=>
bd (cz n aA.2.1 aA.2.2.1 aA.2.2.2.1 aA.2.2.2.2.1 aA.2.2.2.2.2.1 aA.2.2.2.2.2.2.1 aA.2.2.2.2.2.2.2.1 aA.2.2.2.2.2.2.2.2 (wr .i64 (aA.1+8))) λaQ=>
lt (aQ.1:Int) λbS=>
lt (λ(cB:Int)=>
lt (cB:Int) λeP=>
some (eP,aQ.2.2.2.2.2.2.2.2,aQ.2.1,aQ.2.2.1,aQ.2.2.2.1,aQ.2.2.2.2.1,aQ.2.2.2.2.2.1,dF,dD)) λj25=>
cn ((aQ.2.2.2.2.2.2.2.2!=0)) (
j25 0) (
j25 bS)
def EW(n:Nat):CT:=cV (tC n [(8, .join [(.via 4, .box 33 (.v (.int .u64)))] [])] [yt n,gN n] []) ⟨13,[],(.cons (.st (.part 1 (.box 141 (.st (.part 1 (.box 113 (.st (.part 952 (.v (.st 19)) (.part 1 (.box 185 (.v (.st 24))) (.part 320 (.v (.st 21)) (.part 1 (.row 3 1 (.int .i64)) .nil)))))) (.part 1 (.v (.int .i64)) .nil)))) (.part 1 (.v (.int .u32)) (.part 1 (.v (.int .i64)) .nil)))) (.cons (.v (.int .i64)) .nil)),(.cons (.jy (.cons (.v (.int .u64)) (.cons (.v (.int .i64)) .nil))) (.cons (.st (.part 1 (.box 141 (.st (.part 1 (.box 113 (.st (.part 952 (.v (.st 19)) (.part 1 (.box 185 (.v (.st 24))) (.part 320 (.v (.st 21)) (.part 1 (.row 3 1 (.int .i64)) .nil)))))) (.part 1 (.v (.int .i64)) .nil)))) (.part 1 (.v (.int .u32)) (.part 1 (.v (.int .i64)) .nil)))) .nil)),[some 0,some 1,some 2,none], .nil,[],[[0]]⟩ (λx=>kU n x.1 x.2.1 x.2.2.1 x.2.2.2.1 x.2.2.2.2.1 x.2.2.2.2.2.1 x.2.2.2.2.2.2.1 x.2.2.2.2.2.2.2.1) (λy=>(y.1,y.2.1,y.2.2.1,y.2.2.2.1,y.2.2.2.2.1,y.2.2.2.2.2.1,y.2.2.2.2.2.2.1,y.2.2.2.2.2.2.2.1,y.2.2.2.2.2.2.2.2.1)) (λz=>(z.1,(z.2.1,(z.2.2.1,(z.2.2.2.1,(z.2.2.2.2.1,(z.2.2.2.2.2.1,(z.2.2.2.2.2.2.1,(z.2.2.2.2.2.2.2.1,(z.2.2.2.2.2.2.2.2,()))))))))))
def tn(n:Nat)(a0:aT)(a1:Int):Option (Int×Int):=
cn (((decide (a1<0))||(decide ((a0.L.length:Int)<=a1)))) (
some (0,9)) (
gu (dg a1 a0.L.length)<|
some ((a0.L.getD (Int.toNat a1) default),0))
def De(n:Nat):CT:=cV (tC n [] [] []) ⟨46,[],(.cons (.v (.st 1)) (.cons (.v (.int .i64)) .nil)),(.cons (.jy (.cons (.v (.int .u64)) (.cons (.v (.int .i64)) .nil))) .nil),[], .nil,[],[]⟩ (λx=>tn n x.1 x.2.1) (λy=>(y.1,y.2.1)) (λz=>(z.1,(z.2,())))
def q9(n:Nat)(a0:aT)(a1:Int):Option aT:=
gu (gC 0 a0.L.length 8)<|
lt (a0.L:List Int) λaA=>
gu (gC aA.length [a1].length 8)<|
lt (aA++[a1]:List Int) λaQ=>
bd (pQ n a0 aQ) λbS=>
lt (bS:aT) λcB=>
some (cB)
def BS(n:Nat):CT:=cV (tC n [] [sO n] []) ⟨47,[],(.cons (.v (.st 1)) (.cons (.v (.int .u64)) .nil)),(.cons (.v (.st 1)) .nil),[], .nil,[],[]⟩ (λx=>q9 n x.1 x.2.1) (λy=>(y.1)) (λz=>(z,()))
def wJ(n:Nat)(cL:ae)(dc:aj)(dy:ai)(dx:(List Int))(cF:Int)(dF:Int)(dD:Int)(a1:aT)(a2:fC):Option (aT×Bool×ae×aj×ai×(List Int)×Int×Int×Int):=
lt (a1:aT) λaA=>
lt (λ(aQ:Int) (bS:Int) (cB:Int) (dS:Int) (eP:ae) (dk:aj) (eH:ai) (gM:(List Int)) (ep:Int) (dP:Int) (jo:Int) (eV:aT)=>
cn (((dS==6)&&(decide (a1.rO<eV.rO)))) (
lt (a1:aT) λfR=>
some (fR,true,eP,dk,eH,gM,ep,dF,dD)) (
lt (eV:aT) λjx=>
some (jx,((dS==cB)&&(bS==aQ)),eP,dk,eH,gM,ep,dF,dD))) λYQ=>
cn ((a2.Do==0)) (
bd (kQ n cL dc dy dx cF dF dD a2.V) λdV=>
bd (pR n a1 a2.V) λjk=>
lt (jk:aT) λgR=>
YQ 0 0 0 dV.1 dV.2.1 dV.2.2.1 dV.2.2.2.1 dV.2.2.2.2.1 dV.2.2.2.2.2.1 dF dD gR) (
cn ((a2.Do==1)) (
bd (jr n cL dc dy dx cF dF dD) λmU=>
bd (tj n a1) λgF=>
lt (gF.1:aT) λlJ=>
YQ gF.2.1 mU.1 gF.2.2 mU.2.1 mU.2.2.1 mU.2.2.2.1 mU.2.2.2.2.1 mU.2.2.2.2.2.1 mU.2.2.2.2.2.2.1 dF dD lJ) (
cn ((a2.Do==2)) (
bd (qd n cL dc dy dx cF dF dD a2.I a2.V) λv7=>
bd (tg n a1 a2.I a2.V) λv5=>
lt (v5.1:aT) λIU=>
YQ 0 0 v5.2 v7.1 v7.2.1 v7.2.2.1 v7.2.2.2.1 v7.2.2.2.2.1 v7.2.2.2.2.2.1 dF dD IU) (
cn ((a2.Do==3)) (
bd (mh n cL dc dy dx cF dF dD) λvj=>
bd (q8 n a1) λFw=>
lt (Fw:aT) λzY=>
YQ 0 0 0 vj.1 vj.2.1 vj.2.2.1 vj.2.2.2.1 vj.2.2.2.2.1 vj.2.2.2.2.2.1 dF dD zY) (
cn ((a2.Do==4)) (
bd (kU n cL dc dy dx cF dF dD a2.I) λqW=>
bd (tn n a1 a2.I) λua=>
YQ ua.1 qW.1 ua.2 qW.2.1 qW.2.2.1 qW.2.2.2.1 qW.2.2.2.2.1 qW.2.2.2.2.2.1 qW.2.2.2.2.2.2.1 dF dD aA) (
bd (jN n cL dc dy dx cF dF dD a2.V) λC6=>
bd (q9 n a1 a2.V) λJU=>
lt (JU:aT) λym=>
YQ 0 0 0 C6.1 C6.2.1 C6.2.2.1 C6.2.2.2.1 C6.2.2.2.2.1 C6.2.2.2.2.2.1 dF dD ym)))))
def JZ(n:Nat):CT:=cV (tC n [(44, .join [(.cY 12, .v (.int .u64)),(.cY 11, .v (.int .u64)),(.cY 10, .v (.int .i64)),(.cY 9, .v (.int .i64)),(.via 3, .box 27 (.st (.part 1 (.box 141 (.st (.part 1 (.box 113 (.st (.part 952 (.v (.st 19)) (.part 1 (.box 185 (.v (.st 24))) (.part 320 (.v (.st 21)) (.part 1 (.row 3 1 (.int .i64)) .nil)))))) (.part 1 (.v (.int .i64)) .nil)))) (.part 1 (.v (.int .u32)) (.part 1 (.v (.int .i64)) .nil))))),(.via 8, .box 44 (.v (.st 1)))] [])] [ud n,A2 n,xd n,Dd n,EV n,Dc n,vr n,BR n,EW n,De n,vt n,BS n] []) ⟨14,[],(.cons (.st (.part 1 (.box 141 (.st (.part 1 (.box 113 (.st (.part 952 (.v (.st 19)) (.part 1 (.box 185 (.v (.st 24))) (.part 320 (.v (.st 21)) (.part 1 (.row 3 1 (.int .i64)) .nil)))))) (.part 1 (.v (.int .i64)) .nil)))) (.part 1 (.v (.int .u32)) (.part 1 (.v (.int .i64)) .nil)))) (.cons (.v (.st 1)) (.cons (.v (.st 0)) .nil))),(.cons (.jy (.cons (.v (.st 1)) (.cons (.v .bool) .nil))) (.cons (.st (.part 1 (.box 141 (.st (.part 1 (.box 113 (.st (.part 952 (.v (.st 19)) (.part 1 (.box 185 (.v (.st 24))) (.part 320 (.v (.st 21)) (.part 1 (.row 3 1 (.int .i64)) .nil)))))) (.part 1 (.v (.int .i64)) .nil)))) (.part 1 (.v (.int .u32)) (.part 1 (.v (.int .i64)) .nil)))) .nil)),[some 0,some 1,some 2,none], .nil,[],[[0]]⟩ (λx=>wJ n x.1 x.2.1 x.2.2.1 x.2.2.2.1 x.2.2.2.2.1 x.2.2.2.2.2.1 x.2.2.2.2.2.2.1 x.2.2.2.2.2.2.2.1 x.2.2.2.2.2.2.2.2.1) (λy=>(y.1,y.2.1,y.2.2.1,y.2.2.2.1,y.2.2.2.2.1,y.2.2.2.2.2.1,y.2.2.2.2.2.2.1,y.2.2.2.2.2.2.2.1,y.2.2.2.2.2.2.2.2.1)) (λz=>(z.1,(z.2.1,(z.2.2.1,(z.2.2.2.1,(z.2.2.2.2.1,(z.2.2.2.2.2.1,(z.2.2.2.2.2.2.1,(z.2.2.2.2.2.2.2.1,(z.2.2.2.2.2.2.2.2,()))))))))))
def tB(n:Nat)(a0:(List fC)):Option Bool:=
cn (decide (80<(a0.length:Int))) (
bd (uB n) λaA=>
some (aA)) (
bd (Ca n 64) λaQ=>
bd (uy n) λbS=>
bd (cI n bS ({({jX with n:=64}:aj)with dX:=aQ}:aj) bA [] 0 ({({eF with Do:=1}:aC)with A:=wr .u32 64}:aC)) λcB=>
lt (cB.1:ah) λdS=>
bd (ef n cB.2.1 cB.2.2.1 cB.2.2.2.1 cB.2.2.2.2.1 cB.2.2.2.2.2 dS.W 32 8) λeP=>
cn ((eP.2.1!=0)) (
cn ((!((dS.E==0)&&(eP.2.1==0)))) (
some (false)) (
none)) (
cn ((!((dS.E==0)&&true))) (
some (false)) (
wH (λIc (dk:Int) (eH:Int) (gM:Int) (ep:ae) (dP:aj) (jo:ai) (eV:(List Int)) (cJ:Int) (fR:Int) (jx:Int)=>
cn (decide (dk<(a0.length:Int))) (
gu (dg dk a0.length)<|
gu (dg dk a0.length)<|
bd (wJ n ep dP jo eV cJ fR jx kF ({Do:=(a0.getD (Int.toNat dk) default).Do,I:=(-1),V:=(a0.getD (Int.toNat dk) default).V}:fC)) λjk=>
lt (jk.1:aT) λ_=>
bd (nn n jk.2.2.1 jk.2.2.2.1 jk.2.2.2.2.1 jk.2.2.2.2.2.1 jk.2.2.2.2.2.2.1 fR jx) λmU=>
gu (!(((((mU.2.1!=0)||(decide (mU.1<(wr .i64 (gM-1)))))||(decide ((wr .i64 (gM+1))<mU.1)))==false)&&((jk.2.1&&(mU.1!=gM))==true))||dg dk a0.length)<|
gu (!(((((mU.2.1!=0)||(decide (mU.1<(wr .i64 (gM-1)))))||(decide ((wr .i64 (gM+1))<mU.1)))==false)&&(((jk.2.1&&(mU.1!=gM))&&(decide (1<((a0.getD (Int.toNat dk) default).Do))))==true))||dg dk a0.length)<|
cn (((((mU.2.1!=0)||(decide (mU.1<(wr .i64 (gM-1)))))||(decide ((wr .i64 (gM+1))<mU.1)))||(((jk.2.1&&(mU.1!=gM))&&(decide (1<((a0.getD (Int.toNat dk) default).Do))))&&(decide (((a0.getD (Int.toNat dk) default).Do)<5))))) (
some (false)) (
Ic (wr .i64 (dk+1)) (if eH<mU.1 then mU.1 else eH) mU.1 mU.2.2.1 mU.2.2.2.1 mU.2.2.2.2.1 mU.2.2.2.2.2.1 mU.2.2.2.2.2.2.1 fR jx)) (
bd (gJ n eV) λ_=>
bd (dW n ep.dH.T fR) λlJ=>
lt (lJ.1:aL) λv7=>
cl ((((lJ.2==0)&&(v7.E.dZ==(wr .i64 (32+(wr .i64 (eH*16))))))==true)) (uB n) default λv5=>
some ((((lJ.2==0)&&(v7.E.dZ==(wr .i64 (32+(wr .i64 (eH*16))))))&&v5)))) n 0 0 0 eP.2.2.1 eP.2.2.2.1 eP.2.2.2.2.1 eP.2.2.2.2.2.1 eP.2.2.2.2.2.2 dS.W eP.1)))
def Dp(n:Nat):CT:=cV (tC n [(17, .loop [(.cY 7, .v (.int .i64)),(.cY 6, .v (.int .i64)),(.cY 5, .v (.int .i64)),(.via 3, .box 27 (.st (.part 1 (.box 141 (.st (.part 1 (.box 113 (.st (.part 952 (.v (.st 19)) (.part 1 (.box 185 (.v (.st 24))) (.part 320 (.v (.st 21)) (.part 1 (.row 3 1 (.int .i64)) .nil)))))) (.part 1 (.v (.int .i64)) .nil)))) (.part 1 (.v (.int .u32)) (.part 1 (.v (.int .i64)) .nil)))))])] [Ip n,IX n,AH n,sV n,qX n,JZ n,xe n,Ab n,eR n] []) ⟨6,[],(.cons (.v (.sl (.st 0))) .nil),(.cons (.v .bool) .nil),[], .nil,[],[]⟩ (λx=>tB n x.1) (λy=>(y.1)) (λz=>(z,()))
end
end Go.Proofs.Z
