/- Part 14 of what a proof leans on; pruned and shortened by a program out of longer texts. -/
import Derived.Test.YtgdmofhmmhcmjaaGreatDoorQ13
namespace Go.Proofs.Z
open Go Go.Bw Go.Rw Go.RowKit
noncomputable section
abbrev tC(n:Nat)(h:List (Nat×Hn))(cs:List CT)(YN:List (It Tryz.prog sg)):xB Tryz.prog sg:=ahe tt zt n h cs YN eks
def fY(n:Nat)(a0:ae)(a1:Int)(a2:aC):Option Int:=
bd (bJ n a0 a1 a2) λaA=>
cn (decide (0<aA)) (
some (0)) (
bd (cq n a0 a1 a2 aB) λaQ=>
lt (aQ.1:ae) λ_=>
lt (aQ.2.1:ah) λcB=>
some (cB.E))
def BV(n:Nat):CT:=cV (tC n [] [mY n,vo n] []) ⟨70,[],(.cons (.v (.st 19)) (.cons (.v (.int .i64)) (.cons (.v (.st 3)) .nil))),(.cons (.v (.int .i64)) .nil),[], .nil,[],[]⟩ (λx=>fY n x.1 x.2.1 x.2.2.1) (λy=>(y.1)) (λz=>(z,()))
def pS(n:Nat)(a0:ae)(a1:Int)(a2:aC):Option Bool:=
cl (((a2.Do==15)==true)) (fY n a0 a1 a2) default λaA=>
some (((a2.Do==15)&&(aA==10)))
def BU(n:Nat):CT:=cV (tC n [] [BV n] []) ⟨64,[],(.cons (.v (.st 19)) (.cons (.v (.int .i64)) (.cons (.v (.st 3)) .nil))),(.cons (.v .bool) .nil),[], .nil,[],[]⟩ (λx=>pS n x.1 x.2.1 x.2.2.1) (λy=>(y.1)) (λz=>(z,()))
def fg(n:Nat)(cL:ae)(dc:aj)(dy:ai)(dx:(List Int))(a1:av):Option (ae×aj×ai×(List Int)):=
xq (λk26 (aA:Int) (aQ:ae) (bS:aj) (cB:ai) (dS:(List Int))=>
cn (decide (aA<a1.N)) (
gu (gC dS.length [wr .i64 (a1.At+aA)].length 8)<|
lt (dS++[wr .i64 (a1.At+aA)]:List Int) λdk=>
k26 (wr .i64 (aA+1)) aQ bS cB dk) (
some (aQ,bS,cB,dS))) n 0 cL dc dy dx
def ud(n:Nat):CT:=cV (tC n [(5, .loop [(.cY 7, .v (.int .i64)),(.via 0, .box 113 (.st (.part 952 (.v (.st 19)) (.part 1 (.box 185 (.v (.st 24))) (.part 320 (.v (.st 21)) (.part 1 (.row 3 1 (.int .i64)) .nil))))))])] [] []) ⟨76,[],(.cons (.box 113 (.st (.part 952 (.v (.st 19)) (.part 1 (.box 185 (.v (.st 24))) (.part 320 (.v (.st 21)) (.part 1 (.row 3 1 (.int .i64)) .nil)))))) (.cons (.v (.st 4)) .nil)),(.cons (.jy .nil) (.cons (.box 113 (.st (.part 952 (.v (.st 19)) (.part 1 (.box 185 (.v (.st 24))) (.part 320 (.v (.st 21)) (.part 1 (.row 3 1 (.int .i64)) .nil)))))) .nil)),[some 0,some 1,none], .nil,[],[[0]]⟩ (λx=>fg n x.1 x.2.1 x.2.2.1 x.2.2.2.1 x.2.2.2.2.1) (λy=>(y.1,y.2.1,y.2.2.1,y.2.2.2.1)) (λz=>(z.1,(z.2.1,(z.2.2.1,(z.2.2.2,())))))
def vI(n:Nat)(a0:Int)(a1:Int):Option Bool:=
some (((((decide (0<=a0))&&(decide (a0<32)))&&(decide (0<=a1)))&&(decide (a1<8))))
def A2(n:Nat):CT:=cV (tC n [] [] []) ⟨96,[],(.cons (.v (.int .i64)) (.cons (.v (.int .i64)) .nil)),(.cons (.v .bool) .nil),[], .nil,[],[]⟩ (λx=>vI n x.1 x.2.1) (λy=>(y.1)) (λz=>(z,()))
def nH(n:Nat)(a0:ai)(a1:Int)(a2:Int):Option ai:=
lt (λ(aA:ai)=>
lt (aA:ai) λbS=>
some (bS)) λXe=>
bd (vI n a1 a2) λcB=>
gu (!(cB==true)||dg a1 32)<|
cn ((cB&&((wr .i64 ((a0.bq (Int.toNat a1)).E0))==(wr .i64 (a2+1))))) (
gu (dg a1 32)<|
lt (({a0 with bq:=(iD a0.bq (Int.toNat a1) ({(a0.bq (Int.toNat a1))with E0:=0}:cj))}:ai):ai) λdS=>
Xe dS) (
Xe a0)
def BZ(n:Nat):CT:=cV (tC n [(6, .join [(.via 3, .box 110 (.v (.st 21)))] [])] [A2 n] []) ⟨95,[],(.cons (.v (.st 21)) (.cons (.v (.int .i64)) (.cons (.v (.int .i64)) .nil))),(.cons (.v (.st 21)) .nil),[], .nil,[],[]⟩ (λx=>nH n x.1 x.2.1 x.2.2.1) (λy=>(y.1)) (λz=>(z,()))
def uj(n:Nat)(a0:(List Int))(a1:Int):Option Int:=
iw (λk22 (aA:Int)=>
cn (decide (aA<(a0.length:Int))) (
gu (dg aA a0.length)<|
cn ((a1==(a0.getD (Int.toNat aA) default))) (
some (aA)) (
k22 (wr .i64 (aA+1)))) (
some ((-1)))) n 0
def z7(n:Nat):CT:=cV (tC n [(5, .loop [(.cY 8, .v (.int .i64))])] [] []) ⟨130,[],(.cons (.v (.sl (.int .u8))) (.cons (.v (.int .u8)) .nil)),(.cons (.v (.int .i64)) .nil),[], .nil,[],[]⟩ (λx=>uj n x.1 x.2.1) (λy=>(y.1)) (λz=>(z,()))
def kP(n:Nat)(a0:cj)(a1:Int):Option Int:=
gu (dg a0.n 9)<|
bd (uj n ((List.range (Int.toNat a0.n)).map a0.EM) (wr .u8 a1)) λaA=>
some (aA)
def ua(n:Nat):CT:=cV (tC n [(1000008, .J7)] [z7 n] []) ⟨112,[],(.cons (.v (.st 20)) (.cons (.v (.int .i64)) .nil)),(.cons (.v (.int .i64)) .nil),[], .nil,[],[]⟩ (λx=>kP n x.1 x.2.1) (λy=>(y.1)) (λz=>(z,()))
def jb(n:Nat)(a0:cj)(a1:Int):Option cj:=
bd (kP n a0 a1) λaA=>
cn (decide (aA<0)) (
lt (a0:cj) λaQ=>
some (aQ)) (
gu (dg aA 9)<|
gu (dg (wr .i64 (aA+1)) 9)<|
lt (({a0 with EM:=cpA (Int.toNat aA) (Int.toNat (wr .i64 (aA+1))) 8 a0.EM}:cj):cj) λbS=>
lt (({bS with n:=wr .i64 (bS.n-1)}:cj):cj) λcB=>
gu (dg cB.n 8)<|
lt (({cB with EM:=(iD cB.EM (Int.toNat cB.n) 0)}:cj):cj) λdS=>
lt (dS:cj) λeP=>
some (eP))
def rF(n:Nat):CT:=cV (tC n [] [ua n] []) ⟨97,[],(.cons (.v (.st 20)) (.cons (.v (.int .i64)) .nil)),(.cons (.v (.st 20)) .nil),[], .nil,[],[]⟩ (λx=>jb n x.1 x.2.1) (λy=>(y.1)) (λz=>(z,()))
def da(n:Nat)(a0:ai)(a1:Int):Option ai:=
eS (λk23 (aA:Int) (aQ:ai)=>
cn (decide (aA<32)) (
lt (λ(cB:ai)=>
k23 (wr .i64 (aA+1)) cB) λj25=>
bd (nH n aQ aA a1) λeP=>
lt (eP:ai) λdk=>
bd (vI n aA a1) λeH=>
cn (eH) (
gu (dg aA 32)<|
bd (jb n (dk.bq (Int.toNat aA)) a1) λgM=>
gu (dg aA 32)<|
lt (({dk with bq:=(iD dk.bq (Int.toNat aA) gM)}:ai):ai) λep=>
j25 ep) (
j25 dk)) (
lt (aQ:ai) λdP=>
some (dP))) n 0 a0
def BY(n:Nat):CT:=cV (tC n [(5, .loop [(.cY 6, .v (.int .i64)),(.via 2, .box 110 (.v (.st 21)))]),(14, .join [(.via 2, .box 110 (.v (.st 21)))] [])] [BZ n,A2 n,rF n] []) ⟨77,[],(.cons (.v (.st 21)) (.cons (.v (.int .i64)) .nil)),(.cons (.v (.st 21)) .nil),[], .nil,[],[]⟩ (λx=>da n x.1 x.2.1) (λy=>(y.1)) (λz=>(z,()))
def kW(n:Nat)(cL:ae)(dc:aj)(dy:ai)(dx:(List Int))(a1:aF):Option (ae×aj×ai×(List Int)):=
bd (fg n cL dc dy dx a1.xY) λaA=>
bd (da n aA.2.2.1 a1.jU) λaQ=>
lt (aQ:ai) λbS=>
some (aA.1,aA.2.1,bS,aA.2.2.2)
def xg(n:Nat):CT:=cV (tC n [] [ud n,BY n] []) ⟨66,[],(.cons (.box 113 (.st (.part 952 (.v (.st 19)) (.part 1 (.box 185 (.v (.st 24))) (.part 320 (.v (.st 21)) (.part 1 (.row 3 1 (.int .i64)) .nil)))))) (.cons (.v (.st 22)) .nil)),(.cons (.jy .nil) (.cons (.box 113 (.st (.part 952 (.v (.st 19)) (.part 1 (.box 185 (.v (.st 24))) (.part 320 (.v (.st 21)) (.part 1 (.row 3 1 (.int .i64)) .nil)))))) .nil)),[some 0,some 1,none], .nil,[],[[0]]⟩ (λx=>kW n x.1 x.2.1 x.2.2.1 x.2.2.2.1 x.2.2.2.2.1) (λy=>(y.1,y.2.1,y.2.2.1,y.2.2.2.1)) (λz=>(z.1,(z.2.1,(z.2.2.1,(z.2.2.2,())))))
def eU(n:Nat)(cL:ae)(dc:aj)(dy:ai)(dx:(List Int))(cF:aF)(dF:ah)(dD:Bool)(a1:ah):Option (ae×aj×ai×(List Int)×aF×ah×Bool):=
lt (a1:ah) λaA=>
bd (kW n cL dc dy dx cF) λaQ=>
some (aQ.1,aQ.2.1,aQ.2.2.1,aQ.2.2.2,cF,aA,true)
def mZ(n:Nat):CT:=cV (tC n [] [xg n] []) ⟨84,[],(.cons (.box 173 (.st (.part 1 (.box 113 (.st (.part 952 (.v (.st 19)) (.part 1 (.box 185 (.v (.st 24))) (.part 320 (.v (.st 21)) (.part 1 (.row 3 1 (.int .i64)) .nil)))))) (.part 12 (.v (.st 22)) (.part 3 (.v (.st 2)) (.part 1 (.v .bool) .nil)))))) (.cons (.v (.st 2)) .nil)),(.cons (.jy .nil) (.cons (.box 173 (.st (.part 1 (.box 113 (.st (.part 952 (.v (.st 19)) (.part 1 (.box 185 (.v (.st 24))) (.part 320 (.v (.st 21)) (.part 1 (.row 3 1 (.int .i64)) .nil)))))) (.part 12 (.v (.st 22)) (.part 3 (.v (.st 2)) (.part 1 (.v .bool) .nil)))))) .nil)),[some 0,some 1,some 2,none], .nil,[],[[0]]⟩ (λx=>eU n x.1 x.2.1 x.2.2.1 x.2.2.2.1 x.2.2.2.2.1 x.2.2.2.2.2.1 x.2.2.2.2.2.2.1 x.2.2.2.2.2.2.2.1) (λy=>(y.1,y.2.1,y.2.2.1,y.2.2.2.1,y.2.2.2.2.1,y.2.2.2.2.2.1,y.2.2.2.2.2.2.1)) (λz=>(z.1,(z.2.1,(z.2.2.1,(z.2.2.2.1,(z.2.2.2.2.1,(z.2.2.2.2.2.1,(z.2.2.2.2.2.2,()))))))))
def iU(n:Nat)(a0:ae)(a1:Int):Option (List Int):=
bd (aJ n a0.dH.T.fE.kS a1) λaA=>
cn ((!aA)) (
some ([])) (
some ([a1]))
def Ng(n:Nat):CT:=cV (tC n [] [aR n] []) ⟨104,[],(.cons (.v (.st 19)) (.cons (.v (.int .u32)) .nil)),(.cons (.row 25 1 (.int .u32)) .nil),[none], .nil,[],[]⟩ (λx=>iU n x.1 x.2.1) (λy=>(y.1)) (λz=>(z,()))
def iu(n:Nat)(a0:ax)(a1:Int):Option (List Int):=
bd (aJ n a0.fE.kS a1) λaA=>
cn ((!aA)) (
some ([])) (
bd (o9 n a0 a1) λaQ=>
bd (mq n aQ.1 aQ.2) λeP=>
xJ (λ(e25:Int) k24 (bS:(List Int))=>
gu (gC bS.length [e25].length 4)<|
lt (bS++[e25]:List Int) λeH=>
k24 eH) (λ(bS:(List Int))=>
some (bS)) eP [])
def Dd(n:Nat):CT:=cV (tC n [(150050000005, .loop [(.via 2, .box 156 (.row 25 1 (.int .u32)))])] [aR n,oF n] [mQ n]) ⟨106,[],(.cons (.v (.st 10)) (.cons (.v (.int .u32)) .nil)),(.cons (.row 25 1 (.int .u32)) .nil),[none], .nil,[],[]⟩ (λx=>iu n x.1 x.2.1) (λy=>(y.1)) (λz=>(z,()))
def rJ(n:Nat)(a0:(List Int))(a1:Int):Option (Int×(List Int)):=
iw (λk22 (aA:Int)=>
cn (decide (aA<(a0.length:Int))) (
gu (dg aA a0.length)<|
cn ((a1==(a0.getD (Int.toNat aA) default))) (
some (aA,a0)) (
k22 (wr .i64 (aA+1)))) (
some ((-1),a0))) n 0
def xD(n:Nat):CT:=cV (tC n [(5, .loop [(.cY 8, .v (.int .i64))])] [] []) ⟨129,[],(.cons (.row 25 1 (.int .u32)) (.cons (.v (.int .u32)) .nil)),(.cons (.v (.int .i64)) (.cons (.row 25 1 (.int .u32)) .nil)),[some 0], .nil,[],[[0]]⟩ (λx=>rJ n x.1 x.2.1) (λy=>(y.1,y.2.1)) (λz=>(z.1,(z.2,())))
def oR(n:Nat)(a0:(List Int))(a1:Int):Option (Bool×(List Int)):=
bd (rJ n a0 a1) λaA=>
some (decide (0<=aA.1),aA.2)
def uN(n:Nat):CT:=cV (tC n [] [xD n] []) ⟨108,[],(.cons (.row 25 1 (.int .u32)) (.cons (.v (.int .u32)) .nil)),(.cons (.v .bool) (.cons (.row 25 1 (.int .u32)) .nil)),[some 0], .nil,[],[[0]]⟩ (λx=>oR n x.1 x.2.1) (λy=>(y.1,y.2.1)) (λz=>(z.1,(z.2,())))
def kr(n:Nat)(a0:ae)(a1:aC):Option (List Int):=
cn (a1.Do==1) (
bd (iU n a0 a1.R) λlJ=>
some (lJ)) (
cn (a1.Do==2) (
bd (iU n a0 a1.R) λgF=>
some (gF)) (
cn (a1.Do==3) (
bd (iU n a0 a1.R) λmU=>
some (mU)) (
cn (a1.Do==4) (
bd (iU n a0 a1.R) λgR=>
some (gR)) (
cn (a1.Do==5) (
bd (iU n a0 a1.R) λjk=>
some (jk)) (
cn (a1.Do==10) (
bd (iU n a0 a1.R) λdV=>
some (dV)) (
cn (a1.Do==12) (
bd (iU n a0 a1.R) λjx=>
some (jx)) (
cn (a1.Do==18) (
bd (iU n a0 a1.R) λfR=>
some (fR)) (
cn (a1.Do==19) (
bd (iU n a0 a1.R) λcJ=>
some (cJ)) (
cn (a1.Do==6) (
bd (iu n a0.dH.T a1.R) λeV=>
some (eV)) (
cn (a1.Do==7) (
bd (iu n a0.dH.T a1.R) λjo=>
some (jo)) (
cn (a1.Do==9) (
bd (iu n a0.dH.T a1.R) λdP=>
some (dP)) (
cn (a1.Do==11) (
bd (iu n a0.dH.T a1.R) λep=>
some (ep)) (
cn (a1.Do==8) (
bd (iu n a0.dH.T a1.R) λeP=>
cl ((((eP.length:Int)==0)==false)) (aJ n a0.dH.T.fE.kS a1.S) default λdk=>
cn ((((eP.length:Int)==0)||(!dk))) (
some ([])) (
bd (oR n eP a1.S) λeH=>
cn (eH.1) (
some (eH.2)) (
gu (gC eH.2.length [a1.S].length 4)<|
lt (eH.2++[a1.S]:List Int) λgM=>
some (gM)))) (
cn (a1.Do==13) (
bd (cW n a0.dH.K a1.S) λbS=>
lt (bS.1:bB) λcB=>
cn ((bS.2!=0)) (
some ([])) (
bd (iU n a0 cB.Region) λdS=>
some (dS))) (
cn (a1.Do==14) (
cn ((a1.B==1)) (
bd (iU n a0 a1.R) λaA=>
some (aA)) (
bd (iu n a0.dH.T a1.R) λaQ=>
some (aQ))) (
some ([])))))))))))))))))
def F4(n:Nat):CT:=cV (tC n [] [Ng n,Dd n,ez n,aR n,uN n] []) ⟨85,[],(.cons (.v (.st 19)) (.cons (.v (.st 3)) .nil)),(.cons (.v (.sl (.int .u32))) .nil),[], .nil,[],[]⟩ (λx=>kr n x.1 x.2.1) (λy=>(y.1)) (λz=>(z,()))
def eD(n:Nat)(cL:ae)(dc:aj)(dy:ai)(dx:(List Int))(cF:aF)(dF:ah)(dD:Bool):Option (Bool×ae×aj×ai×(List Int)×aF×ah×Bool):=
cn (cF.Checked) (
some (false,cL,dc,dy,dx,cF,dF,dD)) (
bd (pS n cL cF.jU cF.C) λaA=>
cn (aA) (
some (true,cL,dc,dy,dx,cF,dF,dD)) (
bd (fY n cL cF.jU cF.C) λaQ=>
cn ((aQ !=0)) (
bd (eU n cL dc dy dx cF dF dD ({ay with E:=aQ}:ah)) λbS=>
some (true,bS.1,bS.2.1,bS.2.2.1,bS.2.2.2.1,bS.2.2.2.2.1,bS.2.2.2.2.2.1,bS.2.2.2.2.2.2)) (
bd (kr n cL cF.C) λcB=>
lt (({cF with Checked:=true}:aF):aF) λdS=>
lt (({dS with ew:=cB}:aF):aF) λeP=>
some (true,cL,dc,dy,dx,eP,dF,dD))))
def yu(n:Nat):CT:=cV (tC n [] [BU n,BV n,mZ n,F4 n] []) ⟨71,[],(.cons (.box 173 (.st (.part 1 (.box 113 (.st (.part 952 (.v (.st 19)) (.part 1 (.box 185 (.v (.st 24))) (.part 320 (.v (.st 21)) (.part 1 (.row 3 1 (.int .i64)) .nil)))))) (.part 12 (.v (.st 22)) (.part 3 (.v (.st 2)) (.part 1 (.v .bool) .nil)))))) .nil),(.cons (.v .bool) (.cons (.box 173 (.st (.part 1 (.box 113 (.st (.part 952 (.v (.st 19)) (.part 1 (.box 185 (.v (.st 24))) (.part 320 (.v (.st 21)) (.part 1 (.row 3 1 (.int .i64)) .nil)))))) (.part 12 (.v (.st 22)) (.part 3 (.v (.st 2)) (.part 1 (.v .bool) .nil)))))) .nil)),[some 0,some 1,some 2,none], .nil,[],[[0]]⟩ (λx=>eD n x.1 x.2.1 x.2.2.1 x.2.2.2.1 x.2.2.2.2.1 x.2.2.2.2.2.1 x.2.2.2.2.2.2.1) (λy=>(y.1,y.2.1,y.2.2.1,y.2.2.2.1,y.2.2.2.2.1,y.2.2.2.2.2.1,y.2.2.2.2.2.2.1,y.2.2.2.2.2.2.2.1)) (λz=>(z.1,(z.2.1,(z.2.2.1,(z.2.2.2.1,(z.2.2.2.2.1,(z.2.2.2.2.2.1,(z.2.2.2.2.2.2.1,(z.2.2.2.2.2.2.2,())))))))))
def o5(n:Nat)(a0:ai)(a1:Int)(a2:Int):Option (ai×Bool):=
bd (vI n a1 a2) λaA=>
cn ((!aA)) (
lt (a0:ai) λaQ=>
some (aQ,false)) (
gu (dg a1 32)<|
lt (λ(bS:ai) (cB:ai)=>
lt (cB:ai) λeP=>
some (eP,false)) λj25=>
bd (kP n (a0.bq (Int.toNat a1)) a2) λdk=>
cn (((wr .i64 ((a0.bq (Int.toNat a1)).E0))==(wr .i64 (a2+1)))) (
lt (a0:ai) λeH=>
some (eH,true)) (
cn (((((a0.bq (Int.toNat a1)).E0)==0)&&((((a0.bq (Int.toNat a1)).n)==0)||(dk==0)))) (
bd (jb n (a0.bq (Int.toNat a1)) a2) λgM=>
lt (({a0 with bq:=(iD a0.bq (Int.toNat a1) gM)}:ai):ai) λep=>
lt (({ep with bq:=(iD ep.bq (Int.toNat a1) ({(ep.bq (Int.toNat a1))with E0:=wr .u8 (wr .i64 (a2+1))}:cj))}:ai):ai) λdP=>
lt (dP:ai) λjo=>
some (jo,true)) (
cn (decide (dk<0)) (
gu (dg ((a0.bq (Int.toNat a1)).n) 8)<|
lt (({a0 with bq:=(iD a0.bq (Int.toNat a1) ({(a0.bq (Int.toNat a1))with EM:=(iD ((a0.bq (Int.toNat a1)).EM) (Int.toNat ((a0.bq (Int.toNat a1)).n)) (wr .u8 a2))}:cj))}:ai):ai) λeV=>
lt (({eV with bq:=(iD eV.bq (Int.toNat a1) ({(eV.bq (Int.toNat a1))with n:=wr .i64 (((eV.bq (Int.toNat a1)).n)+1)}:cj))}:ai):ai) λcJ=>
j25 bA cJ) (
j25 bA a0))))
def Dj(n:Nat):CT:=cV (tC n [(28, .join [(.via 6, .box 110 (.v (.st 21))),(.via 3, .box 110 (.v (.st 21)))] [])] [A2 n,ua n,rF n] []) ⟨86,[],(.cons (.v (.st 21)) (.cons (.v (.int .i64)) (.cons (.v (.int .i64)) .nil))),(.cons (.jy (.cons (.v (.st 21)) (.cons (.v .bool) .nil))) .nil),[], .nil,[],[]⟩ (λx=>o5 n x.1 x.2.1 x.2.2.1) (λy=>(y.1,y.2.1)) (λz=>(z.1,(z.2,())))
def fq(n:Nat)(cL:ae)(dc:aj)(dy:ai)(dx:(List Int))(cF:aF)(dF:ah)(dD:Bool):Option (Bool×ae×aj×ai×(List Int)×aF×ah×Bool):=
cn (((cF.ew.length:Int)==0)) (
some (false,cL,dc,dy,dx,cF,dF,dD)) (
gu (dg 0 cF.ew.length)<|
bd (bn n (cF.ew.getD (Int.toNat 0) default)) λaA=>
bd (o5 n dy aA.1 cF.jU) λaQ=>
lt (aQ.1:ai) λbS=>
lt (bS:ai) λcB=>
lt (λ(dS:ae) (eP:aj) (dk:ai) (eH:(List Int)) (gM:aF) (ep:ah) (dP:Bool)=>
some (true,dS,eP,dk,eH,gM,ep,dP)) λXd=>
cn (aQ.2) (
gu (dg 1 (cF.ew.length+1))<|
lt (({cF with ew:=cF.ew.drop (Int.toNat 1)}:aF):aF) λeV=>
Xd cL dc cB dx eV dF dD) (
Xd cL dc cB dx cF dF dD))
def yt(n:Nat):CT:=cV (tC n [(16, .join [(.via 0, .box 173 (.st (.part 1 (.box 113 (.st (.part 952 (.v (.st 19)) (.part 1 (.box 185 (.v (.st 24))) (.part 320 (.v (.st 21)) (.part 1 (.row 3 1 (.int .i64)) .nil)))))) (.part 12 (.v (.st 22)) (.part 3 (.v (.st 2)) (.part 1 (.v .bool) .nil))))))] [])] [bP n,Dj n] []) ⟨72,[],(.cons (.box 173 (.st (.part 1 (.box 113 (.st (.part 952 (.v (.st 19)) (.part 1 (.box 185 (.v (.st 24))) (.part 320 (.v (.st 21)) (.part 1 (.row 3 1 (.int .i64)) .nil)))))) (.part 12 (.v (.st 22)) (.part 3 (.v (.st 2)) (.part 1 (.v .bool) .nil)))))) .nil),(.cons (.v .bool) (.cons (.box 173 (.st (.part 1 (.box 113 (.st (.part 952 (.v (.st 19)) (.part 1 (.box 185 (.v (.st 24))) (.part 320 (.v (.st 21)) (.part 1 (.row 3 1 (.int .i64)) .nil)))))) (.part 12 (.v (.st 22)) (.part 3 (.v (.st 2)) (.part 1 (.v .bool) .nil)))))) .nil)),[some 0,some 1,some 2,none], .nil,[],[[0]]⟩ (λx=>fq n x.1 x.2.1 x.2.2.1 x.2.2.2.1 x.2.2.2.2.1 x.2.2.2.2.2.1 x.2.2.2.2.2.2.1) (λy=>(y.1,y.2.1,y.2.2.1,y.2.2.2.1,y.2.2.2.2.1,y.2.2.2.2.2.1,y.2.2.2.2.2.2.1,y.2.2.2.2.2.2.2.1)) (λz=>(z.1,(z.2.1,(z.2.2.1,(z.2.2.2.1,(z.2.2.2.2.1,(z.2.2.2.2.2.1,(z.2.2.2.2.2.2.1,(z.2.2.2.2.2.2.2,())))))))))
def iP(n:Nat)(a0:aj)(a1:Int):Option (Int×Int×aj):=
cn (decide (a1<1)) (
some (0,2,a0)) (
bd (oO n a0.dX a1) λaA=>
cn ((!aA.2)) (
some (0,6,a0)) (
bd (jK n a0.dX aA.1 a1) λaQ=>
lt (({a0 with dX:=aQ.1}:aj):aj) λbS=>
some (aA.1,0,bS)))
def BT(n:Nat):CT:=cV (tC n [] [C9 n,C8 n] []) ⟨87,[],(.cons (.box 185 (.v (.st 24))) (.cons (.v (.int .i64)) .nil)),(.cons (.jy (.cons (.v (.int .i64)) (.cons (.v (.int .i64)) .nil))) (.cons (.box 185 (.v (.st 24))) .nil)),[some 0], .nil,[],[[0]]⟩ (λx=>iP n x.1 x.2.1) (λy=>(y.1,y.2.1,y.2.2.1)) (λz=>(z.1,(z.2.1,(z.2.2,()))))
def bY(n:Nat)(cL:ae)(dc:aj)(dy:ai)(dx:(List Int))(cF:aF)(dF:ah)(dD:Bool):Option (Bool×ae×aj×ai×(List Int)×aF×ah×Bool):=
bd (bJ n cL cF.jU cF.C) λaA=>
cn (((aA==0)||(decide (0<cF.xY.N)))) (
some (false,cL,dc,dy,dx,cF,dF,dD)) (
bd (iP n dc aA) λaQ=>
cn ((aQ.2.1!=0)) (
bd (eU n cL aQ.2.2 dy dx cF dF dD ({ay with E:=aQ.2.1}:ah)) λbS=>
some (true,bS.1,bS.2.1,bS.2.2.1,bS.2.2.2.1,bS.2.2.2.2.1,bS.2.2.2.2.2.1,bS.2.2.2.2.2.2)) (
lt (({cF with xY:=({At:=aQ.1,N:=aA}:av)}:aF):aF) λcB=>
some (true,cL,aQ.2.2,dy,dx,cB,dF,dD)))
def xG(n:Nat):CT:=cV (tC n [] [mY n,BT n,mZ n] []) ⟨73,[],(.cons (.box 173 (.st (.part 1 (.box 113 (.st (.part 952 (.v (.st 19)) (.part 1 (.box 185 (.v (.st 24))) (.part 320 (.v (.st 21)) (.part 1 (.row 3 1 (.int .i64)) .nil)))))) (.part 12 (.v (.st 22)) (.part 3 (.v (.st 2)) (.part 1 (.v .bool) .nil)))))) .nil),(.cons (.v .bool) (.cons (.box 173 (.st (.part 1 (.box 113 (.st (.part 952 (.v (.st 19)) (.part 1 (.box 185 (.v (.st 24))) (.part 320 (.v (.st 21)) (.part 1 (.row 3 1 (.int .i64)) .nil)))))) (.part 12 (.v (.st 22)) (.part 3 (.v (.st 2)) (.part 1 (.v .bool) .nil)))))) .nil)),[some 0,some 1,some 2,none], .nil,[],[[0]]⟩ (λx=>bY n x.1 x.2.1 x.2.2.1 x.2.2.2.1 x.2.2.2.2.1 x.2.2.2.2.2.1 x.2.2.2.2.2.2.1) (λy=>(y.1,y.2.1,y.2.2.1,y.2.2.2.1,y.2.2.2.2.1,y.2.2.2.2.2.1,y.2.2.2.2.2.2.1,y.2.2.2.2.2.2.2.1)) (λz=>(z.1,(z.2.1,(z.2.2.1,(z.2.2.2.1,(z.2.2.2.2.1,(z.2.2.2.2.2.1,(z.2.2.2.2.2.2.1,(z.2.2.2.2.2.2.2,())))))))))
def kM(n:Nat)(a0:aj)(a1:Int):Option (Int×aj):=
cn (((decide (a1<0))||(decide (a0.n<=a1)))) (
some (2,a0)) (
bd (g8 n a0.dX a1) λaA=>
cn (aA) (
some (12,a0)) (
gu (dg a1 64)<|
lt (({a0 with bytes:=(iD a0.bytes (Int.toNat a1) (λ_ =>0))}:aj):aj) λaQ=>
some (0,aQ)))
def BS(n:Nat):CT:=cV (tC n [] [nC n] []) ⟨88,[],(.cons (.box 185 (.v (.st 24))) (.cons (.v (.int .i64)) .nil)),(.cons (.v (.int .i64)) (.cons (.box 185 (.v (.st 24))) .nil)),[some 0], .nil,[],[[0]]⟩ (λx=>kM n x.1 x.2.1) (λy=>(y.1,y.2.1)) (λz=>(z.1,(z.2,())))
def eL(n:Nat)(cL:ae)(dc:aj)(dy:ai)(dx:(List Int))(cF:aF)(dF:ah)(dD:Bool):Option (Bool×ae×aj×ai×(List Int)×aF×ah×Bool):=
cn (decide (cF.xY.N<=cF.qg)) (
some (false,cL,dc,dy,dx,cF,dF,dD)) (
bd (kM n dc (wr .i64 (cF.xY.At+cF.qg))) λaA=>
lt (({cF with qg:=wr .i64 (cF.qg+1)}:aF):aF) λaQ=>
some (true,cL,aA.2,dy,dx,aQ,dF,dD))
def xF(n:Nat):CT:=cV (tC n [] [BS n] []) ⟨74,[],(.cons (.box 173 (.st (.part 1 (.box 113 (.st (.part 952 (.v (.st 19)) (.part 1 (.box 185 (.v (.st 24))) (.part 320 (.v (.st 21)) (.part 1 (.row 3 1 (.int .i64)) .nil)))))) (.part 12 (.v (.st 22)) (.part 3 (.v (.st 2)) (.part 1 (.v .bool) .nil)))))) .nil),(.cons (.v .bool) (.cons (.box 173 (.st (.part 1 (.box 113 (.st (.part 952 (.v (.st 19)) (.part 1 (.box 185 (.v (.st 24))) (.part 320 (.v (.st 21)) (.part 1 (.row 3 1 (.int .i64)) .nil)))))) (.part 12 (.v (.st 22)) (.part 3 (.v (.st 2)) (.part 1 (.v .bool) .nil)))))) .nil)),[some 0,some 1,some 2,some 3], .nil,[],[[0]]⟩ (λx=>eL n x.1 x.2.1 x.2.2.1 x.2.2.2.1 x.2.2.2.2.1 x.2.2.2.2.2.1 x.2.2.2.2.2.2.1) (λy=>(y.1,y.2.1,y.2.2.1,y.2.2.2.1,y.2.2.2.2.1,y.2.2.2.2.2.1,y.2.2.2.2.2.2.1,y.2.2.2.2.2.2.2.1)) (λz=>(z.1,(z.2.1,(z.2.2.1,(z.2.2.2.1,(z.2.2.2.2.1,(z.2.2.2.2.2.1,(z.2.2.2.2.2.2.1,(z.2.2.2.2.2.2.2,())))))))))
def kL(n:Nat)(a0:aj)(a1:Int)(a2:Int):Option (Int×aj):=
cn (decide (a1<0)) (
some (2,a0)) (
cn (((decide ((wr .i64 (Int.tdiv a1 32))<0))||(decide (a0.n<=(wr .i64 (Int.tdiv a1 32)))))) (
some (2,a0)) (
bd (g8 n a0.dX (wr .i64 (Int.tdiv a1 32))) λaA=>
cn (aA) (
some (12,a0)) (
gu (dg (wr .i64 (Int.tdiv a1 32)) 64)<|
gu (dg (Int.tmod a1 32) 32)<|
lt (({a0 with bytes:=(iD a0.bytes (Int.toNat (wr .i64 (Int.tdiv a1 32))) (iD (a0.bytes (Int.toNat (wr .i64 (Int.tdiv a1 32)))) (Int.toNat (Int.tmod a1 32)) a2))}:aj):aj) λaQ=>
some (0,aQ))))
def BR(n:Nat):CT:=cV (tC n [] [nC n] []) ⟨92,[],(.cons (.box 185 (.v (.st 24))) (.cons (.v (.int .i64)) (.cons (.v (.int .u8)) .nil))),(.cons (.v (.int .i64)) (.cons (.box 185 (.v (.st 24))) .nil)),[some 0], .nil,[],[[0]]⟩ (λx=>kL n x.1 x.2.1 x.2.2.1) (λy=>(y.1,y.2.1)) (λz=>(z.1,(z.2,())))
def lZ(n:Nat)(a0:aj)(a1:Int):Option (Int×Int):=
cn (decide (a1<0)) (
lt (0:Int) λaA=>
some (aA,2)) (
cn (((decide ((wr .i64 (Int.tdiv a1 32))<0))||(decide (a0.n<=(wr .i64 (Int.tdiv a1 32)))))) (
lt (0:Int) λaQ=>
some (aQ,2)) (
bd (g8 n a0.dX (wr .i64 (Int.tdiv a1 32))) λbS=>
cn (bS) (
lt (0:Int) λcB=>
some (cB,12)) (
gu (dg (wr .i64 (Int.tdiv a1 32)) 64)<|
gu (dg (Int.tmod a1 32) 32)<|
lt (((a0.bytes (Int.toNat (wr .i64 (Int.tdiv a1 32)))) (Int.toNat (Int.tmod a1 32))):Int) λdS=>
lt (dS:Int) λeP=>
some (eP,0))))
def De(n:Nat):CT:=cV (tC n [] [nC n] []) ⟨94,[(185, .v (.st 24))],(.cons (.bU 0) (.cons (.v (.int .i64)) .nil)),(.cons (.jy (.cons (.v (.int .u8)) (.cons (.v (.int .i64)) .nil))) .nil),[], .nil,[],[]⟩ (λx=>lZ n x.1 x.2.1) (λy=>(y.1,y.2.1)) (λz=>(z.1,(z.2,())))
def cu(n:Nat)(cL:ae)(dc:aj)(dy:ai)(dx:(List Int))(cF:aF)(dF:ah)(dD:Bool):Option (Bool×ae×aj×ai×(List Int)×aF×ah×Bool):=
lt (cF.C:aC) λaA=>
lt (λ(aQ:ae) (bS:aj) (cB:ai) (dS:(List Int)) (eP:aF) (dk:ah) (eH:Bool)=>
bd (cv n aQ aA) λep=>
bd (cq n aQ eP.jU aA eP.xY) λdP=>
lt (dP.1:ae) λjo=>
lt (dP.2.1:ah) λeV=>
cn ((eV.E !=0)) (
bd (eU n aQ bS cB dS eP dk eH eV) λcJ=>
some (true,cJ.1,cJ.2.1,cJ.2.2.1,cJ.2.2.2.1,cJ.2.2.2.2.1,cJ.2.2.2.2.2.1,cJ.2.2.2.2.2.2)) (
lt (λ(fR:ae) (jx:aj) (dV:ai) (jk:(List Int)) (gR:aF) (mU:ah) (gF:Bool) (lJ:ah)=>
lt (jo:ae) λvZ=>
lt (({gR with xY:=aB}:aF):aF) λIS=>
xq (λk51 (vi:Int) (Fu:ae) (zW:aj) (qV:ai) (tZ:(List Int))=>
cn (decide (vi<(dP.2.2.length:Int))) (
gu (dg vi dP.2.2.length)<|
lt ((dP.2.2.getD (Int.toNat vi) default):av) λJR=>
bd (fg n Fu zW qV tZ JR) λyh=>
k51 (wr .i64 (vi+1)) yh.1 yh.2.1 yh.2.2.1 yh.2.2.2) (
bd (eU n Fu zW qV tZ IS mU gF lJ) λlu=>
some (true,lu.1,lu.2.1,lu.2.2.1,lu.2.2.2.1,lu.2.2.2.2.1,lu.2.2.2.2.2.1,lu.2.2.2.2.2.2))) n 0 vZ jx dV jk) λj43=>
cn ((aA.Do==4)) (
GA (λk63 (qc:Int) (FY:ae) (yg:aj) (Nc:ai) (FX:(List Int)) (zF:aF) (WZ:ah) (JQ:Bool)=>
cn (decide (qc<(ep.1.length:Int))) (
gu (dg qc ep.1.length)<|
gu (decide (0<=wr .i64 (8*qc)))<|
bd (kL n yg (ep.1.getD (Int.toNat qc) default) (wr .u8 (Ae .u64 aA.V (wr .i64 (8*qc))))) λQA=>
k63 (wr .i64 (qc+1)) FY QA.2 Nc FX zF WZ JQ) (
j43 FY yg Nc FX zF WZ JQ eV)) n 0 aQ bS cB dS eP dk eH) (
cn ((aA.Do==3)) (
eS (λk67 (vh:Int) (Sv:ah)=>
cn (decide (vh<(ep.1.length:Int))) (
gu (dg vh ep.1.length)<|
bd (lZ n bS (ep.1.getD (Int.toNat vh) default)) λJO=>
gu (decide (0<=wr .i64 (8*vh)))<|
lt (({Sv with V:=orI .u64 Sv.V (Ke .u64 (wr .u64 JO.1) (wr .i64 (8*vh)))}:ah):ah) λIk=>
k67 (wr .i64 (vh+1)) Ik) (
j43 aQ bS cB dS eP dk eH Sv)) n 0 eV) (
j43 aQ bS cB dS eP dk eH eV)))) λj29=>
cl ((decide (0<cF.xY.N)==true)) (bJ n cL cF.jU aA) default λx70=>
cn (((decide (0<cF.xY.N))&&(x70 !=cF.xY.N))) (
bd (fg n cL dc dy dx cF.xY) λx71=>
lt (({cF with xY:=aB}:aF):aF) λNb=>
j29 x71.1 x71.2.1 x71.2.2.1 x71.2.2.2 Nb dF dD) (
j29 cL dc dy dx cF dF dD)
def wk(n:Nat):CT:=cV (tC n [(10, .join [(.via 0, .box 173 (.st (.part 1 (.box 113 (.st (.part 952 (.v (.st 19)) (.part 1 (.box 185 (.v (.st 24))) (.part 320 (.v (.st 21)) (.part 1 (.row 3 1 (.int .i64)) .nil)))))) (.part 12 (.v (.st 22)) (.part 3 (.v (.st 2)) (.part 1 (.v .bool) .nil))))))] []),(30, .join [(.via 65, .box 113 (.st (.part 952 (.v (.st 19)) (.part 1 (.box 185 (.v (.st 24))) (.part 320 (.v (.st 21)) (.part 1 (.row 3 1 (.int .i64)) .nil)))))),(.via 0, .box 173 (.st (.part 1 (.bU 0) (.part 12 (.v (.st 22)) (.part 3 (.v (.st 2)) (.part 1 (.v .bool) .nil)))))),(.via 7, .box 55 (.v (.st 2)))] []),(35, .loop [(.cY 130, .v (.int .i64)),(.via 65, .box 113 (.st (.part 952 (.v (.st 19)) (.part 1 (.box 185 (.v (.st 24))) (.part 320 (.v (.st 21)) (.part 1 (.row 3 1 (.int .i64)) .nil))))))]),(1100000003, .loop [(.cY 10, .v (.int .i64)),(.via 0, .box 173 (.st (.part 1 (.box 113 (.st (.part 952 (.v (.st 19)) (.part 1 (.box 185 (.v (.st 24))) (.part 320 (.v (.st 21)) (.part 1 (.row 3 1 (.int .i64)) .nil)))))) (.part 12 (.v (.st 22)) (.part 3 (.v (.st 2)) (.part 1 (.v .bool) .nil))))))]),(1160000003, .loop [(.cY 10, .v (.int .i64)),(.cap 2 1, .box 55 (.v (.st 2)))])] [Aa n,vo n,mZ n,ud n,BR n,De n,mY n] []) ⟨75,[],(.cons (.box 173 (.st (.part 1 (.box 113 (.st (.part 952 (.v (.st 19)) (.part 1 (.box 185 (.v (.st 24))) (.part 320 (.v (.st 21)) (.part 1 (.row 3 1 (.int .i64)) .nil)))))) (.part 12 (.v (.st 22)) (.part 3 (.v (.st 2)) (.part 1 (.v .bool) .nil)))))) .nil),(.cons (.v .bool) (.cons (.box 173 (.st (.part 1 (.box 113 (.st (.part 952 (.v (.st 19)) (.part 1 (.box 185 (.v (.st 24))) (.part 320 (.v (.st 21)) (.part 1 (.row 3 1 (.int .i64)) .nil)))))) (.part 12 (.v (.st 22)) (.part 3 (.v (.st 2)) (.part 1 (.v .bool) .nil)))))) .nil)),[some 0,some 1,some 2,none], .nil,[],[[0]]⟩ (λx=>cu n x.1 x.2.1 x.2.2.1 x.2.2.2.1 x.2.2.2.2.1 x.2.2.2.2.2.1 x.2.2.2.2.2.2.1) (λy=>(y.1,y.2.1,y.2.2.1,y.2.2.2.1,y.2.2.2.2.1,y.2.2.2.2.2.1,y.2.2.2.2.2.2.1,y.2.2.2.2.2.2.2.1)) (λz=>(z.1,(z.2.1,(z.2.2.1,(z.2.2.2.1,(z.2.2.2.2.1,(z.2.2.2.2.2.1,(z.2.2.2.2.2.2.1,(z.2.2.2.2.2.2.2,())))))))))
def cO(n:Nat)(cL:ae)(dc:aj)(dy:ai)(dx:(List Int))(a1:aF):Option (aF×ah×Bool×ae×aj×ai×(List Int)):=
lt (λ(aA:ae) (aQ:aj) (bS:ai) (cB:(List Int)) (dS:aF) (eP:ah) (dk:Bool)=>
lt (dS:aF) λgM=>
lt (eP:ah) λep=>
some (gM,ep,dk,aA,aQ,bS,cB)) λj28=>
bd (eD n cL dc dy dx a1 ay false) λdP=>
cn (dP.1) (
j28 dP.2.1 dP.2.2.1 dP.2.2.2.1 dP.2.2.2.2.1 dP.2.2.2.2.2.1 dP.2.2.2.2.2.2.1 dP.2.2.2.2.2.2.2) (
bd (fq n dP.2.1 dP.2.2.1 dP.2.2.2.1 dP.2.2.2.2.1 dP.2.2.2.2.2.1 dP.2.2.2.2.2.2.1 dP.2.2.2.2.2.2.2) λjo=>
cn (jo.1) (
j28 jo.2.1 jo.2.2.1 jo.2.2.2.1 jo.2.2.2.2.1 jo.2.2.2.2.2.1 jo.2.2.2.2.2.2.1 jo.2.2.2.2.2.2.2) (
bd (bY n jo.2.1 jo.2.2.1 jo.2.2.2.1 jo.2.2.2.2.1 jo.2.2.2.2.2.1 jo.2.2.2.2.2.2.1 jo.2.2.2.2.2.2.2) λeV=>
cn (eV.1) (
j28 eV.2.1 eV.2.2.1 eV.2.2.2.1 eV.2.2.2.2.1 eV.2.2.2.2.2.1 eV.2.2.2.2.2.2.1 eV.2.2.2.2.2.2.2) (
bd (eL n eV.2.1 eV.2.2.1 eV.2.2.2.1 eV.2.2.2.2.1 eV.2.2.2.2.2.1 eV.2.2.2.2.2.2.1 eV.2.2.2.2.2.2.2) λcJ=>
cn (cJ.1) (
j28 cJ.2.1 cJ.2.2.1 cJ.2.2.2.1 cJ.2.2.2.2.1 cJ.2.2.2.2.2.1 cJ.2.2.2.2.2.2.1 cJ.2.2.2.2.2.2.2) (
bd (cu n cJ.2.1 cJ.2.2.1 cJ.2.2.2.1 cJ.2.2.2.2.1 cJ.2.2.2.2.2.1 cJ.2.2.2.2.2.2.1 cJ.2.2.2.2.2.2.2) λfR=>
cn (fR.1) (
j28 fR.2.1 fR.2.2.1 fR.2.2.2.1 fR.2.2.2.2.1 fR.2.2.2.2.2.1 fR.2.2.2.2.2.2.1 fR.2.2.2.2.2.2.2) (
j28 fR.2.1 fR.2.2.1 fR.2.2.2.1 fR.2.2.2.2.1 fR.2.2.2.2.2.1 fR.2.2.2.2.2.2.1 fR.2.2.2.2.2.2.2)))))
def Dp(n:Nat):CT:=cV (tC n [(14, .join [(.via 7, .box 173 (.st (.part 1 (.box 113 (.st (.part 952 (.v (.st 19)) (.part 1 (.box 185 (.v (.st 24))) (.part 320 (.v (.st 21)) (.part 1 (.row 3 1 (.int .i64)) .nil)))))) (.part 12 (.v (.st 22)) (.part 3 (.v (.st 2)) (.part 1 (.v .bool) .nil))))))] []),(7, .J7)] [yu n,yt n,xG n,xF n,wk n] []) ⟨65,[],(.cons (.box 113 (.st (.part 952 (.v (.st 19)) (.part 1 (.box 185 (.v (.st 24))) (.part 320 (.v (.st 21)) (.part 1 (.row 3 1 (.int .i64)) .nil)))))) (.cons (.v (.st 22)) .nil)),(.cons (.jy (.cons (.v (.st 22)) (.cons (.v (.st 2)) (.cons (.v .bool) .nil)))) (.cons (.box 113 (.st (.part 952 (.v (.st 19)) (.part 1 (.box 185 (.v (.st 24))) (.part 320 (.v (.st 21)) (.part 1 (.row 3 1 (.int .i64)) .nil)))))) .nil)),[some 0,some 1,none], .nil,[],[[0]]⟩ (λx=>cO n x.1 x.2.1 x.2.2.1 x.2.2.2.1 x.2.2.2.2.1) (λy=>(y.1,y.2.1,y.2.2.1,y.2.2.2.1,y.2.2.2.2.1,y.2.2.2.2.2.1,y.2.2.2.2.2.2.1)) (λz=>(z.1,(z.2.1,(z.2.2.1,(z.2.2.2.1,(z.2.2.2.2.1,(z.2.2.2.2.2.1,(z.2.2.2.2.2.2,()))))))))
def er(n:Nat)(cL:ae)(dc:aj)(dy:ai)(dx:(List Int))(cF:Int)(a1:aC):Option (ah×ae×aj×ai×(List Int)×Int):=
lt (({({jY with jU:=cF}:aF)with C:=a1}:aF):aF) λaA=>
vJ (λYL (aQ:ah) (bS:ae) (cB:aj) (dS:ai) (eP:(List Int)) (dk:Int) (eH:aF)=>
cl (((!eH.Checked)==true)) (pS n bS dk a1) default λep=>
cn (((!eH.Checked)&&ep)) (
cn ((a1.Do==15)) (
lt (({ay with E:=10}:ah):ah) λdP=>
some (dP,bS,cB,dS,eP,dk)) (
lt (({ay with E:=12}:ah):ah) λjo=>
some (jo,bS,cB,dS,eP,dk))) (
bd (cO n bS cB dS eP eH) λeV=>
lt (eV.1:aF) λcJ=>
lt (eV.2.1:ah) λfR=>
cn (eV.2.2.1) (
lt (fR:ah) λjx=>
some (jx,eV.2.2.2.1,eV.2.2.2.2.1,eV.2.2.2.2.2.1,eV.2.2.2.2.2.2,dk)) (
cn (((eH.Checked&&((cJ.ew.length:Int)==(eH.ew.length:Int)))&&(decide (0<(eH.ew.length:Int))))) (
bd (kW n eV.2.2.2.1 eV.2.2.2.2.1 eV.2.2.2.2.2.1 eV.2.2.2.2.2.2 eH) λdV=>
lt (({ay with E:=12}:ah):ah) λjk=>
some (jk,dV.1,dV.2.1,dV.2.2.1,dV.2.2.2,dk)) (
lt (cJ:aF) λgR=>
YL aQ eV.2.2.2.1 eV.2.2.2.2.1 eV.2.2.2.2.2.1 eV.2.2.2.2.2.2 dk gR)))) n ay cL dc dy dx cF aA
def F6(n:Nat):CT:=cV (tC n [(5, .loop [(.via 4, .box 55 (.v (.st 2))),(.via 0, .box 141 (.st (.part 1 (.box 113 (.st (.part 952 (.v (.st 19)) (.part 1 (.box 185 (.v (.st 24))) (.part 320 (.v (.st 21)) (.part 1 (.row 3 1 (.int .i64)) .nil)))))) (.part 1 (.v (.int .i64)) .nil)))),(.via 5, .box 160 (.v (.st 22)))])] [BU n,Dp n,xg n] []) ⟨49,[],(.cons (.box 141 (.st (.part 1 (.box 113 (.st (.part 952 (.v (.st 19)) (.part 1 (.box 185 (.v (.st 24))) (.part 320 (.v (.st 21)) (.part 1 (.row 3 1 (.int .i64)) .nil)))))) (.part 1 (.v (.int .i64)) .nil)))) (.cons (.v (.st 3)) .nil)),(.cons (.v (.st 2)) (.cons (.box 141 (.st (.part 1 (.box 113 (.st (.part 952 (.v (.st 19)) (.part 1 (.box 185 (.v (.st 24))) (.part 320 (.v (.st 21)) (.part 1 (.row 3 1 (.int .i64)) .nil)))))) (.part 1 (.v (.int .i64)) .nil)))) .nil)),[some 0,some 1,some 2,none], .nil,[],[[0]]⟩ (λx=>er n x.1 x.2.1 x.2.2.1 x.2.2.2.1 x.2.2.2.2.1 x.2.2.2.2.2.1) (λy=>(y.1,y.2.1,y.2.2.1,y.2.2.2.1,y.2.2.2.2.1,y.2.2.2.2.2.1)) (λz=>(z.1,(z.2.1,(z.2.2.1,(z.2.2.2.1,(z.2.2.2.2.1,(z.2.2.2.2.2,())))))))
def l6(n:Nat)(a0:aj)(a1:Int):Option (Int×aj):=
cn (((decide (a1<0))||(decide (a0.n<=a1)))) (
some (2,a0)) (
bd (g8 n a0.dX a1) λaA=>
cn (aA) (
some (12,a0)) (
gu (dg a1 64)<|
bd (lV n a0.dX a1 1) λaQ=>
lt (({a0 with dX:=aQ.1}:aj):aj) λbS=>
some (0,bS)))
def Dg(n:Nat):CT:=cV (tC n [] [nC n,vm n] []) ⟨67,[],(.cons (.box 185 (.v (.st 24))) (.cons (.v (.int .i64)) .nil)),(.cons (.v (.int .i64)) (.cons (.box 185 (.v (.st 24))) .nil)),[some 0], .nil,[],[[0]]⟩ (λx=>l6 n x.1 x.2.1) (λy=>(y.1,y.2.1)) (λz=>(z.1,(z.2,())))
def mw(n:Nat)(cL:ae)(dc:aj)(dy:ai)(dx:(List Int)):Option (Bool×ae×aj×ai×(List Int)):=
cn (((dx.length:Int)==0)) (
some (false,cL,dc,dy,dx)) (
gu (dg 0 dx.length)<|
bd (l6 n dc (dx.getD (Int.toNat 0) default)) λaA=>
gu (dg 1 (dx.length+1))<|
some (true,cL,aA.2,dy,dx.drop (Int.toNat 1)))
def Dq(n:Nat):CT:=cV (tC n [(1000025, .J7)] [Dg n] []) ⟨50,[],(.cons (.box 113 (.st (.part 952 (.v (.st 19)) (.part 1 (.box 185 (.v (.st 24))) (.part 320 (.v (.st 21)) (.part 1 (.row 3 1 (.int .i64)) .nil)))))) .nil),(.cons (.v .bool) (.cons (.box 113 (.st (.part 952 (.v (.st 19)) (.part 1 (.box 185 (.v (.st 24))) (.part 320 (.v (.st 21)) (.part 1 (.row 3 1 (.int .i64)) .nil)))))) .nil)),[some 0,some 1,none], .nil,[],[[0]]⟩ (λx=>mw n x.1 x.2.1 x.2.2.1 x.2.2.2.1) (λy=>(y.1,y.2.1,y.2.2.1,y.2.2.2.1,y.2.2.2.2.1)) (λz=>(z.1,(z.2.1,(z.2.2.1,(z.2.2.2.1,(z.2.2.2.2,()))))))
def cI(n:Nat)(cL:ae)(dc:aj)(dy:ai)(dx:(List Int))(cF:Int)(a1:aC):Option (ah×ae×aj×ai×(List Int)×Int):=
bd (er n cL dc dy dx cF a1) λaA=>
lt (aA.1:ah) λaQ=>
lt (λ(bS:ae) (cB:aj) (dS:ai) (eP:(List Int)) (dk:Int) (eH:ah)=>
lt (eH:ah) λep=>
some (ep,bS,cB,dS,eP,dk)) λj29=>
cn (((aQ.E==6)&&(decide (0<(aA.2.2.2.2.1.length:Int))))) (
xq (λk36 (dP:ae) (jo:aj) (eV:ai) (cJ:(List Int)) (fR:Int)=>
bd (mw n dP jo eV cJ) λdV=>
cn (dV.1) (
k36 dV.2.1 dV.2.2.1 dV.2.2.2.1 dV.2.2.2.2 fR) (
bd (er n dV.2.1 dV.2.2.1 dV.2.2.2.1 dV.2.2.2.2 fR a1) λjk=>
lt (jk.1:ah) λgR=>
j29 jk.2.1 jk.2.2.1 jk.2.2.2.1 jk.2.2.2.2.1 jk.2.2.2.2.2 gR)) n aA.2.1 aA.2.2.1 aA.2.2.2.1 aA.2.2.2.2.1 aA.2.2.2.2.2) (
j29 aA.2.1 aA.2.2.1 aA.2.2.2.1 aA.2.2.2.2.1 aA.2.2.2.2.2 aQ)
def sU(n:Nat):CT:=cV (tC n [(14, .join [(.via 0, .box 141 (.st (.part 1 (.box 113 (.st (.part 952 (.v (.st 19)) (.part 1 (.box 185 (.v (.st 24))) (.part 320 (.v (.st 21)) (.part 1 (.row 3 1 (.int .i64)) .nil)))))) (.part 1 (.v (.int .i64)) .nil)))),(.via 5, .box 55 (.v (.st 2)))] []),(11, .loop [(.via 0, .box 141 (.st (.part 1 (.box 113 (.st (.part 952 (.v (.st 19)) (.part 1 (.box 185 (.v (.st 24))) (.part 320 (.v (.st 21)) (.part 1 (.row 3 1 (.int .i64)) .nil)))))) (.part 1 (.v (.int .i64)) .nil))))])] [F6 n,Dq n] []) ⟨17,[],(.cons (.box 141 (.st (.part 1 (.box 113 (.st (.part 952 (.v (.st 19)) (.part 1 (.box 185 (.v (.st 24))) (.part 320 (.v (.st 21)) (.part 1 (.row 3 1 (.int .i64)) .nil)))))) (.part 1 (.v (.int .i64)) .nil)))) (.cons (.v (.st 3)) .nil)),(.cons (.v (.st 2)) (.cons (.box 141 (.st (.part 1 (.box 113 (.st (.part 952 (.v (.st 19)) (.part 1 (.box 185 (.v (.st 24))) (.part 320 (.v (.st 21)) (.part 1 (.row 3 1 (.int .i64)) .nil)))))) (.part 1 (.v (.int .i64)) .nil)))) .nil)),[some 0,some 1,some 2,none], .nil,[],[[0]]⟩ (λx=>cI n x.1 x.2.1 x.2.2.1 x.2.2.2.1 x.2.2.2.2.1 x.2.2.2.2.2.1) (λy=>(y.1,y.2.1,y.2.2.1,y.2.2.2.1,y.2.2.2.2.1,y.2.2.2.2.2.1)) (λz=>(z.1,(z.2.1,(z.2.2.1,(z.2.2.2.1,(z.2.2.2.2.1,(z.2.2.2.2.2,())))))))
def mg(n:Nat)(a0:Int):Option (Int×Bool):=
some (wr .u32 a0,((decide (0<=a0))&&(decide (a0<=4294967295))))
def JS(n:Nat):CT:=cV (tC n [] [] []) ⟨59,[],(.cons (.v (.int .i64)) .nil),(.cons (.jy (.cons (.v (.int .u32)) (.cons (.v .bool) .nil))) .nil),[], .nil,[],[]⟩ (λx=>mg n x.1) (λy=>(y.1,y.2.1)) (λz=>(z.1,(z.2,())))
def ja(n:Nat)(cL:ae)(dc:aj)(dy:ai)(dx:(List Int))(cF:Int)(a1:Int)(a2:Int)(a3:Int)(a4:Int)(a5:Int):Option (ah×ae×aj×ai×(List Int)×Int):=
bd (mg n a3) λaA=>
bd (mg n a4) λaQ=>
cn (((!aA.2)||(!aQ.2))) (
lt (({ay with E:=2}:ah):ah) λbS=>
some (bS,cL,dc,dy,dx,cF)) (
bd (cI n cL dc dy dx cF ({({({({({eF with Do:=a1}:aC)with R:=a2}:aC)with A:=aA.1}:aC)with B:=aQ.1}:aC)with V:=a5}:aC)) λcB=>
lt (cB.1:ah) λdS=>
some (dS,cB.2.1,cB.2.2.1,cB.2.2.2.1,cB.2.2.2.2.1,cB.2.2.2.2.2))
def sS(n:Nat):CT:=cV (tC n [] [JS n,sU n] []) ⟨34,[],(.cons (.box 141 (.st (.part 1 (.box 113 (.st (.part 952 (.v (.st 19)) (.part 1 (.box 185 (.v (.st 24))) (.part 320 (.v (.st 21)) (.part 1 (.row 3 1 (.int .i64)) .nil)))))) (.part 1 (.v (.int .i64)) .nil)))) (.cons (.v (.int .u8)) (.cons (.v (.int .u32)) (.cons (.v (.int .i64)) (.cons (.v (.int .i64)) (.cons (.v (.int .u64)) .nil)))))),(.cons (.v (.st 2)) (.cons (.box 141 (.st (.part 1 (.box 113 (.st (.part 952 (.v (.st 19)) (.part 1 (.box 185 (.v (.st 24))) (.part 320 (.v (.st 21)) (.part 1 (.row 3 1 (.int .i64)) .nil)))))) (.part 1 (.v (.int .i64)) .nil)))) .nil)),[some 0,some 1,some 2,none], .nil,[],[[0]]⟩ (λx=>ja n x.1 x.2.1 x.2.2.1 x.2.2.2.1 x.2.2.2.2.1 x.2.2.2.2.2.1 x.2.2.2.2.2.2.1 x.2.2.2.2.2.2.2.1 x.2.2.2.2.2.2.2.2.1 x.2.2.2.2.2.2.2.2.2.1) (λy=>(y.1,y.2.1,y.2.2.1,y.2.2.2.1,y.2.2.2.2.1,y.2.2.2.2.2.1)) (λz=>(z.1,(z.2.1,(z.2.2.1,(z.2.2.2.1,(z.2.2.2.2.1,(z.2.2.2.2.2,())))))))
def ef(n:Nat)(cL:ae)(dc:aj)(dy:ai)(dx:(List Int))(cF:Int)(a1:Int)(a2:Int)(a3:Int):Option (Int×Int×ae×aj×ai×(List Int)×Int):=
bd (ja n cL dc dy dx cF 2 a1 a2 a3 0) λaA=>
lt (aA.1:ah) λaQ=>
some (wr .i64 aQ.V,aQ.E,aA.2.1,aA.2.2.1,aA.2.2.2.1,aA.2.2.2.2.1,aA.2.2.2.2.2)
def qW(n:Nat):CT:=cV (tC n [] [sS n] []) ⟨48,[],(.cons (.box 141 (.st (.part 1 (.box 113 (.st (.part 952 (.v (.st 19)) (.part 1 (.box 185 (.v (.st 24))) (.part 320 (.v (.st 21)) (.part 1 (.row 3 1 (.int .i64)) .nil)))))) (.part 1 (.v (.int .i64)) .nil)))) (.cons (.v (.int .u32)) (.cons (.v (.int .i64)) (.cons (.v (.int .i64)) .nil)))),(.cons (.jy (.cons (.v (.int .i64)) (.cons (.v (.int .i64)) .nil))) (.cons (.box 141 (.st (.part 1 (.box 113 (.st (.part 952 (.v (.st 19)) (.part 1 (.box 185 (.v (.st 24))) (.part 320 (.v (.st 21)) (.part 1 (.row 3 1 (.int .i64)) .nil)))))) (.part 1 (.v (.int .i64)) .nil)))) .nil)),[some 0,some 1,some 2,none], .nil,[],[[0]]⟩ (λx=>ef n x.1 x.2.1 x.2.2.1 x.2.2.2.1 x.2.2.2.2.1 x.2.2.2.2.2.1 x.2.2.2.2.2.2.1 x.2.2.2.2.2.2.2.1) (λy=>(y.1,y.2.1,y.2.2.1,y.2.2.2.1,y.2.2.2.2.1,y.2.2.2.2.2.1,y.2.2.2.2.2.2.1)) (λz=>(z.1,(z.2.1,(z.2.2.1,(z.2.2.2.1,(z.2.2.2.2.1,(z.2.2.2.2.2.1,(z.2.2.2.2.2.2,()))))))))
def kx(n:Nat)(cL:ae)(dc:aj)(dy:ai)(dx:(List Int))(cF:Int)(a1:Int)(a2:Int):Option (Int×Int×ae×aj×ai×(List Int)×Int):=
bd (ja n cL dc dy dx cF 3 a1 a2 8 0) λaA=>
lt (aA.1:ah) λaQ=>
some (aQ.V,aQ.E,aA.2.1,aA.2.2.1,aA.2.2.2.1,aA.2.2.2.2.1,aA.2.2.2.2.2)
def F7(n:Nat):CT:=cV (tC n [] [sS n] []) ⟨61,[],(.cons (.box 141 (.st (.part 1 (.box 113 (.st (.part 952 (.v (.st 19)) (.part 1 (.box 185 (.v (.st 24))) (.part 320 (.v (.st 21)) (.part 1 (.row 3 1 (.int .i64)) .nil)))))) (.part 1 (.v (.int .i64)) .nil)))) (.cons (.v (.int .u32)) (.cons (.v (.int .i64)) .nil))),(.cons (.jy (.cons (.v (.int .u64)) (.cons (.v (.int .i64)) .nil))) (.cons (.box 141 (.st (.part 1 (.box 113 (.st (.part 952 (.v (.st 19)) (.part 1 (.box 185 (.v (.st 24))) (.part 320 (.v (.st 21)) (.part 1 (.row 3 1 (.int .i64)) .nil)))))) (.part 1 (.v (.int .i64)) .nil)))) .nil)),[some 0,some 1,some 2,none], .nil,[],[[0]]⟩ (λx=>kx n x.1 x.2.1 x.2.2.1 x.2.2.2.1 x.2.2.2.2.1 x.2.2.2.2.2.1 x.2.2.2.2.2.2.1) (λy=>(y.1,y.2.1,y.2.2.1,y.2.2.2.1,y.2.2.2.2.1,y.2.2.2.2.2.1,y.2.2.2.2.2.2.1)) (λz=>(z.1,(z.2.1,(z.2.2.1,(z.2.2.2.1,(z.2.2.2.2.1,(z.2.2.2.2.2.1,(z.2.2.2.2.2.2,()))))))))
def cz(n:Nat)(cL:ae)(dc:aj)(dy:ai)(dx:(List Int))(cF:Int)(dF:Int)(dD:Int)(Bs:Int)(a1:Int):Option (Int×ae×aj×ai×(List Int)×Int×Int×Int×Int):=
cn ((Bs !=0)) (
some (0,cL,dc,dy,dx,cF,dF,dD,Bs)) (
bd (kx n cL dc dy dx cF dF a1) λaA=>
lt (aA.2.1:Int) λaQ=>
some (aA.1,aA.2.2.1,aA.2.2.2.1,aA.2.2.2.2.1,aA.2.2.2.2.2.1,aA.2.2.2.2.2.2,dF,dD,aQ))
def gN(n:Nat):CT:=cV (tC n [] [F7 n] []) ⟨38,[],(.cons (.box 150 (.st (.part 3 (.st (.part 1 (.box 141 (.st (.part 1 (.box 113 (.st (.part 952 (.v (.st 19)) (.part 1 (.box 185 (.v (.st 24))) (.part 320 (.v (.st 21)) (.part 1 (.row 3 1 (.int .i64)) .nil)))))) (.part 1 (.v (.int .i64)) .nil)))) (.part 1 (.v (.int .u32)) (.part 1 (.v (.int .i64)) .nil)))) (.part 1 (.v (.int .i64)) .nil)))) (.cons (.v (.int .i64)) .nil)),(.cons (.v (.int .u64)) (.cons (.box 150 (.st (.part 3 (.st (.part 1 (.box 141 (.st (.part 1 (.box 113 (.st (.part 952 (.v (.st 19)) (.part 1 (.box 185 (.v (.st 24))) (.part 320 (.v (.st 21)) (.part 1 (.row 3 1 (.int .i64)) .nil)))))) (.part 1 (.v (.int .i64)) .nil)))) (.part 1 (.v (.int .u32)) (.part 1 (.v (.int .i64)) .nil)))) (.part 1 (.v (.int .i64)) .nil)))) .nil)),[some 0,some 1,some 2,some 3,none], .nil,[],[[0]]⟩ (λx=>cz n x.1 x.2.1 x.2.2.1 x.2.2.2.1 x.2.2.2.2.1 x.2.2.2.2.2.1 x.2.2.2.2.2.2.1 x.2.2.2.2.2.2.2.1 x.2.2.2.2.2.2.2.2.1) (λy=>(y.1,y.2.1,y.2.2.1,y.2.2.2.1,y.2.2.2.2.1,y.2.2.2.2.2.1,y.2.2.2.2.2.2.1,y.2.2.2.2.2.2.2.1,y.2.2.2.2.2.2.2.2.1)) (λz=>(z.1,(z.2.1,(z.2.2.1,(z.2.2.2.1,(z.2.2.2.2.1,(z.2.2.2.2.2.1,(z.2.2.2.2.2.2.1,(z.2.2.2.2.2.2.2.1,(z.2.2.2.2.2.2.2.2,()))))))))))
def bQ(n:Nat)(cL:ae)(dc:aj)(dy:ai)(dx:(List Int))(cF:Int)(dF:Int)(dD:Int)(Bs:Int)(a1:Int):Option (Int×ae×aj×ai×(List Int)×Int×Int×Int×Int):=
bd (cz n cL dc dy dx cF dF dD Bs (wr .i64 (dD+a1))) λaA=>
some (aA.1,aA.2.1,aA.2.2.1,aA.2.2.2.1,aA.2.2.2.2.1,aA.2.2.2.2.2.1,aA.2.2.2.2.2.2.1,aA.2.2.2.2.2.2.2.1,aA.2.2.2.2.2.2.2.2)
def fB(n:Nat):CT:=cV (tC n [] [gN n] []) ⟨28,[],(.cons (.box 150 (.st (.part 3 (.st (.part 1 (.box 141 (.st (.part 1 (.box 113 (.st (.part 952 (.v (.st 19)) (.part 1 (.box 185 (.v (.st 24))) (.part 320 (.v (.st 21)) (.part 1 (.row 3 1 (.int .i64)) .nil)))))) (.part 1 (.v (.int .i64)) .nil)))) (.part 1 (.v (.int .u32)) (.part 1 (.v (.int .i64)) .nil)))) (.part 1 (.v (.int .i64)) .nil)))) (.cons (.v (.int .i64)) .nil)),(.cons (.v (.int .u64)) (.cons (.box 150 (.st (.part 3 (.st (.part 1 (.box 141 (.st (.part 1 (.box 113 (.st (.part 952 (.v (.st 19)) (.part 1 (.box 185 (.v (.st 24))) (.part 320 (.v (.st 21)) (.part 1 (.row 3 1 (.int .i64)) .nil)))))) (.part 1 (.v (.int .i64)) .nil)))) (.part 1 (.v (.int .u32)) (.part 1 (.v (.int .i64)) .nil)))) (.part 1 (.v (.int .i64)) .nil)))) .nil)),[some 0,some 1,some 2,some 3,none], .nil,[],[[0]]⟩ (λx=>bQ n x.1 x.2.1 x.2.2.1 x.2.2.2.1 x.2.2.2.2.1 x.2.2.2.2.2.1 x.2.2.2.2.2.2.1 x.2.2.2.2.2.2.2.1 x.2.2.2.2.2.2.2.2.1) (λy=>(y.1,y.2.1,y.2.2.1,y.2.2.2.1,y.2.2.2.2.1,y.2.2.2.2.2.1,y.2.2.2.2.2.2.1,y.2.2.2.2.2.2.2.1,y.2.2.2.2.2.2.2.2.1)) (λz=>(z.1,(z.2.1,(z.2.2.1,(z.2.2.2.1,(z.2.2.2.2.1,(z.2.2.2.2.2.1,(z.2.2.2.2.2.2.1,(z.2.2.2.2.2.2.2.1,(z.2.2.2.2.2.2.2.2,()))))))))))
def gV(n:Nat)(a0:Int):Option Int:=
cn (((a0==0)||(decide (4294967296<a0)))) (
some ((-1))) (
some (wr .i64 (wr .u64 (a0-1))))
def sy(n:Nat):CT:=cV (tC n [] [] []) ⟨33,[],(.cons (.v (.int .u64)) .nil),(.cons (.v (.int .i64)) .nil),[], .nil,[],[]⟩ (λx=>gV n x.1) (λy=>(y.1)) (λz=>(z,()))
def uy(n:Nat)(cL:ae)(dc:aj)(dy:ai)(dx:(List Int))(cF:Int)(a1:Int)(a2:Int)(a3:Int):Option (Int×ae×aj×ai×(List Int)×Int):=
bd (ja n cL dc dy dx cF 4 a1 a2 8 a3) λaA=>
some (aA.1.E,aA.2.1,aA.2.2.1,aA.2.2.2.1,aA.2.2.2.2.1,aA.2.2.2.2.2)
def Il(n:Nat):CT:=cV (tC n [] [sS n] []) ⟨10,[],(.cons (.box 141 (.st (.part 1 (.box 113 (.st (.part 952 (.v (.st 19)) (.part 1 (.box 185 (.v (.st 24))) (.part 320 (.v (.st 21)) (.part 1 (.row 3 1 (.int .i64)) .nil)))))) (.part 1 (.v (.int .i64)) .nil)))) (.cons (.v (.int .u32)) (.cons (.v (.int .i64)) (.cons (.v (.int .u64)) .nil)))),(.cons (.v (.int .i64)) (.cons (.box 141 (.st (.part 1 (.box 113 (.st (.part 952 (.v (.st 19)) (.part 1 (.box 185 (.v (.st 24))) (.part 320 (.v (.st 21)) (.part 1 (.row 3 1 (.int .i64)) .nil)))))) (.part 1 (.v (.int .i64)) .nil)))) .nil)),[some 0,some 1,some 2,none], .nil,[],[[0]]⟩ (λx=>uy n x.1 x.2.1 x.2.2.1 x.2.2.2.1 x.2.2.2.2.1 x.2.2.2.2.2.1 x.2.2.2.2.2.2.1 x.2.2.2.2.2.2.2.1) (λy=>(y.1,y.2.1,y.2.2.1,y.2.2.2.1,y.2.2.2.2.1,y.2.2.2.2.2.1)) (λz=>(z.1,(z.2.1,(z.2.2.1,(z.2.2.2.1,(z.2.2.2.2.1,(z.2.2.2.2.2,())))))))
def cK(n:Nat)(cL:ae)(dc:aj)(dy:ai)(dx:(List Int))(cF:Int)(dF:Int)(dD:Int)(Bs:Int)(a1:Int)(a2:Int):Option (ae×aj×ai×(List Int)×Int×Int×Int×Int):=
cn ((Bs==0)) (
bd (uy n cL dc dy dx cF dF a1 a2) λaA=>
lt (aA.1:Int) λaQ=>
some (aA.2.1,aA.2.2.1,aA.2.2.2.1,aA.2.2.2.2.1,aA.2.2.2.2.2,dF,dD,aQ)) (
some (cL,dc,dy,dx,cF,dF,dD,Bs))
def iN(n:Nat):CT:=cV (tC n [] [Il n] []) ⟨30,[],(.cons (.box 150 (.st (.part 3 (.st (.part 1 (.box 141 (.st (.part 1 (.box 113 (.st (.part 952 (.v (.st 19)) (.part 1 (.box 185 (.v (.st 24))) (.part 320 (.v (.st 21)) (.part 1 (.row 3 1 (.int .i64)) .nil)))))) (.part 1 (.v (.int .i64)) .nil)))) (.part 1 (.v (.int .u32)) (.part 1 (.v (.int .i64)) .nil)))) (.part 1 (.v (.int .i64)) .nil)))) (.cons (.v (.int .i64)) (.cons (.v (.int .u64)) .nil))),(.cons (.jy .nil) (.cons (.box 150 (.st (.part 3 (.st (.part 1 (.box 141 (.st (.part 1 (.box 113 (.st (.part 952 (.v (.st 19)) (.part 1 (.box 185 (.v (.st 24))) (.part 320 (.v (.st 21)) (.part 1 (.row 3 1 (.int .i64)) .nil)))))) (.part 1 (.v (.int .i64)) .nil)))) (.part 1 (.v (.int .u32)) (.part 1 (.v (.int .i64)) .nil)))) (.part 1 (.v (.int .i64)) .nil)))) .nil)),[some 0,some 1,some 2,some 3,none], .nil,[],[[0]]⟩ (λx=>cK n x.1 x.2.1 x.2.2.1 x.2.2.2.1 x.2.2.2.2.1 x.2.2.2.2.2.1 x.2.2.2.2.2.2.1 x.2.2.2.2.2.2.2.1 x.2.2.2.2.2.2.2.2.1 x.2.2.2.2.2.2.2.2.2.1) (λy=>(y.1,y.2.1,y.2.2.1,y.2.2.2.1,y.2.2.2.2.1,y.2.2.2.2.2.1,y.2.2.2.2.2.2.1,y.2.2.2.2.2.2.2.1)) (λz=>(z.1,(z.2.1,(z.2.2.1,(z.2.2.2.1,(z.2.2.2.2.1,(z.2.2.2.2.2.1,(z.2.2.2.2.2.2.1,(z.2.2.2.2.2.2.2,())))))))))
def bh(n:Nat)(cL:ae)(dc:aj)(dy:ai)(dx:(List Int))(cF:Int)(dF:Int)(dD:Int)(Bs:Int)(a1:Int)(a2:Int):Option (ae×aj×ai×(List Int)×Int×Int×Int×Int):=
bd (cK n cL dc dy dx cF dF dD Bs (wr .i64 (dD+a1)) a2) λaA=>
some (aA.1,aA.2.1,aA.2.2.1,aA.2.2.2.1,aA.2.2.2.2.1,aA.2.2.2.2.2.1,aA.2.2.2.2.2.2.1,aA.2.2.2.2.2.2.2)
def jI(n:Nat):CT:=cV (tC n [] [iN n] []) ⟨31,[],(.cons (.box 150 (.st (.part 3 (.st (.part 1 (.box 141 (.st (.part 1 (.box 113 (.st (.part 952 (.v (.st 19)) (.part 1 (.box 185 (.v (.st 24))) (.part 320 (.v (.st 21)) (.part 1 (.row 3 1 (.int .i64)) .nil)))))) (.part 1 (.v (.int .i64)) .nil)))) (.part 1 (.v (.int .u32)) (.part 1 (.v (.int .i64)) .nil)))) (.part 1 (.v (.int .i64)) .nil)))) (.cons (.v (.int .i64)) (.cons (.v (.int .u64)) .nil))),(.cons (.jy .nil) (.cons (.box 150 (.st (.part 3 (.st (.part 1 (.box 141 (.st (.part 1 (.box 113 (.st (.part 952 (.v (.st 19)) (.part 1 (.box 185 (.v (.st 24))) (.part 320 (.v (.st 21)) (.part 1 (.row 3 1 (.int .i64)) .nil)))))) (.part 1 (.v (.int .i64)) .nil)))) (.part 1 (.v (.int .u32)) (.part 1 (.v (.int .i64)) .nil)))) (.part 1 (.v (.int .i64)) .nil)))) .nil)),[some 0,some 1,some 2,some 3,none], .nil,[],[[0]]⟩ (λx=>bh n x.1 x.2.1 x.2.2.1 x.2.2.2.1 x.2.2.2.2.1 x.2.2.2.2.2.1 x.2.2.2.2.2.2.1 x.2.2.2.2.2.2.2.1 x.2.2.2.2.2.2.2.2.1 x.2.2.2.2.2.2.2.2.2.1) (λy=>(y.1,y.2.1,y.2.2.1,y.2.2.2.1,y.2.2.2.2.1,y.2.2.2.2.2.1,y.2.2.2.2.2.2.1,y.2.2.2.2.2.2.2.1)) (λz=>(z.1,(z.2.1,(z.2.2.1,(z.2.2.2.1,(z.2.2.2.2.1,(z.2.2.2.2.2.1,(z.2.2.2.2.2.2.1,(z.2.2.2.2.2.2.2,())))))))))
def iy(n:Nat)(cL:ae)(dc:aj)(dy:ai)(dx:(List Int))(cF:Int)(dF:Int)(dD:Int)(Bs:Int):Option (Int×ae×aj×ai×(List Int)×Int×Int×Int×Int):=
bd (bQ n cL dc dy dx cF dF dD Bs 24) λaA=>
cn ((aA.2.2.2.2.2.2.2.2!=0)) (
some (0,aA.2.1,aA.2.2.1,aA.2.2.2.1,aA.2.2.2.2.1,aA.2.2.2.2.2.1,aA.2.2.2.2.2.2.1,aA.2.2.2.2.2.2.2.1,aA.2.2.2.2.2.2.2.2)) (
cn ((aA.1==0)) (
bd (ef n aA.2.1 aA.2.2.1 aA.2.2.2.1 aA.2.2.2.2.1 aA.2.2.2.2.2.1 aA.2.2.2.2.2.2.1 16 8) λaQ=>
lt (aQ.2.1:Int) λbS=>
some (aQ.1,aQ.2.2.1,aQ.2.2.2.1,aQ.2.2.2.2.1,aQ.2.2.2.2.2.1,aQ.2.2.2.2.2.2,aA.2.2.2.2.2.2.1,aA.2.2.2.2.2.2.2.1,bS)) (
bd (gV n aA.1) λcB=>
bd (cz n aA.2.1 aA.2.2.1 aA.2.2.2.1 aA.2.2.2.2.1 aA.2.2.2.2.2.1 aA.2.2.2.2.2.2.1 aA.2.2.2.2.2.2.2.1 aA.2.2.2.2.2.2.2.2 (wr .i64 (cB+0))) λdS=>
bd (bh n dS.2.1 dS.2.2.1 dS.2.2.2.1 dS.2.2.2.2.1 dS.2.2.2.2.2.1 dS.2.2.2.2.2.2.1 dS.2.2.2.2.2.2.2.1 dS.2.2.2.2.2.2.2.2 24 dS.1) λeP=>
bd (gV n aA.1) λdk=>
some (dk,eP.1,eP.2.1,eP.2.2.1,eP.2.2.2.1,eP.2.2.2.2.1,eP.2.2.2.2.2.1,eP.2.2.2.2.2.2.1,eP.2.2.2.2.2.2.2)))
def vp(n:Nat):CT:=cV (tC n [] [fB n,qW n,sy n,gN n,jI n] []) ⟨29,[],(.cons (.box 150 (.st (.part 3 (.st (.part 1 (.box 141 (.st (.part 1 (.box 113 (.st (.part 952 (.v (.st 19)) (.part 1 (.box 185 (.v (.st 24))) (.part 320 (.v (.st 21)) (.part 1 (.row 3 1 (.int .i64)) .nil)))))) (.part 1 (.v (.int .i64)) .nil)))) (.part 1 (.v (.int .u32)) (.part 1 (.v (.int .i64)) .nil)))) (.part 1 (.v (.int .i64)) .nil)))) .nil),(.cons (.v (.int .i64)) (.cons (.box 150 (.st (.part 3 (.st (.part 1 (.box 141 (.st (.part 1 (.box 113 (.st (.part 952 (.v (.st 19)) (.part 1 (.box 185 (.v (.st 24))) (.part 320 (.v (.st 21)) (.part 1 (.row 3 1 (.int .i64)) .nil)))))) (.part 1 (.v (.int .i64)) .nil)))) (.part 1 (.v (.int .u32)) (.part 1 (.v (.int .i64)) .nil)))) (.part 1 (.v (.int .i64)) .nil)))) .nil)),[some 0,some 1,some 2,some 3,none], .nil,[],[[0]]⟩ (λx=>iy n x.1 x.2.1 x.2.2.1 x.2.2.2.1 x.2.2.2.2.1 x.2.2.2.2.2.1 x.2.2.2.2.2.2.1 x.2.2.2.2.2.2.2.1) (λy=>(y.1,y.2.1,y.2.2.1,y.2.2.2.1,y.2.2.2.2.1,y.2.2.2.2.2.1,y.2.2.2.2.2.2.1,y.2.2.2.2.2.2.2.1,y.2.2.2.2.2.2.2.2.1)) (λz=>(z.1,(z.2.1,(z.2.2.1,(z.2.2.2.1,(z.2.2.2.2.1,(z.2.2.2.2.2.1,(z.2.2.2.2.2.2.1,(z.2.2.2.2.2.2.2.1,(z.2.2.2.2.2.2.2.2,()))))))))))
def gi(n:Nat)(a0:Int):Option Int:=
some (wr .u64 ((wr .u64 a0)+1))
def yo(n:Nat):CT:=cV (tC n [] [] []) ⟨32,[],(.cons (.v (.int .i64)) .nil),(.cons (.v (.int .u64)) .nil),[], .nil,[],[]⟩ (λx=>gi n x.1) (λy=>(y.1)) (λz=>(z,()))
def jN(n:Nat)(cL:ae)(dc:aj)(dy:ai)(dx:(List Int))(cF:Int)(dF:Int)(dD:Int)(a1:Int):Option (Int×ae×aj×ai×(List Int)×Int×Int×Int):=
bd (bQ n cL dc dy dx cF dF dD 0 16) λaA=>
bd (bQ n aA.2.1 aA.2.2.1 aA.2.2.2.1 aA.2.2.2.2.1 aA.2.2.2.2.2.1 aA.2.2.2.2.2.2.1 aA.2.2.2.2.2.2.2.1 aA.2.2.2.2.2.2.2.2 8) λaQ=>
bd (iy n aQ.2.1 aQ.2.2.1 aQ.2.2.2.1 aQ.2.2.2.2.1 aQ.2.2.2.2.2.1 aQ.2.2.2.2.2.2.1 aQ.2.2.2.2.2.2.2.1 aQ.2.2.2.2.2.2.2.2) λbS=>
bd (cK n bS.2.1 bS.2.2.1 bS.2.2.2.1 bS.2.2.2.2.1 bS.2.2.2.2.2.1 bS.2.2.2.2.2.2.1 bS.2.2.2.2.2.2.2.1 bS.2.2.2.2.2.2.2.2 (wr .i64 (bS.1+0)) 0) λcB=>
bd (cK n cB.1 cB.2.1 cB.2.2.1 cB.2.2.2.1 cB.2.2.2.2.1 cB.2.2.2.2.2.1 cB.2.2.2.2.2.2.1 cB.2.2.2.2.2.2.2 (wr .i64 (bS.1+8)) a1) λdS=>
lt (λ(eP:ae) (dk:aj) (eH:ai) (gM:(List Int)) (ep:Int) (dP:Int) (jo:Int) (eV:Int)=>
bd (gi n bS.1) λfR=>
bd (bh n eP dk eH gM ep dP jo eV 8 fR) λjx=>
bd (bh n jx.1 jx.2.1 jx.2.2.1 jx.2.2.2.1 jx.2.2.2.2.1 jx.2.2.2.2.2.1 jx.2.2.2.2.2.2.1 jx.2.2.2.2.2.2.2 16 (wr .u64 (aA.1+1))) λdV=>
some (dV.2.2.2.2.2.2.2,dV.1,dV.2.1,dV.2.2.1,dV.2.2.2.1,dV.2.2.2.2.1,dF,dD)) λYM=>
cn ((aA.1==0)) (
bd (gi n bS.1) λjk=>
bd (bh n dS.1 dS.2.1 dS.2.2.1 dS.2.2.2.1 dS.2.2.2.2.1 dS.2.2.2.2.2.1 dS.2.2.2.2.2.2.1 dS.2.2.2.2.2.2.2 0 jk) λgR=>
YM gR.1 gR.2.1 gR.2.2.1 gR.2.2.2.1 gR.2.2.2.2.1 gR.2.2.2.2.2.1 gR.2.2.2.2.2.2.1 gR.2.2.2.2.2.2.2) (
bd (gV n aQ.1) λmU=>
bd (gi n bS.1) λgF=>
bd (cK n dS.1 dS.2.1 dS.2.2.1 dS.2.2.2.1 dS.2.2.2.2.1 dS.2.2.2.2.2.1 dS.2.2.2.2.2.2.1 dS.2.2.2.2.2.2.2 (wr .i64 (mU+0)) gF) λlJ=>
YM lJ.1 lJ.2.1 lJ.2.2.1 lJ.2.2.2.1 lJ.2.2.2.2.1 lJ.2.2.2.2.2.1 lJ.2.2.2.2.2.2.1 lJ.2.2.2.2.2.2.2)
def vr(n:Nat):CT:=cV (tC n [(80150000014, .join [(.via 0, .box 150 (.st (.part 3 (.st (.part 1 (.box 141 (.st (.part 1 (.box 113 (.st (.part 952 (.v (.st 19)) (.part 1 (.box 185 (.v (.st 24))) (.part 320 (.v (.st 21)) (.part 1 (.row 3 1 (.int .i64)) .nil)))))) (.part 1 (.v (.int .i64)) .nil)))) (.part 1 (.v (.int .u32)) (.part 1 (.v (.int .i64)) .nil)))) (.part 1 (.v (.int .i64)) .nil))))] [])] [fB n,vp n,iN n,yo n,jI n,sy n] []) ⟨9,[],(.cons (.st (.part 1 (.box 141 (.st (.part 1 (.box 113 (.st (.part 952 (.v (.st 19)) (.part 1 (.box 185 (.v (.st 24))) (.part 320 (.v (.st 21)) (.part 1 (.row 3 1 (.int .i64)) .nil)))))) (.part 1 (.v (.int .i64)) .nil)))) (.part 1 (.v (.int .u32)) (.part 1 (.v (.int .i64)) .nil)))) (.cons (.v (.int .u64)) .nil)),(.cons (.v (.int .i64)) (.cons (.st (.part 1 (.box 141 (.st (.part 1 (.box 113 (.st (.part 952 (.v (.st 19)) (.part 1 (.box 185 (.v (.st 24))) (.part 320 (.v (.st 21)) (.part 1 (.row 3 1 (.int .i64)) .nil)))))) (.part 1 (.v (.int .i64)) .nil)))) (.part 1 (.v (.int .u32)) (.part 1 (.v (.int .i64)) .nil)))) .nil)),[some 0,some 1,some 2,none], .nil,[],[[0]]⟩ (λx=>jN n x.1 x.2.1 x.2.2.1 x.2.2.2.1 x.2.2.2.2.1 x.2.2.2.2.2.1 x.2.2.2.2.2.2.1 x.2.2.2.2.2.2.2.1) (λy=>(y.1,y.2.1,y.2.2.1,y.2.2.2.1,y.2.2.2.2.1,y.2.2.2.2.2.1,y.2.2.2.2.2.2.1,y.2.2.2.2.2.2.2.1)) (λz=>(z.1,(z.2.1,(z.2.2.1,(z.2.2.2.1,(z.2.2.2.2.1,(z.2.2.2.2.2.1,(z.2.2.2.2.2.2.1,(z.2.2.2.2.2.2.2,())))))))))
def kQ(n:Nat)(cL:ae)(dc:aj)(dy:ai)(dx:(List Int))(cF:Int)(dF:Int)(dD:Int)(a1:Int):Option (Int×ae×aj×ai×(List Int)×Int×Int×Int):=
bd (bQ n cL dc dy dx cF dF dD 0 16) λaA=>
bd (bQ n aA.2.1 aA.2.2.1 aA.2.2.2.1 aA.2.2.2.2.1 aA.2.2.2.2.2.1 aA.2.2.2.2.2.2.1 aA.2.2.2.2.2.2.2.1 aA.2.2.2.2.2.2.2.2 0) λaQ=>
bd (iy n aQ.2.1 aQ.2.2.1 aQ.2.2.2.1 aQ.2.2.2.2.1 aQ.2.2.2.2.2.1 aQ.2.2.2.2.2.2.1 aQ.2.2.2.2.2.2.2.1 aQ.2.2.2.2.2.2.2.2) λbS=>
bd (cK n bS.2.1 bS.2.2.1 bS.2.2.2.1 bS.2.2.2.2.1 bS.2.2.2.2.2.1 bS.2.2.2.2.2.2.1 bS.2.2.2.2.2.2.2.1 bS.2.2.2.2.2.2.2.2 (wr .i64 (bS.1+0)) aQ.1) λcB=>
bd (cK n cB.1 cB.2.1 cB.2.2.1 cB.2.2.2.1 cB.2.2.2.2.1 cB.2.2.2.2.2.1 cB.2.2.2.2.2.2.1 cB.2.2.2.2.2.2.2 (wr .i64 (bS.1+8)) a1) λdS=>
bd (gi n bS.1) λeP=>
bd (bh n dS.1 dS.2.1 dS.2.2.1 dS.2.2.2.1 dS.2.2.2.2.1 dS.2.2.2.2.2.1 dS.2.2.2.2.2.2.1 dS.2.2.2.2.2.2.2 0 eP) λdk=>
lt (λ(eH:ae) (gM:aj) (ep:ai) (dP:(List Int)) (jo:Int) (eV:Int) (cJ:Int) (fR:Int)=>
bd (bh n eH gM ep dP jo eV cJ fR 16 (wr .u64 (aA.1+1))) λdV=>
some (dV.2.2.2.2.2.2.2,dV.1,dV.2.1,dV.2.2.1,dV.2.2.2.1,dV.2.2.2.2.1,dF,dD)) λj36=>
cn ((aA.1==0)) (
bd (gi n bS.1) λjk=>
bd (bh n dk.1 dk.2.1 dk.2.2.1 dk.2.2.2.1 dk.2.2.2.2.1 dk.2.2.2.2.2.1 dk.2.2.2.2.2.2.1 dk.2.2.2.2.2.2.2 8 jk) λgR=>
j36 gR.1 gR.2.1 gR.2.2.1 gR.2.2.2.1 gR.2.2.2.2.1 gR.2.2.2.2.2.1 gR.2.2.2.2.2.2.1 gR.2.2.2.2.2.2.2) (
j36 dk.1 dk.2.1 dk.2.2.1 dk.2.2.2.1 dk.2.2.2.2.1 dk.2.2.2.2.2.1 dk.2.2.2.2.2.2.1 dk.2.2.2.2.2.2.2)
def uc(n:Nat):CT:=cV (tC n [(80150000014, .join [(.via 0, .box 150 (.st (.part 3 (.st (.part 1 (.box 141 (.st (.part 1 (.box 113 (.st (.part 952 (.v (.st 19)) (.part 1 (.box 185 (.v (.st 24))) (.part 320 (.v (.st 21)) (.part 1 (.row 3 1 (.int .i64)) .nil)))))) (.part 1 (.v (.int .i64)) .nil)))) (.part 1 (.v (.int .u32)) (.part 1 (.v (.int .i64)) .nil)))) (.part 1 (.v (.int .i64)) .nil))))] [])] [fB n,vp n,iN n,yo n,jI n] []) ⟨23,[],(.cons (.st (.part 1 (.box 141 (.st (.part 1 (.box 113 (.st (.part 952 (.v (.st 19)) (.part 1 (.box 185 (.v (.st 24))) (.part 320 (.v (.st 21)) (.part 1 (.row 3 1 (.int .i64)) .nil)))))) (.part 1 (.v (.int .i64)) .nil)))) (.part 1 (.v (.int .u32)) (.part 1 (.v (.int .i64)) .nil)))) (.cons (.v (.int .u64)) .nil)),(.cons (.v (.int .i64)) (.cons (.st (.part 1 (.box 141 (.st (.part 1 (.box 113 (.st (.part 952 (.v (.st 19)) (.part 1 (.box 185 (.v (.st 24))) (.part 320 (.v (.st 21)) (.part 1 (.row 3 1 (.int .i64)) .nil)))))) (.part 1 (.v (.int .i64)) .nil)))) (.part 1 (.v (.int .u32)) (.part 1 (.v (.int .i64)) .nil)))) .nil)),[some 0,some 1,some 2,none], .nil,[],[[0]]⟩ (λx=>kQ n x.1 x.2.1 x.2.2.1 x.2.2.2.1 x.2.2.2.2.1 x.2.2.2.2.2.1 x.2.2.2.2.2.2.1 x.2.2.2.2.2.2.2.1) (λy=>(y.1,y.2.1,y.2.2.1,y.2.2.2.1,y.2.2.2.2.1,y.2.2.2.2.2.1,y.2.2.2.2.2.2.1,y.2.2.2.2.2.2.2.1)) (λz=>(z.1,(z.2.1,(z.2.2.1,(z.2.2.2.1,(z.2.2.2.2.1,(z.2.2.2.2.2.1,(z.2.2.2.2.2.2.1,(z.2.2.2.2.2.2.2,())))))))))
def jr(n:Nat)(cL:ae)(dc:aj)(dy:ai)(dx:(List Int))(cF:Int)(dF:Int)(dD:Int):Option (Int×Int×ae×aj×ai×(List Int)×Int×Int×Int):=
bd (bQ n cL dc dy dx cF dF dD 0 16) λaA=>
bd (bQ n aA.2.1 aA.2.2.1 aA.2.2.2.1 aA.2.2.2.2.1 aA.2.2.2.2.2.1 aA.2.2.2.2.2.2.1 aA.2.2.2.2.2.2.2.1 aA.2.2.2.2.2.2.2.2 0) λaQ=>
bd (bQ n aQ.2.1 aQ.2.2.1 aQ.2.2.2.1 aQ.2.2.2.2.1 aQ.2.2.2.2.2.1 aQ.2.2.2.2.2.2.1 aQ.2.2.2.2.2.2.2.1 aQ.2.2.2.2.2.2.2.2 24) λbS=>
lt (λ(cB:ae) (dS:aj) (eP:ai) (dk:(List Int)) (eH:Int) (gM:Int) (ep:Int) (dP:Int)=>
bd (gV n aQ.1) λeV=>
bd (cz n cB dS eP dk eH gM ep dP (wr .i64 (eV+0))) λcJ=>
bd (cz n cJ.2.1 cJ.2.2.1 cJ.2.2.2.1 cJ.2.2.2.2.1 cJ.2.2.2.2.2.1 cJ.2.2.2.2.2.2.1 cJ.2.2.2.2.2.2.2.1 cJ.2.2.2.2.2.2.2.2 (wr .i64 (eV+8))) λfR=>
lt (fR.1:Int) λjx=>
bd (cK n fR.2.1 fR.2.2.1 fR.2.2.2.1 fR.2.2.2.2.1 fR.2.2.2.2.2.1 fR.2.2.2.2.2.2.1 fR.2.2.2.2.2.2.2.1 fR.2.2.2.2.2.2.2.2 (wr .i64 (eV+0)) bS.1) λdV=>
bd (bh n dV.1 dV.2.1 dV.2.2.1 dV.2.2.2.1 dV.2.2.2.2.1 dV.2.2.2.2.2.1 dV.2.2.2.2.2.2.1 dV.2.2.2.2.2.2.2 24 aQ.1) λjk=>
bd (bh n jk.1 jk.2.1 jk.2.2.1 jk.2.2.2.1 jk.2.2.2.2.1 jk.2.2.2.2.2.1 jk.2.2.2.2.2.2.1 jk.2.2.2.2.2.2.2 0 cJ.1) λgR=>
lt (λ(mU:ae) (gF:aj) (lJ:ai) (v5:(List Int)) (vZ:Int) (IS:Int) (vi:Int) (Fu:Int)=>
bd (bh n mU gF lJ v5 vZ IS vi Fu 16 (wr .u64 (aA.1-1))) λqV=>
lt (λ(tZ:Int)=>
lt (tZ:Int) λJR=>
some (JR,qV.2.2.2.2.2.2.2,qV.1,qV.2.1,qV.2.2.1,qV.2.2.2.1,qV.2.2.2.2.1,dF,dD)) λUB=>
cn ((qV.2.2.2.2.2.2.2!=0)) (
UB 0) (
UB jx)) λj48=>
cn ((aA.1==1)) (
bd (bh n gR.1 gR.2.1 gR.2.2.1 gR.2.2.2.1 gR.2.2.2.2.1 gR.2.2.2.2.2.1 gR.2.2.2.2.2.2.1 gR.2.2.2.2.2.2.2 8 0) λyh=>
j48 yh.1 yh.2.1 yh.2.2.1 yh.2.2.2.1 yh.2.2.2.2.1 yh.2.2.2.2.2.1 yh.2.2.2.2.2.2.1 yh.2.2.2.2.2.2.2) (
j48 gR.1 gR.2.1 gR.2.2.1 gR.2.2.2.1 gR.2.2.2.2.1 gR.2.2.2.2.2.1 gR.2.2.2.2.2.2.1 gR.2.2.2.2.2.2.2)) λXd=>
cn (((bS.2.2.2.2.2.2.2.2==0)&&(aA.1==0))) (
Xd bS.2.1 bS.2.2.1 bS.2.2.2.1 bS.2.2.2.2.1 bS.2.2.2.2.2.1 bS.2.2.2.2.2.2.1 bS.2.2.2.2.2.2.2.1 10) (
Xd bS.2.1 bS.2.2.1 bS.2.2.2.1 bS.2.2.2.2.1 bS.2.2.2.2.2.1 bS.2.2.2.2.2.2.1 bS.2.2.2.2.2.2.2.1 bS.2.2.2.2.2.2.2.2)
def w9(n:Nat):CT:=cV (tC n [(70150000006, .join [(.via 0, .box 150 (.st (.part 3 (.st (.part 1 (.box 141 (.st (.part 1 (.box 113 (.st (.part 952 (.v (.st 19)) (.part 1 (.box 185 (.v (.st 24))) (.part 320 (.v (.st 21)) (.part 1 (.row 3 1 (.int .i64)) .nil)))))) (.part 1 (.v (.int .i64)) .nil)))) (.part 1 (.v (.int .u32)) (.part 1 (.v (.int .i64)) .nil)))) (.part 1 (.v (.int .i64)) .nil))))] []),(70150000022, .join [(.via 0, .box 150 (.st (.part 3 (.st (.part 1 (.box 141 (.st (.part 1 (.box 113 (.st (.part 952 (.v (.st 19)) (.part 1 (.box 185 (.v (.st 24))) (.part 320 (.v (.st 21)) (.part 1 (.row 3 1 (.int .i64)) .nil)))))) (.part 1 (.v (.int .i64)) .nil)))) (.part 1 (.v (.int .u32)) (.part 1 (.v (.int .i64)) .nil)))) (.part 1 (.v (.int .i64)) .nil))))] []),(8, .join [(.via 2, .box 33 (.v (.int .u64)))] [])] [fB n,sy n,gN n,iN n,jI n] []) ⟨24,[],(.cons (.st (.part 1 (.box 141 (.st (.part 1 (.box 113 (.st (.part 952 (.v (.st 19)) (.part 1 (.box 185 (.v (.st 24))) (.part 320 (.v (.st 21)) (.part 1 (.row 3 1 (.int .i64)) .nil)))))) (.part 1 (.v (.int .i64)) .nil)))) (.part 1 (.v (.int .u32)) (.part 1 (.v (.int .i64)) .nil)))) .nil),(.cons (.jy (.cons (.v (.int .u64)) (.cons (.v (.int .i64)) .nil))) (.cons (.st (.part 1 (.box 141 (.st (.part 1 (.box 113 (.st (.part 952 (.v (.st 19)) (.part 1 (.box 185 (.v (.st 24))) (.part 320 (.v (.st 21)) (.part 1 (.row 3 1 (.int .i64)) .nil)))))) (.part 1 (.v (.int .i64)) .nil)))) (.part 1 (.v (.int .u32)) (.part 1 (.v (.int .i64)) .nil)))) .nil)),[some 0,some 1,some 2,none], .nil,[],[[0]]⟩ (λx=>jr n x.1 x.2.1 x.2.2.1 x.2.2.2.1 x.2.2.2.2.1 x.2.2.2.2.2.1 x.2.2.2.2.2.2.1) (λy=>(y.1,y.2.1,y.2.2.1,y.2.2.2.1,y.2.2.2.2.1,y.2.2.2.2.2.1,y.2.2.2.2.2.2.1,y.2.2.2.2.2.2.2.1,y.2.2.2.2.2.2.2.2.1)) (λz=>(z.1,(z.2.1,(z.2.2.1,(z.2.2.2.1,(z.2.2.2.2.1,(z.2.2.2.2.2.1,(z.2.2.2.2.2.2.1,(z.2.2.2.2.2.2.2.1,(z.2.2.2.2.2.2.2.2,()))))))))))
def mN(n:Nat)(cL:ae)(dc:aj)(dy:ai)(dx:(List Int))(cF:Int)(dF:Int)(dD:Int)(Bs:Int):Option (ae×aj×ai×(List Int)×Int×Int×Int×Int):=
bd (bQ n cL dc dy dx cF dF dD Bs 16) λaA=>
bd (bQ n aA.2.1 aA.2.2.1 aA.2.2.2.1 aA.2.2.2.2.1 aA.2.2.2.2.2.1 aA.2.2.2.2.2.2.1 aA.2.2.2.2.2.2.2.1 aA.2.2.2.2.2.2.2.2 0) λaQ=>
lt (λ(bS:ae) (cB:aj) (dS:ai) (eP:(List Int)) (dk:Int) (eH:Int) (gM:Int) (ep:Int)=>
wF (λk43 (jo:Int) (eV:Int) (cJ:(List Int)) (fR:ae) (jx:aj) (dV:ai) (jk:(List Int)) (gR:Int) (mU:Int) (gF:Int) (lJ:Int)=>
cn (decide (jo<aA.1)) (
lt (λ(vZ:ae) (IS:aj) (vi:ai) (Fu:(List Int)) (zW:Int) (qV:Int) (tZ:Int) (C4:Int)=>
cl (((C4 !=0)==false)) (gV n eV) default λyh=>
cn ((C4 !=0)) (
wG (λk64 (lu:Int) (qc:Int) (FY:ae) (yg:aj) (Nc:ai) (FX:(List Int)) (zF:Int) (WZ:Int) (JQ:Int) (Sw:Int)=>
cn (decide (lu<(cJ.length:Int))) (
gu (dg lu cJ.length)<|
bd (cK n FY yg Nc FX zF WZ JQ Sw (wr .i64 ((cJ.getD (Int.toNat lu) default)+0)) qc) λvh=>
bd (gi n (cJ.getD (Int.toNat lu) default)) λSv=>
k64 (wr .i64 (lu+1)) Sv vh.1 vh.2.1 vh.2.2.1 vh.2.2.2.1 vh.2.2.2.2.1 vh.2.2.2.2.2.1 vh.2.2.2.2.2.2.1 vh.2.2.2.2.2.2.2) (
cn (decide (0<(cJ.length:Int))) (
bd (bh n FY yg Nc FX zF WZ JQ Sw 0 qc) λJP=>
gu (dg 0 cJ.length)<|
bd (gi n (cJ.getD (Int.toNat 0) default)) λJO=>
bd (bh n JP.1 JP.2.1 JP.2.2.1 JP.2.2.2.1 JP.2.2.2.2.1 JP.2.2.2.2.2.1 JP.2.2.2.2.2.2.1 JP.2.2.2.2.2.2.2 8 JO) λIk=>
some (Ik.1,Ik.2.1,Ik.2.2.1,Ik.2.2.2.1,Ik.2.2.2.2.1,Ik.2.2.2.2.2.1,Ik.2.2.2.2.2.2.1,Ik.2.2.2.2.2.2.2)) (
some (FY,yg,Nc,FX,zF,WZ,JQ,Sw)))) n 0 0 vZ IS vi Fu zW qV tZ C4) (
gu (gC cJ.length [yh].length 8)<|
lt (cJ++[yh]:List Int) λx70=>
bd (gV n eV) λx71=>
bd (cz n vZ IS vi Fu zW qV tZ C4 (wr .i64 (x71+0))) λNb=>
k43 (wr .u64 (jo+1)) Nb.1 x70 Nb.2.1 Nb.2.2.1 Nb.2.2.2.1 Nb.2.2.2.2.1 Nb.2.2.2.2.2.1 Nb.2.2.2.2.2.2.1 Nb.2.2.2.2.2.2.2.1 Nb.2.2.2.2.2.2.2.2)) λj52=>
cn (((lJ==0)&&(eV==0))) (
j52 fR jx dV jk gR mU gF 3) (
j52 fR jx dV jk gR mU gF lJ)) (
wG (λk83 (JN:Int) (x74:Int) (x75:ae) (C3:aj) (Ss:ai) (Qz:(List Int)) (Qy:Int) (x80:Int) (Xr:Int) (x82:Int)=>
cn (decide (JN<(cJ.length:Int))) (
gu (dg JN cJ.length)<|
bd (cK n x75 C3 Ss Qz Qy x80 Xr x82 (wr .i64 ((cJ.getD (Int.toNat JN) default)+0)) x74) λEL=>
bd (gi n (cJ.getD (Int.toNat JN) default)) λXq=>
k83 (wr .i64 (JN+1)) Xq EL.1 EL.2.1 EL.2.2.1 EL.2.2.2.1 EL.2.2.2.2.1 EL.2.2.2.2.2.1 EL.2.2.2.2.2.2.1 EL.2.2.2.2.2.2.2) (
cn (decide (0<(cJ.length:Int))) (
bd (bh n x75 C3 Ss Qz Qy x80 Xr x82 0 x74) λLt=>
gu (dg 0 cJ.length)<|
bd (gi n (cJ.getD (Int.toNat 0) default)) λx87=>
bd (bh n Lt.1 Lt.2.1 Lt.2.2.1 Lt.2.2.2.1 Lt.2.2.2.2.1 Lt.2.2.2.2.2.1 Lt.2.2.2.2.2.2.1 Lt.2.2.2.2.2.2.2 8 x87) λFW=>
some (FW.1,FW.2.1,FW.2.2.1,FW.2.2.2.1,FW.2.2.2.2.1,FW.2.2.2.2.2.1,FW.2.2.2.2.2.2.1,FW.2.2.2.2.2.2.2)) (
some (x75,C3,Ss,Qz,Qy,x80,Xr,x82)))) n 0 0 fR jx dV jk gR mU gF lJ)) n 0 aQ.1 [] bS cB dS eP dk eH gM ep) λj31=>
cn (((aQ.2.2.2.2.2.2.2.2==0)&&(decide (128<aA.1)))) (
j31 aQ.2.1 aQ.2.2.1 aQ.2.2.2.1 aQ.2.2.2.2.1 aQ.2.2.2.2.2.1 aQ.2.2.2.2.2.2.1 aQ.2.2.2.2.2.2.2.1 3) (
j31 aQ.2.1 aQ.2.2.1 aQ.2.2.2.1 aQ.2.2.2.2.1 aQ.2.2.2.2.2.1 aQ.2.2.2.2.2.2.1 aQ.2.2.2.2.2.2.2.1 aQ.2.2.2.2.2.2.2.2)
def A3(n:Nat):CT:=cV (tC n [(9990000006, .join [(.via 5, .box 150 (.st (.part 3 (.st (.part 1 (.box 141 (.st (.part 1 (.box 113 (.st (.part 952 (.v (.st 19)) (.part 1 (.box 185 (.v (.st 24))) (.part 320 (.v (.st 21)) (.part 1 (.row 3 1 (.int .i64)) .nil)))))) (.part 1 (.v (.int .i64)) .nil)))) (.part 1 (.v (.int .u32)) (.part 1 (.v (.int .i64)) .nil)))) (.part 1 (.v (.int .i64)) .nil))))] []),(9990000009, .loop [(.cY 20, .v (.int .u64)),(.cY 4, .v (.int .u64)),(.frm 0 2, .box 111 (.row 3 1 (.int .i64))),(.via 5, .box 150 (.st (.part 3 (.st (.part 1 (.box 141 (.st (.part 1 (.box 113 (.st (.part 952 (.v (.st 19)) (.part 1 (.box 185 (.v (.st 24))) (.part 320 (.v (.st 21)) (.part 1 (.row 3 1 (.int .i64)) .nil)))))) (.part 1 (.v (.int .i64)) .nil)))) (.part 1 (.v (.int .u32)) (.part 1 (.v (.int .i64)) .nil)))) (.part 1 (.v (.int .i64)) .nil))))]),(9990000014, .join [(.via 5, .box 150 (.st (.part 3 (.st (.part 1 (.box 141 (.st (.part 1 (.box 113 (.st (.part 952 (.v (.st 19)) (.part 1 (.box 185 (.v (.st 24))) (.part 320 (.v (.st 21)) (.part 1 (.row 3 1 (.int .i64)) .nil)))))) (.part 1 (.v (.int .i64)) .nil)))) (.part 1 (.v (.int .u32)) (.part 1 (.v (.int .i64)) .nil)))) (.part 1 (.v (.int .i64)) .nil))))] []),(13, .loop [(.cY 18, .v (.int .i64)),(.cY 4, .v (.int .u64)),(.via 0, .box 150 (.st (.part 3 (.st (.part 1 (.box 141 (.st (.part 1 (.box 113 (.st (.part 952 (.v (.st 19)) (.part 1 (.box 185 (.v (.st 24))) (.part 320 (.v (.st 21)) (.part 1 (.row 3 1 (.int .i64)) .nil)))))) (.part 1 (.v (.int .i64)) .nil)))) (.part 1 (.v (.int .u32)) (.part 1 (.v (.int .i64)) .nil)))) (.part 1 (.v (.int .i64)) .nil))))])] [fB n,sy n,iN n,yo n,jI n,gN n] []) ⟨58,[],(.cons (.box 150 (.st (.part 3 (.st (.part 1 (.box 141 (.st (.part 1 (.box 113 (.st (.part 952 (.v (.st 19)) (.part 1 (.box 185 (.v (.st 24))) (.part 320 (.v (.st 21)) (.part 1 (.row 3 1 (.int .i64)) .nil)))))) (.part 1 (.v (.int .i64)) .nil)))) (.part 1 (.v (.int .u32)) (.part 1 (.v (.int .i64)) .nil)))) (.part 1 (.v (.int .i64)) .nil)))) .nil),(.cons (.jy .nil) (.cons (.box 150 (.st (.part 3 (.st (.part 1 (.box 141 (.st (.part 1 (.box 113 (.st (.part 952 (.v (.st 19)) (.part 1 (.box 185 (.v (.st 24))) (.part 320 (.v (.st 21)) (.part 1 (.row 3 1 (.int .i64)) .nil)))))) (.part 1 (.v (.int .i64)) .nil)))) (.part 1 (.v (.int .u32)) (.part 1 (.v (.int .i64)) .nil)))) (.part 1 (.v (.int .i64)) .nil)))) .nil)),[some 0,some 1,some 2,some 3,none], .nil,[],[[0]]⟩ (λx=>mN n x.1 x.2.1 x.2.2.1 x.2.2.2.1 x.2.2.2.2.1 x.2.2.2.2.2.1 x.2.2.2.2.2.2.1 x.2.2.2.2.2.2.2.1) (λy=>(y.1,y.2.1,y.2.2.1,y.2.2.2.1,y.2.2.2.2.1,y.2.2.2.2.2.1,y.2.2.2.2.2.2.1,y.2.2.2.2.2.2.2.1)) (λz=>(z.1,(z.2.1,(z.2.2.1,(z.2.2.2.1,(z.2.2.2.2.1,(z.2.2.2.2.2.1,(z.2.2.2.2.2.2.1,(z.2.2.2.2.2.2.2,())))))))))
def mh(n:Nat)(cL:ae)(dc:aj)(dy:ai)(dx:(List Int))(cF:Int)(dF:Int)(dD:Int):Option (Int×ae×aj×ai×(List Int)×Int×Int×Int):=
bd (mN n cL dc dy dx cF dF dD 0) λaA=>
some (aA.2.2.2.2.2.2.2,aA.1,aA.2.1,aA.2.2.1,aA.2.2.2.1,aA.2.2.2.2.1,dF,dD)
def vq(n:Nat):CT:=cV (tC n [] [A3 n] []) ⟨25,[],(.cons (.st (.part 1 (.box 141 (.st (.part 1 (.box 113 (.st (.part 952 (.v (.st 19)) (.part 1 (.box 185 (.v (.st 24))) (.part 320 (.v (.st 21)) (.part 1 (.row 3 1 (.int .i64)) .nil)))))) (.part 1 (.v (.int .i64)) .nil)))) (.part 1 (.v (.int .u32)) (.part 1 (.v (.int .i64)) .nil)))) .nil),(.cons (.v (.int .i64)) (.cons (.st (.part 1 (.box 141 (.st (.part 1 (.box 113 (.st (.part 952 (.v (.st 19)) (.part 1 (.box 185 (.v (.st 24))) (.part 320 (.v (.st 21)) (.part 1 (.row 3 1 (.int .i64)) .nil)))))) (.part 1 (.v (.int .i64)) .nil)))) (.part 1 (.v (.int .u32)) (.part 1 (.v (.int .i64)) .nil)))) .nil)),[some 0,some 1,some 2,none], .nil,[],[[0]]⟩ (λx=>mh n x.1 x.2.1 x.2.2.1 x.2.2.2.1 x.2.2.2.2.1 x.2.2.2.2.2.1 x.2.2.2.2.2.2.1) (λy=>(y.1,y.2.1,y.2.2.1,y.2.2.2.1,y.2.2.2.2.1,y.2.2.2.2.2.1,y.2.2.2.2.2.2.1,y.2.2.2.2.2.2.2.1)) (λz=>(z.1,(z.2.1,(z.2.2.1,(z.2.2.2.1,(z.2.2.2.2.1,(z.2.2.2.2.2.1,(z.2.2.2.2.2.2.1,(z.2.2.2.2.2.2.2,())))))))))
def nn(n:Nat)(cL:ae)(dc:aj)(dy:ai)(dx:(List Int))(cF:Int)(dF:Int)(dD:Int):Option (Int×Int×ae×aj×ai×(List Int)×Int×Int×Int):=
bd (bQ n cL dc dy dx cF dF dD 0 16) λaA=>
lt (wr .i64 aA.1:Int) λaQ=>
lt (aQ:Int) λbS=>
some (bS,aA.2.2.2.2.2.2.2.2,aA.2.1,aA.2.2.1,aA.2.2.2.1,aA.2.2.2.2.1,aA.2.2.2.2.2.1,dF,dD)
def xb(n:Nat):CT:=cV (tC n [] [fB n] []) ⟨11,[],(.cons (.st (.part 1 (.box 141 (.st (.part 1 (.box 113 (.st (.part 952 (.v (.st 19)) (.part 1 (.box 185 (.v (.st 24))) (.part 320 (.v (.st 21)) (.part 1 (.row 3 1 (.int .i64)) .nil)))))) (.part 1 (.v (.int .i64)) .nil)))) (.part 1 (.v (.int .u32)) (.part 1 (.v (.int .i64)) .nil)))) .nil),(.cons (.jy (.cons (.v (.int .i64)) (.cons (.v (.int .i64)) .nil))) (.cons (.st (.part 1 (.box 141 (.st (.part 1 (.box 113 (.st (.part 952 (.v (.st 19)) (.part 1 (.box 185 (.v (.st 24))) (.part 320 (.v (.st 21)) (.part 1 (.row 3 1 (.int .i64)) .nil)))))) (.part 1 (.v (.int .i64)) .nil)))) (.part 1 (.v (.int .u32)) (.part 1 (.v (.int .i64)) .nil)))) .nil)),[some 0,some 1,some 2,none], .nil,[],[[0]]⟩ (λx=>nn n x.1 x.2.1 x.2.2.1 x.2.2.2.1 x.2.2.2.2.1 x.2.2.2.2.2.1 x.2.2.2.2.2.2.1) (λy=>(y.1,y.2.1,y.2.2.1,y.2.2.2.1,y.2.2.2.2.1,y.2.2.2.2.2.1,y.2.2.2.2.2.2.1,y.2.2.2.2.2.2.2.1,y.2.2.2.2.2.2.2.2.1)) (λz=>(z.1,(z.2.1,(z.2.2.1,(z.2.2.2.1,(z.2.2.2.2.1,(z.2.2.2.2.2.1,(z.2.2.2.2.2.2.1,(z.2.2.2.2.2.2.2.1,(z.2.2.2.2.2.2.2.2,()))))))))))
def AO(n:Nat)(cL:ae)(dc:aj)(dy:ai)(dx:(List Int))(cF:Int)(dF:Int)(dD:Int):Option ((List Int)×Int×ae×aj×ai×(List Int)×Int×Int×Int):=
bd (bQ n cL dc dy dx cF dF dD 0 16) λaA=>
bd (bQ n aA.2.1 aA.2.2.1 aA.2.2.2.1 aA.2.2.2.2.1 aA.2.2.2.2.2.1 aA.2.2.2.2.2.2.1 aA.2.2.2.2.2.2.2.1 aA.2.2.2.2.2.2.2.2 0) λaQ=>
lt (λ(bS:ae) (cB:aj) (dS:ai) (eP:(List Int)) (dk:Int) (eH:Int) (gM:Int) (ep:Int)=>
wF (λk43 (jo:Int) (eV:Int) (cJ:ae) (fR:aj) (jx:ai) (dV:(List Int)) (jk:Int) (gR:Int) (mU:Int) (gF:Int) (lJ:(List Int))=>
cn (decide (jo<aA.1)) (
lt (λ(vZ:ae) (IS:aj) (vi:ai) (Fu:(List Int)) (zW:Int) (qV:Int) (tZ:Int) (C4:Int)=>
cl (((C4 !=0)==false)) (gV n eV) default λyh=>
cn ((C4 !=0)) (
cn ((C4 !=0)) (
some ([],C4,vZ,IS,vi,Fu,zW,dF,dD)) (
some (lJ,C4,vZ,IS,vi,Fu,zW,dF,dD))) (
bd (cz n vZ IS vi Fu zW qV tZ C4 (wr .i64 (yh+8))) λlu=>
gu (gC lJ.length [lu.1].length 8)<|
lt (lJ++[lu.1]:List Int) λqc=>
bd (gV n eV) λFY=>
bd (cz n lu.2.1 lu.2.2.1 lu.2.2.2.1 lu.2.2.2.2.1 lu.2.2.2.2.2.1 lu.2.2.2.2.2.2.1 lu.2.2.2.2.2.2.2.1 lu.2.2.2.2.2.2.2.2 (wr .i64 (FY+0))) λyg=>
k43 (wr .u64 (jo+1)) yg.1 yg.2.1 yg.2.2.1 yg.2.2.2.1 yg.2.2.2.2.1 yg.2.2.2.2.2.1 yg.2.2.2.2.2.2.1 yg.2.2.2.2.2.2.2.1 yg.2.2.2.2.2.2.2.2 qc)) λj52=>
cn (((gF==0)&&(eV==0))) (
j52 cJ fR jx dV jk gR mU 3) (
j52 cJ fR jx dV jk gR mU gF)) (
cn ((gF !=0)) (
some ([],gF,cJ,fR,jx,dV,jk,dF,dD)) (
some (lJ,gF,cJ,fR,jx,dV,jk,dF,dD)))) n 0 aQ.1 bS cB dS eP dk eH gM ep []) λj31=>
cn (((aQ.2.2.2.2.2.2.2.2==0)&&(decide (128<aA.1)))) (
j31 aQ.2.1 aQ.2.2.1 aQ.2.2.2.1 aQ.2.2.2.2.1 aQ.2.2.2.2.2.1 aQ.2.2.2.2.2.2.1 aQ.2.2.2.2.2.2.2.1 3) (
j31 aQ.2.1 aQ.2.2.1 aQ.2.2.2.1 aQ.2.2.2.2.1 aQ.2.2.2.2.2.1 aQ.2.2.2.2.2.2.1 aQ.2.2.2.2.2.2.2.1 aQ.2.2.2.2.2.2.2.2)
def EV(n:Nat):CT:=cV (tC n [(70159990000006, .join [(.via 5, .box 150 (.st (.part 3 (.st (.part 1 (.box 141 (.st (.part 1 (.box 113 (.st (.part 952 (.v (.st 19)) (.part 1 (.box 185 (.v (.st 24))) (.part 320 (.v (.st 21)) (.part 1 (.row 3 1 (.int .i64)) .nil)))))) (.part 1 (.v (.int .i64)) .nil)))) (.part 1 (.v (.int .u32)) (.part 1 (.v (.int .i64)) .nil)))) (.part 1 (.v (.int .i64)) .nil))))] []),(70159990000009, .loop [(.cY 20, .v (.int .u64)),(.cY 4, .v (.int .u64)),(.via 5, .box 150 (.st (.part 3 (.st (.part 1 (.box 141 (.st (.part 1 (.box 113 (.st (.part 952 (.v (.st 19)) (.part 1 (.box 185 (.v (.st 24))) (.part 320 (.v (.st 21)) (.part 1 (.row 3 1 (.int .i64)) .nil)))))) (.part 1 (.v (.int .i64)) .nil)))) (.part 1 (.v (.int .u32)) (.part 1 (.v (.int .i64)) .nil)))) (.part 1 (.v (.int .i64)) .nil)))),(.frm 0 1, .box 22 (.row 33 1 (.int .u64)))]),(70159990000014, .join [(.via 5, .box 150 (.st (.part 3 (.st (.part 1 (.box 141 (.st (.part 1 (.box 113 (.st (.part 952 (.v (.st 19)) (.part 1 (.box 185 (.v (.st 24))) (.part 320 (.v (.st 21)) (.part 1 (.row 3 1 (.int .i64)) .nil)))))) (.part 1 (.v (.int .i64)) .nil)))) (.part 1 (.v (.int .u32)) (.part 1 (.v (.int .i64)) .nil)))) (.part 1 (.v (.int .i64)) .nil))))] [])] [fB n,sy n,gN n] []) ⟨12,[],(.cons (.st (.part 1 (.box 141 (.st (.part 1 (.box 113 (.st (.part 952 (.v (.st 19)) (.part 1 (.box 185 (.v (.st 24))) (.part 320 (.v (.st 21)) (.part 1 (.row 3 1 (.int .i64)) .nil)))))) (.part 1 (.v (.int .i64)) .nil)))) (.part 1 (.v (.int .u32)) (.part 1 (.v (.int .i64)) .nil)))) .nil),(.cons (.jy (.cons (.row 33 1 (.int .u64)) (.cons (.v (.int .i64)) .nil))) (.cons (.st (.part 1 (.box 141 (.st (.part 1 (.box 113 (.st (.part 952 (.v (.st 19)) (.part 1 (.box 185 (.v (.st 24))) (.part 320 (.v (.st 21)) (.part 1 (.row 3 1 (.int .i64)) .nil)))))) (.part 1 (.v (.int .i64)) .nil)))) (.part 1 (.v (.int .u32)) (.part 1 (.v (.int .i64)) .nil)))) .nil)),[none,some 0,some 1,some 2,none], .nil,[],[[0]]⟩ (λx=>AO n x.1 x.2.1 x.2.2.1 x.2.2.2.1 x.2.2.2.2.1 x.2.2.2.2.2.1 x.2.2.2.2.2.2.1) (λy=>(y.1,y.2.1,y.2.2.1,y.2.2.2.1,y.2.2.2.2.1,y.2.2.2.2.2.1,y.2.2.2.2.2.2.1,y.2.2.2.2.2.2.2.1,y.2.2.2.2.2.2.2.2.1)) (λz=>(z.1,(z.2.1,(z.2.2.1,(z.2.2.2.1,(z.2.2.2.2.1,(z.2.2.2.2.2.1,(z.2.2.2.2.2.2.1,(z.2.2.2.2.2.2.2.1,(z.2.2.2.2.2.2.2.2,()))))))))))
def GH(n:Nat)(cL:ae)(dc:aj)(dy:ai)(dx:(List Int))(cF:Int)(dF:Int)(dD:Int)(a1:aT):Option (Bool×ae×aj×ai×(List Int)×Int×Int×Int):=
bd (nn n cL dc dy dx cF dF dD) λaA=>
bd (AO n aA.2.2.1 aA.2.2.2.1 aA.2.2.2.2.1 aA.2.2.2.2.2.1 aA.2.2.2.2.2.2.1 dF dD) λaQ=>
cn (((((aA.2.1!=0)||(aQ.2.1!=0))||(aA.1!=(a1.L.length:Int)))||((aQ.1.length:Int)!=aA.1))) (
some (false,aQ.2.2.1,aQ.2.2.2.1,aQ.2.2.2.2.1,aQ.2.2.2.2.2.1,aQ.2.2.2.2.2.2.1,dF,dD)) (
iw (λk24 (bS:Int)=>
cn (decide (bS<aA.1)) (
gu (dg bS aQ.1.length)<|
gu (dg bS a1.L.length)<|
cn (((aQ.1.getD (Int.toNat bS) default)!=(a1.L.getD (Int.toNat bS) default))) (
some (false,aQ.2.2.1,aQ.2.2.2.1,aQ.2.2.2.2.1,aQ.2.2.2.2.2.1,aQ.2.2.2.2.2.2.1,dF,dD)) (
k24 (wr .i64 (bS+1)))) (
some (true,aQ.2.2.1,aQ.2.2.2.1,aQ.2.2.2.2.1,aQ.2.2.2.2.2.1,aQ.2.2.2.2.2.2.1,dF,dD))) n 0)
def JU(n:Nat):CT:=cV (tC n [(13, .loop [(.cY 9, .v (.int .i64))])] [xb n,EV n] []) ⟨15,[],(.cons (.st (.part 1 (.box 141 (.st (.part 1 (.box 113 (.st (.part 952 (.v (.st 19)) (.part 1 (.box 185 (.v (.st 24))) (.part 320 (.v (.st 21)) (.part 1 (.row 3 1 (.int .i64)) .nil)))))) (.part 1 (.v (.int .i64)) .nil)))) (.part 1 (.v (.int .u32)) (.part 1 (.v (.int .i64)) .nil)))) (.cons (.v (.st 1)) .nil)),(.cons (.v .bool) (.cons (.st (.part 1 (.box 141 (.st (.part 1 (.box 113 (.st (.part 952 (.v (.st 19)) (.part 1 (.box 185 (.v (.st 24))) (.part 320 (.v (.st 21)) (.part 1 (.row 3 1 (.int .i64)) .nil)))))) (.part 1 (.v (.int .i64)) .nil)))) (.part 1 (.v (.int .u32)) (.part 1 (.v (.int .i64)) .nil)))) .nil)),[some 0,some 1,some 2,none], .nil,[],[[0]]⟩ (λx=>GH n x.1 x.2.1 x.2.2.1 x.2.2.2.1 x.2.2.2.2.1 x.2.2.2.2.2.1 x.2.2.2.2.2.2.1 x.2.2.2.2.2.2.2.1) (λy=>(y.1,y.2.1,y.2.2.1,y.2.2.2.1,y.2.2.2.2.1,y.2.2.2.2.2.1,y.2.2.2.2.2.2.1,y.2.2.2.2.2.2.2.1)) (λz=>(z.1,(z.2.1,(z.2.2.1,(z.2.2.2.1,(z.2.2.2.2.1,(z.2.2.2.2.2.1,(z.2.2.2.2.2.2.1,(z.2.2.2.2.2.2.2,())))))))))
def uA(n:Nat):Option Bool:=
bd (B8 n 64) λaA=>
bd (ux n) λaQ=>
bd (cI n aQ ({({jX with n:=64}:aj)with dX:=aA}:aj) bA [] 0 ({({eF with Do:=1}:aC)with A:=wr .u32 8}:aC)) λbS=>
lt (bS.1:ah) λcB=>
bd (ef n bS.2.1 bS.2.2.1 bS.2.2.2.1 bS.2.2.2.2.1 bS.2.2.2.2.2 cB.W 32 8) λdS=>
cn ((dS.2.1!=0)) (
cn ((!((cB.E==0)&&(dS.2.1==0)))) (
some (false)) (
lt (λ(eP:Int)=>
lt (eP:Int) λ_=>
some (false)) λj27=>
j27 0)) (
cn ((!((cB.E==0)&&true))) (
some (false)) (
bd (jN n dS.2.2.1 dS.2.2.2.1 dS.2.2.2.2.1 dS.2.2.2.2.2.1 dS.2.2.2.2.2.2 cB.W dS.1 1) λgM=>
bd (jN n gM.2.1 gM.2.2.1 gM.2.2.2.1 gM.2.2.2.2.1 gM.2.2.2.2.2.1 cB.W dS.1 2) λep=>
bd (kQ n ep.2.1 ep.2.2.1 ep.2.2.2.1 ep.2.2.2.2.1 ep.2.2.2.2.2.1 cB.W dS.1 0) λdP=>
bd (jr n dP.2.1 dP.2.2.1 dP.2.2.2.1 dP.2.2.2.2.1 dP.2.2.2.2.2.1 cB.W dS.1) λjo=>
bd (mh n jo.2.2.1 jo.2.2.2.1 jo.2.2.2.2.1 jo.2.2.2.2.2.1 jo.2.2.2.2.2.2.1 cB.W dS.1) λeV=>
cn (((((((gM.1==0)&&(ep.1==0))&&(dP.1==0))&&(jo.1==0))&&(jo.2.1==0))&&(eV.1==0))) (
bd (GH n eV.2.1 eV.2.2.1 eV.2.2.2.1 eV.2.2.2.2.1 eV.2.2.2.2.2.1 cB.W dS.1 ({kF with L:=[2,1]}:aT)) λcJ=>
some (cJ.1)) (
some (false))))
def Im(n:Nat):CT:=cV (tC n [(240000008, .join [(.via 2, .box 33 (.v (.int .u64)))] [])] [IV n,AF n,sU n,qW n,vr n,uc n,w9 n,vq n,JU n] []) ⟨8,[], .nil,(.cons (.v .bool) .nil),[], .nil,[],[]⟩ (λ_=>uA n) (λy=>(y.1)) (λz=>(z,()))
def pQ(n:Nat)(a0:aT)(a1:(List Int)):Option aT:=
lt (({L:=a1,rN:=(if a0.rN<(a1.length:Int)then(a1.length:Int)else a0.rN)}:aT):aT) λaA=>
some (aA)
def sN(n:Nat):CT:=cV (tC n [] [] []) ⟨62,[],(.cons (.v (.st 1)) (.cons (.v (.sl (.int .u64))) .nil)),(.cons (.v (.st 1)) .nil),[], .nil,[],[]⟩ (λx=>pQ n x.1 x.2.1) (λy=>(y.1)) (λz=>(z,()))
def pR(n:Nat)(a0:aT)(a1:Int):Option aT:=
gu (gC [a1].length a0.L.length 8)<|
lt ([a1]++a0.L:List Int) λaA=>
bd (pQ n a0 aA) λaQ=>
lt (aQ:aT) λbS=>
some (bS)
def A0(n:Nat):CT:=cV (tC n [] [sN n] []) ⟨41,[],(.cons (.v (.st 1)) (.cons (.v (.int .u64)) .nil)),(.cons (.v (.st 1)) .nil),[], .nil,[],[]⟩ (λx=>pR n x.1 x.2.1) (λy=>(y.1)) (λz=>(z,()))
def tg(n:Nat)(a0:aT):Option (aT×Int×Int):=
cn (((a0.L.length:Int)==0)) (
lt (a0:aT) λaA=>
some (aA,0,10)) (
gu (dg 1 (a0.L.length+1))<|
gu (dg 0 a0.L.length)<|
lt (({L:=a0.L.drop (Int.toNat 1),rN:=a0.rN}:aT):aT) λaQ=>
some (aQ,(a0.L.getD (Int.toNat 0) default),0))
def Db(n:Nat):CT:=cV (tC n [] [] []) ⟨42,[],(.cons (.v (.st 1)) .nil),(.cons (.jy (.cons (.v (.st 1)) (.cons (.v (.int .u64)) (.cons (.v (.int .i64)) .nil)))) .nil),[], .nil,[],[]⟩ (λx=>tg n x.1) (λy=>(y.1,y.2.1,y.2.2.1)) (λz=>(z.1,(z.2.1,(z.2.2,()))))
def jc(n:Nat)(cL:ae)(dc:aj)(dy:ai)(dx:(List Int))(cF:Int)(dF:Int)(dD:Int)(Bs:Int)(a1:Int):Option (Int×ae×aj×ai×(List Int)×Int×Int×Int×Int):=
bd (bQ n cL dc dy dx cF dF dD Bs 16) λaA=>
lt (λ(aQ:ae) (bS:aj) (cB:ai) (dS:(List Int)) (eP:Int) (dk:Int) (eH:Int) (gM:Int)=>
bd (bQ n aQ bS cB dS eP dk eH gM 0) λdP=>
lt (λ(jo:ae) (eV:aj) (cJ:ai) (fR:(List Int)) (jx:Int) (dV:Int) (jk:Int) (gR:Int)=>
wF (λk52 (gF:Int) (lJ:Int) (v5:Int) (vZ:ae) (IS:aj) (vi:ai) (Fu:(List Int)) (zW:Int) (qV:Int) (tZ:Int) (C4:Int)=>
cn (decide (gF<(wr .u64 ((wr .u64 (if 0<a1 then a1 else 0))+1)))) (
lt (λ(yh:ae) (lu:aj) (qc:ai) (FY:(List Int)) (yg:Int) (Nc:Int) (FX:Int) (zF:Int)=>
cl (((zF !=0)==false)) (gV n lJ) default λJQ=>
cn ((zF !=0)) (
some (v5,yh,lu,qc,FY,yg,Nc,FX,zF)) (
lt (JQ:Int) λSw=>
bd (gV n lJ) λQA=>
bd (cz n yh lu qc FY yg Nc FX zF (wr .i64 (QA+0))) λvh=>
k52 (wr .u64 (gF+1)) vh.1 Sw vh.2.1 vh.2.2.1 vh.2.2.2.1 vh.2.2.2.2.1 vh.2.2.2.2.2.1 vh.2.2.2.2.2.2.1 vh.2.2.2.2.2.2.2.1 vh.2.2.2.2.2.2.2.2)) λj61=>
cn (((C4==0)&&(lJ==0))) (
j61 vZ IS vi Fu zW qV tZ 3) (
j61 vZ IS vi Fu zW qV tZ C4)) (
some (v5,vZ,IS,vi,Fu,zW,qV,tZ,C4))) n 0 dP.1 0 jo eV cJ fR jx dV jk gR) λj40=>
cn (((dP.2.2.2.2.2.2.2.2==0)&&(decide (128<(wr .u64 ((wr .u64 (if 0<a1 then a1 else 0))+1)))))) (
j40 dP.2.1 dP.2.2.1 dP.2.2.2.1 dP.2.2.2.2.1 dP.2.2.2.2.2.1 dP.2.2.2.2.2.2.1 dP.2.2.2.2.2.2.2.1 3) (
j40 dP.2.1 dP.2.2.1 dP.2.2.2.1 dP.2.2.2.2.1 dP.2.2.2.2.2.1 dP.2.2.2.2.2.2.1 dP.2.2.2.2.2.2.2.1 dP.2.2.2.2.2.2.2.2)) λj30=>
cn (((aA.2.2.2.2.2.2.2.2==0)&&((decide (a1<0))||(decide (aA.1<=(wr .u64 a1)))))) (
j30 aA.2.1 aA.2.2.1 aA.2.2.2.1 aA.2.2.2.2.1 aA.2.2.2.2.2.1 aA.2.2.2.2.2.2.1 aA.2.2.2.2.2.2.2.1 9) (
j30 aA.2.1 aA.2.2.1 aA.2.2.2.1 aA.2.2.2.2.1 aA.2.2.2.2.2.1 aA.2.2.2.2.2.2.1 aA.2.2.2.2.2.2.2.1 aA.2.2.2.2.2.2.2.2)
def yp(n:Nat):CT:=cV (tC n [(8, .join [(.via 0, .box 150 (.st (.part 3 (.st (.part 1 (.box 141 (.st (.part 1 (.box 113 (.st (.part 952 (.v (.st 19)) (.part 1 (.box 185 (.v (.st 24))) (.part 320 (.v (.st 21)) (.part 1 (.row 3 1 (.int .i64)) .nil)))))) (.part 1 (.v (.int .i64)) .nil)))) (.part 1 (.v (.int .u32)) (.part 1 (.v (.int .i64)) .nil)))) (.part 1 (.v (.int .i64)) .nil))))] []),(9990000006, .join [(.via 5, .box 150 (.st (.part 3 (.st (.part 1 (.box 141 (.st (.part 1 (.box 113 (.st (.part 952 (.v (.st 19)) (.part 1 (.box 185 (.v (.st 24))) (.part 320 (.v (.st 21)) (.part 1 (.row 3 1 (.int .i64)) .nil)))))) (.part 1 (.v (.int .i64)) .nil)))) (.part 1 (.v (.int .u32)) (.part 1 (.v (.int .i64)) .nil)))) (.part 1 (.v (.int .i64)) .nil))))] []),(9990000009, .loop [(.cY 20, .v (.int .u64)),(.cY 4, .v (.int .u64)),(.frm 0 6, .box 3 (.v (.int .i64))),(.via 5, .box 150 (.st (.part 3 (.st (.part 1 (.box 141 (.st (.part 1 (.box 113 (.st (.part 952 (.v (.st 19)) (.part 1 (.box 185 (.v (.st 24))) (.part 320 (.v (.st 21)) (.part 1 (.row 3 1 (.int .i64)) .nil)))))) (.part 1 (.v (.int .i64)) .nil)))) (.part 1 (.v (.int .u32)) (.part 1 (.v (.int .i64)) .nil)))) (.part 1 (.v (.int .i64)) .nil))))]),(9990000014, .join [(.via 5, .box 150 (.st (.part 3 (.st (.part 1 (.box 141 (.st (.part 1 (.box 113 (.st (.part 952 (.v (.st 19)) (.part 1 (.box 185 (.v (.st 24))) (.part 320 (.v (.st 21)) (.part 1 (.row 3 1 (.int .i64)) .nil)))))) (.part 1 (.v (.int .i64)) .nil)))) (.part 1 (.v (.int .u32)) (.part 1 (.v (.int .i64)) .nil)))) (.part 1 (.v (.int .i64)) .nil))))] [])] [fB n,sy n,gN n] []) ⟨40,[],(.cons (.box 150 (.st (.part 3 (.st (.part 1 (.box 141 (.st (.part 1 (.box 113 (.st (.part 952 (.v (.st 19)) (.part 1 (.box 185 (.v (.st 24))) (.part 320 (.v (.st 21)) (.part 1 (.row 3 1 (.int .i64)) .nil)))))) (.part 1 (.v (.int .i64)) .nil)))) (.part 1 (.v (.int .u32)) (.part 1 (.v (.int .i64)) .nil)))) (.part 1 (.v (.int .i64)) .nil)))) (.cons (.v (.int .i64)) .nil)),(.cons (.v (.int .i64)) (.cons (.box 150 (.st (.part 3 (.st (.part 1 (.box 141 (.st (.part 1 (.box 113 (.st (.part 952 (.v (.st 19)) (.part 1 (.box 185 (.v (.st 24))) (.part 320 (.v (.st 21)) (.part 1 (.row 3 1 (.int .i64)) .nil)))))) (.part 1 (.v (.int .i64)) .nil)))) (.part 1 (.v (.int .u32)) (.part 1 (.v (.int .i64)) .nil)))) (.part 1 (.v (.int .i64)) .nil)))) .nil)),[some 0,some 1,some 2,some 3,none], .nil,[],[[0]]⟩ (λx=>jc n x.1 x.2.1 x.2.2.1 x.2.2.2.1 x.2.2.2.2.1 x.2.2.2.2.2.1 x.2.2.2.2.2.2.1 x.2.2.2.2.2.2.2.1 x.2.2.2.2.2.2.2.2.1) (λy=>(y.1,y.2.1,y.2.2.1,y.2.2.2.1,y.2.2.2.2.1,y.2.2.2.2.2.1,y.2.2.2.2.2.2.1,y.2.2.2.2.2.2.2.1,y.2.2.2.2.2.2.2.2.1)) (λz=>(z.1,(z.2.1,(z.2.2.1,(z.2.2.2.1,(z.2.2.2.2.1,(z.2.2.2.2.2.1,(z.2.2.2.2.2.2.1,(z.2.2.2.2.2.2.2.1,(z.2.2.2.2.2.2.2.2,()))))))))))
def qd(n:Nat)(cL:ae)(dc:aj)(dy:ai)(dx:(List Int))(cF:Int)(dF:Int)(dD:Int)(a1:Int)(a2:Int):Option (Int×ae×aj×ai×(List Int)×Int×Int×Int):=
bd (jc n cL dc dy dx cF dF dD 0 a1) λaA=>
bd (cK n aA.2.1 aA.2.2.1 aA.2.2.2.1 aA.2.2.2.2.1 aA.2.2.2.2.2.1 aA.2.2.2.2.2.2.1 aA.2.2.2.2.2.2.2.1 aA.2.2.2.2.2.2.2.2 (wr .i64 (aA.1+8)) a2) λaQ=>
some (aQ.2.2.2.2.2.2.2,aQ.1,aQ.2.1,aQ.2.2.1,aQ.2.2.2.1,aQ.2.2.2.2.1,dF,dD)
def ET(n:Nat):CT:=cV (tC n [] [yp n,iN n] []) ⟨43,[],(.cons (.st (.part 1 (.box 141 (.st (.part 1 (.box 113 (.st (.part 952 (.v (.st 19)) (.part 1 (.box 185 (.v (.st 24))) (.part 320 (.v (.st 21)) (.part 1 (.row 3 1 (.int .i64)) .nil)))))) (.part 1 (.v (.int .i64)) .nil)))) (.part 1 (.v (.int .u32)) (.part 1 (.v (.int .i64)) .nil)))) (.cons (.v (.int .i64)) (.cons (.v (.int .u64)) .nil))),(.cons (.v (.int .i64)) (.cons (.st (.part 1 (.box 141 (.st (.part 1 (.box 113 (.st (.part 952 (.v (.st 19)) (.part 1 (.box 185 (.v (.st 24))) (.part 320 (.v (.st 21)) (.part 1 (.row 3 1 (.int .i64)) .nil)))))) (.part 1 (.v (.int .i64)) .nil)))) (.part 1 (.v (.int .u32)) (.part 1 (.v (.int .i64)) .nil)))) .nil)),[some 0,some 1,some 2,none], .nil,[],[[0]]⟩ (λx=>qd n x.1 x.2.1 x.2.2.1 x.2.2.2.1 x.2.2.2.2.1 x.2.2.2.2.2.1 x.2.2.2.2.2.2.1 x.2.2.2.2.2.2.2.1 x.2.2.2.2.2.2.2.2.1) (λy=>(y.1,y.2.1,y.2.2.1,y.2.2.2.1,y.2.2.2.2.1,y.2.2.2.2.2.1,y.2.2.2.2.2.2.1,y.2.2.2.2.2.2.2.1)) (λz=>(z.1,(z.2.1,(z.2.2.1,(z.2.2.2.1,(z.2.2.2.2.1,(z.2.2.2.2.2.1,(z.2.2.2.2.2.2.1,(z.2.2.2.2.2.2.2,())))))))))
def tf(n:Nat)(a0:aT)(a1:Int)(a2:Int):Option (aT×Int):=
cn (((decide (a1<0))||(decide ((a0.L.length:Int)<=a1)))) (
lt (a0:aT) λaA=>
some (aA,9)) (
gu (gC 0 a0.L.length 8)<|
lt (a0.L:List Int) λaQ=>
gu (dg a1 aQ.length)<|
lt (aQ.set (Int.toNat a1) a2:List Int) λbS=>
lt (({L:=bS,rN:=a0.rN}:aT):aT) λcB=>
some (cB,0))
def Da(n:Nat):CT:=cV (tC n [] [] []) ⟨44,[],(.cons (.v (.st 1)) (.cons (.v (.int .i64)) (.cons (.v (.int .u64)) .nil))),(.cons (.jy (.cons (.v (.st 1)) (.cons (.v (.int .i64)) .nil))) .nil),[], .nil,[],[]⟩ (λx=>tf n x.1 x.2.1 x.2.2.1) (λy=>(y.1,y.2.1)) (λz=>(z.1,(z.2,())))
def q7(n:Nat)(a0:aT):Option aT:=
eS (λk23 (aA:Int) (aQ:(List Int))=>
cn (decide (0<=aA)) (
gu (dg aA a0.L.length)<|
gu (gC aQ.length [(a0.L.getD (Int.toNat aA) default)].length 8)<|
lt (aQ++[(a0.L.getD (Int.toNat aA) default)]:List Int) λcB=>
k23 (wr .i64 (aA-1)) cB) (
lt (({L:=aQ,rN:=a0.rN}:aT):aT) λdS=>
some (dS))) n (wr .i64 ((a0.L.length:Int)-1)) []
def BP(n:Nat):CT:=cV (tC n [(7, .loop [(.cY 4, .v (.int .i64)),(.cY 3, .row 33 1 (.int .u64))])] [] []) ⟨45,[],(.cons (.v (.st 1)) .nil),(.cons (.v (.st 1)) .nil),[], .nil,[],[]⟩ (λx=>q7 n x.1) (λy=>(y.1)) (λz=>(z,()))
def kU(n:Nat)(cL:ae)(dc:aj)(dy:ai)(dx:(List Int))(cF:Int)(dF:Int)(dD:Int)(a1:Int):Option (Int×Int×ae×aj×ai×(List Int)×Int×Int×Int):=
bd (jc n cL dc dy dx cF dF dD 0 a1) λaA=>
bd (cz n aA.2.1 aA.2.2.1 aA.2.2.2.1 aA.2.2.2.2.1 aA.2.2.2.2.2.1 aA.2.2.2.2.2.2.1 aA.2.2.2.2.2.2.2.1 aA.2.2.2.2.2.2.2.2 (wr .i64 (aA.1+8))) λaQ=>
lt (aQ.1:Int) λbS=>
lt (λ(cB:Int)=>
lt (cB:Int) λeP=>
some (eP,aQ.2.2.2.2.2.2.2.2,aQ.2.1,aQ.2.2.1,aQ.2.2.2.1,aQ.2.2.2.2.1,aQ.2.2.2.2.2.1,dF,dD)) λj25=>
cn ((aQ.2.2.2.2.2.2.2.2!=0)) (
j25 0) (
j25 bS)
def EU(n:Nat):CT:=cV (tC n [(8, .join [(.via 4, .box 33 (.v (.int .u64)))] [])] [yp n,gN n] []) ⟨13,[],(.cons (.st (.part 1 (.box 141 (.st (.part 1 (.box 113 (.st (.part 952 (.v (.st 19)) (.part 1 (.box 185 (.v (.st 24))) (.part 320 (.v (.st 21)) (.part 1 (.row 3 1 (.int .i64)) .nil)))))) (.part 1 (.v (.int .i64)) .nil)))) (.part 1 (.v (.int .u32)) (.part 1 (.v (.int .i64)) .nil)))) (.cons (.v (.int .i64)) .nil)),(.cons (.jy (.cons (.v (.int .u64)) (.cons (.v (.int .i64)) .nil))) (.cons (.st (.part 1 (.box 141 (.st (.part 1 (.box 113 (.st (.part 952 (.v (.st 19)) (.part 1 (.box 185 (.v (.st 24))) (.part 320 (.v (.st 21)) (.part 1 (.row 3 1 (.int .i64)) .nil)))))) (.part 1 (.v (.int .i64)) .nil)))) (.part 1 (.v (.int .u32)) (.part 1 (.v (.int .i64)) .nil)))) .nil)),[some 0,some 1,some 2,none], .nil,[],[[0]]⟩ (λx=>kU n x.1 x.2.1 x.2.2.1 x.2.2.2.1 x.2.2.2.2.1 x.2.2.2.2.2.1 x.2.2.2.2.2.2.1 x.2.2.2.2.2.2.2.1) (λy=>(y.1,y.2.1,y.2.2.1,y.2.2.2.1,y.2.2.2.2.1,y.2.2.2.2.2.1,y.2.2.2.2.2.2.1,y.2.2.2.2.2.2.2.1,y.2.2.2.2.2.2.2.2.1)) (λz=>(z.1,(z.2.1,(z.2.2.1,(z.2.2.2.1,(z.2.2.2.2.1,(z.2.2.2.2.2.1,(z.2.2.2.2.2.2.1,(z.2.2.2.2.2.2.2.1,(z.2.2.2.2.2.2.2.2,()))))))))))
def tj(n:Nat)(a0:aT)(a1:Int):Option (Int×Int):=
cn (((decide (a1<0))||(decide ((a0.L.length:Int)<=a1)))) (
some (0,9)) (
gu (dg a1 a0.L.length)<|
some ((a0.L.getD (Int.toNat a1) default),0))
def Dc(n:Nat):CT:=cV (tC n [] [] []) ⟨46,[],(.cons (.v (.st 1)) (.cons (.v (.int .i64)) .nil)),(.cons (.jy (.cons (.v (.int .u64)) (.cons (.v (.int .i64)) .nil))) .nil),[], .nil,[],[]⟩ (λx=>tj n x.1 x.2.1) (λy=>(y.1,y.2.1)) (λz=>(z.1,(z.2,())))
def q8(n:Nat)(a0:aT)(a1:Int):Option aT:=
gu (gC 0 a0.L.length 8)<|
lt (a0.L:List Int) λaA=>
gu (gC aA.length [a1].length 8)<|
lt (aA++[a1]:List Int) λaQ=>
bd (pQ n a0 aQ) λbS=>
lt (bS:aT) λcB=>
some (cB)
def BQ(n:Nat):CT:=cV (tC n [] [sN n] []) ⟨47,[],(.cons (.v (.st 1)) (.cons (.v (.int .u64)) .nil)),(.cons (.v (.st 1)) .nil),[], .nil,[],[]⟩ (λx=>q8 n x.1 x.2.1) (λy=>(y.1)) (λz=>(z,()))
def wH(n:Nat)(cL:ae)(dc:aj)(dy:ai)(dx:(List Int))(cF:Int)(dF:Int)(dD:Int)(a1:aT)(a2:fC):Option (aT×Bool×ae×aj×ai×(List Int)×Int×Int×Int):=
lt (a1:aT) λaA=>
lt (λ(aQ:Int) (bS:Int) (cB:Int) (dS:Int) (eP:ae) (dk:aj) (eH:ai) (gM:(List Int)) (ep:Int) (dP:Int) (jo:Int) (eV:aT)=>
cn (((dS==6)&&(decide (a1.rN<eV.rN)))) (
lt (a1:aT) λfR=>
some (fR,true,eP,dk,eH,gM,ep,dF,dD)) (
lt (eV:aT) λjx=>
some (jx,((dS==cB)&&(bS==aQ)),eP,dk,eH,gM,ep,dF,dD))) λYM=>
cn ((a2.Do==0)) (
bd (kQ n cL dc dy dx cF dF dD a2.V) λdV=>
bd (pR n a1 a2.V) λjk=>
lt (jk:aT) λgR=>
YM 0 0 0 dV.1 dV.2.1 dV.2.2.1 dV.2.2.2.1 dV.2.2.2.2.1 dV.2.2.2.2.2.1 dF dD gR) (
cn ((a2.Do==1)) (
bd (jr n cL dc dy dx cF dF dD) λmU=>
bd (tg n a1) λgF=>
lt (gF.1:aT) λlJ=>
YM gF.2.1 mU.1 gF.2.2 mU.2.1 mU.2.2.1 mU.2.2.2.1 mU.2.2.2.2.1 mU.2.2.2.2.2.1 mU.2.2.2.2.2.2.1 dF dD lJ) (
cn ((a2.Do==2)) (
bd (qd n cL dc dy dx cF dF dD a2.I a2.V) λv5=>
bd (tf n a1 a2.I a2.V) λvZ=>
lt (vZ.1:aT) λIS=>
YM 0 0 vZ.2 v5.1 v5.2.1 v5.2.2.1 v5.2.2.2.1 v5.2.2.2.2.1 v5.2.2.2.2.2.1 dF dD IS) (
cn ((a2.Do==3)) (
bd (mh n cL dc dy dx cF dF dD) λvi=>
bd (q7 n a1) λFu=>
lt (Fu:aT) λzW=>
YM 0 0 0 vi.1 vi.2.1 vi.2.2.1 vi.2.2.2.1 vi.2.2.2.2.1 vi.2.2.2.2.2.1 dF dD zW) (
cn ((a2.Do==4)) (
bd (kU n cL dc dy dx cF dF dD a2.I) λqV=>
bd (tj n a1 a2.I) λtZ=>
YM tZ.1 qV.1 tZ.2 qV.2.1 qV.2.2.1 qV.2.2.2.1 qV.2.2.2.2.1 qV.2.2.2.2.2.1 qV.2.2.2.2.2.2.1 dF dD aA) (
bd (jN n cL dc dy dx cF dF dD a2.V) λC4=>
bd (q8 n a1 a2.V) λJR=>
lt (JR:aT) λyh=>
YM 0 0 0 C4.1 C4.2.1 C4.2.2.1 C4.2.2.2.1 C4.2.2.2.2.1 C4.2.2.2.2.2.1 dF dD yh)))))
def JV(n:Nat):CT:=cV (tC n [(44, .join [(.cY 12, .v (.int .u64)),(.cY 11, .v (.int .u64)),(.cY 10, .v (.int .i64)),(.cY 9, .v (.int .i64)),(.via 3, .box 27 (.st (.part 1 (.box 141 (.st (.part 1 (.box 113 (.st (.part 952 (.v (.st 19)) (.part 1 (.box 185 (.v (.st 24))) (.part 320 (.v (.st 21)) (.part 1 (.row 3 1 (.int .i64)) .nil)))))) (.part 1 (.v (.int .i64)) .nil)))) (.part 1 (.v (.int .u32)) (.part 1 (.v (.int .i64)) .nil))))),(.via 8, .box 44 (.v (.st 1)))] [])] [uc n,A0 n,w9 n,Db n,ET n,Da n,vq n,BP n,EU n,Dc n,vr n,BQ n] []) ⟨14,[],(.cons (.st (.part 1 (.box 141 (.st (.part 1 (.box 113 (.st (.part 952 (.v (.st 19)) (.part 1 (.box 185 (.v (.st 24))) (.part 320 (.v (.st 21)) (.part 1 (.row 3 1 (.int .i64)) .nil)))))) (.part 1 (.v (.int .i64)) .nil)))) (.part 1 (.v (.int .u32)) (.part 1 (.v (.int .i64)) .nil)))) (.cons (.v (.st 1)) (.cons (.v (.st 0)) .nil))),(.cons (.jy (.cons (.v (.st 1)) (.cons (.v .bool) .nil))) (.cons (.st (.part 1 (.box 141 (.st (.part 1 (.box 113 (.st (.part 952 (.v (.st 19)) (.part 1 (.box 185 (.v (.st 24))) (.part 320 (.v (.st 21)) (.part 1 (.row 3 1 (.int .i64)) .nil)))))) (.part 1 (.v (.int .i64)) .nil)))) (.part 1 (.v (.int .u32)) (.part 1 (.v (.int .i64)) .nil)))) .nil)),[some 0,some 1,some 2,none], .nil,[],[[0]]⟩ (λx=>wH n x.1 x.2.1 x.2.2.1 x.2.2.2.1 x.2.2.2.2.1 x.2.2.2.2.2.1 x.2.2.2.2.2.2.1 x.2.2.2.2.2.2.2.1 x.2.2.2.2.2.2.2.2.1) (λy=>(y.1,y.2.1,y.2.2.1,y.2.2.2.1,y.2.2.2.2.1,y.2.2.2.2.2.1,y.2.2.2.2.2.2.1,y.2.2.2.2.2.2.2.1,y.2.2.2.2.2.2.2.2.1)) (λz=>(z.1,(z.2.1,(z.2.2.1,(z.2.2.2.1,(z.2.2.2.2.1,(z.2.2.2.2.2.1,(z.2.2.2.2.2.2.1,(z.2.2.2.2.2.2.2.1,(z.2.2.2.2.2.2.2.2,()))))))))))
def tA(n:Nat)(a0:(List fC)):Option Bool:=
cn (decide (80<(a0.length:Int))) (
bd (uA n) λaA=>
some (aA)) (
bd (B8 n 64) λaQ=>
bd (ux n) λbS=>
bd (cI n bS ({({jX with n:=64}:aj)with dX:=aQ}:aj) bA [] 0 ({({eF with Do:=1}:aC)with A:=wr .u32 64}:aC)) λcB=>
lt (cB.1:ah) λdS=>
bd (ef n cB.2.1 cB.2.2.1 cB.2.2.2.1 cB.2.2.2.2.1 cB.2.2.2.2.2 dS.W 32 8) λeP=>
cn ((eP.2.1!=0)) (
cn ((!((dS.E==0)&&(eP.2.1==0)))) (
some (false)) (
none)) (
cn ((!((dS.E==0)&&true))) (
some (false)) (
wG (λIa (dk:Int) (eH:Int) (gM:Int) (ep:ae) (dP:aj) (jo:ai) (eV:(List Int)) (cJ:Int) (fR:Int) (jx:Int)=>
cn (decide (dk<(a0.length:Int))) (
gu (dg dk a0.length)<|
gu (dg dk a0.length)<|
bd (wH n ep dP jo eV cJ fR jx kF ({Do:=(a0.getD (Int.toNat dk) default).Do,I:=(-1),V:=(a0.getD (Int.toNat dk) default).V}:fC)) λjk=>
lt (jk.1:aT) λ_=>
bd (nn n jk.2.2.1 jk.2.2.2.1 jk.2.2.2.2.1 jk.2.2.2.2.2.1 jk.2.2.2.2.2.2.1 fR jx) λmU=>
gu (!(((((mU.2.1!=0)||(decide (mU.1<(wr .i64 (gM-1)))))||(decide ((wr .i64 (gM+1))<mU.1)))==false)&&((jk.2.1&&(mU.1!=gM))==true))||dg dk a0.length)<|
gu (!(((((mU.2.1!=0)||(decide (mU.1<(wr .i64 (gM-1)))))||(decide ((wr .i64 (gM+1))<mU.1)))==false)&&(((jk.2.1&&(mU.1!=gM))&&(decide (1<((a0.getD (Int.toNat dk) default).Do))))==true))||dg dk a0.length)<|
cn (((((mU.2.1!=0)||(decide (mU.1<(wr .i64 (gM-1)))))||(decide ((wr .i64 (gM+1))<mU.1)))||(((jk.2.1&&(mU.1!=gM))&&(decide (1<((a0.getD (Int.toNat dk) default).Do))))&&(decide (((a0.getD (Int.toNat dk) default).Do)<5))))) (
some (false)) (
Ia (wr .i64 (dk+1)) (if eH<mU.1 then mU.1 else eH) mU.1 mU.2.2.1 mU.2.2.2.1 mU.2.2.2.2.1 mU.2.2.2.2.2.1 mU.2.2.2.2.2.2.1 fR jx)) (
bd (gJ n eV) λ_=>
bd (dW n ep.dH.T fR) λlJ=>
lt (lJ.1:aL) λv5=>
cl ((((lJ.2==0)&&(v5.E.dZ==(wr .i64 (32+(wr .i64 (eH*16))))))==true)) (uA n) default λvZ=>
some ((((lJ.2==0)&&(v5.E.dZ==(wr .i64 (32+(wr .i64 (eH*16))))))&&vZ)))) n 0 0 0 eP.2.2.1 eP.2.2.2.1 eP.2.2.2.2.1 eP.2.2.2.2.2.1 eP.2.2.2.2.2.2 dS.W eP.1)))
def Dm(n:Nat):CT:=cV (tC n [(17, .loop [(.cY 7, .v (.int .i64)),(.cY 6, .v (.int .i64)),(.cY 5, .v (.int .i64)),(.via 3, .box 27 (.st (.part 1 (.box 141 (.st (.part 1 (.box 113 (.st (.part 952 (.v (.st 19)) (.part 1 (.box 185 (.v (.st 24))) (.part 320 (.v (.st 21)) (.part 1 (.row 3 1 (.int .i64)) .nil)))))) (.part 1 (.v (.int .i64)) .nil)))) (.part 1 (.v (.int .u32)) (.part 1 (.v (.int .i64)) .nil)))))])] [Im n,IV n,AF n,sU n,qW n,JV n,xb n,z8 n,eR n] []) ⟨6,[],(.cons (.v (.sl (.st 0))) .nil),(.cons (.v .bool) .nil),[], .nil,[],[]⟩ (λx=>tA n x.1) (λy=>(y.1)) (λz=>(z,()))
end
end Go.Proofs.Z
