/- Part 14 of what a proof leans on; pruned and shortened by a program out of longer texts. -/
import Derived.Test.YtgdmofhmmhcmjaaGreatDoorQ13
namespace Go.Proofs.Z
open Go Go.Bw Go.Rw Go.RowKit
noncomputable section
abbrev tC(n:Nat)(h:List (Nat×Hn))(cs:List CT)(YG:List (It Tryz.prog sg)):xu Tryz.prog sg:=ag7 tt zt n h cs YG eks
def fY(n:Nat)(a0:ae)(a1:Int)(a2:aC):Option Int:=
bd (bJ n a0 a1 a2) λaA=>
cn (decide (0<aA)) (
some (0)) (
bd (cq n a0 a1 a2 aB) λaR=>
lt (aR.1:ae) λ_=>
lt (aR.2.1:ah) λcE=>
some (cE.E))
def BO(n:Nat):CT:=cV (tC n [] [m9 n,vm n] []) ⟨70,[],(.cons (.v (.st 19)) (.cons (.v (.int .i64)) (.cons (.v (.st 3)) .nil))),(.cons (.v (.int .i64)) .nil),[], .nil,[],[]⟩ (λx=>fY n x.1 x.2.1 x.2.2.1) (λy=>(y.1)) (λz=>(z,()))
def pT(n:Nat)(a0:ae)(a1:Int)(a2:aC):Option Bool:=
cl (((a2.Do==15)==true)) (fY n a0 a1 a2) default λaA=>
some (((a2.Do==15)&&(aA==10)))
def BN(n:Nat):CT:=cV (tC n [] [BO n] []) ⟨64,[],(.cons (.v (.st 19)) (.cons (.v (.int .i64)) (.cons (.v (.st 3)) .nil))),(.cons (.v .bool) .nil),[], .nil,[],[]⟩ (λx=>pT n x.1 x.2.1 x.2.2.1) (λy=>(y.1)) (λz=>(z,()))
def fe(n:Nat)(cL:ae)(da:aj)(dx:ai)(dw:(List Int))(a1:av):Option (ae×aj×ai×(List Int)):=
xm (λk26 (aA:Int) (aR:ae) (bS:aj) (cE:ai) (dU:(List Int))=>
cn (decide (aA<a1.N)) (
gu (gN dU.length [wr .i64 (a1.At+aA)].length 8)<|
lt (dU++[wr .i64 (a1.At+aA)]:List Int) λdB=>
k26 (wr .i64 (aA+1)) aR bS cE dB) (
some (aR,bS,cE,dU))) n 0 cL da dx dw
def tZ(n:Nat):CT:=cV (tC n [(5, .loop [(.dh 7, .v (.int .i64)),(.via 0, .box 113 (.st (.part 952 (.v (.st 19)) (.part 1 (.box 185 (.v (.st 24))) (.part 320 (.v (.st 21)) (.part 1 (.row 3 1 (.int .i64)) .nil))))))])] [] []) ⟨76,[],(.cons (.box 113 (.st (.part 952 (.v (.st 19)) (.part 1 (.box 185 (.v (.st 24))) (.part 320 (.v (.st 21)) (.part 1 (.row 3 1 (.int .i64)) .nil)))))) (.cons (.v (.st 4)) .nil)),(.cons (.jv .nil) (.cons (.box 113 (.st (.part 952 (.v (.st 19)) (.part 1 (.box 185 (.v (.st 24))) (.part 320 (.v (.st 21)) (.part 1 (.row 3 1 (.int .i64)) .nil)))))) .nil)),[some 0,some 1,none], .nil,[],[[0]]⟩ (λx=>fe n x.1 x.2.1 x.2.2.1 x.2.2.2.1 x.2.2.2.2.1) (λy=>(y.1,y.2.1,y.2.2.1,y.2.2.2.1)) (λz=>(z.1,(z.2.1,(z.2.2.1,(z.2.2.2,())))))
def vH(n:Nat)(a0:Int)(a1:Int):Option Bool:=
some (((((decide (0<=a0))&&(decide (a0<32)))&&(decide (0<=a1)))&&(decide (a1<8))))
def AW(n:Nat):CT:=cV (tC n [] [] []) ⟨96,[],(.cons (.v (.int .i64)) (.cons (.v (.int .i64)) .nil)),(.cons (.v .bool) .nil),[], .nil,[],[]⟩ (λx=>vH n x.1 x.2.1) (λy=>(y.1)) (λz=>(z,()))
def nK(n:Nat)(a0:ai)(a1:Int)(a2:Int):Option ai:=
lt (λ(aA:ai)=>
lt (aA:ai) λbS=>
some (bS)) λWX=>
bd (vH n a1 a2) λcE=>
gu (!(cE==true)||dk a1 32)<|
cn ((cE&&((wr .i64 ((a0.bw (Int.toNat a1)).EX))==(wr .i64 (a2+1))))) (
gu (dk a1 32)<|
lt (({a0 with bw:=(iC a0.bw (Int.toNat a1) ({(a0.bw (Int.toNat a1))with EX:=0}:cj))}:ai):ai) λdU=>
WX dU) (
WX a0)
def BS(n:Nat):CT:=cV (tC n [(6, .join [(.via 3, .box 110 (.v (.st 21)))] [])] [AW n] []) ⟨95,[],(.cons (.v (.st 21)) (.cons (.v (.int .i64)) (.cons (.v (.int .i64)) .nil))),(.cons (.v (.st 21)) .nil),[], .nil,[],[]⟩ (λx=>nK n x.1 x.2.1 x.2.2.1) (λy=>(y.1)) (λz=>(z,()))
def uf(n:Nat)(a0:(List Int))(a1:Int):Option Int:=
iv (λk22 (aA:Int)=>
cn (decide (aA<(a0.length:Int))) (
gu (dk aA a0.length)<|
cn ((a1==(a0.getD (Int.toNat aA) default))) (
some (aA)) (
k22 (wr .i64 (aA+1)))) (
some ((-1)))) n 0
def zV(n:Nat):CT:=cV (tC n [(5, .loop [(.dh 8, .v (.int .i64))])] [] []) ⟨130,[],(.cons (.v (.sl (.int .u8))) (.cons (.v (.int .u8)) .nil)),(.cons (.v (.int .i64)) .nil),[], .nil,[],[]⟩ (λx=>uf n x.1 x.2.1) (λy=>(y.1)) (λz=>(z,()))
def kR(n:Nat)(a0:cj)(a1:Int):Option Int:=
gu (dk a0.n 9)<|
bd (uf n ((List.range (Int.toNat a0.n)).map a0.EH) (wr .u8 a1)) λaA=>
some (aA)
def tV(n:Nat):CT:=cV (tC n [(1000008, .JZ)] [zV n] []) ⟨112,[],(.cons (.v (.st 20)) (.cons (.v (.int .i64)) .nil)),(.cons (.v (.int .i64)) .nil),[], .nil,[],[]⟩ (λx=>kR n x.1 x.2.1) (λy=>(y.1)) (λz=>(z,()))
def ja(n:Nat)(a0:cj)(a1:Int):Option cj:=
bd (kR n a0 a1) λaA=>
cn (decide (aA<0)) (
lt (a0:cj) λaR=>
some (aR)) (
gu (dk aA 9)<|
gu (dk (wr .i64 (aA+1)) 9)<|
lt (({a0 with EH:=cpA (Int.toNat aA) (Int.toNat (wr .i64 (aA+1))) 8 a0.EH}:cj):cj) λbS=>
lt (({bS with n:=wr .i64 (bS.n-1)}:cj):cj) λcE=>
gu (dk cE.n 8)<|
lt (({cE with EH:=(iC cE.EH (Int.toNat cE.n) 0)}:cj):cj) λdU=>
lt (dU:cj) λeM=>
some (eM))
def rH(n:Nat):CT:=cV (tC n [] [tV n] []) ⟨97,[],(.cons (.v (.st 20)) (.cons (.v (.int .i64)) .nil)),(.cons (.v (.st 20)) .nil),[], .nil,[],[]⟩ (λx=>ja n x.1 x.2.1) (λy=>(y.1)) (λz=>(z,()))
def cZ(n:Nat)(a0:ai)(a1:Int):Option ai:=
eP (λk23 (aA:Int) (aR:ai)=>
cn (decide (aA<32)) (
lt (λ(cE:ai)=>
k23 (wr .i64 (aA+1)) cE) λj25=>
bd (nK n aR aA a1) λeM=>
lt (eM:ai) λdB=>
bd (vH n aA a1) λeS=>
cn (eS) (
gu (dk aA 32)<|
bd (ja n (dB.bw (Int.toNat aA)) a1) λic=>
gu (dk aA 32)<|
lt (({dB with bw:=(iC dB.bw (Int.toNat aA) ic)}:ai):ai) λeo=>
j25 eo) (
j25 dB)) (
lt (aR:ai) λdP=>
some (dP))) n 0 a0
def BR(n:Nat):CT:=cV (tC n [(5, .loop [(.dh 6, .v (.int .i64)),(.via 2, .box 110 (.v (.st 21)))]),(14, .join [(.via 2, .box 110 (.v (.st 21)))] [])] [BS n,AW n,rH n] []) ⟨77,[],(.cons (.v (.st 21)) (.cons (.v (.int .i64)) .nil)),(.cons (.v (.st 21)) .nil),[], .nil,[],[]⟩ (λx=>cZ n x.1 x.2.1) (λy=>(y.1)) (λz=>(z,()))
def kY(n:Nat)(cL:ae)(da:aj)(dx:ai)(dw:(List Int))(a1:aF):Option (ae×aj×ai×(List Int)):=
bd (fe n cL da dx dw a1.xV) λaA=>
bd (cZ n aA.2.2.1 a1.jW) λaR=>
lt (aR:ai) λbS=>
some (aA.1,aA.2.1,bS,aA.2.2.2)
def w9(n:Nat):CT:=cV (tC n [] [tZ n,BR n] []) ⟨66,[],(.cons (.box 113 (.st (.part 952 (.v (.st 19)) (.part 1 (.box 185 (.v (.st 24))) (.part 320 (.v (.st 21)) (.part 1 (.row 3 1 (.int .i64)) .nil)))))) (.cons (.v (.st 22)) .nil)),(.cons (.jv .nil) (.cons (.box 113 (.st (.part 952 (.v (.st 19)) (.part 1 (.box 185 (.v (.st 24))) (.part 320 (.v (.st 21)) (.part 1 (.row 3 1 (.int .i64)) .nil)))))) .nil)),[some 0,some 1,none], .nil,[],[[0]]⟩ (λx=>kY n x.1 x.2.1 x.2.2.1 x.2.2.2.1 x.2.2.2.2.1) (λy=>(y.1,y.2.1,y.2.2.1,y.2.2.2.1)) (λz=>(z.1,(z.2.1,(z.2.2.1,(z.2.2.2,())))))
def eR(n:Nat)(cL:ae)(da:aj)(dx:ai)(dw:(List Int))(cC:aF)(dF:ah)(dD:Bool)(a1:ah):Option (ae×aj×ai×(List Int)×aF×ah×Bool):=
lt (a1:ah) λaA=>
bd (kY n cL da dx dw cC) λaR=>
some (aR.1,aR.2.1,aR.2.2.1,aR.2.2.2,cC,aA,true)
def nc(n:Nat):CT:=cV (tC n [] [w9 n] []) ⟨84,[],(.cons (.box 173 (.st (.part 1 (.box 113 (.st (.part 952 (.v (.st 19)) (.part 1 (.box 185 (.v (.st 24))) (.part 320 (.v (.st 21)) (.part 1 (.row 3 1 (.int .i64)) .nil)))))) (.part 12 (.v (.st 22)) (.part 3 (.v (.st 2)) (.part 1 (.v .bool) .nil)))))) (.cons (.v (.st 2)) .nil)),(.cons (.jv .nil) (.cons (.box 173 (.st (.part 1 (.box 113 (.st (.part 952 (.v (.st 19)) (.part 1 (.box 185 (.v (.st 24))) (.part 320 (.v (.st 21)) (.part 1 (.row 3 1 (.int .i64)) .nil)))))) (.part 12 (.v (.st 22)) (.part 3 (.v (.st 2)) (.part 1 (.v .bool) .nil)))))) .nil)),[some 0,some 1,some 2,none], .nil,[],[[0]]⟩ (λx=>eR n x.1 x.2.1 x.2.2.1 x.2.2.2.1 x.2.2.2.2.1 x.2.2.2.2.2.1 x.2.2.2.2.2.2.1 x.2.2.2.2.2.2.2.1) (λy=>(y.1,y.2.1,y.2.2.1,y.2.2.2.1,y.2.2.2.2.1,y.2.2.2.2.2.1,y.2.2.2.2.2.2.1)) (λz=>(z.1,(z.2.1,(z.2.2.1,(z.2.2.2.1,(z.2.2.2.2.1,(z.2.2.2.2.2.1,(z.2.2.2.2.2.2,()))))))))
def iT(n:Nat)(a0:ae)(a1:Int):Option (List Int):=
bd (aJ n a0.dK.T.fC.kU a1) λaA=>
cn ((!aA)) (
some ([])) (
some ([a1]))
def Na(n:Nat):CT:=cV (tC n [] [aT n] []) ⟨104,[],(.cons (.v (.st 19)) (.cons (.v (.int .u32)) .nil)),(.cons (.row 25 1 (.int .u32)) .nil),[none], .nil,[],[]⟩ (λx=>iT n x.1 x.2.1) (λy=>(y.1)) (λz=>(z,()))
def iq(n:Nat)(a0:ax)(a1:Int):Option (List Int):=
bd (aJ n a0.fC.kU a1) λaA=>
cn ((!aA)) (
some ([])) (
bd (po n a0 a1) λaR=>
bd (mw n aR.1 aR.2) λeM=>
xF (λ(e25:Int) k24 (bS:(List Int))=>
gu (gN bS.length [e25].length 4)<|
lt (bS++[e25]:List Int) λeS=>
k24 eS) (λ(bS:(List Int))=>
some (bS)) eM [])
def C8(n:Nat):CT:=cV (tC n [(150050000005, .loop [(.via 2, .box 156 (.row 25 1 (.int .u32)))])] [aT n,oJ n] [mT n]) ⟨106,[],(.cons (.v (.st 10)) (.cons (.v (.int .u32)) .nil)),(.cons (.row 25 1 (.int .u32)) .nil),[none], .nil,[],[]⟩ (λx=>iq n x.1 x.2.1) (λy=>(y.1)) (λz=>(z,()))
def rL(n:Nat)(a0:(List Int))(a1:Int):Option (Int×(List Int)):=
iv (λk22 (aA:Int)=>
cn (decide (aA<(a0.length:Int))) (
gu (dk aA a0.length)<|
cn ((a1==(a0.getD (Int.toNat aA) default))) (
some (aA,a0)) (
k22 (wr .i64 (aA+1)))) (
some ((-1),a0))) n 0
def xy(n:Nat):CT:=cV (tC n [(5, .loop [(.dh 8, .v (.int .i64))])] [] []) ⟨129,[],(.cons (.row 25 1 (.int .u32)) (.cons (.v (.int .u32)) .nil)),(.cons (.v (.int .i64)) (.cons (.row 25 1 (.int .u32)) .nil)),[some 0], .nil,[],[[0]]⟩ (λx=>rL n x.1 x.2.1) (λy=>(y.1,y.2.1)) (λz=>(z.1,(z.2,())))
def oW(n:Nat)(a0:(List Int))(a1:Int):Option (Bool×(List Int)):=
bd (rL n a0 a1) λaA=>
some (decide (0<=aA.1),aA.2)
def uM(n:Nat):CT:=cV (tC n [] [xy n] []) ⟨108,[],(.cons (.row 25 1 (.int .u32)) (.cons (.v (.int .u32)) .nil)),(.cons (.v .bool) (.cons (.row 25 1 (.int .u32)) .nil)),[some 0], .nil,[],[[0]]⟩ (λx=>oW n x.1 x.2.1) (λy=>(y.1,y.2.1)) (λz=>(z.1,(z.2,())))
def kx(n:Nat)(a0:ae)(a1:aC):Option (List Int):=
cn (a1.Do==1) (
bd (iT n a0 a1.R) λmX=>
some (mX)) (
cn (a1.Do==2) (
bd (iT n a0 a1.R) λgy=>
some (gy)) (
cn (a1.Do==3) (
bd (iT n a0 a1.R) λrP=>
some (rP)) (
cn (a1.Do==4) (
bd (iT n a0 a1.R) λgA=>
some (gA)) (
cn (a1.Do==5) (
bd (iT n a0 a1.R) λjU=>
some (jU)) (
cn (a1.Do==10) (
bd (iT n a0 a1.R) λdL=>
some (dL)) (
cn (a1.Do==12) (
bd (iT n a0 a1.R) λjS=>
some (jS)) (
cn (a1.Do==18) (
bd (iT n a0 a1.R) λfV=>
some (fV)) (
cn (a1.Do==19) (
bd (iT n a0 a1.R) λcI=>
some (cI)) (
cn (a1.Do==6) (
bd (iq n a0.dK.T a1.R) λeU=>
some (eU)) (
cn (a1.Do==7) (
bd (iq n a0.dK.T a1.R) λjk=>
some (jk)) (
cn (a1.Do==9) (
bd (iq n a0.dK.T a1.R) λdP=>
some (dP)) (
cn (a1.Do==11) (
bd (iq n a0.dK.T a1.R) λeo=>
some (eo)) (
cn (a1.Do==8) (
bd (iq n a0.dK.T a1.R) λeM=>
cl ((((eM.length:Int)==0)==false)) (aJ n a0.dK.T.fC.kU a1.S) default λdB=>
cn ((((eM.length:Int)==0)||(!dB))) (
some ([])) (
bd (oW n eM a1.S) λeS=>
cn (eS.1) (
some (eS.2)) (
gu (gN eS.2.length [a1.S].length 4)<|
lt (eS.2++[a1.S]:List Int) λic=>
some (ic)))) (
cn (a1.Do==13) (
bd (cW n a0.dK.K a1.S) λbS=>
lt (bS.1:bC) λcE=>
cn ((bS.2!=0)) (
some ([])) (
bd (iT n a0 cE.Region) λdU=>
some (dU))) (
cn (a1.Do==14) (
cn ((a1.B==1)) (
bd (iT n a0 a1.R) λaA=>
some (aA)) (
bd (iq n a0.dK.T a1.R) λaR=>
some (aR))) (
some ([])))))))))))))))))
def FZ(n:Nat):CT:=cV (tC n [] [Na n,C8 n,ew n,aT n,uM n] []) ⟨85,[],(.cons (.v (.st 19)) (.cons (.v (.st 3)) .nil)),(.cons (.v (.sl (.int .u32))) .nil),[], .nil,[],[]⟩ (λx=>kx n x.1 x.2.1) (λy=>(y.1)) (λz=>(z,()))
def eC(n:Nat)(cL:ae)(da:aj)(dx:ai)(dw:(List Int))(cC:aF)(dF:ah)(dD:Bool):Option (Bool×ae×aj×ai×(List Int)×aF×ah×Bool):=
cn (cC.Checked) (
some (false,cL,da,dx,dw,cC,dF,dD)) (
bd (pT n cL cC.jW cC.C) λaA=>
cn (aA) (
some (true,cL,da,dx,dw,cC,dF,dD)) (
bd (fY n cL cC.jW cC.C) λaR=>
cn ((aR !=0)) (
bd (eR n cL da dx dw cC dF dD ({ay with E:=aR}:ah)) λbS=>
some (true,bS.1,bS.2.1,bS.2.2.1,bS.2.2.2.1,bS.2.2.2.2.1,bS.2.2.2.2.2.1,bS.2.2.2.2.2.2)) (
bd (kx n cL cC.C) λcE=>
lt (({cC with Checked:=true}:aF):aF) λdU=>
lt (({dU with eu:=cE}:aF):aF) λeM=>
some (true,cL,da,dx,dw,eM,dF,dD))))
def yp(n:Nat):CT:=cV (tC n [] [BN n,BO n,nc n,FZ n] []) ⟨71,[],(.cons (.box 173 (.st (.part 1 (.box 113 (.st (.part 952 (.v (.st 19)) (.part 1 (.box 185 (.v (.st 24))) (.part 320 (.v (.st 21)) (.part 1 (.row 3 1 (.int .i64)) .nil)))))) (.part 12 (.v (.st 22)) (.part 3 (.v (.st 2)) (.part 1 (.v .bool) .nil)))))) .nil),(.cons (.v .bool) (.cons (.box 173 (.st (.part 1 (.box 113 (.st (.part 952 (.v (.st 19)) (.part 1 (.box 185 (.v (.st 24))) (.part 320 (.v (.st 21)) (.part 1 (.row 3 1 (.int .i64)) .nil)))))) (.part 12 (.v (.st 22)) (.part 3 (.v (.st 2)) (.part 1 (.v .bool) .nil)))))) .nil)),[some 0,some 1,some 2,none], .nil,[],[[0]]⟩ (λx=>eC n x.1 x.2.1 x.2.2.1 x.2.2.2.1 x.2.2.2.2.1 x.2.2.2.2.2.1 x.2.2.2.2.2.2.1) (λy=>(y.1,y.2.1,y.2.2.1,y.2.2.2.1,y.2.2.2.2.1,y.2.2.2.2.2.1,y.2.2.2.2.2.2.1,y.2.2.2.2.2.2.2.1)) (λz=>(z.1,(z.2.1,(z.2.2.1,(z.2.2.2.1,(z.2.2.2.2.1,(z.2.2.2.2.2.1,(z.2.2.2.2.2.2.1,(z.2.2.2.2.2.2.2,())))))))))
def pb(n:Nat)(a0:ai)(a1:Int)(a2:Int):Option (ai×Bool):=
bd (vH n a1 a2) λaA=>
cn ((!aA)) (
lt (a0:ai) λaR=>
some (aR,false)) (
gu (dk a1 32)<|
lt (λ(bS:ai) (cE:ai)=>
lt (cE:ai) λeM=>
some (eM,false)) λj25=>
bd (kR n (a0.bw (Int.toNat a1)) a2) λdB=>
cn (((wr .i64 ((a0.bw (Int.toNat a1)).EX))==(wr .i64 (a2+1)))) (
lt (a0:ai) λeS=>
some (eS,true)) (
cn (((((a0.bw (Int.toNat a1)).EX)==0)&&((((a0.bw (Int.toNat a1)).n)==0)||(dB==0)))) (
bd (ja n (a0.bw (Int.toNat a1)) a2) λic=>
lt (({a0 with bw:=(iC a0.bw (Int.toNat a1) ic)}:ai):ai) λeo=>
lt (({eo with bw:=(iC eo.bw (Int.toNat a1) ({(eo.bw (Int.toNat a1))with EX:=wr .u8 (wr .i64 (a2+1))}:cj))}:ai):ai) λdP=>
lt (dP:ai) λjk=>
some (jk,true)) (
cn (decide (dB<0)) (
gu (dk ((a0.bw (Int.toNat a1)).n) 8)<|
lt (({a0 with bw:=(iC a0.bw (Int.toNat a1) ({(a0.bw (Int.toNat a1))with EH:=(iC ((a0.bw (Int.toNat a1)).EH) (Int.toNat ((a0.bw (Int.toNat a1)).n)) (wr .u8 a2))}:cj))}:ai):ai) λeU=>
lt (({eU with bw:=(iC eU.bw (Int.toNat a1) ({(eU.bw (Int.toNat a1))with n:=wr .i64 (((eU.bw (Int.toNat a1)).n)+1)}:cj))}:ai):ai) λcI=>
j25 bB cI) (
j25 bB a0))))
def Dd(n:Nat):CT:=cV (tC n [(28, .join [(.via 6, .box 110 (.v (.st 21))),(.via 3, .box 110 (.v (.st 21)))] [])] [AW n,tV n,rH n] []) ⟨86,[],(.cons (.v (.st 21)) (.cons (.v (.int .i64)) (.cons (.v (.int .i64)) .nil))),(.cons (.jv (.cons (.v (.st 21)) (.cons (.v .bool) .nil))) .nil),[], .nil,[],[]⟩ (λx=>pb n x.1 x.2.1 x.2.2.1) (λy=>(y.1,y.2.1)) (λz=>(z.1,(z.2,())))
def fk(n:Nat)(cL:ae)(da:aj)(dx:ai)(dw:(List Int))(cC:aF)(dF:ah)(dD:Bool):Option (Bool×ae×aj×ai×(List Int)×aF×ah×Bool):=
cn (((cC.eu.length:Int)==0)) (
some (false,cL,da,dx,dw,cC,dF,dD)) (
gu (dk 0 cC.eu.length)<|
bd (bp n (cC.eu.getD (Int.toNat 0) default)) λaA=>
bd (pb n dx aA.1 cC.jW) λaR=>
lt (aR.1:ai) λbS=>
lt (bS:ai) λcE=>
lt (λ(dU:ae) (eM:aj) (dB:ai) (eS:(List Int)) (ic:aF) (eo:ah) (dP:Bool)=>
some (true,dU,eM,dB,eS,ic,eo,dP)) λWW=>
cn (aR.2) (
gu (dk 1 (cC.eu.length+1))<|
lt (({cC with eu:=cC.eu.drop (Int.toNat 1)}:aF):aF) λeU=>
WW cL da cE dw eU dF dD) (
WW cL da cE dw cC dF dD))
def yo(n:Nat):CT:=cV (tC n [(16, .join [(.via 0, .box 173 (.st (.part 1 (.box 113 (.st (.part 952 (.v (.st 19)) (.part 1 (.box 185 (.v (.st 24))) (.part 320 (.v (.st 21)) (.part 1 (.row 3 1 (.int .i64)) .nil)))))) (.part 12 (.v (.st 22)) (.part 3 (.v (.st 2)) (.part 1 (.v .bool) .nil))))))] [])] [bP n,Dd n] []) ⟨72,[],(.cons (.box 173 (.st (.part 1 (.box 113 (.st (.part 952 (.v (.st 19)) (.part 1 (.box 185 (.v (.st 24))) (.part 320 (.v (.st 21)) (.part 1 (.row 3 1 (.int .i64)) .nil)))))) (.part 12 (.v (.st 22)) (.part 3 (.v (.st 2)) (.part 1 (.v .bool) .nil)))))) .nil),(.cons (.v .bool) (.cons (.box 173 (.st (.part 1 (.box 113 (.st (.part 952 (.v (.st 19)) (.part 1 (.box 185 (.v (.st 24))) (.part 320 (.v (.st 21)) (.part 1 (.row 3 1 (.int .i64)) .nil)))))) (.part 12 (.v (.st 22)) (.part 3 (.v (.st 2)) (.part 1 (.v .bool) .nil)))))) .nil)),[some 0,some 1,some 2,none], .nil,[],[[0]]⟩ (λx=>fk n x.1 x.2.1 x.2.2.1 x.2.2.2.1 x.2.2.2.2.1 x.2.2.2.2.2.1 x.2.2.2.2.2.2.1) (λy=>(y.1,y.2.1,y.2.2.1,y.2.2.2.1,y.2.2.2.2.1,y.2.2.2.2.2.1,y.2.2.2.2.2.2.1,y.2.2.2.2.2.2.2.1)) (λz=>(z.1,(z.2.1,(z.2.2.1,(z.2.2.2.1,(z.2.2.2.2.1,(z.2.2.2.2.2.1,(z.2.2.2.2.2.2.1,(z.2.2.2.2.2.2.2,())))))))))
def iO(n:Nat)(a0:aj)(a1:Int):Option (Int×Int×aj):=
cn (decide (a1<1)) (
some (0,2,a0)) (
bd (oS n a0.dV a1) λaA=>
cn ((!aA.2)) (
some (0,6,a0)) (
bd (jI n a0.dV aA.1 a1) λaR=>
lt (({a0 with dV:=aR.1}:aj):aj) λbS=>
some (aA.1,0,bS)))
def BM(n:Nat):CT:=cV (tC n [] [C4 n,C3 n] []) ⟨87,[],(.cons (.box 185 (.v (.st 24))) (.cons (.v (.int .i64)) .nil)),(.cons (.jv (.cons (.v (.int .i64)) (.cons (.v (.int .i64)) .nil))) (.cons (.box 185 (.v (.st 24))) .nil)),[some 0], .nil,[],[[0]]⟩ (λx=>iO n x.1 x.2.1) (λy=>(y.1,y.2.1,y.2.2.1)) (λz=>(z.1,(z.2.1,(z.2.2,()))))
def bY(n:Nat)(cL:ae)(da:aj)(dx:ai)(dw:(List Int))(cC:aF)(dF:ah)(dD:Bool):Option (Bool×ae×aj×ai×(List Int)×aF×ah×Bool):=
bd (bJ n cL cC.jW cC.C) λaA=>
cn (((aA==0)||(decide (0<cC.xV.N)))) (
some (false,cL,da,dx,dw,cC,dF,dD)) (
bd (iO n da aA) λaR=>
cn ((aR.2.1!=0)) (
bd (eR n cL aR.2.2 dx dw cC dF dD ({ay with E:=aR.2.1}:ah)) λbS=>
some (true,bS.1,bS.2.1,bS.2.2.1,bS.2.2.2.1,bS.2.2.2.2.1,bS.2.2.2.2.2.1,bS.2.2.2.2.2.2)) (
lt (({cC with xV:=({At:=aR.1,N:=aA}:av)}:aF):aF) λcE=>
some (true,cL,aR.2.2,dx,dw,cE,dF,dD)))
def xC(n:Nat):CT:=cV (tC n [] [m9 n,BM n,nc n] []) ⟨73,[],(.cons (.box 173 (.st (.part 1 (.box 113 (.st (.part 952 (.v (.st 19)) (.part 1 (.box 185 (.v (.st 24))) (.part 320 (.v (.st 21)) (.part 1 (.row 3 1 (.int .i64)) .nil)))))) (.part 12 (.v (.st 22)) (.part 3 (.v (.st 2)) (.part 1 (.v .bool) .nil)))))) .nil),(.cons (.v .bool) (.cons (.box 173 (.st (.part 1 (.box 113 (.st (.part 952 (.v (.st 19)) (.part 1 (.box 185 (.v (.st 24))) (.part 320 (.v (.st 21)) (.part 1 (.row 3 1 (.int .i64)) .nil)))))) (.part 12 (.v (.st 22)) (.part 3 (.v (.st 2)) (.part 1 (.v .bool) .nil)))))) .nil)),[some 0,some 1,some 2,none], .nil,[],[[0]]⟩ (λx=>bY n x.1 x.2.1 x.2.2.1 x.2.2.2.1 x.2.2.2.2.1 x.2.2.2.2.2.1 x.2.2.2.2.2.2.1) (λy=>(y.1,y.2.1,y.2.2.1,y.2.2.2.1,y.2.2.2.2.1,y.2.2.2.2.2.1,y.2.2.2.2.2.2.1,y.2.2.2.2.2.2.2.1)) (λz=>(z.1,(z.2.1,(z.2.2.1,(z.2.2.2.1,(z.2.2.2.2.1,(z.2.2.2.2.2.1,(z.2.2.2.2.2.2.1,(z.2.2.2.2.2.2.2,())))))))))
def kO(n:Nat)(a0:aj)(a1:Int):Option (Int×aj):=
cn (((decide (a1<0))||(decide (a0.n<=a1)))) (
some (2,a0)) (
bd (gX n a0.dV a1) λaA=>
cn (aA) (
some (12,a0)) (
gu (dk a1 64)<|
lt (({a0 with bytes:=(iC a0.bytes (Int.toNat a1) (λ_ =>0))}:aj):aj) λaR=>
some (0,aR)))
def BL(n:Nat):CT:=cV (tC n [] [nD n] []) ⟨88,[],(.cons (.box 185 (.v (.st 24))) (.cons (.v (.int .i64)) .nil)),(.cons (.v (.int .i64)) (.cons (.box 185 (.v (.st 24))) .nil)),[some 0], .nil,[],[[0]]⟩ (λx=>kO n x.1 x.2.1) (λy=>(y.1,y.2.1)) (λz=>(z.1,(z.2,())))
def eK(n:Nat)(cL:ae)(da:aj)(dx:ai)(dw:(List Int))(cC:aF)(dF:ah)(dD:Bool):Option (Bool×ae×aj×ai×(List Int)×aF×ah×Bool):=
cn (decide (cC.xV.N<=cC.qj)) (
some (false,cL,da,dx,dw,cC,dF,dD)) (
bd (kO n da (wr .i64 (cC.xV.At+cC.qj))) λaA=>
lt (({cC with qj:=wr .i64 (cC.qj+1)}:aF):aF) λaR=>
some (true,cL,aA.2,dx,dw,aR,dF,dD))
def xB(n:Nat):CT:=cV (tC n [] [BL n] []) ⟨74,[],(.cons (.box 173 (.st (.part 1 (.box 113 (.st (.part 952 (.v (.st 19)) (.part 1 (.box 185 (.v (.st 24))) (.part 320 (.v (.st 21)) (.part 1 (.row 3 1 (.int .i64)) .nil)))))) (.part 12 (.v (.st 22)) (.part 3 (.v (.st 2)) (.part 1 (.v .bool) .nil)))))) .nil),(.cons (.v .bool) (.cons (.box 173 (.st (.part 1 (.box 113 (.st (.part 952 (.v (.st 19)) (.part 1 (.box 185 (.v (.st 24))) (.part 320 (.v (.st 21)) (.part 1 (.row 3 1 (.int .i64)) .nil)))))) (.part 12 (.v (.st 22)) (.part 3 (.v (.st 2)) (.part 1 (.v .bool) .nil)))))) .nil)),[some 0,some 1,some 2,some 3], .nil,[],[[0]]⟩ (λx=>eK n x.1 x.2.1 x.2.2.1 x.2.2.2.1 x.2.2.2.2.1 x.2.2.2.2.2.1 x.2.2.2.2.2.2.1) (λy=>(y.1,y.2.1,y.2.2.1,y.2.2.2.1,y.2.2.2.2.1,y.2.2.2.2.2.1,y.2.2.2.2.2.2.1,y.2.2.2.2.2.2.2.1)) (λz=>(z.1,(z.2.1,(z.2.2.1,(z.2.2.2.1,(z.2.2.2.2.1,(z.2.2.2.2.2.1,(z.2.2.2.2.2.2.1,(z.2.2.2.2.2.2.2,())))))))))
def kN(n:Nat)(a0:aj)(a1:Int)(a2:Int):Option (Int×aj):=
cn (decide (a1<0)) (
some (2,a0)) (
cn (((decide ((wr .i64 (Int.tdiv a1 32))<0))||(decide (a0.n<=(wr .i64 (Int.tdiv a1 32)))))) (
some (2,a0)) (
bd (gX n a0.dV (wr .i64 (Int.tdiv a1 32))) λaA=>
cn (aA) (
some (12,a0)) (
gu (dk (wr .i64 (Int.tdiv a1 32)) 64)<|
gu (dk (Int.tmod a1 32) 32)<|
lt (({a0 with bytes:=(iC a0.bytes (Int.toNat (wr .i64 (Int.tdiv a1 32))) (iC (a0.bytes (Int.toNat (wr .i64 (Int.tdiv a1 32)))) (Int.toNat (Int.tmod a1 32)) a2))}:aj):aj) λaR=>
some (0,aR))))
def BK(n:Nat):CT:=cV (tC n [] [nD n] []) ⟨92,[],(.cons (.box 185 (.v (.st 24))) (.cons (.v (.int .i64)) (.cons (.v (.int .u8)) .nil))),(.cons (.v (.int .i64)) (.cons (.box 185 (.v (.st 24))) .nil)),[some 0], .nil,[],[[0]]⟩ (λx=>kN n x.1 x.2.1 x.2.2.1) (λy=>(y.1,y.2.1)) (λz=>(z.1,(z.2,())))
def l7(n:Nat)(a0:aj)(a1:Int):Option (Int×Int):=
cn (decide (a1<0)) (
lt (0:Int) λaA=>
some (aA,2)) (
cn (((decide ((wr .i64 (Int.tdiv a1 32))<0))||(decide (a0.n<=(wr .i64 (Int.tdiv a1 32)))))) (
lt (0:Int) λaR=>
some (aR,2)) (
bd (gX n a0.dV (wr .i64 (Int.tdiv a1 32))) λbS=>
cn (bS) (
lt (0:Int) λcE=>
some (cE,12)) (
gu (dk (wr .i64 (Int.tdiv a1 32)) 64)<|
gu (dk (Int.tmod a1 32) 32)<|
lt (((a0.bytes (Int.toNat (wr .i64 (Int.tdiv a1 32)))) (Int.toNat (Int.tmod a1 32))):Int) λdU=>
lt (dU:Int) λeM=>
some (eM,0))))
def C9(n:Nat):CT:=cV (tC n [] [nD n] []) ⟨94,[(185, .v (.st 24))],(.cons (.bU 0) (.cons (.v (.int .i64)) .nil)),(.cons (.jv (.cons (.v (.int .u8)) (.cons (.v (.int .i64)) .nil))) .nil),[], .nil,[],[]⟩ (λx=>l7 n x.1 x.2.1) (λy=>(y.1,y.2.1)) (λz=>(z.1,(z.2,())))
def cu(n:Nat)(cL:ae)(da:aj)(dx:ai)(dw:(List Int))(cC:aF)(dF:ah)(dD:Bool):Option (Bool×ae×aj×ai×(List Int)×aF×ah×Bool):=
lt (cC.C:aC) λaA=>
lt (λ(aR:ae) (bS:aj) (cE:ai) (dU:(List Int)) (eM:aF) (dB:ah) (eS:Bool)=>
bd (cv n aR aA) λeo=>
bd (cq n aR eM.jW aA eM.xV) λdP=>
lt (dP.1:ae) λjk=>
lt (dP.2.1:ah) λeU=>
cn ((eU.E !=0)) (
bd (eR n aR bS cE dU eM dB eS eU) λcI=>
some (true,cI.1,cI.2.1,cI.2.2.1,cI.2.2.2.1,cI.2.2.2.2.1,cI.2.2.2.2.2.1,cI.2.2.2.2.2.2)) (
lt (λ(fV:ae) (jS:aj) (dL:ai) (jU:(List Int)) (gA:aF) (rP:ah) (gy:Bool) (mX:ah)=>
lt (jk:ae) λxw=>
lt (({gA with xV:=aB}:aF):aF) λIM=>
xm (λk51 (vg:Int) (Fo:ae) (zQ:aj) (qX:ai) (tU:(List Int))=>
cn (decide (vg<(dP.2.2.length:Int))) (
gu (dk vg dP.2.2.length)<|
lt ((dP.2.2.getD (Int.toNat vg) default):av) λJO=>
bd (fe n Fo zQ qX tU JO) λye=>
k51 (wr .i64 (vg+1)) ye.1 ye.2.1 ye.2.2.1 ye.2.2.2) (
bd (eR n Fo zQ qX tU IM rP gy mX) λlA=>
some (true,lA.1,lA.2.1,lA.2.2.1,lA.2.2.2.1,lA.2.2.2.2.1,lA.2.2.2.2.2.1,lA.2.2.2.2.2.2))) n 0 xw jS dL jU) λj43=>
cn ((aA.Do==4)) (
Gy (λk63 (qc:Int) (FV:ae) (yd:aj) (M7:ai) (FU:(List Int)) (zB:aF) (WN:ah) (JN:Bool)=>
cn (decide (qc<(eo.1.length:Int))) (
gu (dk qc eo.1.length)<|
gu (decide (0<=wr .i64 (8*qc)))<|
bd (kN n yd (eo.1.getD (Int.toNat qc) default) (wr .u8 (z6 .u64 aA.V (wr .i64 (8*qc))))) λQt=>
k63 (wr .i64 (qc+1)) FV Qt.2 M7 FU zB WN JN) (
j43 FV yd M7 FU zB WN JN eU)) n 0 aR bS cE dU eM dB eS) (
cn ((aA.Do==3)) (
eP (λk67 (ve:Int) (Se:ah)=>
cn (decide (ve<(eo.1.length:Int))) (
gu (dk ve eo.1.length)<|
bd (l7 n bS (eo.1.getD (Int.toNat ve) default)) λJL=>
gu (decide (0<=wr .i64 (8*ve)))<|
lt (({Se with V:=orI .u64 Se.V (J9 .u64 (wr .u64 JL.1) (wr .i64 (8*ve)))}:ah):ah) λIg=>
k67 (wr .i64 (ve+1)) Ig) (
j43 aR bS cE dU eM dB eS Se)) n 0 eU) (
j43 aR bS cE dU eM dB eS eU)))) λj29=>
cl ((decide (0<cC.xV.N)==true)) (bJ n cL cC.jW aA) default λx70=>
cn (((decide (0<cC.xV.N))&&(x70 !=cC.xV.N))) (
bd (fe n cL da dx dw cC.xV) λx71=>
lt (({cC with xV:=aB}:aF):aF) λM6=>
j29 x71.1 x71.2.1 x71.2.2.1 x71.2.2.2 M6 dF dD) (
j29 cL da dx dw cC dF dD)
def wh(n:Nat):CT:=cV (tC n [(10, .join [(.via 0, .box 173 (.st (.part 1 (.box 113 (.st (.part 952 (.v (.st 19)) (.part 1 (.box 185 (.v (.st 24))) (.part 320 (.v (.st 21)) (.part 1 (.row 3 1 (.int .i64)) .nil)))))) (.part 12 (.v (.st 22)) (.part 3 (.v (.st 2)) (.part 1 (.v .bool) .nil))))))] []),(30, .join [(.via 65, .box 113 (.st (.part 952 (.v (.st 19)) (.part 1 (.box 185 (.v (.st 24))) (.part 320 (.v (.st 21)) (.part 1 (.row 3 1 (.int .i64)) .nil)))))),(.via 0, .box 173 (.st (.part 1 (.bU 0) (.part 12 (.v (.st 22)) (.part 3 (.v (.st 2)) (.part 1 (.v .bool) .nil)))))),(.via 7, .box 55 (.v (.st 2)))] []),(35, .loop [(.dh 130, .v (.int .i64)),(.via 65, .box 113 (.st (.part 952 (.v (.st 19)) (.part 1 (.box 185 (.v (.st 24))) (.part 320 (.v (.st 21)) (.part 1 (.row 3 1 (.int .i64)) .nil))))))]),(1100000003, .loop [(.dh 10, .v (.int .i64)),(.via 0, .box 173 (.st (.part 1 (.box 113 (.st (.part 952 (.v (.st 19)) (.part 1 (.box 185 (.v (.st 24))) (.part 320 (.v (.st 21)) (.part 1 (.row 3 1 (.int .i64)) .nil)))))) (.part 12 (.v (.st 22)) (.part 3 (.v (.st 2)) (.part 1 (.v .bool) .nil))))))]),(1160000003, .loop [(.dh 10, .v (.int .i64)),(.cap 2 1, .box 55 (.v (.st 2)))])] [zW n,vm n,nc n,tZ n,BK n,C9 n,m9 n] []) ⟨75,[],(.cons (.box 173 (.st (.part 1 (.box 113 (.st (.part 952 (.v (.st 19)) (.part 1 (.box 185 (.v (.st 24))) (.part 320 (.v (.st 21)) (.part 1 (.row 3 1 (.int .i64)) .nil)))))) (.part 12 (.v (.st 22)) (.part 3 (.v (.st 2)) (.part 1 (.v .bool) .nil)))))) .nil),(.cons (.v .bool) (.cons (.box 173 (.st (.part 1 (.box 113 (.st (.part 952 (.v (.st 19)) (.part 1 (.box 185 (.v (.st 24))) (.part 320 (.v (.st 21)) (.part 1 (.row 3 1 (.int .i64)) .nil)))))) (.part 12 (.v (.st 22)) (.part 3 (.v (.st 2)) (.part 1 (.v .bool) .nil)))))) .nil)),[some 0,some 1,some 2,none], .nil,[],[[0]]⟩ (λx=>cu n x.1 x.2.1 x.2.2.1 x.2.2.2.1 x.2.2.2.2.1 x.2.2.2.2.2.1 x.2.2.2.2.2.2.1) (λy=>(y.1,y.2.1,y.2.2.1,y.2.2.2.1,y.2.2.2.2.1,y.2.2.2.2.2.1,y.2.2.2.2.2.2.1,y.2.2.2.2.2.2.2.1)) (λz=>(z.1,(z.2.1,(z.2.2.1,(z.2.2.2.1,(z.2.2.2.2.1,(z.2.2.2.2.2.1,(z.2.2.2.2.2.2.1,(z.2.2.2.2.2.2.2,())))))))))
def cO(n:Nat)(cL:ae)(da:aj)(dx:ai)(dw:(List Int))(a1:aF):Option (aF×ah×Bool×ae×aj×ai×(List Int)):=
lt (λ(aA:ae) (aR:aj) (bS:ai) (cE:(List Int)) (dU:aF) (eM:ah) (dB:Bool)=>
lt (dU:aF) λic=>
lt (eM:ah) λeo=>
some (ic,eo,dB,aA,aR,bS,cE)) λj28=>
bd (eC n cL da dx dw a1 ay false) λdP=>
cn (dP.1) (
j28 dP.2.1 dP.2.2.1 dP.2.2.2.1 dP.2.2.2.2.1 dP.2.2.2.2.2.1 dP.2.2.2.2.2.2.1 dP.2.2.2.2.2.2.2) (
bd (fk n dP.2.1 dP.2.2.1 dP.2.2.2.1 dP.2.2.2.2.1 dP.2.2.2.2.2.1 dP.2.2.2.2.2.2.1 dP.2.2.2.2.2.2.2) λjk=>
cn (jk.1) (
j28 jk.2.1 jk.2.2.1 jk.2.2.2.1 jk.2.2.2.2.1 jk.2.2.2.2.2.1 jk.2.2.2.2.2.2.1 jk.2.2.2.2.2.2.2) (
bd (bY n jk.2.1 jk.2.2.1 jk.2.2.2.1 jk.2.2.2.2.1 jk.2.2.2.2.2.1 jk.2.2.2.2.2.2.1 jk.2.2.2.2.2.2.2) λeU=>
cn (eU.1) (
j28 eU.2.1 eU.2.2.1 eU.2.2.2.1 eU.2.2.2.2.1 eU.2.2.2.2.2.1 eU.2.2.2.2.2.2.1 eU.2.2.2.2.2.2.2) (
bd (eK n eU.2.1 eU.2.2.1 eU.2.2.2.1 eU.2.2.2.2.1 eU.2.2.2.2.2.1 eU.2.2.2.2.2.2.1 eU.2.2.2.2.2.2.2) λcI=>
cn (cI.1) (
j28 cI.2.1 cI.2.2.1 cI.2.2.2.1 cI.2.2.2.2.1 cI.2.2.2.2.2.1 cI.2.2.2.2.2.2.1 cI.2.2.2.2.2.2.2) (
bd (cu n cI.2.1 cI.2.2.1 cI.2.2.2.1 cI.2.2.2.2.1 cI.2.2.2.2.2.1 cI.2.2.2.2.2.2.1 cI.2.2.2.2.2.2.2) λfV=>
cn (fV.1) (
j28 fV.2.1 fV.2.2.1 fV.2.2.2.1 fV.2.2.2.2.1 fV.2.2.2.2.2.1 fV.2.2.2.2.2.2.1 fV.2.2.2.2.2.2.2) (
j28 fV.2.1 fV.2.2.1 fV.2.2.2.1 fV.2.2.2.2.1 fV.2.2.2.2.2.1 fV.2.2.2.2.2.2.1 fV.2.2.2.2.2.2.2)))))
def Di(n:Nat):CT:=cV (tC n [(14, .join [(.via 7, .box 173 (.st (.part 1 (.box 113 (.st (.part 952 (.v (.st 19)) (.part 1 (.box 185 (.v (.st 24))) (.part 320 (.v (.st 21)) (.part 1 (.row 3 1 (.int .i64)) .nil)))))) (.part 12 (.v (.st 22)) (.part 3 (.v (.st 2)) (.part 1 (.v .bool) .nil))))))] []),(7, .JZ)] [yp n,yo n,xC n,xB n,wh n] []) ⟨65,[],(.cons (.box 113 (.st (.part 952 (.v (.st 19)) (.part 1 (.box 185 (.v (.st 24))) (.part 320 (.v (.st 21)) (.part 1 (.row 3 1 (.int .i64)) .nil)))))) (.cons (.v (.st 22)) .nil)),(.cons (.jv (.cons (.v (.st 22)) (.cons (.v (.st 2)) (.cons (.v .bool) .nil)))) (.cons (.box 113 (.st (.part 952 (.v (.st 19)) (.part 1 (.box 185 (.v (.st 24))) (.part 320 (.v (.st 21)) (.part 1 (.row 3 1 (.int .i64)) .nil)))))) .nil)),[some 0,some 1,none], .nil,[],[[0]]⟩ (λx=>cO n x.1 x.2.1 x.2.2.1 x.2.2.2.1 x.2.2.2.2.1) (λy=>(y.1,y.2.1,y.2.2.1,y.2.2.2.1,y.2.2.2.2.1,y.2.2.2.2.2.1,y.2.2.2.2.2.2.1)) (λz=>(z.1,(z.2.1,(z.2.2.1,(z.2.2.2.1,(z.2.2.2.2.1,(z.2.2.2.2.2.1,(z.2.2.2.2.2.2,()))))))))
def ef(n:Nat)(cL:ae)(da:aj)(dx:ai)(dw:(List Int))(cC:Int)(a1:aC):Option (ah×ae×aj×ai×(List Int)×Int):=
lt (({({j0 with jW:=cC}:aF)with C:=a1}:aF):aF) λaA=>
vI (λYE (aR:ah) (bS:ae) (cE:aj) (dU:ai) (eM:(List Int)) (dB:Int) (eS:aF)=>
cl (((!eS.Checked)==true)) (pT n bS dB a1) default λeo=>
cn (((!eS.Checked)&&eo)) (
cn ((a1.Do==15)) (
lt (({ay with E:=10}:ah):ah) λdP=>
some (dP,bS,cE,dU,eM,dB)) (
lt (({ay with E:=12}:ah):ah) λjk=>
some (jk,bS,cE,dU,eM,dB))) (
bd (cO n bS cE dU eM eS) λeU=>
lt (eU.1:aF) λcI=>
lt (eU.2.1:ah) λfV=>
cn (eU.2.2.1) (
lt (fV:ah) λjS=>
some (jS,eU.2.2.2.1,eU.2.2.2.2.1,eU.2.2.2.2.2.1,eU.2.2.2.2.2.2,dB)) (
cn (((eS.Checked&&((cI.eu.length:Int)==(eS.eu.length:Int)))&&(decide (0<(eS.eu.length:Int))))) (
bd (kY n eU.2.2.2.1 eU.2.2.2.2.1 eU.2.2.2.2.2.1 eU.2.2.2.2.2.2 eS) λdL=>
lt (({ay with E:=12}:ah):ah) λjU=>
some (jU,dL.1,dL.2.1,dL.2.2.1,dL.2.2.2,dB)) (
lt (cI:aF) λgA=>
YE aR eU.2.2.2.1 eU.2.2.2.2.1 eU.2.2.2.2.2.1 eU.2.2.2.2.2.2 dB gA)))) n ay cL da dx dw cC aA
def F3(n:Nat):CT:=cV (tC n [(5, .loop [(.via 4, .box 55 (.v (.st 2))),(.via 0, .box 141 (.st (.part 1 (.box 113 (.st (.part 952 (.v (.st 19)) (.part 1 (.box 185 (.v (.st 24))) (.part 320 (.v (.st 21)) (.part 1 (.row 3 1 (.int .i64)) .nil)))))) (.part 1 (.v (.int .i64)) .nil)))),(.via 5, .box 160 (.v (.st 22)))])] [BN n,Di n,w9 n] []) ⟨49,[],(.cons (.box 141 (.st (.part 1 (.box 113 (.st (.part 952 (.v (.st 19)) (.part 1 (.box 185 (.v (.st 24))) (.part 320 (.v (.st 21)) (.part 1 (.row 3 1 (.int .i64)) .nil)))))) (.part 1 (.v (.int .i64)) .nil)))) (.cons (.v (.st 3)) .nil)),(.cons (.v (.st 2)) (.cons (.box 141 (.st (.part 1 (.box 113 (.st (.part 952 (.v (.st 19)) (.part 1 (.box 185 (.v (.st 24))) (.part 320 (.v (.st 21)) (.part 1 (.row 3 1 (.int .i64)) .nil)))))) (.part 1 (.v (.int .i64)) .nil)))) .nil)),[some 0,some 1,some 2,none], .nil,[],[[0]]⟩ (λx=>ef n x.1 x.2.1 x.2.2.1 x.2.2.2.1 x.2.2.2.2.1 x.2.2.2.2.2.1) (λy=>(y.1,y.2.1,y.2.2.1,y.2.2.2.1,y.2.2.2.2.1,y.2.2.2.2.2.1)) (λz=>(z.1,(z.2.1,(z.2.2.1,(z.2.2.2.1,(z.2.2.2.2.1,(z.2.2.2.2.2,())))))))
def l9(n:Nat)(a0:aj)(a1:Int):Option (Int×aj):=
cn (((decide (a1<0))||(decide (a0.n<=a1)))) (
some (2,a0)) (
bd (gX n a0.dV a1) λaA=>
cn (aA) (
some (12,a0)) (
gu (dk a1 64)<|
bd (lX n a0.dV a1 1) λaR=>
lt (({a0 with dV:=aR.1}:aj):aj) λbS=>
some (0,bS)))
def Da(n:Nat):CT:=cV (tC n [] [nD n,vj n] []) ⟨67,[],(.cons (.box 185 (.v (.st 24))) (.cons (.v (.int .i64)) .nil)),(.cons (.v (.int .i64)) (.cons (.box 185 (.v (.st 24))) .nil)),[some 0], .nil,[],[[0]]⟩ (λx=>l9 n x.1 x.2.1) (λy=>(y.1,y.2.1)) (λz=>(z.1,(z.2,())))
def my(n:Nat)(cL:ae)(da:aj)(dx:ai)(dw:(List Int)):Option (Bool×ae×aj×ai×(List Int)):=
cn (((dw.length:Int)==0)) (
some (false,cL,da,dx,dw)) (
gu (dk 0 dw.length)<|
bd (l9 n da (dw.getD (Int.toNat 0) default)) λaA=>
gu (dk 1 (dw.length+1))<|
some (true,cL,aA.2,dx,dw.drop (Int.toNat 1)))
def Dj(n:Nat):CT:=cV (tC n [(1000025, .JZ)] [Da n] []) ⟨50,[],(.cons (.box 113 (.st (.part 952 (.v (.st 19)) (.part 1 (.box 185 (.v (.st 24))) (.part 320 (.v (.st 21)) (.part 1 (.row 3 1 (.int .i64)) .nil)))))) .nil),(.cons (.v .bool) (.cons (.box 113 (.st (.part 952 (.v (.st 19)) (.part 1 (.box 185 (.v (.st 24))) (.part 320 (.v (.st 21)) (.part 1 (.row 3 1 (.int .i64)) .nil)))))) .nil)),[some 0,some 1,none], .nil,[],[[0]]⟩ (λx=>my n x.1 x.2.1 x.2.2.1 x.2.2.2.1) (λy=>(y.1,y.2.1,y.2.2.1,y.2.2.2.1,y.2.2.2.2.1)) (λz=>(z.1,(z.2.1,(z.2.2.1,(z.2.2.2.1,(z.2.2.2.2,()))))))
def cJ(n:Nat)(cL:ae)(da:aj)(dx:ai)(dw:(List Int))(cC:Int)(a1:aC):Option (ah×ae×aj×ai×(List Int)×Int):=
bd (ef n cL da dx dw cC a1) λaA=>
lt (aA.1:ah) λaR=>
lt (λ(bS:ae) (cE:aj) (dU:ai) (eM:(List Int)) (dB:Int) (eS:ah)=>
lt (eS:ah) λeo=>
some (eo,bS,cE,dU,eM,dB)) λj29=>
cn (((aR.E==6)&&(decide (0<(aA.2.2.2.2.1.length:Int))))) (
xm (λk36 (dP:ae) (jk:aj) (eU:ai) (cI:(List Int)) (fV:Int)=>
bd (my n dP jk eU cI) λdL=>
cn (dL.1) (
k36 dL.2.1 dL.2.2.1 dL.2.2.2.1 dL.2.2.2.2 fV) (
bd (ef n dL.2.1 dL.2.2.1 dL.2.2.2.1 dL.2.2.2.2 fV a1) λjU=>
lt (jU.1:ah) λgA=>
j29 jU.2.1 jU.2.2.1 jU.2.2.2.1 jU.2.2.2.2.1 jU.2.2.2.2.2 gA)) n aA.2.1 aA.2.2.1 aA.2.2.2.1 aA.2.2.2.2.1 aA.2.2.2.2.2) (
j29 aA.2.1 aA.2.2.1 aA.2.2.2.1 aA.2.2.2.2.1 aA.2.2.2.2.2 aR)
def sR(n:Nat):CT:=cV (tC n [(14, .join [(.via 0, .box 141 (.st (.part 1 (.box 113 (.st (.part 952 (.v (.st 19)) (.part 1 (.box 185 (.v (.st 24))) (.part 320 (.v (.st 21)) (.part 1 (.row 3 1 (.int .i64)) .nil)))))) (.part 1 (.v (.int .i64)) .nil)))),(.via 5, .box 55 (.v (.st 2)))] []),(11, .loop [(.via 0, .box 141 (.st (.part 1 (.box 113 (.st (.part 952 (.v (.st 19)) (.part 1 (.box 185 (.v (.st 24))) (.part 320 (.v (.st 21)) (.part 1 (.row 3 1 (.int .i64)) .nil)))))) (.part 1 (.v (.int .i64)) .nil))))])] [F3 n,Dj n] []) ⟨17,[],(.cons (.box 141 (.st (.part 1 (.box 113 (.st (.part 952 (.v (.st 19)) (.part 1 (.box 185 (.v (.st 24))) (.part 320 (.v (.st 21)) (.part 1 (.row 3 1 (.int .i64)) .nil)))))) (.part 1 (.v (.int .i64)) .nil)))) (.cons (.v (.st 3)) .nil)),(.cons (.v (.st 2)) (.cons (.box 141 (.st (.part 1 (.box 113 (.st (.part 952 (.v (.st 19)) (.part 1 (.box 185 (.v (.st 24))) (.part 320 (.v (.st 21)) (.part 1 (.row 3 1 (.int .i64)) .nil)))))) (.part 1 (.v (.int .i64)) .nil)))) .nil)),[some 0,some 1,some 2,none], .nil,[],[[0]]⟩ (λx=>cJ n x.1 x.2.1 x.2.2.1 x.2.2.2.1 x.2.2.2.2.1 x.2.2.2.2.2.1) (λy=>(y.1,y.2.1,y.2.2.1,y.2.2.2.1,y.2.2.2.2.1,y.2.2.2.2.2.1)) (λz=>(z.1,(z.2.1,(z.2.2.1,(z.2.2.2.1,(z.2.2.2.2.1,(z.2.2.2.2.2,())))))))
def mj(n:Nat)(a0:Int):Option (Int×Bool):=
some (wr .u32 a0,((decide (0<=a0))&&(decide (a0<=4294967295))))
def JP(n:Nat):CT:=cV (tC n [] [] []) ⟨59,[],(.cons (.v (.int .i64)) .nil),(.cons (.jv (.cons (.v (.int .u32)) (.cons (.v .bool) .nil))) .nil),[], .nil,[],[]⟩ (λx=>mj n x.1) (λy=>(y.1,y.2.1)) (λz=>(z.1,(z.2,())))
def iZ(n:Nat)(cL:ae)(da:aj)(dx:ai)(dw:(List Int))(cC:Int)(a1:Int)(a2:Int)(a3:Int)(a4:Int)(a5:Int):Option (ah×ae×aj×ai×(List Int)×Int):=
bd (mj n a3) λaA=>
bd (mj n a4) λaR=>
cn (((!aA.2)||(!aR.2))) (
lt (({ay with E:=2}:ah):ah) λbS=>
some (bS,cL,da,dx,dw,cC)) (
bd (cJ n cL da dx dw cC ({({({({({eF with Do:=a1}:aC)with R:=a2}:aC)with A:=aA.1}:aC)with B:=aR.1}:aC)with V:=a5}:aC)) λcE=>
lt (cE.1:ah) λdU=>
some (dU,cE.2.1,cE.2.2.1,cE.2.2.2.1,cE.2.2.2.2.1,cE.2.2.2.2.2))
def sQ(n:Nat):CT:=cV (tC n [] [JP n,sR n] []) ⟨34,[],(.cons (.box 141 (.st (.part 1 (.box 113 (.st (.part 952 (.v (.st 19)) (.part 1 (.box 185 (.v (.st 24))) (.part 320 (.v (.st 21)) (.part 1 (.row 3 1 (.int .i64)) .nil)))))) (.part 1 (.v (.int .i64)) .nil)))) (.cons (.v (.int .u8)) (.cons (.v (.int .u32)) (.cons (.v (.int .i64)) (.cons (.v (.int .i64)) (.cons (.v (.int .u64)) .nil)))))),(.cons (.v (.st 2)) (.cons (.box 141 (.st (.part 1 (.box 113 (.st (.part 952 (.v (.st 19)) (.part 1 (.box 185 (.v (.st 24))) (.part 320 (.v (.st 21)) (.part 1 (.row 3 1 (.int .i64)) .nil)))))) (.part 1 (.v (.int .i64)) .nil)))) .nil)),[some 0,some 1,some 2,none], .nil,[],[[0]]⟩ (λx=>iZ n x.1 x.2.1 x.2.2.1 x.2.2.2.1 x.2.2.2.2.1 x.2.2.2.2.2.1 x.2.2.2.2.2.2.1 x.2.2.2.2.2.2.2.1 x.2.2.2.2.2.2.2.2.1 x.2.2.2.2.2.2.2.2.2.1) (λy=>(y.1,y.2.1,y.2.2.1,y.2.2.2.1,y.2.2.2.2.1,y.2.2.2.2.2.1)) (λz=>(z.1,(z.2.1,(z.2.2.1,(z.2.2.2.1,(z.2.2.2.2.1,(z.2.2.2.2.2,())))))))
def dX(n:Nat)(cL:ae)(da:aj)(dx:ai)(dw:(List Int))(cC:Int)(a1:Int)(a2:Int)(a3:Int):Option (Int×Int×ae×aj×ai×(List Int)×Int):=
bd (iZ n cL da dx dw cC 2 a1 a2 a3 0) λaA=>
lt (aA.1:ah) λaR=>
some (wr .i64 aR.V,aR.E,aA.2.1,aA.2.2.1,aA.2.2.2.1,aA.2.2.2.2.1,aA.2.2.2.2.2)
def qY(n:Nat):CT:=cV (tC n [] [sQ n] []) ⟨48,[],(.cons (.box 141 (.st (.part 1 (.box 113 (.st (.part 952 (.v (.st 19)) (.part 1 (.box 185 (.v (.st 24))) (.part 320 (.v (.st 21)) (.part 1 (.row 3 1 (.int .i64)) .nil)))))) (.part 1 (.v (.int .i64)) .nil)))) (.cons (.v (.int .u32)) (.cons (.v (.int .i64)) (.cons (.v (.int .i64)) .nil)))),(.cons (.jv (.cons (.v (.int .i64)) (.cons (.v (.int .i64)) .nil))) (.cons (.box 141 (.st (.part 1 (.box 113 (.st (.part 952 (.v (.st 19)) (.part 1 (.box 185 (.v (.st 24))) (.part 320 (.v (.st 21)) (.part 1 (.row 3 1 (.int .i64)) .nil)))))) (.part 1 (.v (.int .i64)) .nil)))) .nil)),[some 0,some 1,some 2,none], .nil,[],[[0]]⟩ (λx=>dX n x.1 x.2.1 x.2.2.1 x.2.2.2.1 x.2.2.2.2.1 x.2.2.2.2.2.1 x.2.2.2.2.2.2.1 x.2.2.2.2.2.2.2.1) (λy=>(y.1,y.2.1,y.2.2.1,y.2.2.2.1,y.2.2.2.2.1,y.2.2.2.2.2.1,y.2.2.2.2.2.2.1)) (λz=>(z.1,(z.2.1,(z.2.2.1,(z.2.2.2.1,(z.2.2.2.2.1,(z.2.2.2.2.2.1,(z.2.2.2.2.2.2,()))))))))
def kA(n:Nat)(cL:ae)(da:aj)(dx:ai)(dw:(List Int))(cC:Int)(a1:Int)(a2:Int):Option (Int×Int×ae×aj×ai×(List Int)×Int):=
bd (iZ n cL da dx dw cC 3 a1 a2 8 0) λaA=>
lt (aA.1:ah) λaR=>
some (aR.V,aR.E,aA.2.1,aA.2.2.1,aA.2.2.2.1,aA.2.2.2.2.1,aA.2.2.2.2.2)
def F4(n:Nat):CT:=cV (tC n [] [sQ n] []) ⟨61,[],(.cons (.box 141 (.st (.part 1 (.box 113 (.st (.part 952 (.v (.st 19)) (.part 1 (.box 185 (.v (.st 24))) (.part 320 (.v (.st 21)) (.part 1 (.row 3 1 (.int .i64)) .nil)))))) (.part 1 (.v (.int .i64)) .nil)))) (.cons (.v (.int .u32)) (.cons (.v (.int .i64)) .nil))),(.cons (.jv (.cons (.v (.int .u64)) (.cons (.v (.int .i64)) .nil))) (.cons (.box 141 (.st (.part 1 (.box 113 (.st (.part 952 (.v (.st 19)) (.part 1 (.box 185 (.v (.st 24))) (.part 320 (.v (.st 21)) (.part 1 (.row 3 1 (.int .i64)) .nil)))))) (.part 1 (.v (.int .i64)) .nil)))) .nil)),[some 0,some 1,some 2,none], .nil,[],[[0]]⟩ (λx=>kA n x.1 x.2.1 x.2.2.1 x.2.2.2.1 x.2.2.2.2.1 x.2.2.2.2.2.1 x.2.2.2.2.2.2.1) (λy=>(y.1,y.2.1,y.2.2.1,y.2.2.2.1,y.2.2.2.2.1,y.2.2.2.2.2.1,y.2.2.2.2.2.2.1)) (λz=>(z.1,(z.2.1,(z.2.2.1,(z.2.2.2.1,(z.2.2.2.2.1,(z.2.2.2.2.2.1,(z.2.2.2.2.2.2,()))))))))
def cy(n:Nat)(cL:ae)(da:aj)(dx:ai)(dw:(List Int))(cC:Int)(dF:Int)(dD:Int)(Bk:Int)(a1:Int):Option (Int×ae×aj×ai×(List Int)×Int×Int×Int×Int):=
cn ((Bk !=0)) (
some (0,cL,da,dx,dw,cC,dF,dD,Bk)) (
bd (kA n cL da dx dw cC dF a1) λaA=>
lt (aA.2.1:Int) λaR=>
some (aA.1,aA.2.2.1,aA.2.2.2.1,aA.2.2.2.2.1,aA.2.2.2.2.2.1,aA.2.2.2.2.2.2,dF,dD,aR))
def gM(n:Nat):CT:=cV (tC n [] [F4 n] []) ⟨38,[],(.cons (.box 150 (.st (.part 3 (.st (.part 1 (.box 141 (.st (.part 1 (.box 113 (.st (.part 952 (.v (.st 19)) (.part 1 (.box 185 (.v (.st 24))) (.part 320 (.v (.st 21)) (.part 1 (.row 3 1 (.int .i64)) .nil)))))) (.part 1 (.v (.int .i64)) .nil)))) (.part 1 (.v (.int .u32)) (.part 1 (.v (.int .i64)) .nil)))) (.part 1 (.v (.int .i64)) .nil)))) (.cons (.v (.int .i64)) .nil)),(.cons (.v (.int .u64)) (.cons (.box 150 (.st (.part 3 (.st (.part 1 (.box 141 (.st (.part 1 (.box 113 (.st (.part 952 (.v (.st 19)) (.part 1 (.box 185 (.v (.st 24))) (.part 320 (.v (.st 21)) (.part 1 (.row 3 1 (.int .i64)) .nil)))))) (.part 1 (.v (.int .i64)) .nil)))) (.part 1 (.v (.int .u32)) (.part 1 (.v (.int .i64)) .nil)))) (.part 1 (.v (.int .i64)) .nil)))) .nil)),[some 0,some 1,some 2,some 3,none], .nil,[],[[0]]⟩ (λx=>cy n x.1 x.2.1 x.2.2.1 x.2.2.2.1 x.2.2.2.2.1 x.2.2.2.2.2.1 x.2.2.2.2.2.2.1 x.2.2.2.2.2.2.2.1 x.2.2.2.2.2.2.2.2.1) (λy=>(y.1,y.2.1,y.2.2.1,y.2.2.2.1,y.2.2.2.2.1,y.2.2.2.2.2.1,y.2.2.2.2.2.2.1,y.2.2.2.2.2.2.2.1,y.2.2.2.2.2.2.2.2.1)) (λz=>(z.1,(z.2.1,(z.2.2.1,(z.2.2.2.1,(z.2.2.2.2.1,(z.2.2.2.2.2.1,(z.2.2.2.2.2.2.1,(z.2.2.2.2.2.2.2.1,(z.2.2.2.2.2.2.2.2,()))))))))))
def bQ(n:Nat)(cL:ae)(da:aj)(dx:ai)(dw:(List Int))(cC:Int)(dF:Int)(dD:Int)(Bk:Int)(a1:Int):Option (Int×ae×aj×ai×(List Int)×Int×Int×Int×Int):=
bd (cy n cL da dx dw cC dF dD Bk (wr .i64 (dD+a1))) λaA=>
some (aA.1,aA.2.1,aA.2.2.1,aA.2.2.2.1,aA.2.2.2.2.1,aA.2.2.2.2.2.1,aA.2.2.2.2.2.2.1,aA.2.2.2.2.2.2.2.1,aA.2.2.2.2.2.2.2.2)
def fz(n:Nat):CT:=cV (tC n [] [gM n] []) ⟨28,[],(.cons (.box 150 (.st (.part 3 (.st (.part 1 (.box 141 (.st (.part 1 (.box 113 (.st (.part 952 (.v (.st 19)) (.part 1 (.box 185 (.v (.st 24))) (.part 320 (.v (.st 21)) (.part 1 (.row 3 1 (.int .i64)) .nil)))))) (.part 1 (.v (.int .i64)) .nil)))) (.part 1 (.v (.int .u32)) (.part 1 (.v (.int .i64)) .nil)))) (.part 1 (.v (.int .i64)) .nil)))) (.cons (.v (.int .i64)) .nil)),(.cons (.v (.int .u64)) (.cons (.box 150 (.st (.part 3 (.st (.part 1 (.box 141 (.st (.part 1 (.box 113 (.st (.part 952 (.v (.st 19)) (.part 1 (.box 185 (.v (.st 24))) (.part 320 (.v (.st 21)) (.part 1 (.row 3 1 (.int .i64)) .nil)))))) (.part 1 (.v (.int .i64)) .nil)))) (.part 1 (.v (.int .u32)) (.part 1 (.v (.int .i64)) .nil)))) (.part 1 (.v (.int .i64)) .nil)))) .nil)),[some 0,some 1,some 2,some 3,none], .nil,[],[[0]]⟩ (λx=>bQ n x.1 x.2.1 x.2.2.1 x.2.2.2.1 x.2.2.2.2.1 x.2.2.2.2.2.1 x.2.2.2.2.2.2.1 x.2.2.2.2.2.2.2.1 x.2.2.2.2.2.2.2.2.1) (λy=>(y.1,y.2.1,y.2.2.1,y.2.2.2.1,y.2.2.2.2.1,y.2.2.2.2.2.1,y.2.2.2.2.2.2.1,y.2.2.2.2.2.2.2.1,y.2.2.2.2.2.2.2.2.1)) (λz=>(z.1,(z.2.1,(z.2.2.1,(z.2.2.2.1,(z.2.2.2.2.1,(z.2.2.2.2.2.1,(z.2.2.2.2.2.2.1,(z.2.2.2.2.2.2.2.1,(z.2.2.2.2.2.2.2.2,()))))))))))
def gR(n:Nat)(a0:Int):Option Int:=
cn (((a0==0)||(decide (4294967296<a0)))) (
some ((-1))) (
some (wr .i64 (wr .u64 (a0-1))))
def sy(n:Nat):CT:=cV (tC n [] [] []) ⟨33,[],(.cons (.v (.int .u64)) .nil),(.cons (.v (.int .i64)) .nil),[], .nil,[],[]⟩ (λx=>gR n x.1) (λy=>(y.1)) (λz=>(z,()))
def uo(n:Nat)(cL:ae)(da:aj)(dx:ai)(dw:(List Int))(cC:Int)(a1:Int)(a2:Int)(a3:Int):Option (Int×ae×aj×ai×(List Int)×Int):=
bd (iZ n cL da dx dw cC 4 a1 a2 8 a3) λaA=>
some (aA.1.E,aA.2.1,aA.2.2.1,aA.2.2.2.1,aA.2.2.2.2.1,aA.2.2.2.2.2)
def Ih(n:Nat):CT:=cV (tC n [] [sQ n] []) ⟨10,[],(.cons (.box 141 (.st (.part 1 (.box 113 (.st (.part 952 (.v (.st 19)) (.part 1 (.box 185 (.v (.st 24))) (.part 320 (.v (.st 21)) (.part 1 (.row 3 1 (.int .i64)) .nil)))))) (.part 1 (.v (.int .i64)) .nil)))) (.cons (.v (.int .u32)) (.cons (.v (.int .i64)) (.cons (.v (.int .u64)) .nil)))),(.cons (.v (.int .i64)) (.cons (.box 141 (.st (.part 1 (.box 113 (.st (.part 952 (.v (.st 19)) (.part 1 (.box 185 (.v (.st 24))) (.part 320 (.v (.st 21)) (.part 1 (.row 3 1 (.int .i64)) .nil)))))) (.part 1 (.v (.int .i64)) .nil)))) .nil)),[some 0,some 1,some 2,none], .nil,[],[[0]]⟩ (λx=>uo n x.1 x.2.1 x.2.2.1 x.2.2.2.1 x.2.2.2.2.1 x.2.2.2.2.2.1 x.2.2.2.2.2.2.1 x.2.2.2.2.2.2.2.1) (λy=>(y.1,y.2.1,y.2.2.1,y.2.2.2.1,y.2.2.2.2.1,y.2.2.2.2.2.1)) (λz=>(z.1,(z.2.1,(z.2.2.1,(z.2.2.2.1,(z.2.2.2.2.1,(z.2.2.2.2.2,())))))))
def cK(n:Nat)(cL:ae)(da:aj)(dx:ai)(dw:(List Int))(cC:Int)(dF:Int)(dD:Int)(Bk:Int)(a1:Int)(a2:Int):Option (ae×aj×ai×(List Int)×Int×Int×Int×Int):=
cn ((Bk==0)) (
bd (uo n cL da dx dw cC dF a1 a2) λaA=>
lt (aA.1:Int) λaR=>
some (aA.2.1,aA.2.2.1,aA.2.2.2.1,aA.2.2.2.2.1,aA.2.2.2.2.2,dF,dD,aR)) (
some (cL,da,dx,dw,cC,dF,dD,Bk))
def iM(n:Nat):CT:=cV (tC n [] [Ih n] []) ⟨30,[],(.cons (.box 150 (.st (.part 3 (.st (.part 1 (.box 141 (.st (.part 1 (.box 113 (.st (.part 952 (.v (.st 19)) (.part 1 (.box 185 (.v (.st 24))) (.part 320 (.v (.st 21)) (.part 1 (.row 3 1 (.int .i64)) .nil)))))) (.part 1 (.v (.int .i64)) .nil)))) (.part 1 (.v (.int .u32)) (.part 1 (.v (.int .i64)) .nil)))) (.part 1 (.v (.int .i64)) .nil)))) (.cons (.v (.int .i64)) (.cons (.v (.int .u64)) .nil))),(.cons (.jv .nil) (.cons (.box 150 (.st (.part 3 (.st (.part 1 (.box 141 (.st (.part 1 (.box 113 (.st (.part 952 (.v (.st 19)) (.part 1 (.box 185 (.v (.st 24))) (.part 320 (.v (.st 21)) (.part 1 (.row 3 1 (.int .i64)) .nil)))))) (.part 1 (.v (.int .i64)) .nil)))) (.part 1 (.v (.int .u32)) (.part 1 (.v (.int .i64)) .nil)))) (.part 1 (.v (.int .i64)) .nil)))) .nil)),[some 0,some 1,some 2,some 3,none], .nil,[],[[0]]⟩ (λx=>cK n x.1 x.2.1 x.2.2.1 x.2.2.2.1 x.2.2.2.2.1 x.2.2.2.2.2.1 x.2.2.2.2.2.2.1 x.2.2.2.2.2.2.2.1 x.2.2.2.2.2.2.2.2.1 x.2.2.2.2.2.2.2.2.2.1) (λy=>(y.1,y.2.1,y.2.2.1,y.2.2.2.1,y.2.2.2.2.1,y.2.2.2.2.2.1,y.2.2.2.2.2.2.1,y.2.2.2.2.2.2.2.1)) (λz=>(z.1,(z.2.1,(z.2.2.1,(z.2.2.2.1,(z.2.2.2.2.1,(z.2.2.2.2.2.1,(z.2.2.2.2.2.2.1,(z.2.2.2.2.2.2.2,())))))))))
def bg(n:Nat)(cL:ae)(da:aj)(dx:ai)(dw:(List Int))(cC:Int)(dF:Int)(dD:Int)(Bk:Int)(a1:Int)(a2:Int):Option (ae×aj×ai×(List Int)×Int×Int×Int×Int):=
bd (cK n cL da dx dw cC dF dD Bk (wr .i64 (dD+a1)) a2) λaA=>
some (aA.1,aA.2.1,aA.2.2.1,aA.2.2.2.1,aA.2.2.2.2.1,aA.2.2.2.2.2.1,aA.2.2.2.2.2.2.1,aA.2.2.2.2.2.2.2)
def jG(n:Nat):CT:=cV (tC n [] [iM n] []) ⟨31,[],(.cons (.box 150 (.st (.part 3 (.st (.part 1 (.box 141 (.st (.part 1 (.box 113 (.st (.part 952 (.v (.st 19)) (.part 1 (.box 185 (.v (.st 24))) (.part 320 (.v (.st 21)) (.part 1 (.row 3 1 (.int .i64)) .nil)))))) (.part 1 (.v (.int .i64)) .nil)))) (.part 1 (.v (.int .u32)) (.part 1 (.v (.int .i64)) .nil)))) (.part 1 (.v (.int .i64)) .nil)))) (.cons (.v (.int .i64)) (.cons (.v (.int .u64)) .nil))),(.cons (.jv .nil) (.cons (.box 150 (.st (.part 3 (.st (.part 1 (.box 141 (.st (.part 1 (.box 113 (.st (.part 952 (.v (.st 19)) (.part 1 (.box 185 (.v (.st 24))) (.part 320 (.v (.st 21)) (.part 1 (.row 3 1 (.int .i64)) .nil)))))) (.part 1 (.v (.int .i64)) .nil)))) (.part 1 (.v (.int .u32)) (.part 1 (.v (.int .i64)) .nil)))) (.part 1 (.v (.int .i64)) .nil)))) .nil)),[some 0,some 1,some 2,some 3,none], .nil,[],[[0]]⟩ (λx=>bg n x.1 x.2.1 x.2.2.1 x.2.2.2.1 x.2.2.2.2.1 x.2.2.2.2.2.1 x.2.2.2.2.2.2.1 x.2.2.2.2.2.2.2.1 x.2.2.2.2.2.2.2.2.1 x.2.2.2.2.2.2.2.2.2.1) (λy=>(y.1,y.2.1,y.2.2.1,y.2.2.2.1,y.2.2.2.2.1,y.2.2.2.2.2.1,y.2.2.2.2.2.2.1,y.2.2.2.2.2.2.2.1)) (λz=>(z.1,(z.2.1,(z.2.2.1,(z.2.2.2.1,(z.2.2.2.2.1,(z.2.2.2.2.2.1,(z.2.2.2.2.2.2.1,(z.2.2.2.2.2.2.2,())))))))))
def iw(n:Nat)(cL:ae)(da:aj)(dx:ai)(dw:(List Int))(cC:Int)(dF:Int)(dD:Int)(Bk:Int):Option (Int×ae×aj×ai×(List Int)×Int×Int×Int×Int):=
bd (bQ n cL da dx dw cC dF dD Bk 24) λaA=>
cn ((aA.2.2.2.2.2.2.2.2!=0)) (
some (0,aA.2.1,aA.2.2.1,aA.2.2.2.1,aA.2.2.2.2.1,aA.2.2.2.2.2.1,aA.2.2.2.2.2.2.1,aA.2.2.2.2.2.2.2.1,aA.2.2.2.2.2.2.2.2)) (
cn ((aA.1==0)) (
bd (dX n aA.2.1 aA.2.2.1 aA.2.2.2.1 aA.2.2.2.2.1 aA.2.2.2.2.2.1 aA.2.2.2.2.2.2.1 16 8) λaR=>
lt (aR.2.1:Int) λbS=>
some (aR.1,aR.2.2.1,aR.2.2.2.1,aR.2.2.2.2.1,aR.2.2.2.2.2.1,aR.2.2.2.2.2.2,aA.2.2.2.2.2.2.1,aA.2.2.2.2.2.2.2.1,bS)) (
bd (gR n aA.1) λcE=>
bd (cy n aA.2.1 aA.2.2.1 aA.2.2.2.1 aA.2.2.2.2.1 aA.2.2.2.2.2.1 aA.2.2.2.2.2.2.1 aA.2.2.2.2.2.2.2.1 aA.2.2.2.2.2.2.2.2 (wr .i64 (cE+0))) λdU=>
bd (bg n dU.2.1 dU.2.2.1 dU.2.2.2.1 dU.2.2.2.2.1 dU.2.2.2.2.2.1 dU.2.2.2.2.2.2.1 dU.2.2.2.2.2.2.2.1 dU.2.2.2.2.2.2.2.2 24 dU.1) λeM=>
bd (gR n aA.1) λdB=>
some (dB,eM.1,eM.2.1,eM.2.2.1,eM.2.2.2.1,eM.2.2.2.2.1,eM.2.2.2.2.2.1,eM.2.2.2.2.2.2.1,eM.2.2.2.2.2.2.2)))
def vn(n:Nat):CT:=cV (tC n [] [fz n,qY n,sy n,gM n,jG n] []) ⟨29,[],(.cons (.box 150 (.st (.part 3 (.st (.part 1 (.box 141 (.st (.part 1 (.box 113 (.st (.part 952 (.v (.st 19)) (.part 1 (.box 185 (.v (.st 24))) (.part 320 (.v (.st 21)) (.part 1 (.row 3 1 (.int .i64)) .nil)))))) (.part 1 (.v (.int .i64)) .nil)))) (.part 1 (.v (.int .u32)) (.part 1 (.v (.int .i64)) .nil)))) (.part 1 (.v (.int .i64)) .nil)))) .nil),(.cons (.v (.int .i64)) (.cons (.box 150 (.st (.part 3 (.st (.part 1 (.box 141 (.st (.part 1 (.box 113 (.st (.part 952 (.v (.st 19)) (.part 1 (.box 185 (.v (.st 24))) (.part 320 (.v (.st 21)) (.part 1 (.row 3 1 (.int .i64)) .nil)))))) (.part 1 (.v (.int .i64)) .nil)))) (.part 1 (.v (.int .u32)) (.part 1 (.v (.int .i64)) .nil)))) (.part 1 (.v (.int .i64)) .nil)))) .nil)),[some 0,some 1,some 2,some 3,none], .nil,[],[[0]]⟩ (λx=>iw n x.1 x.2.1 x.2.2.1 x.2.2.2.1 x.2.2.2.2.1 x.2.2.2.2.2.1 x.2.2.2.2.2.2.1 x.2.2.2.2.2.2.2.1) (λy=>(y.1,y.2.1,y.2.2.1,y.2.2.2.1,y.2.2.2.2.1,y.2.2.2.2.2.1,y.2.2.2.2.2.2.1,y.2.2.2.2.2.2.2.1,y.2.2.2.2.2.2.2.2.1)) (λz=>(z.1,(z.2.1,(z.2.2.1,(z.2.2.2.1,(z.2.2.2.2.1,(z.2.2.2.2.2.1,(z.2.2.2.2.2.2.1,(z.2.2.2.2.2.2.2.1,(z.2.2.2.2.2.2.2.2,()))))))))))
def gi(n:Nat)(a0:Int):Option Int:=
some (wr .u64 ((wr .u64 a0)+1))
def yh(n:Nat):CT:=cV (tC n [] [] []) ⟨32,[],(.cons (.v (.int .i64)) .nil),(.cons (.v (.int .u64)) .nil),[], .nil,[],[]⟩ (λx=>gi n x.1) (λy=>(y.1)) (λz=>(z,()))
def jN(n:Nat)(cL:ae)(da:aj)(dx:ai)(dw:(List Int))(cC:Int)(dF:Int)(dD:Int)(a1:Int):Option (Int×ae×aj×ai×(List Int)×Int×Int×Int):=
bd (bQ n cL da dx dw cC dF dD 0 16) λaA=>
bd (bQ n aA.2.1 aA.2.2.1 aA.2.2.2.1 aA.2.2.2.2.1 aA.2.2.2.2.2.1 aA.2.2.2.2.2.2.1 aA.2.2.2.2.2.2.2.1 aA.2.2.2.2.2.2.2.2 8) λaR=>
bd (iw n aR.2.1 aR.2.2.1 aR.2.2.2.1 aR.2.2.2.2.1 aR.2.2.2.2.2.1 aR.2.2.2.2.2.2.1 aR.2.2.2.2.2.2.2.1 aR.2.2.2.2.2.2.2.2) λbS=>
bd (cK n bS.2.1 bS.2.2.1 bS.2.2.2.1 bS.2.2.2.2.1 bS.2.2.2.2.2.1 bS.2.2.2.2.2.2.1 bS.2.2.2.2.2.2.2.1 bS.2.2.2.2.2.2.2.2 (wr .i64 (bS.1+0)) 0) λcE=>
bd (cK n cE.1 cE.2.1 cE.2.2.1 cE.2.2.2.1 cE.2.2.2.2.1 cE.2.2.2.2.2.1 cE.2.2.2.2.2.2.1 cE.2.2.2.2.2.2.2 (wr .i64 (bS.1+8)) a1) λdU=>
lt (λ(eM:ae) (dB:aj) (eS:ai) (ic:(List Int)) (eo:Int) (dP:Int) (jk:Int) (eU:Int)=>
bd (gi n bS.1) λfV=>
bd (bg n eM dB eS ic eo dP jk eU 8 fV) λjS=>
bd (bg n jS.1 jS.2.1 jS.2.2.1 jS.2.2.2.1 jS.2.2.2.2.1 jS.2.2.2.2.2.1 jS.2.2.2.2.2.2.1 jS.2.2.2.2.2.2.2 16 (wr .u64 (aA.1+1))) λdL=>
some (dL.2.2.2.2.2.2.2,dL.1,dL.2.1,dL.2.2.1,dL.2.2.2.1,dL.2.2.2.2.1,dF,dD)) λYF=>
cn ((aA.1==0)) (
bd (gi n bS.1) λjU=>
bd (bg n dU.1 dU.2.1 dU.2.2.1 dU.2.2.2.1 dU.2.2.2.2.1 dU.2.2.2.2.2.1 dU.2.2.2.2.2.2.1 dU.2.2.2.2.2.2.2 0 jU) λgA=>
YF gA.1 gA.2.1 gA.2.2.1 gA.2.2.2.1 gA.2.2.2.2.1 gA.2.2.2.2.2.1 gA.2.2.2.2.2.2.1 gA.2.2.2.2.2.2.2) (
bd (gR n aR.1) λrP=>
bd (gi n bS.1) λgy=>
bd (cK n dU.1 dU.2.1 dU.2.2.1 dU.2.2.2.1 dU.2.2.2.2.1 dU.2.2.2.2.2.1 dU.2.2.2.2.2.2.1 dU.2.2.2.2.2.2.2 (wr .i64 (rP+0)) gy) λmX=>
YF mX.1 mX.2.1 mX.2.2.1 mX.2.2.2.1 mX.2.2.2.2.1 mX.2.2.2.2.2.1 mX.2.2.2.2.2.2.1 mX.2.2.2.2.2.2.2)
def vp(n:Nat):CT:=cV (tC n [(80150000014, .join [(.via 0, .box 150 (.st (.part 3 (.st (.part 1 (.box 141 (.st (.part 1 (.box 113 (.st (.part 952 (.v (.st 19)) (.part 1 (.box 185 (.v (.st 24))) (.part 320 (.v (.st 21)) (.part 1 (.row 3 1 (.int .i64)) .nil)))))) (.part 1 (.v (.int .i64)) .nil)))) (.part 1 (.v (.int .u32)) (.part 1 (.v (.int .i64)) .nil)))) (.part 1 (.v (.int .i64)) .nil))))] [])] [fz n,vn n,iM n,yh n,jG n,sy n] []) ⟨9,[],(.cons (.st (.part 1 (.box 141 (.st (.part 1 (.box 113 (.st (.part 952 (.v (.st 19)) (.part 1 (.box 185 (.v (.st 24))) (.part 320 (.v (.st 21)) (.part 1 (.row 3 1 (.int .i64)) .nil)))))) (.part 1 (.v (.int .i64)) .nil)))) (.part 1 (.v (.int .u32)) (.part 1 (.v (.int .i64)) .nil)))) (.cons (.v (.int .u64)) .nil)),(.cons (.v (.int .i64)) (.cons (.st (.part 1 (.box 141 (.st (.part 1 (.box 113 (.st (.part 952 (.v (.st 19)) (.part 1 (.box 185 (.v (.st 24))) (.part 320 (.v (.st 21)) (.part 1 (.row 3 1 (.int .i64)) .nil)))))) (.part 1 (.v (.int .i64)) .nil)))) (.part 1 (.v (.int .u32)) (.part 1 (.v (.int .i64)) .nil)))) .nil)),[some 0,some 1,some 2,none], .nil,[],[[0]]⟩ (λx=>jN n x.1 x.2.1 x.2.2.1 x.2.2.2.1 x.2.2.2.2.1 x.2.2.2.2.2.1 x.2.2.2.2.2.2.1 x.2.2.2.2.2.2.2.1) (λy=>(y.1,y.2.1,y.2.2.1,y.2.2.2.1,y.2.2.2.2.1,y.2.2.2.2.2.1,y.2.2.2.2.2.2.1,y.2.2.2.2.2.2.2.1)) (λz=>(z.1,(z.2.1,(z.2.2.1,(z.2.2.2.1,(z.2.2.2.2.1,(z.2.2.2.2.2.1,(z.2.2.2.2.2.2.1,(z.2.2.2.2.2.2.2,())))))))))
def kS(n:Nat)(cL:ae)(da:aj)(dx:ai)(dw:(List Int))(cC:Int)(dF:Int)(dD:Int)(a1:Int):Option (Int×ae×aj×ai×(List Int)×Int×Int×Int):=
bd (bQ n cL da dx dw cC dF dD 0 16) λaA=>
bd (bQ n aA.2.1 aA.2.2.1 aA.2.2.2.1 aA.2.2.2.2.1 aA.2.2.2.2.2.1 aA.2.2.2.2.2.2.1 aA.2.2.2.2.2.2.2.1 aA.2.2.2.2.2.2.2.2 0) λaR=>
bd (iw n aR.2.1 aR.2.2.1 aR.2.2.2.1 aR.2.2.2.2.1 aR.2.2.2.2.2.1 aR.2.2.2.2.2.2.1 aR.2.2.2.2.2.2.2.1 aR.2.2.2.2.2.2.2.2) λbS=>
bd (cK n bS.2.1 bS.2.2.1 bS.2.2.2.1 bS.2.2.2.2.1 bS.2.2.2.2.2.1 bS.2.2.2.2.2.2.1 bS.2.2.2.2.2.2.2.1 bS.2.2.2.2.2.2.2.2 (wr .i64 (bS.1+0)) aR.1) λcE=>
bd (cK n cE.1 cE.2.1 cE.2.2.1 cE.2.2.2.1 cE.2.2.2.2.1 cE.2.2.2.2.2.1 cE.2.2.2.2.2.2.1 cE.2.2.2.2.2.2.2 (wr .i64 (bS.1+8)) a1) λdU=>
bd (gi n bS.1) λeM=>
bd (bg n dU.1 dU.2.1 dU.2.2.1 dU.2.2.2.1 dU.2.2.2.2.1 dU.2.2.2.2.2.1 dU.2.2.2.2.2.2.1 dU.2.2.2.2.2.2.2 0 eM) λdB=>
lt (λ(eS:ae) (ic:aj) (eo:ai) (dP:(List Int)) (jk:Int) (eU:Int) (cI:Int) (fV:Int)=>
bd (bg n eS ic eo dP jk eU cI fV 16 (wr .u64 (aA.1+1))) λdL=>
some (dL.2.2.2.2.2.2.2,dL.1,dL.2.1,dL.2.2.1,dL.2.2.2.1,dL.2.2.2.2.1,dF,dD)) λj36=>
cn ((aA.1==0)) (
bd (gi n bS.1) λjU=>
bd (bg n dB.1 dB.2.1 dB.2.2.1 dB.2.2.2.1 dB.2.2.2.2.1 dB.2.2.2.2.2.1 dB.2.2.2.2.2.2.1 dB.2.2.2.2.2.2.2 8 jU) λgA=>
j36 gA.1 gA.2.1 gA.2.2.1 gA.2.2.2.1 gA.2.2.2.2.1 gA.2.2.2.2.2.1 gA.2.2.2.2.2.2.1 gA.2.2.2.2.2.2.2) (
j36 dB.1 dB.2.1 dB.2.2.1 dB.2.2.2.1 dB.2.2.2.2.1 dB.2.2.2.2.2.1 dB.2.2.2.2.2.2.1 dB.2.2.2.2.2.2.2)
def tY(n:Nat):CT:=cV (tC n [(80150000014, .join [(.via 0, .box 150 (.st (.part 3 (.st (.part 1 (.box 141 (.st (.part 1 (.box 113 (.st (.part 952 (.v (.st 19)) (.part 1 (.box 185 (.v (.st 24))) (.part 320 (.v (.st 21)) (.part 1 (.row 3 1 (.int .i64)) .nil)))))) (.part 1 (.v (.int .i64)) .nil)))) (.part 1 (.v (.int .u32)) (.part 1 (.v (.int .i64)) .nil)))) (.part 1 (.v (.int .i64)) .nil))))] [])] [fz n,vn n,iM n,yh n,jG n] []) ⟨23,[],(.cons (.st (.part 1 (.box 141 (.st (.part 1 (.box 113 (.st (.part 952 (.v (.st 19)) (.part 1 (.box 185 (.v (.st 24))) (.part 320 (.v (.st 21)) (.part 1 (.row 3 1 (.int .i64)) .nil)))))) (.part 1 (.v (.int .i64)) .nil)))) (.part 1 (.v (.int .u32)) (.part 1 (.v (.int .i64)) .nil)))) (.cons (.v (.int .u64)) .nil)),(.cons (.v (.int .i64)) (.cons (.st (.part 1 (.box 141 (.st (.part 1 (.box 113 (.st (.part 952 (.v (.st 19)) (.part 1 (.box 185 (.v (.st 24))) (.part 320 (.v (.st 21)) (.part 1 (.row 3 1 (.int .i64)) .nil)))))) (.part 1 (.v (.int .i64)) .nil)))) (.part 1 (.v (.int .u32)) (.part 1 (.v (.int .i64)) .nil)))) .nil)),[some 0,some 1,some 2,none], .nil,[],[[0]]⟩ (λx=>kS n x.1 x.2.1 x.2.2.1 x.2.2.2.1 x.2.2.2.2.1 x.2.2.2.2.2.1 x.2.2.2.2.2.2.1 x.2.2.2.2.2.2.2.1) (λy=>(y.1,y.2.1,y.2.2.1,y.2.2.2.1,y.2.2.2.2.1,y.2.2.2.2.2.1,y.2.2.2.2.2.2.1,y.2.2.2.2.2.2.2.1)) (λz=>(z.1,(z.2.1,(z.2.2.1,(z.2.2.2.1,(z.2.2.2.2.1,(z.2.2.2.2.2.1,(z.2.2.2.2.2.2.1,(z.2.2.2.2.2.2.2,())))))))))
def jo(n:Nat)(cL:ae)(da:aj)(dx:ai)(dw:(List Int))(cC:Int)(dF:Int)(dD:Int):Option (Int×Int×ae×aj×ai×(List Int)×Int×Int×Int):=
bd (bQ n cL da dx dw cC dF dD 0 16) λaA=>
bd (bQ n aA.2.1 aA.2.2.1 aA.2.2.2.1 aA.2.2.2.2.1 aA.2.2.2.2.2.1 aA.2.2.2.2.2.2.1 aA.2.2.2.2.2.2.2.1 aA.2.2.2.2.2.2.2.2 0) λaR=>
bd (bQ n aR.2.1 aR.2.2.1 aR.2.2.2.1 aR.2.2.2.2.1 aR.2.2.2.2.2.1 aR.2.2.2.2.2.2.1 aR.2.2.2.2.2.2.2.1 aR.2.2.2.2.2.2.2.2 24) λbS=>
lt (λ(cE:ae) (dU:aj) (eM:ai) (dB:(List Int)) (eS:Int) (ic:Int) (eo:Int) (dP:Int)=>
bd (gR n aR.1) λeU=>
bd (cy n cE dU eM dB eS ic eo dP (wr .i64 (eU+0))) λcI=>
bd (cy n cI.2.1 cI.2.2.1 cI.2.2.2.1 cI.2.2.2.2.1 cI.2.2.2.2.2.1 cI.2.2.2.2.2.2.1 cI.2.2.2.2.2.2.2.1 cI.2.2.2.2.2.2.2.2 (wr .i64 (eU+8))) λfV=>
lt (fV.1:Int) λjS=>
bd (cK n fV.2.1 fV.2.2.1 fV.2.2.2.1 fV.2.2.2.2.1 fV.2.2.2.2.2.1 fV.2.2.2.2.2.2.1 fV.2.2.2.2.2.2.2.1 fV.2.2.2.2.2.2.2.2 (wr .i64 (eU+0)) bS.1) λdL=>
bd (bg n dL.1 dL.2.1 dL.2.2.1 dL.2.2.2.1 dL.2.2.2.2.1 dL.2.2.2.2.2.1 dL.2.2.2.2.2.2.1 dL.2.2.2.2.2.2.2 24 aR.1) λjU=>
bd (bg n jU.1 jU.2.1 jU.2.2.1 jU.2.2.2.1 jU.2.2.2.2.1 jU.2.2.2.2.2.1 jU.2.2.2.2.2.2.1 jU.2.2.2.2.2.2.2 0 cI.1) λgA=>
lt (λ(rP:ae) (gy:aj) (mX:ai) (xR:(List Int)) (xw:Int) (IM:Int) (vg:Int) (Fo:Int)=>
bd (bg n rP gy mX xR xw IM vg Fo 16 (wr .u64 (aA.1-1))) λqX=>
lt (λ(tU:Int)=>
lt (tU:Int) λJO=>
some (JO,qX.2.2.2.2.2.2.2,qX.1,qX.2.1,qX.2.2.1,qX.2.2.2.1,qX.2.2.2.2.1,dF,dD)) λUu=>
cn ((qX.2.2.2.2.2.2.2!=0)) (
Uu 0) (
Uu jS)) λj48=>
cn ((aA.1==1)) (
bd (bg n gA.1 gA.2.1 gA.2.2.1 gA.2.2.2.1 gA.2.2.2.2.1 gA.2.2.2.2.2.1 gA.2.2.2.2.2.2.1 gA.2.2.2.2.2.2.2 8 0) λye=>
j48 ye.1 ye.2.1 ye.2.2.1 ye.2.2.2.1 ye.2.2.2.2.1 ye.2.2.2.2.2.1 ye.2.2.2.2.2.2.1 ye.2.2.2.2.2.2.2) (
j48 gA.1 gA.2.1 gA.2.2.1 gA.2.2.2.1 gA.2.2.2.2.1 gA.2.2.2.2.2.1 gA.2.2.2.2.2.2.1 gA.2.2.2.2.2.2.2)) λWW=>
cn (((bS.2.2.2.2.2.2.2.2==0)&&(aA.1==0))) (
WW bS.2.1 bS.2.2.1 bS.2.2.2.1 bS.2.2.2.2.1 bS.2.2.2.2.2.1 bS.2.2.2.2.2.2.1 bS.2.2.2.2.2.2.2.1 10) (
WW bS.2.1 bS.2.2.1 bS.2.2.2.1 bS.2.2.2.2.1 bS.2.2.2.2.2.1 bS.2.2.2.2.2.2.1 bS.2.2.2.2.2.2.2.1 bS.2.2.2.2.2.2.2.2)
def w6(n:Nat):CT:=cV (tC n [(70150000006, .join [(.via 0, .box 150 (.st (.part 3 (.st (.part 1 (.box 141 (.st (.part 1 (.box 113 (.st (.part 952 (.v (.st 19)) (.part 1 (.box 185 (.v (.st 24))) (.part 320 (.v (.st 21)) (.part 1 (.row 3 1 (.int .i64)) .nil)))))) (.part 1 (.v (.int .i64)) .nil)))) (.part 1 (.v (.int .u32)) (.part 1 (.v (.int .i64)) .nil)))) (.part 1 (.v (.int .i64)) .nil))))] []),(70150000022, .join [(.via 0, .box 150 (.st (.part 3 (.st (.part 1 (.box 141 (.st (.part 1 (.box 113 (.st (.part 952 (.v (.st 19)) (.part 1 (.box 185 (.v (.st 24))) (.part 320 (.v (.st 21)) (.part 1 (.row 3 1 (.int .i64)) .nil)))))) (.part 1 (.v (.int .i64)) .nil)))) (.part 1 (.v (.int .u32)) (.part 1 (.v (.int .i64)) .nil)))) (.part 1 (.v (.int .i64)) .nil))))] []),(8, .join [(.via 2, .box 33 (.v (.int .u64)))] [])] [fz n,sy n,gM n,iM n,jG n] []) ⟨24,[],(.cons (.st (.part 1 (.box 141 (.st (.part 1 (.box 113 (.st (.part 952 (.v (.st 19)) (.part 1 (.box 185 (.v (.st 24))) (.part 320 (.v (.st 21)) (.part 1 (.row 3 1 (.int .i64)) .nil)))))) (.part 1 (.v (.int .i64)) .nil)))) (.part 1 (.v (.int .u32)) (.part 1 (.v (.int .i64)) .nil)))) .nil),(.cons (.jv (.cons (.v (.int .u64)) (.cons (.v (.int .i64)) .nil))) (.cons (.st (.part 1 (.box 141 (.st (.part 1 (.box 113 (.st (.part 952 (.v (.st 19)) (.part 1 (.box 185 (.v (.st 24))) (.part 320 (.v (.st 21)) (.part 1 (.row 3 1 (.int .i64)) .nil)))))) (.part 1 (.v (.int .i64)) .nil)))) (.part 1 (.v (.int .u32)) (.part 1 (.v (.int .i64)) .nil)))) .nil)),[some 0,some 1,some 2,none], .nil,[],[[0]]⟩ (λx=>jo n x.1 x.2.1 x.2.2.1 x.2.2.2.1 x.2.2.2.2.1 x.2.2.2.2.2.1 x.2.2.2.2.2.2.1) (λy=>(y.1,y.2.1,y.2.2.1,y.2.2.2.1,y.2.2.2.2.1,y.2.2.2.2.2.1,y.2.2.2.2.2.2.1,y.2.2.2.2.2.2.2.1,y.2.2.2.2.2.2.2.2.1)) (λz=>(z.1,(z.2.1,(z.2.2.1,(z.2.2.2.1,(z.2.2.2.2.1,(z.2.2.2.2.2.1,(z.2.2.2.2.2.2.1,(z.2.2.2.2.2.2.2.1,(z.2.2.2.2.2.2.2.2,()))))))))))
def mQ(n:Nat)(cL:ae)(da:aj)(dx:ai)(dw:(List Int))(cC:Int)(dF:Int)(dD:Int)(Bk:Int):Option (ae×aj×ai×(List Int)×Int×Int×Int×Int):=
bd (bQ n cL da dx dw cC dF dD Bk 16) λaA=>
bd (bQ n aA.2.1 aA.2.2.1 aA.2.2.2.1 aA.2.2.2.2.1 aA.2.2.2.2.2.1 aA.2.2.2.2.2.2.1 aA.2.2.2.2.2.2.2.1 aA.2.2.2.2.2.2.2.2 0) λaR=>
lt (λ(bS:ae) (cE:aj) (dU:ai) (eM:(List Int)) (dB:Int) (eS:Int) (ic:Int) (eo:Int)=>
wE (λk43 (jk:Int) (eU:Int) (cI:(List Int)) (fV:ae) (jS:aj) (dL:ai) (jU:(List Int)) (gA:Int) (rP:Int) (gy:Int) (mX:Int)=>
cn (decide (jk<aA.1)) (
lt (λ(xw:ae) (IM:aj) (vg:ai) (Fo:(List Int)) (zQ:Int) (qX:Int) (tU:Int) (CX:Int)=>
cl (((CX !=0)==false)) (gR n eU) default λye=>
cn ((CX !=0)) (
yL (λk64 (lA:Int) (qc:Int) (FV:ae) (yd:aj) (M7:ai) (FU:(List Int)) (zB:Int) (WN:Int) (JN:Int) (Si:Int)=>
cn (decide (lA<(cI.length:Int))) (
gu (dk lA cI.length)<|
bd (cK n FV yd M7 FU zB WN JN Si (wr .i64 ((cI.getD (Int.toNat lA) default)+0)) qc) λve=>
bd (gi n (cI.getD (Int.toNat lA) default)) λSe=>
k64 (wr .i64 (lA+1)) Se ve.1 ve.2.1 ve.2.2.1 ve.2.2.2.1 ve.2.2.2.2.1 ve.2.2.2.2.2.1 ve.2.2.2.2.2.2.1 ve.2.2.2.2.2.2.2) (
cn (decide (0<(cI.length:Int))) (
bd (bg n FV yd M7 FU zB WN JN Si 0 qc) λJM=>
gu (dk 0 cI.length)<|
bd (gi n (cI.getD (Int.toNat 0) default)) λJL=>
bd (bg n JM.1 JM.2.1 JM.2.2.1 JM.2.2.2.1 JM.2.2.2.2.1 JM.2.2.2.2.2.1 JM.2.2.2.2.2.2.1 JM.2.2.2.2.2.2.2 8 JL) λIg=>
some (Ig.1,Ig.2.1,Ig.2.2.1,Ig.2.2.2.1,Ig.2.2.2.2.1,Ig.2.2.2.2.2.1,Ig.2.2.2.2.2.2.1,Ig.2.2.2.2.2.2.2)) (
some (FV,yd,M7,FU,zB,WN,JN,Si)))) n 0 0 xw IM vg Fo zQ qX tU CX) (
gu (gN cI.length [ye].length 8)<|
lt (cI++[ye]:List Int) λx70=>
bd (gR n eU) λx71=>
bd (cy n xw IM vg Fo zQ qX tU CX (wr .i64 (x71+0))) λM6=>
k43 (wr .u64 (jk+1)) M6.1 x70 M6.2.1 M6.2.2.1 M6.2.2.2.1 M6.2.2.2.2.1 M6.2.2.2.2.2.1 M6.2.2.2.2.2.2.1 M6.2.2.2.2.2.2.2.1 M6.2.2.2.2.2.2.2.2)) λj52=>
cn (((mX==0)&&(eU==0))) (
j52 fV jS dL jU gA rP gy 3) (
j52 fV jS dL jU gA rP gy mX)) (
yL (λk83 (JK:Int) (x74:Int) (x75:ae) (CW:aj) (Sd:ai) (Qs:(List Int)) (Qr:Int) (x80:Int) (Xj:Int) (x82:Int)=>
cn (decide (JK<(cI.length:Int))) (
gu (dk JK cI.length)<|
bd (cK n x75 CW Sd Qs Qr x80 Xj x82 (wr .i64 ((cI.getD (Int.toNat JK) default)+0)) x74) λEG=>
bd (gi n (cI.getD (Int.toNat JK) default)) λXi=>
k83 (wr .i64 (JK+1)) Xi EG.1 EG.2.1 EG.2.2.1 EG.2.2.2.1 EG.2.2.2.2.1 EG.2.2.2.2.2.1 EG.2.2.2.2.2.2.1 EG.2.2.2.2.2.2.2) (
cn (decide (0<(cI.length:Int))) (
bd (bg n x75 CW Sd Qs Qr x80 Xj x82 0 x74) λLm=>
gu (dk 0 cI.length)<|
bd (gi n (cI.getD (Int.toNat 0) default)) λx87=>
bd (bg n Lm.1 Lm.2.1 Lm.2.2.1 Lm.2.2.2.1 Lm.2.2.2.2.1 Lm.2.2.2.2.2.1 Lm.2.2.2.2.2.2.1 Lm.2.2.2.2.2.2.2 8 x87) λFT=>
some (FT.1,FT.2.1,FT.2.2.1,FT.2.2.2.1,FT.2.2.2.2.1,FT.2.2.2.2.2.1,FT.2.2.2.2.2.2.1,FT.2.2.2.2.2.2.2)) (
some (x75,CW,Sd,Qs,Qr,x80,Xj,x82)))) n 0 0 fV jS dL jU gA rP gy mX)) n 0 aR.1 [] bS cE dU eM dB eS ic eo) λj31=>
cn (((aR.2.2.2.2.2.2.2.2==0)&&(decide (128<aA.1)))) (
j31 aR.2.1 aR.2.2.1 aR.2.2.2.1 aR.2.2.2.2.1 aR.2.2.2.2.2.1 aR.2.2.2.2.2.2.1 aR.2.2.2.2.2.2.2.1 3) (
j31 aR.2.1 aR.2.2.1 aR.2.2.2.1 aR.2.2.2.2.1 aR.2.2.2.2.2.1 aR.2.2.2.2.2.2.1 aR.2.2.2.2.2.2.2.1 aR.2.2.2.2.2.2.2.2)
def AX(n:Nat):CT:=cV (tC n [(9990000006, .join [(.via 5, .box 150 (.st (.part 3 (.st (.part 1 (.box 141 (.st (.part 1 (.box 113 (.st (.part 952 (.v (.st 19)) (.part 1 (.box 185 (.v (.st 24))) (.part 320 (.v (.st 21)) (.part 1 (.row 3 1 (.int .i64)) .nil)))))) (.part 1 (.v (.int .i64)) .nil)))) (.part 1 (.v (.int .u32)) (.part 1 (.v (.int .i64)) .nil)))) (.part 1 (.v (.int .i64)) .nil))))] []),(9990000009, .loop [(.dh 20, .v (.int .u64)),(.dh 4, .v (.int .u64)),(.frm 0 2, .box 111 (.row 3 1 (.int .i64))),(.via 5, .box 150 (.st (.part 3 (.st (.part 1 (.box 141 (.st (.part 1 (.box 113 (.st (.part 952 (.v (.st 19)) (.part 1 (.box 185 (.v (.st 24))) (.part 320 (.v (.st 21)) (.part 1 (.row 3 1 (.int .i64)) .nil)))))) (.part 1 (.v (.int .i64)) .nil)))) (.part 1 (.v (.int .u32)) (.part 1 (.v (.int .i64)) .nil)))) (.part 1 (.v (.int .i64)) .nil))))]),(9990000014, .join [(.via 5, .box 150 (.st (.part 3 (.st (.part 1 (.box 141 (.st (.part 1 (.box 113 (.st (.part 952 (.v (.st 19)) (.part 1 (.box 185 (.v (.st 24))) (.part 320 (.v (.st 21)) (.part 1 (.row 3 1 (.int .i64)) .nil)))))) (.part 1 (.v (.int .i64)) .nil)))) (.part 1 (.v (.int .u32)) (.part 1 (.v (.int .i64)) .nil)))) (.part 1 (.v (.int .i64)) .nil))))] []),(13, .loop [(.dh 18, .v (.int .i64)),(.dh 4, .v (.int .u64)),(.via 0, .box 150 (.st (.part 3 (.st (.part 1 (.box 141 (.st (.part 1 (.box 113 (.st (.part 952 (.v (.st 19)) (.part 1 (.box 185 (.v (.st 24))) (.part 320 (.v (.st 21)) (.part 1 (.row 3 1 (.int .i64)) .nil)))))) (.part 1 (.v (.int .i64)) .nil)))) (.part 1 (.v (.int .u32)) (.part 1 (.v (.int .i64)) .nil)))) (.part 1 (.v (.int .i64)) .nil))))])] [fz n,sy n,iM n,yh n,jG n,gM n] []) ⟨58,[],(.cons (.box 150 (.st (.part 3 (.st (.part 1 (.box 141 (.st (.part 1 (.box 113 (.st (.part 952 (.v (.st 19)) (.part 1 (.box 185 (.v (.st 24))) (.part 320 (.v (.st 21)) (.part 1 (.row 3 1 (.int .i64)) .nil)))))) (.part 1 (.v (.int .i64)) .nil)))) (.part 1 (.v (.int .u32)) (.part 1 (.v (.int .i64)) .nil)))) (.part 1 (.v (.int .i64)) .nil)))) .nil),(.cons (.jv .nil) (.cons (.box 150 (.st (.part 3 (.st (.part 1 (.box 141 (.st (.part 1 (.box 113 (.st (.part 952 (.v (.st 19)) (.part 1 (.box 185 (.v (.st 24))) (.part 320 (.v (.st 21)) (.part 1 (.row 3 1 (.int .i64)) .nil)))))) (.part 1 (.v (.int .i64)) .nil)))) (.part 1 (.v (.int .u32)) (.part 1 (.v (.int .i64)) .nil)))) (.part 1 (.v (.int .i64)) .nil)))) .nil)),[some 0,some 1,some 2,some 3,none], .nil,[],[[0]]⟩ (λx=>mQ n x.1 x.2.1 x.2.2.1 x.2.2.2.1 x.2.2.2.2.1 x.2.2.2.2.2.1 x.2.2.2.2.2.2.1 x.2.2.2.2.2.2.2.1) (λy=>(y.1,y.2.1,y.2.2.1,y.2.2.2.1,y.2.2.2.2.1,y.2.2.2.2.2.1,y.2.2.2.2.2.2.1,y.2.2.2.2.2.2.2.1)) (λz=>(z.1,(z.2.1,(z.2.2.1,(z.2.2.2.1,(z.2.2.2.2.1,(z.2.2.2.2.2.1,(z.2.2.2.2.2.2.1,(z.2.2.2.2.2.2.2,())))))))))
def mq(n:Nat)(cL:ae)(da:aj)(dx:ai)(dw:(List Int))(cC:Int)(dF:Int)(dD:Int):Option (Int×ae×aj×ai×(List Int)×Int×Int×Int):=
bd (mQ n cL da dx dw cC dF dD 0) λaA=>
some (aA.2.2.2.2.2.2.2,aA.1,aA.2.1,aA.2.2.1,aA.2.2.2.1,aA.2.2.2.2.1,dF,dD)
def vo(n:Nat):CT:=cV (tC n [] [AX n] []) ⟨25,[],(.cons (.st (.part 1 (.box 141 (.st (.part 1 (.box 113 (.st (.part 952 (.v (.st 19)) (.part 1 (.box 185 (.v (.st 24))) (.part 320 (.v (.st 21)) (.part 1 (.row 3 1 (.int .i64)) .nil)))))) (.part 1 (.v (.int .i64)) .nil)))) (.part 1 (.v (.int .u32)) (.part 1 (.v (.int .i64)) .nil)))) .nil),(.cons (.v (.int .i64)) (.cons (.st (.part 1 (.box 141 (.st (.part 1 (.box 113 (.st (.part 952 (.v (.st 19)) (.part 1 (.box 185 (.v (.st 24))) (.part 320 (.v (.st 21)) (.part 1 (.row 3 1 (.int .i64)) .nil)))))) (.part 1 (.v (.int .i64)) .nil)))) (.part 1 (.v (.int .u32)) (.part 1 (.v (.int .i64)) .nil)))) .nil)),[some 0,some 1,some 2,none], .nil,[],[[0]]⟩ (λx=>mq n x.1 x.2.1 x.2.2.1 x.2.2.2.1 x.2.2.2.2.1 x.2.2.2.2.2.1 x.2.2.2.2.2.2.1) (λy=>(y.1,y.2.1,y.2.2.1,y.2.2.2.1,y.2.2.2.2.1,y.2.2.2.2.2.1,y.2.2.2.2.2.2.1,y.2.2.2.2.2.2.2.1)) (λz=>(z.1,(z.2.1,(z.2.2.1,(z.2.2.2.1,(z.2.2.2.2.1,(z.2.2.2.2.2.1,(z.2.2.2.2.2.2.1,(z.2.2.2.2.2.2.2,())))))))))
def qe(n:Nat)(cL:ae)(da:aj)(dx:ai)(dw:(List Int))(cC:Int)(dF:Int)(dD:Int):Option (Int×Int×ae×aj×ai×(List Int)×Int×Int×Int):=
bd (bQ n cL da dx dw cC dF dD 0 16) λaA=>
lt (wr .i64 aA.1:Int) λaR=>
lt (aR:Int) λbS=>
some (bS,aA.2.2.2.2.2.2.2.2,aA.2.1,aA.2.2.1,aA.2.2.2.1,aA.2.2.2.2.1,aA.2.2.2.2.2.1,dF,dD)
def EO(n:Nat):CT:=cV (tC n [] [fz n] []) ⟨11,[],(.cons (.st (.part 1 (.box 141 (.st (.part 1 (.box 113 (.st (.part 952 (.v (.st 19)) (.part 1 (.box 185 (.v (.st 24))) (.part 320 (.v (.st 21)) (.part 1 (.row 3 1 (.int .i64)) .nil)))))) (.part 1 (.v (.int .i64)) .nil)))) (.part 1 (.v (.int .u32)) (.part 1 (.v (.int .i64)) .nil)))) .nil),(.cons (.jv (.cons (.v (.int .i64)) (.cons (.v (.int .i64)) .nil))) (.cons (.st (.part 1 (.box 141 (.st (.part 1 (.box 113 (.st (.part 952 (.v (.st 19)) (.part 1 (.box 185 (.v (.st 24))) (.part 320 (.v (.st 21)) (.part 1 (.row 3 1 (.int .i64)) .nil)))))) (.part 1 (.v (.int .i64)) .nil)))) (.part 1 (.v (.int .u32)) (.part 1 (.v (.int .i64)) .nil)))) .nil)),[some 0,some 1,some 2,none], .nil,[],[[0]]⟩ (λx=>qe n x.1 x.2.1 x.2.2.1 x.2.2.2.1 x.2.2.2.2.1 x.2.2.2.2.2.1 x.2.2.2.2.2.2.1) (λy=>(y.1,y.2.1,y.2.2.1,y.2.2.2.1,y.2.2.2.2.1,y.2.2.2.2.2.1,y.2.2.2.2.2.2.1,y.2.2.2.2.2.2.2.1,y.2.2.2.2.2.2.2.2.1)) (λz=>(z.1,(z.2.1,(z.2.2.1,(z.2.2.2.1,(z.2.2.2.2.1,(z.2.2.2.2.2.1,(z.2.2.2.2.2.2.1,(z.2.2.2.2.2.2.2.1,(z.2.2.2.2.2.2.2.2,()))))))))))
def qf(n:Nat)(cL:ae)(da:aj)(dx:ai)(dw:(List Int))(cC:Int)(dF:Int)(dD:Int):Option ((List Int)×Int×ae×aj×ai×(List Int)×Int×Int×Int):=
bd (bQ n cL da dx dw cC dF dD 0 16) λaA=>
bd (bQ n aA.2.1 aA.2.2.1 aA.2.2.2.1 aA.2.2.2.2.1 aA.2.2.2.2.2.1 aA.2.2.2.2.2.2.1 aA.2.2.2.2.2.2.2.1 aA.2.2.2.2.2.2.2.2 0) λaR=>
lt (λ(bS:ae) (cE:aj) (dU:ai) (eM:(List Int)) (dB:Int) (eS:Int) (ic:Int) (eo:Int)=>
wE (λk43 (jk:Int) (eU:Int) (cI:ae) (fV:aj) (jS:ai) (dL:(List Int)) (jU:Int) (gA:Int) (rP:Int) (gy:Int) (mX:(List Int))=>
cn (decide (jk<aA.1)) (
lt (λ(xw:ae) (IM:aj) (vg:ai) (Fo:(List Int)) (zQ:Int) (qX:Int) (tU:Int) (CX:Int)=>
cl (((CX !=0)==false)) (gR n eU) default λye=>
cn ((CX !=0)) (
cn ((CX !=0)) (
some ([],CX,xw,IM,vg,Fo,zQ,dF,dD)) (
some (mX,CX,xw,IM,vg,Fo,zQ,dF,dD))) (
bd (cy n xw IM vg Fo zQ qX tU CX (wr .i64 (ye+8))) λlA=>
gu (gN mX.length [lA.1].length 8)<|
lt (mX++[lA.1]:List Int) λqc=>
bd (gR n eU) λFV=>
bd (cy n lA.2.1 lA.2.2.1 lA.2.2.2.1 lA.2.2.2.2.1 lA.2.2.2.2.2.1 lA.2.2.2.2.2.2.1 lA.2.2.2.2.2.2.2.1 lA.2.2.2.2.2.2.2.2 (wr .i64 (FV+0))) λyd=>
k43 (wr .u64 (jk+1)) yd.1 yd.2.1 yd.2.2.1 yd.2.2.2.1 yd.2.2.2.2.1 yd.2.2.2.2.2.1 yd.2.2.2.2.2.2.1 yd.2.2.2.2.2.2.2.1 yd.2.2.2.2.2.2.2.2 qc)) λj52=>
cn (((gy==0)&&(eU==0))) (
j52 cI fV jS dL jU gA rP 3) (
j52 cI fV jS dL jU gA rP gy)) (
cn ((gy !=0)) (
some ([],gy,cI,fV,jS,dL,jU,dF,dD)) (
some (mX,gy,cI,fV,jS,dL,jU,dF,dD)))) n 0 aR.1 bS cE dU eM dB eS ic eo []) λj31=>
cn (((aR.2.2.2.2.2.2.2.2==0)&&(decide (128<aA.1)))) (
j31 aR.2.1 aR.2.2.1 aR.2.2.2.1 aR.2.2.2.2.1 aR.2.2.2.2.2.1 aR.2.2.2.2.2.2.1 aR.2.2.2.2.2.2.2.1 3) (
j31 aR.2.1 aR.2.2.1 aR.2.2.2.1 aR.2.2.2.2.1 aR.2.2.2.2.2.1 aR.2.2.2.2.2.2.1 aR.2.2.2.2.2.2.2.1 aR.2.2.2.2.2.2.2.2)
def ER(n:Nat):CT:=cV (tC n [(70159990000006, .join [(.via 5, .box 150 (.st (.part 3 (.st (.part 1 (.box 141 (.st (.part 1 (.box 113 (.st (.part 952 (.v (.st 19)) (.part 1 (.box 185 (.v (.st 24))) (.part 320 (.v (.st 21)) (.part 1 (.row 3 1 (.int .i64)) .nil)))))) (.part 1 (.v (.int .i64)) .nil)))) (.part 1 (.v (.int .u32)) (.part 1 (.v (.int .i64)) .nil)))) (.part 1 (.v (.int .i64)) .nil))))] []),(70159990000009, .loop [(.dh 20, .v (.int .u64)),(.dh 4, .v (.int .u64)),(.via 5, .box 150 (.st (.part 3 (.st (.part 1 (.box 141 (.st (.part 1 (.box 113 (.st (.part 952 (.v (.st 19)) (.part 1 (.box 185 (.v (.st 24))) (.part 320 (.v (.st 21)) (.part 1 (.row 3 1 (.int .i64)) .nil)))))) (.part 1 (.v (.int .i64)) .nil)))) (.part 1 (.v (.int .u32)) (.part 1 (.v (.int .i64)) .nil)))) (.part 1 (.v (.int .i64)) .nil)))),(.frm 0 1, .box 22 (.row 33 1 (.int .u64)))]),(70159990000014, .join [(.via 5, .box 150 (.st (.part 3 (.st (.part 1 (.box 141 (.st (.part 1 (.box 113 (.st (.part 952 (.v (.st 19)) (.part 1 (.box 185 (.v (.st 24))) (.part 320 (.v (.st 21)) (.part 1 (.row 3 1 (.int .i64)) .nil)))))) (.part 1 (.v (.int .i64)) .nil)))) (.part 1 (.v (.int .u32)) (.part 1 (.v (.int .i64)) .nil)))) (.part 1 (.v (.int .i64)) .nil))))] [])] [fz n,sy n,gM n] []) ⟨12,[],(.cons (.st (.part 1 (.box 141 (.st (.part 1 (.box 113 (.st (.part 952 (.v (.st 19)) (.part 1 (.box 185 (.v (.st 24))) (.part 320 (.v (.st 21)) (.part 1 (.row 3 1 (.int .i64)) .nil)))))) (.part 1 (.v (.int .i64)) .nil)))) (.part 1 (.v (.int .u32)) (.part 1 (.v (.int .i64)) .nil)))) .nil),(.cons (.jv (.cons (.row 33 1 (.int .u64)) (.cons (.v (.int .i64)) .nil))) (.cons (.st (.part 1 (.box 141 (.st (.part 1 (.box 113 (.st (.part 952 (.v (.st 19)) (.part 1 (.box 185 (.v (.st 24))) (.part 320 (.v (.st 21)) (.part 1 (.row 3 1 (.int .i64)) .nil)))))) (.part 1 (.v (.int .i64)) .nil)))) (.part 1 (.v (.int .u32)) (.part 1 (.v (.int .i64)) .nil)))) .nil)),[none,some 0,some 1,some 2,none], .nil,[],[[0]]⟩ (λx=>qf n x.1 x.2.1 x.2.2.1 x.2.2.2.1 x.2.2.2.2.1 x.2.2.2.2.2.1 x.2.2.2.2.2.2.1) (λy=>(y.1,y.2.1,y.2.2.1,y.2.2.2.1,y.2.2.2.2.1,y.2.2.2.2.2.1,y.2.2.2.2.2.2.1,y.2.2.2.2.2.2.2.1,y.2.2.2.2.2.2.2.2.1)) (λz=>(z.1,(z.2.1,(z.2.2.1,(z.2.2.2.1,(z.2.2.2.2.1,(z.2.2.2.2.2.1,(z.2.2.2.2.2.2.1,(z.2.2.2.2.2.2.2.1,(z.2.2.2.2.2.2.2.2,()))))))))))
def tq(n:Nat)(cL:ae)(da:aj)(dx:ai)(dw:(List Int))(cC:Int)(dF:Int)(dD:Int)(a1:aM):Option (Bool×ae×aj×ai×(List Int)×Int×Int×Int):=
bd (qe n cL da dx dw cC dF dD) λaA=>
bd (qf n aA.2.2.1 aA.2.2.2.1 aA.2.2.2.2.1 aA.2.2.2.2.2.1 aA.2.2.2.2.2.2.1 dF dD) λaR=>
cn (((((aA.2.1!=0)||(aR.2.1!=0))||(aA.1!=(a1.L.length:Int)))||((aR.1.length:Int)!=aA.1))) (
some (false,aR.2.2.1,aR.2.2.2.1,aR.2.2.2.2.1,aR.2.2.2.2.2.1,aR.2.2.2.2.2.2.1,dF,dD)) (
iv (λk24 (bS:Int)=>
cn (decide (bS<aA.1)) (
gu (dk bS aR.1.length)<|
gu (dk bS a1.L.length)<|
cn (((aR.1.getD (Int.toNat bS) default)!=(a1.L.getD (Int.toNat bS) default))) (
some (false,aR.2.2.1,aR.2.2.2.1,aR.2.2.2.2.1,aR.2.2.2.2.2.1,aR.2.2.2.2.2.2.1,dF,dD)) (
k24 (wr .i64 (bS+1)))) (
some (true,aR.2.2.1,aR.2.2.2.1,aR.2.2.2.2.1,aR.2.2.2.2.2.1,aR.2.2.2.2.2.2.1,dF,dD))) n 0)
def BT(n:Nat):CT:=cV (tC n [(13, .loop [(.dh 9, .v (.int .i64))])] [EO n,ER n] []) ⟨15,[],(.cons (.st (.part 1 (.box 141 (.st (.part 1 (.box 113 (.st (.part 952 (.v (.st 19)) (.part 1 (.box 185 (.v (.st 24))) (.part 320 (.v (.st 21)) (.part 1 (.row 3 1 (.int .i64)) .nil)))))) (.part 1 (.v (.int .i64)) .nil)))) (.part 1 (.v (.int .u32)) (.part 1 (.v (.int .i64)) .nil)))) (.cons (.v (.st 1)) .nil)),(.cons (.v .bool) (.cons (.st (.part 1 (.box 141 (.st (.part 1 (.box 113 (.st (.part 952 (.v (.st 19)) (.part 1 (.box 185 (.v (.st 24))) (.part 320 (.v (.st 21)) (.part 1 (.row 3 1 (.int .i64)) .nil)))))) (.part 1 (.v (.int .i64)) .nil)))) (.part 1 (.v (.int .u32)) (.part 1 (.v (.int .i64)) .nil)))) .nil)),[some 0,some 1,some 2,none], .nil,[],[[0]]⟩ (λx=>tq n x.1 x.2.1 x.2.2.1 x.2.2.2.1 x.2.2.2.2.1 x.2.2.2.2.2.1 x.2.2.2.2.2.2.1 x.2.2.2.2.2.2.2.1) (λy=>(y.1,y.2.1,y.2.2.1,y.2.2.2.1,y.2.2.2.2.1,y.2.2.2.2.2.1,y.2.2.2.2.2.2.1,y.2.2.2.2.2.2.2.1)) (λz=>(z.1,(z.2.1,(z.2.2.1,(z.2.2.2.1,(z.2.2.2.2.1,(z.2.2.2.2.2.1,(z.2.2.2.2.2.2.1,(z.2.2.2.2.2.2.2,())))))))))
def ux(n:Nat):Option Bool:=
bd (B3 n 64) λaA=>
bd (uk n) λaR=>
bd (cJ n aR ({({jZ with n:=64}:aj)with dV:=aA}:aj) bB [] 0 ({({eF with Do:=1}:aC)with A:=wr .u32 8}:aC)) λbS=>
lt (bS.1:ah) λcE=>
bd (dX n bS.2.1 bS.2.2.1 bS.2.2.2.1 bS.2.2.2.2.1 bS.2.2.2.2.2 cE.W 32 8) λdU=>
cn ((dU.2.1!=0)) (
cn ((!((cE.E==0)&&(dU.2.1==0)))) (
some (false)) (
lt (λ(eM:Int)=>
lt (eM:Int) λ_=>
some (false)) λj27=>
j27 0)) (
cn ((!((cE.E==0)&&true))) (
some (false)) (
bd (jN n dU.2.2.1 dU.2.2.2.1 dU.2.2.2.2.1 dU.2.2.2.2.2.1 dU.2.2.2.2.2.2 cE.W dU.1 1) λic=>
bd (jN n ic.2.1 ic.2.2.1 ic.2.2.2.1 ic.2.2.2.2.1 ic.2.2.2.2.2.1 cE.W dU.1 2) λeo=>
bd (kS n eo.2.1 eo.2.2.1 eo.2.2.2.1 eo.2.2.2.2.1 eo.2.2.2.2.2.1 cE.W dU.1 0) λdP=>
bd (jo n dP.2.1 dP.2.2.1 dP.2.2.2.1 dP.2.2.2.2.1 dP.2.2.2.2.2.1 cE.W dU.1) λjk=>
bd (mq n jk.2.2.1 jk.2.2.2.1 jk.2.2.2.2.1 jk.2.2.2.2.2.1 jk.2.2.2.2.2.2.1 cE.W dU.1) λeU=>
cn (((((((ic.1==0)&&(eo.1==0))&&(dP.1==0))&&(jk.1==0))&&(jk.2.1==0))&&(eU.1==0))) (
bd (tq n eU.2.1 eU.2.2.1 eU.2.2.2.1 eU.2.2.2.2.1 eU.2.2.2.2.2.1 cE.W dU.1 ({kH with L:=[2,1]}:aM)) λcI=>
some (cI.1)) (
some (false))))
def Ii(n:Nat):CT:=cV (tC n [(240000008, .join [(.via 2, .box 33 (.v (.int .u64)))] [])] [IQ n,Ay n,sR n,qY n,vp n,tY n,w6 n,vo n,BT n] []) ⟨8,[], .nil,(.cons (.v .bool) .nil),[], .nil,[],[]⟩ (λ_=>ux n) (λy=>(y.1)) (λz=>(z,()))
def mN(n:Nat)(a0:aM)(a1:(List Int)):Option aM:=
lt (({L:=a1,gq:=(if a0.gq<(a1.length:Int)then(a1.length:Int)else a0.gq)}:aM):aM) λaA=>
some (aA)
def sL(n:Nat):CT:=cV (tC n [] [] []) ⟨62,[],(.cons (.v (.st 1)) (.cons (.v (.sl (.int .u64))) .nil)),(.cons (.v (.st 1)) .nil),[], .nil,[],[]⟩ (λx=>mN n x.1 x.2.1) (λy=>(y.1)) (λz=>(z,()))
def mO(n:Nat)(a0:aM)(a1:Int):Option aM:=
gu (gN [a1].length a0.L.length 8)<|
lt ([a1]++a0.L:List Int) λaA=>
bd (mN n a0 aA) λaR=>
lt (aR:aM) λbS=>
some (bS)
def AT(n:Nat):CT:=cV (tC n [] [sL n] []) ⟨41,[],(.cons (.v (.st 1)) (.cons (.v (.int .u64)) .nil)),(.cons (.v (.st 1)) .nil),[], .nil,[],[]⟩ (λx=>mO n x.1 x.2.1) (λy=>(y.1)) (λz=>(z,()))
def jK(n:Nat)(a0:aM):Option (aM×Int×Int):=
cn (((a0.L.length:Int)==0)) (
lt (a0:aM) λaA=>
some (aA,0,10)) (
gu (dk 1 (a0.L.length+1))<|
gu (dk 0 a0.L.length)<|
lt (({L:=a0.L.drop (Int.toNat 1),gq:=a0.gq}:aM):aM) λaR=>
some (aR,(a0.L.getD (Int.toNat 0) default),0))
def C6(n:Nat):CT:=cV (tC n [] [] []) ⟨42,[],(.cons (.v (.st 1)) .nil),(.cons (.jv (.cons (.v (.st 1)) (.cons (.v (.int .u64)) (.cons (.v (.int .i64)) .nil)))) .nil),[], .nil,[],[]⟩ (λx=>jK n x.1) (λy=>(y.1,y.2.1,y.2.2.1)) (λz=>(z.1,(z.2.1,(z.2.2,()))))
def jb(n:Nat)(cL:ae)(da:aj)(dx:ai)(dw:(List Int))(cC:Int)(dF:Int)(dD:Int)(Bk:Int)(a1:Int):Option (Int×ae×aj×ai×(List Int)×Int×Int×Int×Int):=
bd (bQ n cL da dx dw cC dF dD Bk 16) λaA=>
lt (λ(aR:ae) (bS:aj) (cE:ai) (dU:(List Int)) (eM:Int) (dB:Int) (eS:Int) (ic:Int)=>
bd (bQ n aR bS cE dU eM dB eS ic 0) λdP=>
lt (λ(jk:ae) (eU:aj) (cI:ai) (fV:(List Int)) (jS:Int) (dL:Int) (jU:Int) (gA:Int)=>
wE (λk52 (gy:Int) (mX:Int) (xR:Int) (xw:ae) (IM:aj) (vg:ai) (Fo:(List Int)) (zQ:Int) (qX:Int) (tU:Int) (CX:Int)=>
cn (decide (gy<(wr .u64 ((wr .u64 (if 0<a1 then a1 else 0))+1)))) (
lt (λ(ye:ae) (lA:aj) (qc:ai) (FV:(List Int)) (yd:Int) (M7:Int) (FU:Int) (zB:Int)=>
cl (((zB !=0)==false)) (gR n mX) default λJN=>
cn ((zB !=0)) (
some (xR,ye,lA,qc,FV,yd,M7,FU,zB)) (
lt (JN:Int) λSi=>
bd (gR n mX) λQt=>
bd (cy n ye lA qc FV yd M7 FU zB (wr .i64 (Qt+0))) λve=>
k52 (wr .u64 (gy+1)) ve.1 Si ve.2.1 ve.2.2.1 ve.2.2.2.1 ve.2.2.2.2.1 ve.2.2.2.2.2.1 ve.2.2.2.2.2.2.1 ve.2.2.2.2.2.2.2.1 ve.2.2.2.2.2.2.2.2)) λj61=>
cn (((CX==0)&&(mX==0))) (
j61 xw IM vg Fo zQ qX tU 3) (
j61 xw IM vg Fo zQ qX tU CX)) (
some (xR,xw,IM,vg,Fo,zQ,qX,tU,CX))) n 0 dP.1 0 jk eU cI fV jS dL jU gA) λj40=>
cn (((dP.2.2.2.2.2.2.2.2==0)&&(decide (128<(wr .u64 ((wr .u64 (if 0<a1 then a1 else 0))+1)))))) (
j40 dP.2.1 dP.2.2.1 dP.2.2.2.1 dP.2.2.2.2.1 dP.2.2.2.2.2.1 dP.2.2.2.2.2.2.1 dP.2.2.2.2.2.2.2.1 3) (
j40 dP.2.1 dP.2.2.1 dP.2.2.2.1 dP.2.2.2.2.1 dP.2.2.2.2.2.1 dP.2.2.2.2.2.2.1 dP.2.2.2.2.2.2.2.1 dP.2.2.2.2.2.2.2.2)) λj30=>
cn (((aA.2.2.2.2.2.2.2.2==0)&&((decide (a1<0))||(decide (aA.1<=(wr .u64 a1)))))) (
j30 aA.2.1 aA.2.2.1 aA.2.2.2.1 aA.2.2.2.2.1 aA.2.2.2.2.2.1 aA.2.2.2.2.2.2.1 aA.2.2.2.2.2.2.2.1 9) (
j30 aA.2.1 aA.2.2.1 aA.2.2.2.1 aA.2.2.2.2.1 aA.2.2.2.2.2.1 aA.2.2.2.2.2.2.1 aA.2.2.2.2.2.2.2.1 aA.2.2.2.2.2.2.2.2)
def yj(n:Nat):CT:=cV (tC n [(8, .join [(.via 0, .box 150 (.st (.part 3 (.st (.part 1 (.box 141 (.st (.part 1 (.box 113 (.st (.part 952 (.v (.st 19)) (.part 1 (.box 185 (.v (.st 24))) (.part 320 (.v (.st 21)) (.part 1 (.row 3 1 (.int .i64)) .nil)))))) (.part 1 (.v (.int .i64)) .nil)))) (.part 1 (.v (.int .u32)) (.part 1 (.v (.int .i64)) .nil)))) (.part 1 (.v (.int .i64)) .nil))))] []),(9990000006, .join [(.via 5, .box 150 (.st (.part 3 (.st (.part 1 (.box 141 (.st (.part 1 (.box 113 (.st (.part 952 (.v (.st 19)) (.part 1 (.box 185 (.v (.st 24))) (.part 320 (.v (.st 21)) (.part 1 (.row 3 1 (.int .i64)) .nil)))))) (.part 1 (.v (.int .i64)) .nil)))) (.part 1 (.v (.int .u32)) (.part 1 (.v (.int .i64)) .nil)))) (.part 1 (.v (.int .i64)) .nil))))] []),(9990000009, .loop [(.dh 20, .v (.int .u64)),(.dh 4, .v (.int .u64)),(.frm 0 6, .box 3 (.v (.int .i64))),(.via 5, .box 150 (.st (.part 3 (.st (.part 1 (.box 141 (.st (.part 1 (.box 113 (.st (.part 952 (.v (.st 19)) (.part 1 (.box 185 (.v (.st 24))) (.part 320 (.v (.st 21)) (.part 1 (.row 3 1 (.int .i64)) .nil)))))) (.part 1 (.v (.int .i64)) .nil)))) (.part 1 (.v (.int .u32)) (.part 1 (.v (.int .i64)) .nil)))) (.part 1 (.v (.int .i64)) .nil))))]),(9990000014, .join [(.via 5, .box 150 (.st (.part 3 (.st (.part 1 (.box 141 (.st (.part 1 (.box 113 (.st (.part 952 (.v (.st 19)) (.part 1 (.box 185 (.v (.st 24))) (.part 320 (.v (.st 21)) (.part 1 (.row 3 1 (.int .i64)) .nil)))))) (.part 1 (.v (.int .i64)) .nil)))) (.part 1 (.v (.int .u32)) (.part 1 (.v (.int .i64)) .nil)))) (.part 1 (.v (.int .i64)) .nil))))] [])] [fz n,sy n,gM n] []) ⟨40,[],(.cons (.box 150 (.st (.part 3 (.st (.part 1 (.box 141 (.st (.part 1 (.box 113 (.st (.part 952 (.v (.st 19)) (.part 1 (.box 185 (.v (.st 24))) (.part 320 (.v (.st 21)) (.part 1 (.row 3 1 (.int .i64)) .nil)))))) (.part 1 (.v (.int .i64)) .nil)))) (.part 1 (.v (.int .u32)) (.part 1 (.v (.int .i64)) .nil)))) (.part 1 (.v (.int .i64)) .nil)))) (.cons (.v (.int .i64)) .nil)),(.cons (.v (.int .i64)) (.cons (.box 150 (.st (.part 3 (.st (.part 1 (.box 141 (.st (.part 1 (.box 113 (.st (.part 952 (.v (.st 19)) (.part 1 (.box 185 (.v (.st 24))) (.part 320 (.v (.st 21)) (.part 1 (.row 3 1 (.int .i64)) .nil)))))) (.part 1 (.v (.int .i64)) .nil)))) (.part 1 (.v (.int .u32)) (.part 1 (.v (.int .i64)) .nil)))) (.part 1 (.v (.int .i64)) .nil)))) .nil)),[some 0,some 1,some 2,some 3,none], .nil,[],[[0]]⟩ (λx=>jb n x.1 x.2.1 x.2.2.1 x.2.2.2.1 x.2.2.2.2.1 x.2.2.2.2.2.1 x.2.2.2.2.2.2.1 x.2.2.2.2.2.2.2.1 x.2.2.2.2.2.2.2.2.1) (λy=>(y.1,y.2.1,y.2.2.1,y.2.2.2.1,y.2.2.2.2.1,y.2.2.2.2.2.1,y.2.2.2.2.2.2.1,y.2.2.2.2.2.2.2.1,y.2.2.2.2.2.2.2.2.1)) (λz=>(z.1,(z.2.1,(z.2.2.1,(z.2.2.2.1,(z.2.2.2.2.1,(z.2.2.2.2.2.1,(z.2.2.2.2.2.2.1,(z.2.2.2.2.2.2.2.1,(z.2.2.2.2.2.2.2.2,()))))))))))
def qd(n:Nat)(cL:ae)(da:aj)(dx:ai)(dw:(List Int))(cC:Int)(dF:Int)(dD:Int)(a1:Int)(a2:Int):Option (Int×ae×aj×ai×(List Int)×Int×Int×Int):=
bd (jb n cL da dx dw cC dF dD 0 a1) λaA=>
bd (cK n aA.2.1 aA.2.2.1 aA.2.2.2.1 aA.2.2.2.2.1 aA.2.2.2.2.2.1 aA.2.2.2.2.2.2.1 aA.2.2.2.2.2.2.2.1 aA.2.2.2.2.2.2.2.2 (wr .i64 (aA.1+8)) a2) λaR=>
some (aR.2.2.2.2.2.2.2,aR.1,aR.2.1,aR.2.2.1,aR.2.2.2.1,aR.2.2.2.2.1,dF,dD)
def EN(n:Nat):CT:=cV (tC n [] [yj n,iM n] []) ⟨43,[],(.cons (.st (.part 1 (.box 141 (.st (.part 1 (.box 113 (.st (.part 952 (.v (.st 19)) (.part 1 (.box 185 (.v (.st 24))) (.part 320 (.v (.st 21)) (.part 1 (.row 3 1 (.int .i64)) .nil)))))) (.part 1 (.v (.int .i64)) .nil)))) (.part 1 (.v (.int .u32)) (.part 1 (.v (.int .i64)) .nil)))) (.cons (.v (.int .i64)) (.cons (.v (.int .u64)) .nil))),(.cons (.v (.int .i64)) (.cons (.st (.part 1 (.box 141 (.st (.part 1 (.box 113 (.st (.part 952 (.v (.st 19)) (.part 1 (.box 185 (.v (.st 24))) (.part 320 (.v (.st 21)) (.part 1 (.row 3 1 (.int .i64)) .nil)))))) (.part 1 (.v (.int .i64)) .nil)))) (.part 1 (.v (.int .u32)) (.part 1 (.v (.int .i64)) .nil)))) .nil)),[some 0,some 1,some 2,none], .nil,[],[[0]]⟩ (λx=>qd n x.1 x.2.1 x.2.2.1 x.2.2.2.1 x.2.2.2.2.1 x.2.2.2.2.2.1 x.2.2.2.2.2.2.1 x.2.2.2.2.2.2.2.1 x.2.2.2.2.2.2.2.2.1) (λy=>(y.1,y.2.1,y.2.2.1,y.2.2.2.1,y.2.2.2.2.1,y.2.2.2.2.2.1,y.2.2.2.2.2.2.1,y.2.2.2.2.2.2.2.1)) (λz=>(z.1,(z.2.1,(z.2.2.1,(z.2.2.2.1,(z.2.2.2.2.1,(z.2.2.2.2.2.1,(z.2.2.2.2.2.2.1,(z.2.2.2.2.2.2.2,())))))))))
def jJ(n:Nat)(a0:aM)(a1:Int)(a2:Int):Option (aM×Int):=
cn (((decide (a1<0))||(decide ((a0.L.length:Int)<=a1)))) (
lt (a0:aM) λaA=>
some (aA,9)) (
gu (gN 0 a0.L.length 8)<|
lt (a0.L:List Int) λaR=>
gu (dk a1 aR.length)<|
lt (aR.set (Int.toNat a1) a2:List Int) λbS=>
lt (({L:=bS,gq:=a0.gq}:aM):aM) λcE=>
some (cE,0))
def C5(n:Nat):CT:=cV (tC n [] [] []) ⟨44,[],(.cons (.v (.st 1)) (.cons (.v (.int .i64)) (.cons (.v (.int .u64)) .nil))),(.cons (.jv (.cons (.v (.st 1)) (.cons (.v (.int .i64)) .nil))) .nil),[], .nil,[],[]⟩ (λx=>jJ n x.1 x.2.1 x.2.2.1) (λy=>(y.1,y.2.1)) (λz=>(z.1,(z.2,())))
def nH(n:Nat)(a0:aM):Option aM:=
eP (λk23 (aA:Int) (aR:(List Int))=>
cn (decide (0<=aA)) (
gu (dk aA a0.L.length)<|
gu (gN aR.length [(a0.L.getD (Int.toNat aA) default)].length 8)<|
lt (aR++[(a0.L.getD (Int.toNat aA) default)]:List Int) λcE=>
k23 (wr .i64 (aA-1)) cE) (
lt (({L:=aR,gq:=a0.gq}:aM):aM) λdU=>
some (dU))) n (wr .i64 ((a0.L.length:Int)-1)) []
def BI(n:Nat):CT:=cV (tC n [(7, .loop [(.dh 4, .v (.int .i64)),(.dh 3, .row 33 1 (.int .u64))])] [] []) ⟨45,[],(.cons (.v (.st 1)) .nil),(.cons (.v (.st 1)) .nil),[], .nil,[],[]⟩ (λx=>nH n x.1) (λy=>(y.1)) (λz=>(z,()))
def kW(n:Nat)(cL:ae)(da:aj)(dx:ai)(dw:(List Int))(cC:Int)(dF:Int)(dD:Int)(a1:Int):Option (Int×Int×ae×aj×ai×(List Int)×Int×Int×Int):=
bd (jb n cL da dx dw cC dF dD 0 a1) λaA=>
bd (cy n aA.2.1 aA.2.2.1 aA.2.2.2.1 aA.2.2.2.2.1 aA.2.2.2.2.2.1 aA.2.2.2.2.2.2.1 aA.2.2.2.2.2.2.2.1 aA.2.2.2.2.2.2.2.2 (wr .i64 (aA.1+8))) λaR=>
lt (aR.1:Int) λbS=>
lt (λ(cE:Int)=>
lt (cE:Int) λeM=>
some (eM,aR.2.2.2.2.2.2.2.2,aR.2.1,aR.2.2.1,aR.2.2.2.1,aR.2.2.2.2.1,aR.2.2.2.2.2.1,dF,dD)) λj25=>
cn ((aR.2.2.2.2.2.2.2.2!=0)) (
j25 0) (
j25 bS)
def EP(n:Nat):CT:=cV (tC n [(8, .join [(.via 4, .box 33 (.v (.int .u64)))] [])] [yj n,gM n] []) ⟨13,[],(.cons (.st (.part 1 (.box 141 (.st (.part 1 (.box 113 (.st (.part 952 (.v (.st 19)) (.part 1 (.box 185 (.v (.st 24))) (.part 320 (.v (.st 21)) (.part 1 (.row 3 1 (.int .i64)) .nil)))))) (.part 1 (.v (.int .i64)) .nil)))) (.part 1 (.v (.int .u32)) (.part 1 (.v (.int .i64)) .nil)))) (.cons (.v (.int .i64)) .nil)),(.cons (.jv (.cons (.v (.int .u64)) (.cons (.v (.int .i64)) .nil))) (.cons (.st (.part 1 (.box 141 (.st (.part 1 (.box 113 (.st (.part 952 (.v (.st 19)) (.part 1 (.box 185 (.v (.st 24))) (.part 320 (.v (.st 21)) (.part 1 (.row 3 1 (.int .i64)) .nil)))))) (.part 1 (.v (.int .i64)) .nil)))) (.part 1 (.v (.int .u32)) (.part 1 (.v (.int .i64)) .nil)))) .nil)),[some 0,some 1,some 2,none], .nil,[],[[0]]⟩ (λx=>kW n x.1 x.2.1 x.2.2.1 x.2.2.2.1 x.2.2.2.2.1 x.2.2.2.2.2.1 x.2.2.2.2.2.2.1 x.2.2.2.2.2.2.2.1) (λy=>(y.1,y.2.1,y.2.2.1,y.2.2.2.1,y.2.2.2.2.1,y.2.2.2.2.2.1,y.2.2.2.2.2.2.1,y.2.2.2.2.2.2.2.1,y.2.2.2.2.2.2.2.2.1)) (λz=>(z.1,(z.2.1,(z.2.2.1,(z.2.2.2.1,(z.2.2.2.2.1,(z.2.2.2.2.2.1,(z.2.2.2.2.2.2.1,(z.2.2.2.2.2.2.2.1,(z.2.2.2.2.2.2.2.2,()))))))))))
def oU(n:Nat)(a0:aM)(a1:Int):Option (Int×Int):=
cn (((decide (a1<0))||(decide ((a0.L.length:Int)<=a1)))) (
some (0,9)) (
gu (dk a1 a0.L.length)<|
some ((a0.L.getD (Int.toNat a1) default),0))
def C7(n:Nat):CT:=cV (tC n [] [] []) ⟨46,[],(.cons (.v (.st 1)) (.cons (.v (.int .i64)) .nil)),(.cons (.jv (.cons (.v (.int .u64)) (.cons (.v (.int .i64)) .nil))) .nil),[], .nil,[],[]⟩ (λx=>oU n x.1 x.2.1) (λy=>(y.1,y.2.1)) (λz=>(z.1,(z.2,())))
def nI(n:Nat)(a0:aM)(a1:Int):Option aM:=
gu (gN 0 a0.L.length 8)<|
lt (a0.L:List Int) λaA=>
gu (gN aA.length [a1].length 8)<|
lt (aA++[a1]:List Int) λaR=>
bd (mN n a0 aR) λbS=>
lt (bS:aM) λcE=>
some (cE)
def BJ(n:Nat):CT:=cV (tC n [] [sL n] []) ⟨47,[],(.cons (.v (.st 1)) (.cons (.v (.int .u64)) .nil)),(.cons (.v (.st 1)) .nil),[], .nil,[],[]⟩ (λx=>nI n x.1 x.2.1) (λy=>(y.1)) (λz=>(z,()))
def wF(n:Nat)(cL:ae)(da:aj)(dx:ai)(dw:(List Int))(cC:Int)(dF:Int)(dD:Int)(a1:aM)(a2:fA):Option (aM×Bool×ae×aj×ai×(List Int)×Int×Int×Int):=
lt (a1:aM) λaA=>
lt (λ(aR:Int) (bS:Int) (cE:Int) (dU:Int) (eM:ae) (dB:aj) (eS:ai) (ic:(List Int)) (eo:Int) (dP:Int) (jk:Int) (eU:aM)=>
cn (((dU==6)&&(decide (a1.gq<eU.gq)))) (
lt (a1:aM) λfV=>
some (fV,true,eM,dB,eS,ic,eo,dF,dD)) (
lt (eU:aM) λjS=>
some (jS,((dU==cE)&&(bS==aR)),eM,dB,eS,ic,eo,dF,dD))) λYF=>
cn ((a2.Do==0)) (
bd (kS n cL da dx dw cC dF dD a2.V) λdL=>
bd (mO n a1 a2.V) λjU=>
lt (jU:aM) λgA=>
YF 0 0 0 dL.1 dL.2.1 dL.2.2.1 dL.2.2.2.1 dL.2.2.2.2.1 dL.2.2.2.2.2.1 dF dD gA) (
cn ((a2.Do==1)) (
bd (jo n cL da dx dw cC dF dD) λrP=>
bd (jK n a1) λgy=>
lt (gy.1:aM) λmX=>
YF gy.2.1 rP.1 gy.2.2 rP.2.1 rP.2.2.1 rP.2.2.2.1 rP.2.2.2.2.1 rP.2.2.2.2.2.1 rP.2.2.2.2.2.2.1 dF dD mX) (
cn ((a2.Do==2)) (
bd (qd n cL da dx dw cC dF dD a2.I a2.V) λxR=>
bd (jJ n a1 a2.I a2.V) λxw=>
lt (xw.1:aM) λIM=>
YF 0 0 xw.2 xR.1 xR.2.1 xR.2.2.1 xR.2.2.2.1 xR.2.2.2.2.1 xR.2.2.2.2.2.1 dF dD IM) (
cn ((a2.Do==3)) (
bd (mq n cL da dx dw cC dF dD) λvg=>
bd (nH n a1) λFo=>
lt (Fo:aM) λzQ=>
YF 0 0 0 vg.1 vg.2.1 vg.2.2.1 vg.2.2.2.1 vg.2.2.2.2.1 vg.2.2.2.2.2.1 dF dD zQ) (
cn ((a2.Do==4)) (
bd (kW n cL da dx dw cC dF dD a2.I) λqX=>
bd (oU n a1 a2.I) λtU=>
YF tU.1 qX.1 tU.2 qX.2.1 qX.2.2.1 qX.2.2.2.1 qX.2.2.2.2.1 qX.2.2.2.2.2.1 qX.2.2.2.2.2.2.1 dF dD aA) (
bd (jN n cL da dx dw cC dF dD a2.V) λCX=>
bd (nI n a1 a2.V) λJO=>
lt (JO:aM) λye=>
YF 0 0 0 CX.1 CX.2.1 CX.2.2.1 CX.2.2.2.1 CX.2.2.2.2.1 CX.2.2.2.2.2.1 dF dD ye)))))
def JQ(n:Nat):CT:=cV (tC n [(44, .join [(.dh 12, .v (.int .u64)),(.dh 11, .v (.int .u64)),(.dh 10, .v (.int .i64)),(.dh 9, .v (.int .i64)),(.via 3, .box 27 (.st (.part 1 (.box 141 (.st (.part 1 (.box 113 (.st (.part 952 (.v (.st 19)) (.part 1 (.box 185 (.v (.st 24))) (.part 320 (.v (.st 21)) (.part 1 (.row 3 1 (.int .i64)) .nil)))))) (.part 1 (.v (.int .i64)) .nil)))) (.part 1 (.v (.int .u32)) (.part 1 (.v (.int .i64)) .nil))))),(.via 8, .box 44 (.v (.st 1)))] [])] [tY n,AT n,w6 n,C6 n,EN n,C5 n,vo n,BI n,EP n,C7 n,vp n,BJ n] []) ⟨14,[],(.cons (.st (.part 1 (.box 141 (.st (.part 1 (.box 113 (.st (.part 952 (.v (.st 19)) (.part 1 (.box 185 (.v (.st 24))) (.part 320 (.v (.st 21)) (.part 1 (.row 3 1 (.int .i64)) .nil)))))) (.part 1 (.v (.int .i64)) .nil)))) (.part 1 (.v (.int .u32)) (.part 1 (.v (.int .i64)) .nil)))) (.cons (.v (.st 1)) (.cons (.v (.st 0)) .nil))),(.cons (.jv (.cons (.v (.st 1)) (.cons (.v .bool) .nil))) (.cons (.st (.part 1 (.box 141 (.st (.part 1 (.box 113 (.st (.part 952 (.v (.st 19)) (.part 1 (.box 185 (.v (.st 24))) (.part 320 (.v (.st 21)) (.part 1 (.row 3 1 (.int .i64)) .nil)))))) (.part 1 (.v (.int .i64)) .nil)))) (.part 1 (.v (.int .u32)) (.part 1 (.v (.int .i64)) .nil)))) .nil)),[some 0,some 1,some 2,none], .nil,[],[[0]]⟩ (λx=>wF n x.1 x.2.1 x.2.2.1 x.2.2.2.1 x.2.2.2.2.1 x.2.2.2.2.2.1 x.2.2.2.2.2.2.1 x.2.2.2.2.2.2.2.1 x.2.2.2.2.2.2.2.2.1) (λy=>(y.1,y.2.1,y.2.2.1,y.2.2.2.1,y.2.2.2.2.1,y.2.2.2.2.2.1,y.2.2.2.2.2.2.1,y.2.2.2.2.2.2.2.1,y.2.2.2.2.2.2.2.2.1)) (λz=>(z.1,(z.2.1,(z.2.2.1,(z.2.2.2.1,(z.2.2.2.2.1,(z.2.2.2.2.2.1,(z.2.2.2.2.2.2.1,(z.2.2.2.2.2.2.2.1,(z.2.2.2.2.2.2.2.2,()))))))))))
def q9(n:Nat)(a0:Int)(a1:(List fA)):Option Bool:=
cn ((((decide (a0<1))||(decide (64<a0)))||(decide (80<(a1.length:Int))))) (
bd (ux n) λaA=>
some (aA)) (
bd (B3 n 64) λaR=>
bd (uk n) λbS=>
bd (cJ n bS ({({jZ with n:=64}:aj)with dV:=aR}:aj) bB [] 0 ({({eF with Do:=1}:aC)with A:=wr .u32 (wr .i64 a0)}:aC)) λcE=>
lt (cE.1:ah) λdU=>
bd (dX n cE.2.1 cE.2.2.1 cE.2.2.2.1 cE.2.2.2.2.1 cE.2.2.2.2.2 dU.W 32 8) λeM=>
cn ((eM.2.1!=0)) (
cn ((!((dU.E==0)&&(eM.2.1==0)))) (
some (false)) (
none)) (
cn ((!((dU.E==0)&&true))) (
some (false)) (
Jj (λk36 (dB:Int) (eS:ae) (ic:aj) (eo:ai) (dP:(List Int)) (jk:Int) (eU:Int) (cI:Int) (fV:aM)=>
cn (decide (dB<(a1.length:Int))) (
gu (dk dB a1.length)<|
bd (wF n eS ic eo dP jk eU cI fV (a1.getD (Int.toNat dB) default)) λdL=>
lt (dL.1:aM) λjU=>
cn ((!dL.2.1)) (
some (false)) (
bd (tq n dL.2.2.1 dL.2.2.2.1 dL.2.2.2.2.1 dL.2.2.2.2.2.1 dL.2.2.2.2.2.2.1 eU cI jU) λgA=>
cn ((!gA.1)) (
some (false)) (
lt (jU:aM) λrP=>
k36 (wr .i64 (dB+1)) gA.2.1 gA.2.2.1 gA.2.2.2.1 gA.2.2.2.2.1 gA.2.2.2.2.2.1 eU cI rP))) (
bd (ux n) λgy=>
some (gy))) n 0 eM.2.2.1 eM.2.2.2.1 eM.2.2.2.2.1 eM.2.2.2.2.2.1 eM.2.2.2.2.2.2 dU.W eM.1 kH)))
def BU(n:Nat):CT:=cV (tC n [(17, .loop [(.dh 8, .v (.int .i64)),(.via 5, .box 27 (.st (.part 1 (.box 141 (.st (.part 1 (.box 113 (.st (.part 952 (.v (.st 19)) (.part 1 (.box 185 (.v (.st 24))) (.part 320 (.v (.st 21)) (.part 1 (.row 3 1 (.int .i64)) .nil)))))) (.part 1 (.v (.int .i64)) .nil)))) (.part 1 (.v (.int .u32)) (.part 1 (.v (.int .i64)) .nil))))),(.via 7, .box 44 (.v (.st 1)))])] [Ii n,IQ n,Ay n,sR n,qY n,JQ n,BT n] []) ⟨4,[],(.cons (.v (.int .u8)) (.cons (.v (.sl (.st 0))) .nil)),(.cons (.v .bool) .nil),[], .nil,[],[]⟩ (λx=>q9 n x.1 x.2.1) (λy=>(y.1)) (λz=>(z,()))
end
end Go.Proofs.Z
