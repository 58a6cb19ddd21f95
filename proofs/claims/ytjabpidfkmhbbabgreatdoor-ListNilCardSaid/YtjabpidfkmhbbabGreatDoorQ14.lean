/- Part 14 of what a proof leans on; pruned and shortened by a program out of longer texts. -/
import Derived.Test.YtjabpidfkmhbbabGreatDoorQ13
namespace Go.Proofs.Z
open Go Go.Bw Go.Rw Go.RowKit
noncomputable section
abbrev tC(n:Nat)(h:List (Nat×Hn))(cs:List CT)(Qk:List (It Tryz.prog sg)):uf Tryz.prog sg:=aaG tt zt n h cs Qk eks
def g6(n:Nat)(a0:Int):Option (Int×Bool):=
some (wr .u32 a0,((decide (0<=a0))&&(decide (a0<=4294967295))))
def yS(n:Nat):CT:=cV (tC n [] [] []) ⟨44,[],(.cons (.v (.int .i64)) .nil),(.cons (.gO (.cons (.v (.int .u32)) (.cons (.v .bool) .nil))) .nil),[], .nil,[],[]⟩ (λx=>g6 n x.1) (λy=>(y.1,y.2.1)) (λz=>(z.1,(z.2,())))
def xU(n:Nat)(a0:ah)(a1:Int)(a2:aI):Option Int:=
bd (eH n a0 a1 a2) λax=>
cn (decide (0<ax)) (
some (0)) (
bd (mH n a0 a1 a2 bZ) λaK=>
lt (aK.1:ah) λbC=>
lt (aK.2.1:ae) λbO=>
some (bO.E))
def yP(n:Nat):CT:=cV (tC n [] [jK n,rN n] []) ⟨52,[],(.cons (.v (.st 18)) (.cons (.v (.int .i64)) (.cons (.v (.st 1)) .nil))),(.cons (.v (.int .i64)) .nil),[], .nil,[],[]⟩ (λx=>xU n x.1 x.2.1 x.2.2.1) (λy=>(y.1)) (λz=>(z,()))
def xT(n:Nat)(a0:ah)(a1:Int)(a2:aI):Option Bool:=
cl (((a2.Do==15)==true)) (xU n a0 a1 a2) default λax=>
some (((a2.Do==15)&&(ax==10)))
def yO(n:Nat):CT:=cV (tC n [] [yP n] []) ⟨47,[],(.cons (.v (.st 18)) (.cons (.v (.int .i64)) (.cons (.v (.st 1)) .nil))),(.cons (.v .bool) .nil),[], .nil,[],[]⟩ (λx=>xT n x.1 x.2.1 x.2.2.1) (λy=>(y.1)) (λz=>(z,()))
def kz(n:Nat)(cq:ah)(cH:ak)(cN:aj)(cM:(List Int))(a1:aq):Option (ah×ak×aj×(List Int)):=
CM (λk26 (ax:Int) (aK:ah) (bC:ak) (bO:aj) (cW:(List Int))=>
cn (decide (ax<a1.N)) (
gu (ij cW.length [wr .i64 (a1.At+ax)].length 8)<|
lt (cW++[wr .i64 (a1.At+ax)]:List Int) λcJ=>
k26 (wr .i64 (ax+1)) aK bC bO cJ) (
some (aK,bC,bO,cW))) n 0 cq cH cN cM
def qI(n:Nat):CT:=cV (tC n [(5, .loop [(.slot 7, .v (.int .i64)),(.via 0, .box 127 (.st (.part 952 (.v (.st 18)) (.part 1 (.box 149 (.v (.st 23))) (.part 320 (.v (.st 20)) (.part 1 (.row 3 1 (.int .i64)) .nil))))))])] [] []) ⟨58,[],(.cons (.box 127 (.st (.part 952 (.v (.st 18)) (.part 1 (.box 149 (.v (.st 23))) (.part 320 (.v (.st 20)) (.part 1 (.row 3 1 (.int .i64)) .nil)))))) (.cons (.v (.st 6)) .nil)),(.cons (.gO .nil) (.cons (.box 127 (.st (.part 952 (.v (.st 18)) (.part 1 (.box 149 (.v (.st 23))) (.part 320 (.v (.st 20)) (.part 1 (.row 3 1 (.int .i64)) .nil)))))) .nil)),[some 0,some 1,none], .nil,[],[[0]]⟩ (λx=>kz n x.1 x.2.1 x.2.2.1 x.2.2.2.1 x.2.2.2.2.1) (λy=>(y.1,y.2.1,y.2.2.1,y.2.2.2.1)) (λz=>(z.1,(z.2.1,(z.2.2.1,(z.2.2.2,())))))
def zi(n:Nat)(a0:Int)(a1:Int):Option Bool:=
some (((((decide (0<=a0))&&(decide (a0<32)))&&(decide (0<=a1)))&&(decide (a1<8))))
def xL(n:Nat):CT:=cV (tC n [] [] []) ⟨78,[],(.cons (.v (.int .i64)) (.cons (.v (.int .i64)) .nil)),(.cons (.v .bool) .nil),[], .nil,[],[]⟩ (λx=>zi n x.1 x.2.1) (λy=>(y.1)) (λz=>(z,()))
def tU(n:Nat)(a0:aj)(a1:Int)(a2:Int):Option aj:=
lt (λ(ax:aj)=>
lt (ax:aj) λbC=>
some (bC)) λO0=>
bd (zi n a1 a2) λbO=>
gu (!(bO==true)||cG a1 32)<|
cn ((bO&&((wr .i64 ((a0.br (Int.toNat a1)).O6))==(wr .i64 (a2+1))))) (
gu (cG a1 32)<|
lt (({a0 with br:=(mW a0.br (Int.toNat a1) ({(a0.br (Int.toNat a1))with O6:=0}:bF))}:aj):aj) λcW=>
O0 cW) (
O0 a0)
def yU(n:Nat):CT:=cV (tC n [(6, .join [(.via 3, .box 125 (.v (.st 20)))] [])] [xL n] []) ⟨77,[],(.cons (.v (.st 20)) (.cons (.v (.int .i64)) (.cons (.v (.int .i64)) .nil))),(.cons (.v (.st 20)) .nil),[], .nil,[],[]⟩ (λx=>tU n x.1 x.2.1 x.2.2.1) (λy=>(y.1)) (λz=>(z,()))
def qN(n:Nat)(a0:(List Int))(a1:Int):Option Int:=
gI (λk22 (ax:Int)=>
cn (decide (ax<(a0.length:Int))) (
gu (cG ax a0.length)<|
cn ((a1==(a0.getD (Int.toNat ax) default))) (
some (ax)) (
k22 (wr .i64 (ax+1)))) (
some ((-1)))) n 0
def wL(n:Nat):CT:=cV (tC n [(5, .loop [(.slot 8, .v (.int .i64))])] [] []) ⟨114,[],(.cons (.v (.sl (.int .u8))) (.cons (.v (.int .u8)) .nil)),(.cons (.v (.int .i64)) .nil),[], .nil,[],[]⟩ (λx=>qN n x.1 x.2.1) (λy=>(y.1)) (λz=>(z,()))
def ow(n:Nat)(a0:bF)(a1:Int):Option Int:=
gu (cG a0.n 9)<|
bd (qN n ((List.range (Int.toNat a0.n)).map a0.Bz) (wr .u8 a1)) λax=>
some (ax)
def qH(n:Nat):CT:=cV (tC n [(1000008, .EZ)] [wL n] []) ⟨95,[],(.cons (.v (.st 19)) (.cons (.v (.int .i64)) .nil)),(.cons (.v (.int .i64)) .nil),[], .nil,[],[]⟩ (λx=>ow n x.1 x.2.1) (λy=>(y.1)) (λz=>(z,()))
def mK(n:Nat)(a0:bF)(a1:Int):Option bF:=
bd (ow n a0 a1) λax=>
cn (decide (ax<0)) (
lt (a0:bF) λaK=>
some (aK)) (
gu (cG ax 9)<|
gu (cG (wr .i64 (ax+1)) 9)<|
lt (({a0 with Bz:=Ss (Int.toNat ax) (Int.toNat (wr .i64 (ax+1))) 8 a0.Bz}:bF):bF) λbC=>
lt (({bC with n:=wr .i64 (bC.n-1)}:bF):bF) λbO=>
gu (cG bO.n 8)<|
lt (({bO with Bz:=(mW bO.Bz (Int.toNat bO.n) 0)}:bF):bF) λcW=>
lt (cW:bF) λdO=>
some (dO))
def oK(n:Nat):CT:=cV (tC n [] [qH n] []) ⟨79,[],(.cons (.v (.st 19)) (.cons (.v (.int .i64)) .nil)),(.cons (.v (.st 19)) .nil),[], .nil,[],[]⟩ (λx=>mK n x.1 x.2.1) (λy=>(y.1)) (λz=>(z,()))
def tT(n:Nat)(a0:aj)(a1:Int):Option aj:=
dL (λk23 (ax:Int) (aK:aj)=>
cn (decide (ax<32)) (
lt (λ(bO:aj)=>
k23 (wr .i64 (ax+1)) bO) λXT=>
bd (tU n aK ax a1) λdO=>
lt (dO:aj) λcJ=>
bd (zi n ax a1) λdR=>
cn (dR) (
gu (cG ax 32)<|
bd (mK n (cJ.br (Int.toNat ax)) a1) λgC=>
gu (cG ax 32)<|
lt (({cJ with br:=(mW cJ.br (Int.toNat ax) gC)}:aj):aj) λcZ=>
XT cZ) (
XT cJ)) (
lt (aK:aj) λdc=>
some (dc))) n 0 a0
def yT(n:Nat):CT:=cV (tC n [(5, .loop [(.slot 6, .v (.int .i64)),(.via 2, .box 125 (.v (.st 20)))]),(14, .join [(.via 2, .box 125 (.v (.st 20)))] [])] [yU n,xL n,oK n] []) ⟨59,[],(.cons (.v (.st 20)) (.cons (.v (.int .i64)) .nil)),(.cons (.v (.st 20)) .nil),[], .nil,[],[]⟩ (λx=>tT n x.1 x.2.1) (λy=>(y.1)) (λz=>(z,()))
def rF(n:Nat)(cq:ah)(cH:ak)(cN:aj)(cM:(List Int))(a1:aF):Option (ah×ak×aj×(List Int)):=
bd (kz n cq cH cN cM a1.Hp) λax=>
bd (tT n ax.2.2.1 a1.m0) λaK=>
lt (aK:aj) λbC=>
some (ax.1,ax.2.1,bC,ax.2.2.2)
def tI(n:Nat):CT:=cV (tC n [] [qI n,yT n] []) ⟨49,[],(.cons (.box 127 (.st (.part 952 (.v (.st 18)) (.part 1 (.box 149 (.v (.st 23))) (.part 320 (.v (.st 20)) (.part 1 (.row 3 1 (.int .i64)) .nil)))))) (.cons (.v (.st 21)) .nil)),(.cons (.gO .nil) (.cons (.box 127 (.st (.part 952 (.v (.st 18)) (.part 1 (.box 149 (.v (.st 23))) (.part 320 (.v (.st 20)) (.part 1 (.row 3 1 (.int .i64)) .nil)))))) .nil)),[some 0,some 1,none], .nil,[],[[0]]⟩ (λx=>rF n x.1 x.2.1 x.2.2.1 x.2.2.2.1 x.2.2.2.2.1) (λy=>(y.1,y.2.1,y.2.2.1,y.2.2.2.1)) (λz=>(z.1,(z.2.1,(z.2.2.1,(z.2.2.2,())))))
def fW(n:Nat)(cq:ah)(cH:ak)(cN:aj)(cM:(List Int))(bV:aF)(dA:ae)(dz:Bool)(a1:ae):Option (ah×ak×aj×(List Int)×aF×ae×Bool):=
lt (a1:ae) λax=>
bd (rF n cq cH cN cM bV) λaK=>
some (aK.1,aK.2.1,aK.2.2.1,aK.2.2.2,bV,ax,true)
def jL(n:Nat):CT:=cV (tC n [] [tI n] []) ⟨65,[],(.cons (.box 153 (.st (.part 1 (.box 127 (.st (.part 952 (.v (.st 18)) (.part 1 (.box 149 (.v (.st 23))) (.part 320 (.v (.st 20)) (.part 1 (.row 3 1 (.int .i64)) .nil)))))) (.part 12 (.v (.st 21)) (.part 3 (.v (.st 0)) (.part 1 (.v .bool) .nil)))))) (.cons (.v (.st 0)) .nil)),(.cons (.gO .nil) (.cons (.box 153 (.st (.part 1 (.box 127 (.st (.part 952 (.v (.st 18)) (.part 1 (.box 149 (.v (.st 23))) (.part 320 (.v (.st 20)) (.part 1 (.row 3 1 (.int .i64)) .nil)))))) (.part 12 (.v (.st 21)) (.part 3 (.v (.st 0)) (.part 1 (.v .bool) .nil)))))) .nil)),[some 0,some 1,some 2,none], .nil,[],[[0]]⟩ (λx=>fW n x.1 x.2.1 x.2.2.1 x.2.2.2.1 x.2.2.2.2.1 x.2.2.2.2.2.1 x.2.2.2.2.2.2.1 x.2.2.2.2.2.2.2.1) (λy=>(y.1,y.2.1,y.2.2.1,y.2.2.2.1,y.2.2.2.2.1,y.2.2.2.2.2.1,y.2.2.2.2.2.2.1)) (λz=>(z.1,(z.2.1,(z.2.2.1,(z.2.2.2.1,(z.2.2.2.2.1,(z.2.2.2.2.2.1,(z.2.2.2.2.2.2,()))))))))
def iC(n:Nat)(a0:ah)(a1:Int):Option (List Int):=
bd (aC n a0.eS.T.dN.jb a1) λax=>
cn ((!ax)) (
some ([])) (
some ([a1]))
def HM(n:Nat):CT:=cV (tC n [] [aH n] []) ⟨86,[],(.cons (.v (.st 18)) (.cons (.v (.int .u32)) .nil)),(.cons (.row 25 1 (.int .u32)) .nil),[none], .nil,[],[]⟩ (λx=>iC n x.1 x.2.1) (λy=>(y.1)) (λz=>(z,()))
def fj(n:Nat)(a0:au)(a1:Int):Option (List Int):=
bd (aC n a0.dN.jb a1) λax=>
cn ((!ax)) (
some ([])) (
bd (mM n a0 a1) λaK=>
bd (jk n aK.1 aK.2) λdO=>
zn (λ(e25:Int) k24 (bC:(List Int))=>
gu (ij bC.length [e25].length 4)<|
lt (bC++[e25]:List Int) λdR=>
k24 dR) (λ(bC:(List Int))=>
some (bC)) dO [])
def zW(n:Nat):CT:=cV (tC n [(150050000005, .loop [(.via 2, .box 133 (.row 25 1 (.int .u32)))])] [aH n,lW n] [jE n]) ⟨88,[],(.cons (.v (.st 9)) (.cons (.v (.int .u32)) .nil)),(.cons (.row 25 1 (.int .u32)) .nil),[none], .nil,[],[]⟩ (λx=>fj n x.1 x.2.1) (λy=>(y.1)) (λz=>(z,()))
def oO(n:Nat)(a0:(List Int))(a1:Int):Option (Int×(List Int)):=
gI (λk22 (ax:Int)=>
cn (decide (ax<(a0.length:Int))) (
gu (cG ax a0.length)<|
cn ((a1==(a0.getD (Int.toNat ax) default))) (
some (ax,a0)) (
k22 (wr .i64 (ax+1)))) (
some ((-1),a0))) n 0
def uj(n:Nat):CT:=cV (tC n [(5, .loop [(.slot 8, .v (.int .i64))])] [] []) ⟨113,[],(.cons (.row 25 1 (.int .u32)) (.cons (.v (.int .u32)) .nil)),(.cons (.v (.int .i64)) (.cons (.row 25 1 (.int .u32)) .nil)),[some 0], .nil,[],[[0]]⟩ (λx=>oO n x.1 x.2.1) (λy=>(y.1,y.2.1)) (λz=>(z.1,(z.2,())))
def mj(n:Nat)(a0:(List Int))(a1:Int):Option (Bool×(List Int)):=
bd (oO n a0 a1) λax=>
some (decide (0<=ax.1),ax.2)
def ri(n:Nat):CT:=cV (tC n [] [uj n] []) ⟨91,[],(.cons (.row 25 1 (.int .u32)) (.cons (.v (.int .u32)) .nil)),(.cons (.v .bool) (.cons (.row 25 1 (.int .u32)) .nil)),[some 0], .nil,[],[[0]]⟩ (λx=>mj n x.1 x.2.1) (λy=>(y.1,y.2.1)) (λz=>(z.1,(z.2,())))
def y8(n:Nat)(a0:ah)(a1:aI):Option (List Int):=
cn (a1.Do==1) (
bd (iC n a0 a1.R) λlJ=>
some (lJ)) (
cn (a1.Do==2) (
bd (iC n a0 a1.R) λgP=>
some (gP)) (
cn (a1.Do==3) (
bd (iC n a0 a1.R) λq9=>
some (q9)) (
cn (a1.Do==4) (
bd (iC n a0 a1.R) λfJ=>
some (fJ)) (
cn (a1.Do==5) (
bd (iC n a0 a1.R) λlR=>
some (lR)) (
cn (a1.Do==10) (
bd (iC n a0 a1.R) λei=>
some (ei)) (
cn (a1.Do==12) (
bd (iC n a0 a1.R) λiF=>
some (iF)) (
cn (a1.Do==18) (
bd (iC n a0 a1.R) λeP=>
some (eP)) (
cn (a1.Do==19) (
bd (iC n a0 a1.R) λbM=>
some (bM)) (
cn (a1.Do==6) (
bd (fj n a0.eS.T a1.R) λeC=>
some (eC)) (
cn (a1.Do==7) (
bd (fj n a0.eS.T a1.R) λgQ=>
some (gQ)) (
cn (a1.Do==9) (
bd (fj n a0.eS.T a1.R) λdc=>
some (dc)) (
cn (a1.Do==11) (
bd (fj n a0.eS.T a1.R) λcZ=>
some (cZ)) (
cn (a1.Do==8) (
bd (fj n a0.eS.T a1.R) λdO=>
cl ((((dO.length:Int)==0)==false)) (aC n a0.eS.T.dN.jb a1.S) default λcJ=>
cn ((((dO.length:Int)==0)||(!cJ))) (
some ([])) (
bd (mj n dO a1.S) λdR=>
cn (dR.1) (
some (dR.2)) (
gu (ij dR.2.length [a1.S].length 4)<|
lt (dR.2++[a1.S]:List Int) λgC=>
some (gC)))) (
cn (a1.Do==13) (
bd (bR n a0.eS.K a1.S) λbC=>
lt (bC.1:aW) λbO=>
cn ((bC.2!=0)) (
some ([])) (
bd (iC n a0 bO.Region) λcW=>
some (cW))) (
cn (a1.Do==14) (
cn ((a1.B==1)) (
bd (iC n a0 a1.R) λax=>
some (ax)) (
bd (fj n a0.eS.T a1.R) λaK=>
some (aK))) (
some ([])))))))))))))))))
def Cn(n:Nat):CT:=cV (tC n [] [HM n,zW n,cR n,aH n,ri n] []) ⟨66,[],(.cons (.v (.st 18)) (.cons (.v (.st 1)) .nil)),(.cons (.v (.sl (.int .u32))) .nil),[], .nil,[],[]⟩ (λx=>y8 n x.1 x.2.1) (λy=>(y.1)) (λz=>(z,()))
def qm(n:Nat)(cq:ah)(cH:ak)(cN:aj)(cM:(List Int))(bV:aF)(dA:ae)(dz:Bool):Option (Bool×ah×ak×aj×(List Int)×aF×ae×Bool):=
cn (bV.Checked) (
some (false,cq,cH,cN,cM,bV,dA,dz)) (
bd (xT n cq bV.m0 bV.C) λax=>
cn (ax) (
some (true,cq,cH,cN,cM,bV,dA,dz)) (
bd (xU n cq bV.m0 bV.C) λaK=>
cn ((aK !=0)) (
bd (fW n cq cH cN cM bV dA dz ({bp with E:=aK}:ae)) λbC=>
some (true,bC.1,bC.2.1,bC.2.2.1,bC.2.2.2.1,bC.2.2.2.2.1,bC.2.2.2.2.2.1,bC.2.2.2.2.2.2)) (
bd (y8 n cq bV.C) λbO=>
lt (({bV with Checked:=true}:aF):aF) λcW=>
lt (({cW with iu:=bO}:aF):aF) λdO=>
some (true,cq,cH,cN,cM,dO,dA,dz))))
def uV(n:Nat):CT:=cV (tC n [] [yO n,yP n,jL n,Cn n] []) ⟨53,[],(.cons (.box 153 (.st (.part 1 (.box 127 (.st (.part 952 (.v (.st 18)) (.part 1 (.box 149 (.v (.st 23))) (.part 320 (.v (.st 20)) (.part 1 (.row 3 1 (.int .i64)) .nil)))))) (.part 12 (.v (.st 21)) (.part 3 (.v (.st 0)) (.part 1 (.v .bool) .nil)))))) .nil),(.cons (.v .bool) (.cons (.box 153 (.st (.part 1 (.box 127 (.st (.part 952 (.v (.st 18)) (.part 1 (.box 149 (.v (.st 23))) (.part 320 (.v (.st 20)) (.part 1 (.row 3 1 (.int .i64)) .nil)))))) (.part 12 (.v (.st 21)) (.part 3 (.v (.st 0)) (.part 1 (.v .bool) .nil)))))) .nil)),[some 0,some 1,some 2,none], .nil,[],[[0]]⟩ (λx=>qm n x.1 x.2.1 x.2.2.1 x.2.2.2.1 x.2.2.2.2.1 x.2.2.2.2.2.1 x.2.2.2.2.2.2.1) (λy=>(y.1,y.2.1,y.2.2.1,y.2.2.2.1,y.2.2.2.2.1,y.2.2.2.2.2.1,y.2.2.2.2.2.2.1,y.2.2.2.2.2.2.2.1)) (λz=>(z.1,(z.2.1,(z.2.2.1,(z.2.2.2.1,(z.2.2.2.2.1,(z.2.2.2.2.2.1,(z.2.2.2.2.2.2.1,(z.2.2.2.2.2.2.2,())))))))))
def vt(n:Nat)(a0:aj)(a1:Int)(a2:Int):Option (aj×Bool):=
bd (zi n a1 a2) λax=>
cn ((!ax)) (
lt (a0:aj) λaK=>
some (aK,false)) (
gu (cG a1 32)<|
lt (λ(bC:aj) (bO:aj)=>
lt (bO:aj) λdO=>
some (dO,false)) λXT=>
bd (ow n (a0.br (Int.toNat a1)) a2) λcJ=>
cn (((wr .i64 ((a0.br (Int.toNat a1)).O6))==(wr .i64 (a2+1)))) (
lt (a0:aj) λdR=>
some (dR,true)) (
cn (((((a0.br (Int.toNat a1)).O6)==0)&&((((a0.br (Int.toNat a1)).n)==0)||(cJ==0)))) (
bd (mK n (a0.br (Int.toNat a1)) a2) λgC=>
lt (({a0 with br:=(mW a0.br (Int.toNat a1) gC)}:aj):aj) λcZ=>
lt (({cZ with br:=(mW cZ.br (Int.toNat a1) ({(cZ.br (Int.toNat a1))with O6:=wr .u8 (wr .i64 (a2+1))}:bF))}:aj):aj) λdc=>
lt (dc:aj) λgQ=>
some (gQ,true)) (
cn (decide (cJ<0)) (
gu (cG ((a0.br (Int.toNat a1)).n) 8)<|
lt (({a0 with br:=(mW a0.br (Int.toNat a1) ({(a0.br (Int.toNat a1))with Bz:=(mW ((a0.br (Int.toNat a1)).Bz) (Int.toNat ((a0.br (Int.toNat a1)).n)) (wr .u8 a2))}:bF))}:aj):aj) λeC=>
lt (({eC with br:=(mW eC.br (Int.toNat a1) ({(eC.br (Int.toNat a1))with n:=wr .i64 (((eC.br (Int.toNat a1)).n)+1)}:bF))}:aj):aj) λbM=>
XT dw bM) (
XT dw a0))))
def z7(n:Nat):CT:=cV (tC n [(28, .join [(.via 6, .box 125 (.v (.st 20))),(.via 3, .box 125 (.v (.st 20)))] [])] [xL n,qH n,oK n] []) ⟨68,[],(.cons (.v (.st 20)) (.cons (.v (.int .i64)) (.cons (.v (.int .i64)) .nil))),(.cons (.gO (.cons (.v (.st 20)) (.cons (.v .bool) .nil))) .nil),[], .nil,[],[]⟩ (λx=>vt n x.1 x.2.1 x.2.2.1) (λy=>(y.1,y.2.1)) (λz=>(z.1,(z.2,())))
def qj(n:Nat)(cq:ah)(cH:ak)(cN:aj)(cM:(List Int))(bV:aF)(dA:ae)(dz:Bool):Option (Bool×ah×ak×aj×(List Int)×aF×ae×Bool):=
cn (((bV.iu.length:Int)==0)) (
some (false,cq,cH,cN,cM,bV,dA,dz)) (
gu (cG 0 bV.iu.length)<|
bd (bf n (bV.iu.getD (Int.toNat 0) default)) λax=>
bd (vt n cN ax.1 bV.m0) λaK=>
lt (aK.1:aj) λbC=>
lt (bC:aj) λbO=>
lt (λ(cW:ah) (dO:ak) (cJ:aj) (dR:(List Int)) (gC:aF) (cZ:ae) (dc:Bool)=>
some (true,cW,dO,cJ,dR,gC,cZ,dc)) λOZ=>
cn (aK.2) (
gu (cG 1 (bV.iu.length+1))<|
lt (({bV with iu:=bV.iu.drop (Int.toNat 1)}:aF):aF) λeC=>
OZ cq cH bO cM eC dA dz) (
OZ cq cH bO cM bV dA dz))
def uU(n:Nat):CT:=cV (tC n [(16, .join [(.via 0, .box 153 (.st (.part 1 (.box 127 (.st (.part 952 (.v (.st 18)) (.part 1 (.box 149 (.v (.st 23))) (.part 320 (.v (.st 20)) (.part 1 (.row 3 1 (.int .i64)) .nil)))))) (.part 12 (.v (.st 21)) (.part 3 (.v (.st 0)) (.part 1 (.v .bool) .nil))))))] [])] [bj n,z7 n] []) ⟨54,[],(.cons (.box 153 (.st (.part 1 (.box 127 (.st (.part 952 (.v (.st 18)) (.part 1 (.box 149 (.v (.st 23))) (.part 320 (.v (.st 20)) (.part 1 (.row 3 1 (.int .i64)) .nil)))))) (.part 12 (.v (.st 21)) (.part 3 (.v (.st 0)) (.part 1 (.v .bool) .nil)))))) .nil),(.cons (.v .bool) (.cons (.box 153 (.st (.part 1 (.box 127 (.st (.part 952 (.v (.st 18)) (.part 1 (.box 149 (.v (.st 23))) (.part 320 (.v (.st 20)) (.part 1 (.row 3 1 (.int .i64)) .nil)))))) (.part 12 (.v (.st 21)) (.part 3 (.v (.st 0)) (.part 1 (.v .bool) .nil)))))) .nil)),[some 0,some 1,some 2,none], .nil,[],[[0]]⟩ (λx=>qj n x.1 x.2.1 x.2.2.1 x.2.2.2.1 x.2.2.2.2.1 x.2.2.2.2.2.1 x.2.2.2.2.2.2.1) (λy=>(y.1,y.2.1,y.2.2.1,y.2.2.2.1,y.2.2.2.2.1,y.2.2.2.2.2.1,y.2.2.2.2.2.2.1,y.2.2.2.2.2.2.2.1)) (λz=>(z.1,(z.2.1,(z.2.2.1,(z.2.2.2.1,(z.2.2.2.2.1,(z.2.2.2.2.2.1,(z.2.2.2.2.2.2.1,(z.2.2.2.2.2.2.2,())))))))))
def tQ(n:Nat)(a0:ak)(a1:Int):Option (Int×Int×ak):=
cn (decide (a1<1)) (
some (0,2,a0)) (
bd (vg n a0.vG a1) λax=>
cn ((!ax.2)) (
some (0,6,a0)) (
bd (l9 n a0.vG ax.1 a1) λaK=>
lt (({a0 with vG:=aK.1}:ak):ak) λbC=>
some (ax.1,0,bC)))
def yN(n:Nat):CT:=cV (tC n [] [zV n,zU n] []) ⟨69,[],(.cons (.box 149 (.v (.st 23))) (.cons (.v (.int .i64)) .nil)),(.cons (.gO (.cons (.v (.int .i64)) (.cons (.v (.int .i64)) .nil))) (.cons (.box 149 (.v (.st 23))) .nil)),[some 0], .nil,[],[[0]]⟩ (λx=>tQ n x.1 x.2.1) (λy=>(y.1,y.2.1,y.2.2.1)) (λz=>(z.1,(z.2.1,(z.2.2,()))))
def oS(n:Nat)(cq:ah)(cH:ak)(cN:aj)(cM:(List Int))(bV:aF)(dA:ae)(dz:Bool):Option (Bool×ah×ak×aj×(List Int)×aF×ae×Bool):=
bd (eH n cq bV.m0 bV.C) λax=>
cn (((ax==0)||(decide (0<bV.Hp.N)))) (
some (false,cq,cH,cN,cM,bV,dA,dz)) (
bd (tQ n cH ax) λaK=>
cn ((aK.2.1!=0)) (
bd (fW n cq aK.2.2 cN cM bV dA dz ({bp with E:=aK.2.1}:ae)) λbC=>
some (true,bC.1,bC.2.1,bC.2.2.1,bC.2.2.2.1,bC.2.2.2.2.1,bC.2.2.2.2.2.1,bC.2.2.2.2.2.2)) (
lt (({bV with Hp:=({At:=aK.1,N:=ax}:aq)}:aF):aF) λbO=>
some (true,cq,aK.2.2,cN,cM,bO,dA,dz)))
def ur(n:Nat):CT:=cV (tC n [] [jK n,yN n,jL n] []) ⟨55,[],(.cons (.box 153 (.st (.part 1 (.box 127 (.st (.part 952 (.v (.st 18)) (.part 1 (.box 149 (.v (.st 23))) (.part 320 (.v (.st 20)) (.part 1 (.row 3 1 (.int .i64)) .nil)))))) (.part 12 (.v (.st 21)) (.part 3 (.v (.st 0)) (.part 1 (.v .bool) .nil)))))) .nil),(.cons (.v .bool) (.cons (.box 153 (.st (.part 1 (.box 127 (.st (.part 952 (.v (.st 18)) (.part 1 (.box 149 (.v (.st 23))) (.part 320 (.v (.st 20)) (.part 1 (.row 3 1 (.int .i64)) .nil)))))) (.part 12 (.v (.st 21)) (.part 3 (.v (.st 0)) (.part 1 (.v .bool) .nil)))))) .nil)),[some 0,some 1,some 2,none], .nil,[],[[0]]⟩ (λx=>oS n x.1 x.2.1 x.2.2.1 x.2.2.2.1 x.2.2.2.2.1 x.2.2.2.2.2.1 x.2.2.2.2.2.2.1) (λy=>(y.1,y.2.1,y.2.2.1,y.2.2.2.1,y.2.2.2.2.1,y.2.2.2.2.2.1,y.2.2.2.2.2.2.1,y.2.2.2.2.2.2.2.1)) (λz=>(z.1,(z.2.1,(z.2.2.1,(z.2.2.2.1,(z.2.2.2.2.1,(z.2.2.2.2.2.1,(z.2.2.2.2.2.2.1,(z.2.2.2.2.2.2.2,())))))))))
def tP(n:Nat)(a0:ak)(a1:Int):Option (Int×ak):=
cn (((decide (a1<0))||(decide (a0.n<=a1)))) (
some (2,a0)) (
bd (jT n a0.vG a1) λax=>
cn (ax) (
some (12,a0)) (
gu (cG a1 64)<|
lt (({a0 with bytes:=(mW a0.bytes (Int.toNat a1) (λ_ =>0))}:ak):ak) λaK=>
some (0,aK)))
def yM(n:Nat):CT:=cV (tC n [] [j9 n] []) ⟨70,[],(.cons (.box 149 (.v (.st 23))) (.cons (.v (.int .i64)) .nil)),(.cons (.v (.int .i64)) (.cons (.box 149 (.v (.st 23))) .nil)),[some 0], .nil,[],[[0]]⟩ (λx=>tP n x.1 x.2.1) (λy=>(y.1,y.2.1)) (λz=>(z.1,(z.2,())))
def oR(n:Nat)(cq:ah)(cH:ak)(cN:aj)(cM:(List Int))(bV:aF)(dA:ae)(dz:Bool):Option (Bool×ah×ak×aj×(List Int)×aF×ae×Bool):=
cn (decide (bV.Hp.N<=bV.pq)) (
some (false,cq,cH,cN,cM,bV,dA,dz)) (
bd (tP n cH (wr .i64 (bV.Hp.At+bV.pq))) λax=>
lt (({bV with pq:=wr .i64 (bV.pq+1)}:aF):aF) λaK=>
some (true,cq,ax.2,cN,cM,aK,dA,dz))
def uo(n:Nat):CT:=cV (tC n [] [yM n] []) ⟨56,[],(.cons (.box 153 (.st (.part 1 (.box 127 (.st (.part 952 (.v (.st 18)) (.part 1 (.box 149 (.v (.st 23))) (.part 320 (.v (.st 20)) (.part 1 (.row 3 1 (.int .i64)) .nil)))))) (.part 12 (.v (.st 21)) (.part 3 (.v (.st 0)) (.part 1 (.v .bool) .nil)))))) .nil),(.cons (.v .bool) (.cons (.box 153 (.st (.part 1 (.box 127 (.st (.part 952 (.v (.st 18)) (.part 1 (.box 149 (.v (.st 23))) (.part 320 (.v (.st 20)) (.part 1 (.row 3 1 (.int .i64)) .nil)))))) (.part 12 (.v (.st 21)) (.part 3 (.v (.st 0)) (.part 1 (.v .bool) .nil)))))) .nil)),[some 0,some 1,some 2,some 3], .nil,[],[[0]]⟩ (λx=>oR n x.1 x.2.1 x.2.2.1 x.2.2.2.1 x.2.2.2.2.1 x.2.2.2.2.2.1 x.2.2.2.2.2.2.1) (λy=>(y.1,y.2.1,y.2.2.1,y.2.2.2.1,y.2.2.2.2.1,y.2.2.2.2.2.1,y.2.2.2.2.2.2.1,y.2.2.2.2.2.2.2.1)) (λz=>(z.1,(z.2.1,(z.2.2.1,(z.2.2.2.1,(z.2.2.2.2.1,(z.2.2.2.2.2.1,(z.2.2.2.2.2.2.1,(z.2.2.2.2.2.2.2,())))))))))
def tO(n:Nat)(a0:ak)(a1:Int)(a2:Int):Option (Int×ak):=
cn (decide (a1<0)) (
some (2,a0)) (
cn (((decide ((wr .i64 (Int.tdiv a1 32))<0))||(decide (a0.n<=(wr .i64 (Int.tdiv a1 32)))))) (
some (2,a0)) (
bd (jT n a0.vG (wr .i64 (Int.tdiv a1 32))) λax=>
cn (ax) (
some (12,a0)) (
gu (cG (wr .i64 (Int.tdiv a1 32)) 64)<|
gu (cG (Int.tmod a1 32) 32)<|
lt (({a0 with bytes:=(mW a0.bytes (Int.toNat (wr .i64 (Int.tdiv a1 32))) (mW (a0.bytes (Int.toNat (wr .i64 (Int.tdiv a1 32)))) (Int.toNat (Int.tmod a1 32)) a2))}:ak):ak) λaK=>
some (0,aK))))
def yL(n:Nat):CT:=cV (tC n [] [j9 n] []) ⟨74,[],(.cons (.box 149 (.v (.st 23))) (.cons (.v (.int .i64)) (.cons (.v (.int .u8)) .nil))),(.cons (.v (.int .i64)) (.cons (.box 149 (.v (.st 23))) .nil)),[some 0], .nil,[],[[0]]⟩ (λx=>tO n x.1 x.2.1 x.2.2.1) (λy=>(y.1,y.2.1)) (λz=>(z.1,(z.2,())))
def vl(n:Nat)(a0:ak)(a1:Int):Option (Int×Int):=
cn (decide (a1<0)) (
lt (0:Int) λax=>
some (ax,2)) (
cn (((decide ((wr .i64 (Int.tdiv a1 32))<0))||(decide (a0.n<=(wr .i64 (Int.tdiv a1 32)))))) (
lt (0:Int) λaK=>
some (aK,2)) (
bd (jT n a0.vG (wr .i64 (Int.tdiv a1 32))) λbC=>
cn (bC) (
lt (0:Int) λbO=>
some (bO,12)) (
gu (cG (wr .i64 (Int.tdiv a1 32)) 64)<|
gu (cG (Int.tmod a1 32) 32)<|
lt (((a0.bytes (Int.toNat (wr .i64 (Int.tdiv a1 32)))) (Int.toNat (Int.tmod a1 32))):Int) λcW=>
lt (cW:Int) λdO=>
some (dO,0))))
def zX(n:Nat):CT:=cV (tC n [] [j9 n] []) ⟨76,[(149, .v (.st 23))],(.cons (.bz 0) (.cons (.v (.int .i64)) .nil)),(.cons (.gO (.cons (.v (.int .u8)) (.cons (.v (.int .i64)) .nil))) .nil),[], .nil,[],[]⟩ (λx=>vl n x.1 x.2.1) (λy=>(y.1,y.2.1)) (λz=>(z.1,(z.2,())))
def nY(n:Nat)(cq:ah)(cH:ak)(cN:aj)(cM:(List Int))(bV:aF)(dA:ae)(dz:Bool):Option (Bool×ah×ak×aj×(List Int)×aF×ae×Bool):=
lt (bV.C:aI) λax=>
lt (λ(aK:ah) (bC:ak) (bO:aj) (cW:(List Int)) (dO:aF) (cJ:ae) (dR:Bool)=>
bd (qR n aK ax) λcZ=>
bd (mH n aK dO.m0 ax dO.Hp) λdc=>
lt (dc.1:ah) λgQ=>
lt (dc.2.1:ae) λeC=>
cn ((eC.E !=0)) (
bd (fW n aK bC bO cW dO cJ dR eC) λbM=>
some (true,bM.1,bM.2.1,bM.2.2.1,bM.2.2.2.1,bM.2.2.2.2.1,bM.2.2.2.2.2.1,bM.2.2.2.2.2.2)) (
lt (λ(eP:ah) (iF:ak) (ei:aj) (lR:(List Int)) (fJ:aF) (q9:ae) (gP:Bool) (lJ:ae)=>
lt (gQ:ah) λzT=>
lt (({fJ with Hp:=bZ}:aF):aF) λB0=>
CM (λk51 (yA:Int) (ET:ah) (Ck:ak) (A7:aj) (wu:(List Int))=>
cn (decide (yA<(dc.2.2.length:Int))) (
gu (cG yA dc.2.2.length)<|
lt ((dc.2.2.getD (Int.toNat yA) default):aq) λJg=>
bd (kz n ET Ck A7 wu Jg) λCj=>
k51 (wr .i64 (yA+1)) Cj.1 Cj.2.1 Cj.2.2.1 Cj.2.2.2) (
bd (fW n ET Ck A7 wu B0 q9 gP lJ) λuH=>
some (true,uH.1,uH.2.1,uH.2.2.1,uH.2.2.2.1,uH.2.2.2.2.1,uH.2.2.2.2.2.1,uH.2.2.2.2.2.2))) n 0 zT iF ei lR) λj43=>
cn ((ax.Do==4)) (
Gw (λk63 (wG:Int) (Jf:ah) (Bx:ak) (RH:aj) (Ls:(List Int)) (Ef:aF) (Pe:ae) (Lr:Bool)=>
cn (decide (wG<(cZ.1.length:Int))) (
gu (cG wG cZ.1.length)<|
gu (decide (0<=wr .i64 (8*wG)))<|
bd (tO n Bx (cZ.1.getD (Int.toNat wG) default) (wr .u8 (HY .u64 ax.V (wr .i64 (8*wG))))) λRF=>
k63 (wr .i64 (wG+1)) Jf RF.2 RH Ls Ef Pe Lr) (
j43 Jf Bx RH Ls Ef Pe Lr eC)) n 0 aK bC bO cW dO cJ dR) (
cn ((ax.Do==3)) (
dL (λk67 (yG:Int) (RD:ae)=>
cn (decide (yG<(cZ.1.length:Int))) (
gu (cG yG cZ.1.length)<|
bd (vl n bC (cZ.1.getD (Int.toNat yG) default)) λF8=>
gu (decide (0<=wr .i64 (8*yG)))<|
lt (({RD with V:=ZQ .u64 RD.V (Mj .u64 (wr .u64 F8.1) (wr .i64 (8*yG)))}:ae):ae) λER=>
k67 (wr .i64 (yG+1)) ER) (
j43 aK bC bO cW dO cJ dR RD)) n 0 eC) (
j43 aK bC bO cW dO cJ dR eC)))) λXS=>
cl ((decide (0<bV.Hp.N)==true)) (eH n cq bV.m0 ax) default λZN=>
cn (((decide (0<bV.Hp.N))&&(ZN !=bV.Hp.N))) (
bd (kz n cq cH cN cM bV.Hp) λSM=>
lt (({bV with Hp:=bZ}:aF):aF) λBv=>
XS SM.1 SM.2.1 SM.2.2.1 SM.2.2.2 Bv dA dz) (
XS cq cH cN cM bV dA dz)
def sM(n:Nat):CT:=cV (tC n [(10, .join [(.via 0, .box 153 (.st (.part 1 (.box 127 (.st (.part 952 (.v (.st 18)) (.part 1 (.box 149 (.v (.st 23))) (.part 320 (.v (.st 20)) (.part 1 (.row 3 1 (.int .i64)) .nil)))))) (.part 12 (.v (.st 21)) (.part 3 (.v (.st 0)) (.part 1 (.v .bool) .nil))))))] []),(30, .join [(.via 65, .box 127 (.st (.part 952 (.v (.st 18)) (.part 1 (.box 149 (.v (.st 23))) (.part 320 (.v (.st 20)) (.part 1 (.row 3 1 (.int .i64)) .nil)))))),(.via 0, .box 153 (.st (.part 1 (.bz 0) (.part 12 (.v (.st 21)) (.part 3 (.v (.st 0)) (.part 1 (.v .bool) .nil)))))),(.via 7, .box 62 (.v (.st 0)))] []),(35, .loop [(.slot 130, .v (.int .i64)),(.via 65, .box 127 (.st (.part 952 (.v (.st 18)) (.part 1 (.box 149 (.v (.st 23))) (.part 320 (.v (.st 20)) (.part 1 (.row 3 1 (.int .i64)) .nil))))))]),(1100000003, .loop [(.slot 10, .v (.int .i64)),(.via 0, .box 153 (.st (.part 1 (.box 127 (.st (.part 952 (.v (.st 18)) (.part 1 (.box 149 (.v (.st 23))) (.part 320 (.v (.st 20)) (.part 1 (.row 3 1 (.int .i64)) .nil)))))) (.part 12 (.v (.st 21)) (.part 3 (.v (.st 0)) (.part 1 (.v .bool) .nil))))))]),(1160000003, .loop [(.slot 10, .v (.int .i64)),(.cap 2 1, .box 62 (.v (.st 0)))])] [wM n,rN n,jL n,qI n,yL n,zX n,jK n] []) ⟨57,[],(.cons (.box 153 (.st (.part 1 (.box 127 (.st (.part 952 (.v (.st 18)) (.part 1 (.box 149 (.v (.st 23))) (.part 320 (.v (.st 20)) (.part 1 (.row 3 1 (.int .i64)) .nil)))))) (.part 12 (.v (.st 21)) (.part 3 (.v (.st 0)) (.part 1 (.v .bool) .nil)))))) .nil),(.cons (.v .bool) (.cons (.box 153 (.st (.part 1 (.box 127 (.st (.part 952 (.v (.st 18)) (.part 1 (.box 149 (.v (.st 23))) (.part 320 (.v (.st 20)) (.part 1 (.row 3 1 (.int .i64)) .nil)))))) (.part 12 (.v (.st 21)) (.part 3 (.v (.st 0)) (.part 1 (.v .bool) .nil)))))) .nil)),[some 0,some 1,some 2,none], .nil,[],[[0]]⟩ (λx=>nY n x.1 x.2.1 x.2.2.1 x.2.2.2.1 x.2.2.2.2.1 x.2.2.2.2.2.1 x.2.2.2.2.2.2.1) (λy=>(y.1,y.2.1,y.2.2.1,y.2.2.2.1,y.2.2.2.2.1,y.2.2.2.2.2.1,y.2.2.2.2.2.2.1,y.2.2.2.2.2.2.2.1)) (λz=>(z.1,(z.2.1,(z.2.2.1,(z.2.2.2.1,(z.2.2.2.2.1,(z.2.2.2.2.2.1,(z.2.2.2.2.2.2.1,(z.2.2.2.2.2.2.2,())))))))))
def vN(n:Nat)(cq:ah)(cH:ak)(cN:aj)(cM:(List Int))(a1:aF):Option (aF×ae×Bool×ah×ak×aj×(List Int)):=
lt (λ(ax:ah) (aK:ak) (bC:aj) (bO:(List Int)) (cW:aF) (dO:ae) (cJ:Bool)=>
lt (cW:aF) λgC=>
lt (dO:ae) λcZ=>
some (gC,cZ,cJ,ax,aK,bC,bO)) λVR=>
bd (qm n cq cH cN cM a1 bp false) λdc=>
cn (dc.1) (
VR dc.2.1 dc.2.2.1 dc.2.2.2.1 dc.2.2.2.2.1 dc.2.2.2.2.2.1 dc.2.2.2.2.2.2.1 dc.2.2.2.2.2.2.2) (
bd (qj n dc.2.1 dc.2.2.1 dc.2.2.2.1 dc.2.2.2.2.1 dc.2.2.2.2.2.1 dc.2.2.2.2.2.2.1 dc.2.2.2.2.2.2.2) λgQ=>
cn (gQ.1) (
VR gQ.2.1 gQ.2.2.1 gQ.2.2.2.1 gQ.2.2.2.2.1 gQ.2.2.2.2.2.1 gQ.2.2.2.2.2.2.1 gQ.2.2.2.2.2.2.2) (
bd (oS n gQ.2.1 gQ.2.2.1 gQ.2.2.2.1 gQ.2.2.2.2.1 gQ.2.2.2.2.2.1 gQ.2.2.2.2.2.2.1 gQ.2.2.2.2.2.2.2) λeC=>
cn (eC.1) (
VR eC.2.1 eC.2.2.1 eC.2.2.2.1 eC.2.2.2.2.1 eC.2.2.2.2.2.1 eC.2.2.2.2.2.2.1 eC.2.2.2.2.2.2.2) (
bd (oR n eC.2.1 eC.2.2.1 eC.2.2.2.1 eC.2.2.2.2.1 eC.2.2.2.2.2.1 eC.2.2.2.2.2.2.1 eC.2.2.2.2.2.2.2) λbM=>
cn (bM.1) (
VR bM.2.1 bM.2.2.1 bM.2.2.2.1 bM.2.2.2.2.1 bM.2.2.2.2.2.1 bM.2.2.2.2.2.2.1 bM.2.2.2.2.2.2.2) (
bd (nY n bM.2.1 bM.2.2.1 bM.2.2.2.1 bM.2.2.2.2.1 bM.2.2.2.2.2.1 bM.2.2.2.2.2.2.1 bM.2.2.2.2.2.2.2) λeP=>
cn (eP.1) (
VR eP.2.1 eP.2.2.1 eP.2.2.2.1 eP.2.2.2.2.1 eP.2.2.2.2.2.1 eP.2.2.2.2.2.2.1 eP.2.2.2.2.2.2.2) (
VR eP.2.1 eP.2.2.1 eP.2.2.2.1 eP.2.2.2.2.1 eP.2.2.2.2.2.1 eP.2.2.2.2.2.2.1 eP.2.2.2.2.2.2.2)))))
def Ac(n:Nat):CT:=cV (tC n [(14, .join [(.via 7, .box 153 (.st (.part 1 (.box 127 (.st (.part 952 (.v (.st 18)) (.part 1 (.box 149 (.v (.st 23))) (.part 320 (.v (.st 20)) (.part 1 (.row 3 1 (.int .i64)) .nil)))))) (.part 12 (.v (.st 21)) (.part 3 (.v (.st 0)) (.part 1 (.v .bool) .nil))))))] []),(7, .EZ)] [uV n,uU n,ur n,uo n,sM n] []) ⟨48,[],(.cons (.box 127 (.st (.part 952 (.v (.st 18)) (.part 1 (.box 149 (.v (.st 23))) (.part 320 (.v (.st 20)) (.part 1 (.row 3 1 (.int .i64)) .nil)))))) (.cons (.v (.st 21)) .nil)),(.cons (.gO (.cons (.v (.st 21)) (.cons (.v (.st 0)) (.cons (.v .bool) .nil)))) (.cons (.box 127 (.st (.part 952 (.v (.st 18)) (.part 1 (.box 149 (.v (.st 23))) (.part 320 (.v (.st 20)) (.part 1 (.row 3 1 (.int .i64)) .nil)))))) .nil)),[some 0,some 1,none], .nil,[],[[0]]⟩ (λx=>vN n x.1 x.2.1 x.2.2.1 x.2.2.2.1 x.2.2.2.2.1) (λy=>(y.1,y.2.1,y.2.2.1,y.2.2.2.1,y.2.2.2.2.1,y.2.2.2.2.2.1,y.2.2.2.2.2.2.1)) (λz=>(z.1,(z.2.1,(z.2.2.1,(z.2.2.2.1,(z.2.2.2.2.1,(z.2.2.2.2.2.1,(z.2.2.2.2.2.2,()))))))))
def sX(n:Nat)(cq:ah)(cH:ak)(cN:aj)(cM:(List Int))(bV:Int)(a1:aI):Option (ae×ah×ak×aj×(List Int)×Int):=
lt (({({gT with m0:=bV}:aF)with C:=a1}:aF):aF) λax=>
Gx (λXK (aK:ae) (bC:ah) (bO:ak) (cW:aj) (dO:(List Int)) (cJ:Int) (dR:aF)=>
cl (((!dR.Checked)==true)) (xT n bC cJ a1) default λcZ=>
cn (((!dR.Checked)&&cZ)) (
cn ((a1.Do==15)) (
lt (({bp with E:=10}:ae):ae) λdc=>
some (dc,bC,bO,cW,dO,cJ)) (
lt (({bp with E:=12}:ae):ae) λgQ=>
some (gQ,bC,bO,cW,dO,cJ))) (
bd (vN n bC bO cW dO dR) λeC=>
lt (eC.1:aF) λbM=>
lt (eC.2.1:ae) λeP=>
cn (eC.2.2.1) (
lt (eP:ae) λiF=>
some (iF,eC.2.2.2.1,eC.2.2.2.2.1,eC.2.2.2.2.2.1,eC.2.2.2.2.2.2,cJ)) (
cn (((dR.Checked&&((bM.iu.length:Int)==(dR.iu.length:Int)))&&(decide (0<(dR.iu.length:Int))))) (
bd (rF n eC.2.2.2.1 eC.2.2.2.2.1 eC.2.2.2.2.2.1 eC.2.2.2.2.2.2 dR) λei=>
lt (({bp with E:=12}:ae):ae) λlR=>
some (lR,ei.1,ei.2.1,ei.2.2.1,ei.2.2.2,cJ)) (
lt (bM:aF) λfJ=>
XK aK eC.2.2.2.1 eC.2.2.2.2.1 eC.2.2.2.2.2.1 eC.2.2.2.2.2.2 cJ fJ)))) n bp cq cH cN cM bV ax
def Cp(n:Nat):CT:=cV (tC n [(5, .loop [(.via 4, .box 62 (.v (.st 0))),(.via 0, .box 79 (.st (.part 1 (.box 127 (.st (.part 952 (.v (.st 18)) (.part 1 (.box 149 (.v (.st 23))) (.part 320 (.v (.st 20)) (.part 1 (.row 3 1 (.int .i64)) .nil)))))) (.part 1 (.v (.int .i64)) .nil)))),(.via 5, .box 137 (.v (.st 21)))])] [yO n,Ac n,tI n] []) ⟨42,[],(.cons (.box 79 (.st (.part 1 (.box 127 (.st (.part 952 (.v (.st 18)) (.part 1 (.box 149 (.v (.st 23))) (.part 320 (.v (.st 20)) (.part 1 (.row 3 1 (.int .i64)) .nil)))))) (.part 1 (.v (.int .i64)) .nil)))) (.cons (.v (.st 1)) .nil)),(.cons (.v (.st 0)) (.cons (.box 79 (.st (.part 1 (.box 127 (.st (.part 952 (.v (.st 18)) (.part 1 (.box 149 (.v (.st 23))) (.part 320 (.v (.st 20)) (.part 1 (.row 3 1 (.int .i64)) .nil)))))) (.part 1 (.v (.int .i64)) .nil)))) .nil)),[some 0,some 1,some 2,none], .nil,[],[[0]]⟩ (λx=>sX n x.1 x.2.1 x.2.2.1 x.2.2.2.1 x.2.2.2.2.1 x.2.2.2.2.2.1) (λy=>(y.1,y.2.1,y.2.2.1,y.2.2.2.1,y.2.2.2.2.1,y.2.2.2.2.2.1)) (λz=>(z.1,(z.2.1,(z.2.2.1,(z.2.2.2.1,(z.2.2.2.2.1,(z.2.2.2.2.2,())))))))
def vm(n:Nat)(a0:ak)(a1:Int):Option (Int×ak):=
cn (((decide (a1<0))||(decide (a0.n<=a1)))) (
some (2,a0)) (
bd (jT n a0.vG a1) λax=>
cn (ax) (
some (12,a0)) (
gu (cG a1 64)<|
bd (p6 n a0.vG a1 1) λaK=>
lt (({a0 with vG:=aK.1}:ak):ak) λbC=>
some (0,bC)))
def zY(n:Nat):CT:=cV (tC n [] [j9 n,rL n] []) ⟨50,[],(.cons (.box 149 (.v (.st 23))) (.cons (.v (.int .i64)) .nil)),(.cons (.v (.int .i64)) (.cons (.box 149 (.v (.st 23))) .nil)),[some 0], .nil,[],[[0]]⟩ (λx=>vm n x.1 x.2.1) (λy=>(y.1,y.2.1)) (λz=>(z.1,(z.2,())))
def vO(n:Nat)(cq:ah)(cH:ak)(cN:aj)(cM:(List Int)):Option (Bool×ah×ak×aj×(List Int)):=
cn (((cM.length:Int)==0)) (
some (false,cq,cH,cN,cM)) (
gu (cG 0 cM.length)<|
bd (vm n cH (cM.getD (Int.toNat 0) default)) λax=>
gu (cG 1 (cM.length+1))<|
some (true,cq,ax.2,cN,cM.drop (Int.toNat 1)))
def Ad(n:Nat):CT:=cV (tC n [(1000025, .EZ)] [zY n] []) ⟨43,[],(.cons (.box 127 (.st (.part 952 (.v (.st 18)) (.part 1 (.box 149 (.v (.st 23))) (.part 320 (.v (.st 20)) (.part 1 (.row 3 1 (.int .i64)) .nil)))))) .nil),(.cons (.v .bool) (.cons (.box 127 (.st (.part 952 (.v (.st 18)) (.part 1 (.box 149 (.v (.st 23))) (.part 320 (.v (.st 20)) (.part 1 (.row 3 1 (.int .i64)) .nil)))))) .nil)),[some 0,some 1,none], .nil,[],[[0]]⟩ (λx=>vO n x.1 x.2.1 x.2.2.1 x.2.2.2.1) (λy=>(y.1,y.2.1,y.2.2.1,y.2.2.2.1,y.2.2.2.2.1)) (λz=>(z.1,(z.2.1,(z.2.2.1,(z.2.2.2.1,(z.2.2.2.2,()))))))
def mI(n:Nat)(cq:ah)(cH:ak)(cN:aj)(cM:(List Int))(bV:Int)(a1:aI):Option (ae×ah×ak×aj×(List Int)×Int):=
bd (sX n cq cH cN cM bV a1) λax=>
lt (ax.1:ae) λaK=>
lt (λ(bC:ah) (bO:ak) (cW:aj) (dO:(List Int)) (cJ:Int) (dR:ae)=>
lt (dR:ae) λcZ=>
some (cZ,bC,bO,cW,dO,cJ)) λXS=>
cn (((aK.E==6)&&(decide (0<(ax.2.2.2.2.1.length:Int))))) (
CM (λk36 (dc:ah) (gQ:ak) (eC:aj) (bM:(List Int)) (eP:Int)=>
bd (vO n dc gQ eC bM) λei=>
cn (ei.1) (
k36 ei.2.1 ei.2.2.1 ei.2.2.2.1 ei.2.2.2.2 eP) (
bd (sX n ei.2.1 ei.2.2.1 ei.2.2.2.1 ei.2.2.2.2 eP a1) λlR=>
lt (lR.1:ae) λfJ=>
XS lR.2.1 lR.2.2.1 lR.2.2.2.1 lR.2.2.2.2.1 lR.2.2.2.2.2 fJ)) n ax.2.1 ax.2.2.1 ax.2.2.2.1 ax.2.2.2.2.1 ax.2.2.2.2.2) (
XS ax.2.1 ax.2.2.1 ax.2.2.2.1 ax.2.2.2.2.1 ax.2.2.2.2.2 aK)
def pO(n:Nat):CT:=cV (tC n [(14, .join [(.via 0, .box 79 (.st (.part 1 (.box 127 (.st (.part 952 (.v (.st 18)) (.part 1 (.box 149 (.v (.st 23))) (.part 320 (.v (.st 20)) (.part 1 (.row 3 1 (.int .i64)) .nil)))))) (.part 1 (.v (.int .i64)) .nil)))),(.via 5, .box 62 (.v (.st 0)))] []),(11, .loop [(.via 0, .box 79 (.st (.part 1 (.box 127 (.st (.part 952 (.v (.st 18)) (.part 1 (.box 149 (.v (.st 23))) (.part 320 (.v (.st 20)) (.part 1 (.row 3 1 (.int .i64)) .nil)))))) (.part 1 (.v (.int .i64)) .nil))))])] [Cp n,Ad n] []) ⟨29,[],(.cons (.box 79 (.st (.part 1 (.box 127 (.st (.part 952 (.v (.st 18)) (.part 1 (.box 149 (.v (.st 23))) (.part 320 (.v (.st 20)) (.part 1 (.row 3 1 (.int .i64)) .nil)))))) (.part 1 (.v (.int .i64)) .nil)))) (.cons (.v (.st 1)) .nil)),(.cons (.v (.st 0)) (.cons (.box 79 (.st (.part 1 (.box 127 (.st (.part 952 (.v (.st 18)) (.part 1 (.box 149 (.v (.st 23))) (.part 320 (.v (.st 20)) (.part 1 (.row 3 1 (.int .i64)) .nil)))))) (.part 1 (.v (.int .i64)) .nil)))) .nil)),[some 0,some 1,some 2,none], .nil,[],[[0]]⟩ (λx=>mI n x.1 x.2.1 x.2.2.1 x.2.2.2.1 x.2.2.2.2.1 x.2.2.2.2.2.1) (λy=>(y.1,y.2.1,y.2.2.1,y.2.2.2.1,y.2.2.2.2.1,y.2.2.2.2.2.1)) (λz=>(z.1,(z.2.1,(z.2.2.1,(z.2.2.2.1,(z.2.2.2.2.1,(z.2.2.2.2.2,())))))))
def o4(n:Nat)(cq:ah)(cH:ak)(cN:aj)(cM:(List Int))(bV:Int)(a1:Int)(a2:Int)(a3:Int)(a4:Int)(a5:Int):Option (ae×ah×ak×aj×(List Int)×Int):=
bd (g6 n a3) λax=>
bd (g6 n a4) λaK=>
cn (((!ax.2)||(!aK.2))) (
lt (({bp with E:=2}:ae):ae) λbC=>
some (bC,cq,cH,cN,cM,bV)) (
bd (mI n cq cH cN cM bV ({({({({({dm with Do:=a1}:aI)with R:=a2}:aI)with A:=ax.1}:aI)with B:=aK.1}:aI)with V:=a5}:aI)) λbO=>
lt (bO.1:ae) λcW=>
some (cW,bO.2.1,bO.2.2.1,bO.2.2.2.1,bO.2.2.2.2.1,bO.2.2.2.2.2))
def pN(n:Nat):CT:=cV (tC n [] [yS n,pO n] []) ⟨37,[],(.cons (.box 79 (.st (.part 1 (.box 127 (.st (.part 952 (.v (.st 18)) (.part 1 (.box 149 (.v (.st 23))) (.part 320 (.v (.st 20)) (.part 1 (.row 3 1 (.int .i64)) .nil)))))) (.part 1 (.v (.int .i64)) .nil)))) (.cons (.v (.int .u8)) (.cons (.v (.int .u32)) (.cons (.v (.int .i64)) (.cons (.v (.int .i64)) (.cons (.v (.int .u64)) .nil)))))),(.cons (.v (.st 0)) (.cons (.box 79 (.st (.part 1 (.box 127 (.st (.part 952 (.v (.st 18)) (.part 1 (.box 149 (.v (.st 23))) (.part 320 (.v (.st 20)) (.part 1 (.row 3 1 (.int .i64)) .nil)))))) (.part 1 (.v (.int .i64)) .nil)))) .nil)),[some 0,some 1,some 2,none], .nil,[],[[0]]⟩ (λx=>o4 n x.1 x.2.1 x.2.2.1 x.2.2.2.1 x.2.2.2.2.1 x.2.2.2.2.2.1 x.2.2.2.2.2.2.1 x.2.2.2.2.2.2.2.1 x.2.2.2.2.2.2.2.2.1 x.2.2.2.2.2.2.2.2.2.1) (λy=>(y.1,y.2.1,y.2.2.1,y.2.2.2.1,y.2.2.2.2.1,y.2.2.2.2.2.1)) (λz=>(z.1,(z.2.1,(z.2.2.1,(z.2.2.2.1,(z.2.2.2.2.1,(z.2.2.2.2.2,())))))))
def gi(n:Nat)(cq:ah)(cH:ak)(cN:aj)(cM:(List Int))(bV:Int)(a1:Int)(a2:Int)(a3:Int):Option (Int×Int×ah×ak×aj×(List Int)×Int):=
bd (o4 n cq cH cN cM bV 2 a1 a2 a3 0) λax=>
lt (ax.1:ae) λaK=>
some (wr .i64 aK.V,aK.E,ax.2.1,ax.2.2.1,ax.2.2.2.1,ax.2.2.2.2.1,ax.2.2.2.2.2)
def oq(n:Nat):CT:=cV (tC n [] [pN n] []) ⟨15,[],(.cons (.box 79 (.st (.part 1 (.box 127 (.st (.part 952 (.v (.st 18)) (.part 1 (.box 149 (.v (.st 23))) (.part 320 (.v (.st 20)) (.part 1 (.row 3 1 (.int .i64)) .nil)))))) (.part 1 (.v (.int .i64)) .nil)))) (.cons (.v (.int .u32)) (.cons (.v (.int .i64)) (.cons (.v (.int .i64)) .nil)))),(.cons (.gO (.cons (.v (.int .i64)) (.cons (.v (.int .i64)) .nil))) (.cons (.box 79 (.st (.part 1 (.box 127 (.st (.part 952 (.v (.st 18)) (.part 1 (.box 149 (.v (.st 23))) (.part 320 (.v (.st 20)) (.part 1 (.row 3 1 (.int .i64)) .nil)))))) (.part 1 (.v (.int .i64)) .nil)))) .nil)),[some 0,some 1,some 2,none], .nil,[],[[0]]⟩ (λx=>gi n x.1 x.2.1 x.2.2.1 x.2.2.2.1 x.2.2.2.2.1 x.2.2.2.2.2.1 x.2.2.2.2.2.2.1 x.2.2.2.2.2.2.2.1) (λy=>(y.1,y.2.1,y.2.2.1,y.2.2.2.1,y.2.2.2.2.1,y.2.2.2.2.2.1,y.2.2.2.2.2.2.1)) (λz=>(z.1,(z.2.1,(z.2.2.1,(z.2.2.2.1,(z.2.2.2.2.1,(z.2.2.2.2.2.1,(z.2.2.2.2.2.2,()))))))))
def zh(n:Nat)(cq:ah)(cH:ak)(cN:aj)(cM:(List Int))(bV:Int)(a1:Int)(a2:Int):Option (Int×Int×ah×ak×aj×(List Int)×Int):=
bd (o4 n cq cH cN cM bV 3 a1 a2 8 0) λax=>
lt (ax.1:ae) λaK=>
some (aK.V,aK.E,ax.2.1,ax.2.2.1,ax.2.2.2.1,ax.2.2.2.2.1,ax.2.2.2.2.2)
def Cq(n:Nat):CT:=cV (tC n [] [pN n] []) ⟨38,[],(.cons (.box 79 (.st (.part 1 (.box 127 (.st (.part 952 (.v (.st 18)) (.part 1 (.box 149 (.v (.st 23))) (.part 320 (.v (.st 20)) (.part 1 (.row 3 1 (.int .i64)) .nil)))))) (.part 1 (.v (.int .i64)) .nil)))) (.cons (.v (.int .u32)) (.cons (.v (.int .i64)) .nil))),(.cons (.gO (.cons (.v (.int .u64)) (.cons (.v (.int .i64)) .nil))) (.cons (.box 79 (.st (.part 1 (.box 127 (.st (.part 952 (.v (.st 18)) (.part 1 (.box 149 (.v (.st 23))) (.part 320 (.v (.st 20)) (.part 1 (.row 3 1 (.int .i64)) .nil)))))) (.part 1 (.v (.int .i64)) .nil)))) .nil)),[some 0,some 1,some 2,none], .nil,[],[[0]]⟩ (λx=>zh n x.1 x.2.1 x.2.2.1 x.2.2.2.1 x.2.2.2.2.1 x.2.2.2.2.2.1 x.2.2.2.2.2.2.1) (λy=>(y.1,y.2.1,y.2.2.1,y.2.2.2.1,y.2.2.2.2.1,y.2.2.2.2.2.1,y.2.2.2.2.2.2.1)) (λz=>(z.1,(z.2.1,(z.2.2.1,(z.2.2.2.1,(z.2.2.2.2.1,(z.2.2.2.2.2.1,(z.2.2.2.2.2.2,()))))))))
def eW(n:Nat)(cq:ah)(cH:ak)(cN:aj)(cM:(List Int))(bV:Int)(dA:Int)(dz:Int)(AI:Int)(a1:Int):Option (Int×ah×ak×aj×(List Int)×Int×Int×Int×Int):=
cn ((AI !=0)) (
some (0,cq,cH,cN,cM,bV,dA,dz,AI)) (
bd (zh n cq cH cN cM bV dA a1) λax=>
lt (ax.2.1:Int) λaK=>
some (ax.1,ax.2.2.1,ax.2.2.2.1,ax.2.2.2.2.1,ax.2.2.2.2.2.1,ax.2.2.2.2.2.2,dA,dz,aK))
def iz(n:Nat):CT:=cV (tC n [] [Cq n] []) ⟨21,[],(.cons (.box 52 (.st (.part 3 (.st (.part 1 (.box 79 (.st (.part 1 (.box 127 (.st (.part 952 (.v (.st 18)) (.part 1 (.box 149 (.v (.st 23))) (.part 320 (.v (.st 20)) (.part 1 (.row 3 1 (.int .i64)) .nil)))))) (.part 1 (.v (.int .i64)) .nil)))) (.part 1 (.v (.int .u32)) (.part 1 (.v (.int .i64)) .nil)))) (.part 1 (.v (.int .i64)) .nil)))) (.cons (.v (.int .i64)) .nil)),(.cons (.v (.int .u64)) (.cons (.box 52 (.st (.part 3 (.st (.part 1 (.box 79 (.st (.part 1 (.box 127 (.st (.part 952 (.v (.st 18)) (.part 1 (.box 149 (.v (.st 23))) (.part 320 (.v (.st 20)) (.part 1 (.row 3 1 (.int .i64)) .nil)))))) (.part 1 (.v (.int .i64)) .nil)))) (.part 1 (.v (.int .u32)) (.part 1 (.v (.int .i64)) .nil)))) (.part 1 (.v (.int .i64)) .nil)))) .nil)),[some 0,some 1,some 2,some 3,none], .nil,[],[[0]]⟩ (λx=>eW n x.1 x.2.1 x.2.2.1 x.2.2.2.1 x.2.2.2.2.1 x.2.2.2.2.2.1 x.2.2.2.2.2.2.1 x.2.2.2.2.2.2.2.1 x.2.2.2.2.2.2.2.2.1) (λy=>(y.1,y.2.1,y.2.2.1,y.2.2.2.1,y.2.2.2.2.1,y.2.2.2.2.2.1,y.2.2.2.2.2.2.1,y.2.2.2.2.2.2.2.1,y.2.2.2.2.2.2.2.2.1)) (λz=>(z.1,(z.2.1,(z.2.2.1,(z.2.2.2.1,(z.2.2.2.2.1,(z.2.2.2.2.2.1,(z.2.2.2.2.2.2.1,(z.2.2.2.2.2.2.2.1,(z.2.2.2.2.2.2.2.2,()))))))))))
def bU(n:Nat)(cq:ah)(cH:ak)(cN:aj)(cM:(List Int))(bV:Int)(dA:Int)(dz:Int)(AI:Int)(a1:Int):Option (Int×ah×ak×aj×(List Int)×Int×Int×Int×Int):=
bd (eW n cq cH cN cM bV dA dz AI (wr .i64 (dz+a1))) λax=>
some (ax.1,ax.2.1,ax.2.2.1,ax.2.2.2.1,ax.2.2.2.2.1,ax.2.2.2.2.2.1,ax.2.2.2.2.2.2.1,ax.2.2.2.2.2.2.2.1,ax.2.2.2.2.2.2.2.2)
def dY(n:Nat):CT:=cV (tC n [] [iz n] []) ⟨18,[],(.cons (.box 52 (.st (.part 3 (.st (.part 1 (.box 79 (.st (.part 1 (.box 127 (.st (.part 952 (.v (.st 18)) (.part 1 (.box 149 (.v (.st 23))) (.part 320 (.v (.st 20)) (.part 1 (.row 3 1 (.int .i64)) .nil)))))) (.part 1 (.v (.int .i64)) .nil)))) (.part 1 (.v (.int .u32)) (.part 1 (.v (.int .i64)) .nil)))) (.part 1 (.v (.int .i64)) .nil)))) (.cons (.v (.int .i64)) .nil)),(.cons (.v (.int .u64)) (.cons (.box 52 (.st (.part 3 (.st (.part 1 (.box 79 (.st (.part 1 (.box 127 (.st (.part 952 (.v (.st 18)) (.part 1 (.box 149 (.v (.st 23))) (.part 320 (.v (.st 20)) (.part 1 (.row 3 1 (.int .i64)) .nil)))))) (.part 1 (.v (.int .i64)) .nil)))) (.part 1 (.v (.int .u32)) (.part 1 (.v (.int .i64)) .nil)))) (.part 1 (.v (.int .i64)) .nil)))) .nil)),[some 0,some 1,some 2,some 3,none], .nil,[],[[0]]⟩ (λx=>bU n x.1 x.2.1 x.2.2.1 x.2.2.2.1 x.2.2.2.2.1 x.2.2.2.2.2.1 x.2.2.2.2.2.2.1 x.2.2.2.2.2.2.2.1 x.2.2.2.2.2.2.2.2.1) (λy=>(y.1,y.2.1,y.2.2.1,y.2.2.2.1,y.2.2.2.2.1,y.2.2.2.2.2.1,y.2.2.2.2.2.2.1,y.2.2.2.2.2.2.2.1,y.2.2.2.2.2.2.2.2.1)) (λz=>(z.1,(z.2.1,(z.2.2.1,(z.2.2.2.1,(z.2.2.2.2.1,(z.2.2.2.2.2.1,(z.2.2.2.2.2.2.1,(z.2.2.2.2.2.2.2.1,(z.2.2.2.2.2.2.2.2,()))))))))))
def iH(n:Nat)(cq:ah)(cH:ak)(cN:aj)(cM:(List Int))(bV:Int)(dA:Int)(dz:Int):Option (Int×Int×ah×ak×aj×(List Int)×Int×Int×Int):=
bd (bU n cq cH cN cM bV dA dz 0 16) λax=>
lt (wr .i64 ax.1:Int) λaK=>
lt (aK:Int) λbC=>
some (bC,ax.2.2.2.2.2.2.2.2,ax.2.1,ax.2.2.1,ax.2.2.2.1,ax.2.2.2.2.1,ax.2.2.2.2.2.1,dA,dz)
def tE(n:Nat):CT:=cV (tC n [] [dY n] []) ⟨5,[],(.cons (.st (.part 1 (.box 79 (.st (.part 1 (.box 127 (.st (.part 952 (.v (.st 18)) (.part 1 (.box 149 (.v (.st 23))) (.part 320 (.v (.st 20)) (.part 1 (.row 3 1 (.int .i64)) .nil)))))) (.part 1 (.v (.int .i64)) .nil)))) (.part 1 (.v (.int .u32)) (.part 1 (.v (.int .i64)) .nil)))) .nil),(.cons (.gO (.cons (.v (.int .i64)) (.cons (.v (.int .i64)) .nil))) (.cons (.st (.part 1 (.box 79 (.st (.part 1 (.box 127 (.st (.part 952 (.v (.st 18)) (.part 1 (.box 149 (.v (.st 23))) (.part 320 (.v (.st 20)) (.part 1 (.row 3 1 (.int .i64)) .nil)))))) (.part 1 (.v (.int .i64)) .nil)))) (.part 1 (.v (.int .u32)) (.part 1 (.v (.int .i64)) .nil)))) .nil)),[some 0,some 1,some 2,none], .nil,[],[[0]]⟩ (λx=>iH n x.1 x.2.1 x.2.2.1 x.2.2.2.1 x.2.2.2.2.1 x.2.2.2.2.2.1 x.2.2.2.2.2.2.1) (λy=>(y.1,y.2.1,y.2.2.1,y.2.2.2.1,y.2.2.2.2.1,y.2.2.2.2.2.1,y.2.2.2.2.2.2.1,y.2.2.2.2.2.2.2.1,y.2.2.2.2.2.2.2.2.1)) (λz=>(z.1,(z.2.1,(z.2.2.1,(z.2.2.2.1,(z.2.2.2.2.1,(z.2.2.2.2.2.1,(z.2.2.2.2.2.2.1,(z.2.2.2.2.2.2.2.1,(z.2.2.2.2.2.2.2.2,()))))))))))
def o5(n:Nat)(a0:Int):Option Int:=
cn (((a0==0)||(decide (4294967296<a0)))) (
some ((-1))) (
some (wr .i64 (wr .u64 (a0-1))))
def rO(n:Nat):CT:=cV (tC n [] [] []) ⟨20,[],(.cons (.v (.int .u64)) .nil),(.cons (.v (.int .i64)) .nil),[], .nil,[],[]⟩ (λx=>o5 n x.1) (λy=>(y.1)) (λz=>(z,()))
def Ba(n:Nat)(cq:ah)(cH:ak)(cN:aj)(cM:(List Int))(bV:Int)(a1:Int)(a2:Int)(a3:Int):Option (Int×ah×ak×aj×(List Int)×Int):=
bd (o4 n cq cH cN cM bV 4 a1 a2 8 a3) λax=>
some (ax.1.E,ax.2.1,ax.2.2.1,ax.2.2.2.1,ax.2.2.2.2.1,ax.2.2.2.2.2)
def DQ(n:Nat):CT:=cV (tC n [] [pN n] []) ⟨39,[],(.cons (.box 79 (.st (.part 1 (.box 127 (.st (.part 952 (.v (.st 18)) (.part 1 (.box 149 (.v (.st 23))) (.part 320 (.v (.st 20)) (.part 1 (.row 3 1 (.int .i64)) .nil)))))) (.part 1 (.v (.int .i64)) .nil)))) (.cons (.v (.int .u32)) (.cons (.v (.int .i64)) (.cons (.v (.int .u64)) .nil)))),(.cons (.v (.int .i64)) (.cons (.box 79 (.st (.part 1 (.box 127 (.st (.part 952 (.v (.st 18)) (.part 1 (.box 149 (.v (.st 23))) (.part 320 (.v (.st 20)) (.part 1 (.row 3 1 (.int .i64)) .nil)))))) (.part 1 (.v (.int .i64)) .nil)))) .nil)),[some 0,some 1,some 2,none], .nil,[],[[0]]⟩ (λx=>Ba n x.1 x.2.1 x.2.2.1 x.2.2.2.1 x.2.2.2.2.1 x.2.2.2.2.2.1 x.2.2.2.2.2.2.1 x.2.2.2.2.2.2.2.1) (λy=>(y.1,y.2.1,y.2.2.1,y.2.2.2.1,y.2.2.2.2.1,y.2.2.2.2.2.1)) (λz=>(z.1,(z.2.1,(z.2.2.1,(z.2.2.2.1,(z.2.2.2.2.1,(z.2.2.2.2.2,())))))))
def dI(n:Nat)(cq:ah)(cH:ak)(cN:aj)(cM:(List Int))(bV:Int)(dA:Int)(dz:Int)(AI:Int)(a1:Int)(a2:Int):Option (ah×ak×aj×(List Int)×Int×Int×Int×Int):=
cn ((AI==0)) (
bd (Ba n cq cH cN cM bV dA a1 a2) λax=>
lt (ax.1:Int) λaK=>
some (ax.2.1,ax.2.2.1,ax.2.2.2.1,ax.2.2.2.2.1,ax.2.2.2.2.2,dA,dz,aK)) (
some (cq,cH,cN,cM,bV,dA,dz,AI))
def iy(n:Nat):CT:=cV (tC n [] [DQ n] []) ⟨22,[],(.cons (.box 52 (.st (.part 3 (.st (.part 1 (.box 79 (.st (.part 1 (.box 127 (.st (.part 952 (.v (.st 18)) (.part 1 (.box 149 (.v (.st 23))) (.part 320 (.v (.st 20)) (.part 1 (.row 3 1 (.int .i64)) .nil)))))) (.part 1 (.v (.int .i64)) .nil)))) (.part 1 (.v (.int .u32)) (.part 1 (.v (.int .i64)) .nil)))) (.part 1 (.v (.int .i64)) .nil)))) (.cons (.v (.int .i64)) (.cons (.v (.int .u64)) .nil))),(.cons (.gO .nil) (.cons (.box 52 (.st (.part 3 (.st (.part 1 (.box 79 (.st (.part 1 (.box 127 (.st (.part 952 (.v (.st 18)) (.part 1 (.box 149 (.v (.st 23))) (.part 320 (.v (.st 20)) (.part 1 (.row 3 1 (.int .i64)) .nil)))))) (.part 1 (.v (.int .i64)) .nil)))) (.part 1 (.v (.int .u32)) (.part 1 (.v (.int .i64)) .nil)))) (.part 1 (.v (.int .i64)) .nil)))) .nil)),[some 0,some 1,some 2,some 3,none], .nil,[],[[0]]⟩ (λx=>dI n x.1 x.2.1 x.2.2.1 x.2.2.2.1 x.2.2.2.2.1 x.2.2.2.2.2.1 x.2.2.2.2.2.2.1 x.2.2.2.2.2.2.2.1 x.2.2.2.2.2.2.2.2.1 x.2.2.2.2.2.2.2.2.2.1) (λy=>(y.1,y.2.1,y.2.2.1,y.2.2.2.1,y.2.2.2.2.1,y.2.2.2.2.2.1,y.2.2.2.2.2.2.1,y.2.2.2.2.2.2.2.1)) (λz=>(z.1,(z.2.1,(z.2.2.1,(z.2.2.2.1,(z.2.2.2.2.1,(z.2.2.2.2.2.1,(z.2.2.2.2.2.2.1,(z.2.2.2.2.2.2.2,())))))))))
def bI(n:Nat)(cq:ah)(cH:ak)(cN:aj)(cM:(List Int))(bV:Int)(dA:Int)(dz:Int)(AI:Int)(a1:Int)(a2:Int):Option (ah×ak×aj×(List Int)×Int×Int×Int×Int):=
bd (dI n cq cH cN cM bV dA dz AI (wr .i64 (dz+a1)) a2) λax=>
some (ax.1,ax.2.1,ax.2.2.1,ax.2.2.2.1,ax.2.2.2.2.1,ax.2.2.2.2.2.1,ax.2.2.2.2.2.2.1,ax.2.2.2.2.2.2.2)
def gF(n:Nat):CT:=cV (tC n [] [iy n] []) ⟨23,[],(.cons (.box 52 (.st (.part 3 (.st (.part 1 (.box 79 (.st (.part 1 (.box 127 (.st (.part 952 (.v (.st 18)) (.part 1 (.box 149 (.v (.st 23))) (.part 320 (.v (.st 20)) (.part 1 (.row 3 1 (.int .i64)) .nil)))))) (.part 1 (.v (.int .i64)) .nil)))) (.part 1 (.v (.int .u32)) (.part 1 (.v (.int .i64)) .nil)))) (.part 1 (.v (.int .i64)) .nil)))) (.cons (.v (.int .i64)) (.cons (.v (.int .u64)) .nil))),(.cons (.gO .nil) (.cons (.box 52 (.st (.part 3 (.st (.part 1 (.box 79 (.st (.part 1 (.box 127 (.st (.part 952 (.v (.st 18)) (.part 1 (.box 149 (.v (.st 23))) (.part 320 (.v (.st 20)) (.part 1 (.row 3 1 (.int .i64)) .nil)))))) (.part 1 (.v (.int .i64)) .nil)))) (.part 1 (.v (.int .u32)) (.part 1 (.v (.int .i64)) .nil)))) (.part 1 (.v (.int .i64)) .nil)))) .nil)),[some 0,some 1,some 2,some 3,none], .nil,[],[[0]]⟩ (λx=>bI n x.1 x.2.1 x.2.2.1 x.2.2.2.1 x.2.2.2.2.1 x.2.2.2.2.2.1 x.2.2.2.2.2.2.1 x.2.2.2.2.2.2.2.1 x.2.2.2.2.2.2.2.2.1 x.2.2.2.2.2.2.2.2.2.1) (λy=>(y.1,y.2.1,y.2.2.1,y.2.2.2.1,y.2.2.2.2.1,y.2.2.2.2.2.1,y.2.2.2.2.2.2.1,y.2.2.2.2.2.2.2.1)) (λz=>(z.1,(z.2.1,(z.2.2.1,(z.2.2.2.1,(z.2.2.2.2.1,(z.2.2.2.2.2.1,(z.2.2.2.2.2.2.1,(z.2.2.2.2.2.2.2,())))))))))
def xx(n:Nat)(cq:ah)(cH:ak)(cN:aj)(cM:(List Int))(bV:Int)(dA:Int)(dz:Int):Option (Int×Int×ah×ak×aj×(List Int)×Int×Int×Int):=
bd (bU n cq cH cN cM bV dA dz 0 16) λax=>
bd (bU n ax.2.1 ax.2.2.1 ax.2.2.2.1 ax.2.2.2.2.1 ax.2.2.2.2.2.1 ax.2.2.2.2.2.2.1 ax.2.2.2.2.2.2.2.1 ax.2.2.2.2.2.2.2.2 0) λaK=>
bd (bU n aK.2.1 aK.2.2.1 aK.2.2.2.1 aK.2.2.2.2.1 aK.2.2.2.2.2.1 aK.2.2.2.2.2.2.1 aK.2.2.2.2.2.2.2.1 aK.2.2.2.2.2.2.2.2 24) λbC=>
lt (λ(bO:ah) (cW:ak) (dO:aj) (cJ:(List Int)) (dR:Int) (gC:Int) (cZ:Int) (dc:Int)=>
bd (o5 n aK.1) λeC=>
bd (eW n bO cW dO cJ dR gC cZ dc (wr .i64 (eC+0))) λbM=>
bd (eW n bM.2.1 bM.2.2.1 bM.2.2.2.1 bM.2.2.2.2.1 bM.2.2.2.2.2.1 bM.2.2.2.2.2.2.1 bM.2.2.2.2.2.2.2.1 bM.2.2.2.2.2.2.2.2 (wr .i64 (eC+8))) λeP=>
lt (eP.1:Int) λiF=>
bd (dI n eP.2.1 eP.2.2.1 eP.2.2.2.1 eP.2.2.2.2.1 eP.2.2.2.2.2.1 eP.2.2.2.2.2.2.1 eP.2.2.2.2.2.2.2.1 eP.2.2.2.2.2.2.2.2 (wr .i64 (eC+0)) bC.1) λei=>
bd (bI n ei.1 ei.2.1 ei.2.2.1 ei.2.2.2.1 ei.2.2.2.2.1 ei.2.2.2.2.2.1 ei.2.2.2.2.2.2.1 ei.2.2.2.2.2.2.2 24 aK.1) λlR=>
bd (bI n lR.1 lR.2.1 lR.2.2.1 lR.2.2.2.1 lR.2.2.2.2.1 lR.2.2.2.2.2.1 lR.2.2.2.2.2.2.1 lR.2.2.2.2.2.2.2 0 bM.1) λfJ=>
lt (λ(q9:ah) (gP:ak) (lJ:aj) (B3:(List Int)) (zT:Int) (B0:Int) (yA:Int) (ET:Int)=>
bd (bI n q9 gP lJ B3 zT B0 yA ET 16 (wr .u64 (ax.1-1))) λA7=>
lt (λ(wu:Int)=>
lt (wu:Int) λJg=>
some (Jg,A7.2.2.2.2.2.2.2,A7.1,A7.2.1,A7.2.2.1,A7.2.2.2.1,A7.2.2.2.2.1,dA,dz)) λR6=>
cn ((A7.2.2.2.2.2.2.2!=0)) (
R6 0) (
R6 iF)) λj48=>
cn ((ax.1==1)) (
bd (bI n fJ.1 fJ.2.1 fJ.2.2.1 fJ.2.2.2.1 fJ.2.2.2.2.1 fJ.2.2.2.2.2.1 fJ.2.2.2.2.2.2.1 fJ.2.2.2.2.2.2.2 8 0) λCj=>
j48 Cj.1 Cj.2.1 Cj.2.2.1 Cj.2.2.2.1 Cj.2.2.2.2.1 Cj.2.2.2.2.2.1 Cj.2.2.2.2.2.2.1 Cj.2.2.2.2.2.2.2) (
j48 fJ.1 fJ.2.1 fJ.2.2.1 fJ.2.2.2.1 fJ.2.2.2.2.1 fJ.2.2.2.2.2.1 fJ.2.2.2.2.2.2.1 fJ.2.2.2.2.2.2.2)) λOZ=>
cn (((bC.2.2.2.2.2.2.2.2==0)&&(ax.1==0))) (
OZ bC.2.1 bC.2.2.1 bC.2.2.2.1 bC.2.2.2.2.1 bC.2.2.2.2.2.1 bC.2.2.2.2.2.2.1 bC.2.2.2.2.2.2.2.1 10) (
OZ bC.2.1 bC.2.2.1 bC.2.2.2.1 bC.2.2.2.2.1 bC.2.2.2.2.2.1 bC.2.2.2.2.2.2.1 bC.2.2.2.2.2.2.2.1 bC.2.2.2.2.2.2.2.2)
def BG(n:Nat):CT:=cV (tC n [(70150000006, .join [(.via 0, .box 52 (.st (.part 3 (.st (.part 1 (.box 79 (.st (.part 1 (.box 127 (.st (.part 952 (.v (.st 18)) (.part 1 (.box 149 (.v (.st 23))) (.part 320 (.v (.st 20)) (.part 1 (.row 3 1 (.int .i64)) .nil)))))) (.part 1 (.v (.int .i64)) .nil)))) (.part 1 (.v (.int .u32)) (.part 1 (.v (.int .i64)) .nil)))) (.part 1 (.v (.int .i64)) .nil))))] []),(70150000022, .join [(.via 0, .box 52 (.st (.part 3 (.st (.part 1 (.box 79 (.st (.part 1 (.box 127 (.st (.part 952 (.v (.st 18)) (.part 1 (.box 149 (.v (.st 23))) (.part 320 (.v (.st 20)) (.part 1 (.row 3 1 (.int .i64)) .nil)))))) (.part 1 (.v (.int .i64)) .nil)))) (.part 1 (.v (.int .u32)) (.part 1 (.v (.int .i64)) .nil)))) (.part 1 (.v (.int .i64)) .nil))))] []),(8, .join [(.via 2, .box 22 (.v (.int .u64)))] [])] [dY n,rO n,iz n,iy n,gF n] []) ⟨6,[],(.cons (.st (.part 1 (.box 79 (.st (.part 1 (.box 127 (.st (.part 952 (.v (.st 18)) (.part 1 (.box 149 (.v (.st 23))) (.part 320 (.v (.st 20)) (.part 1 (.row 3 1 (.int .i64)) .nil)))))) (.part 1 (.v (.int .i64)) .nil)))) (.part 1 (.v (.int .u32)) (.part 1 (.v (.int .i64)) .nil)))) .nil),(.cons (.gO (.cons (.v (.int .u64)) (.cons (.v (.int .i64)) .nil))) (.cons (.st (.part 1 (.box 79 (.st (.part 1 (.box 127 (.st (.part 952 (.v (.st 18)) (.part 1 (.box 149 (.v (.st 23))) (.part 320 (.v (.st 20)) (.part 1 (.row 3 1 (.int .i64)) .nil)))))) (.part 1 (.v (.int .i64)) .nil)))) (.part 1 (.v (.int .u32)) (.part 1 (.v (.int .i64)) .nil)))) .nil)),[some 0,some 1,some 2,none], .nil,[],[[0]]⟩ (λx=>xx n x.1 x.2.1 x.2.2.1 x.2.2.2.1 x.2.2.2.2.1 x.2.2.2.2.2.1 x.2.2.2.2.2.2.1) (λy=>(y.1,y.2.1,y.2.2.1,y.2.2.2.1,y.2.2.2.2.1,y.2.2.2.2.2.1,y.2.2.2.2.2.2.1,y.2.2.2.2.2.2.2.1,y.2.2.2.2.2.2.2.2.1)) (λz=>(z.1,(z.2.1,(z.2.2.1,(z.2.2.2.1,(z.2.2.2.2.1,(z.2.2.2.2.2.1,(z.2.2.2.2.2.2.1,(z.2.2.2.2.2.2.2.1,(z.2.2.2.2.2.2.2.2,()))))))))))
def iI(n:Nat)(cq:ah)(cH:ak)(cN:aj)(cM:(List Int))(bV:Int)(dA:Int)(dz:Int):Option ((List Int)×Int×ah×ak×aj×(List Int)×Int×Int×Int):=
bd (bU n cq cH cN cM bV dA dz 0 16) λax=>
bd (bU n ax.2.1 ax.2.2.1 ax.2.2.2.1 ax.2.2.2.2.1 ax.2.2.2.2.2.1 ax.2.2.2.2.2.2.1 ax.2.2.2.2.2.2.2.1 ax.2.2.2.2.2.2.2.2 0) λaK=>
lt (λ(bC:ah) (bO:ak) (cW:aj) (dO:(List Int)) (cJ:Int) (dR:Int) (gC:Int) (cZ:Int)=>
As (λk43 (gQ:Int) (eC:Int) (bM:ah) (eP:ak) (iF:aj) (ei:(List Int)) (lR:Int) (fJ:Int) (q9:Int) (gP:Int) (lJ:(List Int))=>
cn (decide (gQ<ax.1)) (
lt (λ(zT:ah) (B0:ak) (yA:aj) (ET:(List Int)) (Ck:Int) (A7:Int) (wu:Int) (ES:Int)=>
cl (((ES !=0)==false)) (o5 n eC) default λCj=>
cn ((ES !=0)) (
cn ((ES !=0)) (
some ([],ES,zT,B0,yA,ET,Ck,dA,dz)) (
some (lJ,ES,zT,B0,yA,ET,Ck,dA,dz))) (
bd (eW n zT B0 yA ET Ck A7 wu ES (wr .i64 (Cj+8))) λuH=>
gu (ij lJ.length [uH.1].length 8)<|
lt (lJ++[uH.1]:List Int) λwG=>
bd (o5 n eC) λJf=>
bd (eW n uH.2.1 uH.2.2.1 uH.2.2.2.1 uH.2.2.2.2.1 uH.2.2.2.2.2.1 uH.2.2.2.2.2.2.1 uH.2.2.2.2.2.2.2.1 uH.2.2.2.2.2.2.2.2 (wr .i64 (Jf+0))) λBx=>
k43 (wr .u64 (gQ+1)) Bx.1 Bx.2.1 Bx.2.2.1 Bx.2.2.2.1 Bx.2.2.2.2.1 Bx.2.2.2.2.2.1 Bx.2.2.2.2.2.2.1 Bx.2.2.2.2.2.2.2.1 Bx.2.2.2.2.2.2.2.2 wG)) λXP=>
cn (((gP==0)&&(eC==0))) (
XP bM eP iF ei lR fJ q9 3) (
XP bM eP iF ei lR fJ q9 gP)) (
cn ((gP !=0)) (
some ([],gP,bM,eP,iF,ei,lR,dA,dz)) (
some (lJ,gP,bM,eP,iF,ei,lR,dA,dz)))) n 0 aK.1 bC bO cW dO cJ dR gC cZ []) λXR=>
cn (((aK.2.2.2.2.2.2.2.2==0)&&(decide (128<ax.1)))) (
XR aK.2.1 aK.2.2.1 aK.2.2.2.1 aK.2.2.2.2.1 aK.2.2.2.2.2.1 aK.2.2.2.2.2.2.1 aK.2.2.2.2.2.2.2.1 3) (
XR aK.2.1 aK.2.2.1 aK.2.2.2.1 aK.2.2.2.2.1 aK.2.2.2.2.2.1 aK.2.2.2.2.2.2.1 aK.2.2.2.2.2.2.2.1 aK.2.2.2.2.2.2.2.2)
def tF(n:Nat):CT:=cV (tC n [(70159990000006, .join [(.via 5, .box 52 (.st (.part 3 (.st (.part 1 (.box 79 (.st (.part 1 (.box 127 (.st (.part 952 (.v (.st 18)) (.part 1 (.box 149 (.v (.st 23))) (.part 320 (.v (.st 20)) (.part 1 (.row 3 1 (.int .i64)) .nil)))))) (.part 1 (.v (.int .i64)) .nil)))) (.part 1 (.v (.int .u32)) (.part 1 (.v (.int .i64)) .nil)))) (.part 1 (.v (.int .i64)) .nil))))] []),(70159990000009, .loop [(.slot 20, .v (.int .u64)),(.slot 4, .v (.int .u64)),(.via 5, .box 52 (.st (.part 3 (.st (.part 1 (.box 79 (.st (.part 1 (.box 127 (.st (.part 952 (.v (.st 18)) (.part 1 (.box 149 (.v (.st 23))) (.part 320 (.v (.st 20)) (.part 1 (.row 3 1 (.int .i64)) .nil)))))) (.part 1 (.v (.int .i64)) .nil)))) (.part 1 (.v (.int .u32)) (.part 1 (.v (.int .i64)) .nil)))) (.part 1 (.v (.int .i64)) .nil)))),(.frm 0 1, .box 36 (.row 22 1 (.int .u64)))]),(70159990000014, .join [(.via 5, .box 52 (.st (.part 3 (.st (.part 1 (.box 79 (.st (.part 1 (.box 127 (.st (.part 952 (.v (.st 18)) (.part 1 (.box 149 (.v (.st 23))) (.part 320 (.v (.st 20)) (.part 1 (.row 3 1 (.int .i64)) .nil)))))) (.part 1 (.v (.int .i64)) .nil)))) (.part 1 (.v (.int .u32)) (.part 1 (.v (.int .i64)) .nil)))) (.part 1 (.v (.int .i64)) .nil))))] [])] [dY n,rO n,iz n] []) ⟨8,[],(.cons (.st (.part 1 (.box 79 (.st (.part 1 (.box 127 (.st (.part 952 (.v (.st 18)) (.part 1 (.box 149 (.v (.st 23))) (.part 320 (.v (.st 20)) (.part 1 (.row 3 1 (.int .i64)) .nil)))))) (.part 1 (.v (.int .i64)) .nil)))) (.part 1 (.v (.int .u32)) (.part 1 (.v (.int .i64)) .nil)))) .nil),(.cons (.gO (.cons (.row 22 1 (.int .u64)) (.cons (.v (.int .i64)) .nil))) (.cons (.st (.part 1 (.box 79 (.st (.part 1 (.box 127 (.st (.part 952 (.v (.st 18)) (.part 1 (.box 149 (.v (.st 23))) (.part 320 (.v (.st 20)) (.part 1 (.row 3 1 (.int .i64)) .nil)))))) (.part 1 (.v (.int .i64)) .nil)))) (.part 1 (.v (.int .u32)) (.part 1 (.v (.int .i64)) .nil)))) .nil)),[none,some 0,some 1,some 2,none], .nil,[],[[0]]⟩ (λx=>iI n x.1 x.2.1 x.2.2.1 x.2.2.2.1 x.2.2.2.2.1 x.2.2.2.2.2.1 x.2.2.2.2.2.2.1) (λy=>(y.1,y.2.1,y.2.2.1,y.2.2.2.1,y.2.2.2.2.1,y.2.2.2.2.2.1,y.2.2.2.2.2.2.1,y.2.2.2.2.2.2.2.1,y.2.2.2.2.2.2.2.2.1)) (λz=>(z.1,(z.2.1,(z.2.2.1,(z.2.2.2.1,(z.2.2.2.2.1,(z.2.2.2.2.2.1,(z.2.2.2.2.2.2.1,(z.2.2.2.2.2.2.2.1,(z.2.2.2.2.2.2.2.2,()))))))))))
def qe(n:Nat)(cq:ah)(cH:ak)(cN:aj)(cM:(List Int))(bV:Int)(dA:Int)(dz:Int)(AI:Int):Option (Int×ah×ak×aj×(List Int)×Int×Int×Int×Int):=
bd (bU n cq cH cN cM bV dA dz AI 24) λax=>
cn ((ax.2.2.2.2.2.2.2.2!=0)) (
some (0,ax.2.1,ax.2.2.1,ax.2.2.2.1,ax.2.2.2.2.1,ax.2.2.2.2.2.1,ax.2.2.2.2.2.2.1,ax.2.2.2.2.2.2.2.1,ax.2.2.2.2.2.2.2.2)) (
cn ((ax.1==0)) (
bd (gi n ax.2.1 ax.2.2.1 ax.2.2.2.1 ax.2.2.2.2.1 ax.2.2.2.2.2.1 ax.2.2.2.2.2.2.1 16 8) λaK=>
lt (aK.2.1:Int) λbC=>
some (aK.1,aK.2.2.1,aK.2.2.2.1,aK.2.2.2.2.1,aK.2.2.2.2.2.1,aK.2.2.2.2.2.2,ax.2.2.2.2.2.2.1,ax.2.2.2.2.2.2.2.1,bC)) (
bd (o5 n ax.1) λbO=>
bd (eW n ax.2.1 ax.2.2.1 ax.2.2.2.1 ax.2.2.2.2.1 ax.2.2.2.2.2.1 ax.2.2.2.2.2.2.1 ax.2.2.2.2.2.2.2.1 ax.2.2.2.2.2.2.2.2 (wr .i64 (bO+0))) λcW=>
bd (bI n cW.2.1 cW.2.2.1 cW.2.2.2.1 cW.2.2.2.2.1 cW.2.2.2.2.2.1 cW.2.2.2.2.2.2.1 cW.2.2.2.2.2.2.2.1 cW.2.2.2.2.2.2.2.2 24 cW.1) λdO=>
bd (o5 n ax.1) λcJ=>
some (cJ,dO.1,dO.2.1,dO.2.2.1,dO.2.2.2.1,dO.2.2.2.2.1,dO.2.2.2.2.2.1,dO.2.2.2.2.2.2.1,dO.2.2.2.2.2.2.2)))
def rP(n:Nat):CT:=cV (tC n [] [dY n,oq n,rO n,iz n,gF n] []) ⟨31,[],(.cons (.box 52 (.st (.part 3 (.st (.part 1 (.box 79 (.st (.part 1 (.box 127 (.st (.part 952 (.v (.st 18)) (.part 1 (.box 149 (.v (.st 23))) (.part 320 (.v (.st 20)) (.part 1 (.row 3 1 (.int .i64)) .nil)))))) (.part 1 (.v (.int .i64)) .nil)))) (.part 1 (.v (.int .u32)) (.part 1 (.v (.int .i64)) .nil)))) (.part 1 (.v (.int .i64)) .nil)))) .nil),(.cons (.v (.int .i64)) (.cons (.box 52 (.st (.part 3 (.st (.part 1 (.box 79 (.st (.part 1 (.box 127 (.st (.part 952 (.v (.st 18)) (.part 1 (.box 149 (.v (.st 23))) (.part 320 (.v (.st 20)) (.part 1 (.row 3 1 (.int .i64)) .nil)))))) (.part 1 (.v (.int .i64)) .nil)))) (.part 1 (.v (.int .u32)) (.part 1 (.v (.int .i64)) .nil)))) (.part 1 (.v (.int .i64)) .nil)))) .nil)),[some 0,some 1,some 2,some 3,none], .nil,[],[[0]]⟩ (λx=>qe n x.1 x.2.1 x.2.2.1 x.2.2.2.1 x.2.2.2.2.1 x.2.2.2.2.2.1 x.2.2.2.2.2.2.1 x.2.2.2.2.2.2.2.1) (λy=>(y.1,y.2.1,y.2.2.1,y.2.2.2.1,y.2.2.2.2.1,y.2.2.2.2.2.1,y.2.2.2.2.2.2.1,y.2.2.2.2.2.2.2.1,y.2.2.2.2.2.2.2.2.1)) (λz=>(z.1,(z.2.1,(z.2.2.1,(z.2.2.2.1,(z.2.2.2.2.1,(z.2.2.2.2.2.1,(z.2.2.2.2.2.2.1,(z.2.2.2.2.2.2.2.1,(z.2.2.2.2.2.2.2.2,()))))))))))
def iG(n:Nat)(a0:Int):Option Int:=
some (wr .u64 ((wr .u64 a0)+1))
def uS(n:Nat):CT:=cV (tC n [] [] []) ⟨32,[],(.cons (.v (.int .i64)) .nil),(.cons (.v (.int .u64)) .nil),[], .nil,[],[]⟩ (λx=>iG n x.1) (λy=>(y.1)) (λz=>(z,()))
def fq(n:Nat)(cq:ah)(cH:ak)(cN:aj)(cM:(List Int))(bV:Int)(dA:Int)(dz:Int)(a1:Int):Option (Int×ah×ak×aj×(List Int)×Int×Int×Int):=
bd (bU n cq cH cN cM bV dA dz 0 16) λax=>
bd (bU n ax.2.1 ax.2.2.1 ax.2.2.2.1 ax.2.2.2.2.1 ax.2.2.2.2.2.1 ax.2.2.2.2.2.2.1 ax.2.2.2.2.2.2.2.1 ax.2.2.2.2.2.2.2.2 8) λaK=>
bd (qe n aK.2.1 aK.2.2.1 aK.2.2.2.1 aK.2.2.2.2.1 aK.2.2.2.2.2.1 aK.2.2.2.2.2.2.1 aK.2.2.2.2.2.2.2.1 aK.2.2.2.2.2.2.2.2) λbC=>
bd (dI n bC.2.1 bC.2.2.1 bC.2.2.2.1 bC.2.2.2.2.1 bC.2.2.2.2.2.1 bC.2.2.2.2.2.2.1 bC.2.2.2.2.2.2.2.1 bC.2.2.2.2.2.2.2.2 (wr .i64 (bC.1+0)) 0) λbO=>
bd (dI n bO.1 bO.2.1 bO.2.2.1 bO.2.2.2.1 bO.2.2.2.2.1 bO.2.2.2.2.2.1 bO.2.2.2.2.2.2.1 bO.2.2.2.2.2.2.2 (wr .i64 (bC.1+8)) a1) λcW=>
lt (λ(dO:ah) (cJ:ak) (dR:aj) (gC:(List Int)) (cZ:Int) (dc:Int) (gQ:Int) (eC:Int)=>
bd (iG n bC.1) λeP=>
bd (bI n dO cJ dR gC cZ dc gQ eC 8 eP) λiF=>
bd (bI n iF.1 iF.2.1 iF.2.2.1 iF.2.2.2.1 iF.2.2.2.2.1 iF.2.2.2.2.2.1 iF.2.2.2.2.2.2.1 iF.2.2.2.2.2.2.2 16 (wr .u64 (ax.1+1))) λei=>
some (ei.2.2.2.2.2.2.2,ei.1,ei.2.1,ei.2.2.1,ei.2.2.2.1,ei.2.2.2.2.1,dA,dz)) λj34=>
cn ((ax.1==0)) (
bd (iG n bC.1) λlR=>
bd (bI n cW.1 cW.2.1 cW.2.2.1 cW.2.2.2.1 cW.2.2.2.2.1 cW.2.2.2.2.2.1 cW.2.2.2.2.2.2.1 cW.2.2.2.2.2.2.2 0 lR) λfJ=>
j34 fJ.1 fJ.2.1 fJ.2.2.1 fJ.2.2.2.1 fJ.2.2.2.2.1 fJ.2.2.2.2.2.1 fJ.2.2.2.2.2.2.1 fJ.2.2.2.2.2.2.2) (
bd (o5 n aK.1) λq9=>
bd (iG n bC.1) λgP=>
bd (dI n cW.1 cW.2.1 cW.2.2.1 cW.2.2.2.1 cW.2.2.2.2.1 cW.2.2.2.2.2.1 cW.2.2.2.2.2.2.1 cW.2.2.2.2.2.2.2 (wr .i64 (q9+0)) gP) λlJ=>
j34 lJ.1 lJ.2.1 lJ.2.2.1 lJ.2.2.2.1 lJ.2.2.2.2.1 lJ.2.2.2.2.2.1 lJ.2.2.2.2.2.2.1 lJ.2.2.2.2.2.2.2)
def rQ(n:Nat):CT:=cV (tC n [(80150000014, .join [(.via 0, .box 52 (.st (.part 3 (.st (.part 1 (.box 79 (.st (.part 1 (.box 127 (.st (.part 952 (.v (.st 18)) (.part 1 (.box 149 (.v (.st 23))) (.part 320 (.v (.st 20)) (.part 1 (.row 3 1 (.int .i64)) .nil)))))) (.part 1 (.v (.int .i64)) .nil)))) (.part 1 (.v (.int .u32)) (.part 1 (.v (.int .i64)) .nil)))) (.part 1 (.v (.int .i64)) .nil))))] [])] [dY n,rP n,iy n,uS n,gF n,rO n] []) ⟨10,[],(.cons (.st (.part 1 (.box 79 (.st (.part 1 (.box 127 (.st (.part 952 (.v (.st 18)) (.part 1 (.box 149 (.v (.st 23))) (.part 320 (.v (.st 20)) (.part 1 (.row 3 1 (.int .i64)) .nil)))))) (.part 1 (.v (.int .i64)) .nil)))) (.part 1 (.v (.int .u32)) (.part 1 (.v (.int .i64)) .nil)))) (.cons (.v (.int .u64)) .nil)),(.cons (.v (.int .i64)) (.cons (.st (.part 1 (.box 79 (.st (.part 1 (.box 127 (.st (.part 952 (.v (.st 18)) (.part 1 (.box 149 (.v (.st 23))) (.part 320 (.v (.st 20)) (.part 1 (.row 3 1 (.int .i64)) .nil)))))) (.part 1 (.v (.int .i64)) .nil)))) (.part 1 (.v (.int .u32)) (.part 1 (.v (.int .i64)) .nil)))) .nil)),[some 0,some 1,some 2,none], .nil,[],[[0]]⟩ (λx=>fq n x.1 x.2.1 x.2.2.1 x.2.2.2.1 x.2.2.2.2.1 x.2.2.2.2.2.1 x.2.2.2.2.2.2.1 x.2.2.2.2.2.2.2.1) (λy=>(y.1,y.2.1,y.2.2.1,y.2.2.2.1,y.2.2.2.2.1,y.2.2.2.2.2.1,y.2.2.2.2.2.2.1,y.2.2.2.2.2.2.2.1)) (λz=>(z.1,(z.2.1,(z.2.2.1,(z.2.2.2.1,(z.2.2.2.2.1,(z.2.2.2.2.2.1,(z.2.2.2.2.2.2.1,(z.2.2.2.2.2.2.2,())))))))))
def tZ(n:Nat)(cq:ah)(cH:ak)(cN:aj)(cM:(List Int))(bV:Int)(dA:Int)(dz:Int)(a1:Int):Option (Int×ah×ak×aj×(List Int)×Int×Int×Int):=
bd (bU n cq cH cN cM bV dA dz 0 16) λax=>
bd (bU n ax.2.1 ax.2.2.1 ax.2.2.2.1 ax.2.2.2.2.1 ax.2.2.2.2.2.1 ax.2.2.2.2.2.2.1 ax.2.2.2.2.2.2.2.1 ax.2.2.2.2.2.2.2.2 0) λaK=>
bd (qe n aK.2.1 aK.2.2.1 aK.2.2.2.1 aK.2.2.2.2.1 aK.2.2.2.2.2.1 aK.2.2.2.2.2.2.1 aK.2.2.2.2.2.2.2.1 aK.2.2.2.2.2.2.2.2) λbC=>
bd (dI n bC.2.1 bC.2.2.1 bC.2.2.2.1 bC.2.2.2.2.1 bC.2.2.2.2.2.1 bC.2.2.2.2.2.2.1 bC.2.2.2.2.2.2.2.1 bC.2.2.2.2.2.2.2.2 (wr .i64 (bC.1+0)) aK.1) λbO=>
bd (dI n bO.1 bO.2.1 bO.2.2.1 bO.2.2.2.1 bO.2.2.2.2.1 bO.2.2.2.2.2.1 bO.2.2.2.2.2.2.1 bO.2.2.2.2.2.2.2 (wr .i64 (bC.1+8)) a1) λcW=>
bd (iG n bC.1) λdO=>
bd (bI n cW.1 cW.2.1 cW.2.2.1 cW.2.2.2.1 cW.2.2.2.2.1 cW.2.2.2.2.2.1 cW.2.2.2.2.2.2.1 cW.2.2.2.2.2.2.2 0 dO) λcJ=>
lt (λ(dR:ah) (gC:ak) (cZ:aj) (dc:(List Int)) (gQ:Int) (eC:Int) (bM:Int) (eP:Int)=>
bd (bI n dR gC cZ dc gQ eC bM eP 16 (wr .u64 (ax.1+1))) λei=>
some (ei.2.2.2.2.2.2.2,ei.1,ei.2.1,ei.2.2.1,ei.2.2.2.1,ei.2.2.2.2.1,dA,dz)) λj36=>
cn ((ax.1==0)) (
bd (iG n bC.1) λlR=>
bd (bI n cJ.1 cJ.2.1 cJ.2.2.1 cJ.2.2.2.1 cJ.2.2.2.2.1 cJ.2.2.2.2.2.1 cJ.2.2.2.2.2.2.1 cJ.2.2.2.2.2.2.2 8 lR) λfJ=>
j36 fJ.1 fJ.2.1 fJ.2.2.1 fJ.2.2.2.1 fJ.2.2.2.2.1 fJ.2.2.2.2.2.1 fJ.2.2.2.2.2.2.1 fJ.2.2.2.2.2.2.2) (
j36 cJ.1 cJ.2.1 cJ.2.2.1 cJ.2.2.2.1 cJ.2.2.2.2.1 cJ.2.2.2.2.2.1 cJ.2.2.2.2.2.2.1 cJ.2.2.2.2.2.2.2)
def yV(n:Nat):CT:=cV (tC n [(80150000014, .join [(.via 0, .box 52 (.st (.part 3 (.st (.part 1 (.box 79 (.st (.part 1 (.box 127 (.st (.part 952 (.v (.st 18)) (.part 1 (.box 149 (.v (.st 23))) (.part 320 (.v (.st 20)) (.part 1 (.row 3 1 (.int .i64)) .nil)))))) (.part 1 (.v (.int .i64)) .nil)))) (.part 1 (.v (.int .u32)) (.part 1 (.v (.int .i64)) .nil)))) (.part 1 (.v (.int .i64)) .nil))))] [])] [dY n,rP n,iy n,uS n,gF n] []) ⟨11,[],(.cons (.st (.part 1 (.box 79 (.st (.part 1 (.box 127 (.st (.part 952 (.v (.st 18)) (.part 1 (.box 149 (.v (.st 23))) (.part 320 (.v (.st 20)) (.part 1 (.row 3 1 (.int .i64)) .nil)))))) (.part 1 (.v (.int .i64)) .nil)))) (.part 1 (.v (.int .u32)) (.part 1 (.v (.int .i64)) .nil)))) (.cons (.v (.int .u64)) .nil)),(.cons (.v (.int .i64)) (.cons (.st (.part 1 (.box 79 (.st (.part 1 (.box 127 (.st (.part 952 (.v (.st 18)) (.part 1 (.box 149 (.v (.st 23))) (.part 320 (.v (.st 20)) (.part 1 (.row 3 1 (.int .i64)) .nil)))))) (.part 1 (.v (.int .i64)) .nil)))) (.part 1 (.v (.int .u32)) (.part 1 (.v (.int .i64)) .nil)))) .nil)),[some 0,some 1,some 2,none], .nil,[],[[0]]⟩ (λx=>tZ n x.1 x.2.1 x.2.2.1 x.2.2.2.1 x.2.2.2.2.1 x.2.2.2.2.2.1 x.2.2.2.2.2.2.1 x.2.2.2.2.2.2.2.1) (λy=>(y.1,y.2.1,y.2.2.1,y.2.2.2.1,y.2.2.2.2.1,y.2.2.2.2.2.1,y.2.2.2.2.2.2.1,y.2.2.2.2.2.2.2.1)) (λz=>(z.1,(z.2.1,(z.2.2.1,(z.2.2.2.1,(z.2.2.2.2.1,(z.2.2.2.2.2.1,(z.2.2.2.2.2.2.1,(z.2.2.2.2.2.2.2,())))))))))
def se(n:Nat)(cq:ah)(cH:ak)(cN:aj)(cM:(List Int))(bV:Int)(dA:Int)(dz:Int)(AI:Int):Option (ah×ak×aj×(List Int)×Int×Int×Int×Int):=
bd (bU n cq cH cN cM bV dA dz AI 16) λax=>
bd (bU n ax.2.1 ax.2.2.1 ax.2.2.2.1 ax.2.2.2.2.1 ax.2.2.2.2.2.1 ax.2.2.2.2.2.2.1 ax.2.2.2.2.2.2.2.1 ax.2.2.2.2.2.2.2.2 0) λaK=>
lt (λ(bC:ah) (bO:ak) (cW:aj) (dO:(List Int)) (cJ:Int) (dR:Int) (gC:Int) (cZ:Int)=>
As (λk43 (gQ:Int) (eC:Int) (bM:(List Int)) (eP:ah) (iF:ak) (ei:aj) (lR:(List Int)) (fJ:Int) (q9:Int) (gP:Int) (lJ:Int)=>
cn (decide (gQ<ax.1)) (
lt (λ(zT:ah) (B0:ak) (yA:aj) (ET:(List Int)) (Ck:Int) (A7:Int) (wu:Int) (ES:Int)=>
cl (((ES !=0)==false)) (o5 n eC) default λCj=>
cn ((ES !=0)) (
Au (λk64 (uH:Int) (wG:Int) (Jf:ah) (Bx:ak) (RH:aj) (Ls:(List Int)) (Ef:Int) (Pe:Int) (Lr:Int) (Lq:Int)=>
cn (decide (uH<(bM.length:Int))) (
gu (cG uH bM.length)<|
bd (dI n Jf Bx RH Ls Ef Pe Lr Lq (wr .i64 ((bM.getD (Int.toNat uH) default)+0)) wG) λyG=>
bd (iG n (bM.getD (Int.toNat uH) default)) λRD=>
k64 (wr .i64 (uH+1)) RD yG.1 yG.2.1 yG.2.2.1 yG.2.2.2.1 yG.2.2.2.2.1 yG.2.2.2.2.2.1 yG.2.2.2.2.2.2.1 yG.2.2.2.2.2.2.2) (
cn (decide (0<(bM.length:Int))) (
bd (bI n Jf Bx RH Ls Ef Pe Lr Lq 0 wG) λF9=>
gu (cG 0 bM.length)<|
bd (iG n (bM.getD (Int.toNat 0) default)) λF8=>
bd (bI n F9.1 F9.2.1 F9.2.2.1 F9.2.2.2.1 F9.2.2.2.2.1 F9.2.2.2.2.2.1 F9.2.2.2.2.2.2.1 F9.2.2.2.2.2.2.2 8 F8) λER=>
some (ER.1,ER.2.1,ER.2.2.1,ER.2.2.2.1,ER.2.2.2.2.1,ER.2.2.2.2.2.1,ER.2.2.2.2.2.2.1,ER.2.2.2.2.2.2.2)) (
some (Jf,Bx,RH,Ls,Ef,Pe,Lr,Lq)))) n 0 0 zT B0 yA ET Ck A7 wu ES) (
gu (ij bM.length [Cj].length 8)<|
lt (bM++[Cj]:List Int) λZN=>
bd (o5 n eC) λSM=>
bd (eW n zT B0 yA ET Ck A7 wu ES (wr .i64 (SM+0))) λBv=>
k43 (wr .u64 (gQ+1)) Bv.1 ZN Bv.2.1 Bv.2.2.1 Bv.2.2.2.1 Bv.2.2.2.2.1 Bv.2.2.2.2.2.1 Bv.2.2.2.2.2.2.1 Bv.2.2.2.2.2.2.2.1 Bv.2.2.2.2.2.2.2.2)) λXP=>
cn (((lJ==0)&&(eC==0))) (
XP eP iF ei lR fJ q9 gP 3) (
XP eP iF ei lR fJ q9 gP lJ)) (
Au (λk83 (F7:Int) (RC:Int) (ZM:ah) (Ee:ak) (LK:aj) (RB:(List Int)) (SJ:Int) (x80:Int) (WG:Int) (x82:Int)=>
cn (decide (F7<(bM.length:Int))) (
gu (cG F7 bM.length)<|
bd (dI n ZM Ee LK RB SJ x80 WG x82 (wr .i64 ((bM.getD (Int.toNat F7) default)+0)) RC) λJe=>
bd (iG n (bM.getD (Int.toNat F7) default)) λx85=>
k83 (wr .i64 (F7+1)) x85 Je.1 Je.2.1 Je.2.2.1 Je.2.2.2.1 Je.2.2.2.2.1 Je.2.2.2.2.2.1 Je.2.2.2.2.2.2.1 Je.2.2.2.2.2.2.2) (
cn (decide (0<(bM.length:Int))) (
bd (bI n ZM Ee LK RB SJ x80 WG x82 0 RC) λRA=>
gu (cG 0 bM.length)<|
bd (iG n (bM.getD (Int.toNat 0) default)) λx87=>
bd (bI n RA.1 RA.2.1 RA.2.2.1 RA.2.2.2.1 RA.2.2.2.2.1 RA.2.2.2.2.2.1 RA.2.2.2.2.2.2.1 RA.2.2.2.2.2.2.2 8 x87) λOW=>
some (OW.1,OW.2.1,OW.2.2.1,OW.2.2.2.1,OW.2.2.2.2.1,OW.2.2.2.2.2.1,OW.2.2.2.2.2.2.1,OW.2.2.2.2.2.2.2)) (
some (ZM,Ee,LK,RB,SJ,x80,WG,x82)))) n 0 0 eP iF ei lR fJ q9 gP lJ)) n 0 aK.1 [] bC bO cW dO cJ dR gC cZ) λXR=>
cn (((aK.2.2.2.2.2.2.2.2==0)&&(decide (128<ax.1)))) (
XR aK.2.1 aK.2.2.1 aK.2.2.2.1 aK.2.2.2.2.1 aK.2.2.2.2.2.1 aK.2.2.2.2.2.2.1 aK.2.2.2.2.2.2.2.1 3) (
XR aK.2.1 aK.2.2.1 aK.2.2.2.1 aK.2.2.2.2.1 aK.2.2.2.2.2.1 aK.2.2.2.2.2.2.1 aK.2.2.2.2.2.2.2.1 aK.2.2.2.2.2.2.2.2)
def xM(n:Nat):CT:=cV (tC n [(9990000006, .join [(.via 5, .box 52 (.st (.part 3 (.st (.part 1 (.box 79 (.st (.part 1 (.box 127 (.st (.part 952 (.v (.st 18)) (.part 1 (.box 149 (.v (.st 23))) (.part 320 (.v (.st 20)) (.part 1 (.row 3 1 (.int .i64)) .nil)))))) (.part 1 (.v (.int .i64)) .nil)))) (.part 1 (.v (.int .u32)) (.part 1 (.v (.int .i64)) .nil)))) (.part 1 (.v (.int .i64)) .nil))))] []),(9990000009, .loop [(.slot 20, .v (.int .u64)),(.slot 4, .v (.int .u64)),(.frm 0 2, .box 67 (.row 3 1 (.int .i64))),(.via 5, .box 52 (.st (.part 3 (.st (.part 1 (.box 79 (.st (.part 1 (.box 127 (.st (.part 952 (.v (.st 18)) (.part 1 (.box 149 (.v (.st 23))) (.part 320 (.v (.st 20)) (.part 1 (.row 3 1 (.int .i64)) .nil)))))) (.part 1 (.v (.int .i64)) .nil)))) (.part 1 (.v (.int .u32)) (.part 1 (.v (.int .i64)) .nil)))) (.part 1 (.v (.int .i64)) .nil))))]),(9990000014, .join [(.via 5, .box 52 (.st (.part 3 (.st (.part 1 (.box 79 (.st (.part 1 (.box 127 (.st (.part 952 (.v (.st 18)) (.part 1 (.box 149 (.v (.st 23))) (.part 320 (.v (.st 20)) (.part 1 (.row 3 1 (.int .i64)) .nil)))))) (.part 1 (.v (.int .i64)) .nil)))) (.part 1 (.v (.int .u32)) (.part 1 (.v (.int .i64)) .nil)))) (.part 1 (.v (.int .i64)) .nil))))] []),(13, .loop [(.slot 18, .v (.int .i64)),(.slot 4, .v (.int .u64)),(.via 0, .box 52 (.st (.part 3 (.st (.part 1 (.box 79 (.st (.part 1 (.box 127 (.st (.part 952 (.v (.st 18)) (.part 1 (.box 149 (.v (.st 23))) (.part 320 (.v (.st 20)) (.part 1 (.row 3 1 (.int .i64)) .nil)))))) (.part 1 (.v (.int .i64)) .nil)))) (.part 1 (.v (.int .u32)) (.part 1 (.v (.int .i64)) .nil)))) (.part 1 (.v (.int .i64)) .nil))))])] [dY n,rO n,iy n,uS n,gF n,iz n] []) ⟨35,[],(.cons (.box 52 (.st (.part 3 (.st (.part 1 (.box 79 (.st (.part 1 (.box 127 (.st (.part 952 (.v (.st 18)) (.part 1 (.box 149 (.v (.st 23))) (.part 320 (.v (.st 20)) (.part 1 (.row 3 1 (.int .i64)) .nil)))))) (.part 1 (.v (.int .i64)) .nil)))) (.part 1 (.v (.int .u32)) (.part 1 (.v (.int .i64)) .nil)))) (.part 1 (.v (.int .i64)) .nil)))) .nil),(.cons (.gO .nil) (.cons (.box 52 (.st (.part 3 (.st (.part 1 (.box 79 (.st (.part 1 (.box 127 (.st (.part 952 (.v (.st 18)) (.part 1 (.box 149 (.v (.st 23))) (.part 320 (.v (.st 20)) (.part 1 (.row 3 1 (.int .i64)) .nil)))))) (.part 1 (.v (.int .i64)) .nil)))) (.part 1 (.v (.int .u32)) (.part 1 (.v (.int .i64)) .nil)))) (.part 1 (.v (.int .i64)) .nil)))) .nil)),[some 0,some 1,some 2,some 3,none], .nil,[],[[0]]⟩ (λx=>se n x.1 x.2.1 x.2.2.1 x.2.2.2.1 x.2.2.2.2.1 x.2.2.2.2.2.1 x.2.2.2.2.2.2.1 x.2.2.2.2.2.2.2.1) (λy=>(y.1,y.2.1,y.2.2.1,y.2.2.2.1,y.2.2.2.2.1,y.2.2.2.2.2.1,y.2.2.2.2.2.2.1,y.2.2.2.2.2.2.2.1)) (λz=>(z.1,(z.2.1,(z.2.2.1,(z.2.2.2.1,(z.2.2.2.2.1,(z.2.2.2.2.2.1,(z.2.2.2.2.2.2.1,(z.2.2.2.2.2.2.2,())))))))))
def vA(n:Nat)(cq:ah)(cH:ak)(cN:aj)(cM:(List Int))(bV:Int)(dA:Int)(dz:Int):Option (Int×ah×ak×aj×(List Int)×Int×Int×Int):=
bd (se n cq cH cN cM bV dA dz 0) λax=>
some (ax.2.2.2.2.2.2.2,ax.1,ax.2.1,ax.2.2.1,ax.2.2.2.1,ax.2.2.2.2.1,dA,dz)
def Aa(n:Nat):CT:=cV (tC n [] [xM n] []) ⟨13,[],(.cons (.st (.part 1 (.box 79 (.st (.part 1 (.box 127 (.st (.part 952 (.v (.st 18)) (.part 1 (.box 149 (.v (.st 23))) (.part 320 (.v (.st 20)) (.part 1 (.row 3 1 (.int .i64)) .nil)))))) (.part 1 (.v (.int .i64)) .nil)))) (.part 1 (.v (.int .u32)) (.part 1 (.v (.int .i64)) .nil)))) .nil),(.cons (.v (.int .i64)) (.cons (.st (.part 1 (.box 79 (.st (.part 1 (.box 127 (.st (.part 952 (.v (.st 18)) (.part 1 (.box 149 (.v (.st 23))) (.part 320 (.v (.st 20)) (.part 1 (.row 3 1 (.int .i64)) .nil)))))) (.part 1 (.v (.int .i64)) .nil)))) (.part 1 (.v (.int .u32)) (.part 1 (.v (.int .i64)) .nil)))) .nil)),[some 0,some 1,some 2,none], .nil,[],[[0]]⟩ (λx=>vA n x.1 x.2.1 x.2.2.1 x.2.2.2.1 x.2.2.2.2.1 x.2.2.2.2.2.1 x.2.2.2.2.2.2.1) (λy=>(y.1,y.2.1,y.2.2.1,y.2.2.2.1,y.2.2.2.2.1,y.2.2.2.2.2.1,y.2.2.2.2.2.2.1,y.2.2.2.2.2.2.2.1)) (λz=>(z.1,(z.2.1,(z.2.2.1,(z.2.2.2.1,(z.2.2.2.2.1,(z.2.2.2.2.2.1,(z.2.2.2.2.2.2.1,(z.2.2.2.2.2.2.2,())))))))))
def CP(n:Nat)(cq:ah)(cH:ak)(cN:aj)(cM:(List Int))(bV:Int)(dA:Int)(dz:Int)(a1:fg):Option (Bool×ah×ak×aj×(List Int)×Int×Int×Int):=
bd (iH n cq cH cN cM bV dA dz) λax=>
bd (iI n ax.2.2.1 ax.2.2.2.1 ax.2.2.2.2.1 ax.2.2.2.2.2.1 ax.2.2.2.2.2.2.1 dA dz) λaK=>
cn (((((ax.2.1!=0)||(aK.2.1!=0))||(ax.1!=(a1.L.length:Int)))||((aK.1.length:Int)!=ax.1))) (
some (false,aK.2.2.1,aK.2.2.2.1,aK.2.2.2.2.1,aK.2.2.2.2.2.1,aK.2.2.2.2.2.2.1,dA,dz)) (
gI (λk24 (bC:Int)=>
cn (decide (bC<ax.1)) (
gu (cG bC aK.1.length)<|
gu (cG bC a1.L.length)<|
cn (((aK.1.getD (Int.toNat bC) default)!=(a1.L.getD (Int.toNat bC) default))) (
some (false,aK.2.2.1,aK.2.2.2.1,aK.2.2.2.2.1,aK.2.2.2.2.2.1,aK.2.2.2.2.2.2.1,dA,dz)) (
k24 (wr .i64 (bC+1)))) (
some (true,aK.2.2.1,aK.2.2.2.1,aK.2.2.2.2.1,aK.2.2.2.2.2.1,aK.2.2.2.2.2.2.1,dA,dz))) n 0)
def EU(n:Nat):CT:=cV (tC n [(13, .loop [(.slot 9, .v (.int .i64))])] [tE n,tF n] []) ⟨36,[],(.cons (.st (.part 1 (.box 79 (.st (.part 1 (.box 127 (.st (.part 952 (.v (.st 18)) (.part 1 (.box 149 (.v (.st 23))) (.part 320 (.v (.st 20)) (.part 1 (.row 3 1 (.int .i64)) .nil)))))) (.part 1 (.v (.int .i64)) .nil)))) (.part 1 (.v (.int .u32)) (.part 1 (.v (.int .i64)) .nil)))) (.cons (.v (.st 2)) .nil)),(.cons (.v .bool) (.cons (.st (.part 1 (.box 79 (.st (.part 1 (.box 127 (.st (.part 952 (.v (.st 18)) (.part 1 (.box 149 (.v (.st 23))) (.part 320 (.v (.st 20)) (.part 1 (.row 3 1 (.int .i64)) .nil)))))) (.part 1 (.v (.int .i64)) .nil)))) (.part 1 (.v (.int .u32)) (.part 1 (.v (.int .i64)) .nil)))) .nil)),[some 0,some 1,some 2,none], .nil,[],[[0]]⟩ (λx=>CP n x.1 x.2.1 x.2.2.1 x.2.2.2.1 x.2.2.2.2.1 x.2.2.2.2.2.1 x.2.2.2.2.2.2.1 x.2.2.2.2.2.2.2.1) (λy=>(y.1,y.2.1,y.2.2.1,y.2.2.2.1,y.2.2.2.2.1,y.2.2.2.2.2.1,y.2.2.2.2.2.2.1,y.2.2.2.2.2.2.2.1)) (λz=>(z.1,(z.2.1,(z.2.2.1,(z.2.2.2.1,(z.2.2.2.2.1,(z.2.2.2.2.2.1,(z.2.2.2.2.2.2.1,(z.2.2.2.2.2.2.2,())))))))))
def nW(n:Nat):Option Bool:=
bd (B5 n 64) λax=>
bd (qS n) λaK=>
bd (mI n aK ({({gS with n:=64}:ak)with vG:=ax}:ak) dw [] 0 ({({dm with Do:=1}:aI)with A:=wr .u32 8}:aI)) λbC=>
lt (bC.1:ae) λbO=>
bd (gi n bC.2.1 bC.2.2.1 bC.2.2.2.1 bC.2.2.2.2.1 bC.2.2.2.2.2 bO.W 32 8) λcW=>
cn ((cW.2.1!=0)) (
cn ((!((bO.E==0)&&(cW.2.1==0)))) (
some (false)) (
lt (λ(dO:Int)=>
lt (dO:Int) λdR=>
some (false)) λj27=>
j27 0)) (
cn ((!((bO.E==0)&&true))) (
some (false)) (
bd (fq n cW.2.2.1 cW.2.2.2.1 cW.2.2.2.2.1 cW.2.2.2.2.2.1 cW.2.2.2.2.2.2 bO.W cW.1 1) λgC=>
bd (fq n gC.2.1 gC.2.2.1 gC.2.2.2.1 gC.2.2.2.2.1 gC.2.2.2.2.2.1 bO.W cW.1 2) λcZ=>
bd (tZ n cZ.2.1 cZ.2.2.1 cZ.2.2.2.1 cZ.2.2.2.2.1 cZ.2.2.2.2.2.1 bO.W cW.1 0) λdc=>
bd (xx n dc.2.1 dc.2.2.1 dc.2.2.2.1 dc.2.2.2.2.1 dc.2.2.2.2.2.1 bO.W cW.1) λgQ=>
bd (vA n gQ.2.2.1 gQ.2.2.2.1 gQ.2.2.2.2.1 gQ.2.2.2.2.2.1 gQ.2.2.2.2.2.2.1 bO.W cW.1) λeC=>
cn (((((((gC.1==0)&&(cZ.1==0))&&(dc.1==0))&&(gQ.1==0))&&(gQ.2.1==0))&&(eC.1==0))) (
bd (CP n eC.2.1 eC.2.2.1 eC.2.2.2.1 eC.2.2.2.2.1 eC.2.2.2.2.2.1 bO.W cW.1 ({mR with L:=[2,1]}:fg)) λbM=>
some (bM.1)) (
some (false))))
def DT(n:Nat):CT:=cV (tC n [(240000008, .join [(.via 2, .box 22 (.v (.int .u64)))] [])] [Eh n,xl n,pO n,oq n,rQ n,yV n,BG n,Aa n,EU n] []) ⟨14,[], .nil,(.cons (.v .bool) .nil),[], .nil,[],[]⟩ (λx=>nW n) (λy=>(y.1)) (λz=>(z,()))
def xy(n:Nat)(a0:Int)(a1:Int):Option Bool:=
bd (g6 n 32) λax=>
bd (g6 n 8) λaK=>
lt (({bp with E:=1}:ae):ae) λbC=>
lt (bC:ae) λbO=>
cn ((bO.E !=0)) (
lt (0:Int) λcW=>
lt (λ(dO:Int)=>
lt (dO:Int) λdR=>
lt (λ(gC:Int)=>
lt (gC:Int) λdc=>
bd (B5 n 64) λgQ=>
bd (qS n) λeC=>
bd (mI n eC ({({gS with n:=64}:ak)with vG:=gQ}:ak) dw [] 0 ({({dm with Do:=1}:aI)with A:=wr .u32 1}:aI)) λbM=>
lt (bM.1:ae) λeP=>
bd (gi n bM.2.1 bM.2.2.1 bM.2.2.2.1 bM.2.2.2.2.1 bM.2.2.2.2.2 eP.W 32 8) λiF=>
cn ((iF.2.1!=0)) (
cn ((!((eP.E==0)&&(iF.2.1==0)))) (
some (false)) (
bd (g6 n 32) λei=>
bd (g6 n 8) λlR=>
lt (({bp with E:=1}:ae):ae) λfJ=>
lt (fJ:ae) λq9=>
cn ((q9.E !=0)) (
lt (0:Int) λgP=>
cn ((((((bO.E==1)&&true)&&true)&&true)&&true)) (
cl (((((((q9.E==4)&&true)&&false)&&false)&&false)==true)) (nW n) default λlJ=>
some (((((((q9.E==4)&&true)&&false)&&false)&&false)&&lJ))) (
some (false))) (
lt (0:Int) λB3=>
cn ((((((bO.E==1)&&true)&&true)&&true)&&true)) (
cl ((false==true)) (nW n) default λzT=>
some (false)) (
some (false))))) (
cn ((!((eP.E==0)&&true))) (
some (false)) (
bd (gi n iF.2.2.1 iF.2.2.2.1 iF.2.2.2.2.1 iF.2.2.2.2.2.1 iF.2.2.2.2.2.2 9 32 8) λB0=>
cn ((B0.2.1!=0)) (
bd (iH n B0.2.2.1 B0.2.2.2.1 B0.2.2.2.2.1 B0.2.2.2.2.2.1 B0.2.2.2.2.2.2 9 iF.1) λyA=>
bd (fq n yA.2.2.1 yA.2.2.2.1 yA.2.2.2.2.1 yA.2.2.2.2.2.1 yA.2.2.2.2.2.2.1 9 iF.1 a1) λET=>
bd (iI n ET.2.1 ET.2.2.1 ET.2.2.2.1 ET.2.2.2.2.1 ET.2.2.2.2.2.1 9 iF.1) λCk=>
cn ((((((bO.E==1)&&true)&&true)&&true)&&true)) (
cl (((((((B0.2.1==4)&&true)&&(yA.2.1==4))&&(ET.1==4))&&(Ck.2.1==4))==true)) (nW n) default λA7=>
some (((((((B0.2.1==4)&&true)&&(yA.2.1==4))&&(ET.1==4))&&(Ck.2.1==4))&&A7))) (
some (false))) (
bd (iH n B0.2.2.1 B0.2.2.2.1 B0.2.2.2.2.1 B0.2.2.2.2.2.1 B0.2.2.2.2.2.2 9 iF.1) λwu=>
bd (fq n wu.2.2.1 wu.2.2.2.1 wu.2.2.2.2.1 wu.2.2.2.2.2.1 wu.2.2.2.2.2.2.1 9 iF.1 a1) λES=>
bd (iI n ES.2.1 ES.2.2.1 ES.2.2.2.1 ES.2.2.2.2.1 ES.2.2.2.2.2.1 9 iF.1) λJg=>
cn ((((((bO.E==1)&&true)&&true)&&true)&&true)) (
cl ((false==true)) (nW n) default λCj=>
some (false)) (
some (false)))))) λj30=>
j30 0) λj27=>
j27 0) (
lt (0:Int) λuH=>
lt (λ(wG:Int)=>
lt (wG:Int) λBx=>
lt (λ(RH:Int)=>
lt (RH:Int) λEf=>
bd (B5 n 64) λPe=>
bd (qS n) λLr=>
bd (mI n Lr ({({gS with n:=64}:ak)with vG:=Pe}:ak) dw [] 0 ({({dm with Do:=1}:aI)with A:=wr .u32 1}:aI)) λLq=>
lt (Lq.1:ae) λRF=>
bd (gi n Lq.2.1 Lq.2.2.1 Lq.2.2.2.1 Lq.2.2.2.2.1 Lq.2.2.2.2.2 RF.W 32 8) λyG=>
cn ((yG.2.1!=0)) (
cn ((!((RF.E==0)&&(yG.2.1==0)))) (
some (false)) (
bd (g6 n 32) λRD=>
bd (g6 n 8) λF9=>
lt (({bp with E:=1}:ae):ae) λF8=>
lt (F8:ae) λER=>
cn ((ER.E !=0)) (
lt (0:Int) λZN=>
some (false)) (
lt (0:Int) λSM=>
some (false)))) (
cn ((!((RF.E==0)&&true))) (
some (false)) (
bd (gi n yG.2.2.1 yG.2.2.2.1 yG.2.2.2.2.1 yG.2.2.2.2.2.1 yG.2.2.2.2.2.2 9 32 8) λBv=>
cn ((Bv.2.1!=0)) (
bd (iH n Bv.2.2.1 Bv.2.2.2.1 Bv.2.2.2.2.1 Bv.2.2.2.2.2.1 Bv.2.2.2.2.2.2 9 yG.1) λF7=>
bd (fq n F7.2.2.1 F7.2.2.2.1 F7.2.2.2.2.1 F7.2.2.2.2.2.1 F7.2.2.2.2.2.2.1 9 yG.1 a1) λRC=>
bd (iI n RC.2.1 RC.2.2.1 RC.2.2.2.1 RC.2.2.2.2.1 RC.2.2.2.2.2.1 9 yG.1) λZM=>
some (false)) (
bd (iH n Bv.2.2.1 Bv.2.2.2.1 Bv.2.2.2.2.1 Bv.2.2.2.2.2.1 Bv.2.2.2.2.2.2 9 yG.1) λEe=>
bd (fq n Ee.2.2.1 Ee.2.2.2.1 Ee.2.2.2.2.1 Ee.2.2.2.2.2.1 Ee.2.2.2.2.2.2.1 9 yG.1 a1) λLK=>
bd (iI n LK.2.1 LK.2.2.1 LK.2.2.2.1 LK.2.2.2.2.1 LK.2.2.2.2.2.1 9 yG.1) λRB=>
some (false))))) λj59=>
j59 0) λj56=>
j56 0)
def BH(n:Nat):CT:=cV (tC n [(370000008, .join [(.via 2, .box 22 (.v (.int .u64)))] []),(430000008, .join [(.via 4, .box 22 (.v (.int .u64)))] [])] [yS n,Eh n,xl n,pO n,oq n,DT n,tE n,rQ n,tF n] []) ⟨3,[],(.cons (.v (.int .i64)) (.cons (.v (.int .u64)) .nil)),(.cons (.v .bool) .nil),[], .nil,[],[]⟩ (λx=>xy n x.1 x.2.1) (λy=>(y.1)) (λz=>(z,()))
end
end Go.Proofs.Z
namespace Go.Proofs.Z
open Go Go.Bw
set_option maxRecDepth 100000 in
theorem Xm{a b:Int}(_ : -9223372036854775808<=a/\a<=9223372036854775807)(_ :0<=b/\b<=18446744073709551615):xy 20000 a b=some true:=by kernel_rfl
end Go.Proofs.Z
namespace Go.Rw
open Go Go.Bw Go.RowKit
variable {G:Sg} {P:Program}
def V8(W w:World):Prop:=W.heap.size<=w.heap.size/\∀b,b<W.heap.size->w.heap[b]? =W.heap[b]?
theorem Qy{g:IntKind×List (Int×Nat)}{mb:Nat}{W w:World}(h:Wc g mb W)(hs:V8 W w):Wc g mb w:=by
 obtain⟨h1,l,⟨es,clock,h2,h3⟩,h4⟩:=h;have keep:∀{b:Nat} {o:Obj},W.heap[b]? =some o->w.heap[b]? =some o:=λ{b o} hb=>(hs.2 b (acf.1 hb).1).trans hb;refine⟨?_,l,⟨es,clock,keep h2,h3⟩,h4⟩;unfold World.cell? at h1 ⊢;cases e:W.heap[0]? with
 |none=>rw[e]at h1;cases h1
 |some o=>rw[e]at h1;rw[keep e];exact h1
theorem G7{ct:Ct P G}{W:World}{x:HI G ct.s}{y:HL G (aD ct.s.bL)}{v:Value}{vs:List Value}(hz:ct.R x y)(hgl:∀g,G.gt=some g->∃mb,Wc g mb W)(hv:∀J:World->Prop,(∀w,J w->V8 W w)->rl J (λ_ =>none) (ct.s.bl x).1 vs)(h0:(ct.s.bl x).2.1=[])(h1:(dy (λm=>m) ct.s.bL y 0).2.1=[])
  (hro:ct.s.ro x=[])(hout:∀(J:World->Prop) (σ:aP) u us,rl J σ (dy (λm=>m) ct.s.bL y 0).1 (u::us)->u=v):
  Calls P ct.s.k vs.toArray W λe W'=>e= .returned v/\aG [] W W':=by
 have ku:∀b,b∈List.range W.heap.size↔b<W.heap.size:=λb=>List.mem_range;generalize List.range W.heap.size=bs at ku;have hR:∀w,Hs [.ext bs (V8 W)] w->V8 W w:=λw h=>(h _ List.mem_cons_self).1 w (Nat.le_refl _) λ_ _ =>rfl;have hS:∀w,aG [] W w->Hs [.ext bs (V8 W)] w:=λw h r hr=>by obtain rfl:=List.mem_singleton.1 hr;exact⟨λw' k1 k2=>⟨Nat.le_trans h.size k1,λb hb=>(k2 b ((ku b).2 hb)).trans (h.block b hb (by simp))⟩,λb hb=>Nat.lt_of_lt_of_le ((ku b).1 hb) h.size⟩
 have:=(vH (ct:=ct) (R:=[.ext bs (V8 W)]) (jy:=[]) (ρ:=λ_ =>none) hz (λg hg=>by
  obtain⟨mb,h⟩:=hgl g hg;exact⟨mb,λw hw=>Qy h (hR w hw)⟩) (λJ hJ=>hv J λw hw=>hR w (hJ w hw)) h0 h1 (λJ _ r o e=>by rw[hro]at e;cases e) (λ_ _ =>rfl) hout).calls W (λw hw=>hS w (by simpa[aV]using hw)) (aX.nil _ _ _)
 exact this.mono λe W' ⟨_,_,he,hs,_⟩=>⟨he,by simpa[aV]using hs⟩
end Go.Rw
namespace Go.Bw
open Go Go.RowKit
theorem Gu{α β:Type}{f:α->Option β}:∀{l:List α} {m:List β},l.mapM f=some m->(∀x∈l,∃y∈m,f x=some y)/\∀y∈m,∃x∈l,f x=some y
 |[],m,h=>by rw[List.mapM_nil]at h;cases h;exact⟨λx h=>(nomatch h),λx h=>(nomatch h)⟩
 |x::l,m,h=>by
  rw[List.mapM_cons]at h;cases hx:f x with
  |none=>rw[hx]at h;cases h
  |some y=>
   rw[hx]at h;cases hl:l.mapM f with
   |none=>rw[hl]at h;cases h
   |some m'=>
    rw[hl]at h;cases h;obtain⟨h1,h2⟩:=Gu hl;refine⟨λz hz=>?_,λz hz=>?_⟩
    ·rcases List.mem_cons.1 hz with rfl|hz
     ·exact⟨y,by simp,hx⟩
     ·obtain⟨w,hw,he⟩:=h1 z hz;exact⟨w,by simp[hw],he⟩
    ·rcases List.mem_cons.1 hz with rfl|hz
     ·exact⟨x,by simp,hx⟩
     ·obtain⟨w,hw,he⟩:=h2 z hz;exact⟨w,by simp[hw],he⟩
theorem JH{H:Type}{x y:Lit×DataW H}:∀{l:List (Lit×DataW H)},y∈DataW.insert x l↔y=x\/y∈l
 |[]=>by simp[DataW.insert]
 |z::l=>by
  unfold DataW.insert;split
  ·simp
  ·rw[List.mem_cons,JH,List.mem_cons]
   constructor
   ·rintro(h|h|h)
    ·exact .inr (.inl h)
    ·exact .inl h
    ·exact .inr (.inr h)
   ·rintro(h|h|h)
    ·exact .inr (.inl h)
    ·exact .inl h
    ·exact .inr (.inr h)
theorem Ge{H:Type}{y:Lit×DataW H}:∀{l:List (Lit×DataW H)},y∈l.foldr DataW.insert []↔y∈l
 |[]=>Iff.rfl
 |x::l=>by rw[List.foldr_cons,JH,Ge,List.mem_cons]
theorem sW{β:Type}:∀{l:List (Int×β)} {k:Int},dH l k=none↔∀x∈l,x.1≠k
 |[],k=>⟨λ_ x h=>(nomatch h),λ_ =>rfl⟩
 |p::l,k=>by
  unfold dH;cases h:k==p.1 with
  |true=>
   have:k=p.1:=by simpa using h
   exact⟨λh=>by simp at h,λh2=>absurd this.symm (h2 p (by simp))⟩
  |false=>
   have hn:¬k=p.1:=by simpa using h
   simp only[cond_false,Option.map_eq_none_iff];rw[sW];exact⟨λh2 x hx=>by
    rcases List.mem_cons.1 hx with rfl|hx
    ·exactλe=>hn e.symm
    ·exact h2 x hx,λh2 x hx=>h2 x (by simp[hx])⟩
theorem xV{β:Type}:∀{l:List (Int×β)} {k:Int} {q:Nat×β},dH l k=some q->(k,q.2)∈l
 |[],k,q,h=>by cases h
 |p::l,k,q,h=>by
  unfold dH at h;cases e:k==p.1 with
  |true=>
   have:k=p.1:=by simpa using e
   rw[e]at h;simp only[cond_true,Option.some.injEq]at h;subst h;subst this;simp
  |false=>rw[e]at h;simp only[cond_false,Option.map_eq_some_iff]at h;obtain⟨a,ha,rfl⟩:=h;have:=xV ha;exact ack _ this
theorem Ip{β:Type}{l l':List (Int×β)}(h:∀x,x∈l↔x∈l')(hf:∀x∈l',∀y∈l',x.1=y.1->x=y)(k:Int)(z:β):kP l k z=kP l' k z/\mY l k=mY l' k:=by
 unfold kP mY;cases e:dH l k with
 |none=>have:dH l' k=none:=sW.2 λx hx=>sW.1 e x ((h x).2 hx);rw[this];exact⟨rfl,rfl⟩
 |some q=>
  have m1:=xV e;cases e':dH l' k with
  |none=>exact absurd rfl (sW.1 e' _ ((h _).1 m1))
  |some q'=>have m2:=xV e';have:=hf _ ((h _).1 m1) _ m2 rfl;have:q.2=q'.2:=(Prod.mk.inj this).2;simp[this]
theorem L5{H:Type}{enc:TypeId×Value->H}{P:Program}{w:World}{base:Nat}{sp:Nat->Bool}{t k e:TypeId}(ht:P.underlying t=some (.map k e)){fuel:Nat}{cs:List Value}{S:List (Lit×DataW H)}{ps:List MemPlace}(h:DataW.trod enc P w base sp true fuel t cs=some (.map S,ps)):
  ∃b es clock n entries,cs=[.map (some b)]/\w.heap[b]? =some (.map es clock)/\es.all (·.born<clock)=true/\(es.toList.map (·.born)).eraseDups.length=es.size/\
   es.toList.mapM (λx=>(keyOf P k x.key).bind λkey=>if x.val.formed P e=true then(DataW.trod enc P w base sp true n e x.val.cells.toList).map λy=>((key,y.1),y.2)else none)=some entries/\(entries.map (·.1)).foldr DataW.insert []=S:=by
 cases fuel with
 |zero=>simp[DataW.trod]at h
 |succ n=>
  have h0:=h;rw[DataW.trod_step]at h;unfold DataW.trodStep at h;rw[ht]at h;split at h<;>try (simp_all;done)
  rename_i k' e' b hkk;have hke:k=k'/\e=e':=by simpa using hkk
  obtain⟨rfl,rfl⟩:=hke;clear h;rw[DataW.trod_step]at h0;unfold DataW.trodStep at h0;cases hb:w.heap[b]? with
  |none=>simp[ht,hb]at h0
  |some o=>
   cases o
   case map es clock=>
    simp only[ht,hb]at h0;split at h0
    ·rename_i hc
     obtain⟨_,_,Ns,rC⟩:=hc;simp only[Option.bind_eq_some_iff]at h0;obtain⟨entries,hm,h3⟩:=h0;split at h3
     ·simp only[Option.some.injEq,Prod.mk.injEq,DataW.map.injEq]at h3
      exact⟨b,es,clock,n,entries,rfl,hb,Ns,rC,hm,h3.1⟩
     ·cases h3
    ·cases h0
   all_goals (simp[ht,hb]at h0;done)
theorem Ir{P:Program}{w:World}{base:Nat}{sp:Nat->Bool}{t k e:TypeId}{kd:IntKind}{fs rs:Array TypeId}{va:Bool}(ht:P.underlying t=some (.map k e))(hk:P.underlying k=some (.int kd))(he:P.underlying e=some (.func fs rs va))
  {fuel:Nat}{cs:List Value}{ps:List MemPlace}(T:List (Int×FuncId))(nm:FuncId->UInt8×List UInt8)
  (h:DataW.trod (funcToken P) P w base sp true fuel t cs=some (.map (T.map λx=>(.int kd x.1, .held ((nm x.2).1::(nm x.2).2))),ps))
  (hone:∀x∈T,((List.range P.funcs.size).filter λf=>(P.funcs[f]?).any (·.name.toUTF8.data.toList==(nm x.2).1::(nm x.2).2))=[x.2]):
  ∃b l,cs=[.map (some b)]/\SF b kd (λv:Value=>v) l w/\∀x,x∈l↔x∈T.map λy=>(y.1,Value.func (.func y.2) #[] #[]):=by
 obtain⟨b,es,clock,n,entries,rfl,hb,Ns,rC,hm,hs⟩:=L5 ht h;obtain⟨m1,m2⟩:=Gu hm;have hS:∀y,y∈entries.map (·.1)↔y∈T.map λx=>((Lit.int kd x.1:Lit),(DataW.held ((nm x.2).1::(nm x.2).2):DataW (List UInt8))):=λy=>by rw[← hs,Ge]
 have key:∀x∈es.toList,∀y,(keyOf P k x.key).bind (λkey=>if x.val.formed P e=true then(DataW.trod (funcToken P) P w base sp true n e x.val.cells.toList).map λy=>((key,y.1),y.2)else none)=some y->∀t∈T,y.1=((Lit.int kd t.1:Lit),(DataW.held ((nm t.2).1::(nm t.2).2):DataW (List UInt8)))->x.key= .int kd t.1/\x.val= .func (.func t.2) #[] #[]:=by
  intro x hx y hy t' ht' hyt;simp only[Option.bind_eq_some_iff]at hy;obtain⟨lit,Iz,h2⟩:=hy;split at h2
  ·rename_i hfm
   simp only[Option.map_eq_some_iff]at h2;obtain⟨z,hz,rfl⟩:=h2;obtain⟨e1,e2⟩:=Prod.mk.inj hyt;subst e1;refine⟨?_,?_⟩
   ·unfold keyOf at Iz
    rw[hk]at Iz;unfold mapKey at Iz;rw[hk]at Iz;cases hxk:x.key<;>rw[hxk]at Iz<;>simp at Iz;obtain⟨⟨rfl,_⟩,rfl⟩:=Iz;rfl
   ·obtain⟨z1,z2⟩:=z
    dsimp only at e2;subst e2;have hv:x.val.cells.toList=[x.val]:=by cases hxv:x.val<;>first|rfl|(rw[hxv]at hfm;simp[Value.formed,he]at hfm)
    rw[hv]at hz;exact func_of_trod he (hone t' ht') hz
  ·cases h2
 let l:List (Int×Value):=es.toList.map λx=>(match x.key with| .int _ i=>i|_ =>0,x.val);have hx:∀x∈es.toList,∃t∈T,x.key= .int kd t.1/\x.val= .func (.func t.2) #[] #[]:=λx hx=>by obtain⟨y,hy,hxy⟩:=m1 x hx;have:=(hS y.1).1 (List.mem_map_of_mem hy);obtain⟨t',ht',e1⟩:=List.mem_map.1 this;exact⟨t',ht',key x hx y hxy t' ht' e1.symm⟩
 refine⟨b,l,rfl,⟨es,clock,hb,⟨?_,?_,?_⟩⟩,λp=>?_⟩
 ·rw[List.map_map]
  refine List.map_congr_left λx hx'=>?_;obtain⟨t',_,e1,_⟩:=hx x hx';simp[e1]
 ·intro x hx'
  have:=Array.all_eq_true_iff_forall_mem.1 Ns x (by simpa using hx');simpa using this
 ·exact Go.ChangeMaps.nodup_of_eraseDups _ (by rw[rC];simp)
 ·constructor
  ·intro hp
   obtain⟨x,hx',rfl⟩:=List.mem_map.1 hp;obtain⟨t',ht',e1,e2⟩:=hx x hx';exact List.mem_map.2 ⟨t',ht',by simp[e1,e2]⟩
  ·intro hp
   obtain⟨t',ht',rfl⟩:=List.mem_map.1 hp;have:=(hS _).2 (List.mem_map_of_mem (f:=λx=>((Lit.int kd x.1:Lit),(DataW.held ((nm x.2).1::(nm x.2).2):DataW (List UInt8)))) ht');obtain⟨y,hy,e1⟩:=List.mem_map.1 this;obtain⟨x,hx',hxy⟩:=m2 y hy;obtain⟨e2,e3⟩:=key x hx' y hxy t' ht' e1;exact List.mem_map.2 ⟨x,hx',by simp[e2,e3]⟩
end Go.Bw
