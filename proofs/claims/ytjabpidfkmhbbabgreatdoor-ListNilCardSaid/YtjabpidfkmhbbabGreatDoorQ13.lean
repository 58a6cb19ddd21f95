/- Part 13 of what a proof leans on; pruned and shortened by a program out of longer texts. -/
import Derived.Test.YtjabpidfkmhbbabGreatDoorQ12
namespace Go.Proofs.Z
open Go Go.Bw Go.Rw Go.RowKit
noncomputable section
def kX(n:Nat)(a0:bA)(a1:Int):Option Bool:=bd (kE n a0.K a1 0) λax=>some ax
def uY(n:Nat):CT:=cV (tW n [] [nJ n]) ⟨253,[(109, .v (.st 15)),(25, .v (.int .u32))], .cons (.bz 0) (.cons (.bz 1) .nil), .cons (.v .bool) .nil,[], .nil,[],[]⟩ (λx=>kX n x.1 x.2.1) u1 m1
def kW(n:Nat)(a0:bA)(a1:Int):Option Bool:=bd (jN n a0.K a1 0) λax=>some ax
def uX(n:Nat):CT:=cV (tW n [] [nc n]) ⟨255,[(109, .v (.st 15)),(25, .v (.int .u32))], .cons (.bz 0) (.cons (.bz 1) .nil), .cons (.v .bool) .nil,[], .nil,[],[]⟩ (λx=>kW n x.1 x.2.1) u1 m1
def n5(n:Nat)(a0:Int)(a1:bA):Option Bool:=bd (ke n a1.K a0) λax=>some (decide (0<(ax.length:Int)))
def sN(n:Nat):CT:=cV (tW n [] [lT n]) ⟨259,[(109, .v (.st 15))], .cons (.v (.int .u32)) (.cons (.bz 0) .nil), .cons (.v .bool) .nil,[], .nil,[],[]⟩ (λx=>n5 n x.2.1 x.1) u1 m1
def dD(n:Nat)(a0:(List Int))(eR:bA):Option Int:=gI (λGD (aK:Int)=>cn (decide (aK<(a0.length:Int))) (gu (cG aK a0.length)<|bd (n5 n (a0.getD (Int.toNat aK) default) eR) λcJ=>cn (cJ) (some aK) (GD (wr .i64 (aK+1)))) (some (-1))) n 0
def gv(n:Nat):CT:=cV (tW n [(5, .loop [(.slot 8,(.v (.int .i64)))])] [sN n]) ⟨131,[(109, .v (.st 15))], .cons (.v (.sl (.int .u32))) (.cons (.fn (.func 259) .nil (.cons (.bz 0) .nil)) .nil), .cons (.v (.int .i64)) .nil,[], .nil,[],[]⟩ (λx=>dD n x.2.1 x.1) u1 m1
def dg(n:Nat)(a0:(List Int))(eR:bA):Option Bool:=bd (dD n a0 eR) λax=>some (decide (0<=ax))
def fK(n:Nat):CT:=cV (tW n [] [gv n]) ⟨258,[(109, .v (.st 15))], .cons (.v (.sl (.int .u32))) (.cons (.fn (.func 259) .nil (.cons (.bz 0) .nil)) .nil), .cons (.v .bool) .nil,[], .nil,[],[]⟩ (λx=>dg n x.2.1 x.1) u1 m1
def kV(n:Nat)(a0:bA)(a1:Int):Option Bool:=bd (o7 n a0.T a1) λbC=>bd (dg n bC a0) λcZ=>some (!cZ)
def uW(n:Nat):CT:=cV (tW n [] [pR n,fK n]) ⟨257,[(109, .v (.st 15)),(25, .v (.int .u32))], .cons (.bz 0) (.cons (.bz 1) .nil), .cons (.v .bool) .nil,[], .nil,[],[]⟩ (λx=>kV n x.1 x.2.1) u1 m1
def jF(n:Nat)(a0:bA)(a1:Int)(a2:Int):Option Bool:=cn (a2==0) (cl (true==true) (kX n a0 a1) default λdc=>some (true&&dc)) (cn (a2==1) (cl (true==true) (kW n a0 a1) default λdc=>some (true&&dc)) (cn (a2==2) (cl (true==true) (kV n a0 a1) default λdc=>some (true&&dc)) (some false)))
namespace H
theorem Ii{J:World->Prop}{T0 T1 q0 q1 r:Nat}{rE:List Value}{a0:bA}{a1:Int}{o:Ob sg}(f0:dx.dS J rE a0)(e:bP [(0, .bK T0 (.dat (.st 15) a0)),(1, .bK T1 (.int .u32 a1))] r=some o):
  ∃z∈([.cells q0 T0 rE, .cells q1 T1 ((LI .u32).enc a1)]:List ay),ro (G:=sg) J (aP.set (aP.set (λ_ =>none) 0 (cy q0 0)) 1 (cy q1 0)) r o z:=by
 match r,e with
 |0,e=>cases e;exact⟨_,List.mem_cons_self,q0, .agg rE.toArray,rfl,rfl,FJ (t:= .st 15) f0 rfl⟩
 |1,e=>cases e;exact⟨_,ack _ List.mem_cons_self,q1, .int .u32 a1,rfl,rfl,rfl⟩
 |r+2,e=>cases e
theorem vS{n:Nat}{a0:bA}{a1:Int}{r:Bool}{R:List ay}(hg:LF sg (Hs R)){q0:Nat}{rE:List Value}(f0:dx.dS (Hs R) rE a0){q1:Nat}(h:kX n a0 a1=some r):Bw.Fn (α:=Unit) Tryz.prog 253 [cy q0 0,cy q1 0] (LG (aV [.cells q0 109 rE, .cells q1 25 ((LI .u32).enc a1)]) (Hs R)) [.cells q0 109 rE, .cells q1 25 ((LI .u32).enc a1)] (λ_ =>True) (λ_ => .bool r) (λ_ =>[.cells q0 109 rE, .cells q1 25 ((LI .u32).enc a1)]):=
 vH (ct:=uY n) (x:=(a0,a1,())) (y:=(r,())) (ρ:=aP.set (aP.set (λ_ =>none) 0 (cy q0 0)) 1 (cy q1 0)) ⟨r,h,rfl⟩ hg (λ_ _ =>⟨_,_,rfl,⟨⟨q0,0, .inl rfl,rfl⟩,nofun⟩,_,_,rfl,⟨⟨q1,0, .inl rfl,rfl⟩,nofun⟩,rfl⟩) rfl rfl
  (λJ hJ r o e=>Ii (T0:=109) (T1:=25) (bX.mono _ hJ f0) e) (λr (hr:2<=r)=>match r,hr with|r+2,_ =>rfl) λJ σ u us ⟨_,_,e,h1,_⟩=>by cases e;have h1:[u]=[.bool _]:=h1;cases h1;rfl
theorem vR{n:Nat}{a0:bA}{a1:Int}{r:Bool}{R:List ay}(hg:LF sg (Hs R)){q0:Nat}{rE:List Value}(f0:dx.dS (Hs R) rE a0){q1:Nat}(h:kW n a0 a1=some r):Bw.Fn (α:=Unit) Tryz.prog 255 [cy q0 0,cy q1 0] (LG (aV [.cells q0 109 rE, .cells q1 25 ((LI .u32).enc a1)]) (Hs R)) [.cells q0 109 rE, .cells q1 25 ((LI .u32).enc a1)] (λ_ =>True) (λ_ => .bool r) (λ_ =>[.cells q0 109 rE, .cells q1 25 ((LI .u32).enc a1)]):=
 vH (ct:=uX n) (x:=(a0,a1,())) (y:=(r,())) (ρ:=aP.set (aP.set (λ_ =>none) 0 (cy q0 0)) 1 (cy q1 0)) ⟨r,h,rfl⟩ hg (λ_ _ =>⟨_,_,rfl,⟨⟨q0,0, .inl rfl,rfl⟩,nofun⟩,_,_,rfl,⟨⟨q1,0, .inl rfl,rfl⟩,nofun⟩,rfl⟩) rfl rfl
  (λJ hJ r o e=>Ii (T0:=109) (T1:=25) (bX.mono _ hJ f0) e) (λr (hr:2<=r)=>match r,hr with|r+2,_ =>rfl) λJ σ u us ⟨_,_,e,h1,_⟩=>by cases e;have h1:[u]=[.bool _]:=h1;cases h1;rfl
theorem vQ{n:Nat}{a0:bA}{a1:Int}{r:Bool}{R:List ay}(hg:LF sg (Hs R)){q0:Nat}{rE:List Value}(f0:dx.dS (Hs R) rE a0){q1:Nat}(h:kV n a0 a1=some r):Bw.Fn (α:=Unit) Tryz.prog 257 [cy q0 0,cy q1 0] (LG (aV [.cells q0 109 rE, .cells q1 25 ((LI .u32).enc a1)]) (Hs R)) [.cells q0 109 rE, .cells q1 25 ((LI .u32).enc a1)] (λ_ =>True) (λ_ => .bool r) (λ_ =>[.cells q0 109 rE, .cells q1 25 ((LI .u32).enc a1)]):=
 vH (ct:=uW n) (x:=(a0,a1,())) (y:=(r,())) (ρ:=aP.set (aP.set (λ_ =>none) 0 (cy q0 0)) 1 (cy q1 0)) ⟨r,h,rfl⟩ hg (λ_ _ =>⟨_,_,rfl,⟨⟨q0,0, .inl rfl,rfl⟩,nofun⟩,_,_,rfl,⟨⟨q1,0, .inl rfl,rfl⟩,nofun⟩,rfl⟩) rfl rfl
  (λJ hJ r o e=>Ii (T0:=109) (T1:=25) (bX.mono _ hJ f0) e) (λr (hr:2<=r)=>match r,hr with|r+2,_ =>rfl) λJ σ u us ⟨_,_,e,h1,_⟩=>by cases e;have h1:[u]=[.bool _]:=h1;cases h1;rfl
theorem yj{n a0 a1 a2 r}{R:List ay}(hg:LF sg (Hs R)){rE}(f0:(dx).dS (Hs R) rE a0)(h:jF n a0 a1 a2=some r):SH Tryz.prog 156 [A rE, .int .u32 a1, .int .u8 a2] (Hs R) (.bool r):=by
 unfold jF at h;refine fo Tryz.func156 (by kernel_rfl) rfl Tryz.ntmps156 rfl λcx _ hro ku hpre=>?_;refine SC 2 rf ?_;refine W1 rf (Kk rfl) λb3=>?_;refine W1 rf (kB (LI .u32) a1 rfl rfl) λb4=>?_;refine SL 5 rf ?_;refine wU rfl (Dv .u8 (λv:Value=>v)) (λb10 _ =>?_);refine bw rfl (n7 rfl) ?_;refine Dt (AQ (E:=λv:Value=>v) (.func (.func 253) #[] #[cy b3 0,cy b4 0]) rfl rfl rfl rfl) (λ_ _ =>?_);refine bw rfl (n7 rfl) ?_;refine Dt (AQ (E:=λv:Value=>v) (.func (.func 255) #[] #[cy b3 0,cy b4 0]) rfl rfl rfl rfl) (λ_ _ =>?_);refine bw rfl (n7 rfl) ?_;refine Dt (AQ (E:=λv:Value=>v) (.func (.func 257) #[] #[cy b3 0,cy b4 0]) rfl rfl rfl rfl) (λ_ _ =>?_);refine SL 5 rf ?_;rcases Decidable.em (a2=0)with xZ|xZ
 ·replace h:=IS (by simpa using xZ) h;refine SC 3 rf ?_;refine bw rfl (tj .nilFunc (.func (.func 253) #[] #[cy b3 0,cy b4 0]) true rfl rfl (by rw[xZ];rfl) (by rw[xZ];rfl)) ?_;obtain⟨dc,Is,_,h⟩:=QN h;refine SL 11 rf ?_;refine GB rf rf rf (λhb=>bH rfl) ?_;refine AL (OU rfl rfl) rfl (λhb=>vS (R:=R) hg (mo f0) (Is hb)) (λhb=>(Fy rfl hb)) (λhb=>rfl) rfl (jy:=[.cells b3 109 rE, .cells b4 25 ((LI .u32).enc a1)]) (VJ:=[Mp b10 .u8 (λv:Value=>v) (qd (qd (qd ([]:List (Int×Value)) 0 (.func (.func 253) #[] #[cy b3 0,cy b4 0])) 1 (.func (.func 255) #[] #[cy b3 0,cy b4 0])) 2 (.func (.func 257) #[] #[cy b3 0,cy b4 0]))]) (ks:=[2,1,0]) rfl (by decide) (λhb=>inferInstance) ?_;dsimp only[List.cons_append,List.nil_append];refine bw rfl (Du rfl rfl) ?_;refine SL 4 rf ?_;have h:=sj h;subst h;exact RV rf (rt rf rn) rf
 replace h:=IT (by simpa using xZ) h;rcases Decidable.em (a2=1)with xY|xY
 ·replace h:=IS (by simpa using xY) h;refine SC 3 rf ?_;refine bw rfl (tj .nilFunc (.func (.func 255) #[] #[cy b3 0,cy b4 0]) true rfl rfl (by rw[xY];rfl) (by rw[xY];rfl)) ?_;obtain⟨dc,Is,_,h⟩:=QN h;refine SL 11 rf ?_;refine GB rf rf rf (λhb=>bH rfl) ?_;refine AL (OU rfl rfl) rfl (λhb=>vR (R:=R) hg (mo f0) (Is hb)) (λhb=>(Fy rfl hb)) (λhb=>rfl) rfl (jy:=[.cells b3 109 rE, .cells b4 25 ((LI .u32).enc a1)]) (VJ:=[Mp b10 .u8 (λv:Value=>v) (qd (qd (qd ([]:List (Int×Value)) 0 (.func (.func 253) #[] #[cy b3 0,cy b4 0])) 1 (.func (.func 255) #[] #[cy b3 0,cy b4 0])) 2 (.func (.func 257) #[] #[cy b3 0,cy b4 0]))]) (ks:=[2,1,0]) rfl (by decide) (λhb=>inferInstance) ?_;dsimp only[List.cons_append,List.nil_append];refine bw rfl (Du rfl rfl) ?_;refine SL 4 rf ?_;have h:=sj h;subst h;exact RV rf (rt rf rn) rf
 replace h:=IT (by simpa using xY) h;rcases Decidable.em (a2=2)with xX|xX
 ·replace h:=IS (by simpa using xX) h;refine SC 3 rf ?_;refine bw rfl (tj .nilFunc (.func (.func 257) #[] #[cy b3 0,cy b4 0]) true rfl rfl (by rw[xX];rfl) (by rw[xX];rfl)) ?_;obtain⟨dc,Is,_,h⟩:=QN h;refine SL 11 rf ?_;refine GB rf rf rf (λhb=>bH rfl) ?_;refine AL (OU rfl rfl) rfl (λhb=>vQ (R:=R) hg (mo f0) (Is hb)) (λhb=>(Fy rfl hb)) (λhb=>rfl) rfl (jy:=[.cells b3 109 rE, .cells b4 25 ((LI .u32).enc a1)]) (VJ:=[Mp b10 .u8 (λv:Value=>v) (qd (qd (qd ([]:List (Int×Value)) 0 (.func (.func 253) #[] #[cy b3 0,cy b4 0])) 1 (.func (.func 255) #[] #[cy b3 0,cy b4 0])) 2 (.func (.func 257) #[] #[cy b3 0,cy b4 0]))]) (ks:=[2,1,0]) rfl (by decide) (λhb=>inferInstance) ?_;dsimp only[List.cons_append,List.nil_append];refine bw rfl (Du rfl rfl) ?_;refine SL 4 rf ?_;have h:=sj h;subst h;exact RV rf (rt rf rn) rf
 replace h:=IT (by simpa using xX) h;refine SC 3 rf ?_;refine bw rfl (tj .nilFunc .nilFunc false rfl rfl (Jw (z:= .nilFunc) xZ xY xX).1 (Jw (z:= .nilFunc) xZ xY xX).2) ?_;refine SL 11 rf ?_;refine GB rf rf rf (λhb=>bH rfl) ?_;refine Zv (v:= .bool false) (OU rfl rfl) (by rfl) rfl ?_;refine bw rfl (Du rfl rfl) ?_;refine SL 4 rf ?_;have h:=sj h;subst h;exact RV rf (rt rf rn) rf
end H
def xN(n:Nat):Ct Tryz.prog sg:=VX (G:=sg) ⟨156,[], .cons (.v (.st 15)) (.cons (.v (.int .u32)) (.cons (.v (.int .u8)) .nil)), .cons (.v .bool) .nil,[], .nil,[],[]⟩ (λx=>jF n x.1 x.2.1 x.2.2.1) (λz=>(z,())) (false) (by kernel_rfl) (NI (λ_ =>rfl) (λ_ =>rfl) rfl λρ R x z vs hg hz hv=>by
 obtain⟨cs,r1,e_1,h0,v1⟩:=E5 hv rfl;obtain⟨r2,e_2,v2⟩:=Ib v1;obtain⟨r3,e_3,v3⟩:=Ib v2;have Zb:r3=[]:=v3;subst Zb e_3 e_2 e_1;exact⟨_,Ut (H.yj hg h0 hz),λJ v e=>by
  subst e;exact⟨_,_,rfl,rfl,rfl⟩⟩)
def qY(n:Nat)(a0:Int)(a1:bA)(a2:Int)(a3:Int)(a4:Int):Option Bool:=bd (bR n a1.K a0) λax=>cl ((((wr .i64 ax.1.To)==a2)==true)&&((a3==0)==true)) (kE n a1.K a4 a0) default λaK=>cl (((((wr .i64 ax.1.To)==a2)==true)&&(((a3==0)&&aK)==false))&&(((a3==1)&&ax.1.jG)==true)) (jN n a1.K a4 a0) default λbC=>some (((wr .i64 ax.1.To)==a2)&&(((a3==0)&&aK)||(((a3==1)&&ax.1.jG)&&bC)))
def wO(n:Nat):CT:=cV (tW n [] [cR n,nJ n,nc n]) ⟨272,[(109, .v (.st 15)),(3, .v (.int .i64)),(5, .v (.int .u8)),(25, .v (.int .u32))], .cons (.v (.int .u32)) (.cons (.bz 0) (.cons (.bz 1) (.cons (.bz 2) (.cons (.bz 3) .nil)))), .cons (.v .bool) .nil,[], .nil,[],[]⟩ (λx=>qY n x.2.2.2.2.1 x.1 x.2.1 x.2.2.1 x.2.2.2.1) u1 m1
def dW(n:Nat)(a0:(List Int))(eR:bA)(oz:Int)(Oc:Int)(UU:Int):Option Int:=gI (λGD (aK:Int)=>cn (decide (aK<(a0.length:Int))) (gu (cG aK a0.length)<|bd (qY n (a0.getD (Int.toNat aK) default) eR oz Oc UU) λcJ=>cn (cJ) (some aK) (GD (wr .i64 (aK+1)))) (some (-1))) n 0
def gW(n:Nat):CT:=cV (tW n [(5, .loop [(.slot 8,(.v (.int .i64)))])] [wO n]) ⟨131,[(109, .v (.st 15)),(3, .v (.int .i64)),(5, .v (.int .u8)),(25, .v (.int .u32))], .cons (.v (.sl (.int .u32))) (.cons (.fn (.func 272) .nil (.cons (.bz 0) (.cons (.bz 1) (.cons (.bz 2) (.cons (.bz 3) .nil))))) .nil), .cons (.v (.int .i64)) .nil,[], .nil,[],[]⟩ (λx=>dW n x.2.2.2.2.1 x.1 x.2.1 x.2.2.1 x.2.2.2.1) u1 m1
def dF(n:Nat)(a0:(List Int))(eR:bA)(oz:Int)(Oc:Int)(UU:Int):Option Bool:=bd (dW n a0 eR oz Oc UU) λax=>some (decide (0<=ax))
def gw(n:Nat):CT:=cV (tW n [] [gW n]) ⟨258,[(109, .v (.st 15)),(3, .v (.int .i64)),(5, .v (.int .u8)),(25, .v (.int .u32))], .cons (.v (.sl (.int .u32))) (.cons (.fn (.func 272) .nil (.cons (.bz 0) (.cons (.bz 1) (.cons (.bz 2) (.cons (.bz 3) .nil))))) .nil), .cons (.v .bool) .nil,[], .nil,[],[]⟩ (λx=>dF n x.2.2.2.2.1 x.1 x.2.1 x.2.2.1 x.2.2.2.1) u1 m1
def ud(n:Nat)(a0:bA)(a1:Int)(a2:Int)(a3:Int):Option Bool:=bd (ke n a0.K a2) λax=>bd (dF n ax a0 a1 a3 a2) λdR=>some dR
def yW(n:Nat):CT:=cV (tW n [] [lT n,gw n]) (ia 252 [.s 15, .i, .w, .v (.int .u8)] [.b]) (a4 (ud n)) u1 m1
def vU(n:Nat)(a0:bA)(a1:Int)(a2:Int)(a3:Int):Option Int:=bd (aC n a0.T.dN.jb a2) λax=>cn ((!ax)) (some 4) (bd (gR n a0.O a0.T a2) λbO=>cn ((bO.uF==3)) (gu (!((((a3==0)&&decide (0<=a1))&&decide (a1<8))==true)||decide (0<=a1))<|cn ((!((((a3==0)&&decide (0<=a1))&&decide (a1<8))&&((sx .u8 (HY .u8 bO.fY a1) 1)==1)))) (some 5) (some 0)) (cn ((bO.uF==1)) (cl (((wr .i64 bO.m0)==a1)==true) (jF n a0 a2 a3) default λdO=>cl ((((wr .i64 bO.m0)==a1)&&dO)==false) (ud n a0 a1 a2 a3) default λcJ=>cn ((!((((wr .i64 bO.m0)==a1)&&dO)||cJ))) (some 5) (some 0)) (some 5)))
def Ae(n:Nat):CT:=cV (tW n [] [aH n,ga n,xN n,yW n]) (ia 222 [.s 15, .i, .w, .v (.int .u8)] [.i]) (a4 (vU n)) u1 m1
def vM(n:Nat)(a0:au)(a1:Int)(a2:Int):Option (Except Int aM):=bd (dP n a0 a1) λax=>tc (ax.2==0) (.error ax.2)<|tc (decide (0<=a2)&&decide (a2<8)) (.error 2)<|some (.ok ax.1)
def xm(n:Nat):CT:=cT (tW n [] [aR n,aQ n,dJ n]) 248 [.s 9, .w, .i] [.s 8] 28 (a3 (vM n)) u1 m1
def G5(n:Nat)(a0:au)(a1:Int)(a2:Int)(a3:Int)(a4:Bool):Option (au×Int):=bd (aC n a0.dN.jb a1) λax=>cl ((ax==true)&&((a3==0)==false)) (aC n a0.dN.jb a3) default λaK=>tc (ax&&((a3==0)||aK)) (ej,4)<|tr (vM n a0 a1 a2) (λUA=>(ej,UA)) λcW=>cl (((a3==0)||a4)==false) (kx n a0 a3 a1) default λeP=>tc (((a3==0)||a4)||eP) (ej,5)<|gu (cG a2 8)<|lt ({cW with oe:=(mW cW.oe (Int.toNat a2) a3)}:aM) λfJ=>bd (kg n a0 a1 fJ) λlJ=>some (lJ.1,lJ.2)
def HO(n:Nat):CT:=cV (tW n [] [aR n,aQ n,aH n,xm n,lX n,lU n]) (ia 246 [.s 9, .w, .i, .w, .b] [.t [.s 9, .i]]) (λx=>G5 n x.1 x.2.1 x.2.2.1 x.2.2.2.1 x.2.2.2.2.1) u2 m2
def G6(n:Nat)(a0:au)(a1:Int)(a2:Int)(a3:Int)(a4:Bool):Option (au×Int):=bd (G5 n a0 a1 a2 a3 a4) λax=>cn ((ax.2!=0)) (some (a0,ax.2)) (some (ax.1,0))
def HP(n:Nat):CT:=cV (tW n [] [HO n]) (ia 213 [.s 9, .w, .i, .w, .b] [.t [.s 9, .i]]) (λx=>G6 n x.1 x.2.1 x.2.2.1 x.2.2.2.1 x.2.2.2.2.1) u2 m2
def Dj(n:Nat)(a0:au)(a1:Int)(a2:Int):Option (Int×Int):=tr (vM n a0 a1 a2) (λkS=>(0,kS)) λax=>gu (cG a2 8)<|tc ((ax.oe (Int.toNat a2))!=0) (0,10)<|bd (aC n a0.dN.jb (ax.oe (Int.toNat a2))) λcZ=>tc cZ (0,4)<|some ((ax.oe (Int.toNat a2)),0)
def EX(n:Nat):CT:=cV (tW n [] [aR n,aQ n,xm n,aH n]) (ia 214 [.s 9, .w, .i] [.t [.w, .i]]) (a3 (Dj n)) u2 m2
def qS(n:Nat):Option ah:=lt ({cK with lB:=(mW cK.lB 0 true)}:ah) λax=>lt ({ax with Ec:=(mW ax.Ec 0 true)}:ah) λbO=>some bO
def xl(n:Nat):CT:=cV (tW n [] []) (ia 46 [] [.s 18]) (λx=>qS n) u1 m1
def fT(n:Nat)(a0:ai)(a1:Int):Option ai:=bd (o7 n a0.aB.eS.T a1) λbC=>dL (λk51 (lJ:Int) (B3:ai)=>cn (decide (lJ<(bC.length:Int))) (gu (cG lJ bC.length)<|bd (dP n B3.aB.eS.T (bC.getD (Int.toNat lJ) default)) λwG=>gu (ij B3.lH.length wG.1.E.qG.length 16)<|lt (B3.lH++wG.1.E.qG:List aq) λF9=>bd (pW n (({B3 with lH:=F9}).aB.eS.K) (bC.getD (Int.toNat lJ) default)) λF7=>k51 (wr .i64 (lJ+1)) ({({B3 with lH:=F9})with aB:={({B3 with lH:=F9}).aB with eS:={(({B3 with lH:=F9}).aB).eS with K:=F7}}})) (bd (Bi n B3.aB.eS.T a1) λSJ=>some ({B3 with aB:={B3.aB with eS:={B3.aB.eS with T:=SJ.1}}}))) n 0 a0
def jJ(n:Nat):CT:=cV (tX n [(3, .loop [(.slot 17,(.v (.int .i64))),(.via 0,cj)])] [pR n,dJ n,uQ n,DW n] [(1,WN)] []) ⟨197,[], .cons cj (.cons (.v (.int .u32)) .nil), .cons (.gO .nil) (.cons cj .nil),[some 0,none], .nil,[],[[0]]⟩ (λx=>fT n (g7 x) x.2.2.2.2.2.2.2.1) (λy=>g7 y) (λz=>(h7 z ()))
def cz(n:Nat)(a0:Int):Option (Except Int Unit):=tc (a0==0) (.error a0)<|some (.ok ())
def bS(n:Nat):CT:=cT (tW n [] [aR n,aQ n]) 186 [.i] [.gO .nil] 28 (a1 (cz n)) (λ_ =>()) (λ_ =>())
def kL(n:Nat)(a0:ai)(a1:Int)(a2:Int):Option (Except Int ai):=bd (xq n a0.aB.eS.O a0.aB.eS.T a1 a2) λbC=>tr (cz n bC.2.2) (λFG=>(.error FG)) λbO=>cn ((bC.2.1==0)) (bd (fT n ({a0 with aB:={a0.aB with eS:={a0.aB.eS with O:=bC.1}}}) a1) λdR=>some (.ok dR)) (some (.ok ({a0 with aB:={a0.aB with eS:={a0.aB.eS with O:=bC.1}}})))
def nP(n:Nat):CT:=cX (tW n [] [aR n,aQ n,BD n,bS n,jJ n]) ⟨205,[], .cons cj (.cons (.v (.int .u32)) (.cons (.v (.int .i64)) .nil)), .cons (.gO .nil) (.cons cj .nil),[some 0,none],(.cons (.gM 28 (.v (.int .i64))) .nil),[],[[0]]⟩ (λx=>kL n (g7 x) x.2.2.2.2.2.2.2.1 x.2.2.2.2.2.2.2.2.1) (λy=>g7 y) (λz=>(h7 z ())) u1 m1
def fS(n:Nat)(a0:ai)(a1:Int)(a2:Int):Option (Except Int ai):=bd (xp n a0.aB.eS.O a0.aB.eS.T a1 a2) λbC=>tr (cz n bC.2) (λFG=>(.error FG)) λbO=>some (.ok ({a0 with aB:={a0.aB with eS:={a0.aB.eS with O:=bC.1}}}))
def gD(n:Nat):CT:=cX (tW n [] [aR n,aQ n,BB n,bS n]) ⟨187,[], .cons cj (.cons (.v (.int .u32)) (.cons (.v (.int .i64)) .nil)), .cons (.gO .nil) (.cons cj .nil),[some 0,none],(.cons (.gM 28 (.v (.int .i64))) .nil),[],[[0]]⟩ (λx=>fS n (g7 x) x.2.2.2.2.2.2.2.1 x.2.2.2.2.2.2.2.2.1) (λy=>g7 y) (λz=>(h7 z ())) u1 m1
def xu(n:Nat)(a0:bE):Option bE:=some a0
def BE(n:Nat):CT:=cV (tW n [] []) ⟨270,[], .cons (.v (.st 17)) .nil, .cons (.fn (.func 276) .nil (.cons (.box 114 (.v (.st 17))) .nil)) .nil,[none], .nil,[],[]⟩ (a1 (xu n)) u1 m1
def rU(n:Nat)(a0:(List aJ)):Option (List aJ):=some a0
def pT(n:Nat)(a0:(List aJ)):Option (List aJ):=gu ((a0.length:Int)==(a0.length:Int))<|gu ((a0.length:Int)==(a0.length:Int))<|some a0
theorem ye(n:Nat)(a0:(List aJ)):pT n a0=rU n a0:=JM.trans JM
def xH(n:Nat):CT:=cV (tW n [] []) (ia 271 [.v (.sl (.st 16))] [.v (.sl (.st 16))]) (a1 (rU n)) u1 m1 (hW:=λx=>Eq.trans (b:=pT n x.1) (by kernel_rfl) (ye ..))
def qT(n:Nat)(a0:bE)(a1:Int):Option Int:=some (Int.tmod (wr .i64 (a0.ua+a1)) 4)
def rj(n:Nat):CT:=cV (tW n [] []) (ia 245 [.s 17, .i] [.i]) (a2 (qT n)) u1 m1
def tV(n:Nat)(a1:bE):Option (List aJ):=gI (λk35 (cJ:Int)=>cn (decide (cJ<a1.n)) (bd (qT n a1 cJ) λiF=>gu (cG iF 4)<|yl (a1.ring (Int.toNat iF))<|k35 (wr .i64 (cJ+1))) (some [])) n 0
def zq(n:Nat):It Tryz.prog sg:=Xp (tX n [(3, .loop [(.slot 6,(.v (.int .i64)))])] [rj n] [] []) 3000 276 (.cons (.box 114 (.v (.st 17))) .nil) (.cons (.v (.st 16)) .nil) (.st (G:=sg) (i:=16) (λ(x:aJ)=>bX.enc dk x) (λJ cs x=>aS.iff (L:=dk)) .nil) (B:=aJ) (λy=>(y,())) (λx=>(x.1)) (λx=>tV n x.1) (λ_ =>rfl) (by kernel_rfl) (λx=>by kernel_rfl)
def zl(n:Nat)(a0:bE):Option (List aJ):=bd (xu n a0) λax=>bd (tV n ax) λbC=>zn (λ(NT:aJ) XJ (dR:(List aJ))=>lt (NT:aJ) λeP=>gu (ij dR.length 1 24)<|lt (dR++([eP]):List aJ) λlR=>XJ lR) (λ(dR:(List aJ))=>some dR) bC ([]:List aJ)
def Cs(n:Nat):CT:=cV (tX n [(7, .loop [(.via 3, .box 288 (.row 111 4 (.st 16)))])] [BE n,xH n] [] [zq n]) (ia 250 [.s 17] [.v (.sl (.st 16))]) (a1 (zl n)) u1 m1
def vu(n:Nat)(a0:bE):Option (bE×(List aJ)):=lt ({ring:=(λ_ =>fz),ua:=0,n:=0,closed:=true}:bE) λax=>bd (zl n a0) λaK=>some (ax,aK)
def z8(n:Nat):CT:=cV (tW n [] [Cs n]) (ia 215 [.s 17] [.t [.s 17, .v (.sl (.st 16))]]) (a1 (vu n)) u2 m2
def mG(n:Nat)(a0:ai)(a1:Int):Option (Except Int ai):=gu (cG a1 8)<|bd (vu n (a0.aB.iD (Int.toNat a1))) λaK=>gu (cG a1 8)<|gu (cG a1 8)<|dL (λk58 (A7:Int) (wu:ai)=>cn (decide (A7<(aK.2.length:Int))) (gu (cG A7 aK.2.length)<|lt ((aK.2.getD (Int.toNat A7) default):aJ) λEf=>cn (((Ef.Region==0)||Ef.v5)) (k58 (wr .i64 (A7+1)) wu) (gu (cG Ef.DJ 8)<|cn ((wu.aB.lB (Int.toNat Ef.DJ))) (tr (fS n wu Ef.Region (wr .i64 Ef.DJ)) (λabx=>(.error abx)) λLr=>k58 (wr .i64 (A7+1)) Lr) (bd (fT n wu Ef.Region) λF7=>k58 (wr .i64 (A7+1)) F7))) (bd (tK n wu.aB.eS.K a1) λJe=>dL (λaaW (Pj:Int) (HJ:ai)=>cn (decide (Pj<(Je.length:Int))) (gu (cG Pj Je.length)<|bd (eJ n HJ.aB.eS.K (Je.getD (Int.toNat Pj) default)) λaaF=>aaW (wr .i64 (Pj+1)) ({HJ with aB:={HJ.aB with eS:={HJ.aB.eS with K:=aaF.1}}})) (bd (vo n HJ.aB.eS.O HJ.aB.eS.T a1) λSO=>dL (λaaV (Ph:Int) (Pg:ai)=>cn (decide (Ph<(SO.length:Int))) (gu (cG Ph SO.length)<|bd (fT n Pg (SO.getD (Int.toNat Ph) default)) λaaE=>aaV (wr .i64 (Ph+1)) aaE) (bd (xo n Pg.aB.eS.O Pg.aB.eS.T a1) λSN=>dL (λaaU (Pf:Int) (WH:ai)=>cn (decide (Pf<(SN.length:Int))) (gu (cG Pf SN.length)<|tr (kL n WH (SN.getD (Int.toNat Pf) default) a1) (λY9=>(.error Y9)) λaaD=>aaU (wr .i64 (Pf+1)) aaD) (some (.ok WH))) n 0 Pg)) n 0 HJ)) n 0 wu)) n 0 ({({a0 with aB:={a0.aB with iD:=(mW a0.aB.iD (Int.toNat a1) aK.1)}})with aB:={({a0 with aB:={a0.aB with iD:=(mW a0.aB.iD (Int.toNat a1) aK.1)}}).aB with lB:=(mW ((({a0 with aB:={a0.aB with iD:=(mW a0.aB.iD (Int.toNat a1) aK.1)}}).aB).lB) (Int.toNat a1) false)}})
def oJ(n:Nat):CT:=cX (tX n [(9, .loop [(.slot 40,(.v (.int .i64))),(.via 0,cj)]),(25, .loop [(.slot 82,(.v (.int .i64))),(.via 0,cj)]),(35, .loop [(.slot 119,(.v (.int .i64))),(.via 0,cj)]),(45, .loop [(.slot 142,(.v (.int .i64))),(.via 0,cj)])] [aR n,aQ n,z8 n,gD n,jJ n,yH n,nf n,z6 n,BA n,nP n] [(4,WN),(12,WN),(17,WN),(22,WN)] []) ⟨161,[], .cons cj (.cons (.v (.int .i64)) .nil), .cons (.gO .nil) (.cons cj .nil),[some 0,none],(.cons (.gM 28 (.v (.int .i64))) .nil),[],[[0]]⟩ (λx=>mG n (g7 x) x.2.2.2.2.2.2.2.1) (λy=>g7 y) (λz=>(h7 z ())) u1 m1
def bD(n:Nat)(a0:ai)(a1:Int)(a2:Int):Option (Except Int Unit):=bd (vU n a0.aB.eS a0.eD a1 a2) λbC=>tr (cz n bC) (λFG=>(.error FG)) λbO=>some (.ok ())
def bG(n:Nat):CT:=cX (tW n [] [aR n,aQ n,Ae n,bS n]) ⟨184,[(187, .st (.part 952 (.v (.st 18)) (.part 1 (.v (.int .i64)) (.part 6 (.v (.st 1)) (.part 2 (.v (.st 6)) (.part 1 (.v (.int .i64)) (.part 1 (.v .bool) (.part 1 (.row 135 2 (.st 6)) .nil))))))))], .cons (.bz 0) (.cons (.v (.int .u32)) (.cons (.v (.int .u8)) .nil)), .cons (.gO .nil) .nil,[],(.cons (.gM 28 (.v (.int .i64))) .nil),[],[]⟩ (λx=>bD n (g7 x) x.2.2.2.2.2.2.2.1 x.2.2.2.2.2.2.2.2.1) (λ_ =>()) (λ_ =>()) u1 m1
def nt(n:Nat)(a0:ai):Option (Except Int (ae×ai)):=lt (λ(SW:Unit)=>bd (C5 n a0.aB.eS.T a0.c.R (wr .i64 (if 65<a0.c.A then 65 else a0.c.A))) λdO=>tr (cz n dO.2.2) (λabE=>(.error abE)) λeP=>cn (((({a0 with aB:={a0.aB with eS:={a0.aB.eS with T:=dO.1}}}).c.R)==0)) (tr (fS n ({a0 with aB:={a0.aB with eS:={a0.aB.eS with T:=dO.1}}}) dO.2.1 (({a0 with aB:={a0.aB with eS:={a0.aB.eS with T:=dO.1}}}).eD)) (λUw=>(.error Uw)) λfJ=>lt ({E:=0,V:=0,W:=dO.2.1}:ae) λwu=>some (.ok (wu,fJ))) (lt ({E:=0,V:=0,W:=dO.2.1}:ae) λJg=>some (.ok (Jg,{a0 with aB:={a0.aB with eS:={a0.aB.eS with T:=dO.1}}})))) λO0=>cn ((a0.c.R !=0)) (tr (bD n a0 a0.c.R 1) (λDb=>(.error Db)) λbC=>O0 ()) (O0 ())
def pL(n:Nat):CT:=cX (tW n [(6, .join [(.via 0,cj)] [])] [aR n,aQ n,bG n,EV n,bS n,gD n]) ⟨163,[], .cons cj .nil, .cons (.v (.st 0)) (.cons cj .nil),[some 0,none],(.cons (.gM 28 (.v (.int .i64))) .nil),[],[[0]]⟩ (λx=>nt n (g7 x)) (λy=>(y.1,g7 y.2)) (λz=>(z.1,(h7 z.2 ()))) u1 m1
def eL(n:Nat)(a0:ai)(a1:Int):Option (Except Int aM):=bd (dP n a0.aB.eS.T a1) λbC=>tr (cz n bC.2) (λIK=>(.error IK)) λgQ=>some (.ok bC.1)
def fA(n:Nat):CT:=cX (tW n [] [aR n,aQ n,dJ n,bS n]) ⟨189,[(187, .st (.part 952 (.v (.st 18)) (.part 1 (.v (.int .i64)) (.part 6 (.v (.st 1)) (.part 2 (.v (.st 6)) (.part 1 (.v (.int .i64)) (.part 1 (.v .bool) (.part 1 (.row 135 2 (.st 6)) .nil))))))))], .cons (.bz 0) (.cons (.v (.int .u32)) .nil), .cons (.v (.st 8)) .nil,[],(.cons (.gM 28 (.v (.int .i64))) .nil),[],[]⟩ (λx=>eL n (g7 x) x.2.2.2.2.2.2.2.1) u1 m1 u1 m1
def nq(n:Nat)(a0:ai)(a1:Int)(a2:aM):Option (Except Int ai):=bd (kg n a0.aB.eS.T a1 a2) λbC=>tr (cz n bC.2) (λIK=>(.error IK)) λgQ=>some (.ok ({a0 with aB:={a0.aB with eS:={a0.aB.eS with T:=bC.1}}}))
def pJ(n:Nat):CT:=cX (tW n [] [aR n,aQ n,lU n,bS n]) ⟨194,[], .cons cj (.cons (.v (.int .u32)) (.cons (.v (.st 8)) .nil)), .cons (.gO .nil) (.cons cj .nil),[some 0,none],(.cons (.gM 28 (.v (.int .i64))) .nil),[],[[0]]⟩ (λx=>nq n (g7 x) x.2.2.2.2.2.2.2.1 x.2.2.2.2.2.2.2.2.1) (λy=>g7 y) (λz=>(h7 z ())) u1 m1
def kO(n:Nat)(a0:ai):Option (Except Int (ae×ai)):=bd (zy n (wr .i64 (if 129<a0.c.A then 129 else a0.c.A)) (wr .i64 (if 9<a0.c.B then 9 else a0.c.B))) λax=>tc ax.2 (.error 2)<|tr (bD n a0 a0.c.R 1) (λDb=>(.error Db)) λbC=>tr (eL n a0 a0.c.R) (λFG=>(.error FG)) λbO=>lt (λ(iF:aM) (fJ:ai)=>bd (qW n iF.E (wr .i64 (if 129<a0.c.A then 129 else a0.c.A)) (wr .i64 (if 9<a0.c.B then 9 else a0.c.B))) λEe=>lt ({iF with E:=Ee.1}:aM) λx85=>tr (nq n fJ fJ.c.R x85) (λabw=>(.error abw)) λOW=>lt ({E:=0,V:=wr .u64 Ee.2.1,W:=0}:ae) λx99=>some (.ok (x99,OW))) λj45=>bd (kR n bO.E (wr .i64 (if 129<a0.c.A then 129 else a0.c.A)) (wr .i64 (if 9<a0.c.B then 9 else a0.c.B))) λCk=>cn ((!Ck.2)) (bd (dM n bO.E) λES=>tc (decide ((wr .i64 (ES+ax.1))<=bO.ug)) (.error 6)<|cn (({a0 with my:=ax.1}).Dp) (lt ({E:=0,V:=0,W:=0}:ae) λJf=>some (.ok (Jf,{a0 with my:=ax.1}))) (bd (ig n bO.E (({a0 with my:=ax.1}).run)) λEf=>lt ({bO with E:=Ef}:aM) λF9=>cl (((({a0 with my:=ax.1}).run.N)==ax.1)==true) (mP n F9.E) default λBv=>tc (((({a0 with my:=ax.1}).run.N)==ax.1)&&Bv) (.error 2)<|j45 F9 ({a0 with my:=ax.1}))) (j45 bO a0)
def nS(n:Nat):CT:=cX (tW n [(28, .join [(.via 7, .box 92 (.v (.st 8))),(.via 0,cj),(.via 2, .box 62 (.v (.st 0)))] [])] [aR n,aQ n,Cw n,bG n,fA n,nT n,fB n,uT n,oM n,wN n,pJ n]) ⟨164,[], .cons cj .nil, .cons (.v (.st 0)) (.cons cj .nil),[some 0,none],(.cons (.gM 28 (.v (.int .i64))) .nil),[],[[0]]⟩ (λx=>kO n (g7 x)) (λy=>(y.1,g7 y.2)) (λz=>(z.1,(h7 z.2 ()))) u1 m1
def vq(n:Nat)(a0:aM)(a1:aI):Option (Except Int Unit):=tc (decide ((wr .i64 a1.A)<=(wr .i64 (a0.E.Km-(wr .i64 a1.B))))) (.error 9)<|some (.ok ())
def xk(n:Nat):CT:=cT (tW n [] [aR n,aQ n]) 196 [.s 8, .s 1] [.gO .nil] 28 (a2 (vq n)) (λ_ =>()) (λ_ =>())
def vp(n:Nat)(a0:aI):Option (Except Int Unit):=tc (decide (1<=a0.B)&&decide (a0.B<=8)) (.error 2)<|some (.ok ())
def xj(n:Nat):CT:=cT (tW n [] [aR n,aQ n]) 195 [.s 1] [.gO .nil] 28 (a1 (vp n)) (λ_ =>()) (λ_ =>())
def mA(n:Nat)(a0:ai):Option (Except Int ae):=tr (vp n a0.c) (λkS=>(.error kS)) λax=>tr (bD n a0 a0.c.R 0) (λvK=>(.error vK)) λaK=>tr (eL n a0 a0.c.R) (λDb=>(.error Db)) λbC=>tr (vq n bC a0.c) (λUy=>(.error Uy)) λdc=>lt ({E:=0,V:=0,W:=0}:ae) λgQ=>some (.ok gQ)
def oE(n:Nat):CT:=cX (tW n [] [aR n,aQ n,xj n,bG n,fA n,xk n]) ⟨165,[(187, .st (.part 952 (.v (.st 18)) (.part 1 (.v (.int .i64)) (.part 6 (.v (.st 1)) (.part 2 (.v (.st 6)) (.part 1 (.v (.int .i64)) (.part 1 (.v .bool) (.part 1 (.row 135 2 (.st 6)) .nil))))))))], .cons (.bz 0) .nil, .cons (.v (.st 0)) .nil,[],(.cons (.gM 28 (.v (.int .i64))) .nil),[],[]⟩ (λx=>mA n (g7 x)) u1 m1 u1 m1
def kG(n:Nat)(a0:ai):Option (Except Int ae):=tr (vp n a0.c) (λkS=>(.error kS)) λax=>tr (bD n a0 a0.c.R 1) (λvK=>(.error vK)) λaK=>tr (eL n a0 a0.c.R) (λDb=>(.error Db)) λbC=>tr (vq n bC a0.c) (λUy=>(.error Uy)) λdc=>lt ({E:=0,V:=0,W:=0}:ae) λgQ=>some (.ok gQ)
def nK(n:Nat):CT:=cX (tW n [] [aR n,aQ n,xj n,bG n,fA n,xk n]) ⟨166,[(187, .st (.part 952 (.v (.st 18)) (.part 1 (.v (.int .i64)) (.part 6 (.v (.st 1)) (.part 2 (.v (.st 6)) (.part 1 (.v (.int .i64)) (.part 1 (.v .bool) (.part 1 (.row 135 2 (.st 6)) .nil))))))))], .cons (.bz 0) .nil, .cons (.v (.st 0)) .nil,[],(.cons (.gM 28 (.v (.int .i64))) .nil),[],[]⟩ (λx=>kG n (g7 x)) u1 m1 u1 m1
def kJ(n:Nat)(a0:ai):Option (Except Int (ae×ai)):=tr (bD n a0 a0.c.R 1) (λkS=>(.error kS)) λax=>tr (eL n a0 a0.c.R) (λvK=>(.error vK)) λaK=>gu (ij a0.lH.length aK.E.qG.length 16)<|lt (a0.lH++aK.E.qG:List aq) λeP=>lt ({Up:=0,ug:=aK.ug,E:=cv,oe:=(λ_ =>0)}:aM) λgP=>tr (nq n ({a0 with lH:=eP}) (({a0 with lH:=eP}).c.R) gP) (λabA=>(.error abA)) λzT=>lt ({E:=0,V:=0,W:=0}:ae) λwG=>some (.ok (wG,zT))
def nN(n:Nat):CT:=cX (tW n [] [aR n,aQ n,bG n,fA n,pJ n]) ⟨167,[], .cons cj .nil, .cons (.v (.st 0)) (.cons cj .nil),[some 0,none],(.cons (.gM 28 (.v (.int .i64))) .nil),[],[[0]]⟩ (λx=>kJ n (g7 x)) (λy=>(y.1,g7 y.2)) (λz=>(z.1,(h7 z.2 ()))) u1 m1
def jP(n:Nat)(a0:ai):Option (Except Int (ae×ai)):=tr (bD n a0 a0.c.R 2) (λkS=>(.error kS)) λax=>bd (fT n a0 a0.c.R) λaK=>lt ({E:=0,V:=0,W:=0}:ae) λeC=>some (.ok (eC,aK))
def nh(n:Nat):CT:=cX (tW n [] [aR n,aQ n,bG n,jJ n]) ⟨168,[], .cons cj .nil, .cons (.v (.st 0)) (.cons cj .nil),[some 0,none],(.cons (.gM 28 (.v (.int .i64))) .nil),[],[[0]]⟩ (λx=>jP n (g7 x)) (λy=>(y.1,g7 y.2)) (λz=>(z.1,(h7 z.2 ()))) u1 m1
def iS(n:Nat)(a0:ai)(a1:Int):Option (Except Int ai):=bd (C6 n a0.aB.eS.T a1) λbC=>tr (cz n bC.2) (λIK=>(.error IK)) λgQ=>some (.ok ({a0 with aB:={a0.aB with eS:={a0.aB.eS with T:=bC.1}}}))
def jI(n:Nat):CT:=cX (tW n [] [aR n,aQ n,EW n,bS n]) ⟨199,[], .cons cj (.cons (.v (.int .u32)) .nil), .cons (.gO .nil) (.cons cj .nil),[some 0,none],(.cons (.gM 28 (.v (.int .i64))) .nil),[],[[0]]⟩ (λx=>iS n (g7 x) x.2.2.2.2.2.2.2.1) (λy=>g7 y) (λz=>(h7 z ())) u1 m1
def nu(n:Nat)(a0:ai):Option (Except Int (ae×ai)):=tr (bD n a0 a0.c.R 2) (λkS=>(.error kS)) λax=>bd (fU n a0.aB.eS.T a0.c.R) λbO=>tc (bO !=a0.c.R) (.error 12)<|tr (iS n a0 a0.c.R) (λUz=>(.error Uz)) λdO=>tr (fS n dO dO.c.R dO.eD) (λabD=>(.error abD)) λei=>lt ({E:=0,V:=0,W:=0}:ae) λCk=>some (.ok (Ck,ei))
def pM(n:Nat):CT:=cX (tW n [] [aR n,aQ n,bG n,eU n,jI n,gD n]) ⟨169,[], .cons cj .nil, .cons (.v (.st 0)) (.cons cj .nil),[some 0,none],(.cons (.gM 28 (.v (.int .i64))) .nil),[],[[0]]⟩ (λx=>nu n (g7 x)) (λy=>(y.1,g7 y.2)) (λz=>(z.1,(h7 z.2 ()))) u1 m1
def kK(n:Nat)(a0:ai):Option (Except Int (ae×ai)):=tr (bD n a0 a0.c.R 2) (λkS=>(.error kS)) λax=>tr (bD n a0 a0.c.S 1) (λvK=>(.error vK)) λaK=>bd (zw n a0.aB.eS.T a0.c.R a0.c.S) λcW=>tr (cz n cW.2) (λabF=>(.error abF)) λbM=>lt ({E:=0,V:=0,W:=0}:ae) λlR=>some (.ok (lR,{a0 with aB:={a0.aB with eS:={a0.aB.eS with T:=cW.1}}}))
def nO(n:Nat):CT:=cX (tW n [] [aR n,aQ n,bG n,Cu n,bS n]) ⟨170,[], .cons cj .nil, .cons (.v (.st 0)) (.cons cj .nil),[some 0,none],(.cons (.gM 28 (.v (.int .i64))) .nil),[],[[0]]⟩ (λx=>kK n (g7 x)) (λy=>(y.1,g7 y.2)) (λz=>(z.1,(h7 z.2 ()))) u1 m1
def jO(n:Nat)(a0:ai):Option (Except Int (ae×ai)):=tr (bD n a0 a0.c.R 2) (λkS=>(.error kS)) λax=>tr (iS n a0 a0.c.R) (λvK=>(.error vK)) λaK=>bd (tS n aK.aB.eS.O aK.aB.eS.T aK.c.R aK.eD) λeP=>tr (cz n eP.2) (λUx=>(.error Ux)) λiF=>lt ({E:=0,V:=0,W:=0}:ae) λq9=>some (.ok (q9,{aK with aB:={aK.aB with eS:={aK.aB.eS with O:=eP.1}}}))
def ng(n:Nat):CT:=cX (tW n [] [aR n,aQ n,bG n,jI n,yR n,bS n]) ⟨171,[], .cons cj .nil, .cons (.v (.st 0)) (.cons cj .nil),[some 0,none],(.cons (.gM 28 (.v (.int .i64))) .nil),[],[[0]]⟩ (λx=>jO n (g7 x)) (λy=>(y.1,g7 y.2)) (λz=>(z.1,(h7 z.2 ()))) u1 m1
def gZ(n:Nat)(a0:ai)(a1:Int):Option (Except Int Unit):=bd (aC n a0.aB.eS.T.dN.jb a1) λax=>tc ax (.error 4)<|bd (gR n a0.aB.eS.O a0.aB.eS.T a1) λcW=>bd (fU n a0.aB.eS.T a1) λdR=>tc ((dR==a1)&&(cW.uF==3)) (.error 12)<|gu (decide (0<=a0.eD))<|tc ((sx .u8 (HY .u8 cW.fY a0.eD) 1)==1) (.error 5)<|some (.ok ())
def jd(n:Nat):CT:=cX (tW n [] [aR n,aQ n,aH n,ga n,eU n]) ⟨203,[(187, .st (.part 952 (.v (.st 18)) (.part 1 (.v (.int .i64)) (.part 6 (.v (.st 1)) (.part 2 (.v (.st 6)) (.part 1 (.v (.int .i64)) (.part 1 (.v .bool) (.part 1 (.row 135 2 (.st 6)) .nil))))))))], .cons (.bz 0) (.cons (.v (.int .u32)) .nil), .cons (.gO .nil) .nil,[],(.cons (.gM 28 (.v (.int .i64))) .nil),[],[]⟩ (λx=>gZ n (g7 x) x.2.2.2.2.2.2.2.1) (λ_ =>()) (λ_ =>()) u1 m1
def fk(n:Nat)(a0:ai)(a1:Int):Option (Except Int Unit):=gu (!((decide (a1<8))==true)||cG a1 8)<|tc (decide (a1<8)&&(a0.aB.lB (Int.toNat a1))) (.error 2)<|some (.ok ())
def fO(n:Nat):CT:=cX (tW n [] [aR n,aQ n]) ⟨202,[(187, .st (.part 952 (.v (.st 18)) (.part 1 (.v (.int .i64)) (.part 6 (.v (.st 1)) (.part 2 (.v (.st 6)) (.part 1 (.v (.int .i64)) (.part 1 (.v .bool) (.part 1 (.row 135 2 (.st 6)) .nil))))))))], .cons (.bz 0) (.cons (.v (.int .u32)) .nil), .cons (.gO .nil) .nil,[],(.cons (.gM 28 (.v (.int .i64))) .nil),[],[]⟩ (λx=>fk n (g7 x) x.2.2.2.2.2.2.2.1) (λ_ =>()) (λ_ =>()) u1 m1
def kI(n:Nat)(a0:ai):Option (Except Int (ae×ai)):=tr (fk n a0 a0.c.A) (λkS=>(.error kS)) λax=>tr (gZ n a0 a0.c.R) (λvK=>(.error vK)) λaK=>bd (ry n a0.aB.eS.O a0.aB.eS.T a0.c.R (wr .i64 a0.c.A)) λcW=>tr (cz n cW.2) (λUz=>(.error Uz)) λdO=>lt ({E:=0,V:=0,W:=0}:ae) λcZ=>some (.ok (cZ,{a0 with aB:={a0.aB with eS:={a0.aB.eS with O:=cW.1}}}))
def nM(n:Nat):CT:=cX (tW n [] [aR n,aQ n,fO n,jd n,tD n,bS n]) ⟨172,[], .cons cj .nil, .cons (.v (.st 0)) (.cons cj .nil),[some 0,none],(.cons (.gM 28 (.v (.int .i64))) .nil),[],[[0]]⟩ (λx=>kI n (g7 x)) (λy=>(y.1,g7 y.2)) (λz=>(z.1,(h7 z.2 ()))) u1 m1
def mF(n:Nat)(a0:ai):Option (Except Int (ae×ai)):=tr (gZ n a0 a0.c.R) (λkS=>(.error kS)) λax=>tr (kL n a0 a0.c.R a0.eD) (λvK=>(.error vK)) λaK=>lt ({E:=0,V:=0,W:=0}:ae) λeC=>some (.ok (eC,aK))
def oI(n:Nat):CT:=cX (tW n [] [aR n,aQ n,jd n,nP n]) ⟨173,[], .cons cj .nil, .cons (.v (.st 0)) (.cons cj .nil),[some 0,none],(.cons (.gM 28 (.v (.int .i64))) .nil),[],[[0]]⟩ (λx=>mF n (g7 x)) (λy=>(y.1,g7 y.2)) (λz=>(z.1,(h7 z.2 ()))) u1 m1
def mB(n:Nat)(a0:ai):Option (Except Int (ae×ai)):=tr (fk n a0 a0.c.A) (λkS=>(.error kS)) λax=>tc (decide (a0.c.B<=1)) (.error 2)<|bd (aC n a0.aB.eS.T.dN.jb a0.c.R) λbC=>tc bC (.error 4)<|lt (λ(u25:Unit)=>lt ({Region:=a0.c.R,By:=wr .u8 a0.eD,To:=wr .u8 a0.c.A,jG:=(a0.c.B==1),q7:=a0.c.S}:aW) λbM=>bd (qL n a0.aB.eS.K bM) λeP=>tr (cz n eP.2.2) (λUx=>(.error Ux)) λiF=>lt ({E:=0,V:=0,W:=eP.2.1}:ae) λq9=>some (.ok (q9,{a0 with aB:={a0.aB with eS:={a0.aB.eS with K:=eP.1}}}))) λj26=>cn ((a0.c.S==0)) (bd (gR n a0.aB.eS.O a0.aB.eS.T a0.c.R) λgC=>tc ((gC.uF==1)&&((wr .i64 gC.m0)==a0.eD)) (.error 5)<|j26 ()) (bd (bR n a0.aB.eS.K a0.c.S) λdc=>tr (cz n dc.2) (λIK=>(.error IK)) λgQ=>tc (((wr .i64 dc.1.To)==a0.eD)&&(dc.1.Region==a0.c.R)) (.error 5)<|j26 ())
def oF(n:Nat):CT:=cX (tW n [(20, .join [] [])] [aR n,aQ n,fO n,aH n,ga n,cR n,bS n,wJ n]) ⟨174,[], .cons cj .nil, .cons (.v (.st 0)) (.cons cj .nil),[some 0,none],(.cons (.gM 28 (.v (.int .i64))) .nil),[],[[0]]⟩ (λx=>mB n (g7 x)) (λy=>(y.1,g7 y.2)) (λz=>(z.1,(h7 z.2 ()))) u1 m1
def iO(n:Nat)(a0:ai):Option (Except Int (ae×ai)):=bd (bR n a0.aB.eS.K a0.c.S) λax=>tr (cz n ax.2) (λvK=>(.error vK)) λaK=>tc ((wr .i64 ax.1.To)==a0.eD) (.error 5)<|bd (eJ n a0.aB.eS.K a0.c.S) λbO=>lt ({E:=0,V:=0,W:=0}:ae) λbM=>some (.ok (bM,{a0 with aB:={a0.aB with eS:={a0.aB.eS with K:=bO.1}}}))
def kZ(n:Nat):CT:=cX (tW n [] [aR n,aQ n,cR n,bS n,nf n]) ⟨175,[], .cons cj .nil, .cons (.v (.st 0)) (.cons cj .nil),[some 0,none],(.cons (.gM 28 (.v (.int .i64))) .nil),[],[[0]]⟩ (λx=>iO n (g7 x)) (λy=>(y.1,g7 y.2)) (λz=>(z.1,(h7 z.2 ()))) u1 m1
def zk(n:Nat)(a0:bE)(a1:aJ):Option (bE×Int):=cn (a0.closed) (some (a0,11)) (cn ((a0.n==4)) (some (a0,7)) (bd (qT n a0 a0.n) λax=>gu (cG ax 4)<|lt ({a0 with ring:=(mW a0.ring (Int.toNat ax) a1)}:bE) λbC=>lt ({bC with n:=wr .i64 (bC.n+1)}:bE) λbO=>some (bO,0)))
def Cr(n:Nat):CT:=cV (tW n [] [rj n]) (ia 210 [.s 17, .s 16] [.t [.s 17, .i]]) (a2 (zk n)) u2 m2
def mz(n:Nat)(a0:ai):Option (Except Int (ae×ai)):=tr (fk n a0 a0.c.A) (λkS=>(.error kS)) λax=>tc (decide (a0.c.B<=1)) (.error 2)<|lt ({DJ:=wr .u8 a0.eD,D3:=a0.c.V,Region:=a0.c.R,v5:=((a0.c.R !=0)&&(a0.c.B==1))}:aJ) λbC=>lt (λ(dO:ai)=>gu (cG dO.c.A 8)<|bd (zk n (dO.aB.iD (Int.toNat dO.c.A)) bC) λEf=>tr (cz n Ef.2) (λaby=>(.error aby)) λPe=>gu (cG dO.c.A 8)<|lt ({E:=0,V:=0,W:=0}:ae) λRD=>some (.ok (RD,{dO with aB:={dO.aB with iD:=(mW dO.aB.iD (Int.toNat dO.c.A) Ef.1)}}))) λOZ=>cn (bC.v5) (tr (gZ n a0 a0.c.R) (λabG=>(.error abG)) λeC=>bd (ry n a0.aB.eS.O a0.aB.eS.T a0.c.R (wr .i64 a0.c.A)) λiF=>cn ((iF.2==0)) (OZ ({a0 with aB:={a0.aB with eS:={a0.aB.eS with O:=iF.1}}})) (OZ a0)) (cn ((a0.c.R !=0)) (tr (bD n a0 a0.c.R 2) (λabC=>(.error abC)) λq9=>tr (iS n a0 a0.c.R) (λabB=>(.error abB)) λgP=>bd (zb n gP.aB.eS.O gP.aB.eS.T gP.c.R) λuH=>tr (cz n uH.2) (λabz=>(.error abz)) λwG=>OZ ({gP with aB:={gP.aB with eS:={gP.aB.eS with O:=uH.1}}})) (OZ a0))
def oC(n:Nat):CT:=cX (tW n [(30, .join [(.via 0,cj)] [])] [aR n,aQ n,fO n,jd n,tD n,bG n,jI n,Co n,bS n,Cr n]) ⟨176,[], .cons cj .nil, .cons (.v (.st 0)) (.cons cj .nil),[some 0,none],(.cons (.gM 28 (.v (.int .i64))) .nil),[],[[0]]⟩ (λx=>mz n (g7 x)) (λy=>(y.1,g7 y.2)) (λz=>(z.1,(h7 z.2 ()))) u1 m1
def xw(n:Nat)(a0:bE):Option (bE×aJ×Int):=cn (((a0.n==0)&&a0.closed)) (lt ({DJ:=0,D3:=0,Region:=0,v5:=false}:aJ) λax=>some (a0,ax,11)) (cn ((a0.n==0)) (lt ({DJ:=0,D3:=0,Region:=0,v5:=false}:aJ) λaK=>some (a0,aK,10)) (gu (cG a0.ua 4)<|lt ((a0.ring (Int.toNat a0.ua)):aJ) λbO=>bd (qT n a0 1) λcW=>lt ({a0 with ua:=cW}:bE) λdO=>lt ({dO with n:=wr .i64 (a0.n-1)}:bE) λcJ=>some (cJ,bO,0)))
def BF(n:Nat):CT:=cV (tW n [] [rj n]) (ia 211 [.s 17] [.t [.s 17, .s 16, .i]]) (a1 (xw n)) u3 m3
def fR(n:Nat)(a0:ai):Option (Except Int (ae×ai)):=gu (cG a0.eD 8)<|bd (xw n (a0.aB.iD (Int.toNat a0.eD))) λaK=>tr (cz n aK.2.2) (λDb=>(.error Db)) λbC=>gu (cG a0.eD 8)<|cn (((aK.2.1.Region !=0)&&(!aK.2.1.v5))) (tr (fS n ({a0 with aB:={a0.aB with iD:=(mW a0.aB.iD (Int.toNat a0.eD) aK.1)}}) aK.2.1.Region (({a0 with aB:={a0.aB with iD:=(mW a0.aB.iD (Int.toNat a0.eD) aK.1)}}).eD)) (λabH=>(.error abH)) λdR=>lt ({E:=0,V:=aK.2.1.D3,W:=aK.2.1.Region}:ae) λfJ=>some (.ok (fJ,dR))) (lt ({E:=0,V:=aK.2.1.D3,W:=aK.2.1.Region}:ae) λgP=>some (.ok (gP,{a0 with aB:={a0.aB with iD:=(mW a0.aB.iD (Int.toNat a0.eD) aK.1)}})))
def oD(n:Nat):CT:=cX (tW n [] [aR n,aQ n,BF n,bS n,gD n]) ⟨177,[], .cons cj .nil, .cons (.v (.st 0)) (.cons cj .nil),[some 0,none],(.cons (.gM 28 (.v (.int .i64))) .nil),[],[[0]]⟩ (λx=>fR n (g7 x)) (λy=>(y.1,g7 y.2)) (λz=>(z.1,(h7 z.2 ()))) u1 m1
def vx(n:Nat)(a0:bE):Option (bE×Int):=cn (a0.closed) (some (a0,11)) (lt ({a0 with closed:=true}:bE) λax=>some (ax,0))
def z9(n:Nat):CT:=cV (tW n [] []) (ia 212 [.s 17] [.t [.s 17, .i]]) (a1 (vx n)) u2 m2
def kN(n:Nat)(a0:ai):Option (Except Int (ae×ai)):=gu (cG a0.eD 8)<|bd (vx n (a0.aB.iD (Int.toNat a0.eD))) λaK=>tr (cz n aK.2) (λDb=>(.error Db)) λbC=>gu (cG a0.eD 8)<|lt ({E:=0,V:=0,W:=0}:ae) λdR=>some (.ok (dR,{a0 with aB:={a0.aB with iD:=(mW a0.aB.iD (Int.toNat a0.eD) aK.1)}}))
def nR(n:Nat):CT:=cX (tW n [] [aR n,aQ n,z9 n,bS n]) ⟨178,[], .cons cj .nil, .cons (.v (.st 0)) (.cons cj .nil),[some 0,none],(.cons (.gM 28 (.v (.int .i64))) .nil),[],[[0]]⟩ (λx=>kN n (g7 x)) (λy=>(y.1,g7 y.2)) (λz=>(z.1,(h7 z.2 ()))) u1 m1
def nr(n:Nat)(a0:ai):Option (Except Int (ae×ai)):=tr (bD n a0 a0.c.R 1) (λkS=>(.error kS)) λax=>lt (λ(u22:Unit)=>bd (gR n a0.aB.eS.O a0.aB.eS.T a0.c.S) λgC=>bd (G6 n a0.aB.eS.T a0.c.R (wr .i64 (if 8<a0.c.A then 8 else a0.c.A)) a0.c.S (gC.uF==3)) λcZ=>tr (cz n cZ.2) (λUw=>(.error Uw)) λfJ=>lt ({E:=0,V:=0,W:=0}:ae) λB3=>some (.ok (B3,{a0 with aB:={a0.aB with eS:={a0.aB.eS with T:=cZ.1}}}))) λj23=>cn ((a0.c.S !=0)) (tr (bD n a0 a0.c.S 0) (λFG=>(.error FG)) λbO=>j23 ()) (j23 ())
def pK(n:Nat):CT:=cX (tW n [(8, .join [(.via 0,cj)] [])] [aR n,aQ n,bG n,ga n,HP n,bS n]) ⟨179,[], .cons cj .nil, .cons (.v (.st 0)) (.cons cj .nil),[some 0,none],(.cons (.gM 28 (.v (.int .i64))) .nil),[],[[0]]⟩ (λx=>nr n (g7 x)) (λy=>(y.1,g7 y.2)) (λz=>(z.1,(h7 z.2 ()))) u1 m1
def kM(n:Nat)(a0:ai):Option (Except Int ae):=tr (bD n a0 a0.c.R 0) (λkS=>(.error kS)) λax=>bd (Dj n a0.aB.eS.T a0.c.R (wr .i64 (if 8<a0.c.A then 8 else a0.c.A))) λbO=>tr (cz n bO.2) (λUA=>(.error UA)) λcW=>lt ({E:=0,V:=0,W:=bO.1}:ae) λdO=>some (.ok dO)
def nQ(n:Nat):CT:=cX (tW n [] [aR n,aQ n,bG n,EX n,bS n]) ⟨180,[(187, .st (.part 952 (.v (.st 18)) (.part 1 (.v (.int .i64)) (.part 6 (.v (.st 1)) (.part 2 (.v (.st 6)) (.part 1 (.v (.int .i64)) (.part 1 (.v .bool) (.part 1 (.row 135 2 (.st 6)) .nil))))))))], .cons (.bz 0) .nil, .cons (.v (.st 0)) .nil,[],(.cons (.gM 28 (.v (.int .i64))) .nil),[],[]⟩ (λx=>kM n (g7 x)) u1 m1 u1 m1
def mE(n:Nat)(a0:ai):Option (Except Int (ae×ai)):=tr (mG n a0 a0.eD) (λkS=>(.error kS)) λax=>lt ({E:=0,V:=0,W:=0}:ae) λgQ=>some (.ok (gQ,ax))
def oH(n:Nat):CT:=cX (tW n [] [aR n,aQ n,oJ n]) ⟨181,[], .cons cj .nil, .cons (.v (.st 0)) (.cons cj .nil),[some 0,none],(.cons (.gM 28 (.v (.int .i64))) .nil),[],[[0]]⟩ (λx=>mE n (g7 x)) (λy=>(y.1,g7 y.2)) (λz=>(z.1,(h7 z.2 ()))) u1 m1
def mD(n:Nat)(a0:ai):Option (Except Int (ae×ai)):=tr (fk n a0 a0.c.A) (λkS=>(.error kS)) λax=>tr (mG n a0 (wr .i64 a0.c.A)) (λvK=>(.error vK)) λaK=>lt ({E:=0,V:=0,W:=0}:ae) λeC=>some (.ok (eC,aK))
def oG(n:Nat):CT:=cX (tW n [] [aR n,aQ n,fO n,oJ n]) ⟨182,[], .cons cj .nil, .cons (.v (.st 0)) (.cons cj .nil),[some 0,none],(.cons (.gM 28 (.v (.int .i64))) .nil),[],[[0]]⟩ (λx=>mD n (g7 x)) (λy=>(y.1,g7 y.2)) (λz=>(z.1,(h7 z.2 ()))) u1 m1
def kH(n:Nat)(a0:ai):Option (Except Int (ae×ai)):=gu (!((decide (a0.c.A<8))==true)||cG (Int.tmod a0.c.A 8) 8)<|tc (decide (a0.c.A<8)&&(!(a0.aB.Ec (Int.toNat (Int.tmod a0.c.A 8))))) (.error 2)<|gu (cG a0.c.A 8)<|gu (cG a0.c.A 8)<|lt ({E:=0,V:=0,W:=0}:ae) λdc=>some (.ok (dc,{({a0 with aB:={a0.aB with lB:=(mW a0.aB.lB (Int.toNat a0.c.A) true)}})with aB:={({a0 with aB:={a0.aB with lB:=(mW a0.aB.lB (Int.toNat a0.c.A) true)}}).aB with Ec:=(mW ((({a0 with aB:={a0.aB with lB:=(mW a0.aB.lB (Int.toNat a0.c.A) true)}}).aB).Ec) (Int.toNat a0.c.A) true)}}))
def nL(n:Nat):CT:=cX (tW n [] [aR n,aQ n]) ⟨183,[], .cons cj .nil, .cons (.v (.st 0)) (.cons cj .nil),[some 0,none],(.cons (.gM 28 (.v (.int .i64))) .nil),[],[[0]]⟩ (λx=>kH n (g7 x)) (λy=>(y.1,g7 y.2)) (λz=>(z.1,(h7 z.2 ()))) u1 m1
end
end Go.Proofs.Z
namespace Go.Proofs.Z
open Go Go.Bw Go.Rw Go.RowKit
abbrev Vr:=Nat->ai->Option (Except Int (ae×ai))
def GC(g:Nat->ai->Option (Except Int ae)):Vr:=λn a=>match g n a with
 |some (.ok r)=>some (.ok (r,a))
 |some (.error e)=>some (.error e)
 |none=>none
def G1:List (Int×Nat×Vr):=[(1,163,nt),(2,164,kO),(3,165,GC mA),(4,166,GC kG),(5,167,kJ),(6,168,jP),(7,169,nu),(8,170,kK),(9,171,jO),(10,172,kI),(11,173,mF),(12,174,mB),(13,175,iO),(14,176,mz),(15,177,fR),(16,177,fR),(17,178,kN),(18,179,nr),(19,180,GC kM),(20,181,mE),(21,182,mD),(22,183,kH)]
def NY(k:Int):Option (Int×Nat×Vr):=G1.find? λx=>k==x.1
def g5(n:Nat)(a0:ai):Option (ae×Option ai):=
 gu (!((decide (0<=a0.eD)&&decide (a0.eD<8))==true)||cG (sx .i64 a0.eD 7) 8)<|
 tc ((decide (0<=a0.eD)&&decide (a0.eD<8))&&(a0.aB.lB (Int.toNat (sx .i64 a0.eD 7)))) (⟨12,0,0⟩,none)<|
 match NY a0.c.Do with
 |none=>some (⟨2,0,0⟩,none)
 |some x=>tr (x.2.2 n a0) (λe=>(⟨e,0,0⟩,none)) λy=>some (y.1,some y.2)
def mC{Z:Type}(m:Option (Except Int (ae×ai)))(KO:ae->ai->Option Z)(KE:Int->Option Z):Option Z:=bd m λr=>match r with
 | .ok z=>KO z.1 z.2
 | .error e=>KE e
def kC{Z:Type}(m:Option (Except Int ae))(a:ai)(KO:ae->ai->Option Z)(KE:Int->Option Z):Option Z:=bd m λr=>match r with
 | .ok z=>KO z a
 | .error e=>KE e
def cD{Z:Type}(n:Nat)(a:ai)(KO:ae->ai->Option Z)(KM KK:Int->Option Z)(KN:Option Z):Option Z:=cn (a.c.Do==1) (mC (nt n a) KO KM)<|cn (a.c.Do==2) (mC (kO n a) KO KM)<|cn (a.c.Do==3) (kC (mA n a) a KO KK)<|cn (a.c.Do==4) (kC (kG n a) a KO KK)<|cn (a.c.Do==5) (mC (kJ n a) KO KM)<|cn (a.c.Do==6) (mC (jP n a) KO KM)<|cn (a.c.Do==7) (mC (nu n a) KO KM)<|cn (a.c.Do==8) (mC (kK n a) KO KM)<|cn (a.c.Do==9) (mC (jO n a) KO KM)<|cn (a.c.Do==10) (mC (kI n a) KO KM)<|cn (a.c.Do==11) (mC (mF n a) KO KM)<|cn (a.c.Do==12) (mC (mB n a) KO KM)<|cn (a.c.Do==13) (mC (iO n a) KO KM)<|cn (a.c.Do==14) (mC (mz n a) KO KM)<|cn (a.c.Do==15) (mC (fR n a) KO KM)<|cn (a.c.Do==16) (mC (fR n a) KO KM)<|cn (a.c.Do==17) (mC (kN n a) KO KM)<|cn (a.c.Do==18) (mC (nr n a) KO KM)<|cn (a.c.Do==19) (kC (kM n a) a KO KK)<|cn (a.c.Do==20) (mC (mE n a) KO KM)<|cn (a.c.Do==21) (mC (mD n a) KO KM)<|cn (a.c.Do==22) (mC (kH n a) KO KM)<|KN
def cA{Z:Type}(n:Nat)(a:ai)(KO:ae->ai->Option Z)(KM KK:Int->Option Z)(KN KA:Option Z):Option Z:=gu (!((decide (0<=a.eD)&&decide (a.eD<8))==true)||cG (sx .i64 a.eD 7) 8)<|cn ((decide (0<=a.eD)&&decide (a.eD<8))&&(a.aB.lB (Int.toNat (sx .i64 a.eD 7)))) (cD n a KO KM KK KN) KA
theorem lZ{Z:Type}{m:Option (Except Int (ae×ai))}{K:ae×Option ai->Option Z}{z:Z}(h:bd (tr m (λe=>(⟨e,0,0⟩,none)) λy=>some (y.1,some y.2)) K=some z):mC m (λr c=>K (r,some c)) (λe=>K (⟨e,0,0⟩,none))=some z:=by
 cases m with
 |none=>cases h
 |some r=>cases r<;>exact h
theorem L6{Z:Type}{g:Nat->ai->Option (Except Int ae)}{n:Nat}{a:ai}{K:ae×Option ai->Option Z}{KK:Int->Option Z}{z:Z}(hk:∀e,K (⟨e,0,0⟩,none)=some z->KK e=some z)(h:bd (tr (GC g n a) (λe=>(⟨e,0,0⟩,none)) λy=>some (y.1,some y.2)) K=some z):kC (g n a) a (λr c=>K (r,some c)) KK=some z:=by
 unfold GC at h;cases hm:g n a with
 |none=>rw[hm]at h;cases h
 |some r=>rw[hm]at h;cases r with
  |ok r=>exact h
  |error e=>exact hk e h
theorem Zh{Z:Type}{n:Nat}{a:ai}{K:ae×Option ai->Option Z}{KK:Int->Option Z}{z:Z}(hk:∀e,K (⟨e,0,0⟩,none)=some z->KK e=some z)(h:bd (match NY a.c.Do with
  |none=>some (⟨2,0,0⟩,none)
  |some x=>tr (x.2.2 n a) (λe=>(⟨e,0,0⟩,none)) λy=>some (y.1,some y.2)) K=some z):cD n a (λr c=>K (r,some c)) (λe=>K (⟨e,0,0⟩,none)) KK (K (⟨2,0,0⟩,none))=some z:=by
 unfold NY G1 at h;unfold cD;rw[List.find?_cons]at h;dsimp only at h;cases h0:(a.c.Do==1)with
 |true=>rw[h0]at h;exact lZ h
 |false=>
 rw[h0]at h;refine(rfl:cn false _ _ =_).trans ?_;rw[List.find?_cons]at h;dsimp only at h;cases h1:(a.c.Do==2)with
 |true=>rw[h1]at h;exact lZ h
 |false=>
 rw[h1]at h;refine(rfl:cn false _ _ =_).trans ?_;rw[List.find?_cons]at h;dsimp only at h;cases h2:(a.c.Do==3)with
 |true=>rw[h2]at h;exact L6 hk h
 |false=>
 rw[h2]at h;refine(rfl:cn false _ _ =_).trans ?_;rw[List.find?_cons]at h;dsimp only at h;cases h3:(a.c.Do==4)with
 |true=>rw[h3]at h;exact L6 hk h
 |false=>
 rw[h3]at h;refine(rfl:cn false _ _ =_).trans ?_;rw[List.find?_cons]at h;dsimp only at h;cases h4:(a.c.Do==5)with
 |true=>rw[h4]at h;exact lZ h
 |false=>
 rw[h4]at h;refine(rfl:cn false _ _ =_).trans ?_;rw[List.find?_cons]at h;dsimp only at h;cases h5:(a.c.Do==6)with
 |true=>rw[h5]at h;exact lZ h
 |false=>
 rw[h5]at h;refine(rfl:cn false _ _ =_).trans ?_;rw[List.find?_cons]at h;dsimp only at h;cases h6:(a.c.Do==7)with
 |true=>rw[h6]at h;exact lZ h
 |false=>
 rw[h6]at h;refine(rfl:cn false _ _ =_).trans ?_;rw[List.find?_cons]at h;dsimp only at h;cases h7:(a.c.Do==8)with
 |true=>rw[h7]at h;exact lZ h
 |false=>
 rw[h7]at h;refine(rfl:cn false _ _ =_).trans ?_;rw[List.find?_cons]at h;dsimp only at h;cases h8:(a.c.Do==9)with
 |true=>rw[h8]at h;exact lZ h
 |false=>
 rw[h8]at h;refine(rfl:cn false _ _ =_).trans ?_;rw[List.find?_cons]at h;dsimp only at h;cases h9:(a.c.Do==10)with
 |true=>rw[h9]at h;exact lZ h
 |false=>
 rw[h9]at h;refine(rfl:cn false _ _ =_).trans ?_;rw[List.find?_cons]at h;dsimp only at h;cases h10:(a.c.Do==11)with
 |true=>rw[h10]at h;exact lZ h
 |false=>
 rw[h10]at h;refine(rfl:cn false _ _ =_).trans ?_;rw[List.find?_cons]at h;dsimp only at h;cases h11:(a.c.Do==12)with
 |true=>rw[h11]at h;exact lZ h
 |false=>
 rw[h11]at h;refine(rfl:cn false _ _ =_).trans ?_;rw[List.find?_cons]at h;dsimp only at h;cases h12:(a.c.Do==13)with
 |true=>rw[h12]at h;exact lZ h
 |false=>
 rw[h12]at h;refine(rfl:cn false _ _ =_).trans ?_;rw[List.find?_cons]at h;dsimp only at h;cases h13:(a.c.Do==14)with
 |true=>rw[h13]at h;exact lZ h
 |false=>
 rw[h13]at h;refine(rfl:cn false _ _ =_).trans ?_;rw[List.find?_cons]at h;dsimp only at h;cases h14:(a.c.Do==15)with
 |true=>rw[h14]at h;exact lZ h
 |false=>
 rw[h14]at h;refine(rfl:cn false _ _ =_).trans ?_;rw[List.find?_cons]at h;dsimp only at h;cases h15:(a.c.Do==16)with
 |true=>rw[h15]at h;exact lZ h
 |false=>
 rw[h15]at h;refine(rfl:cn false _ _ =_).trans ?_;rw[List.find?_cons]at h;dsimp only at h;cases h16:(a.c.Do==17)with
 |true=>rw[h16]at h;exact lZ h
 |false=>
 rw[h16]at h;refine(rfl:cn false _ _ =_).trans ?_;rw[List.find?_cons]at h;dsimp only at h;cases h17:(a.c.Do==18)with
 |true=>rw[h17]at h;exact lZ h
 |false=>
 rw[h17]at h;refine(rfl:cn false _ _ =_).trans ?_;rw[List.find?_cons]at h;dsimp only at h;cases h18:(a.c.Do==19)with
 |true=>rw[h18]at h;exact L6 hk h
 |false=>
 rw[h18]at h;refine(rfl:cn false _ _ =_).trans ?_;rw[List.find?_cons]at h;dsimp only at h;cases h19:(a.c.Do==20)with
 |true=>rw[h19]at h;exact lZ h
 |false=>
 rw[h19]at h;refine(rfl:cn false _ _ =_).trans ?_;rw[List.find?_cons]at h;dsimp only at h;cases h20:(a.c.Do==21)with
 |true=>rw[h20]at h;exact lZ h
 |false=>
 rw[h20]at h;refine(rfl:cn false _ _ =_).trans ?_;rw[List.find?_cons]at h;dsimp only at h;cases h21:(a.c.Do==22)with
 |true=>rw[h21]at h;exact lZ h
 |false=>
 rw[h21]at h;refine(rfl:cn false _ _ =_).trans ?_;exact h
theorem Sv{Z:Type}{n:Nat}{a:ai}{K:ae×Option ai->Option Z}{KK:Int->Option Z}{z:Z}(hk:∀e,K (⟨e,0,0⟩,none)=some z->KK e=some z)(h:bd (g5 n a) K=some z):cA n a (λr c=>K (r,some c)) (λe=>K (⟨e,0,0⟩,none)) KK (K (⟨2,0,0⟩,none)) (K (⟨12,0,0⟩,none))=some z:=by
 unfold g5 at h;unfold cA;cases h1:(!((decide (0<=a.eD)&&decide (a.eD<8))==true)||cG (sx .i64 a.eD 7) 8)with
 |false=>rw[h1]at h;cases h
 |true=>
  rw[h1]at h;cases h2:((decide (0<=a.eD)&&decide (a.eD<8))&&(a.aB.lB (Int.toNat (sx .i64 a.eD 7))))with
  |false=>rw[h2]at h;exact h
  |true=>rw[h2]at h;exact Zh hk h
def eH(n:Nat)(a0:ah)(a1:Int)(a2:aI):Option Int:=lt ({aB:=a0,eD:=a1,c:=a2,run:=bZ,my:=0,Dp:=true,lH:=[]}:ai) λax=>cn ((a2.Do !=2)==false) (bd (g5 n ({aB:=a0,eD:=a1,c:=a2,run:=bZ,my:=0,Dp:=true,lH:=[]}:ai)) λcJ=>oc cJ.2 (cn (((a2.Do !=2)||(cJ.1.E !=0))) (some 0) (none)) λPS=>cn (((a2.Do !=2)||(cJ.1.E !=0))) (some 0) (some PS.my)) (cn (((a2.Do !=2)||(bp.E !=0))) (some 0) (some (({aB:=a0,eD:=a1,c:=a2,run:=bZ,my:=0,Dp:=true,lH:=[]}:ai).my)))
def jM(n:Nat)(a0:ah)(a1:Int)(a2:aI):Option Int:=cn (a2.Do !=2) (some 0) (cA n ({aB:=a0,eD:=a1,c:=a2,run:=bZ,my:=0,Dp:=true,lH:=[]}:ai) (λr c=>cn (r.E !=0) (some 0) (some c.my)) (λe=>cn (e !=0) (some 0) none) (λe=>cn (e !=0) (some 0) (some 0)) (some 0) (some 0))
theorem wR(n:Nat)(a0:ah)(a1:Int)(a2:aI)(z:Int)(h:eH n a0 a1 a2=some z):jM n a0 a1 a2=some z:=by
 unfold eH at h;unfold jM;cases h1:(a2.Do !=2)with
 |true=>rw[h1]at h;exact h
 |false=>
  rw[h1]at h;have:=Sv (a:=({aB:=a0,eD:=a1,c:=a2,run:=bZ,my:=0,Dp:=true,lH:=[]}:ai)) (KK:=λe=>cn (e !=0) (some 0) (some 0)) (λe h=>by
   have h:cn (e !=0) (some 0) none=some z:=h;cases hb:(e !=0)with
   |true=>rw[hb]at h;exact h
   |false=>rw[hb]at h;cases h) h
  exact this
noncomputable def jK(n:Nat):Ct Tryz.prog sg:=RT (tW n [] [aR n,aQ n,pL n,nS n,oE n,nK n,nN n,nh n,pM n,nO n,ng n,nM n,oI n,oF n,kZ n,oC n,oD n,nR n,pK n,nQ n,oH n,oG n,nL n]) 3000 ⟨63,[], .cons (.v (.st 18)) (.cons (.v (.int .i64)) (.cons (.v (.st 1)) .nil)), .cons (.v (.int .i64)) .nil,[], .nil,[],[]⟩ (λx=>eH n x.1 x.2.1 x.2.2.1) (λx=>jM n x.1 x.2.1 x.2.2.1) (λy=>y.1) (λz=>(z,())) (0) (λ_ =>rfl) (by kernel_rfl) (λx=>by kernel_rfl) (λx z h=>by apply wR;exact h)
def mH(n:Nat)(a0:ah)(a1:Int)(a2:aI)(a3:aq):Option (ah×ae×(List aq)):=lt ({aB:=a0,eD:=a1,c:=a2,run:=a3,my:=0,Dp:=false,lH:=[]}:ai) λax=>bd (g5 n ({aB:=a0,eD:=a1,c:=a2,run:=a3,my:=0,Dp:=false,lH:=[]}:ai)) λcJ=>oc cJ.2 (cn ((cJ.1.E !=0)) (some (a0,cJ.1,([]:List aq))) (none)) λPS=>cn ((cJ.1.E !=0)) (some (a0,cJ.1,([]:List aq))) (some (PS.aB,cJ.1,PS.lH))
def rR(n:Nat)(a0:ah)(a1:Int)(a2:aI)(a3:aq):Option (ah×ae×(List aq)):=cA n ({aB:=a0,eD:=a1,c:=a2,run:=a3,my:=0,Dp:=false,lH:=[]}:ai) (λr c=>cn (r.E !=0) (some (a0,r,[])) (some (c.aB,r,c.lH))) (λe=>cn (e !=0) (some (a0,⟨e,0,0⟩,[])) none) (λe=>cn (e !=0) (some (a0,⟨e,0,0⟩,[])) (some (a0,⟨e,0,0⟩,[]))) (some (a0,⟨2,0,0⟩,[])) (some (a0,⟨12,0,0⟩,[]))
theorem AE(n:Nat)(a0:ah)(a1:Int)(a2:aI)(a3:aq)(z:ah×ae×(List aq))(h:mH n a0 a1 a2 a3=some z):rR n a0 a1 a2 a3=some z:=by
 have:=Sv (a:=({aB:=a0,eD:=a1,c:=a2,run:=a3,my:=0,Dp:=false,lH:=[]}:ai)) (KK:=λe=>cn (e !=0) (some (a0,⟨e,0,0⟩,[])) (some (a0,⟨e,0,0⟩,[]))) (λe h=>by
  have h:cn (e !=0) (some (a0,⟨e,0,0⟩,([]:List aq))) none=some z:=h;cases hb:(e !=0)with
  |true=>rw[hb]at h;exact h
  |false=>rw[hb]at h;cases h) h
 exact this
noncomputable def rN(n:Nat):Ct Tryz.prog sg:=RT (tW n [] [aR n,aQ n,pL n,nS n,oE n,nK n,nN n,nh n,pM n,nO n,ng n,nM n,oI n,oF n,kZ n,oC n,oD n,nR n,pK n,nQ n,oH n,oG n,nL n]) 3000 ⟨64,[], .cons (.v (.st 18)) (.cons (.v (.int .i64)) (.cons (.v (.st 1)) (.cons (.v (.st 6)) .nil))), .cons (.gO (.cons (.v (.st 18)) (.cons (.v (.st 0)) (.cons (.v (.sl (.st 6))) .nil)))) .nil,[], .nil,[],[]⟩ (λx=>mH n x.1 x.2.1 x.2.2.1 x.2.2.2.1) (λx=>rR n x.1 x.2.1 x.2.2.1 x.2.2.2.1) (λy=>(y.1,y.2.1,y.2.2.1)) (λz=>(z.1,(z.2.1,(z.2.2,())))) (cK,bp,[]) (λ_ =>rfl) (by kernel_rfl) (λx=>by kernel_rfl) (λx z h=>by apply AE;exact h)
def rV(n:Nat)(a0:(List Int)):Option (List Int):=some a0
def pU(n:Nat)(a0:(List Int)):Option (List Int):=gu ((a0.length:Int)==(a0.length:Int))<|gu ((a0.length:Int)==(a0.length:Int))<|some a0
theorem yf(n:Nat)(a0:(List Int)):pU n a0=rV n a0:=JM.trans JM
noncomputable def xI(n:Nat):CT:=cV (tW n [] []) (ia 101 [.v (.sl (.int .i64))] [.v (.sl (.int .i64))]) (a1 (rV n)) u1 m1 (hW:=λx=>Eq.trans (b:=pU n x.1) (by kernel_rfl) (yf ..))
def qR(n:Nat)(a0:ah)(a1:aI):Option ((List Int)×Int):=bd (dP n a0.eS.T a1.R) λbC=>cn ((bC.2!=0)) (some (([]:List Int),bC.2)) (cn (((((a1.Do !=3)&&(a1.Do !=4))||decide (a1.B<1))||decide (8<a1.B))) (some (([]:List Int),2)) (cn (decide ((wr .i64 (bC.1.E.Km-(wr .i64 a1.B)))<(wr .i64 a1.A))) (some (([]:List Int),9)) (dL (λk47 (gP:(List Int)) (zT:Int)=>cn (decide (zT<(wr .i64 a1.B))) (bd (oQ n bC.1.E (wr .i64 ((wr .i64 a1.A)+zT))) λwu=>gu (ij gP.length 1 8)<|lt (gP++([wu.1]):List Int) λJg=>k47 Jg (wr .i64 (zT+1))) (some (gP,0))) n ([]) 0)))
noncomputable def wM(n:Nat):CT:=cV (tW n [(21, .loop [(.slot 8,(.row 3 1 (.int .i64))),(.slot 59,(.v (.int .i64)))])] [dJ n,uk n,xI n]) (ia 71 [.s 18, .s 1] [.t [.v (.sl (.int .i64)), .i]]) (a2 (qR n)) u2 m2
end Go.Proofs.Z
