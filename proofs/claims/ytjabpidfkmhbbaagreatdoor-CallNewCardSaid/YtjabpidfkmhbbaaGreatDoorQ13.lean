/- Part 13 of what a proof leans on; pruned and shortened by a program out of longer texts. -/
import Derived.Test.YtjabpidfkmhbbaaGreatDoorQ12
namespace Go.Proofs.Z
open Go Go.Bw Go.Rw Go.RowKit
noncomputable section
def kz(n:Nat)(a0:bx)(a1:Int):Option Bool:=bd (jR n a0.K a1 0) λaG=>some aG
def ua(n:Nat):CT:=cV (tW n [] [nc n]) ⟨215,[(58, .v (.st 12)),(35, .v (.int .u32))], .cons (.bp 0) (.cons (.bp 1) .nil), .cons (.v .bool) .nil,[], .nil,[],[]⟩ (λx=>kz n x.1 x.2.1) u1 m1
def kx(n:Nat)(a0:bx)(a1:Int):Option Bool:=bd (ji n a0.K a1 0) λaG=>some aG
def tZ(n:Nat):CT:=cV (tW n [] [mw n]) ⟨217,[(58, .v (.st 12)),(35, .v (.int .u32))], .cons (.bp 0) (.cons (.bp 1) .nil), .cons (.v .bool) .nil,[], .nil,[],[]⟩ (λx=>kx n x.1 x.2.1) u1 m1
def nF(n:Nat)(a0:Int)(a1:bx):Option Bool:=bd (jF n a1.K a0) λaG=>some (decide (0<(aG.length:Int)))
def rP(n:Nat):CT:=cV (tW n [] [kT n]) ⟨221,[(58, .v (.st 12))], .cons (.v (.int .u32)) (.cons (.bp 0) .nil), .cons (.v .bool) .nil,[], .nil,[],[]⟩ (λx=>nF n x.2.1 x.1) u1 m1
def dh(n:Nat)(a0:(List Int))(ew:bx):Option Int:=fZ (λFa (aW:Int)=>cn (decide (aW<(a0.length:Int))) (gu (cB aW a0.length)<|bd (nF n (a0.getD (Int.toNat aW) default) ew) λcY=>cn (cY) (some aW) (Fa (wr .i64 (aW+1)))) (some (-1))) n 0
def fN(n:Nat):CT:=cV (tW n [(5, .loop [(.slot 8,(.v (.int .i64)))])] [rP n]) ⟨97,[(58, .v (.st 12))], .cons (.v (.sl (.int .u32))) (.cons (.fn (.func 221) .nil (.cons (.bp 0) .nil)) .nil), .cons (.v (.int .i64)) .nil,[], .nil,[],[]⟩ (λx=>dh n x.2.1 x.1) u1 m1
def cP(n:Nat)(a0:(List Int))(ew:bx):Option Bool:=bd (dh n a0 ew) λaG=>some (decide (0<=aG))
def eY(n:Nat):CT:=cV (tW n [] [fN n]) ⟨220,[(58, .v (.st 12))], .cons (.v (.sl (.int .u32))) (.cons (.fn (.func 221) .nil (.cons (.bp 0) .nil)) .nil), .cons (.v .bool) .nil,[], .nil,[],[]⟩ (λx=>cP n x.2.1 x.1) u1 m1
def ku(n:Nat)(a0:bx)(a1:Int):Option Bool:=bd (oD n a0.T a1) λbR=>bd (cP n bR a0) λcM=>some (!cM)
def tY(n:Nat):CT:=cV (tW n [] [o5 n,eY n]) ⟨219,[(58, .v (.st 12)),(35, .v (.int .u32))], .cons (.bp 0) (.cons (.bp 1) .nil), .cons (.v .bool) .nil,[], .nil,[],[]⟩ (λx=>ku n x.1 x.2.1) u1 m1
def ja(n:Nat)(a0:bx)(a1:Int)(a2:Int):Option Bool:=cn (a2==0) (cl (true==true) (kz n a0 a1) default λdc=>some (true&&dc)) (cn (a2==1) (cl (true==true) (kx n a0 a1) default λdc=>some (true&&dc)) (cn (a2==2) (cl (true==true) (ku n a0 a1) default λdc=>some (true&&dc)) (some false)))
namespace H
theorem Gw{J:World->Prop}{T0 T1 q0 q1 r:Nat}{qK:List Value}{a0:bx}{a1:Int}{o:Ob sg}(f0:cW.dJ J qK a0)(e:cu [(0, .bK T0 (.dat (.st 12) a0)),(1, .bK T1 (.int .u32 a1))] r=some o):
  ∃z∈([.cells q0 T0 qK, .cells q1 T1 ((LI .u32).enc a1)]:List av),ro (G:=sg) J (aP.set (aP.set (λ_ =>none) 0 (cj q0 0)) 1 (cj q1 0)) r o z:=by
 match r,e with
 |0,e=>cases e;exact⟨_,List.mem_cons_self,q0, .agg qK.toArray,rfl,rfl,El (t:= .st 12) f0 rfl⟩
 |1,e=>cases e;exact⟨_,abj _ List.mem_cons_self,q1, .int .u32 a1,rfl,rfl,rfl⟩
 |r+2,e=>cases e
theorem uX{n:Nat}{a0:bx}{a1:Int}{r:Bool}{R:List av}(hg:J4 sg (Hs R)){q0:Nat}{qK:List Value}(f0:cW.dJ (Hs R) qK a0){q1:Nat}(h:kz n a0 a1=some r):Bw.Fn (α:=Unit) Tryz.prog 215 [cj q0 0,cj q1 0] (J5 (aU [.cells q0 58 qK, .cells q1 35 ((LI .u32).enc a1)]) (Hs R)) [.cells q0 58 qK, .cells q1 35 ((LI .u32).enc a1)] (λ_ =>True) (λ_ => .bool r) (λ_ =>[.cells q0 58 qK, .cells q1 35 ((LI .u32).enc a1)]):=
 uM (ct:=ua n) (x:=(a0,a1,())) (y:=(r,())) (ρ:=aP.set (aP.set (λ_ =>none) 0 (cj q0 0)) 1 (cj q1 0)) ⟨r,h,rfl⟩ hg (λ_ _ =>⟨_,_,rfl,⟨⟨q0,0, .inl rfl,rfl⟩,nofun⟩,_,_,rfl,⟨⟨q1,0, .inl rfl,rfl⟩,nofun⟩,rfl⟩) rfl rfl
  (λJ hJ r o e=>Gw (T0:=58) (T1:=35) (bP.mono _ hJ f0) e) (λr (hr:2<=r)=>match r,hr with|r+2,_ =>rfl) λJ σ u us ⟨_,_,e,h1,_⟩=>by cases e;have h1:[u]=[.bool _]:=h1;cases h1;rfl
theorem uW{n:Nat}{a0:bx}{a1:Int}{r:Bool}{R:List av}(hg:J4 sg (Hs R)){q0:Nat}{qK:List Value}(f0:cW.dJ (Hs R) qK a0){q1:Nat}(h:kx n a0 a1=some r):Bw.Fn (α:=Unit) Tryz.prog 217 [cj q0 0,cj q1 0] (J5 (aU [.cells q0 58 qK, .cells q1 35 ((LI .u32).enc a1)]) (Hs R)) [.cells q0 58 qK, .cells q1 35 ((LI .u32).enc a1)] (λ_ =>True) (λ_ => .bool r) (λ_ =>[.cells q0 58 qK, .cells q1 35 ((LI .u32).enc a1)]):=
 uM (ct:=tZ n) (x:=(a0,a1,())) (y:=(r,())) (ρ:=aP.set (aP.set (λ_ =>none) 0 (cj q0 0)) 1 (cj q1 0)) ⟨r,h,rfl⟩ hg (λ_ _ =>⟨_,_,rfl,⟨⟨q0,0, .inl rfl,rfl⟩,nofun⟩,_,_,rfl,⟨⟨q1,0, .inl rfl,rfl⟩,nofun⟩,rfl⟩) rfl rfl
  (λJ hJ r o e=>Gw (T0:=58) (T1:=35) (bP.mono _ hJ f0) e) (λr (hr:2<=r)=>match r,hr with|r+2,_ =>rfl) λJ σ u us ⟨_,_,e,h1,_⟩=>by cases e;have h1:[u]=[.bool _]:=h1;cases h1;rfl
theorem uV{n:Nat}{a0:bx}{a1:Int}{r:Bool}{R:List av}(hg:J4 sg (Hs R)){q0:Nat}{qK:List Value}(f0:cW.dJ (Hs R) qK a0){q1:Nat}(h:ku n a0 a1=some r):Bw.Fn (α:=Unit) Tryz.prog 219 [cj q0 0,cj q1 0] (J5 (aU [.cells q0 58 qK, .cells q1 35 ((LI .u32).enc a1)]) (Hs R)) [.cells q0 58 qK, .cells q1 35 ((LI .u32).enc a1)] (λ_ =>True) (λ_ => .bool r) (λ_ =>[.cells q0 58 qK, .cells q1 35 ((LI .u32).enc a1)]):=
 uM (ct:=tY n) (x:=(a0,a1,())) (y:=(r,())) (ρ:=aP.set (aP.set (λ_ =>none) 0 (cj q0 0)) 1 (cj q1 0)) ⟨r,h,rfl⟩ hg (λ_ _ =>⟨_,_,rfl,⟨⟨q0,0, .inl rfl,rfl⟩,nofun⟩,_,_,rfl,⟨⟨q1,0, .inl rfl,rfl⟩,nofun⟩,rfl⟩) rfl rfl
  (λJ hJ r o e=>Gw (T0:=58) (T1:=35) (bP.mono _ hJ f0) e) (λr (hr:2<=r)=>match r,hr with|r+2,_ =>rfl) λJ σ u us ⟨_,_,e,h1,_⟩=>by cases e;have h1:[u]=[.bool _]:=h1;cases h1;rfl
theorem xj{n a0 a1 a2 r}{R:List av}(hg:J4 sg (Hs R)){qK}(f0:(cW).dJ (Hs R) qK a0)(h:ja n a0 a1 a2=some r):QO Tryz.prog 120 [A qK, .int .u32 a1, .int .u8 a2] (Hs R) (.bool r):=by
 unfold ja at h;refine fo Tryz.func120 (by kernel_rfl) rfl Tryz.ntmps120 rfl λcx _ hro jK hpre=>?_;refine SC 2 rf ?_;refine W1 rf (IK rfl) λb3=>?_;refine W1 rf (jP (LI .u32) a1 rfl rfl) λb4=>?_;refine SL 5 rf ?_;refine vU rfl (Ce .u8 (λv:Value=>v)) (λb10 _ =>?_);refine br rfl (nH rfl) ?_;refine Cc (zL (E:=λv:Value=>v) (.func (.func 215) #[] #[cj b3 0,cj b4 0]) rfl rfl rfl rfl) (λ_ _ =>?_);refine br rfl (nH rfl) ?_;refine Cc (zL (E:=λv:Value=>v) (.func (.func 217) #[] #[cj b3 0,cj b4 0]) rfl rfl rfl rfl) (λ_ _ =>?_);refine br rfl (nH rfl) ?_;refine Cc (zL (E:=λv:Value=>v) (.func (.func 219) #[] #[cj b3 0,cj b4 0]) rfl rfl rfl rfl) (λ_ _ =>?_);refine SL 5 rf ?_;rcases Decidable.em (a2=0)with w7|w7
 ·replace h:=G6 (by simpa using w7) h;refine SC 3 rf ?_;refine br rfl (sD .nilFunc (.func (.func 215) #[] #[cj b3 0,cj b4 0]) true rfl rfl (by rw[w7];rfl) (by rw[w7];rfl)) ?_;obtain⟨dc,GH,_,h⟩:=Pe h;refine SL 11 rf ?_;refine GB rf rf rf (λhb=>bG rfl) ?_;refine zI (No rfl rfl) rfl (λhb=>uX (R:=R) hg (mo f0) (GH hb)) (λhb=>(Ed rfl hb)) (λhb=>rfl) rfl (iR:=[.cells b3 58 qK, .cells b4 35 ((LI .u32).enc a1)]) (Ud:=[Mp b10 .u8 (λv:Value=>v) (pE (pE (pE ([]:List (Int×Value)) 0 (.func (.func 215) #[] #[cj b3 0,cj b4 0])) 1 (.func (.func 217) #[] #[cj b3 0,cj b4 0])) 2 (.func (.func 219) #[] #[cj b3 0,cj b4 0]))]) (ks:=[2,1,0]) rfl (by decide) (λhb=>inferInstance) ?_;dsimp only[List.cons_append,List.nil_append];refine br rfl (Cd rfl rfl) ?_;refine SL 4 rf ?_;have h:=sj h;subst h;exact RV rf (rt rf rn) rf
 replace h:=G7 (by simpa using w7) h;rcases Decidable.em (a2=1)with w6|w6
 ·replace h:=G6 (by simpa using w6) h;refine SC 3 rf ?_;refine br rfl (sD .nilFunc (.func (.func 217) #[] #[cj b3 0,cj b4 0]) true rfl rfl (by rw[w6];rfl) (by rw[w6];rfl)) ?_;obtain⟨dc,GH,_,h⟩:=Pe h;refine SL 11 rf ?_;refine GB rf rf rf (λhb=>bG rfl) ?_;refine zI (No rfl rfl) rfl (λhb=>uW (R:=R) hg (mo f0) (GH hb)) (λhb=>(Ed rfl hb)) (λhb=>rfl) rfl (iR:=[.cells b3 58 qK, .cells b4 35 ((LI .u32).enc a1)]) (Ud:=[Mp b10 .u8 (λv:Value=>v) (pE (pE (pE ([]:List (Int×Value)) 0 (.func (.func 215) #[] #[cj b3 0,cj b4 0])) 1 (.func (.func 217) #[] #[cj b3 0,cj b4 0])) 2 (.func (.func 219) #[] #[cj b3 0,cj b4 0]))]) (ks:=[2,1,0]) rfl (by decide) (λhb=>inferInstance) ?_;dsimp only[List.cons_append,List.nil_append];refine br rfl (Cd rfl rfl) ?_;refine SL 4 rf ?_;have h:=sj h;subst h;exact RV rf (rt rf rn) rf
 replace h:=G7 (by simpa using w6) h;rcases Decidable.em (a2=2)with w5|w5
 ·replace h:=G6 (by simpa using w5) h;refine SC 3 rf ?_;refine br rfl (sD .nilFunc (.func (.func 219) #[] #[cj b3 0,cj b4 0]) true rfl rfl (by rw[w5];rfl) (by rw[w5];rfl)) ?_;obtain⟨dc,GH,_,h⟩:=Pe h;refine SL 11 rf ?_;refine GB rf rf rf (λhb=>bG rfl) ?_;refine zI (No rfl rfl) rfl (λhb=>uV (R:=R) hg (mo f0) (GH hb)) (λhb=>(Ed rfl hb)) (λhb=>rfl) rfl (iR:=[.cells b3 58 qK, .cells b4 35 ((LI .u32).enc a1)]) (Ud:=[Mp b10 .u8 (λv:Value=>v) (pE (pE (pE ([]:List (Int×Value)) 0 (.func (.func 215) #[] #[cj b3 0,cj b4 0])) 1 (.func (.func 217) #[] #[cj b3 0,cj b4 0])) 2 (.func (.func 219) #[] #[cj b3 0,cj b4 0]))]) (ks:=[2,1,0]) rfl (by decide) (λhb=>inferInstance) ?_;dsimp only[List.cons_append,List.nil_append];refine br rfl (Cd rfl rfl) ?_;refine SL 4 rf ?_;have h:=sj h;subst h;exact RV rf (rt rf rn) rf
 replace h:=G7 (by simpa using w5) h;refine SC 3 rf ?_;refine br rfl (sD .nilFunc .nilFunc false rfl rfl (HV (z:= .nilFunc) w7 w6 w5).1 (HV (z:= .nilFunc) w7 w6 w5).2) ?_;refine SL 11 rf ?_;refine GB rf rf rf (λhb=>bG rfl) ?_;refine XG (v:= .bool false) (No rfl rfl) (by rfl) rfl ?_;refine br rfl (Cd rfl rfl) ?_;refine SL 4 rf ?_;have h:=sj h;subst h;exact RV rf (rt rf rn) rf
end H
def wQ(n:Nat):Ct Tryz.prog sg:=Ut (G:=sg) ⟨120,[], .cons (.v (.st 12)) (.cons (.v (.int .u32)) (.cons (.v (.int .u8)) .nil)), .cons (.v .bool) .nil,[], .nil,[],[]⟩ (λx=>ja n x.1 x.2.1 x.2.2.1) (λz=>(z,())) (false) (by kernel_rfl) (Mh (λ_ =>rfl) (λ_ =>rfl) rfl λρ R x z vs hg hz hv=>by
 obtain⟨cs,r1,e_1,h0,v1⟩:=DO hv rfl;obtain⟨r2,e_2,v2⟩:=Gs v1;obtain⟨r3,e_3,v3⟩:=Gs v2;have Xm:r3=[]:=v3;subst Xm e_3 e_2 e_1;exact⟨_,SB (H.xj hg h0 hz),λJ v e=>by
  subst e;exact⟨_,_,rfl,rfl,rfl⟩⟩)
def qt(n:Nat)(a0:Int)(a1:bx)(a2:Int)(a3:Int)(a4:Int):Option Bool:=bd (bL n a1.K a0) λaG=>cl ((((wr .i64 aG.1.To)==a2)==true)&&((a3==0)==true)) (jR n a1.K a4 a0) default λaW=>cl (((((wr .i64 aG.1.To)==a2)==true)&&(((a3==0)&&aW)==false))&&(((a3==1)&&aG.1.jb)==true)) (ji n a1.K a4 a0) default λbR=>some (((wr .i64 aG.1.To)==a2)&&(((a3==0)&&aW)||(((a3==1)&&aG.1.jb)&&bR)))
def vN(n:Nat):CT:=cV (tW n [] [cG n,nc n,mw n]) ⟨234,[(58, .v (.st 12)),(3, .v (.int .i64)),(5, .v (.int .u8)),(35, .v (.int .u32))], .cons (.v (.int .u32)) (.cons (.bp 0) (.cons (.bp 1) (.cons (.bp 2) (.cons (.bp 3) .nil)))), .cons (.v .bool) .nil,[], .nil,[],[]⟩ (λx=>qt n x.2.2.2.2.1 x.1 x.2.1 x.2.2.1 x.2.2.2.1) u1 m1
def dI(n:Nat)(a0:(List Int))(ew:bx)(nY:Int)(MI:Int)(Tg:Int):Option Int:=fZ (λFa (aW:Int)=>cn (decide (aW<(a0.length:Int))) (gu (cB aW a0.length)<|bd (qt n (a0.getD (Int.toNat aW) default) ew nY MI Tg) λcY=>cn (cY) (some aW) (Fa (wr .i64 (aW+1)))) (some (-1))) n 0
def gk(n:Nat):CT:=cV (tW n [(5, .loop [(.slot 8,(.v (.int .i64)))])] [vN n]) ⟨97,[(58, .v (.st 12)),(3, .v (.int .i64)),(5, .v (.int .u8)),(35, .v (.int .u32))], .cons (.v (.sl (.int .u32))) (.cons (.fn (.func 234) .nil (.cons (.bp 0) (.cons (.bp 1) (.cons (.bp 2) (.cons (.bp 3) .nil))))) .nil), .cons (.v (.int .i64)) .nil,[], .nil,[],[]⟩ (λx=>dI n x.2.2.2.2.1 x.1 x.2.1 x.2.2.1 x.2.2.2.1) u1 m1
def di(n:Nat)(a0:(List Int))(ew:bx)(nY:Int)(MI:Int)(Tg:Int):Option Bool:=bd (dI n a0 ew nY MI Tg) λaG=>some (decide (0<=aG))
def fO(n:Nat):CT:=cV (tW n [] [gk n]) ⟨220,[(58, .v (.st 12)),(3, .v (.int .i64)),(5, .v (.int .u8)),(35, .v (.int .u32))], .cons (.v (.sl (.int .u32))) (.cons (.fn (.func 234) .nil (.cons (.bp 0) (.cons (.bp 1) (.cons (.bp 2) (.cons (.bp 3) .nil))))) .nil), .cons (.v .bool) .nil,[], .nil,[],[]⟩ (λx=>di n x.2.2.2.2.1 x.1 x.2.1 x.2.2.1 x.2.2.2.1) u1 m1
def ta(n:Nat)(a0:bx)(a1:Int)(a2:Int)(a3:Int):Option Bool:=bd (jF n a0.K a2) λaG=>bd (di n aG a0 a1 a3 a2) λdW=>some dW
def xP(n:Nat):CT:=cV (tW n [] [kT n,fO n]) (ga 214 [.s 12, .i, .w, .v (.int .u8)] [.b]) (a4 (ta n)) u1 m1
def uZ(n:Nat)(a0:bx)(a1:Int)(a2:Int)(a3:Int):Option Int:=bd (aB n a0.T.dA.iw a2) λaG=>cn ((!aG)) (some 4) (bd (fY n a0.O a0.T a2) λcL=>cn ((cL.tH==3)) (gu (!((((a3==0)&&decide (0<=a1))&&decide (a1<8))==true)||decide (0<=a1))<|cn ((!((((a3==0)&&decide (0<=a1))&&decide (a1<8))&&((rA .u8 (Gk .u8 cL.fG a1) 1)==1)))) (some 5) (some 0)) (cn ((cL.tH==1)) (cl (((wr .i64 cL.mm)==a1)==true) (ja n a0 a2 a3) default λeM=>cl ((((wr .i64 cL.mm)==a1)&&eM)==false) (ta n a0 a1 a2 a3) default λcY=>cn ((!((((wr .i64 cL.mm)==a1)&&eM)||cY))) (some 5) (some 0)) (some 5)))
def y8(n:Nat):CT:=cV (tW n [] [aH n,fI n,wQ n,xP n]) (ga 184 [.s 12, .i, .w, .v (.int .u8)] [.i]) (a4 (uZ n)) u1 m1
def uS(n:Nat)(a0:aj)(a1:Int)(a2:Int):Option (Except Int aL):=bd (dB n a0 a1) λaG=>tc (aG.2==0) (.error aG.2)<|tc (decide (0<=a2)&&decide (a2<8)) (.error 2)<|some (.ok aG.1)
def wq(n:Nat):CT:=cT (tW n [] [aQ n,aO n,dw n]) 210 [.s 6, .w, .i] [.s 5] 23 (a3 (uS n)) u1 m1
def Fy(n:Nat)(a0:aj)(a1:Int)(a2:Int)(a3:Int)(a4:Bool):Option (aj×Int):=bd (aB n a0.dA.iw a1) λaG=>cl ((aG==true)&&((a3==0)==false)) (aB n a0.dA.iw a3) default λaW=>tc (aG&&((a3==0)||aW)) (dM,4)<|tr (uS n a0 a1 a2) (λSM=>(dM,SM)) λeW=>cl (((a3==0)||a4)==false) (jL n a0 a3 a1) default λiz=>tc (((a3==0)||a4)||iz) (dM,5)<|gu (cB a2 8)<|lt ({eW with nM:=(mg eW.nM (Int.toNat a2) a3)}:aL) λqy=>bd (jG n a0 a1 qy) λsK=>some (sK.1,sK.2)
def F8(n:Nat):CT:=cV (tW n [] [aQ n,aO n,aH n,wq n,kX n,kU n]) (ga 208 [.s 6, .w, .i, .w, .b] [.t [.s 6, .i]]) (λx=>Fy n x.1 x.2.1 x.2.2.1 x.2.2.2.1 x.2.2.2.2.1) u2 m2
def FB(n:Nat)(a0:aj)(a1:Int)(a2:Int)(a3:Int)(a4:Bool):Option (aj×Int):=bd (Fy n a0 a1 a2 a3 a4) λaG=>cn ((aG.2!=0)) (some (a0,aG.2)) (some (aG.1,0))
def F9(n:Nat):CT:=cV (tW n [] [F8 n]) (ga 175 [.s 6, .w, .i, .w, .b] [.t [.s 6, .i]]) (λx=>FB n x.1 x.2.1 x.2.2.1 x.2.2.2.1 x.2.2.2.2.1) u2 m2
def B4(n:Nat)(a0:aj)(a1:Int)(a2:Int):Option (Int×Int):=tr (uS n a0 a1 a2) (λkj=>(0,kj)) λaG=>gu (cB a2 8)<|tc ((aG.nM (Int.toNat a2))!=0) (0,10)<|bd (aB n a0.dA.iw (aG.nM (Int.toNat a2))) λcM=>tc cM (0,4)<|some ((aG.nM (Int.toNat a2)),0)
def DH(n:Nat):CT:=cV (tW n [] [aQ n,aO n,wq n,aH n]) (ga 176 [.s 6, .w, .i] [.t [.w, .i]]) (a3 (B4 n)) u2 m2
def qm(n:Nat):Option aq:=lt ({cz with eF:=(mg cz.eF 0 true)}:aq) λaG=>lt ({aG with C0:=(mg aG.C0 0 true)}:aq) λcL=>some cL
def wo(n:Nat):CT:=cV (tW n [] []) (ga 11 [] [.s 15]) (λx=>qm n) u1 m1
def fB(n:Nat)(a0:ah)(a1:Int):Option ah:=bd (oD n a0.az.ez.T a1) λbR=>dy (λZH (sK:Int) (CD:ah)=>cn (decide (sK<(bR.length:Int))) (gu (cB sK bR.length)<|bd (dB n CD.az.ez.T (bR.getD (Int.toNat sK) default)) λz6=>gu (g5 CD.kO.length z6.1.E.p6.length 16)<|lt (CD.kO++z6.1.E.p6:List ai) λQT=>bd (pb n (({CD with kO:=QT}).az.ez.K) (bR.getD (Int.toNat sK) default)) λU0=>ZH (wr .i64 (sK+1)) ({({CD with kO:=QT})with az:={({CD with kO:=QT}).az with ez:={(({CD with kO:=QT}).az).ez with K:=U0}}})) (bd (Af n CD.az.ez.T a1) λZb=>some ({CD with az:={CD.az with ez:={CD.az.ez with T:=Zb.1}}}))) n 0 a0
def je(n:Nat):CT:=cV (tX n [(3, .loop [(.slot 17,(.v (.int .i64))),(.via 0,bT)])] [o5 n,dw n,tR n,CJ n] [(1,U6)] []) ⟨159,[], .cons bT (.cons (.v (.int .u32)) .nil), .cons (.iy .nil) (.cons bT .nil),[some 0,none], .nil,[],[[0]]⟩ (λx=>fB n (g7 x) x.2.2.2.2.2.2.2.1) (λy=>g7 y) (λz=>(h7 z ()))
def bY(n:Nat)(a0:Int):Option (Except Int Unit):=tc (a0==0) (.error a0)<|some (.ok ())
def bM(n:Nat):CT:=cT (tW n [] [aQ n,aO n]) 148 [.i] [.iy .nil] 23 (a1 (bY n)) (λ_ =>()) (λ_ =>())
def jZ(n:Nat)(a0:ah)(a1:Int)(a2:Int):Option (Except Int ah):=bd (wz n a0.az.ez.O a0.az.ez.T a1 a2) λbR=>tr (bY n bR.2.2) (λEi=>(.error Ei)) λcL=>cn ((bR.2.1==0)) (bd (fB n ({a0 with az:={a0.az with ez:={a0.az.ez with O:=bR.1}}}) a1) λdW=>some (.ok dW)) (some (.ok ({a0 with az:={a0.az with ez:={a0.az.ez with O:=bR.1}}})))
def nk(n:Nat):CT:=cX (tW n [] [aQ n,aO n,Av n,bM n,je n]) ⟨167,[], .cons bT (.cons (.v (.int .u32)) (.cons (.v (.int .i64)) .nil)), .cons (.iy .nil) (.cons bT .nil),[some 0,none],(.cons (.fW 23 (.v (.int .i64))) .nil),[],[[0]]⟩ (λx=>jZ n (g7 x) x.2.2.2.2.2.2.2.1 x.2.2.2.2.2.2.2.2.1) (λy=>g7 y) (λz=>(h7 z ())) u1 m1
def fA(n:Nat)(a0:ah)(a1:Int)(a2:Int):Option (Except Int ah):=bd (wv n a0.az.ez.O a0.az.ez.T a1 a2) λbR=>tr (bY n bR.2) (λEi=>(.error Ei)) λcL=>some (.ok ({a0 with az:={a0.az with ez:={a0.az.ez with O:=bR.1}}}))
def fR(n:Nat):CT:=cX (tW n [] [aQ n,aO n,Au n,bM n]) ⟨149,[], .cons bT (.cons (.v (.int .u32)) (.cons (.v (.int .i64)) .nil)), .cons (.iy .nil) (.cons bT .nil),[some 0,none],(.cons (.fW 23 (.v (.int .i64))) .nil),[],[[0]]⟩ (λx=>fA n (g7 x) x.2.2.2.2.2.2.2.1 x.2.2.2.2.2.2.2.2.1) (λy=>g7 y) (λz=>(h7 z ())) u1 m1
def wB(n:Nat)(a0:bC):Option bC:=some a0
def Aw(n:Nat):CT:=cV (tW n [] []) ⟨232,[], .cons (.v (.st 14)) .nil, .cons (.fn (.func 238) .nil (.cons (.box 64 (.v (.st 14))) .nil)) .nil,[none], .nil,[],[]⟩ (a1 (wB n)) u1 m1
def qZ(n:Nat)(a0:(List aI)):Option (List aI):=some a0
def o7(n:Nat)(a0:(List aI)):Option (List aI):=gu ((a0.length:Int)==(a0.length:Int))<|gu ((a0.length:Int)==(a0.length:Int))<|some a0
theorem xd(n:Nat)(a0:(List aI)):o7 n a0=qZ n a0:=Ih.trans Ih
def wL(n:Nat):CT:=cV (tW n [] []) (ga 233 [.v (.sl (.st 13))] [.v (.sl (.st 13))]) (a1 (qZ n)) u1 m1 (hW:=λx=>Eq.trans (b:=o7 n x.1) (by kernel_rfl) (xd ..))
def qn(n:Nat)(a0:bC)(a1:Int):Option Int:=some (Int.tmod (wr .i64 (a0.s8+a1)) 4)
def qB(n:Nat):CT:=cV (tW n [] []) (ga 207 [.s 14, .i] [.i]) (a2 (qn n)) u1 m1
def s6(n:Nat)(a1:bC):Option (List aI):=fZ (λk35 (cY:Int)=>cn (decide (cY<a1.n)) (bd (qn n a1 cY) λpW=>gu (cB pW 4)<|yl (a1.ring (Int.toNat pW))<|k35 (wr .i64 (cY+1))) (some [])) n 0
def yo(n:Nat):It Tryz.prog sg:=VD (tX n [(3, .loop [(.slot 6,(.v (.int .i64)))])] [qB n] [] []) 3000 238 (.cons (.box 64 (.v (.st 14))) .nil) (.cons (.v (.st 13)) .nil) (.st (G:=sg) (i:=13) (λ(x:aI)=>bP.enc cR x) (λJ cs x=>aR.iff (L:=cR)) .nil) (B:=aI) (λy=>(y,())) (λx=>(x.1)) (λx=>s6 n x.1) (λ_ =>rfl) (by kernel_rfl) (λx=>by kernel_rfl)
def yh(n:Nat)(a0:bC):Option (List aI):=bd (wB n a0) λaG=>bd (s6 n aG) λbR=>wZ (λ(Ms:aI) V1 (dW:(List aI))=>lt (Ms:aI) λiz=>gu (g5 dW.length 1 24)<|lt (dW++([iz]):List aI) λyS=>V1 yS) (λ(dW:(List aI))=>some dW) bR ([]:List aI)
def Bf(n:Nat):CT:=cV (tX n [(7, .loop [(.via 3, .box 247 (.row 61 4 (.st 13)))])] [Aw n,wL n] [] [yo n]) (ga 212 [.s 14] [.v (.sl (.st 13))]) (a1 (yh n)) u1 m1
def uE(n:Nat)(a0:bC):Option (bC×(List aI)):=lt ({ring:=(λ_ =>eL),s8:=0,n:=0,closed:=true}:bC) λaG=>bd (yh n a0) λaW=>some (aG,aW)
def y4(n:Nat):CT:=cV (tW n [] [Bf n]) (ga 177 [.s 14] [.t [.s 14, .v (.sl (.st 13))]]) (a1 (uE n)) u2 m2
def lR(n:Nat)(a0:ah)(a1:Int):Option (Except Int ah):=gu (cB a1 8)<|bd (uE n (a0.az.gP (Int.toNat a1))) λaW=>gu (cB a1 8)<|gu (cB a1 8)<|dy (λZG (J9:Int) (CB:ah)=>cn (decide (J9<(aW.2.length:Int))) (gu (cB J9 aW.2.length)<|lt ((aW.2.getD (Int.toNat J9) default):aI) λF5=>cn (((F5.Region==0)||F5.vh)) (ZG (wr .i64 (J9+1)) CB) (gu (cB F5.Cu 8)<|cn ((CB.az.eF (Int.toNat F5.Cu))) (tr (fA n CB F5.Region (wr .i64 F5.Cu)) (λaaz=>(.error aaz)) λUa=>ZG (wr .i64 (J9+1)) Ua) (bd (fB n CB F5.Region) λU0=>ZG (wr .i64 (J9+1)) U0))) (bd (sQ n CB.az.ez.K a1) λUZ=>dy (λZO (NM:Int) (F6:ah)=>cn (decide (NM<(UZ.length:Int))) (gu (cB NM UZ.length)<|bd (ej n F6.az.ez.K (UZ.getD (Int.toNat NM) default)) λZh=>ZO (wr .i64 (NM+1)) ({F6 with az:={F6.az with ez:={F6.az.ez with K:=Zh.1}}})) (bd (uy n F6.az.ez.O F6.az.ez.T a1) λQV=>dy (λZN (NL:Int) (NK:ah)=>cn (decide (NL<(QV.length:Int))) (gu (cB NL QV.length)<|bd (fB n NK (QV.getD (Int.toNat NL) default)) λZg=>ZN (wr .i64 (NL+1)) Zg) (bd (wu n NK.az.ez.O NK.az.ez.T a1) λQU=>dy (λZM (NJ:Int) (U2:ah)=>cn (decide (NJ<(QU.length:Int))) (gu (cB NJ QU.length)<|tr (jZ n U2 (QU.getD (Int.toNat NJ) default) a1) (λXk=>(.error Xk)) λZf=>ZM (wr .i64 (NJ+1)) Zf) (some (.ok U2))) n 0 NK)) n 0 F6)) n 0 CB)) n 0 ({({a0 with az:={a0.az with gP:=(mg a0.az.gP (Int.toNat a1) aW.1)}})with az:={({a0 with az:={a0.az with gP:=(mg a0.az.gP (Int.toNat a1) aW.1)}}).az with eF:=(mg ((({a0 with az:={a0.az with gP:=(mg a0.az.gP (Int.toNat a1) aW.1)}}).az).eF) (Int.toNat a1) false)}})
def og(n:Nat):CT:=cX (tX n [(9, .loop [(.slot 40,(.v (.int .i64))),(.via 0,bT)]),(25, .loop [(.slot 82,(.v (.int .i64))),(.via 0,bT)]),(35, .loop [(.slot 119,(.v (.int .i64))),(.via 0,bT)]),(45, .loop [(.slot 142,(.v (.int .i64))),(.via 0,bT)])] [aQ n,aO n,y4 n,fR n,je n,xC n,my n,yY n,As n,nk n] [(4,U6),(12,U6),(17,U6),(22,U6)] []) ⟨123,[], .cons bT (.cons (.v (.int .i64)) .nil), .cons (.iy .nil) (.cons bT .nil),[some 0,none],(.cons (.fW 23 (.v (.int .i64))) .nil),[],[[0]]⟩ (λx=>lR n (g7 x) x.2.2.2.2.2.2.2.1) (λy=>g7 y) (λz=>(h7 z ())) u1 m1
def bB(n:Nat)(a0:ah)(a1:Int)(a2:Int):Option (Except Int Unit):=bd (uZ n a0.az.ez a0.dU a1 a2) λbR=>tr (bY n bR) (λEi=>(.error Ei)) λcL=>some (.ok ())
def bF(n:Nat):CT:=cX (tW n [] [aQ n,aO n,y8 n,bM n]) ⟨146,[(160, .st (.part 952 (.v (.st 15)) (.part 1 (.v (.int .i64)) (.part 6 (.v (.st 20)) (.part 2 (.v (.st 3)) (.part 1 (.v (.int .i64)) (.part 1 (.v .bool) (.part 1 (.row 101 2 (.st 3)) .nil))))))))], .cons (.bp 0) (.cons (.v (.int .u32)) (.cons (.v (.int .u8)) .nil)), .cons (.iy .nil) .nil,[],(.cons (.fW 23 (.v (.int .i64))) .nil),[],[]⟩ (λx=>bB n (g7 x) x.2.2.2.2.2.2.2.1 x.2.2.2.2.2.2.2.2.1) (λ_ =>()) (λ_ =>()) u1 m1
def mN(n:Nat)(a0:ah):Option (Except Int (ae×ah)):=lt (λ(Q6:Unit)=>bd (BO n a0.az.ez.T a0.c.R (wr .i64 (if 65<a0.c.A then 65 else a0.c.A))) λeM=>tr (bY n eM.2.2) (λaaG=>(.error aaG)) λiz=>cn (((({a0 with az:={a0.az with ez:={a0.az.ez with T:=eM.1}}}).c.R)==0)) (tr (fA n ({a0 with az:={a0.az with ez:={a0.az.ez with T:=eM.1}}}) eM.2.1 (({a0 with az:={a0.az with ez:={a0.az.ez with T:=eM.1}}}).dU)) (λSG=>(.error SG)) λqy=>lt ({E:=0,V:=0,W:=eM.2.1}:ae) λCB=>some (.ok (CB,qy))) (lt ({E:=0,V:=0,W:=eM.2.1}:ae) λJ8=>some (.ok (J8,{a0 with az:={a0.az with ez:={a0.az.ez with T:=eM.1}}})))) λNu=>cn ((a0.c.R !=0)) (tr (bB n a0 a0.c.R 1) (λBU=>(.error BU)) λbR=>Nu ()) (Nu ())
def oX(n:Nat):CT:=cX (tW n [(6, .join [(.via 0,bT)] [])] [aQ n,aO n,bF n,DF n,bM n,fR n]) ⟨125,[], .cons bT .nil, .cons (.v (.st 19)) (.cons bT .nil),[some 0,none],(.cons (.fW 23 (.v (.int .i64))) .nil),[],[[0]]⟩ (λx=>mN n (g7 x)) (λy=>(y.1,g7 y.2)) (λz=>(z.1,(h7 z.2 ()))) u1 m1
def ep(n:Nat)(a0:ah)(a1:Int):Option (Except Int aL):=bd (dB n a0.az.ez.T a1) λbR=>tr (bY n bR.2) (λGZ=>(.error GZ)) λkQ=>some (.ok bR.1)
def eP(n:Nat):CT:=cX (tW n [] [aQ n,aO n,dw n,bM n]) ⟨151,[(160, .st (.part 952 (.v (.st 15)) (.part 1 (.v (.int .i64)) (.part 6 (.v (.st 20)) (.part 2 (.v (.st 3)) (.part 1 (.v (.int .i64)) (.part 1 (.v .bool) (.part 1 (.row 101 2 (.st 3)) .nil))))))))], .cons (.bp 0) (.cons (.v (.int .u32)) .nil), .cons (.v (.st 5)) .nil,[],(.cons (.fW 23 (.v (.int .i64))) .nil),[],[]⟩ (λx=>ep n (g7 x) x.2.2.2.2.2.2.2.1) u1 m1 u1 m1
def mL(n:Nat)(a0:ah)(a1:Int)(a2:aL):Option (Except Int ah):=bd (jG n a0.az.ez.T a1 a2) λbR=>tr (bY n bR.2) (λGZ=>(.error GZ)) λkQ=>some (.ok ({a0 with az:={a0.az with ez:={a0.az.ez with T:=bR.1}}}))
def oV(n:Nat):CT:=cX (tW n [] [aQ n,aO n,kU n,bM n]) ⟨156,[], .cons bT (.cons (.v (.int .u32)) (.cons (.v (.st 5)) .nil)), .cons (.iy .nil) (.cons bT .nil),[some 0,none],(.cons (.fW 23 (.v (.int .i64))) .nil),[],[[0]]⟩ (λx=>mL n (g7 x) x.2.2.2.2.2.2.2.1 x.2.2.2.2.2.2.2.2.1) (λy=>g7 y) (λz=>(h7 z ())) u1 m1
def j9(n:Nat)(a0:ah):Option (Except Int (ae×ah)):=bd (yw n (wr .i64 (if 129<a0.c.A then 129 else a0.c.A)) (wr .i64 (if 9<a0.c.B then 9 else a0.c.B))) λaG=>tc aG.2 (.error 2)<|tr (bB n a0 a0.c.R 1) (λBU=>(.error BU)) λbR=>tr (ep n a0 a0.c.R) (λEi=>(.error Ei)) λcL=>lt (λ(pW:aL) (qy:ah)=>bd (qp n pW.E (wr .i64 (if 129<a0.c.A then 129 else a0.c.A)) (wr .i64 (if 9<a0.c.B then 9 else a0.c.B))) λNq=>lt ({pW with E:=Nq.1}:aL) λx85=>tr (mL n qy qy.c.R x85) (λaay=>(.error aay)) λx88=>lt ({E:=0,V:=wr .u64 Nq.2.1,W:=0}:ae) λx99=>some (.ok (x99,x88))) λj45=>bd (kg n cL.E (wr .i64 (if 129<a0.c.A then 129 else a0.c.A)) (wr .i64 (if 9<a0.c.B then 9 else a0.c.B))) λIS=>cn ((!IS.2)) (bd (dz n cL.E) λx51=>tc (decide ((wr .i64 (x51+aG.1))<=cL.td)) (.error 6)<|cn (({a0 with lG:=aG.1}).B8) (lt ({E:=0,V:=0,W:=0}:ae) λP4=>some (.ok (P4,{a0 with lG:=aG.1}))) (bd (gD n cL.E (({a0 with lG:=aG.1}).run)) λF5=>lt ({cL with E:=F5}:aL) λQT=>cl (((({a0 with lG:=aG.1}).run.N)==aG.1)==true) (lZ n QT.E) default λZd=>tc (((({a0 with lG:=aG.1}).run.N)==aG.1)&&Zd) (.error 2)<|j45 QT ({a0 with lG:=aG.1}))) (j45 cL a0)
def nr(n:Nat):CT:=cX (tW n [(28, .join [(.via 7, .box 41 (.v (.st 5))),(.via 0,bT),(.via 2, .box 88 (.v (.st 19)))] [])] [aQ n,aO n,Bi n,bF n,eP n,nt n,eR n,tT n,oo n,vM n,oV n]) ⟨126,[], .cons bT .nil, .cons (.v (.st 19)) (.cons bT .nil),[some 0,none],(.cons (.fW 23 (.v (.int .i64))) .nil),[],[[0]]⟩ (λx=>j9 n (g7 x)) (λy=>(y.1,g7 y.2)) (λz=>(z.1,(h7 z.2 ()))) u1 m1
def uB(n:Nat)(a0:aL)(a1:aC):Option (Except Int Unit):=tc (decide ((wr .i64 a1.A)<=(wr .i64 (a0.E.IN-(wr .i64 a1.B))))) (.error 9)<|some (.ok ())
def wm(n:Nat):CT:=cT (tW n [] [aQ n,aO n]) 158 [.s 5, .s 20] [.iy .nil] 23 (a2 (uB n)) (λ_ =>()) (λ_ =>())
def uA(n:Nat)(a0:aC):Option (Except Int Unit):=tc (decide (1<=a0.B)&&decide (a0.B<=8)) (.error 2)<|some (.ok ())
def wk(n:Nat):CT:=cT (tW n [] [aQ n,aO n]) 157 [.s 20] [.iy .nil] 23 (a1 (uA n)) (λ_ =>()) (λ_ =>())
def lI(n:Nat)(a0:ah):Option (Except Int ae):=tr (uA n a0.c) (λkj=>(.error kj)) λaG=>tr (bB n a0 a0.c.R 0) (λuP=>(.error uP)) λaW=>tr (ep n a0 a0.c.R) (λBU=>(.error BU)) λbR=>tr (uB n bR a0.c) (λSI=>(.error SI)) λdc=>lt ({E:=0,V:=0,W:=0}:ae) λkQ=>some (.ok kQ)
def n8(n:Nat):CT:=cX (tW n [] [aQ n,aO n,wk n,bF n,eP n,wm n]) ⟨127,[(160, .st (.part 952 (.v (.st 15)) (.part 1 (.v (.int .i64)) (.part 6 (.v (.st 20)) (.part 2 (.v (.st 3)) (.part 1 (.v (.int .i64)) (.part 1 (.v .bool) (.part 1 (.row 101 2 (.st 3)) .nil))))))))], .cons (.bp 0) .nil, .cons (.v (.st 19)) .nil,[],(.cons (.fW 23 (.v (.int .i64))) .nil),[],[]⟩ (λx=>lI n (g7 x)) u1 m1 u1 m1
def jU(n:Nat)(a0:ah):Option (Except Int ae):=tr (uA n a0.c) (λkj=>(.error kj)) λaG=>tr (bB n a0 a0.c.R 1) (λuP=>(.error uP)) λaW=>tr (ep n a0 a0.c.R) (λBU=>(.error BU)) λbR=>tr (uB n bR a0.c) (λSI=>(.error SI)) λdc=>lt ({E:=0,V:=0,W:=0}:ae) λkQ=>some (.ok kQ)
def nf(n:Nat):CT:=cX (tW n [] [aQ n,aO n,wk n,bF n,eP n,wm n]) ⟨128,[(160, .st (.part 952 (.v (.st 15)) (.part 1 (.v (.int .i64)) (.part 6 (.v (.st 20)) (.part 2 (.v (.st 3)) (.part 1 (.v (.int .i64)) (.part 1 (.v .bool) (.part 1 (.row 101 2 (.st 3)) .nil))))))))], .cons (.bp 0) .nil, .cons (.v (.st 19)) .nil,[],(.cons (.fW 23 (.v (.int .i64))) .nil),[],[]⟩ (λx=>jU n (g7 x)) u1 m1 u1 m1
def jX(n:Nat)(a0:ah):Option (Except Int (ae×ah)):=tr (bB n a0 a0.c.R 1) (λkj=>(.error kj)) λaG=>tr (ep n a0 a0.c.R) (λuP=>(.error uP)) λaW=>gu (g5 a0.kO.length aW.E.p6.length 16)<|lt (a0.kO++aW.E.p6:List ai) λiz=>lt ({Up:=0,td:=aW.td,E:=bX,nM:=(λ_ =>0)}:aL) λjq=>tr (mL n ({a0 with kO:=iz}) (({a0 with kO:=iz}).c.R) jq) (λaaC=>(.error aaC)) λEK=>lt ({E:=0,V:=0,W:=0}:ae) λz6=>some (.ok (z6,EK))
def ni(n:Nat):CT:=cX (tW n [] [aQ n,aO n,bF n,eP n,oV n]) ⟨129,[], .cons bT .nil, .cons (.v (.st 19)) (.cons bT .nil),[some 0,none],(.cons (.fW 23 (.v (.int .i64))) .nil),[],[[0]]⟩ (λx=>jX n (g7 x)) (λy=>(y.1,g7 y.2)) (λz=>(z.1,(h7 z.2 ()))) u1 m1
def jk(n:Nat)(a0:ah):Option (Except Int (ae×ah)):=tr (bB n a0 a0.c.R 2) (λkj=>(.error kj)) λaG=>bd (fB n a0 a0.c.R) λaW=>lt ({E:=0,V:=0,W:=0}:ae) λgT=>some (.ok (gT,aW))
def mA(n:Nat):CT:=cX (tW n [] [aQ n,aO n,bF n,je n]) ⟨130,[], .cons bT .nil, .cons (.v (.st 19)) (.cons bT .nil),[some 0,none],(.cons (.fW 23 (.v (.int .i64))) .nil),[],[[0]]⟩ (λx=>jk n (g7 x)) (λy=>(y.1,g7 y.2)) (λz=>(z.1,(h7 z.2 ()))) u1 m1
def ia(n:Nat)(a0:ah)(a1:Int):Option (Except Int ah):=bd (BP n a0.az.ez.T a1) λbR=>tr (bY n bR.2) (λGZ=>(.error GZ)) λkQ=>some (.ok ({a0 with az:={a0.az with ez:={a0.az.ez with T:=bR.1}}}))
def jd(n:Nat):CT:=cX (tW n [] [aQ n,aO n,DG n,bM n]) ⟨161,[], .cons bT (.cons (.v (.int .u32)) .nil), .cons (.iy .nil) (.cons bT .nil),[some 0,none],(.cons (.fW 23 (.v (.int .i64))) .nil),[],[[0]]⟩ (λx=>ia n (g7 x) x.2.2.2.2.2.2.2.1) (λy=>g7 y) (λz=>(h7 z ())) u1 m1
def mO(n:Nat)(a0:ah):Option (Except Int (ae×ah)):=tr (bB n a0 a0.c.R 2) (λkj=>(.error kj)) λaG=>bd (fD n a0.az.ez.T a0.c.R) λcL=>tc (cL !=a0.c.R) (.error 12)<|tr (ia n a0 a0.c.R) (λSJ=>(.error SJ)) λeM=>tr (fA n eM eM.c.R eM.dU) (λaaF=>(.error aaF)) λkB=>lt ({E:=0,V:=0,W:=0}:ae) λIS=>some (.ok (IS,kB))
def oY(n:Nat):CT:=cX (tW n [] [aQ n,aO n,bF n,eB n,jd n,fR n]) ⟨131,[], .cons bT .nil, .cons (.v (.st 19)) (.cons bT .nil),[some 0,none],(.cons (.fW 23 (.v (.int .i64))) .nil),[],[[0]]⟩ (λx=>mO n (g7 x)) (λy=>(y.1,g7 y.2)) (λz=>(z.1,(h7 z.2 ()))) u1 m1
def jY(n:Nat)(a0:ah):Option (Except Int (ae×ah)):=tr (bB n a0 a0.c.R 2) (λkj=>(.error kj)) λaG=>tr (bB n a0 a0.c.S 1) (λuP=>(.error uP)) λaW=>bd (yt n a0.az.ez.T a0.c.R a0.c.S) λeW=>tr (bY n eW.2) (λaaH=>(.error aaH)) λcC=>lt ({E:=0,V:=0,W:=0}:ae) λyS=>some (.ok (yS,{a0 with az:={a0.az with ez:={a0.az.ez with T:=eW.1}}}))
def nj(n:Nat):CT:=cX (tW n [] [aQ n,aO n,bF n,Bg n,bM n]) ⟨132,[], .cons bT .nil, .cons (.v (.st 19)) (.cons bT .nil),[some 0,none],(.cons (.fW 23 (.v (.int .i64))) .nil),[],[[0]]⟩ (λx=>jY n (g7 x)) (λy=>(y.1,g7 y.2)) (λz=>(z.1,(h7 z.2 ()))) u1 m1
def jj(n:Nat)(a0:ah):Option (Except Int (ae×ah)):=tr (bB n a0 a0.c.R 2) (λkj=>(.error kj)) λaG=>tr (ia n a0 a0.c.R) (λuP=>(.error uP)) λaW=>bd (sZ n aW.az.ez.O aW.az.ez.T aW.c.R aW.dU) λiz=>tr (bY n iz.2) (λSH=>(.error SH)) λpW=>lt ({E:=0,V:=0,W:=0}:ae) λyR=>some (.ok (yR,{aW with az:={aW.az with ez:={aW.az.ez with O:=iz.1}}}))
def mz(n:Nat):CT:=cX (tW n [] [aQ n,aO n,bF n,jd n,xM n,bM n]) ⟨133,[], .cons bT .nil, .cons (.v (.st 19)) (.cons bT .nil),[some 0,none],(.cons (.fW 23 (.v (.int .i64))) .nil),[],[[0]]⟩ (λx=>jj n (g7 x)) (λy=>(y.1,g7 y.2)) (λz=>(z.1,(h7 z.2 ()))) u1 m1
def gw(n:Nat)(a0:ah)(a1:Int):Option (Except Int Unit):=bd (aB n a0.az.ez.T.dA.iw a1) λaG=>tc aG (.error 4)<|bd (fY n a0.az.ez.O a0.az.ez.T a1) λeW=>bd (fD n a0.az.ez.T a1) λdW=>tc ((dW==a1)&&(eW.tH==3)) (.error 12)<|gu (decide (0<=a0.dU))<|tc ((rA .u8 (Gk .u8 eW.fG a0.dU) 1)==1) (.error 5)<|some (.ok ())
def iB(n:Nat):CT:=cX (tW n [] [aQ n,aO n,aH n,fI n,eB n]) ⟨165,[(160, .st (.part 952 (.v (.st 15)) (.part 1 (.v (.int .i64)) (.part 6 (.v (.st 20)) (.part 2 (.v (.st 3)) (.part 1 (.v (.int .i64)) (.part 1 (.v .bool) (.part 1 (.row 101 2 (.st 3)) .nil))))))))], .cons (.bp 0) (.cons (.v (.int .u32)) .nil), .cons (.iy .nil) .nil,[],(.cons (.fW 23 (.v (.int .i64))) .nil),[],[]⟩ (λx=>gw n (g7 x) x.2.2.2.2.2.2.2.1) (λ_ =>()) (λ_ =>()) u1 m1
def eJ(n:Nat)(a0:ah)(a1:Int):Option (Except Int Unit):=gu (!((decide (a1<8))==true)||cB a1 8)<|tc (decide (a1<8)&&(a0.az.eF (Int.toNat a1))) (.error 2)<|some (.ok ())
def fj(n:Nat):CT:=cX (tW n [] [aQ n,aO n]) ⟨164,[(160, .st (.part 952 (.v (.st 15)) (.part 1 (.v (.int .i64)) (.part 6 (.v (.st 20)) (.part 2 (.v (.st 3)) (.part 1 (.v (.int .i64)) (.part 1 (.v .bool) (.part 1 (.row 101 2 (.st 3)) .nil))))))))], .cons (.bp 0) (.cons (.v (.int .u32)) .nil), .cons (.iy .nil) .nil,[],(.cons (.fW 23 (.v (.int .i64))) .nil),[],[]⟩ (λx=>eJ n (g7 x) x.2.2.2.2.2.2.2.1) (λ_ =>()) (λ_ =>()) u1 m1
def jW(n:Nat)(a0:ah):Option (Except Int (ae×ah)):=tr (eJ n a0 a0.c.A) (λkj=>(.error kj)) λaG=>tr (gw n a0 a0.c.R) (λuP=>(.error uP)) λaW=>bd (qF n a0.az.ez.O a0.az.ez.T a0.c.R (wr .i64 a0.c.A)) λeW=>tr (bY n eW.2) (λSJ=>(.error SJ)) λeM=>lt ({E:=0,V:=0,W:=0}:ae) λcM=>some (.ok (cM,{a0 with az:={a0.az with ez:={a0.az.ez with O:=eW.1}}}))
def nh(n:Nat):CT:=cX (tW n [] [aQ n,aO n,fj n,iB n,sM n,bM n]) ⟨134,[], .cons bT .nil, .cons (.v (.st 19)) (.cons bT .nil),[some 0,none],(.cons (.fW 23 (.v (.int .i64))) .nil),[],[[0]]⟩ (λx=>jW n (g7 x)) (λy=>(y.1,g7 y.2)) (λz=>(z.1,(h7 z.2 ()))) u1 m1
def lQ(n:Nat)(a0:ah):Option (Except Int (ae×ah)):=tr (gw n a0 a0.c.R) (λkj=>(.error kj)) λaG=>tr (jZ n a0 a0.c.R a0.dU) (λuP=>(.error uP)) λaW=>lt ({E:=0,V:=0,W:=0}:ae) λgT=>some (.ok (gT,aW))
def oe(n:Nat):CT:=cX (tW n [] [aQ n,aO n,iB n,nk n]) ⟨135,[], .cons bT .nil, .cons (.v (.st 19)) (.cons bT .nil),[some 0,none],(.cons (.fW 23 (.v (.int .i64))) .nil),[],[[0]]⟩ (λx=>lQ n (g7 x)) (λy=>(y.1,g7 y.2)) (λz=>(z.1,(h7 z.2 ()))) u1 m1
def lJ(n:Nat)(a0:ah):Option (Except Int (ae×ah)):=tr (eJ n a0 a0.c.A) (λkj=>(.error kj)) λaG=>tc (decide (a0.c.B<=1)) (.error 2)<|bd (aB n a0.az.ez.T.dA.iw a0.c.R) λbR=>tc bR (.error 4)<|lt (λ(u25:Unit)=>lt ({Region:=a0.c.R,By:=wr .u8 a0.dU,To:=wr .u8 a0.c.A,jb:=(a0.c.B==1),qw:=a0.c.S}:aV) λcC=>bd (qc n a0.az.ez.K cC) λiz=>tr (bY n iz.2.2) (λSH=>(.error SH)) λpW=>lt ({E:=0,V:=0,W:=iz.2.1}:ae) λyR=>some (.ok (yR,{a0 with az:={a0.az with ez:={a0.az.ez with K:=iz.1}}}))) λj26=>cn ((a0.c.S==0)) (bd (fY n a0.az.ez.O a0.az.ez.T a0.c.R) λg6=>tc ((g6.tH==1)&&((wr .i64 g6.mm)==a0.dU)) (.error 5)<|j26 ()) (bd (bL n a0.az.ez.K a0.c.S) λdc=>tr (bY n dc.2) (λGZ=>(.error GZ)) λkQ=>tc (((wr .i64 dc.1.To)==a0.dU)&&(dc.1.Region==a0.c.R)) (.error 5)<|j26 ())
def n9(n:Nat):CT:=cX (tW n [(20, .join [] [])] [aQ n,aO n,fj n,aH n,fI n,cG n,bM n,vI n]) ⟨136,[], .cons bT .nil, .cons (.v (.st 19)) (.cons bT .nil),[some 0,none],(.cons (.fW 23 (.v (.int .i64))) .nil),[],[[0]]⟩ (λx=>lJ n (g7 x)) (λy=>(y.1,g7 y.2)) (λz=>(z.1,(h7 z.2 ()))) u1 m1
def gX(n:Nat)(a0:ah):Option (Except Int (ae×ah)):=bd (bL n a0.az.ez.K a0.c.S) λaG=>tr (bY n aG.2) (λuP=>(.error uP)) λaW=>tc ((wr .i64 aG.1.To)==a0.dU) (.error 5)<|bd (ej n a0.az.ez.K a0.c.S) λcL=>lt ({E:=0,V:=0,W:=0}:ae) λcC=>some (.ok (cC,{a0 with az:={a0.az with ez:={a0.az.ez with K:=cL.1}}}))
def kD(n:Nat):CT:=cX (tW n [] [aQ n,aO n,cG n,bM n,my n]) ⟨137,[], .cons bT .nil, .cons (.v (.st 19)) (.cons bT .nil),[some 0,none],(.cons (.fW 23 (.v (.int .i64))) .nil),[],[[0]]⟩ (λx=>gX n (g7 x)) (λy=>(y.1,g7 y.2)) (λz=>(z.1,(h7 z.2 ()))) u1 m1
def yg(n:Nat)(a0:bC)(a1:aI):Option (bC×Int):=cn (a0.closed) (some (a0,11)) (cn ((a0.n==4)) (some (a0,7)) (bd (qn n a0 a0.n) λaG=>gu (cB aG 4)<|lt ({a0 with ring:=(mg a0.ring (Int.toNat aG) a1)}:bC) λbR=>lt ({bR with n:=wr .i64 (bR.n+1)}:bC) λcL=>some (cL,0)))
def Be(n:Nat):CT:=cV (tW n [] [qB n]) (ga 172 [.s 14, .s 13] [.t [.s 14, .i]]) (a2 (yg n)) u2 m2
def lH(n:Nat)(a0:ah):Option (Except Int (ae×ah)):=tr (eJ n a0 a0.c.A) (λkj=>(.error kj)) λaG=>tc (decide (a0.c.B<=1)) (.error 2)<|lt ({Cu:=wr .u8 a0.dU,CO:=a0.c.V,Region:=a0.c.R,vh:=((a0.c.R !=0)&&(a0.c.B==1))}:aI) λbR=>lt (λ(eM:ah)=>gu (cB eM.c.A 8)<|bd (yg n (eM.az.gP (Int.toNat eM.c.A)) bR) λF5=>tr (bY n F5.2) (λaaA=>(.error aaA)) λZe=>gu (cB eM.c.A 8)<|lt ({E:=0,V:=0,W:=0}:ae) λU1=>some (.ok (U1,{eM with az:={eM.az with gP:=(mg eM.az.gP (Int.toNat eM.c.A) F5.1)}}))) λRS=>cn (bR.vh) (tr (gw n a0 a0.c.R) (λaaI=>(.error aaI)) λgT=>bd (qF n a0.az.ez.O a0.az.ez.T a0.c.R (wr .i64 a0.c.A)) λpW=>cn ((pW.2==0)) (RS ({a0 with az:={a0.az with ez:={a0.az.ez with O:=pW.1}}})) (RS a0)) (cn ((a0.c.R !=0)) (tr (bB n a0 a0.c.R 2) (λaaE=>(.error aaE)) λyR=>tr (ia n a0 a0.c.R) (λaaD=>(.error aaD)) λjq=>bd (yb n jq.az.ez.O jq.az.ez.T jq.c.R) λEF=>tr (bY n EF.2) (λaaB=>(.error aaB)) λz6=>RS ({jq with az:={jq.az with ez:={jq.az.ez with O:=EF.1}}})) (RS a0))
def n6(n:Nat):CT:=cX (tW n [(30, .join [(.via 0,bT)] [])] [aQ n,aO n,fj n,iB n,sM n,bF n,jd n,Bd n,bM n,Be n]) ⟨138,[], .cons bT .nil, .cons (.v (.st 19)) (.cons bT .nil),[some 0,none],(.cons (.fW 23 (.v (.int .i64))) .nil),[],[[0]]⟩ (λx=>lH n (g7 x)) (λy=>(y.1,g7 y.2)) (λz=>(z.1,(h7 z.2 ()))) u1 m1
def wC(n:Nat)(a0:bC):Option (bC×aI×Int):=cn (((a0.n==0)&&a0.closed)) (lt ({Cu:=0,CO:=0,Region:=0,vh:=false}:aI) λaG=>some (a0,aG,11)) (cn ((a0.n==0)) (lt ({Cu:=0,CO:=0,Region:=0,vh:=false}:aI) λaW=>some (a0,aW,10)) (gu (cB a0.s8 4)<|lt ((a0.ring (Int.toNat a0.s8)):aI) λcL=>bd (qn n a0 1) λeW=>lt ({a0 with s8:=eW}:bC) λeM=>lt ({eM with n:=wr .i64 (a0.n-1)}:bC) λcY=>some (cY,cL,0)))
def Ay(n:Nat):CT:=cV (tW n [] [qB n]) (ga 173 [.s 14] [.t [.s 14, .s 13, .i]]) (a1 (wC n)) u3 m3
def fz(n:Nat)(a0:ah):Option (Except Int (ae×ah)):=gu (cB a0.dU 8)<|bd (wC n (a0.az.gP (Int.toNat a0.dU))) λaW=>tr (bY n aW.2.2) (λBU=>(.error BU)) λbR=>gu (cB a0.dU 8)<|cn (((aW.2.1.Region !=0)&&(!aW.2.1.vh))) (tr (fA n ({a0 with az:={a0.az with gP:=(mg a0.az.gP (Int.toNat a0.dU) aW.1)}}) aW.2.1.Region (({a0 with az:={a0.az with gP:=(mg a0.az.gP (Int.toNat a0.dU) aW.1)}}).dU)) (λaaJ=>(.error aaJ)) λdW=>lt ({E:=0,V:=aW.2.1.CO,W:=aW.2.1.Region}:ae) λqy=>some (.ok (qy,dW))) (lt ({E:=0,V:=aW.2.1.CO,W:=aW.2.1.Region}:ae) λjq=>some (.ok (jq,{a0 with az:={a0.az with gP:=(mg a0.az.gP (Int.toNat a0.dU) aW.1)}})))
def n7(n:Nat):CT:=cX (tW n [] [aQ n,aO n,Ay n,bM n,fR n]) ⟨139,[], .cons bT .nil, .cons (.v (.st 19)) (.cons bT .nil),[some 0,none],(.cons (.fW 23 (.v (.int .i64))) .nil),[],[[0]]⟩ (λx=>fz n (g7 x)) (λy=>(y.1,g7 y.2)) (λz=>(z.1,(h7 z.2 ()))) u1 m1
def uF(n:Nat)(a0:bC):Option (bC×Int):=cn (a0.closed) (some (a0,11)) (lt ({a0 with closed:=true}:bC) λaG=>some (aG,0))
def y5(n:Nat):CT:=cV (tW n [] []) (ga 174 [.s 14] [.t [.s 14, .i]]) (a1 (uF n)) u2 m2
def j8(n:Nat)(a0:ah):Option (Except Int (ae×ah)):=gu (cB a0.dU 8)<|bd (uF n (a0.az.gP (Int.toNat a0.dU))) λaW=>tr (bY n aW.2) (λBU=>(.error BU)) λbR=>gu (cB a0.dU 8)<|lt ({E:=0,V:=0,W:=0}:ae) λdW=>some (.ok (dW,{a0 with az:={a0.az with gP:=(mg a0.az.gP (Int.toNat a0.dU) aW.1)}}))
def nq(n:Nat):CT:=cX (tW n [] [aQ n,aO n,y5 n,bM n]) ⟨140,[], .cons bT .nil, .cons (.v (.st 19)) (.cons bT .nil),[some 0,none],(.cons (.fW 23 (.v (.int .i64))) .nil),[],[[0]]⟩ (λx=>j8 n (g7 x)) (λy=>(y.1,g7 y.2)) (λz=>(z.1,(h7 z.2 ()))) u1 m1
def mM(n:Nat)(a0:ah):Option (Except Int (ae×ah)):=tr (bB n a0 a0.c.R 1) (λkj=>(.error kj)) λaG=>lt (λ(u22:Unit)=>bd (fY n a0.az.ez.O a0.az.ez.T a0.c.S) λg6=>bd (FB n a0.az.ez.T a0.c.R (wr .i64 (if 8<a0.c.A then 8 else a0.c.A)) a0.c.S (g6.tH==3)) λcM=>tr (bY n cM.2) (λSG=>(.error SG)) λqy=>lt ({E:=0,V:=0,W:=0}:ae) λCD=>some (.ok (CD,{a0 with az:={a0.az with ez:={a0.az.ez with T:=cM.1}}}))) λj23=>cn ((a0.c.S !=0)) (tr (bB n a0 a0.c.S 0) (λEi=>(.error Ei)) λcL=>j23 ()) (j23 ())
def oW(n:Nat):CT:=cX (tW n [(8, .join [(.via 0,bT)] [])] [aQ n,aO n,bF n,fI n,F9 n,bM n]) ⟨141,[], .cons bT .nil, .cons (.v (.st 19)) (.cons bT .nil),[some 0,none],(.cons (.fW 23 (.v (.int .i64))) .nil),[],[[0]]⟩ (λx=>mM n (g7 x)) (λy=>(y.1,g7 y.2)) (λz=>(z.1,(h7 z.2 ()))) u1 m1
def j0(n:Nat)(a0:ah):Option (Except Int ae):=tr (bB n a0 a0.c.R 0) (λkj=>(.error kj)) λaG=>bd (B4 n a0.az.ez.T a0.c.R (wr .i64 (if 8<a0.c.A then 8 else a0.c.A))) λcL=>tr (bY n cL.2) (λSM=>(.error SM)) λeW=>lt ({E:=0,V:=0,W:=cL.1}:ae) λeM=>some (.ok eM)
def nn(n:Nat):CT:=cX (tW n [] [aQ n,aO n,bF n,DH n,bM n]) ⟨142,[(160, .st (.part 952 (.v (.st 15)) (.part 1 (.v (.int .i64)) (.part 6 (.v (.st 20)) (.part 2 (.v (.st 3)) (.part 1 (.v (.int .i64)) (.part 1 (.v .bool) (.part 1 (.row 101 2 (.st 3)) .nil))))))))], .cons (.bp 0) .nil, .cons (.v (.st 19)) .nil,[],(.cons (.fW 23 (.v (.int .i64))) .nil),[],[]⟩ (λx=>j0 n (g7 x)) u1 m1 u1 m1
def lP(n:Nat)(a0:ah):Option (Except Int (ae×ah)):=tr (lR n a0 a0.dU) (λkj=>(.error kj)) λaG=>lt ({E:=0,V:=0,W:=0}:ae) λkQ=>some (.ok (kQ,aG))
def od(n:Nat):CT:=cX (tW n [] [aQ n,aO n,og n]) ⟨143,[], .cons bT .nil, .cons (.v (.st 19)) (.cons bT .nil),[some 0,none],(.cons (.fW 23 (.v (.int .i64))) .nil),[],[[0]]⟩ (λx=>lP n (g7 x)) (λy=>(y.1,g7 y.2)) (λz=>(z.1,(h7 z.2 ()))) u1 m1
def lK(n:Nat)(a0:ah):Option (Except Int (ae×ah)):=tr (eJ n a0 a0.c.A) (λkj=>(.error kj)) λaG=>tr (lR n a0 (wr .i64 a0.c.A)) (λuP=>(.error uP)) λaW=>lt ({E:=0,V:=0,W:=0}:ae) λgT=>some (.ok (gT,aW))
def oa(n:Nat):CT:=cX (tW n [] [aQ n,aO n,fj n,og n]) ⟨144,[], .cons bT .nil, .cons (.v (.st 19)) (.cons bT .nil),[some 0,none],(.cons (.fW 23 (.v (.int .i64))) .nil),[],[[0]]⟩ (λx=>lK n (g7 x)) (λy=>(y.1,g7 y.2)) (λz=>(z.1,(h7 z.2 ()))) u1 m1
def jV(n:Nat)(a0:ah):Option (Except Int (ae×ah)):=gu (!((decide (a0.c.A<8))==true)||cB (Int.tmod a0.c.A 8) 8)<|tc (decide (a0.c.A<8)&&(!(a0.az.C0 (Int.toNat (Int.tmod a0.c.A 8))))) (.error 2)<|gu (cB a0.c.A 8)<|gu (cB a0.c.A 8)<|lt ({E:=0,V:=0,W:=0}:ae) λdc=>some (.ok (dc,{({a0 with az:={a0.az with eF:=(mg a0.az.eF (Int.toNat a0.c.A) true)}})with az:={({a0 with az:={a0.az with eF:=(mg a0.az.eF (Int.toNat a0.c.A) true)}}).az with C0:=(mg ((({a0 with az:={a0.az with eF:=(mg a0.az.eF (Int.toNat a0.c.A) true)}}).az).C0) (Int.toNat a0.c.A) true)}}))
def ng(n:Nat):CT:=cX (tW n [] [aQ n,aO n]) ⟨145,[], .cons bT .nil, .cons (.v (.st 19)) (.cons bT .nil),[some 0,none],(.cons (.fW 23 (.v (.int .i64))) .nil),[],[[0]]⟩ (λx=>jV n (g7 x)) (λy=>(y.1,g7 y.2)) (λz=>(z.1,(h7 z.2 ()))) u1 m1
end
end Go.Proofs.Z
namespace Go.Proofs.Z
open Go Go.Bw Go.Rw Go.RowKit
abbrev TS:=Nat->ah->Option (Except Int (ae×ah))
def E9(g:Nat->ah->Option (Except Int ae)):TS:=λn a=>match g n a with
 |some (.ok r)=>some (.ok (r,a))
 |some (.error e)=>some (.error e)
 |none=>none
def Fv:List (Int×Nat×TS):=[(1,125,mN),(2,126,j9),(3,127,E9 lI),(4,128,E9 jU),(5,129,jX),(6,130,jk),(7,131,mO),(8,132,jY),(9,133,jj),(10,134,jW),(11,135,lQ),(12,136,lJ),(13,137,gX),(14,138,lH),(15,139,fz),(16,139,fz),(17,140,j8),(18,141,mM),(19,142,E9 j0),(20,143,lP),(21,144,lK),(22,145,jV)]
def Mv(k:Int):Option (Int×Nat×TS):=Fv.find? λx=>k==x.1
def gy(n:Nat)(a0:ah):Option (ae×Option ah):=
 gu (!((decide (0<=a0.dU)&&decide (a0.dU<8))==true)||cB (rA .i64 a0.dU 7) 8)<|
 tc ((decide (0<=a0.dU)&&decide (a0.dU<8))&&(a0.az.eF (Int.toNat (rA .i64 a0.dU 7)))) (⟨12,0,0⟩,none)<|
 match Mv a0.c.Do with
 |none=>some (⟨2,0,0⟩,none)
 |some x=>tr (x.2.2 n a0) (λe=>(⟨e,0,0⟩,none)) λy=>some (y.1,some y.2)
def mC{Z:Type}(m:Option (Except Int (ae×ah)))(KO:ae->ah->Option Z)(KE:Int->Option Z):Option Z:=bd m λr=>match r with
 | .ok z=>KO z.1 z.2
 | .error e=>KE e
def kC{Z:Type}(m:Option (Except Int ae))(a:ah)(KO:ae->ah->Option Z)(KE:Int->Option Z):Option Z:=bd m λr=>match r with
 | .ok z=>KO z a
 | .error e=>KE e
def cD{Z:Type}(n:Nat)(a:ah)(KO:ae->ah->Option Z)(KM KK:Int->Option Z)(KN:Option Z):Option Z:=cn (a.c.Do==1) (mC (mN n a) KO KM)<|cn (a.c.Do==2) (mC (j9 n a) KO KM)<|cn (a.c.Do==3) (kC (lI n a) a KO KK)<|cn (a.c.Do==4) (kC (jU n a) a KO KK)<|cn (a.c.Do==5) (mC (jX n a) KO KM)<|cn (a.c.Do==6) (mC (jk n a) KO KM)<|cn (a.c.Do==7) (mC (mO n a) KO KM)<|cn (a.c.Do==8) (mC (jY n a) KO KM)<|cn (a.c.Do==9) (mC (jj n a) KO KM)<|cn (a.c.Do==10) (mC (jW n a) KO KM)<|cn (a.c.Do==11) (mC (lQ n a) KO KM)<|cn (a.c.Do==12) (mC (lJ n a) KO KM)<|cn (a.c.Do==13) (mC (gX n a) KO KM)<|cn (a.c.Do==14) (mC (lH n a) KO KM)<|cn (a.c.Do==15) (mC (fz n a) KO KM)<|cn (a.c.Do==16) (mC (fz n a) KO KM)<|cn (a.c.Do==17) (mC (j8 n a) KO KM)<|cn (a.c.Do==18) (mC (mM n a) KO KM)<|cn (a.c.Do==19) (kC (j0 n a) a KO KK)<|cn (a.c.Do==20) (mC (lP n a) KO KM)<|cn (a.c.Do==21) (mC (lK n a) KO KM)<|cn (a.c.Do==22) (mC (jV n a) KO KM)<|KN
def cA{Z:Type}(n:Nat)(a:ah)(KO:ae->ah->Option Z)(KM KK:Int->Option Z)(KN KA:Option Z):Option Z:=gu (!((decide (0<=a.dU)&&decide (a.dU<8))==true)||cB (rA .i64 a.dU 7) 8)<|cn ((decide (0<=a.dU)&&decide (a.dU<8))&&(a.az.eF (Int.toNat (rA .i64 a.dU 7)))) (cD n a KO KM KK KN) KA
theorem kZ{Z:Type}{m:Option (Except Int (ae×ah))}{K:ae×Option ah->Option Z}{z:Z}(h:bd (tr m (λe=>(⟨e,0,0⟩,none)) λy=>some (y.1,some y.2)) K=some z):mC m (λr c=>K (r,some c)) (λe=>K (⟨e,0,0⟩,none))=some z:=by
 cases m with
 |none=>cases h
 |some r=>cases r<;>exact h
theorem Kt{Z:Type}{g:Nat->ah->Option (Except Int ae)}{n:Nat}{a:ah}{K:ae×Option ah->Option Z}{KK:Int->Option Z}{z:Z}(hk:∀e,K (⟨e,0,0⟩,none)=some z->KK e=some z)(h:bd (tr (E9 g n a) (λe=>(⟨e,0,0⟩,none)) λy=>some (y.1,some y.2)) K=some z):kC (g n a) a (λr c=>K (r,some c)) KK=some z:=by
 unfold E9 at h;cases hm:g n a with
 |none=>rw[hm]at h;cases h
 |some r=>rw[hm]at h;cases r with
  |ok r=>exact h
  |error e=>exact hk e h
theorem Xs{Z:Type}{n:Nat}{a:ah}{K:ae×Option ah->Option Z}{KK:Int->Option Z}{z:Z}(hk:∀e,K (⟨e,0,0⟩,none)=some z->KK e=some z)(h:bd (match Mv a.c.Do with
  |none=>some (⟨2,0,0⟩,none)
  |some x=>tr (x.2.2 n a) (λe=>(⟨e,0,0⟩,none)) λy=>some (y.1,some y.2)) K=some z):cD n a (λr c=>K (r,some c)) (λe=>K (⟨e,0,0⟩,none)) KK (K (⟨2,0,0⟩,none))=some z:=by
 unfold Mv Fv at h;unfold cD;rw[List.find?_cons]at h;dsimp only at h;cases h0:(a.c.Do==1)with
 |true=>rw[h0]at h;exact kZ h
 |false=>
 rw[h0]at h;refine(rfl:cn false _ _ =_).trans ?_;rw[List.find?_cons]at h;dsimp only at h;cases h1:(a.c.Do==2)with
 |true=>rw[h1]at h;exact kZ h
 |false=>
 rw[h1]at h;refine(rfl:cn false _ _ =_).trans ?_;rw[List.find?_cons]at h;dsimp only at h;cases h2:(a.c.Do==3)with
 |true=>rw[h2]at h;exact Kt hk h
 |false=>
 rw[h2]at h;refine(rfl:cn false _ _ =_).trans ?_;rw[List.find?_cons]at h;dsimp only at h;cases h3:(a.c.Do==4)with
 |true=>rw[h3]at h;exact Kt hk h
 |false=>
 rw[h3]at h;refine(rfl:cn false _ _ =_).trans ?_;rw[List.find?_cons]at h;dsimp only at h;cases h4:(a.c.Do==5)with
 |true=>rw[h4]at h;exact kZ h
 |false=>
 rw[h4]at h;refine(rfl:cn false _ _ =_).trans ?_;rw[List.find?_cons]at h;dsimp only at h;cases h5:(a.c.Do==6)with
 |true=>rw[h5]at h;exact kZ h
 |false=>
 rw[h5]at h;refine(rfl:cn false _ _ =_).trans ?_;rw[List.find?_cons]at h;dsimp only at h;cases h6:(a.c.Do==7)with
 |true=>rw[h6]at h;exact kZ h
 |false=>
 rw[h6]at h;refine(rfl:cn false _ _ =_).trans ?_;rw[List.find?_cons]at h;dsimp only at h;cases h7:(a.c.Do==8)with
 |true=>rw[h7]at h;exact kZ h
 |false=>
 rw[h7]at h;refine(rfl:cn false _ _ =_).trans ?_;rw[List.find?_cons]at h;dsimp only at h;cases h8:(a.c.Do==9)with
 |true=>rw[h8]at h;exact kZ h
 |false=>
 rw[h8]at h;refine(rfl:cn false _ _ =_).trans ?_;rw[List.find?_cons]at h;dsimp only at h;cases h9:(a.c.Do==10)with
 |true=>rw[h9]at h;exact kZ h
 |false=>
 rw[h9]at h;refine(rfl:cn false _ _ =_).trans ?_;rw[List.find?_cons]at h;dsimp only at h;cases h10:(a.c.Do==11)with
 |true=>rw[h10]at h;exact kZ h
 |false=>
 rw[h10]at h;refine(rfl:cn false _ _ =_).trans ?_;rw[List.find?_cons]at h;dsimp only at h;cases h11:(a.c.Do==12)with
 |true=>rw[h11]at h;exact kZ h
 |false=>
 rw[h11]at h;refine(rfl:cn false _ _ =_).trans ?_;rw[List.find?_cons]at h;dsimp only at h;cases h12:(a.c.Do==13)with
 |true=>rw[h12]at h;exact kZ h
 |false=>
 rw[h12]at h;refine(rfl:cn false _ _ =_).trans ?_;rw[List.find?_cons]at h;dsimp only at h;cases h13:(a.c.Do==14)with
 |true=>rw[h13]at h;exact kZ h
 |false=>
 rw[h13]at h;refine(rfl:cn false _ _ =_).trans ?_;rw[List.find?_cons]at h;dsimp only at h;cases h14:(a.c.Do==15)with
 |true=>rw[h14]at h;exact kZ h
 |false=>
 rw[h14]at h;refine(rfl:cn false _ _ =_).trans ?_;rw[List.find?_cons]at h;dsimp only at h;cases h15:(a.c.Do==16)with
 |true=>rw[h15]at h;exact kZ h
 |false=>
 rw[h15]at h;refine(rfl:cn false _ _ =_).trans ?_;rw[List.find?_cons]at h;dsimp only at h;cases h16:(a.c.Do==17)with
 |true=>rw[h16]at h;exact kZ h
 |false=>
 rw[h16]at h;refine(rfl:cn false _ _ =_).trans ?_;rw[List.find?_cons]at h;dsimp only at h;cases h17:(a.c.Do==18)with
 |true=>rw[h17]at h;exact kZ h
 |false=>
 rw[h17]at h;refine(rfl:cn false _ _ =_).trans ?_;rw[List.find?_cons]at h;dsimp only at h;cases h18:(a.c.Do==19)with
 |true=>rw[h18]at h;exact Kt hk h
 |false=>
 rw[h18]at h;refine(rfl:cn false _ _ =_).trans ?_;rw[List.find?_cons]at h;dsimp only at h;cases h19:(a.c.Do==20)with
 |true=>rw[h19]at h;exact kZ h
 |false=>
 rw[h19]at h;refine(rfl:cn false _ _ =_).trans ?_;rw[List.find?_cons]at h;dsimp only at h;cases h20:(a.c.Do==21)with
 |true=>rw[h20]at h;exact kZ h
 |false=>
 rw[h20]at h;refine(rfl:cn false _ _ =_).trans ?_;rw[List.find?_cons]at h;dsimp only at h;cases h21:(a.c.Do==22)with
 |true=>rw[h21]at h;exact kZ h
 |false=>
 rw[h21]at h;refine(rfl:cn false _ _ =_).trans ?_;exact h
theorem QD{Z:Type}{n:Nat}{a:ah}{K:ae×Option ah->Option Z}{KK:Int->Option Z}{z:Z}(hk:∀e,K (⟨e,0,0⟩,none)=some z->KK e=some z)(h:bd (gy n a) K=some z):cA n a (λr c=>K (r,some c)) (λe=>K (⟨e,0,0⟩,none)) KK (K (⟨2,0,0⟩,none)) (K (⟨12,0,0⟩,none))=some z:=by
 unfold gy at h;unfold cA;cases h1:(!((decide (0<=a.dU)&&decide (a.dU<8))==true)||cB (rA .i64 a.dU 7) 8)with
 |false=>rw[h1]at h;cases h
 |true=>
  rw[h1]at h;cases h2:((decide (0<=a.dU)&&decide (a.dU<8))&&(a.az.eF (Int.toNat (rA .i64 a.dU 7))))with
  |false=>rw[h2]at h;exact h
  |true=>rw[h2]at h;exact Xs hk h
def ef(n:Nat)(a0:aq)(a1:Int)(a2:aC):Option Int:=lt ({az:=a0,dU:=a1,c:=a2,run:=bQ,lG:=0,B8:=true,kO:=[]}:ah) λaG=>cn ((a2.Do !=2)==false) (bd (gy n ({az:=a0,dU:=a1,c:=a2,run:=bQ,lG:=0,B8:=true,kO:=[]}:ah)) λcY=>oc cY.2 (cn (((a2.Do !=2)||(cY.1.E !=0))) (some 0) (none)) λOi=>cn (((a2.Do !=2)||(cY.1.E !=0))) (some 0) (some Oi.lG)) (cn (((a2.Do !=2)||(bJ.E !=0))) (some 0) (some (({az:=a0,dU:=a1,c:=a2,run:=bQ,lG:=0,B8:=true,kO:=[]}:ah).lG)))
def jh(n:Nat)(a0:aq)(a1:Int)(a2:aC):Option Int:=cn (a2.Do !=2) (some 0) (cA n ({az:=a0,dU:=a1,c:=a2,run:=bQ,lG:=0,B8:=true,kO:=[]}:ah) (λr c=>cn (r.E !=0) (some 0) (some c.lG)) (λe=>cn (e !=0) (some 0) none) (λe=>cn (e !=0) (some 0) (some 0)) (some 0) (some 0))
theorem vR(n:Nat)(a0:aq)(a1:Int)(a2:aC)(z:Int)(h:ef n a0 a1 a2=some z):jh n a0 a1 a2=some z:=by
 unfold ef at h;unfold jh;cases h1:(a2.Do !=2)with
 |true=>rw[h1]at h;exact h
 |false=>
  rw[h1]at h;have:=QD (a:=({az:=a0,dU:=a1,c:=a2,run:=bQ,lG:=0,B8:=true,kO:=[]}:ah)) (KK:=λe=>cn (e !=0) (some 0) (some 0)) (λe h=>by
   have h:cn (e !=0) (some 0) none=some z:=h;cases hb:(e !=0)with
   |true=>rw[hb]at h;exact h
   |false=>rw[hb]at h;cases h) h
  exact this
noncomputable def jf(n:Nat):Ct Tryz.prog sg:=Qe (tW n [] [aQ n,aO n,oX n,nr n,n8 n,nf n,ni n,mA n,oY n,nj n,mz n,nh n,oe n,n9 n,kD n,n6 n,n7 n,nq n,oW n,nn n,od n,oa n,ng n]) 3000 ⟨36,[], .cons (.v (.st 15)) (.cons (.v (.int .i64)) (.cons (.v (.st 20)) .nil)), .cons (.v (.int .i64)) .nil,[], .nil,[],[]⟩ (λx=>ef n x.1 x.2.1 x.2.2.1) (λx=>jh n x.1 x.2.1 x.2.2.1) (λy=>y.1) (λz=>(z,())) (0) (λ_ =>rfl) (by kernel_rfl) (λx=>by kernel_rfl) (λx z h=>by apply vR;exact h)
def q7(n:Nat)(a0:(List Int)):Option (List Int):=some a0
def o8(n:Nat)(a0:(List Int)):Option (List Int):=gu ((a0.length:Int)==(a0.length:Int))<|gu ((a0.length:Int)==(a0.length:Int))<|some a0
theorem xe(n:Nat)(a0:(List Int)):o8 n a0=q7 n a0:=Ih.trans Ih
noncomputable def wM(n:Nat):CT:=cV (tW n [] []) (ga 70 [.v (.sl (.int .i64))] [.v (.sl (.int .i64))]) (a1 (q7 n)) u1 m1 (hW:=λx=>Eq.trans (b:=o8 n x.1) (by kernel_rfl) (xe ..))
def qj(n:Nat)(a0:aq)(a1:aC):Option ((List Int)×Int):=bd (dB n a0.ez.T a1.R) λbR=>cn ((bR.2!=0)) (some (([]:List Int),bR.2)) (cn (((((a1.Do !=3)&&(a1.Do !=4))||decide (a1.B<1))||decide (8<a1.B))) (some (([]:List Int),2)) (cn (decide ((wr .i64 (bR.1.E.IN-(wr .i64 a1.B)))<(wr .i64 a1.A))) (some (([]:List Int),9)) (dy (λZI (jq:(List Int)) (EK:Int)=>cn (decide (EK<(wr .i64 a1.B))) (bd (ou n bR.1.E (wr .i64 ((wr .i64 a1.A)+EK))) λCB=>gu (g5 jq.length 1 8)<|lt (jq++([CB.1]):List Int) λJ8=>ZI J8 (wr .i64 (EK+1))) (some (jq,0))) n ([]) 0)))
noncomputable def vL(n:Nat):CT:=cV (tW n [(21, .loop [(.slot 8,(.row 3 1 (.int .i64))),(.slot 59,(.v (.int .i64)))])] [dw n,tj n,wM n]) (ga 40 [.s 15, .s 20] [.t [.v (.sl (.int .i64)), .i]]) (a2 (qj n)) u2 m2
def lT(n:Nat)(a0:aq)(a1:Int)(a2:aC)(a3:ai):Option (aq×ae×(List ai)):=lt ({az:=a0,dU:=a1,c:=a2,run:=a3,lG:=0,B8:=false,kO:=[]}:ah) λaG=>bd (gy n ({az:=a0,dU:=a1,c:=a2,run:=a3,lG:=0,B8:=false,kO:=[]}:ah)) λcY=>oc cY.2 (cn ((cY.1.E !=0)) (some (a0,cY.1,([]:List ai))) (none)) λOi=>cn ((cY.1.E !=0)) (some (a0,cY.1,([]:List ai))) (some (Oi.az,cY.1,Oi.kO))
def qW(n:Nat)(a0:aq)(a1:Int)(a2:aC)(a3:ai):Option (aq×ae×(List ai)):=cA n ({az:=a0,dU:=a1,c:=a2,run:=a3,lG:=0,B8:=false,kO:=[]}:ah) (λr c=>cn (r.E !=0) (some (a0,r,[])) (some (c.az,r,c.kO))) (λe=>cn (e !=0) (some (a0,⟨e,0,0⟩,[])) none) (λe=>cn (e !=0) (some (a0,⟨e,0,0⟩,[])) (some (a0,⟨e,0,0⟩,[]))) (some (a0,⟨2,0,0⟩,[])) (some (a0,⟨12,0,0⟩,[]))
theorem zC(n:Nat)(a0:aq)(a1:Int)(a2:aC)(a3:ai)(z:aq×ae×(List ai))(h:lT n a0 a1 a2 a3=some z):qW n a0 a1 a2 a3=some z:=by
 have:=QD (a:=({az:=a0,dU:=a1,c:=a2,run:=a3,lG:=0,B8:=false,kO:=[]}:ah)) (KK:=λe=>cn (e !=0) (some (a0,⟨e,0,0⟩,[])) (some (a0,⟨e,0,0⟩,[]))) (λe h=>by
  have h:cn (e !=0) (some (a0,⟨e,0,0⟩,([]:List ai))) none=some z:=h;cases hb:(e !=0)with
  |true=>rw[hb]at h;exact h
  |false=>rw[hb]at h;cases h) h
 exact this
noncomputable def qU(n:Nat):Ct Tryz.prog sg:=Qe (tW n [] [aQ n,aO n,oX n,nr n,n8 n,nf n,ni n,mA n,oY n,nj n,mz n,nh n,oe n,n9 n,kD n,n6 n,n7 n,nq n,oW n,nn n,od n,oa n,ng n]) 3000 ⟨41,[], .cons (.v (.st 15)) (.cons (.v (.int .i64)) (.cons (.v (.st 20)) (.cons (.v (.st 3)) .nil))), .cons (.iy (.cons (.v (.st 15)) (.cons (.v (.st 19)) (.cons (.v (.sl (.st 3))) .nil)))) .nil,[], .nil,[],[]⟩ (λx=>lT n x.1 x.2.1 x.2.2.1 x.2.2.2.1) (λx=>qW n x.1 x.2.1 x.2.2.1 x.2.2.2.1) (λy=>(y.1,y.2.1,y.2.2.1)) (λz=>(z.1,(z.2.1,(z.2.2,())))) (cz,bJ,[]) (λ_ =>rfl) (by kernel_rfl) (λx=>by kernel_rfl) (λx z h=>by apply zC;exact h)
end Go.Proofs.Z
namespace Go.Proofs.Z
open Go Go.Bw Go.Rw Go.RowKit
noncomputable section
abbrev tC(n:Nat)(h:List (Nat×Hn))(cs:List CT)(ON:List (It Tryz.prog sg)):tD Tryz.prog sg:=Zk tt zt n h cs ON eks
def wX(n:Nat)(a0:aq)(a1:Int)(a2:aC):Option Int:=
bd (ef n a0 a1 a2) λaG=>
cn (decide (0<aG)) (
some (0)) (
bd (lT n a0 a1 a2 bQ) λaW=>
lt (aW.1:aq) λbR=>
lt (aW.2.1:ae) λcL=>
some (cL.E))
def xK(n:Nat):CT:=cV (tC n [] [jf n,qU n] []) ⟨31,[],(.cons (.v (.st 15)) (.cons (.v (.int .i64)) (.cons (.v (.st 20)) .nil))),(.cons (.v (.int .i64)) .nil),[], .nil,[],[]⟩ (λx=>wX n x.1 x.2.1 x.2.2.1) (λy=>(y.1)) (λz=>(z,()))
def Bq(n:Nat)(a0:aq)(a1:Int)(a2:aC):Option Bool:=
cl (((a2.Do==15)==true)) (wX n a0 a1 a2) default λaG=>
some (((a2.Do==15)&&(aG==10)))
def DE(n:Nat):CT:=cV (tC n [] [xK n] []) ⟨30,[],(.cons (.v (.st 15)) (.cons (.v (.int .i64)) (.cons (.v (.st 20)) .nil))),(.cons (.v .bool) .nil),[], .nil,[],[]⟩ (λx=>Bq n x.1 x.2.1 x.2.2.1) (λy=>(y.1)) (λz=>(z,()))
def jM(n:Nat)(eZ:aq)(gO:aA)(iM:au)(iL:(List Int))(a1:ai):Option (aq×aA×au×(List Int)):=
Di (λk26 (aG:Int) (aW:aq) (bR:aA) (cL:au) (eW:(List Int))=>
cn (decide (aG<a1.N)) (
gu (g5 eW.length [wr .i64 (a1.At+aG)].length 8)<|
lt (eW++[wr .i64 (a1.At+aG)]:List Int) λcY=>
k26 (wr .i64 (aG+1)) aW bR cL cY) (
some (aW,bR,cL,eW))) n 0 eZ gO iM iL
def p9(n:Nat):CT:=cV (tC n [(5, .loop [(.slot 7, .v (.int .i64)),(.via 0, .box 78 (.st (.part 952 (.v (.st 15)) (.part 1 (.box 96 (.v (.st 21))) (.part 320 (.v (.st 17)) (.part 1 (.row 3 1 (.int .i64)) .nil))))))])] [] []) ⟨39,[],(.cons (.box 78 (.st (.part 952 (.v (.st 15)) (.part 1 (.box 96 (.v (.st 21))) (.part 320 (.v (.st 17)) (.part 1 (.row 3 1 (.int .i64)) .nil)))))) (.cons (.v (.st 3)) .nil)),(.cons (.iy .nil) (.cons (.box 78 (.st (.part 952 (.v (.st 15)) (.part 1 (.box 96 (.v (.st 21))) (.part 320 (.v (.st 17)) (.part 1 (.row 3 1 (.int .i64)) .nil)))))) .nil)),[some 0,some 1,none], .nil,[],[[0]]⟩ (λx=>jM n x.1 x.2.1 x.2.2.1 x.2.2.2.1 x.2.2.2.2.1) (λy=>(y.1,y.2.1,y.2.2.1,y.2.2.2.1)) (λz=>(z.1,(z.2.1,(z.2.2.1,(z.2.2.2,())))))
def yf(n:Nat)(a0:Int)(a1:Int):Option Bool:=
some (((((decide (0<=a0))&&(decide (a0<32)))&&(decide (0<=a1)))&&(decide (a1<8))))
def wP(n:Nat):CT:=cV (tC n [] [] []) ⟨61,[],(.cons (.v (.int .i64)) (.cons (.v (.int .i64)) .nil)),(.cons (.v .bool) .nil),[], .nil,[],[]⟩ (λx=>yf n x.1 x.2.1) (λy=>(y.1)) (λz=>(z,()))
def s5(n:Nat)(a0:au)(a1:Int)(a2:Int):Option au:=
lt (λ(aG:au)=>
lt (aG:au) λbR=>
some (bR)) λNu=>
bd (yf n a1 a2) λcL=>
gu (!(cL==true)||cB a1 32)<|
cn ((cL&&((wr .i64 ((a0.bj (Int.toNat a1)).Ny))==(wr .i64 (a2+1))))) (
gu (cB a1 32)<|
lt (({a0 with bj:=(mg a0.bj (Int.toNat a1) ({(a0.bj (Int.toNat a1))with Ny:=0}:bE))}:au):au) λeW=>
Nu eW) (
Nu a0)
def xO(n:Nat):CT:=cV (tC n [(6, .join [(.via 3, .box 75 (.v (.st 17)))] [])] [wP n] []) ⟨87,[],(.cons (.v (.st 17)) (.cons (.v (.int .i64)) (.cons (.v (.int .i64)) .nil))),(.cons (.v (.st 17)) .nil),[], .nil,[],[]⟩ (λx=>s5 n x.1 x.2.1 x.2.2.1) (λy=>(y.1)) (λz=>(z,()))
def qe(n:Nat)(a0:(List Int))(a1:Int):Option Int:=
fZ (λZK (aG:Int)=>
cn (decide (aG<(a0.length:Int))) (
gu (cB aG a0.length)<|
cn ((a1==(a0.getD (Int.toNat aG) default))) (
some (aG)) (
ZK (wr .i64 (aG+1)))) (
some ((-1)))) n 0
def vK(n:Nat):CT:=cV (tC n [(5, .loop [(.slot 8, .v (.int .i64))])] [] []) ⟨79,[],(.cons (.v (.sl (.int .u8))) (.cons (.v (.int .u8)) .nil)),(.cons (.v (.int .i64)) .nil),[], .nil,[],[]⟩ (λx=>qe n x.1 x.2.1) (λy=>(y.1)) (λz=>(z,()))
def nV(n:Nat)(a0:bE)(a1:Int):Option Int:=
gu (cB a0.n 9)<|
bd (qe n ((List.range (Int.toNat a0.n)).map a0.Ar) (wr .u8 a1)) λaG=>
some (aG)
def p8(n:Nat):CT:=cV (tC n [(1000008, .Ge)] [vK n] []) ⟨62,[],(.cons (.v (.st 16)) (.cons (.v (.int .i64)) .nil)),(.cons (.v (.int .i64)) .nil),[], .nil,[],[]⟩ (λx=>nV n x.1 x.2.1) (λy=>(y.1)) (λz=>(z,()))
def lU(n:Nat)(a0:bE)(a1:Int):Option bE:=
bd (nV n a0 a1) λaG=>
cn (decide (aG<0)) (
lt (a0:bE) λaW=>
some (aW)) (
gu (cB aG 9)<|
gu (cB (wr .i64 (aG+1)) 9)<|
lt (({a0 with Ar:=QC (Int.toNat aG) (Int.toNat (wr .i64 (aG+1))) 8 a0.Ar}:bE):bE) λbR=>
lt (({bR with n:=wr .i64 (bR.n-1)}:bE):bE) λcL=>
gu (cB cL.n 8)<|
lt (({cL with Ar:=(mg cL.Ar (Int.toNat cL.n) 0)}:bE):bE) λeW=>
lt (eW:bE) λeM=>
some (eM))
def oh(n:Nat):CT:=cV (tC n [] [p8 n] []) ⟨63,[],(.cons (.v (.st 16)) (.cons (.v (.int .i64)) .nil)),(.cons (.v (.st 16)) .nil),[], .nil,[],[]⟩ (λx=>lU n x.1 x.2.1) (λy=>(y.1)) (λz=>(z,()))
def s0(n:Nat)(a0:au)(a1:Int):Option au:=
dy (λk23 (aG:Int) (aW:au)=>
cn (decide (aG<32)) (
lt (λ(cL:au)=>
k23 (wr .i64 (aG+1)) cL) λV8=>
bd (s5 n aW aG a1) λeM=>
lt (eM:au) λcY=>
bd (yf n aG a1) λdW=>
cn (dW) (
gu (cB aG 32)<|
bd (lU n (cY.bj (Int.toNat aG)) a1) λg6=>
gu (cB aG 32)<|
lt (({cY with bj:=(mg cY.bj (Int.toNat aG) g6)}:au):au) λcM=>
V8 cM) (
V8 cY)) (
lt (aW:au) λdc=>
some (dc))) n 0 a0
def xN(n:Nat):CT:=cV (tC n [(5, .loop [(.slot 6, .v (.int .i64)),(.via 2, .box 75 (.v (.st 17)))]),(14, .join [(.via 2, .box 75 (.v (.st 17)))] [])] [xO n,wP n,oh n] []) ⟨75,[],(.cons (.v (.st 17)) (.cons (.v (.int .i64)) .nil)),(.cons (.v (.st 17)) .nil),[], .nil,[],[]⟩ (λx=>s0 n x.1 x.2.1) (λy=>(y.1)) (λz=>(z,()))
def wF(n:Nat)(eZ:aq)(gO:aA)(iM:au)(iL:(List Int))(a1:aF):Option (aq×aA×au×(List Int)):=
bd (jM n eZ gO iM iL a1.FP) λaG=>
bd (s0 n aG.2.2.1 a1.mm) λaW=>
lt (aW:au) λbR=>
some (aG.1,aG.2.1,bR,aG.2.2.2)
def AA(n:Nat):CT:=cV (tC n [] [p9 n,xN n] []) ⟨50,[],(.cons (.box 78 (.st (.part 952 (.v (.st 15)) (.part 1 (.box 96 (.v (.st 21))) (.part 320 (.v (.st 17)) (.part 1 (.row 3 1 (.int .i64)) .nil)))))) (.cons (.v (.st 22)) .nil)),(.cons (.iy .nil) (.cons (.box 78 (.st (.part 952 (.v (.st 15)) (.part 1 (.box 96 (.v (.st 21))) (.part 320 (.v (.st 17)) (.part 1 (.row 3 1 (.int .i64)) .nil)))))) .nil)),[some 0,some 1,none], .nil,[],[[0]]⟩ (λx=>wF n x.1 x.2.1 x.2.2.1 x.2.2.2.1 x.2.2.2.2.1) (λy=>(y.1,y.2.1,y.2.2.1,y.2.2.2.1)) (λz=>(z.1,(z.2.1,(z.2.2.1,(z.2.2.2,())))))
def fE(n:Nat)(eZ:aq)(gO:aA)(iM:au)(iL:(List Int))(eK:aF)(sx:ae)(sw:Bool)(a1:ae):Option (aq×aA×au×(List Int)×aF×ae×Bool):=
lt (a1:ae) λaG=>
bd (wF n eZ gO iM iL eK) λaW=>
some (aW.1,aW.2.1,aW.2.2.1,aW.2.2.2,eK,aG,true)
def jg(n:Nat):CT:=cV (tC n [] [AA n] []) ⟨32,[],(.cons (.box 117 (.st (.part 1 (.box 78 (.st (.part 952 (.v (.st 15)) (.part 1 (.box 96 (.v (.st 21))) (.part 320 (.v (.st 17)) (.part 1 (.row 3 1 (.int .i64)) .nil)))))) (.part 12 (.v (.st 22)) (.part 3 (.v (.st 19)) (.part 1 (.v .bool) .nil)))))) (.cons (.v (.st 19)) .nil)),(.cons (.iy .nil) (.cons (.box 117 (.st (.part 1 (.box 78 (.st (.part 952 (.v (.st 15)) (.part 1 (.box 96 (.v (.st 21))) (.part 320 (.v (.st 17)) (.part 1 (.row 3 1 (.int .i64)) .nil)))))) (.part 12 (.v (.st 22)) (.part 3 (.v (.st 19)) (.part 1 (.v .bool) .nil)))))) .nil)),[some 0,some 1,some 2,none], .nil,[],[[0]]⟩ (λx=>fE n x.1 x.2.1 x.2.2.1 x.2.2.2.1 x.2.2.2.2.1 x.2.2.2.2.2.1 x.2.2.2.2.2.2.1 x.2.2.2.2.2.2.2.1) (λy=>(y.1,y.2.1,y.2.2.1,y.2.2.2.1,y.2.2.2.2.1,y.2.2.2.2.2.1,y.2.2.2.2.2.2.1)) (λz=>(z.1,(z.2.1,(z.2.2.1,(z.2.2.2.1,(z.2.2.2.2.1,(z.2.2.2.2.2.1,(z.2.2.2.2.2.2,()))))))))
def gL(n:Nat)(a0:aq)(a1:Int):Option (List Int):=
bd (aB n a0.ez.T.dA.iw a1) λaG=>
cn ((!aG)) (
some ([])) (
some ([a1]))
def F7(n:Nat):CT:=cV (tC n [] [aH n] []) ⟨52,[],(.cons (.v (.st 15)) (.cons (.v (.int .u32)) .nil)),(.cons (.row 35 1 (.int .u32)) .nil),[none], .nil,[],[]⟩ (λx=>gL n x.1 x.2.1) (λy=>(y.1)) (λz=>(z,()))
def eI(n:Nat)(a0:aj)(a1:Int):Option (List Int):=
bd (aB n a0.dA.iw a1) λaG=>
cn ((!aG)) (
some ([])) (
bd (lW n a0 a1) λaW=>
bd (iG n aW.1 aW.2) λeM=>
wZ (λ(e25:Int) k24 (bR:(List Int))=>
gu (g5 bR.length [e25].length 4)<|
lt (bR++[e25]:List Int) λdW=>
k24 dW) (λ(bR:(List Int))=>
some (bR)) eM [])
def yV(n:Nat):CT:=cV (tC n [(150050000005, .loop [(.via 2, .box 104 (.row 35 1 (.int .u32)))])] [aH n,kW n] [iX n]) ⟨54,[],(.cons (.v (.st 6)) (.cons (.v (.int .u32)) .nil)),(.cons (.row 35 1 (.int .u32)) .nil),[none], .nil,[],[]⟩ (λx=>eI n x.1 x.2.1) (λy=>(y.1)) (λz=>(z,()))
def ot(n:Nat)(a0:(List Int))(a1:Int):Option (Int×(List Int)):=
fZ (λZK (aG:Int)=>
cn (decide (aG<(a0.length:Int))) (
gu (cB aG a0.length)<|
cn ((a1==(a0.getD (Int.toNat aG) default))) (
some (aG,a0)) (
ZK (wr .i64 (aG+1)))) (
some ((-1),a0))) n 0
def tg(n:Nat):CT:=cV (tC n [(5, .loop [(.slot 8, .v (.int .i64))])] [] []) ⟨78,[],(.cons (.row 35 1 (.int .u32)) (.cons (.v (.int .u32)) .nil)),(.cons (.v (.int .i64)) (.cons (.row 35 1 (.int .u32)) .nil)),[some 0], .nil,[],[[0]]⟩ (λx=>ot n x.1 x.2.1) (λy=>(y.1,y.2.1)) (λz=>(z.1,(z.2,())))
def lB(n:Nat)(a0:(List Int))(a1:Int):Option (Bool×(List Int)):=
bd (ot n a0 a1) λaG=>
some (decide (0<=aG.1),aG.2)
def qA(n:Nat):CT:=cV (tC n [] [tg n] []) ⟨57,[],(.cons (.row 35 1 (.int .u32)) (.cons (.v (.int .u32)) .nil)),(.cons (.v .bool) (.cons (.row 35 1 (.int .u32)) .nil)),[some 0], .nil,[],[[0]]⟩ (λx=>lB n x.1 x.2.1) (λy=>(y.1,y.2.1)) (λz=>(z.1,(z.2,())))
def xY(n:Nat)(a0:aq)(a1:aC):Option (List Int):=
cn (a1.Do==1) (
bd (gL n a0 a1.R) λsK=>
some (sK)) (
cn (a1.Do==2) (
bd (gL n a0 a1.R) λjq=>
some (jq)) (
cn (a1.Do==3) (
bd (gL n a0 a1.R) λyR=>
some (yR)) (
cn (a1.Do==4) (
bd (gL n a0 a1.R) λqy=>
some (qy)) (
cn (a1.Do==5) (
bd (gL n a0 a1.R) λyS=>
some (yS)) (
cn (a1.Do==10) (
bd (gL n a0 a1.R) λkB=>
some (kB)) (
cn (a1.Do==12) (
bd (gL n a0 a1.R) λpW=>
some (pW)) (
cn (a1.Do==18) (
bd (gL n a0 a1.R) λiz=>
some (iz)) (
cn (a1.Do==19) (
bd (gL n a0 a1.R) λcC=>
some (cC)) (
cn (a1.Do==6) (
bd (eI n a0.ez.T a1.R) λgT=>
some (gT)) (
cn (a1.Do==7) (
bd (eI n a0.ez.T a1.R) λkQ=>
some (kQ)) (
cn (a1.Do==9) (
bd (eI n a0.ez.T a1.R) λdc=>
some (dc)) (
cn (a1.Do==11) (
bd (eI n a0.ez.T a1.R) λcM=>
some (cM)) (
cn (a1.Do==8) (
bd (eI n a0.ez.T a1.R) λeM=>
cl ((((eM.length:Int)==0)==false)) (aB n a0.ez.T.dA.iw a1.S) default λcY=>
cn ((((eM.length:Int)==0)||(!cY))) (
some ([])) (
bd (lB n eM a1.S) λdW=>
cn (dW.1) (
some (dW.2)) (
gu (g5 dW.2.length [a1.S].length 4)<|
lt (dW.2++[a1.S]:List Int) λg6=>
some (g6)))) (
cn (a1.Do==13) (
bd (bL n a0.ez.K a1.S) λbR=>
lt (bR.1:aV) λcL=>
cn ((bR.2!=0)) (
some ([])) (
bd (gL n a0 cL.Region) λeW=>
some (eW))) (
cn (a1.Do==14) (
cn ((a1.B==1)) (
bd (gL n a0 a1.R) λaG=>
some (aG)) (
bd (eI n a0.ez.T a1.R) λaW=>
some (aW))) (
some ([])))))))))))))))))
def Bc(n:Nat):CT:=cV (tC n [] [F7 n,yV n,cG n,aH n,qA n] []) ⟨33,[],(.cons (.v (.st 15)) (.cons (.v (.st 20)) .nil)),(.cons (.v (.sl (.int .u32))) .nil),[], .nil,[],[]⟩ (λx=>xY n x.1 x.2.1) (λy=>(y.1)) (λz=>(z,()))
def pK(n:Nat)(eZ:aq)(gO:aA)(iM:au)(iL:(List Int))(eK:aF)(sx:ae)(sw:Bool):Option (Bool×aq×aA×au×(List Int)×aF×ae×Bool):=
cn (eK.Checked) (
some (false,eZ,gO,iM,iL,eK,sx,sw)) (
bd (Bq n eZ eK.mm eK.C) λaG=>
cn (aG) (
some (true,eZ,gO,iM,iL,eK,sx,sw)) (
bd (wX n eZ eK.mm eK.C) λaW=>
cn ((aW !=0)) (
bd (fE n eZ gO iM iL eK sx sw ({bJ with E:=aW}:ae)) λbR=>
some (true,bR.1,bR.2.1,bR.2.2.1,bR.2.2.2.1,bR.2.2.2.2.1,bR.2.2.2.2.2.1,bR.2.2.2.2.2.2)) (
bd (xY n eZ eK.C) λcL=>
lt (({eK with Checked:=true}:aF):aF) λeW=>
lt (({eW with jO:=cL}:aF):aF) λeM=>
some (true,eZ,gO,iM,iL,eM,sx,sw))))
def tV(n:Nat):CT:=cV (tC n [] [DE n,xK n,jg n,Bc n] []) ⟨21,[],(.cons (.box 117 (.st (.part 1 (.box 78 (.st (.part 952 (.v (.st 15)) (.part 1 (.box 96 (.v (.st 21))) (.part 320 (.v (.st 17)) (.part 1 (.row 3 1 (.int .i64)) .nil)))))) (.part 12 (.v (.st 22)) (.part 3 (.v (.st 19)) (.part 1 (.v .bool) .nil)))))) .nil),(.cons (.v .bool) (.cons (.box 117 (.st (.part 1 (.box 78 (.st (.part 952 (.v (.st 15)) (.part 1 (.box 96 (.v (.st 21))) (.part 320 (.v (.st 17)) (.part 1 (.row 3 1 (.int .i64)) .nil)))))) (.part 12 (.v (.st 22)) (.part 3 (.v (.st 19)) (.part 1 (.v .bool) .nil)))))) .nil)),[some 0,some 1,some 2,none], .nil,[],[[0]]⟩ (λx=>pK n x.1 x.2.1 x.2.2.1 x.2.2.2.1 x.2.2.2.2.1 x.2.2.2.2.2.1 x.2.2.2.2.2.2.1) (λy=>(y.1,y.2.1,y.2.2.1,y.2.2.2.1,y.2.2.2.2.1,y.2.2.2.2.2.1,y.2.2.2.2.2.2.1,y.2.2.2.2.2.2.2.1)) (λz=>(z.1,(z.2.1,(z.2.2.1,(z.2.2.2.1,(z.2.2.2.2.1,(z.2.2.2.2.2.1,(z.2.2.2.2.2.2.1,(z.2.2.2.2.2.2.2,())))))))))
def uD(n:Nat)(a0:au)(a1:Int)(a2:Int):Option (au×Bool):=
bd (yf n a1 a2) λaG=>
cn ((!aG)) (
lt (a0:au) λaW=>
some (aW,false)) (
gu (cB a1 32)<|
lt (λ(bR:au) (cL:au)=>
lt (cL:au) λeM=>
some (eM,false)) λV8=>
bd (nV n (a0.bj (Int.toNat a1)) a2) λcY=>
cn (((wr .i64 ((a0.bj (Int.toNat a1)).Ny))==(wr .i64 (a2+1)))) (
lt (a0:au) λdW=>
some (dW,true)) (
cn (((((a0.bj (Int.toNat a1)).Ny)==0)&&((((a0.bj (Int.toNat a1)).n)==0)||(cY==0)))) (
bd (lU n (a0.bj (Int.toNat a1)) a2) λg6=>
lt (({a0 with bj:=(mg a0.bj (Int.toNat a1) g6)}:au):au) λcM=>
lt (({cM with bj:=(mg cM.bj (Int.toNat a1) ({(cM.bj (Int.toNat a1))with Ny:=wr .u8 (wr .i64 (a2+1))}:bE))}:au):au) λdc=>
lt (dc:au) λkQ=>
some (kQ,true)) (
cn (decide (cY<0)) (
gu (cB ((a0.bj (Int.toNat a1)).n) 8)<|
lt (({a0 with bj:=(mg a0.bj (Int.toNat a1) ({(a0.bj (Int.toNat a1))with Ar:=(mg ((a0.bj (Int.toNat a1)).Ar) (Int.toNat ((a0.bj (Int.toNat a1)).n)) (wr .u8 a2))}:bE))}:au):au) λgT=>
lt (({gT with bj:=(mg gT.bj (Int.toNat a1) ({(gT.bj (Int.toNat a1))with n:=wr .i64 (((gT.bj (Int.toNat a1)).n)+1)}:bE))}:au):au) λcC=>
V8 cU cC) (
V8 cU a0))))
def yZ(n:Nat):CT:=cV (tC n [(28, .join [(.via 6, .box 75 (.v (.st 17))),(.via 3, .box 75 (.v (.st 17)))] [])] [wP n,p8 n,oh n] []) ⟨35,[],(.cons (.v (.st 17)) (.cons (.v (.int .i64)) (.cons (.v (.int .i64)) .nil))),(.cons (.iy (.cons (.v (.st 17)) (.cons (.v .bool) .nil))) .nil),[], .nil,[],[]⟩ (λx=>uD n x.1 x.2.1 x.2.2.1) (λy=>(y.1,y.2.1)) (λz=>(z.1,(z.2,())))
def pJ(n:Nat)(eZ:aq)(gO:aA)(iM:au)(iL:(List Int))(eK:aF)(sx:ae)(sw:Bool):Option (Bool×aq×aA×au×(List Int)×aF×ae×Bool):=
cn (((eK.jO.length:Int)==0)) (
some (false,eZ,gO,iM,iL,eK,sx,sw)) (
gu (cB 0 eK.jO.length)<|
bd (aZ n (eK.jO.getD (Int.toNat 0) default)) λaG=>
bd (uD n iM aG.1 eK.mm) λaW=>
lt (aW.1:au) λbR=>
lt (bR:au) λcL=>
lt (λ(eW:aq) (eM:aA) (cY:au) (dW:(List Int)) (g6:aF) (cM:ae) (dc:Bool)=>
some (true,eW,eM,cY,dW,g6,cM,dc)) λRS=>
cn (aW.2) (
gu (cB 1 (eK.jO.length+1))<|
lt (({eK with jO:=eK.jO.drop (Int.toNat 1)}:aF):aF) λgT=>
RS eZ gO cL iL gT sx sw) (
RS eZ gO cL iL eK sx sw))
def tU(n:Nat):CT:=cV (tC n [(16, .join [(.via 0, .box 117 (.st (.part 1 (.box 78 (.st (.part 952 (.v (.st 15)) (.part 1 (.box 96 (.v (.st 21))) (.part 320 (.v (.st 17)) (.part 1 (.row 3 1 (.int .i64)) .nil)))))) (.part 12 (.v (.st 22)) (.part 3 (.v (.st 19)) (.part 1 (.v .bool) .nil))))))] [])] [bg n,yZ n] []) ⟨22,[],(.cons (.box 117 (.st (.part 1 (.box 78 (.st (.part 952 (.v (.st 15)) (.part 1 (.box 96 (.v (.st 21))) (.part 320 (.v (.st 17)) (.part 1 (.row 3 1 (.int .i64)) .nil)))))) (.part 12 (.v (.st 22)) (.part 3 (.v (.st 19)) (.part 1 (.v .bool) .nil)))))) .nil),(.cons (.v .bool) (.cons (.box 117 (.st (.part 1 (.box 78 (.st (.part 952 (.v (.st 15)) (.part 1 (.box 96 (.v (.st 21))) (.part 320 (.v (.st 17)) (.part 1 (.row 3 1 (.int .i64)) .nil)))))) (.part 12 (.v (.st 22)) (.part 3 (.v (.st 19)) (.part 1 (.v .bool) .nil)))))) .nil)),[some 0,some 1,some 2,none], .nil,[],[[0]]⟩ (λx=>pJ n x.1 x.2.1 x.2.2.1 x.2.2.2.1 x.2.2.2.2.1 x.2.2.2.2.2.1 x.2.2.2.2.2.2.1) (λy=>(y.1,y.2.1,y.2.2.1,y.2.2.2.1,y.2.2.2.2.1,y.2.2.2.2.2.1,y.2.2.2.2.2.2.1,y.2.2.2.2.2.2.2.1)) (λz=>(z.1,(z.2.1,(z.2.2.1,(z.2.2.2.1,(z.2.2.2.2.1,(z.2.2.2.2.2.1,(z.2.2.2.2.2.2.1,(z.2.2.2.2.2.2.2,())))))))))
def sX(n:Nat)(a0:aA)(a1:Int):Option (Int×Int×aA):=
cn (decide (a1<1)) (
some (0,2,a0)) (
bd (uh n a0.pX a1) λaG=>
cn ((!aG.2)) (
some (0,6,a0)) (
bd (lu n a0.pX aG.1 a1) λaW=>
lt (({a0 with pX:=aW.1}:aA):aA) λbR=>
some (aG.1,0,bR)))
def xJ(n:Nat):CT:=cV (tC n [] [yU n,yT n] []) ⟨37,[],(.cons (.box 96 (.v (.st 21))) (.cons (.v (.int .i64)) .nil)),(.cons (.iy (.cons (.v (.int .i64)) (.cons (.v (.int .i64)) .nil))) (.cons (.box 96 (.v (.st 21))) .nil)),[some 0], .nil,[],[[0]]⟩ (λx=>sX n x.1 x.2.1) (λy=>(y.1,y.2.1,y.2.2.1)) (λz=>(z.1,(z.2.1,(z.2.2,()))))
def ow(n:Nat)(eZ:aq)(gO:aA)(iM:au)(iL:(List Int))(eK:aF)(sx:ae)(sw:Bool):Option (Bool×aq×aA×au×(List Int)×aF×ae×Bool):=
bd (ef n eZ eK.mm eK.C) λaG=>
cn (((aG==0)||(decide (0<eK.FP.N)))) (
some (false,eZ,gO,iM,iL,eK,sx,sw)) (
bd (sX n gO aG) λaW=>
cn ((aW.2.1!=0)) (
bd (fE n eZ aW.2.2 iM iL eK sx sw ({bJ with E:=aW.2.1}:ae)) λbR=>
some (true,bR.1,bR.2.1,bR.2.2.1,bR.2.2.2.1,bR.2.2.2.2.1,bR.2.2.2.2.2.1,bR.2.2.2.2.2.2)) (
lt (({eK with FP:=({At:=aW.1,N:=aG}:ai)}:aF):aF) λcL=>
some (true,eZ,aW.2.2,iM,iL,cL,sx,sw)))
def tq(n:Nat):CT:=cV (tC n [] [jf n,xJ n,jg n] []) ⟨23,[],(.cons (.box 117 (.st (.part 1 (.box 78 (.st (.part 952 (.v (.st 15)) (.part 1 (.box 96 (.v (.st 21))) (.part 320 (.v (.st 17)) (.part 1 (.row 3 1 (.int .i64)) .nil)))))) (.part 12 (.v (.st 22)) (.part 3 (.v (.st 19)) (.part 1 (.v .bool) .nil)))))) .nil),(.cons (.v .bool) (.cons (.box 117 (.st (.part 1 (.box 78 (.st (.part 952 (.v (.st 15)) (.part 1 (.box 96 (.v (.st 21))) (.part 320 (.v (.st 17)) (.part 1 (.row 3 1 (.int .i64)) .nil)))))) (.part 12 (.v (.st 22)) (.part 3 (.v (.st 19)) (.part 1 (.v .bool) .nil)))))) .nil)),[some 0,some 1,some 2,none], .nil,[],[[0]]⟩ (λx=>ow n x.1 x.2.1 x.2.2.1 x.2.2.2.1 x.2.2.2.2.1 x.2.2.2.2.2.1 x.2.2.2.2.2.2.1) (λy=>(y.1,y.2.1,y.2.2.1,y.2.2.2.1,y.2.2.2.2.1,y.2.2.2.2.2.1,y.2.2.2.2.2.2.1,y.2.2.2.2.2.2.2.1)) (λz=>(z.1,(z.2.1,(z.2.2.1,(z.2.2.2.1,(z.2.2.2.2.1,(z.2.2.2.2.2.1,(z.2.2.2.2.2.2.1,(z.2.2.2.2.2.2.2,())))))))))
def sW(n:Nat)(a0:aA)(a1:Int):Option (Int×aA):=
cn (((decide (a1<0))||(decide (a0.n<=a1)))) (
some (2,a0)) (
bd (jt n a0.pX a1) λaG=>
cn (aG) (
some (12,a0)) (
gu (cB a1 64)<|
lt (({a0 with bytes:=(mg a0.bytes (Int.toNat a1) (λ_ =>0))}:aA):aA) λaW=>
some (0,aW)))
def xI(n:Nat):CT:=cV (tC n [] [jE n] []) ⟨38,[],(.cons (.box 96 (.v (.st 21))) (.cons (.v (.int .i64)) .nil)),(.cons (.v (.int .i64)) (.cons (.box 96 (.v (.st 21))) .nil)),[some 0], .nil,[],[[0]]⟩ (λx=>sW n x.1 x.2.1) (λy=>(y.1,y.2.1)) (λz=>(z.1,(z.2,())))
def ov(n:Nat)(eZ:aq)(gO:aA)(iM:au)(iL:(List Int))(eK:aF)(sx:ae)(sw:Bool):Option (Bool×aq×aA×au×(List Int)×aF×ae×Bool):=
cn (decide (eK.FP.N<=eK.oK)) (
some (false,eZ,gO,iM,iL,eK,sx,sw)) (
bd (sW n gO (wr .i64 (eK.FP.At+eK.oK))) λaG=>
lt (({eK with oK:=wr .i64 (eK.oK+1)}:aF):aF) λaW=>
some (true,eZ,aG.2,iM,iL,aW,sx,sw))
def tn(n:Nat):CT:=cV (tC n [] [xI n] []) ⟨24,[],(.cons (.box 117 (.st (.part 1 (.box 78 (.st (.part 952 (.v (.st 15)) (.part 1 (.box 96 (.v (.st 21))) (.part 320 (.v (.st 17)) (.part 1 (.row 3 1 (.int .i64)) .nil)))))) (.part 12 (.v (.st 22)) (.part 3 (.v (.st 19)) (.part 1 (.v .bool) .nil)))))) .nil),(.cons (.v .bool) (.cons (.box 117 (.st (.part 1 (.box 78 (.st (.part 952 (.v (.st 15)) (.part 1 (.box 96 (.v (.st 21))) (.part 320 (.v (.st 17)) (.part 1 (.row 3 1 (.int .i64)) .nil)))))) (.part 12 (.v (.st 22)) (.part 3 (.v (.st 19)) (.part 1 (.v .bool) .nil)))))) .nil)),[some 0,some 1,some 2,some 3], .nil,[],[[0]]⟩ (λx=>ov n x.1 x.2.1 x.2.2.1 x.2.2.2.1 x.2.2.2.2.1 x.2.2.2.2.2.1 x.2.2.2.2.2.2.1) (λy=>(y.1,y.2.1,y.2.2.1,y.2.2.2.1,y.2.2.2.2.1,y.2.2.2.2.2.1,y.2.2.2.2.2.2.1,y.2.2.2.2.2.2.2.1)) (λz=>(z.1,(z.2.1,(z.2.2.1,(z.2.2.2.1,(z.2.2.2.2.1,(z.2.2.2.2.2.1,(z.2.2.2.2.2.2.1,(z.2.2.2.2.2.2.2,())))))))))
def sV(n:Nat)(a0:aA)(a1:Int)(a2:Int):Option (Int×aA):=
cn (decide (a1<0)) (
some (2,a0)) (
cn (((decide ((wr .i64 (Int.tdiv a1 32))<0))||(decide (a0.n<=(wr .i64 (Int.tdiv a1 32)))))) (
some (2,a0)) (
bd (jt n a0.pX (wr .i64 (Int.tdiv a1 32))) λaG=>
cn (aG) (
some (12,a0)) (
gu (cB (wr .i64 (Int.tdiv a1 32)) 64)<|
gu (cB (Int.tmod a1 32) 32)<|
lt (({a0 with bytes:=(mg a0.bytes (Int.toNat (wr .i64 (Int.tdiv a1 32))) (mg (a0.bytes (Int.toNat (wr .i64 (Int.tdiv a1 32)))) (Int.toNat (Int.tmod a1 32)) a2))}:aA):aA) λaW=>
some (0,aW))))
def xG(n:Nat):CT:=cV (tC n [] [jE n] []) ⟨44,[],(.cons (.box 96 (.v (.st 21))) (.cons (.v (.int .i64)) (.cons (.v (.int .u8)) .nil))),(.cons (.v (.int .i64)) (.cons (.box 96 (.v (.st 21))) .nil)),[some 0], .nil,[],[[0]]⟩ (λx=>sV n x.1 x.2.1 x.2.2.1) (λy=>(y.1,y.2.1)) (λz=>(z.1,(z.2,())))
def ur(n:Nat)(a0:aA)(a1:Int):Option (Int×Int):=
cn (decide (a1<0)) (
lt (0:Int) λaG=>
some (aG,2)) (
cn (((decide ((wr .i64 (Int.tdiv a1 32))<0))||(decide (a0.n<=(wr .i64 (Int.tdiv a1 32)))))) (
lt (0:Int) λaW=>
some (aW,2)) (
bd (jt n a0.pX (wr .i64 (Int.tdiv a1 32))) λbR=>
cn (bR) (
lt (0:Int) λcL=>
some (cL,12)) (
gu (cB (wr .i64 (Int.tdiv a1 32)) 64)<|
gu (cB (Int.tmod a1 32) 32)<|
lt (((a0.bytes (Int.toNat (wr .i64 (Int.tdiv a1 32)))) (Int.toNat (Int.tmod a1 32))):Int) λeW=>
lt (eW:Int) λeM=>
some (eM,0))))
def yW(n:Nat):CT:=cV (tC n [] [jE n] []) ⟨46,[(96, .v (.st 21))],(.cons (.bp 0) (.cons (.v (.int .i64)) .nil)),(.cons (.iy (.cons (.v (.int .u8)) (.cons (.v (.int .i64)) .nil))) .nil),[], .nil,[],[]⟩ (λx=>ur n x.1 x.2.1) (λy=>(y.1,y.2.1)) (λz=>(z.1,(z.2,())))
def nD(n:Nat)(eZ:aq)(gO:aA)(iM:au)(iL:(List Int))(eK:aF)(sx:ae)(sw:Bool):Option (Bool×aq×aA×au×(List Int)×aF×ae×Bool):=
lt (eK.C:aC) λaG=>
lt (λ(aW:aq) (bR:aA) (cL:au) (eW:(List Int)) (eM:aF) (cY:ae) (dW:Bool)=>
bd (qj n aW aG) λcM=>
bd (lT n aW eM.mm aG eM.FP) λdc=>
lt (dc.1:aq) λkQ=>
lt (dc.2.1:ae) λgT=>
cn ((gT.E !=0)) (
bd (fE n aW bR cL eW eM cY dW gT) λcC=>
some (true,cC.1,cC.2.1,cC.2.2.1,cC.2.2.2.1,cC.2.2.2.2.1,cC.2.2.2.2.2.1,cC.2.2.2.2.2.2)) (
lt (λ(iz:aq) (pW:aA) (kB:au) (yS:(List Int)) (qy:aF) (yR:ae) (jq:Bool) (sK:ae)=>
lt (kQ:aq) λEK=>
lt (({qy with FP:=bQ}:aF):aF) λx45=>
Di (λZH (IT:Int) (x47:aq) (IS:aA) (J9:au) (CB:(List Int))=>
cn (decide (IT<(dc.2.2.length:Int))) (
gu (cB IT dc.2.2.length)<|
lt ((dc.2.2.getD (Int.toNat IT) default):ai) λJ8=>
bd (jM n x47 IS J9 CB J8) λP5=>
ZH (wr .i64 (IT+1)) P5.1 P5.2.1 P5.2.2.1 P5.2.2.2) (
bd (fE n x47 IS J9 CB x45 yR jq sK) λEF=>
some (true,EF.1,EF.2.1,EF.2.2.1,EF.2.2.2.1,EF.2.2.2.2.1,EF.2.2.2.2.2.1,EF.2.2.2.2.2.2))) n 0 EK pW kB yS) λZQ=>
cn ((aG.Do==4)) (
E4 (λk63 (z6:Int) (P4:aq) (Nr:aA) (x58:au) (P3:(List Int)) (F5:aF) (Ze:ae) (Ua:Bool)=>
cn (decide (z6<(cM.1.length:Int))) (
gu (cB z6 cM.1.length)<|
gu (decide (0<=wr .i64 (8*z6)))<|
bd (sV n Nr (cM.1.getD (Int.toNat z6) default) (wr .u8 (Gk .u64 aG.V (wr .i64 (8*z6))))) λXY=>
k63 (wr .i64 (z6+1)) P4 XY.2 x58 P3 F5 Ze Ua) (
ZQ P4 Nr x58 P3 F5 Ze Ua gT)) n 0 aW bR cL eW eM cY dW) (
cn ((aG.Do==3)) (
dy (λk67 (T9:Int) (U1:ae)=>
cn (decide (T9<(cM.1.length:Int))) (
gu (cB T9 cM.1.length)<|
bd (ur n bR (cM.1.getD (Int.toNat T9) default)) λIQ=>
gu (decide (0<=wr .i64 (8*T9)))<|
lt (({U1 with V:=X3 .u64 U1.V (KH .u64 (wr .u64 IQ.1) (wr .i64 (8*T9)))}:ae):ae) λP2=>
k67 (wr .i64 (T9+1)) P2) (
ZQ aW bR cL eW eM cY dW U1)) n 0 gT) (
ZQ aW bR cL eW eM cY dW gT)))) λj29=>
cl ((decide (0<eK.FP.N)==true)) (ef n eZ eK.mm aG) default λx70=>
cn (((decide (0<eK.FP.N))&&(x70 !=eK.FP.N))) (
bd (jM n eZ gO iM iL eK.FP) λXX=>
lt (({eK with FP:=bQ}:aF):aF) λZd=>
j29 XX.1 XX.2.1 XX.2.2.1 XX.2.2.2 Zd sx sw) (
j29 eZ gO iM iL eK sx sw)
def rO(n:Nat):CT:=cV (tC n [(10, .join [(.via 0, .box 117 (.st (.part 1 (.box 78 (.st (.part 952 (.v (.st 15)) (.part 1 (.box 96 (.v (.st 21))) (.part 320 (.v (.st 17)) (.part 1 (.row 3 1 (.int .i64)) .nil)))))) (.part 12 (.v (.st 22)) (.part 3 (.v (.st 19)) (.part 1 (.v .bool) .nil))))))] []),(30, .join [(.via 65, .box 78 (.st (.part 952 (.v (.st 15)) (.part 1 (.box 96 (.v (.st 21))) (.part 320 (.v (.st 17)) (.part 1 (.row 3 1 (.int .i64)) .nil)))))),(.via 0, .box 117 (.st (.part 1 (.bp 0) (.part 12 (.v (.st 22)) (.part 3 (.v (.st 19)) (.part 1 (.v .bool) .nil)))))),(.via 7, .box 88 (.v (.st 19)))] []),(35, .loop [(.slot 130, .v (.int .i64)),(.via 65, .box 78 (.st (.part 952 (.v (.st 15)) (.part 1 (.box 96 (.v (.st 21))) (.part 320 (.v (.st 17)) (.part 1 (.row 3 1 (.int .i64)) .nil))))))]),(1100000003, .loop [(.slot 10, .v (.int .i64)),(.via 0, .box 117 (.st (.part 1 (.box 78 (.st (.part 952 (.v (.st 15)) (.part 1 (.box 96 (.v (.st 21))) (.part 320 (.v (.st 17)) (.part 1 (.row 3 1 (.int .i64)) .nil)))))) (.part 12 (.v (.st 22)) (.part 3 (.v (.st 19)) (.part 1 (.v .bool) .nil))))))]),(1160000003, .loop [(.slot 10, .v (.int .i64)),(.cap 2 1, .box 88 (.v (.st 19)))])] [vL n,qU n,jg n,p9 n,xG n,yW n,jf n] []) ⟨25,[],(.cons (.box 117 (.st (.part 1 (.box 78 (.st (.part 952 (.v (.st 15)) (.part 1 (.box 96 (.v (.st 21))) (.part 320 (.v (.st 17)) (.part 1 (.row 3 1 (.int .i64)) .nil)))))) (.part 12 (.v (.st 22)) (.part 3 (.v (.st 19)) (.part 1 (.v .bool) .nil)))))) .nil),(.cons (.v .bool) (.cons (.box 117 (.st (.part 1 (.box 78 (.st (.part 952 (.v (.st 15)) (.part 1 (.box 96 (.v (.st 21))) (.part 320 (.v (.st 17)) (.part 1 (.row 3 1 (.int .i64)) .nil)))))) (.part 12 (.v (.st 22)) (.part 3 (.v (.st 19)) (.part 1 (.v .bool) .nil)))))) .nil)),[some 0,some 1,some 2,none], .nil,[],[[0]]⟩ (λx=>nD n x.1 x.2.1 x.2.2.1 x.2.2.2.1 x.2.2.2.2.1 x.2.2.2.2.2.1 x.2.2.2.2.2.2.1) (λy=>(y.1,y.2.1,y.2.2.1,y.2.2.2.1,y.2.2.2.2.1,y.2.2.2.2.2.1,y.2.2.2.2.2.2.1,y.2.2.2.2.2.2.2.1)) (λz=>(z.1,(z.2.1,(z.2.2.1,(z.2.2.2.1,(z.2.2.2.2.1,(z.2.2.2.2.2.1,(z.2.2.2.2.2.2.1,(z.2.2.2.2.2.2.2,())))))))))
def uT(n:Nat)(eZ:aq)(gO:aA)(iM:au)(iL:(List Int))(a1:aF):Option (aF×ae×Bool×aq×aA×au×(List Int)):=
lt (λ(aG:aq) (aW:aA) (bR:au) (cL:(List Int)) (eW:aF) (eM:ae) (cY:Bool)=>
lt (eW:aF) λg6=>
lt (eM:ae) λcM=>
some (g6,cM,cY,aG,aW,bR,cL)) λUk=>
bd (pK n eZ gO iM iL a1 bJ false) λdc=>
cn (dc.1) (
Uk dc.2.1 dc.2.2.1 dc.2.2.2.1 dc.2.2.2.2.1 dc.2.2.2.2.2.1 dc.2.2.2.2.2.2.1 dc.2.2.2.2.2.2.2) (
bd (pJ n dc.2.1 dc.2.2.1 dc.2.2.2.1 dc.2.2.2.2.1 dc.2.2.2.2.2.1 dc.2.2.2.2.2.2.1 dc.2.2.2.2.2.2.2) λkQ=>
cn (kQ.1) (
Uk kQ.2.1 kQ.2.2.1 kQ.2.2.2.1 kQ.2.2.2.2.1 kQ.2.2.2.2.2.1 kQ.2.2.2.2.2.2.1 kQ.2.2.2.2.2.2.2) (
bd (ow n kQ.2.1 kQ.2.2.1 kQ.2.2.2.1 kQ.2.2.2.2.1 kQ.2.2.2.2.2.1 kQ.2.2.2.2.2.2.1 kQ.2.2.2.2.2.2.2) λgT=>
cn (gT.1) (
Uk gT.2.1 gT.2.2.1 gT.2.2.2.1 gT.2.2.2.2.1 gT.2.2.2.2.2.1 gT.2.2.2.2.2.2.1 gT.2.2.2.2.2.2.2) (
bd (ov n gT.2.1 gT.2.2.1 gT.2.2.2.1 gT.2.2.2.2.1 gT.2.2.2.2.2.1 gT.2.2.2.2.2.2.1 gT.2.2.2.2.2.2.2) λcC=>
cn (cC.1) (
Uk cC.2.1 cC.2.2.1 cC.2.2.2.1 cC.2.2.2.2.1 cC.2.2.2.2.2.1 cC.2.2.2.2.2.2.1 cC.2.2.2.2.2.2.2) (
bd (nD n cC.2.1 cC.2.2.1 cC.2.2.2.1 cC.2.2.2.2.1 cC.2.2.2.2.2.1 cC.2.2.2.2.2.2.1 cC.2.2.2.2.2.2.2) λiz=>
cn (iz.1) (
Uk iz.2.1 iz.2.2.1 iz.2.2.2.1 iz.2.2.2.2.1 iz.2.2.2.2.2.1 iz.2.2.2.2.2.2.1 iz.2.2.2.2.2.2.2) (
Uk iz.2.1 iz.2.2.1 iz.2.2.2.1 iz.2.2.2.2.1 iz.2.2.2.2.2.1 iz.2.2.2.2.2.2.1 iz.2.2.2.2.2.2.2)))))
def y7(n:Nat):CT:=cV (tC n [(14, .join [(.via 7, .box 117 (.st (.part 1 (.box 78 (.st (.part 952 (.v (.st 15)) (.part 1 (.box 96 (.v (.st 21))) (.part 320 (.v (.st 17)) (.part 1 (.row 3 1 (.int .i64)) .nil)))))) (.part 12 (.v (.st 22)) (.part 3 (.v (.st 19)) (.part 1 (.v .bool) .nil))))))] []),(7, .Ge)] [tV n,tU n,tq n,tn n,rO n] []) ⟨16,[],(.cons (.box 78 (.st (.part 952 (.v (.st 15)) (.part 1 (.box 96 (.v (.st 21))) (.part 320 (.v (.st 17)) (.part 1 (.row 3 1 (.int .i64)) .nil)))))) (.cons (.v (.st 22)) .nil)),(.cons (.iy (.cons (.v (.st 22)) (.cons (.v (.st 19)) (.cons (.v .bool) .nil)))) (.cons (.box 78 (.st (.part 952 (.v (.st 15)) (.part 1 (.box 96 (.v (.st 21))) (.part 320 (.v (.st 17)) (.part 1 (.row 3 1 (.int .i64)) .nil)))))) .nil)),[some 0,some 1,none], .nil,[],[[0]]⟩ (λx=>uT n x.1 x.2.1 x.2.2.1 x.2.2.2.1 x.2.2.2.2.1) (λy=>(y.1,y.2.1,y.2.2.1,y.2.2.2.1,y.2.2.2.2.1,y.2.2.2.2.2.1,y.2.2.2.2.2.2.1)) (λz=>(z.1,(z.2.1,(z.2.2.1,(z.2.2.2.1,(z.2.2.2.2.1,(z.2.2.2.2.2.1,(z.2.2.2.2.2.2,()))))))))
def kG(n:Nat)(eZ:aq)(gO:aA)(iM:au)(iL:(List Int))(a1:Int)(a2:aC):Option (ae×Int×aq×aA×au×(List Int)):=
lt (({({gh with mm:=a1}:aF)with C:=a2}:aF):aF) λaG=>
E5 (λRR (aW:Int) (bR:aq) (cL:aA) (eW:au) (eM:(List Int)) (cY:ae) (dW:aF)=>
cn (decide (aW<=200)) (
bd (uT n bR cL eW eM dW) λcM=>
lt (cM.1:aF) λdc=>
lt (cM.2.1:ae) λkQ=>
cn (cM.2.2.1) (
lt (kQ:ae) λgT=>
some (gT,aW,cM.2.2.2.1,cM.2.2.2.2.1,cM.2.2.2.2.2.1,cM.2.2.2.2.2.2)) (
cn ((!dc.Checked)) (
lt (({bJ with E:=10}:ae):ae) λcC=>
some (cC,aW,cM.2.2.2.1,cM.2.2.2.2.1,cM.2.2.2.2.2.1,cM.2.2.2.2.2.2)) (
lt (dc:aF) λiz=>
RR (wr .i64 (aW+1)) cM.2.2.2.1 cM.2.2.2.2.1 cM.2.2.2.2.2.1 cM.2.2.2.2.2.2 cY iz))) (
lt (({bJ with E:=12}:ae):ae) λpW=>
some (pW,200,bR,cL,eW,eM))) n 1 eZ gO iM iL bJ aG
def CG(n:Nat):CT:=cV (tC n [(7, .loop [(.slot 9, .v (.int .i64)),(.via 0, .box 78 (.st (.part 952 (.v (.st 15)) (.part 1 (.box 96 (.v (.st 21))) (.part 320 (.v (.st 17)) (.part 1 (.row 3 1 (.int .i64)) .nil)))))),(.via 6, .box 88 (.v (.st 19))),(.via 8, .box 106 (.v (.st 22)))])] [y7 n] []) ⟨12,[],(.cons (.box 78 (.st (.part 952 (.v (.st 15)) (.part 1 (.box 96 (.v (.st 21))) (.part 320 (.v (.st 17)) (.part 1 (.row 3 1 (.int .i64)) .nil)))))) (.cons (.v (.int .i64)) (.cons (.v (.st 20)) .nil))),(.cons (.iy (.cons (.v (.st 19)) (.cons (.v (.int .i64)) .nil))) (.cons (.box 78 (.st (.part 952 (.v (.st 15)) (.part 1 (.box 96 (.v (.st 21))) (.part 320 (.v (.st 17)) (.part 1 (.row 3 1 (.int .i64)) .nil)))))) .nil)),[some 0,some 1,none], .nil,[],[[0]]⟩ (λx=>kG n x.1 x.2.1 x.2.2.1 x.2.2.2.1 x.2.2.2.2.1 x.2.2.2.2.2.1) (λy=>(y.1,y.2.1,y.2.2.1,y.2.2.2.1,y.2.2.2.2.1,y.2.2.2.2.2.1)) (λz=>(z.1,(z.2.1,(z.2.2.1,(z.2.2.2.1,(z.2.2.2.2.1,(z.2.2.2.2.2,())))))))
def pC(n:Nat)(a0:aA)(a1:Int):Option (Int×aA):=
cn (((decide (a1<0))||(decide (a0.n<=a1)))) (
some (2,a0)) (
bd (jt n a0.pX a1) λaG=>
cn (aG) (
some (12,a0)) (
gu (cB a1 64)<|
bd (pg n a0.pX a1 1) λaW=>
lt (({a0 with pX:=aW.1}:aA):aA) λbR=>
some (0,bR)))
def qT(n:Nat):CT:=cV (tC n [] [jE n,qQ n] []) ⟨14,[],(.cons (.box 96 (.v (.st 21))) (.cons (.v (.int .i64)) .nil)),(.cons (.v (.int .i64)) (.cons (.box 96 (.v (.st 21))) .nil)),[some 0], .nil,[],[[0]]⟩ (λx=>pC n x.1 x.2.1) (λy=>(y.1,y.2.1)) (λz=>(z.1,(z.2,())))
def pM(n:Nat)(eZ:aq)(gO:aA)(iM:au)(iL:(List Int)):Option (Bool×aq×aA×au×(List Int)):=
cn (((iL.length:Int)==0)) (
some (false,eZ,gO,iM,iL)) (
gu (cB 0 iL.length)<|
bd (pC n gO (iL.getD (Int.toNat 0) default)) λaG=>
gu (cB 1 (iL.length+1))<|
lt (iL.drop (Int.toNat 1):(List Int)) λaW=>
some (true,eZ,aG.2,iM,aW))
def qV(n:Nat):CT:=cV (tC n [] [qT n] []) ⟨9,[],(.cons (.box 78 (.st (.part 952 (.v (.st 15)) (.part 1 (.box 96 (.v (.st 21))) (.part 320 (.v (.st 17)) (.part 1 (.row 3 1 (.int .i64)) .nil)))))) .nil),(.cons (.v .bool) (.cons (.box 78 (.st (.part 952 (.v (.st 15)) (.part 1 (.box 96 (.v (.st 21))) (.part 320 (.v (.st 17)) (.part 1 (.v (.sl (.int .i64))) .nil)))))) .nil)),[some 0,some 1], .nil,[],[[0]]⟩ (λx=>pM n x.1 x.2.1 x.2.2.1 x.2.2.2.1) (λy=>(y.1,y.2.1,y.2.2.1,y.2.2.2.1,y.2.2.2.2.1)) (λz=>(z.1,(z.2.1,(z.2.2.1,(z.2.2.2.1,(z.2.2.2.2,()))))))
def lE(n:Nat)(a0:aA):Option bA:=
lt (a0.pX:bA) λaG=>
some (aG)
def qS(n:Nat):CT:=cV (tC n [] [] []) ⟨7,[(96, .v (.st 21))],(.cons (.bp 0) .nil),(.cons (.v (.st 18)) .nil),[], .nil,[],[]⟩ (λx=>lE n x.1) (λy=>(y.1)) (λz=>(z,()))
def nA(n:Nat):Option Bool:=
bd (xT n 4) λaG=>
bd (qm n) λaW=>
bd (kG n aW ({({dF with n:=4}:aA)with pX:=aG}:aA) cU [] 0 ({({cK with Do:=1}:aC)with A:=2}:aC)) λbR=>
lt (bR.1:ae) λcL=>
bd (kG n bR.2.2.1 bR.2.2.2.1 bR.2.2.2.2.1 bR.2.2.2.2.2 0 ({({({({cK with Do:=2}:aC)with R:=1}:aC)with A:=8}:aC)with B:=8}:aC)) λeW=>
lt (eW.1:ae) λeM=>
bd (kG n eW.2.2.1 eW.2.2.2.1 eW.2.2.2.2.1 eW.2.2.2.2.2 0 ({({({({({cK with Do:=4}:aC)with R:=1}:aC)with A:=2}:aC)with B:=2}:aC)with V:=4660}:aC)) λcY=>
lt (cY.1:ae) λdW=>
bd (kG n cY.2.2.1 cY.2.2.2.1 cY.2.2.2.2.1 cY.2.2.2.2.2 0 ({({({({cK with Do:=3}:aC)with R:=1}:aC)with A:=1}:aC)with B:=3}:aC)) λg6=>
lt (g6.1:ae) λcM=>
bd (kG n g6.2.2.1 g6.2.2.2.1 g6.2.2.2.2.1 g6.2.2.2.2.2 0 ({({cK with Do:=6}:aC)with R:=1}:aC)) λdc=>
lt (dc.1:ae) λkQ=>
bd (pM n dc.2.2.1 dc.2.2.2.1 dc.2.2.2.2.1 dc.2.2.2.2.2) λgT=>
cn ((((((((((cL.W==1)&&(bR.2.1==2))&&(eM.E==0))&&(eW.2.1==5))&&(dW.E==0))&&(cM.V==1192960))&&(g6.2.1==3))&&(kQ.E==0))&&gT.1)) (
cn (((gT.2.2.2.2.length:Int)==0)) (
bd (lE n gT.2.2.1) λcC=>
bd (jH n cC) λiz=>
some ((iz==4))) (
gu (cB 0 gT.2.2.2.2.length)<|
bd (pC n gT.2.2.1 (gT.2.2.2.2.getD (Int.toNat 0) default)) λpW=>
gu (cB 1 (gT.2.2.2.2.length+1))<|
lt (gT.2.2.2.2.drop (Int.toNat 1):(List Int)) λkB=>
some (false))) (
some (false))
def CF(n:Nat):CT:=cV (tC n [] [C3 n,wo n,CG n,qV n,qS n,p7 n,qT n] []) ⟨5,[], .nil,(.cons (.v .bool) .nil),[], .nil,[],[]⟩ (λx=>nA n) (λy=>(y.1)) (λz=>(z,()))
def nU(n:Nat)(a0:aA):Option Int:=
some (a0.n)
def xH(n:Nat):CT:=cV (tC n [] [] []) ⟨6,[(96, .v (.st 21))],(.cons (.bp 0) .nil),(.cons (.v (.int .i64)) .nil),[], .nil,[],[]⟩ (λx=>nU n x.1) (λy=>(y.1)) (λz=>(z,()))
def qG(n:Nat)(a0:Int):Option Bool:=
cn (((decide (a0<1))||(decide (64<a0)))) (
cn (((decide (a0<1))||(decide (64<a0)))) (
cl ((true==true)) (nA n) default λaG=>
some (aG)) (
some (false))) (
bd (xT n a0) λaW=>
bd (qm n) λbR=>
cn (((decide (a0<1))||(decide (64<a0)))) (
cl ((false==true)) (nA n) default λcL=>
some (false)) (
cl ((((bR.eF (Int.toNat 0))&&(!(bR.eF (Int.toNat 1))))==true)) (nU n ({({dF with n:=a0}:aA)with pX:=aW}:aA)) default λeW=>
cl (((((bR.eF (Int.toNat 0))&&(!(bR.eF (Int.toNat 1))))&&(eW==a0))==true)) (lE n ({({dF with n:=a0}:aA)with pX:=aW}:aA)) default λeM=>
cl (((((bR.eF (Int.toNat 0))&&(!(bR.eF (Int.toNat 1))))&&(eW==a0))==true)) (jH n eM) default λcY=>
cn (((((bR.eF (Int.toNat 0))&&(!(bR.eF (Int.toNat 1))))&&(eW==a0))&&(cY==a0))) (
bd (pM n bR ({({dF with n:=a0}:aA)with pX:=aW}:aA) cU []) λdW=>
cl (((!dW.1)==true)) (nA n) default λg6=>
some (((!dW.1)&&g6))) (
some (false))))
def Az(n:Nat):CT:=cV (tC n [] [CF n,C3 n,wo n,xH n,qS n,p7 n,qV n] []) ⟨3,[],(.cons (.v (.int .i64)) .nil),(.cons (.v .bool) .nil),[], .nil,[],[]⟩ (λx=>qG n x.1) (λy=>(y.1)) (λz=>(z,()))
end
end Go.Proofs.Z
namespace Go.Proofs.Z
open Go Go.Bw
set_option maxRecDepth 100000 in
theorem Hw:nA 20000=some true:=by kernel_rfl
set_option maxRecDepth 100000 in
theorem VA{a:Int}(_ : -9223372036854775808<=a/\a<=9223372036854775807):qG 20000 a=some true:=by
 unfold qG;by_cases h:a<1\/64<a
 ·have hb:(decide (a<1)||decide (64<a))=true:=by simpa using h
  rw[En hb,En hb];exact(yB (by rfl) Hw).trans rfl
 ·have hb:(decide (a<1)||decide (64<a))=false:=by simpa using h
  have e1:xT 20000 a=some ⟨[⟨0,a⟩]⟩:=by unfold xT;rw[aa6 (show¬(64<a)by omega),BX (by simp;omega)];rfl
  obtain⟨s,e2,e3⟩:∃s,qm 20000=some s/\(s.eF 0&& !(s.eF 1))=true:=⟨_,rfl,rfl⟩;have e4:∀r:bA,nU 20000 {{dF with n:=a}with pX:=r}=some a:=λ_ =>rfl;have e5:∀r:bA,lE 20000 {{dF with n:=a}with pX:=r}=some r:=λ_ =>rfl;have e6:jH 20000 ⟨[⟨0,a⟩]⟩=some (wr .i64 (0+a)):=by kernel_rfl
  have e7:wr .i64 (0+a)=a:=by rw[Int.zero_add,P6 (by omega) (by omega)]
  rw[e7]at e6;have e8:(s.eF (Int.toNat 0)&& !(s.eF (Int.toNat 1)))=true:=e3;rw[BX hb,Ep e1,Ep e2,BX hb];refine(yB (by rw[e8];rfl) (e4 _)).trans ((yB (by rw[e8,beq_self_eq_true];rfl) (e5 _)).trans ((yB (by rw[e8,beq_self_eq_true];rfl) e6).trans ?_));rw[e8,beq_self_eq_true,En (by rfl)];refine(Ep (x:=(false,s,{{dF with n:=a}with pX:=⟨[⟨0,a⟩]⟩},cU,[])) rfl).trans ?_;exact(yB (by rfl) Hw).trans rfl
end Go.Proofs.Z
namespace Go.Rw
open Go Go.Bw Go.RowKit
variable {G:Sg} {P:Program}
def UE(W w:World):Prop:=W.heap.size<=w.heap.size/\∀b,b<W.heap.size->w.heap[b]? =W.heap[b]?
theorem O0{g:IntKind×List (Int×Nat)}{mb:Nat}{W w:World}(h:UJ g mb W)(hs:UE W w):UJ g mb w:=by
 obtain⟨h1,l,⟨es,clock,h2,h3⟩,h4⟩:=h;have keep:∀{b:Nat} {o:Obj},W.heap[b]? =some o->w.heap[b]? =some o:=λ{b o} hb=>(hs.2 b (abf.1 hb).1).trans hb;refine⟨?_,l,⟨es,clock,keep h2,h3⟩,h4⟩;unfold World.cell? at h1 ⊢;cases e:W.heap[0]? with
 |none=>rw[e]at h1;cases h1
 |some o=>rw[e]at h1;rw[keep e];exact h1
theorem FD{ct:Ct P G}{W:World}{x:HI G ct.s}{y:HL G (aD ct.s.bI)}{v:Value}{vs:List Value}(hz:ct.R x y)(hgl:∀g,G.gt=some g->∃mb,UJ g mb W)(hv:∀J:World->Prop,(∀w,J w->UE W w)->rl J (λ_ =>none) (ct.s.bl x).1 vs)(h0:(ct.s.bl x).2.1=[])(h1:(cZ (λm=>m) ct.s.bI y 0).2.1=[])
  (hro:ct.s.ro x=[])(hout:∀(J:World->Prop) (σ:aP) u us,rl J σ (cZ (λm=>m) ct.s.bI y 0).1 (u::us)->u=v):
  Calls P ct.s.k vs.toArray W λe W'=>e= .returned v/\aJ [] W W':=by
 have jK:∀b,b∈List.range W.heap.size↔b<W.heap.size:=λb=>List.mem_range;generalize List.range W.heap.size=bs at jK;have hR:∀w,Hs [.ext bs (UE W)] w->UE W w:=λw h=>(h _ List.mem_cons_self).1 w (Nat.le_refl _) λ_ _ =>rfl;have hS:∀w,aJ [] W w->Hs [.ext bs (UE W)] w:=λw h r hr=>by obtain rfl:=List.mem_singleton.1 hr;exact⟨λw' k1 k2=>⟨Nat.le_trans h.size k1,λb hb=>(k2 b ((jK b).2 hb)).trans (h.block b hb (by simp))⟩,λb hb=>Nat.lt_of_lt_of_le ((jK b).1 hb) h.size⟩
 have:=(uM (ct:=ct) (R:=[.ext bs (UE W)]) (iR:=[]) (ρ:=λ_ =>none) hz (λg hg=>by
  obtain⟨mb,h⟩:=hgl g hg;exact⟨mb,λw hw=>O0 h (hR w hw)⟩) (λJ hJ=>hv J λw hw=>hR w (hJ w hw)) h0 h1 (λJ _ r o e=>by rw[hro]at e;cases e) (λ_ _ =>rfl) hout).calls W (λw hw=>hS w (by simpa[aU]using hw)) (aX.nil _ _ _)
 exact this.mono λe W' ⟨_,_,he,hs,_⟩=>⟨he,by simpa[aU]using hs⟩
end Go.Rw
