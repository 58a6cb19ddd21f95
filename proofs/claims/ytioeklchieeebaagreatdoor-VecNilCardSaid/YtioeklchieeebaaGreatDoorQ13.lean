/- Part 13 of what a proof leans on; pruned and shortened by a program out of longer texts. -/
import Derived.Test.YtioeklchieeebaaGreatDoorQ12
namespace Go.Proofs.Z
open Go Go.Bw Go.Rw Go.RowKit
noncomputable section
def lf(n:Nat)(a0:bK)(a1:Int):Option Bool:=bd (kJ n a0.K a1 0) λaE=>some aE
def ve(n:Nat):CT:=cV (tW n [] [nQ n]) ⟨255,[(75, .v (.st 12)),(25, .v (.int .u32))], .cons (.bF 0) (.cons (.bF 1) .nil), .cons (.v .bool) .nil,[], .nil,[],[]⟩ (λx=>lf n x.1 x.2.1) u1 m1
def ld(n:Nat)(a0:bK)(a1:Int):Option Bool:=bd (jO n a0.K a1 0) λaE=>some aE
def u9(n:Nat):CT:=cV (tW n [] [ng n]) ⟨257,[(75, .v (.st 12)),(25, .v (.int .u32))], .cons (.bF 0) (.cons (.bF 1) .nil), .cons (.v .bool) .nil,[], .nil,[],[]⟩ (λx=>ld n x.1 x.2.1) u1 m1
def oe(n:Nat)(a0:Int)(a1:bK):Option Bool:=bd (kx n a1.K a0) λaE=>some (decide (0<(aE.length:Int)))
def sU(n:Nat):CT:=cV (tW n [] [lV n]) ⟨261,[(75, .v (.st 12))], .cons (.v (.int .u32)) (.cons (.bF 0) .nil), .cons (.v .bool) .nil,[], .nil,[],[]⟩ (λx=>oe n x.2.1 x.1) u1 m1
def dS(n:Nat)(a0:(List Int))(eX:bK):Option Int:=gL (λHM (aW:Int)=>cn (decide (aW<(a0.length:Int))) (gu (cF aW a0.length)<|bd (oe n (a0.getD (Int.toNat aW) default) eX) λcY=>cn (cY) (some aW) (HM (wr .i64 (aW+1)))) (some (-1))) n 0
def gB(n:Nat):CT:=cV (tW n [(5, .loop [(.slot 8,(.v (.int .i64)))])] [sU n]) ⟨137,[(75, .v (.st 12))], .cons (.v (.sl (.int .u32))) (.cons (.fn (.func 261) .nil (.cons (.bF 0) .nil)) .nil), .cons (.v (.int .i64)) .nil,[], .nil,[],[]⟩ (λx=>dS n x.2.1 x.1) u1 m1
def dG(n:Nat)(a0:(List Int))(eX:bK):Option Bool:=bd (dS n a0 eX) λaE=>some (decide (0<=aE))
def fQ(n:Nat):CT:=cV (tW n [] [gB n]) ⟨260,[(75, .v (.st 12))], .cons (.v (.sl (.int .u32))) (.cons (.fn (.func 261) .nil (.cons (.bF 0) .nil)) .nil), .cons (.v .bool) .nil,[], .nil,[],[]⟩ (λx=>dG n x.2.1 x.1) u1 m1
def kZ(n:Nat)(a0:bK)(a1:Int):Option Bool:=bd (po n a0.T a1) λbU=>bd (dG n bU a0) λcW=>some (!cW)
def u7(n:Nat):CT:=cV (tW n [] [p6 n,fQ n]) ⟨259,[(75, .v (.st 12)),(25, .v (.int .u32))], .cons (.bF 0) (.cons (.bF 1) .nil), .cons (.v .bool) .nil,[], .nil,[],[]⟩ (λx=>kZ n x.1 x.2.1) u1 m1
def jG(n:Nat)(a0:bK)(a1:Int)(a2:Int):Option Bool:=cn (a2==0) (cl (true==true) (lf n a0 a1) default λcU=>some (true&&cU)) (cn (a2==1) (cl (true==true) (ld n a0 a1) default λcU=>some (true&&cU)) (cn (a2==2) (cl (true==true) (kZ n a0 a1) default λcU=>some (true&&cU)) (some false)))
namespace H
theorem Jl{J:World->Prop}{T0 T1 q0 q1 r:Nat}{rM:List Value}{a0:bK}{a1:Int}{o:Ob sg}(f0:dN.ef J rM a0)(e:bY [(0, .bT T0 (.dat (.st 12) a0)),(1, .bT T1 (.int .u32 a1))] r=some o):
  ∃z∈([.cells q0 T0 rM, .cells q1 T1 ((LI .u32).enc a1)]:List aF),ro (G:=sg) J (aX.set (aX.set (λ_ =>none) 0 (cE q0 0)) 1 (cE q1 0)) r o z:=by
 match r,e with
 |0,e=>cases e;exact⟨_,List.mem_cons_self,q0, .agg rM.toArray,rfl,rfl,GJ (t:= .st 12) f0 rfl⟩
 |1,e=>cases e;exact⟨_,aiL _ List.mem_cons_self,q1, .int .u32 a1,rfl,rfl,rfl⟩
 |r+2,e=>cases e
theorem vW{n:Nat}{a0:bK}{a1:Int}{r:Bool}{R:List aF}(hg:M6 sg (Hs R)){q0:Nat}{rM:List Value}(f0:dN.ef (Hs R) rM a0){q1:Nat}(h:lf n a0 a1=some r):Bw.Fn (α:=Unit) Tryz.prog 255 [cE q0 0,cE q1 0] (M7 (bn [.cells q0 75 rM, .cells q1 25 ((LI .u32).enc a1)]) (Hs R)) [.cells q0 75 rM, .cells q1 25 ((LI .u32).enc a1)] (λ_ =>True) (λ_ => .bool r) (λ_ =>[.cells q0 75 rM, .cells q1 25 ((LI .u32).enc a1)]):=
 vL (ct:=ve n) (x:=(a0,a1,())) (y:=(r,())) (ρ:=aX.set (aX.set (λ_ =>none) 0 (cE q0 0)) 1 (cE q1 0)) ⟨r,h,rfl⟩ hg (λ_ _ =>⟨_,_,rfl,⟨⟨q0,0, .inl rfl,rfl⟩,nofun⟩,_,_,rfl,⟨⟨q1,0, .inl rfl,rfl⟩,nofun⟩,rfl⟩) rfl rfl
  (λJ hJ r o e=>Jl (T0:=75) (T1:=25) (cj.mono _ hJ f0) e) (λr (hr:2<=r)=>match r,hr with|r+2,_ =>rfl) λJ σ u us ⟨_,_,e,h1,_⟩=>by cases e;have h1:[u]=[.bool _]:=h1;cases h1;rfl
theorem vV{n:Nat}{a0:bK}{a1:Int}{r:Bool}{R:List aF}(hg:M6 sg (Hs R)){q0:Nat}{rM:List Value}(f0:dN.ef (Hs R) rM a0){q1:Nat}(h:ld n a0 a1=some r):Bw.Fn (α:=Unit) Tryz.prog 257 [cE q0 0,cE q1 0] (M7 (bn [.cells q0 75 rM, .cells q1 25 ((LI .u32).enc a1)]) (Hs R)) [.cells q0 75 rM, .cells q1 25 ((LI .u32).enc a1)] (λ_ =>True) (λ_ => .bool r) (λ_ =>[.cells q0 75 rM, .cells q1 25 ((LI .u32).enc a1)]):=
 vL (ct:=u9 n) (x:=(a0,a1,())) (y:=(r,())) (ρ:=aX.set (aX.set (λ_ =>none) 0 (cE q0 0)) 1 (cE q1 0)) ⟨r,h,rfl⟩ hg (λ_ _ =>⟨_,_,rfl,⟨⟨q0,0, .inl rfl,rfl⟩,nofun⟩,_,_,rfl,⟨⟨q1,0, .inl rfl,rfl⟩,nofun⟩,rfl⟩) rfl rfl
  (λJ hJ r o e=>Jl (T0:=75) (T1:=25) (cj.mono _ hJ f0) e) (λr (hr:2<=r)=>match r,hr with|r+2,_ =>rfl) λJ σ u us ⟨_,_,e,h1,_⟩=>by cases e;have h1:[u]=[.bool _]:=h1;cases h1;rfl
theorem vU{n:Nat}{a0:bK}{a1:Int}{r:Bool}{R:List aF}(hg:M6 sg (Hs R)){q0:Nat}{rM:List Value}(f0:dN.ef (Hs R) rM a0){q1:Nat}(h:kZ n a0 a1=some r):Bw.Fn (α:=Unit) Tryz.prog 259 [cE q0 0,cE q1 0] (M7 (bn [.cells q0 75 rM, .cells q1 25 ((LI .u32).enc a1)]) (Hs R)) [.cells q0 75 rM, .cells q1 25 ((LI .u32).enc a1)] (λ_ =>True) (λ_ => .bool r) (λ_ =>[.cells q0 75 rM, .cells q1 25 ((LI .u32).enc a1)]):=
 vL (ct:=u7 n) (x:=(a0,a1,())) (y:=(r,())) (ρ:=aX.set (aX.set (λ_ =>none) 0 (cE q0 0)) 1 (cE q1 0)) ⟨r,h,rfl⟩ hg (λ_ _ =>⟨_,_,rfl,⟨⟨q0,0, .inl rfl,rfl⟩,nofun⟩,_,_,rfl,⟨⟨q1,0, .inl rfl,rfl⟩,nofun⟩,rfl⟩) rfl rfl
  (λJ hJ r o e=>Jl (T0:=75) (T1:=25) (cj.mono _ hJ f0) e) (λr (hr:2<=r)=>match r,hr with|r+2,_ =>rfl) λJ σ u us ⟨_,_,e,h1,_⟩=>by cases e;have h1:[u]=[.bool _]:=h1;cases h1;rfl
theorem yw{n a0 a1 a2 r}{R:List aF}(hg:M6 sg (Hs R)){rM}(f0:(dN).ef (Hs R) rM a0)(h:jG n a0 a1 a2=some r):UM Tryz.prog 158 [A rM, .int .u32 a1, .int .u8 a2] (Hs R) (.bool r):=by
 unfold jG at h;refine fo Tryz.func158 (by kernel_rfl) rfl Tryz.ntmps158 rfl λcx _ hro jZ hpre=>?_;refine SC 2 rf ?_;refine W1 rf (Lp rfl) λb3=>?_;refine W1 rf (kG (LI .u32) a1 rfl rfl) λb4=>?_;refine SL 5 rf ?_;refine uH rfl (Ej .u8 (λv:Value=>v)) (λb10 _ =>?_);refine bE rfl (oh rfl) ?_;refine Eh (Bp (E:=λv:Value=>v) (.func (.func 255) #[] #[cE b3 0,cE b4 0]) rfl rfl rfl rfl) (λ_ _ =>?_);refine bE rfl (oh rfl) ?_;refine Eh (Bp (E:=λv:Value=>v) (.func (.func 257) #[] #[cE b3 0,cE b4 0]) rfl rfl rfl rfl) (λ_ _ =>?_);refine bE rfl (oh rfl) ?_;refine Eh (Bp (E:=λv:Value=>v) (.func (.func 259) #[] #[cE b3 0,cE b4 0]) rfl rfl rfl rfl) (λ_ _ =>?_);refine SL 5 rf ?_;rcases Decidable.em (a2=0)with yf|yf
 ·replace h:=JS (by simpa using yf) h;refine SC 3 rf ?_;refine bE rfl (tB .nilFunc (.func (.func 255) #[] #[cE b3 0,cE b4 0]) true rfl rfl (by rw[yf];rfl) (by rw[yf];rfl)) ?_;obtain⟨cU,Jv,_,h⟩:=S8 h;refine SL 11 rf ?_;refine GB rf rf rf (λhb=>bQ rfl) ?_;refine Bl (QZ rfl rfl) rfl (λhb=>vW (R:=R) hg (mo f0) (Jv hb)) (λhb=>(Gz rfl hb)) (λhb=>rfl) rfl (jv:=[.cells b3 75 rM, .cells b4 25 ((LI .u32).enc a1)]) (XX:=[Mp b10 .u8 (λv:Value=>v) (qm (qm (qm ([]:List (Int×Value)) 0 (.func (.func 255) #[] #[cE b3 0,cE b4 0])) 1 (.func (.func 257) #[] #[cE b3 0,cE b4 0])) 2 (.func (.func 259) #[] #[cE b3 0,cE b4 0]))]) (ks:=[2,1,0]) rfl (by decide) (λhb=>inferInstance) ?_;dsimp only[List.cons_append,List.nil_append];refine bE rfl (Ei rfl rfl) ?_;refine SL 4 rf ?_;have h:=sj h;subst h;exact RV rf (rt rf rn) rf
 replace h:=JU (by simpa using yf) h;rcases Decidable.em (a2=1)with ye|ye
 ·replace h:=JS (by simpa using ye) h;refine SC 3 rf ?_;refine bE rfl (tB .nilFunc (.func (.func 257) #[] #[cE b3 0,cE b4 0]) true rfl rfl (by rw[ye];rfl) (by rw[ye];rfl)) ?_;obtain⟨cU,Jv,_,h⟩:=S8 h;refine SL 11 rf ?_;refine GB rf rf rf (λhb=>bQ rfl) ?_;refine Bl (QZ rfl rfl) rfl (λhb=>vV (R:=R) hg (mo f0) (Jv hb)) (λhb=>(Gz rfl hb)) (λhb=>rfl) rfl (jv:=[.cells b3 75 rM, .cells b4 25 ((LI .u32).enc a1)]) (XX:=[Mp b10 .u8 (λv:Value=>v) (qm (qm (qm ([]:List (Int×Value)) 0 (.func (.func 255) #[] #[cE b3 0,cE b4 0])) 1 (.func (.func 257) #[] #[cE b3 0,cE b4 0])) 2 (.func (.func 259) #[] #[cE b3 0,cE b4 0]))]) (ks:=[2,1,0]) rfl (by decide) (λhb=>inferInstance) ?_;dsimp only[List.cons_append,List.nil_append];refine bE rfl (Ei rfl rfl) ?_;refine SL 4 rf ?_;have h:=sj h;subst h;exact RV rf (rt rf rn) rf
 replace h:=JU (by simpa using ye) h;rcases Decidable.em (a2=2)with yd|yd
 ·replace h:=JS (by simpa using yd) h;refine SC 3 rf ?_;refine bE rfl (tB .nilFunc (.func (.func 259) #[] #[cE b3 0,cE b4 0]) true rfl rfl (by rw[yd];rfl) (by rw[yd];rfl)) ?_;obtain⟨cU,Jv,_,h⟩:=S8 h;refine SL 11 rf ?_;refine GB rf rf rf (λhb=>bQ rfl) ?_;refine Bl (QZ rfl rfl) rfl (λhb=>vU (R:=R) hg (mo f0) (Jv hb)) (λhb=>(Gz rfl hb)) (λhb=>rfl) rfl (jv:=[.cells b3 75 rM, .cells b4 25 ((LI .u32).enc a1)]) (XX:=[Mp b10 .u8 (λv:Value=>v) (qm (qm (qm ([]:List (Int×Value)) 0 (.func (.func 255) #[] #[cE b3 0,cE b4 0])) 1 (.func (.func 257) #[] #[cE b3 0,cE b4 0])) 2 (.func (.func 259) #[] #[cE b3 0,cE b4 0]))]) (ks:=[2,1,0]) rfl (by decide) (λhb=>inferInstance) ?_;dsimp only[List.cons_append,List.nil_append];refine bE rfl (Ei rfl rfl) ?_;refine SL 4 rf ?_;have h:=sj h;subst h;exact RV rf (rt rf rn) rf
 replace h:=JU (by simpa using yd) h;refine SC 3 rf ?_;refine bE rfl (tB .nilFunc .nilFunc false rfl rfl (KD (z:= .nilFunc) yf ye yd).1 (KD (z:= .nilFunc) yf ye yd).2) ?_;refine SL 11 rf ?_;refine GB rf rf rf (λhb=>bQ rfl) ?_;refine ab6 (v:= .bool false) (QZ rfl rfl) (by rfl) rfl ?_;refine bE rfl (Ei rfl rfl) ?_;refine SL 4 rf ?_;have h:=sj h;subst h;exact RV rf (rt rf rn) rf
end H
def xT(n:Nat):Ct Tryz.prog sg:=WR (G:=sg) ⟨158,[], .cons (.v (.st 12)) (.cons (.v (.int .u32)) (.cons (.v (.int .u8)) .nil)), .cons (.v .bool) .nil,[], .nil,[],[]⟩ (λx=>jG n x.1 x.2.1 x.2.2.1) (λz=>(z,())) (false) (by kernel_rfl) (PN (λ_ =>rfl) (λ_ =>rfl) rfl λρ R x z vs hg hz hv=>by
 obtain⟨cs,r1,e_1,h0,v1⟩:=F7 hv rfl;obtain⟨r2,e_2,v2⟩:=Jg v1;obtain⟨r3,e_3,v3⟩:=Jg v2;have e_0:r3=[]:=v3;subst e_0 e_3 e_2 e_1;exact⟨_,Wx (H.yw hg h0 hz),λJ v e=>by
  subst e;exact⟨_,_,rfl,rfl,rfl⟩⟩)
def ri(n:Nat)(a0:Int)(a1:bK)(a2:Int)(a3:Int)(a4:Int):Option Bool:=bd (bZ n a1.K a0) λaE=>cl ((((wr .i64 aE.1.To)==a2)==true)&&((a3==0)==true)) (kJ n a1.K a4 a0) default λaW=>cl (((((wr .i64 aE.1.To)==a2)==true)&&(((a3==0)&&aW)==false))&&(((a3==1)&&aE.1.jH)==true)) (jO n a1.K a4 a0) default λbU=>some (((wr .i64 aE.1.To)==a2)&&(((a3==0)&&aW)||(((a3==1)&&aE.1.jH)&&bU)))
def wU(n:Nat):CT:=cV (tW n [] [di n,nQ n,ng n]) ⟨274,[(75, .v (.st 12)),(3, .v (.int .i64)),(5, .v (.int .u8)),(25, .v (.int .u32))], .cons (.v (.int .u32)) (.cons (.bF 0) (.cons (.bF 1) (.cons (.bF 2) (.cons (.bF 3) .nil)))), .cons (.v .bool) .nil,[], .nil,[],[]⟩ (λx=>ri n x.2.2.2.2.1 x.1 x.2.1 x.2.2.1 x.2.2.2.1) u1 m1
def ep(n:Nat)(a0:(List Int))(eX:bK)(oF:Int)(Qf:Int)(Xa:Int):Option Int:=gL (λHM (aW:Int)=>cn (decide (aW<(a0.length:Int))) (gu (cF aW a0.length)<|bd (ri n (a0.getD (Int.toNat aW) default) eX oF Qf Xa) λcY=>cn (cY) (some aW) (HM (wr .i64 (aW+1)))) (some (-1))) n 0
def gZ(n:Nat):CT:=cV (tW n [(5, .loop [(.slot 8,(.v (.int .i64)))])] [wU n]) ⟨137,[(75, .v (.st 12)),(3, .v (.int .i64)),(5, .v (.int .u8)),(25, .v (.int .u32))], .cons (.v (.sl (.int .u32))) (.cons (.fn (.func 274) .nil (.cons (.bF 0) (.cons (.bF 1) (.cons (.bF 2) (.cons (.bF 3) .nil))))) .nil), .cons (.v (.int .i64)) .nil,[], .nil,[],[]⟩ (λx=>ep n x.2.2.2.2.1 x.1 x.2.1 x.2.2.1 x.2.2.2.1) u1 m1
def dU(n:Nat)(a0:(List Int))(eX:bK)(oF:Int)(Qf:Int)(Xa:Int):Option Bool:=bd (ep n a0 eX oF Qf Xa) λaE=>some (decide (0<=aE))
def gC(n:Nat):CT:=cV (tW n [] [gZ n]) ⟨260,[(75, .v (.st 12)),(3, .v (.int .i64)),(5, .v (.int .u8)),(25, .v (.int .u32))], .cons (.v (.sl (.int .u32))) (.cons (.fn (.func 274) .nil (.cons (.bF 0) (.cons (.bF 1) (.cons (.bF 2) (.cons (.bF 3) .nil))))) .nil), .cons (.v .bool) .nil,[], .nil,[],[]⟩ (λx=>dU n x.2.2.2.2.1 x.1 x.2.1 x.2.2.1 x.2.2.2.1) u1 m1
def uk(n:Nat)(a0:bK)(a1:Int)(a2:Int)(a3:Int):Option Bool:=bd (kx n a0.K a2) λaE=>bd (dU n aE a0 a1 a3 a2) λdy=>some dy
def zf(n:Nat):CT:=cV (tW n [] [lV n,gC n]) (gV 254 [.s 12, .i, .w, .v (.int .u8)] [.b]) (a4 (uk n)) u1 m1
def vY(n:Nat)(a0:bK)(a1:Int)(a2:Int)(a3:Int):Option Int:=bd (aJ n a0.T.bN.iX a2) λaE=>cn ((!aE)) (some 4) (bd (gT n a0.O a0.T a2) λcz=>cn ((cz.uL==3)) (gu (!((((a3==0)&&decide (0<=a1))&&decide (a1<8))==true)||decide (0<=a1))<|cn ((!((((a3==0)&&decide (0<=a1))&&decide (a1<8))&&((sC .u8 (I6 .u8 cz.gp a1) 1)==1)))) (some 5) (some 0)) (cn ((cz.uL==1)) (cl (((wr .i64 cz.nc)==a1)==true) (jG n a0 a2 a3) default λdQ=>cl ((((wr .i64 cz.nc)==a1)&&dQ)==false) (uk n a0 a1 a2 a3) default λcY=>cn ((!((((wr .i64 cz.nc)==a1)&&dQ)||cY))) (some 5) (some 0)) (some 5)))
def AR(n:Nat):CT:=cV (tW n [] [aP n,gv n,xT n,zf n]) (gV 224 [.s 12, .i, .w, .v (.int .u8)] [.i]) (a4 (vY n)) u1 m1
def vQ(n:Nat)(a0:ay)(a1:Int)(a2:Int):Option (Except Int aT):=bd (dK n a0 a1) λaE=>tc (aE.2==0) (.error aE.2)<|tc (decide (0<=a2)&&decide (a2<8)) (.error 2)<|some (.ok aE.1)
def xu(n:Nat):CT:=cT (tW n [] [bg n,aZ n,dD n]) 250 [.s 6, .w, .i] [.s 5] 28 (a3 (vQ n)) u1 m1
def Ih(n:Nat)(a0:ay)(a1:Int)(a2:Int)(a3:Int)(a4:Bool):Option (ay×Int):=bd (aJ n a0.bN.iX a1) λaE=>cl ((aE==true)&&((a3==0)==false)) (aJ n a0.bN.iX a3) default λaW=>tc (aE&&((a3==0)||aW)) (eB,4)<|tr (vQ n a0 a1 a2) (λWH=>(eB,WH)) λdO=>cl (((a3==0)||a4)==false) (kD n a0 a3 a1) default λgF=>tc (((a3==0)||a4)||gF) (eB,5)<|gu (cF a2 8)<|lt ({dO with ou:=(mZ dO.ou (Int.toNat a2) a3)}:aT) λnP=>bd (kz n a0 a1 nP) λsG=>some (sG.1,sG.2)
def IW(n:Nat):CT:=cV (tW n [] [bg n,aZ n,aP n,xu n,l6 n,lW n]) (gV 248 [.s 6, .w, .i, .w, .b] [.t [.s 6, .i]]) (λx=>Ih n x.1 x.2.1 x.2.2.1 x.2.2.2.1 x.2.2.2.2.1) u2 m2
def Ii(n:Nat)(a0:ay)(a1:Int)(a2:Int)(a3:Int)(a4:Bool):Option (ay×Int):=bd (Ih n a0 a1 a2 a3 a4) λaE=>cn ((aE.2!=0)) (some (a0,aE.2)) (some (aE.1,0))
def IX(n:Nat):CT:=cV (tW n [] [IW n]) (gV 215 [.s 6, .w, .i, .w, .b] [.t [.s 6, .i]]) (λx=>Ii n x.1 x.2.1 x.2.2.1 x.2.2.2.1 x.2.2.2.2.1) u2 m2
def D9(n:Nat)(a0:ay)(a1:Int)(a2:Int):Option (Int×Int):=tr (vQ n a0 a1 a2) (λkW=>(0,kW)) λaE=>gu (cF a2 8)<|tc ((aE.ou (Int.toNat a2))!=0) (0,10)<|bd (aJ n a0.bN.iX (aE.ou (Int.toNat a2))) λcW=>tc cW (0,4)<|some ((aE.ou (Int.toNat a2)),0)
def FY(n:Nat):CT:=cV (tW n [] [bg n,aZ n,xu n,aP n]) (gV 216 [.s 6, .w, .i] [.t [.w, .i]]) (a3 (D9 n)) u2 m2
def fe(n:Nat):Option ak:=lt ({cZ with lI:=(mZ cZ.lI 0 true)}:ak) λaE=>lt ({aE with E6:=(mZ aE.E6 0 true)}:ak) λcz=>some cz
def xq(n:Nat):CT:=cV (tW n [] []) (gV 49 [] [.s 15]) (λ_=>fe n) u1 m1
def fZ(n:Nat)(a0:aj)(a1:Int):Option aj:=bd (po n a0.aI.dg.T a1) λbU=>dH (λk51 (sG:Int) (yP:aj)=>cn (decide (sG<(bU.length:Int))) (gu (cF sG bU.length)<|bd (dK n yP.aI.dg.T (bU.getD (Int.toNat sG) default)) λsK=>gu (gR yP.lP.length sK.1.E.qN.length 16)<|lt (yP.lP++sK.1.E.qN:List av) λEF=>bd (qb n (({yP with lP:=EF}).aI.dg.K) (bU.getD (Int.toNat sG) default)) λTV=>k51 (wr .i64 (sG+1)) ({({yP with lP:=EF})with aI:={({yP with lP:=EF}).aI with dg:={(({yP with lP:=EF}).aI).dg with K:=TV}}})) (bd (BT n yP.aI.dg.T a1) λYQ=>some ({yP with aI:={yP.aI with dg:={yP.aI.dg with T:=YQ.1}}}))) n 0 a0
def jK(n:Nat):CT:=cV (tX n [(3, .loop [(.slot 17,(.v (.int .i64))),(.via 0,cC)])] [p6 n,dD n,uV n,EN n] [(1,vw0)] []) ⟨199,[], .cons cC (.cons (.v (.int .u32)) .nil), .cons (.gS .nil) (.cons cC .nil),[some 0,none], .nil,[],[[0]]⟩ (λx=>fZ n (g7 x) x.2.2.2.2.2.2.2.1) (λy=>g7 y) (λz=>(h7 z ()))
def cK(n:Nat)(a0:Int):Option (Except Int Unit):=tc (a0==0) (.error a0)<|some (.ok ())
def cm(n:Nat):CT:=cT (tW n [] [bg n,aZ n]) 188 [.i] [.gS .nil] 28 (a1 (cK n)) (λ_ =>()) (λ_ =>())
def kQ(n:Nat)(a0:aj)(a1:Int)(a2:Int):Option (Except Int aj):=bd (xA n a0.aI.dg.O a0.aI.dg.T a1 a2) λbU=>tr (cK n bU.2.2) (λGH=>(.error GH)) λ_=>cn ((bU.2.1==0)) (bd (fZ n ({a0 with aI:={a0.aI with dg:={a0.aI.dg with O:=bU.1}}}) a1) λdy=>some (.ok dy)) (some (.ok ({a0 with aI:={a0.aI with dg:={a0.aI.dg with O:=bU.1}}})))
def nW(n:Nat):CT:=cX (tW n [] [bg n,aZ n,B8 n,cm n,jK n]) ⟨207,[], .cons cC (.cons (.v (.int .u32)) (.cons (.v (.int .i64)) .nil)), .cons (.gS .nil) (.cons cC .nil),[some 0,none],(.cons (.gP 28 (.v (.int .i64))) .nil),[],[[0]]⟩ (λx=>kQ n (g7 x) x.2.2.2.2.2.2.2.1 x.2.2.2.2.2.2.2.2.1) (λy=>g7 y) (λz=>(h7 z ())) u1 m1
def fY(n:Nat)(a0:aj)(a1:Int)(a2:Int):Option (Except Int aj):=bd (xy n a0.aI.dg.O a0.aI.dg.T a1 a2) λbU=>tr (cK n bU.2) (λGH=>(.error GH)) λ_=>some (.ok ({a0 with aI:={a0.aI with dg:={a0.aI.dg with O:=bU.1}}}))
def gG(n:Nat):CT:=cX (tW n [] [bg n,aZ n,B7 n,cm n]) ⟨189,[], .cons cC (.cons (.v (.int .u32)) (.cons (.v (.int .i64)) .nil)), .cons (.gS .nil) (.cons cC .nil),[some 0,none],(.cons (.gP 28 (.v (.int .i64))) .nil),[],[[0]]⟩ (λx=>fY n (g7 x) x.2.2.2.2.2.2.2.1 x.2.2.2.2.2.2.2.2.1) (λy=>g7 y) (λz=>(h7 z ())) u1 m1
def xC(n:Nat)(a0:bM):Option bM:=some a0
def Ca(n:Nat):CT:=cV (tW n [] []) ⟨272,[], .cons (.v (.st 14)) .nil, .cons (.fn (.func 278) .nil (.cons (.box 80 (.v (.st 14))) .nil)) .nil,[none], .nil,[],[]⟩ (a1 (xC n)) u1 m1
def rZ(n:Nat)(a0:(List aQ)):Option (List aQ):=some a0
def p8(n:Nat)(a0:(List aQ)):Option (List aQ):=gu ((a0.length:Int)==(a0.length:Int))<|gu ((a0.length:Int)==(a0.length:Int))<|some a0
theorem yp(n:Nat)(a0:(List aQ)):p8 n a0=rZ n a0:=KV.trans KV
def xO(n:Nat):CT:=cV (tW n [] []) (gV 273 [.v (.sl (.st 13))] [.v (.sl (.st 13))]) (a1 (rZ n)) u1 m1 (hW:=λx=>Eq.trans (b:=p8 n x.1) (by kernel_rfl) (yp ..))
def qZ(n:Nat)(a0:bM)(a1:Int):Option Int:=some (Int.tmod (wr .i64 (a0.uh+a1)) 4)
def rC(n:Nat):CT:=cV (tW n [] []) (gV 247 [.s 14, .i] [.i]) (a2 (qZ n)) u1 m1
def uf(n:Nat)(a1:bM):Option (List aQ):=gL (λk35 (cY:Int)=>cn (decide (cY<a1.n)) (bd (qZ n a1 cY) λmX=>gu (cF mX 4)<|yl (a1.ring (Int.toNat mX))<|k35 (wr .i64 (cY+1))) (some [])) n 0
def zJ(n:Nat):It Tryz.prog sg:=mkI (tX n [(3, .loop [(.slot 6,(.v (.int .i64)))])] [rC n] [] []) 3000 278 (.cons (.box 80 (.v (.st 14))) .nil) (.cons (.v (.st 13)) .nil) (.st (G:=sg) (i:=13) (λ(x:aQ)=>cj.enc dJ x) (λJ cs x=>bf.iff (L:=dJ)) .nil) (B:=aQ) (λy=>(y,())) (λx=>(x.1)) (λx=>uf n x.1) (λ_ =>rfl) (by kernel_rfl) (λx=>by kernel_rfl)
def zF(n:Nat)(a0:bM):Option (List aQ):=bd (xC n a0) λaE=>bd (uf n aE) λbU=>yc (λ(P0:aQ) k31 (dy:(List aQ))=>lt (P0:aQ) λgF=>gu (gR dy.length 1 24)<|lt (dy++([gF]):List aQ) λry=>k31 ry) (λ(dy:(List aQ))=>some dy) bU ([]:List aQ)
def Dk(n:Nat):CT:=cV (tX n [(7, .loop [(.via 3, .box 288 (.row 77 4 (.st 13)))])] [Ca n,xO n] [] [zJ n]) (gV 252 [.s 14] [.v (.sl (.st 13))]) (a1 (zF n)) u1 m1
def vD(n:Nat)(a0:bM):Option (bM×(List aQ)):=lt ({ring:=(λ_ =>fF),uh:=0,n:=0,closed:=true}:bM) λaE=>bd (zF n a0) λaW=>some (aE,aW)
def AK(n:Nat):CT:=cV (tW n [] [Dk n]) (gV 217 [.s 14] [.t [.s 14, .v (.sl (.st 13))]]) (a1 (vD n)) u2 m2
def mI(n:Nat)(a0:aj)(a1:Int):Option (Except Int aj):=gu (cF a1 8)<|bd (vD n (a0.aI.iD (Int.toNat a1))) λaW=>gu (cF a1 8)<|gu (cF a1 8)<|dH (λk58 (ID:Int) (xL:aj)=>cn (decide (ID<(aW.2.length:Int))) (gu (cF ID aW.2.length)<|lt ((aW.2.getD (Int.toNat ID) default):aQ) λIB=>cn (((IB.Region==0)||IB.we)) (k58 (wr .i64 (ID+1)) xL) (gu (cF IB.Ez 8)<|cn ((xL.aI.lI (Int.toNat IB.Ez))) (tr (fY n xL IB.Region (wr .i64 IB.Ez)) (λagk=>(.error agk)) λUQ=>k58 (wr .i64 (ID+1)) UQ) (bd (fZ n xL IB.Region) λTV=>k58 (wr .i64 (ID+1)) TV))) (bd (tQ n xL.aI.dg.K a1) λRg=>dH (λafG (LZ:Int) (rz:aj)=>cn (decide (LZ<(Rg.length:Int))) (gu (cF LZ Rg.length)<|bd (eS n rz.aI.dg.K (Rg.getD (Int.toNat LZ) default)) λU1=>afG (wr .i64 (LZ+1)) ({rz with aI:={rz.aI with dg:={rz.aI.dg with K:=U1.1}}})) (bd (vx n rz.aI.dg.O rz.aI.dg.T a1) λRk=>dH (λafF (IT:Int) (LY:aj)=>cn (decide (IT<(Rk.length:Int))) (gu (cF IT Rk.length)<|bd (fZ n LY (Rk.getD (Int.toNat IT) default)) λRj=>afF (wr .i64 (IT+1)) Rj) (bd (xx n LY.aI.dg.O LY.aI.dg.T a1) λLU=>dH (λafE (EH:Int) (yT:aj)=>cn (decide (EH<(LU.length:Int))) (gu (cF EH LU.length)<|tr (kQ n yT (LU.getD (Int.toNat EH) default) a1) (λabQ=>(.error abQ)) λIS=>afE (wr .i64 (EH+1)) IS) (some (.ok yT))) n 0 LY)) n 0 rz)) n 0 xL)) n 0 ({({a0 with aI:={a0.aI with iD:=(mZ a0.aI.iD (Int.toNat a1) aW.1)}})with aI:={({a0 with aI:={a0.aI with iD:=(mZ a0.aI.iD (Int.toNat a1) aW.1)}}).aI with lI:=(mZ ((({a0 with aI:={a0.aI with iD:=(mZ a0.aI.iD (Int.toNat a1) aW.1)}}).aI).lI) (Int.toNat a1) false)}})
def oQ(n:Nat):CT:=cX (tX n [(9, .loop [(.slot 40,(.v (.int .i64))),(.via 0,cC)]),(25, .loop [(.slot 82,(.v (.int .i64))),(.via 0,cC)]),(35, .loop [(.slot 119,(.v (.int .i64))),(.via 0,cC)]),(45, .loop [(.slot 142,(.v (.int .i64))),(.via 0,cC)])] [bg n,aZ n,AK n,gG n,jK n,yW n,nh n,AI n,B6 n,nW n] [(4,vw0),(12,vw0),(17,vw0),(22,vw0)] []) ⟨163,[], .cons cC (.cons (.v (.int .i64)) .nil), .cons (.gS .nil) (.cons cC .nil),[some 0,none],(.cons (.gP 28 (.v (.int .i64))) .nil),[],[[0]]⟩ (λx=>mI n (g7 x) x.2.2.2.2.2.2.2.1) (λy=>g7 y) (λz=>(h7 z ())) u1 m1
def bL(n:Nat)(a0:aj)(a1:Int)(a2:Int):Option (Except Int Unit):=bd (vY n a0.aI.dg a0.eJ a1 a2) λbU=>tr (cK n bU) (λGH=>(.error GH)) λ_=>some (.ok ())
def bR(n:Nat):CT:=cX (tW n [] [bg n,aZ n,AR n,cm n]) ⟨186,[(200, .st (.part 952 (.v (.st 15)) (.part 1 (.v (.int .i64)) (.part 6 (.v (.st 20)) (.part 2 (.v (.st 3)) (.part 1 (.v (.int .i64)) (.part 1 (.v .bool) (.part 1 (.row 131 2 (.st 3)) .nil))))))))], .cons (.bF 0) (.cons (.v (.int .u32)) (.cons (.v (.int .u8)) .nil)), .cons (.gS .nil) .nil,[],(.cons (.gP 28 (.v (.int .i64))) .nil),[],[]⟩ (λx=>bL n (g7 x) x.2.2.2.2.2.2.2.1 x.2.2.2.2.2.2.2.2.1) (λ_ =>()) (λ_ =>()) u1 m1
def nv(n:Nat)(a0:aj):Option (Except Int (ah×aj)):=lt (λ(U9:Unit)=>bd (DV n a0.aI.dg.T a0.c.R (wr .i64 (if 65<a0.c.A then 65 else a0.c.A))) λdQ=>tr (cK n dQ.2.2) (λagr=>(.error agr)) λ_=>cn (((({a0 with aI:={a0.aI with dg:={a0.aI.dg with T:=dQ.1}}}).c.R)==0)) (tr (fY n ({a0 with aI:={a0.aI with dg:={a0.aI.dg with T:=dQ.1}}}) dQ.2.1 (({a0 with aI:={a0.aI with dg:={a0.aI.dg with T:=dQ.1}}}).eJ)) (λWC=>(.error WC)) λnP=>lt ({E:=0,V:=0,W:=dQ.2.1}:ah) λxL=>some (.ok (xL,nP))) (lt ({E:=0,V:=0,W:=dQ.2.1}:ah) λCN=>some (.ok (CN,{a0 with aI:={a0.aI with dg:={a0.aI.dg with T:=dQ.1}}})))) λMZ=>cn ((a0.c.R !=0)) (tr (bL n a0 a0.c.R 1) (λD2=>(.error D2)) λ_=>MZ ()) (MZ ())
def pU(n:Nat):CT:=cX (tW n [(6, .join [(.via 0,cC)] [])] [bg n,aZ n,bR n,FW n,cm n,gG n]) ⟨165,[], .cons cC .nil, .cons (.v (.st 19)) (.cons cC .nil),[some 0,none],(.cons (.gP 28 (.v (.int .i64))) .nil),[],[[0]]⟩ (λx=>nv n (g7 x)) (λy=>(y.1,g7 y.2)) (λz=>(z.1,(h7 z.2 ()))) u1 m1
def eV(n:Nat)(a0:aj)(a1:Int):Option (Except Int aT):=bd (dK n a0.aI.dg.T a1) λbU=>tr (cK n bU.2) (λJN=>(.error JN)) λ_=>some (.ok bU.1)
def fI(n:Nat):CT:=cX (tW n [] [bg n,aZ n,dD n,cm n]) ⟨191,[(200, .st (.part 952 (.v (.st 15)) (.part 1 (.v (.int .i64)) (.part 6 (.v (.st 20)) (.part 2 (.v (.st 3)) (.part 1 (.v (.int .i64)) (.part 1 (.v .bool) (.part 1 (.row 131 2 (.st 3)) .nil))))))))], .cons (.bF 0) (.cons (.v (.int .u32)) .nil), .cons (.v (.st 5)) .nil,[],(.cons (.gP 28 (.v (.int .i64))) .nil),[],[]⟩ (λx=>eV n (g7 x) x.2.2.2.2.2.2.2.1) u1 m1 u1 m1
def nt(n:Nat)(a0:aj)(a1:Int)(a2:aT):Option (Except Int aj):=bd (kz n a0.aI.dg.T a1 a2) λbU=>tr (cK n bU.2) (λJN=>(.error JN)) λ_=>some (.ok ({a0 with aI:={a0.aI with dg:={a0.aI.dg with T:=bU.1}}}))
def pS(n:Nat):CT:=cX (tW n [] [bg n,aZ n,lW n,cm n]) ⟨196,[], .cons cC (.cons (.v (.int .u32)) (.cons (.v (.st 5)) .nil)), .cons (.gS .nil) (.cons cC .nil),[some 0,none],(.cons (.gP 28 (.v (.int .i64))) .nil),[],[[0]]⟩ (λx=>nt n (g7 x) x.2.2.2.2.2.2.2.1 x.2.2.2.2.2.2.2.2.1) (λy=>g7 y) (λz=>(h7 z ())) u1 m1
def kT(n:Nat)(a0:aj):Option (Except Int (ah×aj)):=bd (zP n (wr .i64 (if 129<a0.c.A then 129 else a0.c.A)) (wr .i64 (if 9<a0.c.B then 9 else a0.c.B))) λaE=>tc aE.2 (.error 2)<|tr (bL n a0 a0.c.R 1) (λD2=>(.error D2)) λ_=>tr (eV n a0 a0.c.R) (λGH=>(.error GH)) λcz=>lt (λ(mX:aT) (nP:aj)=>bd (q9 n mX.E (wr .i64 (if 129<a0.c.A then 129 else a0.c.A)) (wr .i64 (if 9<a0.c.B then 9 else a0.c.B))) λNc=>lt ({mX with E:=Nc.1}:aT) λTU=>tr (nt n nP nP.c.R TU) (λagj=>(.error agj)) λx88=>lt ({E:=0,V:=wr .u64 Nc.2.1,W:=0}:ah) λx99=>some (.ok (x99,x88))) λj45=>bd (kV n cz.E (wr .i64 (if 129<a0.c.A then 129 else a0.c.A)) (wr .i64 (if 9<a0.c.B then 9 else a0.c.B))) λG5=>cn ((!G5.2)) (bd (dY n cz.E) λMV=>tc (decide ((wr .i64 (MV+aE.1))<=cz.ur)) (.error 6)<|cn (({a0 with mA:=aE.1}).Ed) (lt ({E:=0,V:=0,W:=0}:ah) λwD=>some (.ok (wD,{a0 with mA:=aE.1}))) (bd (iq n cz.E (({a0 with mA:=aE.1}).run)) λIB=>lt ({cz with E:=IB}:aT) λEF=>cl (((({a0 with mA:=aE.1}).run.N)==aE.1)==true) (mR n EF.E) default λYR=>tc (((({a0 with mA:=aE.1}).run.N)==aE.1)&&YR) (.error 2)<|j45 EF ({a0 with mA:=aE.1}))) (j45 cz a0)
def nZ(n:Nat):CT:=cX (tW n [(28, .join [(.via 7, .box 58 (.v (.st 5))),(.via 0,cC),(.via 2, .box 104 (.v (.st 19)))] [])] [bg n,aZ n,Dp n,bR n,fI n,n5 n,fJ n,uY n,oT n,wT n,pS n]) ⟨166,[], .cons cC .nil, .cons (.v (.st 19)) (.cons cC .nil),[some 0,none],(.cons (.gP 28 (.v (.int .i64))) .nil),[],[[0]]⟩ (λx=>kT n (g7 x)) (λy=>(y.1,g7 y.2)) (λz=>(z.1,(h7 z.2 ()))) u1 m1
def vA(n:Nat)(a0:aT)(a1:ai):Option (Except Int Unit):=tc (decide ((wr .i64 a1.A)<=(wr .i64 (a0.E.Kg-(wr .i64 a1.B))))) (.error 9)<|some (.ok ())
def xp(n:Nat):CT:=cT (tW n [] [bg n,aZ n]) 198 [.s 5, .s 20] [.gS .nil] 28 (a2 (vA n)) (λ_ =>()) (λ_ =>())
def vz(n:Nat)(a0:ai):Option (Except Int Unit):=tc (decide (1<=a0.B)&&decide (a0.B<=8)) (.error 2)<|some (.ok ())
def xo(n:Nat):CT:=cT (tW n [] [bg n,aZ n]) 197 [.s 20] [.gS .nil] 28 (a1 (vz n)) (λ_ =>()) (λ_ =>())
def mD(n:Nat)(a0:aj):Option (Except Int ah):=tr (vz n a0.c) (λkW=>(.error kW)) λ_=>tr (bL n a0 a0.c.R 0) (λvO=>(.error vO)) λ_=>tr (eV n a0 a0.c.R) (λD2=>(.error D2)) λbU=>tr (vA n bU a0.c) (λWE=>(.error WE)) λ_=>lt ({E:=0,V:=0,W:=0}:ah) λeI=>some (.ok eI)
def oL(n:Nat):CT:=cX (tW n [] [bg n,aZ n,xo n,bR n,fI n,xp n]) ⟨167,[(200, .st (.part 952 (.v (.st 15)) (.part 1 (.v (.int .i64)) (.part 6 (.v (.st 20)) (.part 2 (.v (.st 3)) (.part 1 (.v (.int .i64)) (.part 1 (.v .bool) (.part 1 (.row 131 2 (.st 3)) .nil))))))))], .cons (.bF 0) .nil, .cons (.v (.st 19)) .nil,[],(.cons (.gP 28 (.v (.int .i64))) .nil),[],[]⟩ (λx=>mD n (g7 x)) u1 m1 u1 m1
def kL(n:Nat)(a0:aj):Option (Except Int ah):=tr (vz n a0.c) (λkW=>(.error kW)) λ_=>tr (bL n a0 a0.c.R 1) (λvO=>(.error vO)) λ_=>tr (eV n a0 a0.c.R) (λD2=>(.error D2)) λbU=>tr (vA n bU a0.c) (λWE=>(.error WE)) λ_=>lt ({E:=0,V:=0,W:=0}:ah) λeI=>some (.ok eI)
def nR(n:Nat):CT:=cX (tW n [] [bg n,aZ n,xo n,bR n,fI n,xp n]) ⟨168,[(200, .st (.part 952 (.v (.st 15)) (.part 1 (.v (.int .i64)) (.part 6 (.v (.st 20)) (.part 2 (.v (.st 3)) (.part 1 (.v (.int .i64)) (.part 1 (.v .bool) (.part 1 (.row 131 2 (.st 3)) .nil))))))))], .cons (.bF 0) .nil, .cons (.v (.st 19)) .nil,[],(.cons (.gP 28 (.v (.int .i64))) .nil),[],[]⟩ (λx=>kL n (g7 x)) u1 m1 u1 m1
def kO(n:Nat)(a0:aj):Option (Except Int (ah×aj)):=tr (bL n a0 a0.c.R 1) (λkW=>(.error kW)) λ_=>tr (eV n a0 a0.c.R) (λvO=>(.error vO)) λaW=>gu (gR a0.lP.length aW.E.qN.length 16)<|lt (a0.lP++aW.E.qN:List av) λgF=>lt ({Up:=0,ur:=aW.ur,E:=cI,ou:=(λ_ =>0)}:aT) λiF=>tr (nt n ({a0 with lP:=gF}) (({a0 with lP:=gF}).c.R) iF) (λagn=>(.error agn)) λAm=>lt ({E:=0,V:=0,W:=0}:ah) λsK=>some (.ok (sK,Am))
def nU(n:Nat):CT:=cX (tW n [] [bg n,aZ n,bR n,fI n,pS n]) ⟨169,[], .cons cC .nil, .cons (.v (.st 19)) (.cons cC .nil),[some 0,none],(.cons (.gP 28 (.v (.int .i64))) .nil),[],[[0]]⟩ (λx=>kO n (g7 x)) (λy=>(y.1,g7 y.2)) (λz=>(z.1,(h7 z.2 ()))) u1 m1
def jQ(n:Nat)(a0:aj):Option (Except Int (ah×aj)):=tr (bL n a0 a0.c.R 2) (λkW=>(.error kW)) λ_=>bd (fZ n a0 a0.c.R) λaW=>lt ({E:=0,V:=0,W:=0}:ah) λfG=>some (.ok (fG,aW))
def nj(n:Nat):CT:=cX (tW n [] [bg n,aZ n,bR n,jK n]) ⟨170,[], .cons cC .nil, .cons (.v (.st 19)) (.cons cC .nil),[some 0,none],(.cons (.gP 28 (.v (.int .i64))) .nil),[],[[0]]⟩ (λx=>jQ n (g7 x)) (λy=>(y.1,g7 y.2)) (λz=>(z.1,(h7 z.2 ()))) u1 m1
def iQ(n:Nat)(a0:aj)(a1:Int):Option (Except Int aj):=bd (DW n a0.aI.dg.T a1) λbU=>tr (cK n bU.2) (λJN=>(.error JN)) λ_=>some (.ok ({a0 with aI:={a0.aI with dg:={a0.aI.dg with T:=bU.1}}}))
def jJ(n:Nat):CT:=cX (tW n [] [bg n,aZ n,FX n,cm n]) ⟨201,[], .cons cC (.cons (.v (.int .u32)) .nil), .cons (.gS .nil) (.cons cC .nil),[some 0,none],(.cons (.gP 28 (.v (.int .i64))) .nil),[],[[0]]⟩ (λx=>iQ n (g7 x) x.2.2.2.2.2.2.2.1) (λy=>g7 y) (λz=>(h7 z ())) u1 m1
def ny(n:Nat)(a0:aj):Option (Except Int (ah×aj)):=tr (bL n a0 a0.c.R 2) (λkW=>(.error kW)) λ_=>bd (ga n a0.aI.dg.T a0.c.R) λcz=>tc (cz !=a0.c.R) (.error 12)<|tr (iQ n a0 a0.c.R) (λWG=>(.error WG)) λdQ=>tr (fY n dQ dQ.c.R dQ.eJ) (λagq=>(.error agq)) λfO=>lt ({E:=0,V:=0,W:=0}:ah) λG5=>some (.ok (G5,fO))
def pV(n:Nat):CT:=cX (tW n [] [bg n,aZ n,bR n,eY n,jJ n,gG n]) ⟨171,[], .cons cC .nil, .cons (.v (.st 19)) (.cons cC .nil),[some 0,none],(.cons (.gP 28 (.v (.int .i64))) .nil),[],[[0]]⟩ (λx=>ny n (g7 x)) (λy=>(y.1,g7 y.2)) (λz=>(z.1,(h7 z.2 ()))) u1 m1
def kP(n:Nat)(a0:aj):Option (Except Int (ah×aj)):=tr (bL n a0 a0.c.R 2) (λkW=>(.error kW)) λ_=>tr (bL n a0 a0.c.S 1) (λvO=>(.error vO)) λ_=>bd (zN n a0.aI.dg.T a0.c.R a0.c.S) λdO=>tr (cK n dO.2) (λags=>(.error ags)) λ_=>lt ({E:=0,V:=0,W:=0}:ah) λry=>some (.ok (ry,{a0 with aI:={a0.aI with dg:={a0.aI.dg with T:=dO.1}}}))
def nV(n:Nat):CT:=cX (tW n [] [bg n,aZ n,bR n,Dm n,cm n]) ⟨172,[], .cons cC .nil, .cons (.v (.st 19)) (.cons cC .nil),[some 0,none],(.cons (.gP 28 (.v (.int .i64))) .nil),[],[[0]]⟩ (λx=>kP n (g7 x)) (λy=>(y.1,g7 y.2)) (λz=>(z.1,(h7 z.2 ()))) u1 m1
def jP(n:Nat)(a0:aj):Option (Except Int (ah×aj)):=tr (bL n a0 a0.c.R 2) (λkW=>(.error kW)) λ_=>tr (iQ n a0 a0.c.R) (λvO=>(.error vO)) λaW=>bd (ua n aW.aI.dg.O aW.aI.dg.T aW.c.R aW.eJ) λgF=>tr (cK n gF.2) (λWD=>(.error WD)) λ_=>lt ({E:=0,V:=0,W:=0}:ah) λnO=>some (.ok (nO,{aW with aI:={aW.aI with dg:={aW.aI.dg with O:=gF.1}}}))
def ni(n:Nat):CT:=cX (tW n [] [bg n,aZ n,bR n,jJ n,zb n,cm n]) ⟨173,[], .cons cC .nil, .cons (.v (.st 19)) (.cons cC .nil),[some 0,none],(.cons (.gP 28 (.v (.int .i64))) .nil),[],[[0]]⟩ (λx=>jP n (g7 x)) (λy=>(y.1,g7 y.2)) (λz=>(z.1,(h7 z.2 ()))) u1 m1
def g9(n:Nat)(a0:aj)(a1:Int):Option (Except Int Unit):=bd (aJ n a0.aI.dg.T.bN.iX a1) λaE=>tc aE (.error 4)<|bd (gT n a0.aI.dg.O a0.aI.dg.T a1) λdO=>bd (ga n a0.aI.dg.T a1) λdy=>tc ((dy==a1)&&(dO.uL==3)) (.error 12)<|gu (decide (0<=a0.eJ))<|tc ((sC .u8 (I6 .u8 dO.gp a0.eJ) 1)==1) (.error 5)<|some (.ok ())
def jb(n:Nat):CT:=cX (tW n [] [bg n,aZ n,aP n,gv n,eY n]) ⟨205,[(200, .st (.part 952 (.v (.st 15)) (.part 1 (.v (.int .i64)) (.part 6 (.v (.st 20)) (.part 2 (.v (.st 3)) (.part 1 (.v (.int .i64)) (.part 1 (.v .bool) (.part 1 (.row 131 2 (.st 3)) .nil))))))))], .cons (.bF 0) (.cons (.v (.int .u32)) .nil), .cons (.gS .nil) .nil,[],(.cons (.gP 28 (.v (.int .i64))) .nil),[],[]⟩ (λx=>g9 n (g7 x) x.2.2.2.2.2.2.2.1) (λ_ =>()) (λ_ =>()) u1 m1
def fE(n:Nat)(a0:aj)(a1:Int):Option (Except Int Unit):=gu (!((decide (a1<8))==true)||cF a1 8)<|tc (decide (a1<8)&&(a0.aI.lI (Int.toNat a1))) (.error 2)<|some (.ok ())
def fU(n:Nat):CT:=cX (tW n [] [bg n,aZ n]) ⟨204,[(200, .st (.part 952 (.v (.st 15)) (.part 1 (.v (.int .i64)) (.part 6 (.v (.st 20)) (.part 2 (.v (.st 3)) (.part 1 (.v (.int .i64)) (.part 1 (.v .bool) (.part 1 (.row 131 2 (.st 3)) .nil))))))))], .cons (.bF 0) (.cons (.v (.int .u32)) .nil), .cons (.gS .nil) .nil,[],(.cons (.gP 28 (.v (.int .i64))) .nil),[],[]⟩ (λx=>fE n (g7 x) x.2.2.2.2.2.2.2.1) (λ_ =>()) (λ_ =>()) u1 m1
def kN(n:Nat)(a0:aj):Option (Except Int (ah×aj)):=tr (fE n a0 a0.c.A) (λkW=>(.error kW)) λ_=>tr (g9 n a0 a0.c.R) (λvO=>(.error vO)) λ_=>bd (rG n a0.aI.dg.O a0.aI.dg.T a0.c.R (wr .i64 a0.c.A)) λdO=>tr (cK n dO.2) (λWG=>(.error WG)) λ_=>lt ({E:=0,V:=0,W:=0}:ah) λcW=>some (.ok (cW,{a0 with aI:={a0.aI with dg:={a0.aI.dg with O:=dO.1}}}))
def nT(n:Nat):CT:=cX (tW n [] [bg n,aZ n,fU n,jb n,tL n,cm n]) ⟨174,[], .cons cC .nil, .cons (.v (.st 19)) (.cons cC .nil),[some 0,none],(.cons (.gP 28 (.v (.int .i64))) .nil),[],[[0]]⟩ (λx=>kN n (g7 x)) (λy=>(y.1,g7 y.2)) (λz=>(z.1,(h7 z.2 ()))) u1 m1
def mH(n:Nat)(a0:aj):Option (Except Int (ah×aj)):=tr (g9 n a0 a0.c.R) (λkW=>(.error kW)) λ_=>tr (kQ n a0 a0.c.R a0.eJ) (λvO=>(.error vO)) λaW=>lt ({E:=0,V:=0,W:=0}:ah) λfG=>some (.ok (fG,aW))
def oP(n:Nat):CT:=cX (tW n [] [bg n,aZ n,jb n,nW n]) ⟨175,[], .cons cC .nil, .cons (.v (.st 19)) (.cons cC .nil),[some 0,none],(.cons (.gP 28 (.v (.int .i64))) .nil),[],[[0]]⟩ (λx=>mH n (g7 x)) (λy=>(y.1,g7 y.2)) (λz=>(z.1,(h7 z.2 ()))) u1 m1
def mE(n:Nat)(a0:aj):Option (Except Int (ah×aj)):=tr (fE n a0 a0.c.A) (λkW=>(.error kW)) λ_=>tc (decide (a0.c.B<=1)) (.error 2)<|bd (aJ n a0.aI.dg.T.bN.iX a0.c.R) λbU=>tc bU (.error 4)<|lt (λ(u25:Unit)=>lt ({Region:=a0.c.R,By:=wr .u8 a0.eJ,To:=wr .u8 a0.c.A,jH:=(a0.c.B==1),rq:=a0.c.S}:bp) λcQ=>bd (qS n a0.aI.dg.K cQ) λgF=>tr (cK n gF.2.2) (λWD=>(.error WD)) λ_=>lt ({E:=0,V:=0,W:=gF.2.1}:ah) λnO=>some (.ok (nO,{a0 with aI:={a0.aI with dg:={a0.aI.dg with K:=gF.1}}}))) λX8=>cn ((a0.c.S==0)) (bd (gT n a0.aI.dg.O a0.aI.dg.T a0.c.R) λfq=>tc ((fq.uL==1)&&((wr .i64 fq.nc)==a0.eJ)) (.error 5)<|X8 ()) (bd (bZ n a0.aI.dg.K a0.c.S) λcU=>tr (cK n cU.2) (λJN=>(.error JN)) λ_=>tc (((wr .i64 cU.1.To)==a0.eJ)&&(cU.1.Region==a0.c.R)) (.error 5)<|X8 ())
def oM(n:Nat):CT:=cX (tW n [(20, .join [] [])] [bg n,aZ n,fU n,aP n,gv n,di n,cm n,wP n]) ⟨176,[], .cons cC .nil, .cons (.v (.st 19)) (.cons cC .nil),[some 0,none],(.cons (.gP 28 (.v (.int .i64))) .nil),[],[[0]]⟩ (λx=>mE n (g7 x)) (λy=>(y.1,g7 y.2)) (λz=>(z.1,(h7 z.2 ()))) u1 m1
def iL(n:Nat)(a0:aj):Option (Except Int (ah×aj)):=bd (bZ n a0.aI.dg.K a0.c.S) λaE=>tr (cK n aE.2) (λvO=>(.error vO)) λ_=>tc ((wr .i64 aE.1.To)==a0.eJ) (.error 5)<|bd (eS n a0.aI.dg.K a0.c.S) λcz=>lt ({E:=0,V:=0,W:=0}:ah) λcQ=>some (.ok (cQ,{a0 with aI:={a0.aI with dg:={a0.aI.dg with K:=cz.1}}}))
def lu(n:Nat):CT:=cX (tW n [] [bg n,aZ n,di n,cm n,nh n]) ⟨177,[], .cons cC .nil, .cons (.v (.st 19)) (.cons cC .nil),[some 0,none],(.cons (.gP 28 (.v (.int .i64))) .nil),[],[[0]]⟩ (λx=>iL n (g7 x)) (λy=>(y.1,g7 y.2)) (λz=>(z.1,(h7 z.2 ()))) u1 m1
def zE(n:Nat)(a0:bM)(a1:aQ):Option (bM×Int):=cn (a0.closed) (some (a0,11)) (cn ((a0.n==4)) (some (a0,7)) (bd (qZ n a0 a0.n) λaE=>gu (cF aE 4)<|lt ({a0 with ring:=(mZ a0.ring (Int.toNat aE) a1)}:bM) λbU=>lt ({bU with n:=wr .i64 (bU.n+1)}:bM) λcz=>some (cz,0)))
def Dj(n:Nat):CT:=cV (tW n [] [rC n]) (gV 212 [.s 14, .s 13] [.t [.s 14, .i]]) (a2 (zE n)) u2 m2
def mB(n:Nat)(a0:aj):Option (Except Int (ah×aj)):=tr (fE n a0 a0.c.A) (λkW=>(.error kW)) λ_=>tc (decide (a0.c.B<=1)) (.error 2)<|lt ({Ez:=wr .u8 a0.eJ,EW:=a0.c.V,Region:=a0.c.R,we:=((a0.c.R !=0)&&(a0.c.B==1))}:aQ) λbU=>lt (λ(dQ:aj)=>gu (cF dQ.c.A 8)<|bd (zE n (dQ.aI.iD (Int.toNat dQ.c.A)) bU) λIB=>tr (cK n IB.2) (λagl=>(.error agl)) λ_=>gu (cF dQ.c.A 8)<|lt ({E:=0,V:=0,W:=0}:ah) λUO=>some (.ok (UO,{dQ with aI:={dQ.aI with iD:=(mZ dQ.aI.iD (Int.toNat dQ.c.A) IB.1)}}))) λQ4=>cn (bU.we) (tr (g9 n a0 a0.c.R) (λagt=>(.error agt)) λ_=>bd (rG n a0.aI.dg.O a0.aI.dg.T a0.c.R (wr .i64 a0.c.A)) λmX=>cn ((mX.2==0)) (Q4 ({a0 with aI:={a0.aI with dg:={a0.aI.dg with O:=mX.1}}})) (Q4 a0)) (cn ((a0.c.R !=0)) (tr (bL n a0 a0.c.R 2) (λagp=>(.error agp)) λ_=>tr (iQ n a0 a0.c.R) (λago=>(.error ago)) λiF=>bd (zy n iF.aI.dg.O iF.aI.dg.T iF.c.R) λxK=>tr (cK n xK.2) (λagm=>(.error agm)) λ_=>Q4 ({iF with aI:={iF.aI with dg:={iF.aI.dg with O:=xK.1}}})) (Q4 a0))
def oJ(n:Nat):CT:=cX (tW n [(30, .join [(.via 0,cC)] [])] [bg n,aZ n,fU n,jb n,tL n,bR n,jJ n,Dh n,cm n,Dj n]) ⟨178,[], .cons cC .nil, .cons (.v (.st 19)) (.cons cC .nil),[some 0,none],(.cons (.gP 28 (.v (.int .i64))) .nil),[],[[0]]⟩ (λx=>mB n (g7 x)) (λy=>(y.1,g7 y.2)) (λz=>(z.1,(h7 z.2 ()))) u1 m1
def xD(n:Nat)(a0:bM):Option (bM×aQ×Int):=cn (((a0.n==0)&&a0.closed)) (lt ({Ez:=0,EW:=0,Region:=0,we:=false}:aQ) λaE=>some (a0,aE,11)) (cn ((a0.n==0)) (lt ({Ez:=0,EW:=0,Region:=0,we:=false}:aQ) λaW=>some (a0,aW,10)) (gu (cF a0.uh 4)<|lt ((a0.ring (Int.toNat a0.uh)):aQ) λcz=>bd (qZ n a0 1) λdO=>lt ({a0 with uh:=dO}:bM) λdQ=>lt ({dQ with n:=wr .i64 (a0.n-1)}:bM) λcY=>some (cY,cz,0)))
def Cb(n:Nat):CT:=cV (tW n [] [rC n]) (gV 213 [.s 14] [.t [.s 14, .s 13, .i]]) (a1 (xD n)) u3 m3
def fX(n:Nat)(a0:aj):Option (Except Int (ah×aj)):=gu (cF a0.eJ 8)<|bd (xD n (a0.aI.iD (Int.toNat a0.eJ))) λaW=>tr (cK n aW.2.2) (λD2=>(.error D2)) λ_=>gu (cF a0.eJ 8)<|cn (((aW.2.1.Region !=0)&&(!aW.2.1.we))) (tr (fY n ({a0 with aI:={a0.aI with iD:=(mZ a0.aI.iD (Int.toNat a0.eJ) aW.1)}}) aW.2.1.Region (({a0 with aI:={a0.aI with iD:=(mZ a0.aI.iD (Int.toNat a0.eJ) aW.1)}}).eJ)) (λagu=>(.error agu)) λdy=>lt ({E:=0,V:=aW.2.1.EW,W:=aW.2.1.Region}:ah) λnP=>some (.ok (nP,dy))) (lt ({E:=0,V:=aW.2.1.EW,W:=aW.2.1.Region}:ah) λiF=>some (.ok (iF,{a0 with aI:={a0.aI with iD:=(mZ a0.aI.iD (Int.toNat a0.eJ) aW.1)}})))
def oK(n:Nat):CT:=cX (tW n [] [bg n,aZ n,Cb n,cm n,gG n]) ⟨179,[], .cons cC .nil, .cons (.v (.st 19)) (.cons cC .nil),[some 0,none],(.cons (.gP 28 (.v (.int .i64))) .nil),[],[[0]]⟩ (λx=>fX n (g7 x)) (λy=>(y.1,g7 y.2)) (λz=>(z.1,(h7 z.2 ()))) u1 m1
def vE(n:Nat)(a0:bM):Option (bM×Int):=cn (a0.closed) (some (a0,11)) (lt ({a0 with closed:=true}:bM) λaE=>some (aE,0))
def AL(n:Nat):CT:=cV (tW n [] []) (gV 214 [.s 14] [.t [.s 14, .i]]) (a1 (vE n)) u2 m2
def kS(n:Nat)(a0:aj):Option (Except Int (ah×aj)):=gu (cF a0.eJ 8)<|bd (vE n (a0.aI.iD (Int.toNat a0.eJ))) λaW=>tr (cK n aW.2) (λD2=>(.error D2)) λ_=>gu (cF a0.eJ 8)<|lt ({E:=0,V:=0,W:=0}:ah) λdy=>some (.ok (dy,{a0 with aI:={a0.aI with iD:=(mZ a0.aI.iD (Int.toNat a0.eJ) aW.1)}}))
def nY(n:Nat):CT:=cX (tW n [] [bg n,aZ n,AL n,cm n]) ⟨180,[], .cons cC .nil, .cons (.v (.st 19)) (.cons cC .nil),[some 0,none],(.cons (.gP 28 (.v (.int .i64))) .nil),[],[[0]]⟩ (λx=>kS n (g7 x)) (λy=>(y.1,g7 y.2)) (λz=>(z.1,(h7 z.2 ()))) u1 m1
def nu(n:Nat)(a0:aj):Option (Except Int (ah×aj)):=tr (bL n a0 a0.c.R 1) (λkW=>(.error kW)) λ_=>lt (λ(u22:Unit)=>bd (gT n a0.aI.dg.O a0.aI.dg.T a0.c.S) λfq=>bd (Ii n a0.aI.dg.T a0.c.R (wr .i64 (if 8<a0.c.A then 8 else a0.c.A)) a0.c.S (fq.uL==3)) λcW=>tr (cK n cW.2) (λWC=>(.error WC)) λ_=>lt ({E:=0,V:=0,W:=0}:ah) λyP=>some (.ok (yP,{a0 with aI:={a0.aI with dg:={a0.aI.dg with T:=cW.1}}}))) λj23=>cn ((a0.c.S !=0)) (tr (bL n a0 a0.c.S 0) (λGH=>(.error GH)) λ_=>j23 ()) (j23 ())
def pT(n:Nat):CT:=cX (tW n [(8, .join [(.via 0,cC)] [])] [bg n,aZ n,bR n,gv n,IX n,cm n]) ⟨181,[], .cons cC .nil, .cons (.v (.st 19)) (.cons cC .nil),[some 0,none],(.cons (.gP 28 (.v (.int .i64))) .nil),[],[[0]]⟩ (λx=>nu n (g7 x)) (λy=>(y.1,g7 y.2)) (λz=>(z.1,(h7 z.2 ()))) u1 m1
def kR(n:Nat)(a0:aj):Option (Except Int ah):=tr (bL n a0 a0.c.R 0) (λkW=>(.error kW)) λ_=>bd (D9 n a0.aI.dg.T a0.c.R (wr .i64 (if 8<a0.c.A then 8 else a0.c.A))) λcz=>tr (cK n cz.2) (λWH=>(.error WH)) λ_=>lt ({E:=0,V:=0,W:=cz.1}:ah) λdQ=>some (.ok dQ)
def nX(n:Nat):CT:=cX (tW n [] [bg n,aZ n,bR n,FY n,cm n]) ⟨182,[(200, .st (.part 952 (.v (.st 15)) (.part 1 (.v (.int .i64)) (.part 6 (.v (.st 20)) (.part 2 (.v (.st 3)) (.part 1 (.v (.int .i64)) (.part 1 (.v .bool) (.part 1 (.row 131 2 (.st 3)) .nil))))))))], .cons (.bF 0) .nil, .cons (.v (.st 19)) .nil,[],(.cons (.gP 28 (.v (.int .i64))) .nil),[],[]⟩ (λx=>kR n (g7 x)) u1 m1 u1 m1
def mG(n:Nat)(a0:aj):Option (Except Int (ah×aj)):=tr (mI n a0 a0.eJ) (λkW=>(.error kW)) λaE=>lt ({E:=0,V:=0,W:=0}:ah) λeI=>some (.ok (eI,aE))
def oO(n:Nat):CT:=cX (tW n [] [bg n,aZ n,oQ n]) ⟨183,[], .cons cC .nil, .cons (.v (.st 19)) (.cons cC .nil),[some 0,none],(.cons (.gP 28 (.v (.int .i64))) .nil),[],[[0]]⟩ (λx=>mG n (g7 x)) (λy=>(y.1,g7 y.2)) (λz=>(z.1,(h7 z.2 ()))) u1 m1
def mF(n:Nat)(a0:aj):Option (Except Int (ah×aj)):=tr (fE n a0 a0.c.A) (λkW=>(.error kW)) λ_=>tr (mI n a0 (wr .i64 a0.c.A)) (λvO=>(.error vO)) λaW=>lt ({E:=0,V:=0,W:=0}:ah) λfG=>some (.ok (fG,aW))
def oN(n:Nat):CT:=cX (tW n [] [bg n,aZ n,fU n,oQ n]) ⟨184,[], .cons cC .nil, .cons (.v (.st 19)) (.cons cC .nil),[some 0,none],(.cons (.gP 28 (.v (.int .i64))) .nil),[],[[0]]⟩ (λx=>mF n (g7 x)) (λy=>(y.1,g7 y.2)) (λz=>(z.1,(h7 z.2 ()))) u1 m1
def kM(n:Nat)(a0:aj):Option (Except Int (ah×aj)):=gu (!((decide (a0.c.A<8))==true)||cF (Int.tmod a0.c.A 8) 8)<|tc (decide (a0.c.A<8)&&(!(a0.aI.E6 (Int.toNat (Int.tmod a0.c.A 8))))) (.error 2)<|gu (cF a0.c.A 8)<|gu (cF a0.c.A 8)<|lt ({E:=0,V:=0,W:=0}:ah) λcU=>some (.ok (cU,{({a0 with aI:={a0.aI with lI:=(mZ a0.aI.lI (Int.toNat a0.c.A) true)}})with aI:={({a0 with aI:={a0.aI with lI:=(mZ a0.aI.lI (Int.toNat a0.c.A) true)}}).aI with E6:=(mZ ((({a0 with aI:={a0.aI with lI:=(mZ a0.aI.lI (Int.toNat a0.c.A) true)}}).aI).E6) (Int.toNat a0.c.A) true)}}))
def nS(n:Nat):CT:=cX (tW n [] [bg n,aZ n]) ⟨185,[], .cons cC .nil, .cons (.v (.st 19)) (.cons cC .nil),[some 0,none],(.cons (.gP 28 (.v (.int .i64))) .nil),[],[[0]]⟩ (λx=>kM n (g7 x)) (λy=>(y.1,g7 y.2)) (λz=>(z.1,(h7 z.2 ()))) u1 m1
end
end Go.Proofs.Z
namespace Go.Proofs.Z
open Go Go.Bw Go.Rw Go.RowKit
abbrev XG:=Nat->aj->Option (Except Int (ah×aj))
def HJ(g:Nat->aj->Option (Except Int ah)):XG:=λn a=>match g n a with
 |some (.ok r)=>some (.ok (r,a))
 |some (.error e)=>some (.error e)
 |none=>none
def Ib:List (Int×Nat×XG):=[(1,165,nv),(2,166,kT),(3,167,HJ mD),(4,168,HJ kL),(5,169,kO),(6,170,jQ),(7,171,ny),(8,172,kP),(9,173,jP),(10,174,kN),(11,175,mH),(12,176,mE),(13,177,iL),(14,178,mB),(15,179,fX),(16,179,fX),(17,180,kS),(18,181,nu),(19,182,HJ kR),(20,183,mG),(21,184,mF),(22,185,kM)]
def P3(k:Int):Option (Int×Nat×XG):=Ib.find? λx=>k==x.1
def ia(n:Nat)(a0:aj):Option (ah×Option aj):=
 gu (!((decide (0<=a0.eJ)&&decide (a0.eJ<8))==true)||cF (sC .i64 a0.eJ 7) 8)<|
 tc ((decide (0<=a0.eJ)&&decide (a0.eJ<8))&&(a0.aI.lI (Int.toNat (sC .i64 a0.eJ 7)))) (⟨12,0,0⟩,none)<|
 match P3 a0.c.Do with
 |none=>some (⟨2,0,0⟩,none)
 |some x=>tr (x.2.2 n a0) (λe=>(⟨e,0,0⟩,none)) λy=>some (y.1,some y.2)
def mC{Z:Type}(m:Option (Except Int (ah×aj)))(KO:ah->aj->Option Z)(KE:Int->Option Z):Option Z:=bd m λr=>match r with
 | .ok z=>KO z.1 z.2
 | .error e=>KE e
def kC{Z:Type}(m:Option (Except Int ah))(a:aj)(KO:ah->aj->Option Z)(KE:Int->Option Z):Option Z:=bd m λr=>match r with
 | .ok z=>KO z a
 | .error e=>KE e
def cD{Z:Type}(n:Nat)(a:aj)(KO:ah->aj->Option Z)(KM KK:Int->Option Z)(KN:Option Z):Option Z:=cn (a.c.Do==1) (mC (nv n a) KO KM)<|cn (a.c.Do==2) (mC (kT n a) KO KM)<|cn (a.c.Do==3) (kC (mD n a) a KO KK)<|cn (a.c.Do==4) (kC (kL n a) a KO KK)<|cn (a.c.Do==5) (mC (kO n a) KO KM)<|cn (a.c.Do==6) (mC (jQ n a) KO KM)<|cn (a.c.Do==7) (mC (ny n a) KO KM)<|cn (a.c.Do==8) (mC (kP n a) KO KM)<|cn (a.c.Do==9) (mC (jP n a) KO KM)<|cn (a.c.Do==10) (mC (kN n a) KO KM)<|cn (a.c.Do==11) (mC (mH n a) KO KM)<|cn (a.c.Do==12) (mC (mE n a) KO KM)<|cn (a.c.Do==13) (mC (iL n a) KO KM)<|cn (a.c.Do==14) (mC (mB n a) KO KM)<|cn (a.c.Do==15) (mC (fX n a) KO KM)<|cn (a.c.Do==16) (mC (fX n a) KO KM)<|cn (a.c.Do==17) (mC (kS n a) KO KM)<|cn (a.c.Do==18) (mC (nu n a) KO KM)<|cn (a.c.Do==19) (kC (kR n a) a KO KK)<|cn (a.c.Do==20) (mC (mG n a) KO KM)<|cn (a.c.Do==21) (mC (mF n a) KO KM)<|cn (a.c.Do==22) (mC (kM n a) KO KM)<|KN
def cA{Z:Type}(n:Nat)(a:aj)(KO:ah->aj->Option Z)(KM KK:Int->Option Z)(KN KA:Option Z):Option Z:=gu (!((decide (0<=a.eJ)&&decide (a.eJ<8))==true)||cF (sC .i64 a.eJ 7) 8)<|cn ((decide (0<=a.eJ)&&decide (a.eJ<8))&&(a.aI.lI (Int.toNat (sC .i64 a.eJ 7)))) (cD n a KO KM KK KN) KA
theorem l8{Z:Type}{m:Option (Except Int (ah×aj))}{K:ah×Option aj->Option Z}{z:Z}(h:bd (tr m (λe=>(⟨e,0,0⟩,none)) λy=>some (y.1,some y.2)) K=some z):mC m (λr c=>K (r,some c)) (λe=>K (⟨e,0,0⟩,none))=some z:=by
 cases m with
 |none=>cases h
 |some r=>cases r<;>exact h
theorem N6{Z:Type}{g:Nat->aj->Option (Except Int ah)}{n:Nat}{a:aj}{K:ah×Option aj->Option Z}{KK:Int->Option Z}{z:Z}(hk:∀e,K (⟨e,0,0⟩,none)=some z->KK e=some z)(h:bd (tr (HJ g n a) (λe=>(⟨e,0,0⟩,none)) λy=>some (y.1,some y.2)) K=some z):kC (g n a) a (λr c=>K (r,some c)) KK=some z:=by
 unfold HJ at h;cases hm:g n a with
 |none=>rw[hm]at h;cases h
 |some r=>rw[hm]at h;cases r with
  |ok r=>exact h
  |error e=>exact hk e h
theorem abU{Z:Type}{n:Nat}{a:aj}{K:ah×Option aj->Option Z}{KK:Int->Option Z}{z:Z}(hk:∀e,K (⟨e,0,0⟩,none)=some z->KK e=some z)(h:bd (match P3 a.c.Do with
  |none=>some (⟨2,0,0⟩,none)
  |some x=>tr (x.2.2 n a) (λe=>(⟨e,0,0⟩,none)) λy=>some (y.1,some y.2)) K=some z):cD n a (λr c=>K (r,some c)) (λe=>K (⟨e,0,0⟩,none)) KK (K (⟨2,0,0⟩,none))=some z:=by
 unfold P3 Ib at h;unfold cD;rw[List.find?_cons]at h;dsimp only at h;cases h0:(a.c.Do==1)with
 |true=>rw[h0]at h;exact l8 h
 |false=>
 rw[h0]at h;refine(rfl:cn false _ _ =_).trans ?_;rw[List.find?_cons]at h;dsimp only at h;cases h1:(a.c.Do==2)with
 |true=>rw[h1]at h;exact l8 h
 |false=>
 rw[h1]at h;refine(rfl:cn false _ _ =_).trans ?_;rw[List.find?_cons]at h;dsimp only at h;cases h2:(a.c.Do==3)with
 |true=>rw[h2]at h;exact N6 hk h
 |false=>
 rw[h2]at h;refine(rfl:cn false _ _ =_).trans ?_;rw[List.find?_cons]at h;dsimp only at h;cases h3:(a.c.Do==4)with
 |true=>rw[h3]at h;exact N6 hk h
 |false=>
 rw[h3]at h;refine(rfl:cn false _ _ =_).trans ?_;rw[List.find?_cons]at h;dsimp only at h;cases h4:(a.c.Do==5)with
 |true=>rw[h4]at h;exact l8 h
 |false=>
 rw[h4]at h;refine(rfl:cn false _ _ =_).trans ?_;rw[List.find?_cons]at h;dsimp only at h;cases h5:(a.c.Do==6)with
 |true=>rw[h5]at h;exact l8 h
 |false=>
 rw[h5]at h;refine(rfl:cn false _ _ =_).trans ?_;rw[List.find?_cons]at h;dsimp only at h;cases h6:(a.c.Do==7)with
 |true=>rw[h6]at h;exact l8 h
 |false=>
 rw[h6]at h;refine(rfl:cn false _ _ =_).trans ?_;rw[List.find?_cons]at h;dsimp only at h;cases h7:(a.c.Do==8)with
 |true=>rw[h7]at h;exact l8 h
 |false=>
 rw[h7]at h;refine(rfl:cn false _ _ =_).trans ?_;rw[List.find?_cons]at h;dsimp only at h;cases h8:(a.c.Do==9)with
 |true=>rw[h8]at h;exact l8 h
 |false=>
 rw[h8]at h;refine(rfl:cn false _ _ =_).trans ?_;rw[List.find?_cons]at h;dsimp only at h;cases h9:(a.c.Do==10)with
 |true=>rw[h9]at h;exact l8 h
 |false=>
 rw[h9]at h;refine(rfl:cn false _ _ =_).trans ?_;rw[List.find?_cons]at h;dsimp only at h;cases h10:(a.c.Do==11)with
 |true=>rw[h10]at h;exact l8 h
 |false=>
 rw[h10]at h;refine(rfl:cn false _ _ =_).trans ?_;rw[List.find?_cons]at h;dsimp only at h;cases h11:(a.c.Do==12)with
 |true=>rw[h11]at h;exact l8 h
 |false=>
 rw[h11]at h;refine(rfl:cn false _ _ =_).trans ?_;rw[List.find?_cons]at h;dsimp only at h;cases h12:(a.c.Do==13)with
 |true=>rw[h12]at h;exact l8 h
 |false=>
 rw[h12]at h;refine(rfl:cn false _ _ =_).trans ?_;rw[List.find?_cons]at h;dsimp only at h;cases h13:(a.c.Do==14)with
 |true=>rw[h13]at h;exact l8 h
 |false=>
 rw[h13]at h;refine(rfl:cn false _ _ =_).trans ?_;rw[List.find?_cons]at h;dsimp only at h;cases h14:(a.c.Do==15)with
 |true=>rw[h14]at h;exact l8 h
 |false=>
 rw[h14]at h;refine(rfl:cn false _ _ =_).trans ?_;rw[List.find?_cons]at h;dsimp only at h;cases h15:(a.c.Do==16)with
 |true=>rw[h15]at h;exact l8 h
 |false=>
 rw[h15]at h;refine(rfl:cn false _ _ =_).trans ?_;rw[List.find?_cons]at h;dsimp only at h;cases h16:(a.c.Do==17)with
 |true=>rw[h16]at h;exact l8 h
 |false=>
 rw[h16]at h;refine(rfl:cn false _ _ =_).trans ?_;rw[List.find?_cons]at h;dsimp only at h;cases h17:(a.c.Do==18)with
 |true=>rw[h17]at h;exact l8 h
 |false=>
 rw[h17]at h;refine(rfl:cn false _ _ =_).trans ?_;rw[List.find?_cons]at h;dsimp only at h;cases h18:(a.c.Do==19)with
 |true=>rw[h18]at h;exact N6 hk h
 |false=>
 rw[h18]at h;refine(rfl:cn false _ _ =_).trans ?_;rw[List.find?_cons]at h;dsimp only at h;cases h19:(a.c.Do==20)with
 |true=>rw[h19]at h;exact l8 h
 |false=>
 rw[h19]at h;refine(rfl:cn false _ _ =_).trans ?_;rw[List.find?_cons]at h;dsimp only at h;cases h20:(a.c.Do==21)with
 |true=>rw[h20]at h;exact l8 h
 |false=>
 rw[h20]at h;refine(rfl:cn false _ _ =_).trans ?_;rw[List.find?_cons]at h;dsimp only at h;cases h21:(a.c.Do==22)with
 |true=>rw[h21]at h;exact l8 h
 |false=>
 rw[h21]at h;refine(rfl:cn false _ _ =_).trans ?_;exact h
theorem UC{Z:Type}{n:Nat}{a:aj}{K:ah×Option aj->Option Z}{KK:Int->Option Z}{z:Z}(hk:∀e,K (⟨e,0,0⟩,none)=some z->KK e=some z)(h:bd (ia n a) K=some z):cA n a (λr c=>K (r,some c)) (λe=>K (⟨e,0,0⟩,none)) KK (K (⟨2,0,0⟩,none)) (K (⟨12,0,0⟩,none))=some z:=by
 unfold ia at h;unfold cA;cases h1:(!((decide (0<=a.eJ)&&decide (a.eJ<8))==true)||cF (sC .i64 a.eJ 7) 8)with
 |false=>rw[h1]at h;cases h
 |true=>
  rw[h1]at h;cases h2:((decide (0<=a.eJ)&&decide (a.eJ<8))&&(a.aI.lI (Int.toNat (sC .i64 a.eJ 7))))with
  |false=>rw[h2]at h;exact h
  |true=>rw[h2]at h;exact abU hk h
def eM(n:Nat)(a0:ak)(a1:Int)(a2:ai):Option Int:=lt ({aI:=a0,eJ:=a1,c:=a2,run:=cy,mA:=0,Ed:=true,lP:=[]}:aj) λ_=>cn ((a2.Do !=2)==false) (bd (ia n ({aI:=a0,eJ:=a1,c:=a2,run:=cy,mA:=0,Ed:=true,lP:=[]}:aj)) λcY=>oc cY.2 (cn (((a2.Do !=2)||(cY.1.E !=0))) (some 0) (none)) λRU=>cn (((a2.Do !=2)||(cY.1.E !=0))) (some 0) (some RU.mA)) (cn (((a2.Do !=2)||(aU.E !=0))) (some 0) (some (({aI:=a0,eJ:=a1,c:=a2,run:=cy,mA:=0,Ed:=true,lP:=[]}:aj).mA)))
def jN(n:Nat)(a0:ak)(a1:Int)(a2:ai):Option Int:=cn (a2.Do !=2) (some 0) (cA n ({aI:=a0,eJ:=a1,c:=a2,run:=cy,mA:=0,Ed:=true,lP:=[]}:aj) (λr c=>cn (r.E !=0) (some 0) (some c.mA)) (λe=>cn (e !=0) (some 0) none) (λe=>cn (e !=0) (some 0) (some 0)) (some 0) (some 0))
theorem wX(n:Nat)(a0:ak)(a1:Int)(a2:ai)(z:Int)(h:eM n a0 a1 a2=some z):jN n a0 a1 a2=some z:=by
 unfold eM at h;unfold jN;cases h1:(a2.Do !=2)with
 |true=>rw[h1]at h;exact h
 |false=>
  rw[h1]at h;have:=UC (a:=({aI:=a0,eJ:=a1,c:=a2,run:=cy,mA:=0,Ed:=true,lP:=[]}:aj)) (KK:=λe=>cn (e !=0) (some 0) (some 0)) (λe h=>by
   have h:cn (e !=0) (some 0) none=some z:=h;cases hb:(e !=0)with
   |true=>rw[hb]at h;exact h
   |false=>rw[hb]at h;cases h) h
  exact this
noncomputable def jL(n:Nat):Ct Tryz.prog sg:=Ua (tW n [] [bg n,aZ n,pU n,nZ n,oL n,nR n,nU n,nj n,pV n,nV n,ni n,nT n,oP n,oM n,lu n,oJ n,oK n,nY n,pT n,nX n,oO n,oN n,nS n]) 3000 ⟨77,[], .cons (.v (.st 15)) (.cons (.v (.int .i64)) (.cons (.v (.st 20)) .nil)), .cons (.v (.int .i64)) .nil,[], .nil,[],[]⟩ (λx=>eM n x.1 x.2.1 x.2.2.1) (λx=>jN n x.1 x.2.1 x.2.2.1) (λy=>y.1) (λz=>(z,())) (0) (λ_ =>rfl) (by kernel_rfl) (λx=>by kernel_rfl) (λx z h=>by apply wX;exact h)
def mK(n:Nat)(a0:ak)(a1:Int)(a2:ai)(a3:av):Option (ak×ah×(List av)):=lt ({aI:=a0,eJ:=a1,c:=a2,run:=a3,mA:=0,Ed:=false,lP:=[]}:aj) λ_=>bd (ia n ({aI:=a0,eJ:=a1,c:=a2,run:=a3,mA:=0,Ed:=false,lP:=[]}:aj)) λcY=>oc cY.2 (cn ((cY.1.E !=0)) (some (a0,cY.1,([]:List av))) (none)) λRU=>cn ((cY.1.E !=0)) (some (a0,cY.1,([]:List av))) (some (RU.aI,cY.1,RU.lP))
def rW(n:Nat)(a0:ak)(a1:Int)(a2:ai)(a3:av):Option (ak×ah×(List av)):=cA n ({aI:=a0,eJ:=a1,c:=a2,run:=a3,mA:=0,Ed:=false,lP:=[]}:aj) (λr c=>cn (r.E !=0) (some (a0,r,[])) (some (c.aI,r,c.lP))) (λe=>cn (e !=0) (some (a0,⟨e,0,0⟩,[])) none) (λe=>cn (e !=0) (some (a0,⟨e,0,0⟩,[])) (some (a0,⟨e,0,0⟩,[]))) (some (a0,⟨2,0,0⟩,[])) (some (a0,⟨12,0,0⟩,[]))
theorem Bf(n:Nat)(a0:ak)(a1:Int)(a2:ai)(a3:av)(z:ak×ah×(List av))(h:mK n a0 a1 a2 a3=some z):rW n a0 a1 a2 a3=some z:=by
 have:=UC (a:=({aI:=a0,eJ:=a1,c:=a2,run:=a3,mA:=0,Ed:=false,lP:=[]}:aj)) (KK:=λe=>cn (e !=0) (some (a0,⟨e,0,0⟩,[])) (some (a0,⟨e,0,0⟩,[]))) (λe h=>by
  have h:cn (e !=0) (some (a0,⟨e,0,0⟩,([]:List av))) none=some z:=h;cases hb:(e !=0)with
  |true=>rw[hb]at h;exact h
  |false=>rw[hb]at h;cases h) h
 exact this
noncomputable def rV(n:Nat):Ct Tryz.prog sg:=Ua (tW n [] [bg n,aZ n,pU n,nZ n,oL n,nR n,nU n,nj n,pV n,nV n,ni n,nT n,oP n,oM n,lu n,oJ n,oK n,nY n,pT n,nX n,oO n,oN n,nS n]) 3000 ⟨78,[], .cons (.v (.st 15)) (.cons (.v (.int .i64)) (.cons (.v (.st 20)) (.cons (.v (.st 3)) .nil))), .cons (.gS (.cons (.v (.st 15)) (.cons (.v (.st 19)) (.cons (.v (.sl (.st 3))) .nil)))) .nil,[], .nil,[],[]⟩ (λx=>mK n x.1 x.2.1 x.2.2.1 x.2.2.2.1) (λx=>rW n x.1 x.2.1 x.2.2.1 x.2.2.2.1) (λy=>(y.1,y.2.1,y.2.2.1)) (λz=>(z.1,(z.2.1,(z.2.2,())))) (cZ,aU,[]) (λ_ =>rfl) (by kernel_rfl) (λx=>by kernel_rfl) (λx z h=>by apply Bf;exact h)
def r7(n:Nat)(a0:(List Int)):Option (List Int):=some a0
def p9(n:Nat)(a0:(List Int)):Option (List Int):=gu ((a0.length:Int)==(a0.length:Int))<|gu ((a0.length:Int)==(a0.length:Int))<|some a0
theorem yq(n:Nat)(a0:(List Int)):p9 n a0=r7 n a0:=KV.trans KV
noncomputable def xP(n:Nat):CT:=cV (tW n [] []) (gV 111 [.v (.sl (.int .i64))] [.v (.sl (.int .i64))]) (a1 (r7 n)) u1 m1 (hW:=λx=>Eq.trans (b:=p9 n x.1) (by kernel_rfl) (yq ..))
def qY(n:Nat)(a0:ak)(a1:ai):Option ((List Int)×Int):=bd (dK n a0.dg.T a1.R) λbU=>cn ((bU.2!=0)) (some (([]:List Int),bU.2)) (cn (((((a1.Do !=3)&&(a1.Do !=4))||decide (a1.B<1))||decide (8<a1.B))) (some (([]:List Int),2)) (cn (decide ((wr .i64 (bU.1.E.Kg-(wr .i64 a1.B)))<(wr .i64 a1.A))) (some (([]:List Int),9)) (dH (λk47 (iF:(List Int)) (Am:Int)=>cn (decide (Am<(wr .i64 a1.B))) (bd (oW n bU.1.E (wr .i64 ((wr .i64 a1.A)+Am))) λxL=>gu (gR iF.length 1 8)<|lt (iF++([xL.1]):List Int) λCN=>k47 CN (wr .i64 (Am+1))) (some (iF,0))) n ([]) 0)))
noncomputable def wS(n:Nat):CT:=cV (tW n [(21, .loop [(.slot 8,(.row 3 1 (.int .i64))),(.slot 59,(.v (.int .i64)))])] [dD n,uz n,xP n]) (gV 84 [.s 15, .s 20] [.t [.v (.sl (.int .i64)), .i]]) (a2 (qY n)) u2 m2
end Go.Proofs.Z
