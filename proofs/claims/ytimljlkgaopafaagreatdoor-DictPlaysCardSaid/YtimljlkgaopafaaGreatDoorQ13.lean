/- Part 13 of what a proof leans on; pruned and shortened by a program out of longer texts. -/
import Derived.Test.YtimljlkgaopafaaGreatDoorQ12
namespace Go.Proofs.Z
open Go Go.Bw Go.Rw Go.RowKit
noncomputable section
def oO(n:Nat)(a0:cu)(a1:Int):Option Bool:=bd (oy n a0.K a1 0) λax=>some ax
def zg(n:Nat):CT:=cV (tW n [] [q9 n]) ⟨271,[(94, .v (.st 16)),(28, .v (.int .u32))], .cons (.bS 0) (.cons (.bS 1) .nil), .cons (.v .bool) .nil,[], .nil,[],[]⟩ (λx=>oO n x.1 x.2.1) u1 m1
def oN(n:Nat)(a0:cu)(a1:Int):Option Bool:=bd (nJ n a0.K a1 0) λax=>some ax
def zf(n:Nat):CT:=cV (tW n [] [qt n]) ⟨273,[(94, .v (.st 16)),(28, .v (.int .u32))], .cons (.bS 0) (.cons (.bS 1) .nil), .cons (.v .bool) .nil,[], .nil,[],[]⟩ (λx=>oN n x.1 x.2.1) u1 m1
def rM(n:Nat)(a0:Int)(a1:cu):Option Bool:=bd (n9 n a1.K a0) λax=>some (decide (0<(ax.length:Int)))
def xh(n:Nat):CT:=cV (tW n [] [pq n]) ⟨277,[(94, .v (.st 16))], .cons (.v (.int .u32)) (.cons (.bS 0) .nil), .cons (.v .bool) .nil,[], .nil,[],[]⟩ (λx=>rM n x.2.1 x.1) u1 m1
def fU(n:Nat)(a0:(List Int))(gJ:cu):Option Int:=iv (λNv (bp:Int)=>cn (decide (bp<(a0.length:Int))) (gu (dH bp a0.length)<|bd (rM n (a0.getD (Int.toNat bp) default) gJ) λcJ=>cn (cJ) (some bp) (Nv (wr .i64 (bp+1)))) (some (-1))) n 0
def jQ(n:Nat):CT:=cV (tW n [(5, .loop [(.dS 8,(.v (.int .i64)))])] [xh n]) ⟨150,[(94, .v (.st 16))], .cons (.v (.sl (.int .u32))) (.cons (.fn (.func 277) .nil (.cons (.bS 0) .nil)) .nil), .cons (.v (.int .i64)) .nil,[], .nil,[],[]⟩ (λx=>fU n x.2.1 x.1) u1 m1
def fE(n:Nat)(a0:(List Int))(gJ:cu):Option Bool:=bd (fU n a0 gJ) λax=>some (decide (0<=ax))
def je(n:Nat):CT:=cV (tW n [] [jQ n]) ⟨276,[(94, .v (.st 16))], .cons (.v (.sl (.int .u32))) (.cons (.fn (.func 277) .nil (.cons (.bS 0) .nil)) .nil), .cons (.v .bool) .nil,[], .nil,[],[]⟩ (λx=>fE n x.2.1 x.1) u1 m1
def oM(n:Nat)(a0:cu)(a1:Int):Option Bool:=bd (tf n a0.T a1) λbA=>bd (fE n bA a0) λeB=>some (!eB)
def ze(n:Nat):CT:=cV (tW n [] [tZ n,je n]) ⟨275,[(94, .v (.st 16)),(28, .v (.int .u32))], .cons (.bS 0) (.cons (.bS 1) .nil), .cons (.v .bool) .nil,[], .nil,[],[]⟩ (λx=>oM n x.1 x.2.1) u1 m1
def nv(n:Nat)(a0:cu)(a1:Int)(a2:Int):Option Bool:=cn (a2==0) (cl (true==true) (oO n a0 a1) default λcL=>some (true&&cL)) (cn (a2==1) (cl (true==true) (oN n a0 a1) default λcL=>some (true&&cL)) (cn (a2==2) (cl (true==true) (oM n a0 a1) default λcL=>some (true&&cL)) (some false)))
namespace H
theorem Pb{J:World->Prop}{T0 T1 q0 q1 r:Nat}{vX:List Value}{a0:cu}{a1:Int}{o:Ob sg}(f0:fN.fg J vX a0)(e:dm [(0, .cI T0 (.dat (.st 16) a0)),(1, .cI T1 (.int .u32 a1))] r=some o):
  ∃z∈([.cells q0 T0 vX, .cells q1 T1 ((LI .u32).enc a1)]:List aE),ro (G:=sg) J (bh.set (bh.set (λ_ =>none) 0 (dO q0 0)) 1 (dO q1 0)) r o z:=by
 match r,e with
 |0,e=>cases e;exact⟨_,List.mem_cons_self,q0, .agg vX.toArray,rfl,rfl,Ms (t:= .st 16) f0 rfl⟩
 |1,e=>cases e;exact⟨_,akp _ List.mem_cons_self,q1, .int .u32 a1,rfl,rfl,rfl⟩
 |r+2,e=>cases e
theorem zY{n:Nat}{a0:cu}{a1:Int}{r:Bool}{R:List aE}(hg:Uk sg (Hs R)){q0:Nat}{vX:List Value}(f0:fN.fg (Hs R) vX a0){q1:Nat}(h:oO n a0 a1=some r):Bw.Fn (α:=Unit) Tryz.prog 271 [dO q0 0,dO q1 0] (Ul (bF [.cells q0 94 vX, .cells q1 28 ((LI .u32).enc a1)]) (Hs R)) [.cells q0 94 vX, .cells q1 28 ((LI .u32).enc a1)] (λ_ =>True) (λ_ => .bool r) (λ_ =>[.cells q0 94 vX, .cells q1 28 ((LI .u32).enc a1)]):=
 zL (ct:=zg n) (x:=(a0,a1,())) (y:=(r,())) (ρ:=bh.set (bh.set (λ_ =>none) 0 (dO q0 0)) 1 (dO q1 0)) ⟨r,h,rfl⟩ hg (λ_ _ =>⟨_,_,rfl,⟨⟨q0,0, .inl rfl,rfl⟩,nofun⟩,_,_,rfl,⟨⟨q1,0, .inl rfl,rfl⟩,nofun⟩,rfl⟩) rfl rfl
  (λJ hJ r o e=>Pb (T0:=94) (T1:=28) (cZ.mono _ hJ f0) e) (λr (hr:2<=r)=>match r,hr with|r+2,_ =>rfl) λJ σ u us ⟨_,_,e,h1,_⟩=>by cases e;have h1:[u]=[.bool _]:=h1;cases h1;rfl
theorem zX{n:Nat}{a0:cu}{a1:Int}{r:Bool}{R:List aE}(hg:Uk sg (Hs R)){q0:Nat}{vX:List Value}(f0:fN.fg (Hs R) vX a0){q1:Nat}(h:oN n a0 a1=some r):Bw.Fn (α:=Unit) Tryz.prog 273 [dO q0 0,dO q1 0] (Ul (bF [.cells q0 94 vX, .cells q1 28 ((LI .u32).enc a1)]) (Hs R)) [.cells q0 94 vX, .cells q1 28 ((LI .u32).enc a1)] (λ_ =>True) (λ_ => .bool r) (λ_ =>[.cells q0 94 vX, .cells q1 28 ((LI .u32).enc a1)]):=
 zL (ct:=zf n) (x:=(a0,a1,())) (y:=(r,())) (ρ:=bh.set (bh.set (λ_ =>none) 0 (dO q0 0)) 1 (dO q1 0)) ⟨r,h,rfl⟩ hg (λ_ _ =>⟨_,_,rfl,⟨⟨q0,0, .inl rfl,rfl⟩,nofun⟩,_,_,rfl,⟨⟨q1,0, .inl rfl,rfl⟩,nofun⟩,rfl⟩) rfl rfl
  (λJ hJ r o e=>Pb (T0:=94) (T1:=28) (cZ.mono _ hJ f0) e) (λr (hr:2<=r)=>match r,hr with|r+2,_ =>rfl) λJ σ u us ⟨_,_,e,h1,_⟩=>by cases e;have h1:[u]=[.bool _]:=h1;cases h1;rfl
theorem zW{n:Nat}{a0:cu}{a1:Int}{r:Bool}{R:List aE}(hg:Uk sg (Hs R)){q0:Nat}{vX:List Value}(f0:fN.fg (Hs R) vX a0){q1:Nat}(h:oM n a0 a1=some r):Bw.Fn (α:=Unit) Tryz.prog 275 [dO q0 0,dO q1 0] (Ul (bF [.cells q0 94 vX, .cells q1 28 ((LI .u32).enc a1)]) (Hs R)) [.cells q0 94 vX, .cells q1 28 ((LI .u32).enc a1)] (λ_ =>True) (λ_ => .bool r) (λ_ =>[.cells q0 94 vX, .cells q1 28 ((LI .u32).enc a1)]):=
 zL (ct:=ze n) (x:=(a0,a1,())) (y:=(r,())) (ρ:=bh.set (bh.set (λ_ =>none) 0 (dO q0 0)) 1 (dO q1 0)) ⟨r,h,rfl⟩ hg (λ_ _ =>⟨_,_,rfl,⟨⟨q0,0, .inl rfl,rfl⟩,nofun⟩,_,_,rfl,⟨⟨q1,0, .inl rfl,rfl⟩,nofun⟩,rfl⟩) rfl rfl
  (λJ hJ r o e=>Pb (T0:=94) (T1:=28) (cZ.mono _ hJ f0) e) (λr (hr:2<=r)=>match r,hr with|r+2,_ =>rfl) λJ σ u us ⟨_,_,e,h1,_⟩=>by cases e;have h1:[u]=[.bool _]:=h1;cases h1;rfl
theorem Ca{n a0 a1 a2 r}{R:List aE}(hg:Uk sg (Hs R)){vX}(f0:(fN).fg (Hs R) vX a0)(h:nv n a0 a1 a2=some r):FnW Tryz.prog 174 [A vX, .int .u32 a1, .int .u8 a2] (Hs R) (.bool r):=by
 unfold nv at h;refine fo Tryz.func174 (by kernel_rfl) rfl Tryz.ntmps174 rfl λcx _ hro oo hpre=>?_;refine SC 2 rf ?_;refine W1 rf (Sc rfl) λb3=>?_;refine W1 rf (ou (LI .u32) a1 rfl rfl) λb4=>?_;refine SL 5 rf ?_;refine A4 rfl (Je .u8 (λv:Value=>v)) (λb10 _ =>?_);refine bQ rfl (rO rfl) ?_;refine F1 (Fb (E:=λv:Value=>v) (.func (.func 271) #[] #[dO b3 0,dO b4 0]) rfl rfl rfl rfl) (λ_ _ =>?_);refine bQ rfl (rO rfl) ?_;refine F1 (Fb (E:=λv:Value=>v) (.func (.func 273) #[] #[dO b3 0,dO b4 0]) rfl rfl rfl rfl) (λ_ _ =>?_);refine bQ rfl (rO rfl) ?_;refine F1 (Fb (E:=λv:Value=>v) (.func (.func 275) #[] #[dO b3 0,dO b4 0]) rfl rfl rfl rfl) (λ_ _ =>?_);refine SL 5 rf ?_;rcases Decidable.em (a2=0)with BY|BY
 ·replace h:=P8 (by simpa using BY) h;refine SC 3 rf ?_;refine bQ rfl (xN .nilFunc (.func (.func 271) #[] #[dO b3 0,dO b4 0]) true rfl rfl (by rw[BY];rfl) (by rw[BY];rfl)) ?_;obtain⟨cL,Pt,_,h⟩:=aaN h;refine SL 11 rf ?_;refine GB rf rf rf (λhb=>cz rfl) ?_;refine E8 (YI rfl rfl) rfl (λhb=>zY (R:=R) hg (mo f0) (Pt hb)) (λhb=>(Mi rfl hb)) (λhb=>rfl) rfl (nc:=[.cells b3 94 vX, .cells b4 28 ((LI .u32).enc a1)]) (rst:=[Mp b10 .u8 (λv:Value=>v) (uC (uC (uC ([]:List (Int×Value)) 0 (.func (.func 271) #[] #[dO b3 0,dO b4 0])) 1 (.func (.func 273) #[] #[dO b3 0,dO b4 0])) 2 (.func (.func 275) #[] #[dO b3 0,dO b4 0]))]) (ks:=[2,1,0]) rfl (by decide) (λhb=>inferInstance) ?_;dsimp only[List.cons_append,List.nil_append];refine bQ rfl (Jd rfl rfl) ?_;refine SL 4 rf ?_;have h:=sj h;subst h;exact RV rf (rt rf rn) rf
 replace h:=P9 (by simpa using BY) h;rcases Decidable.em (a2=1)with BX|BX
 ·replace h:=P8 (by simpa using BX) h;refine SC 3 rf ?_;refine bQ rfl (xN .nilFunc (.func (.func 273) #[] #[dO b3 0,dO b4 0]) true rfl rfl (by rw[BX];rfl) (by rw[BX];rfl)) ?_;obtain⟨cL,Pt,_,h⟩:=aaN h;refine SL 11 rf ?_;refine GB rf rf rf (λhb=>cz rfl) ?_;refine E8 (YI rfl rfl) rfl (λhb=>zX (R:=R) hg (mo f0) (Pt hb)) (λhb=>(Mi rfl hb)) (λhb=>rfl) rfl (nc:=[.cells b3 94 vX, .cells b4 28 ((LI .u32).enc a1)]) (rst:=[Mp b10 .u8 (λv:Value=>v) (uC (uC (uC ([]:List (Int×Value)) 0 (.func (.func 271) #[] #[dO b3 0,dO b4 0])) 1 (.func (.func 273) #[] #[dO b3 0,dO b4 0])) 2 (.func (.func 275) #[] #[dO b3 0,dO b4 0]))]) (ks:=[2,1,0]) rfl (by decide) (λhb=>inferInstance) ?_;dsimp only[List.cons_append,List.nil_append];refine bQ rfl (Jd rfl rfl) ?_;refine SL 4 rf ?_;have h:=sj h;subst h;exact RV rf (rt rf rn) rf
 replace h:=P9 (by simpa using BX) h;rcases Decidable.em (a2=2)with BW|BW
 ·replace h:=P8 (by simpa using BW) h;refine SC 3 rf ?_;refine bQ rfl (xN .nilFunc (.func (.func 275) #[] #[dO b3 0,dO b4 0]) true rfl rfl (by rw[BW];rfl) (by rw[BW];rfl)) ?_;obtain⟨cL,Pt,_,h⟩:=aaN h;refine SL 11 rf ?_;refine GB rf rf rf (λhb=>cz rfl) ?_;refine E8 (YI rfl rfl) rfl (λhb=>zW (R:=R) hg (mo f0) (Pt hb)) (λhb=>(Mi rfl hb)) (λhb=>rfl) rfl (nc:=[.cells b3 94 vX, .cells b4 28 ((LI .u32).enc a1)]) (rst:=[Mp b10 .u8 (λv:Value=>v) (uC (uC (uC ([]:List (Int×Value)) 0 (.func (.func 271) #[] #[dO b3 0,dO b4 0])) 1 (.func (.func 273) #[] #[dO b3 0,dO b4 0])) 2 (.func (.func 275) #[] #[dO b3 0,dO b4 0]))]) (ks:=[2,1,0]) rfl (by decide) (λhb=>inferInstance) ?_;dsimp only[List.cons_append,List.nil_append];refine bQ rfl (Jd rfl rfl) ?_;refine SL 4 rf ?_;have h:=sj h;subst h;exact RV rf (rt rf rn) rf
 replace h:=P9 (by simpa using BW) h;refine SC 3 rf ?_;refine bQ rfl (xN .nilFunc .nilFunc false rfl rfl (QV (z:= .nilFunc) BY BX BW).1 (QV (z:= .nilFunc) BY BX BW).2) ?_;refine SL 11 rf ?_;refine GB rf rf rf (λhb=>cz rfl) ?_;refine ahU (v:= .bool false) (YI rfl rfl) (by rfl) rfl ?_;refine bQ rfl (Jd rfl rfl) ?_;refine SL 4 rf ?_;have h:=sj h;subst h;exact RV rf (rt rf rn) rf
end H
def BN(n:Nat):Ct Tryz.prog sg:=ctV (G:=sg) ⟨174,[], .cons (.v (.st 16)) (.cons (.v (.int .u32)) (.cons (.v (.int .u8)) .nil)), .cons (.v .bool) .nil,[], .nil,[],[]⟩ (λx=>nv n x.1 x.2.1 x.2.2.1) (λz=>(z,())) (false) (by kernel_rfl) (Xi (λ_ =>rfl) (λ_ =>rfl) rfl λρ R x z vs hg hz hv=>by
 obtain⟨cs,r1,e_1,h0,v1⟩:=Lz hv rfl;obtain⟨r2,e_2,v2⟩:=O4 v1;obtain⟨r3,e_3,v3⟩:=O4 v2;have e_0:r3=[]:=v3;subst e_0 e_3 e_2 e_1;exact⟨_,ad2 (H.Ca hg h0 hz),λJ v e=>by
  subst e;exact⟨_,_,rfl,rfl,rfl⟩⟩)
def vB(n:Nat)(a0:Int)(a1:cu)(a2:Int)(a3:Int)(a4:Int):Option Bool:=bd (dD n a1.K a0) λax=>cl ((((wr .i64 ax.1.To)==a2)==true)&&((a3==0)==true)) (oy n a1.K a4 a0) default λbp=>cl (((((wr .i64 ax.1.To)==a2)==true)&&(((a3==0)&&bp)==false))&&(((a3==1)&&ax.1.nA)==true)) (nJ n a1.K a4 a0) default λbA=>some (((wr .i64 ax.1.To)==a2)&&(((a3==0)&&bp)||(((a3==1)&&ax.1.nA)&&bA)))
def AR(n:Nat):CT:=cV (tW n [] [eK n,q9 n,qt n]) ⟨290,[(94, .v (.st 16)),(3, .v (.int .i64)),(5, .v (.int .u8)),(28, .v (.int .u32))], .cons (.v (.int .u32)) (.cons (.bS 0) (.cons (.bS 1) (.cons (.bS 2) (.cons (.bS 3) .nil)))), .cons (.v .bool) .nil,[], .nil,[],[]⟩ (λx=>vB n x.2.2.2.2.1 x.1 x.2.1 x.2.2.1 x.2.2.2.1) u1 m1
def gB(n:Nat)(a0:(List Int))(gJ:cu)(oP:Int)(I6:Int)(Mw:Int):Option Int:=iv (λNv (bp:Int)=>cn (decide (bp<(a0.length:Int))) (gu (dH bp a0.length)<|bd (vB n (a0.getD (Int.toNat bp) default) gJ oP I6 Mw) λcJ=>cn (cJ) (some bp) (Nv (wr .i64 (bp+1)))) (some (-1))) n 0
def kI(n:Nat):CT:=cV (tW n [(5, .loop [(.dS 8,(.v (.int .i64)))])] [AR n]) ⟨150,[(94, .v (.st 16)),(3, .v (.int .i64)),(5, .v (.int .u8)),(28, .v (.int .u32))], .cons (.v (.sl (.int .u32))) (.cons (.fn (.func 290) .nil (.cons (.bS 0) (.cons (.bS 1) (.cons (.bS 2) (.cons (.bS 3) .nil))))) .nil), .cons (.v (.int .i64)) .nil,[], .nil,[],[]⟩ (λx=>gB n x.2.2.2.2.1 x.1 x.2.1 x.2.2.1 x.2.2.2.1) u1 m1
def fV(n:Nat)(a0:(List Int))(gJ:cu)(oP:Int)(I6:Int)(Mw:Int):Option Bool:=bd (gB n a0 gJ oP I6 Mw) λax=>some (decide (0<=ax))
def jR(n:Nat):CT:=cV (tW n [] [kI n]) ⟨276,[(94, .v (.st 16)),(3, .v (.int .i64)),(5, .v (.int .u8)),(28, .v (.int .u32))], .cons (.v (.sl (.int .u32))) (.cons (.fn (.func 290) .nil (.cons (.bS 0) (.cons (.bS 1) (.cons (.bS 2) (.cons (.bS 3) .nil))))) .nil), .cons (.v .bool) .nil,[], .nil,[],[]⟩ (λx=>fV n x.2.2.2.2.1 x.1 x.2.1 x.2.2.1 x.2.2.2.1) u1 m1
def yt(n:Nat)(a0:cu)(a1:Int)(a2:Int)(a3:Int):Option Bool:=bd (n9 n a0.K a2) λax=>bd (fV n ax a0 a1 a3 a2) λdP=>some dP
def CX(n:Nat):CT:=cV (tW n [] [pq n,jR n]) (kU 270 [.s 16, .i, .w, .v (.int .u8)] [.b]) (a4 (yt n)) u1 m1
def qd(n:Nat)(a0:cu)(a1:Int)(a2:Int)(a3:Int):Option Int:=bd (aJ n a0.T.fT.lI a2) λax=>cn ((!ax)) (some 4) (bd (kB n a0.O a0.T a2) λcM=>cn ((cM.yM==3)) (gu (!((((a3==0)&&decide (0<=a1))&&decide (a1<8))==true)||decide (0<=a1))<|cn ((!((((a3==0)&&decide (0<=a1))&&decide (a1<8))&&((tj .u8 (vM .u8 cM.jJ a1) 1)==1)))) (some 5) (some 0)) (cn ((cM.yM==1)) (cl (((wr .i64 cM.kA)==a1)==true) (nv n a0 a2 a3) default λdZ=>cl ((((wr .i64 cM.kA)==a1)&&dZ)==false) (yt n a0 a1 a2 a3) default λcJ=>cn ((!((((wr .i64 cM.kA)==a1)&&dZ)||cJ))) (some 5) (some 0)) (some 5)))
def Er(n:Nat):CT:=cV (tW n [] [aS n,jL n,BN n,CX n]) (kU 240 [.s 16, .i, .w, .v (.int .u8)] [.i]) (a4 (qd n)) u1 m1
def zU(n:Nat)(a0:ay)(a1:Int)(a2:Int):Option (Except Int aP):=bd (eU n a0 a1) λax=>tc (ax.2==0) (.error ax.2)<|tc (decide (0<=a2)&&decide (a2<8)) (.error 2)<|some (.ok ax.1)
def Bo(n:Nat):CT:=cT (tW n [] [bz n,bn n,fY n]) 266 [.s 10, .w, .i] [.s 6] 43 (a3 (zU n)) u1 m1
def N3(n:Nat)(a0:ay)(a1:Int)(a2:Int)(a3:Int)(a4:Bool):Option (ay×Int):=bd (aJ n a0.fT.lI a1) λax=>cl ((ax==true)&&((a3==0)==false)) (aJ n a0.fT.lI a3) default λbp=>tc (ax&&((a3==0)||bp)) (eE,4)<|tr (zU n a0 a1 a2) (λaea=>(eE,aea)) λcU=>cl (((a3==0)||a4)==false) (oq n a0 a3 a1) default λdW=>tc (((a3==0)||a4)||dW) (eE,5)<|gu (dH a2 8)<|lt ({cU with rV:=(iW cU.rV (Int.toNat a2) a3)}:aP) λgN=>bd (jj n a0 a1 gN) λo5=>some (o5.1,o5.2)
def OH(n:Nat):CT:=cV (tW n [] [bz n,bn n,aS n,Bo n,pC n,pz n]) (kU 264 [.s 10, .w, .i, .w, .b] [.t [.s 10, .i]]) (λx=>N3 n x.1 x.2.1 x.2.2.1 x.2.2.2.1 x.2.2.2.2.1) u2 m2
def N4(n:Nat)(a0:ay)(a1:Int)(a2:Int)(a3:Int)(a4:Bool):Option (ay×Int):=bd (N3 n a0 a1 a2 a3 a4) λax=>cn ((ax.2!=0)) (some (a0,ax.2)) (some (ax.1,0))
def OI(n:Nat):CT:=cV (tW n [] [OH n]) (kU 231 [.s 10, .w, .i, .w, .b] [.t [.s 10, .i]]) (λx=>N4 n x.1 x.2.1 x.2.2.1 x.2.2.2.1 x.2.2.2.2.1) u2 m2
def IV(n:Nat)(a0:ay)(a1:Int)(a2:Int):Option (Int×Int):=tr (zU n a0 a1 a2) (λoJ=>(0,oJ)) λax=>gu (dH a2 8)<|tc ((ax.rV (Int.toNat a2))!=0) (0,10)<|bd (aJ n a0.fT.lI (ax.rV (Int.toNat a2))) λeB=>tc eB (0,4)<|some ((ax.rV (Int.toNat a2)),0)
def Ln(n:Nat):CT:=cV (tW n [] [bz n,bn n,Bo n,aS n]) (kU 232 [.s 10, .w, .i] [.t [.w, .i]]) (a3 (IV n)) u2 m2
def rG(n:Nat):Option ae:=lt ({dx with m9:=(iW dx.m9 0 true)}:ae) λax=>lt ({ax with GQ:=(iW ax.GQ 0 true)}:ae) λcM=>some cM
def Bn(n:Nat):CT:=cV (tW n [] []) (kU 69 [] [.s 19]) (λ_=>rG n) u1 m1
def jz(n:Nat)(a0:aq)(a1:Int):Option aq:=bd (tf n a0.aH.dR.T a1) λbA=>fe (λk51 (o5:Int) (rW:aq)=>cn (decide (o5<(bA.length:Int))) (gu (dH o5 bA.length)<|bd (eU n rW.aH.dR.T (bA.getD (Int.toNat o5) default)) λuW=>gu (ig rW.gk.length uW.1.E.aN.length 16)<|lt (rW.gk++uW.1.E.aN:List av) λYJ=>bd (ug n (({rW with gk:=YJ}).aH.dR.K) (bA.getD (Int.toNat o5) default)) λx73=>k51 (wr .i64 (o5+1)) ({({rW with gk:=YJ})with aH:={({rW with gk:=YJ}).aH with dR:={(({rW with gk:=YJ}).aH).dR with K:=x73}}})) (bd (FM n rW.aH.dR.T a1) λx79=>some ({rW with aH:={rW.aH with dR:={rW.aH.dR with T:=x79.1}}}))) n 0 a0
def nF(n:Nat):CT:=cV (tX n [(3, .loop [(.dS 17,(.v (.int .i64))),(.via 0,dN)])] [tZ n,fY n,yZ n,JM n] [(1,vw0)] []) ⟨215,[], .cons dN (.cons (.v (.int .u32)) .nil), .cons (.jc .nil) (.cons dN .nil),[some 0,none], .nil,[],[[0]]⟩ (λx=>jz n (g7 x) x.2.2.2.2.2.2.2.1) (λy=>g7 y) (λz=>(h7 z ()))
def dX(n:Nat)(a0:Int):Option (Except Int Unit):=tc (a0==0) (.error a0)<|some (.ok ())
def dJ(n:Nat):CT:=cT (tW n [] [bz n,bn n]) 204 [.i] [.jc .nil] 43 (a1 (dX n)) (λ_ =>()) (λ_ =>())
def oE(n:Nat)(a0:aq)(a1:Int)(a2:Int):Option (Except Int aq):=bd (Bt n a0.aH.dR.O a0.aH.dR.T a1 a2) λbA=>tr (dX n bA.2.2) (λMq=>(.error Mq)) λ_=>cn ((bA.2.1==0)) (bd (jz n ({a0 with aH:={a0.aH with dR:={a0.aH.dR with O:=bA.1}}}) a1) λdP=>some (.ok dP)) (some (.ok ({a0 with aH:={a0.aH with dR:={a0.aH.dR with O:=bA.1}}})))
def ru(n:Nat):CT:=cX (tW n [] [bz n,bn n,F9 n,dJ n,nF n]) ⟨223,[], .cons dN (.cons (.v (.int .u32)) (.cons (.v (.int .i64)) .nil)), .cons (.jc .nil) (.cons dN .nil),[some 0,none],(.cons (.iQ 43 (.v (.int .i64))) .nil),[],[[0]]⟩ (λx=>oE n (g7 x) x.2.2.2.2.2.2.2.1 x.2.2.2.2.2.2.2.2.1) (λy=>g7 y) (λz=>(h7 z ())) u1 m1
def jy(n:Nat)(a0:aq)(a1:Int)(a2:Int):Option (Except Int aq):=bd (Bs n a0.aH.dR.O a0.aH.dR.T a1 a2) λbA=>tr (dX n bA.2) (λMq=>(.error Mq)) λ_=>some (.ok ({a0 with aH:={a0.aH with dR:={a0.aH.dR with O:=bA.1}}}))
def jU(n:Nat):CT:=cX (tW n [] [bz n,bn n,F8 n,dJ n]) ⟨205,[], .cons dN (.cons (.v (.int .u32)) (.cons (.v (.int .i64)) .nil)), .cons (.jc .nil) (.cons dN .nil),[some 0,none],(.cons (.iQ 43 (.v (.int .i64))) .nil),[],[[0]]⟩ (λx=>jy n (g7 x) x.2.2.2.2.2.2.2.1 x.2.2.2.2.2.2.2.2.1) (λy=>g7 y) (λz=>(h7 z ())) u1 m1
def Bv(n:Nat)(a0:cE):Option cE:=some a0
def Ga(n:Nat):CT:=cV (tW n [] []) ⟨288,[], .cons (.v (.st 18)) .nil, .cons (.fn (.func 294) .nil (.cons (.box 99 (.v (.st 18))) .nil)) .nil,[none], .nil,[],[]⟩ (a1 (Bv n)) u1 m1
def wv(n:Nat)(a0:(List aT)):Option (List aT):=some a0
def uc(n:Nat)(a0:(List aT)):Option (List aT):=gu ((a0.length:Int)==(a0.length:Int))<|gu ((a0.length:Int)==(a0.length:Int))<|some a0
theorem B5(n:Nat)(a0:(List aT)):uc n a0=wv n a0:=Re.trans Re
def BG(n:Nat):CT:=cV (tW n [] []) (kU 289 [.v (.sl (.st 17))] [.v (.sl (.st 17))]) (a1 (wv n)) u1 m1 (hW:=λx=>Eq.trans (b:=uc n x.1) (by kernel_rfl) (B5 ..))
def vr(n:Nat)(a0:cE)(a1:Int):Option Int:=some (Int.tmod (wr .i64 (a0.yo+a1)) 4)
def vK(n:Nat):CT:=cV (tW n [] []) (kU 263 [.s 18, .i] [.i]) (a2 (vr n)) u1 m1
def yh(n:Nat)(a1:cE):Option (List aT):=iv (λk35 (cJ:Int)=>cn (decide (cJ<a1.n)) (bd (vr n a1 cJ) λnC=>gu (dH nC 4)<|yl (a1.ring (Int.toNat nC))<|k35 (wr .i64 (cJ+1))) (some [])) n 0
def Ds(n:Nat):It Tryz.prog sg:=mkI (tX n [(3, .loop [(.dS 6,(.v (.int .i64)))])] [vK n] [] []) 3000 294 (.cons (.box 99 (.v (.st 18))) .nil) (.cons (.v (.st 17)) .nil) (.st (G:=sg) (i:=17) (λ(x:aT)=>cZ.enc fK x) (λJ cs x=>bq.iff (L:=fK)) .nil) (B:=aT) (λy=>(y,())) (λx=>(x.1)) (λx=>yh n x.1) (λ_ =>rfl) (by kernel_rfl) (λx=>by kernel_rfl)
def Dp(n:Nat)(a0:cE):Option (List aT):=bd (Bv n a0) λax=>bd (yh n ax) λbA=>yD (λ(mg:aT) k31 (dP:(List aT))=>lt (mg:aT) λdW=>gu (ig dP.length 1 24)<|lt (dP++([dW]):List aT) λnQ=>k31 nQ) (λ(dP:(List aT))=>some dP) bA ([]:List aT)
def HC(n:Nat):CT:=cV (tX n [(7, .loop [(.via 3, .box 315 (.row 96 4 (.st 17)))])] [Ga n,BG n] [] [Ds n]) (kU 268 [.s 18] [.v (.sl (.st 17))]) (a1 (Dp n)) u1 m1
def zA(n:Nat)(a0:cE):Option (cE×(List aT)):=lt ({ring:=(λ_ =>iT),yo:=0,n:=0,closed:=true}:cE) λax=>bd (Dp n a0) λbp=>some (ax,bp)
def Eg(n:Nat):CT:=cV (tW n [] [HC n]) (kU 233 [.s 18] [.t [.s 18, .v (.sl (.st 17))]]) (a1 (zA n)) u2 m2
def pV(n:Nat)(a0:aq)(a1:Int):Option (Except Int aq):=gu (dH a1 8)<|bd (zA n (a0.aH.lH (Int.toNat a1))) λbp=>gu (dH a1 8)<|gu (dH a1 8)<|fe (λk58 (Ke:Int) (Cp:aq)=>cn (decide (Ke<(bp.2.length:Int))) (gu (dH Ke bp.2.length)<|lt ((bp.2.getD (Int.toNat Ke) default):aT) λwX=>cn (((wX.Region==0)||wX.Ae)) (k58 (wr .i64 (Ke+1)) Cp) (gu (dH wX.Jt 8)<|cn ((Cp.aH.m9 (Int.toNat wX.Jt))) (tr (jy n Cp wX.Region (wr .i64 wX.Jt)) (λajA=>(.error ajA)) λSk=>k58 (wr .i64 (Ke+1)) Sk) (bd (jz n Cp wX.Region) λx73=>k58 (wr .i64 (Ke+1)) x73))) (bd (yb n Cp.aH.dR.K a1) λx84=>fe (λaiZ (Y6:Int) (OE:aq)=>cn (decide (Y6<(x84.length:Int))) (gu (dH Y6 x84.length)<|bd (iq n OE.aH.dR.K (x84.getD (Int.toNat Y6) default)) λaiB=>aiZ (wr .i64 (Y6+1)) ({OE with aH:={OE.aH with dR:={OE.aH.dR with K:=aiB.1}}})) (bd (zx n OE.aH.dR.O OE.aH.dR.T a1) λaci=>fe (λaiY (Y5:Int) (Y4:aq)=>cn (decide (Y5<(aci.length:Int))) (gu (dH Y5 aci.length)<|bd (jz n Y4 (aci.getD (Int.toNat Y5) default)) λaiA=>aiY (wr .i64 (Y5+1)) aiA) (bd (Br n Y4.aH.dR.O Y4.aH.dR.T a1) λach=>fe (λaiX (YZ:Int) (afN:aq)=>cn (decide (YZ<(ach.length:Int))) (gu (dH YZ ach.length)<|tr (oE n afN (ach.getD (Int.toNat YZ) default) a1) (λahA=>(.error ahA)) λaiz=>aiX (wr .i64 (YZ+1)) aiz) (some (.ok afN))) n 0 Y4)) n 0 OE)) n 0 Cp)) n 0 ({({a0 with aH:={a0.aH with lH:=(iW a0.aH.lH (Int.toNat a1) bp.1)}})with aH:={({a0 with aH:={a0.aH with lH:=(iW a0.aH.lH (Int.toNat a1) bp.1)}}).aH with m9:=(iW ((({a0 with aH:={a0.aH with lH:=(iW a0.aH.lH (Int.toNat a1) bp.1)}}).aH).m9) (Int.toNat a1) false)}})
def sN(n:Nat):CT:=cX (tX n [(9, .loop [(.dS 40,(.v (.int .i64))),(.via 0,dN)]),(25, .loop [(.dS 82,(.v (.int .i64))),(.via 0,dN)]),(35, .loop [(.dS 119,(.v (.int .i64))),(.via 0,dN)]),(45, .loop [(.dS 142,(.v (.int .i64))),(.via 0,dN)])] [bz n,bn n,Eg n,jU n,nF n,Cz n,qu n,Ee n,F7 n,ru n] [(4,vw0),(12,vw0),(17,vw0),(22,vw0)] []) ⟨179,[], .cons dN (.cons (.v (.int .i64)) .nil), .cons (.jc .nil) (.cons dN .nil),[some 0,none],(.cons (.iQ 43 (.v (.int .i64))) .nil),[],[[0]]⟩ (λx=>pV n (g7 x) x.2.2.2.2.2.2.2.1) (λy=>g7 y) (λz=>(h7 z ())) u1 m1
def bM(n:Nat)(a0:aq)(a1:Int)(a2:Int):Option (Except Int Unit):=bd (qd n a0.aH.dR a0.fZ a1 a2) λbA=>tr (dX n bA) (λMq=>(.error Mq)) λ_=>some (.ok ())
def cO(n:Nat):CT:=cX (tW n [] [bz n,bn n,Er n,dJ n]) ⟨202,[(222, .st (.part 952 (.v (.st 19)) (.part 1 (.v (.int .i64)) (.part 6 (.v (.st 23)) (.part 2 (.v (.st 4)) (.part 1 (.v (.int .i64)) (.part 1 (.v .bool) (.part 1 (.row 169 2 (.st 4)) .nil))))))))], .cons (.bS 0) (.cons (.v (.int .u32)) (.cons (.v (.int .u8)) .nil)), .cons (.jc .nil) .nil,[],(.cons (.iQ 43 (.v (.int .i64))) .nil),[],[]⟩ (λx=>bM n (g7 x) x.2.2.2.2.2.2.2.1 x.2.2.2.2.2.2.2.2.1) (λ_ =>()) (λ_ =>()) u1 m1
def iI(n:Nat)(a0:aq):Option (Except Int (ah×aq)):=lt (λ(u21:Unit)=>bd (uG n a0.aH.dR.T a0.c.R (wr .i64 (if 65<a0.c.A then 65 else a0.c.A))) λdZ=>tr (dX n dZ.2.2) (λajH=>(.error ajH)) λ_=>cn (((({a0 with aH:={a0.aH with dR:={a0.aH.dR with T:=dZ.1}}}).c.R)==0)) (tr (jy n ({a0 with aH:={a0.aH with dR:={a0.aH.dR with T:=dZ.1}}}) dZ.2.1 (({a0 with aH:={a0.aH with dR:={a0.aH.dR with T:=dZ.1}}}).fZ)) (λad6=>(.error ad6)) λgN=>lt ({E:=0,V:=0,W:=dZ.2.1}:ah) λCp=>some (.ok (Cp,gN))) (lt ({E:=0,V:=0,W:=dZ.2.1}:ah) λMU=>some (.ok (MU,{a0 with aH:={a0.aH with dR:={a0.aH.dR with T:=dZ.1}}})))) λYO=>cn ((a0.c.R !=0)) (tr (bM n a0 a0.c.R 1) (λIM=>(.error IM)) λ_=>YO ()) (YO ())
def tR(n:Nat):CT:=cX (tW n [(6, .join [(.via 0,dN)] [])] [bz n,bn n,cO n,Ll n,dJ n,jU n]) ⟨181,[], .cons dN .nil, .cons (.v (.st 22)) (.cons dN .nil),[some 0,none],(.cons (.iQ 43 (.v (.int .i64))) .nil),[],[[0]]⟩ (λx=>iI n (g7 x)) (λy=>(y.1,g7 y.2)) (λz=>(z.1,(h7 z.2 ()))) u1 m1
def fk(n:Nat)(a0:aq)(a1:Int):Option (Except Int aP):=bd (eU n a0.aH.dR.T a1) λbA=>tr (dX n bA.2) (λPO=>(.error PO)) λ_=>some (.ok bA.1)
def iU(n:Nat):CT:=cX (tW n [] [bz n,bn n,fY n,dJ n]) ⟨207,[(222, .st (.part 952 (.v (.st 19)) (.part 1 (.v (.int .i64)) (.part 6 (.v (.st 23)) (.part 2 (.v (.st 4)) (.part 1 (.v (.int .i64)) (.part 1 (.v .bool) (.part 1 (.row 169 2 (.st 4)) .nil))))))))], .cons (.bS 0) (.cons (.v (.int .u32)) .nil), .cons (.v (.st 6)) .nil,[],(.cons (.iQ 43 (.v (.int .i64))) .nil),[],[]⟩ (λx=>fk n (g7 x) x.2.2.2.2.2.2.2.1) u1 m1 u1 m1
def gH(n:Nat)(a0:aq)(a1:Int)(a2:aP):Option (Except Int aq):=bd (jj n a0.aH.dR.T a1 a2) λbA=>tr (dX n bA.2) (λPO=>(.error PO)) λ_=>some (.ok ({a0 with aH:={a0.aH with dR:={a0.aH.dR with T:=bA.1}}}))
def tP(n:Nat):CT:=cX (tW n [] [bz n,bn n,pz n,dJ n]) ⟨212,[], .cons dN (.cons (.v (.int .u32)) (.cons (.v (.st 6)) .nil)), .cons (.jc .nil) (.cons dN .nil),[some 0,none],(.cons (.iQ 43 (.v (.int .i64))) .nil),[],[[0]]⟩ (λx=>gH n (g7 x) x.2.2.2.2.2.2.2.1 x.2.2.2.2.2.2.2.2.1) (λy=>g7 y) (λz=>(h7 z ())) u1 m1
def dL(n:Nat)(a0:aq):Option (Except Int (ah×aq)):=bd (p6 n (wr .i64 (if 129<a0.c.A then 129 else a0.c.A)) (wr .i64 (if 9<a0.c.B then 9 else a0.c.B))) λax=>tc ax.2 (.error 2)<|tr (bM n a0 a0.c.R 1) (λIM=>(.error IM)) λ_=>tr (fk n a0 a0.c.R) (λMq=>(.error Mq)) λcM=>lt (λ(nC:aP) (gN:aq)=>bd (ia n nC.E (wr .i64 (if 129<a0.c.A then 129 else a0.c.A)) (wr .i64 (if 9<a0.c.B then 9 else a0.c.B))) λKc=>lt ({nC with E:=Kc.1}:aP) λx85=>tr (gH n gN gN.c.R x85) (λXr=>(.error Xr)) λx88=>lt ({E:=0,V:=wr .u64 Kc.2.1,W:=0}:ah) λx99=>some (.ok (x99,x88))) λj45=>bd (gI n cM.E (wr .i64 (if 129<a0.c.A then 129 else a0.c.A)) (wr .i64 (if 9<a0.c.B then 9 else a0.c.B))) λKg=>cn ((!Kg.2)) (bd (dw n cM.E) λx51=>tc (decide ((wr .i64 (x51+ax.1))<=cM.gq)) (.error 6)<|cn (({a0 with lD:=ax.1}).z6) (lt ({E:=0,V:=0,W:=0}:ah) λHt=>some (.ok (Ht,{a0 with lD:=ax.1}))) (bd (fO n cM.E (({a0 with lD:=ax.1}).run)) λwX=>lt ({cM with E:=wX}:aP) λYJ=>cl (((({a0 with lD:=ax.1}).run.N)==ax.1)==true) (gj n YJ.E) default λx72=>tc (((({a0 with lD:=ax.1}).run.N)==ax.1)&&x72) (.error 2)<|j45 YJ ({a0 with lD:=ax.1}))) (j45 cM a0)
def rA(n:Nat):CT:=cX (tW n [(28, .join [(.via 7, .box 69 (.v (.st 6))),(.via 0,dN),(.via 2, .box 120 (.v (.st 22)))] [])] [bz n,bn n,HF n,cO n,iU n,rB n,iV n,y8 n,sQ n,AP n,tP n]) ⟨182,[], .cons dN .nil, .cons (.v (.st 22)) (.cons dN .nil),[some 0,none],(.cons (.iQ 43 (.v (.int .i64))) .nil),[],[[0]]⟩ (λx=>dL n (g7 x)) (λy=>(y.1,g7 y.2)) (λz=>(z.1,(h7 z.2 ()))) u1 m1
def rF(n:Nat)(a0:aP)(a1:aD):Option (Except Int Unit):=tc (decide ((wr .i64 a1.A)<=(wr .i64 (a0.E.er-(wr .i64 a1.B))))) (.error 9)<|some (.ok ())
def Bm(n:Nat):CT:=cT (tW n [] [bz n,bn n]) 214 [.s 6, .s 23] [.jc .nil] 43 (a2 (rF n)) (λ_ =>()) (λ_ =>())
def rE(n:Nat)(a0:aD):Option (Except Int Unit):=tc (decide (1<=a0.B)&&decide (a0.B<=8)) (.error 2)<|some (.ok ())
def Bl(n:Nat):CT:=cT (tW n [] [bz n,bn n]) 213 [.s 23] [.jc .nil] 43 (a1 (rE n)) (λ_ =>()) (λ_ =>())
def gZ(n:Nat)(a0:aq):Option (Except Int ah):=tr (rE n a0.c) (λoJ=>(.error oJ)) λ_=>tr (bM n a0 a0.c.R 0) (λzQ=>(.error zQ)) λ_=>tr (fk n a0 a0.c.R) (λIM=>(.error IM)) λbA=>tr (rF n bA a0.c) (λad8=>(.error ad8)) λ_=>lt ({E:=0,V:=0,W:=0}:ah) λgV=>some (.ok gV)
def sI(n:Nat):CT:=cX (tW n [] [bz n,bn n,Bl n,cO n,iU n,Bm n]) ⟨183,[(222, .st (.part 952 (.v (.st 19)) (.part 1 (.v (.int .i64)) (.part 6 (.v (.st 23)) (.part 2 (.v (.st 4)) (.part 1 (.v (.int .i64)) (.part 1 (.v .bool) (.part 1 (.row 169 2 (.st 4)) .nil))))))))], .cons (.bS 0) .nil, .cons (.v (.st 22)) .nil,[],(.cons (.iQ 43 (.v (.int .i64))) .nil),[],[]⟩ (λx=>gZ n (g7 x)) u1 m1 u1 m1
def gG(n:Nat)(a0:aq):Option (Except Int ah):=tr (rE n a0.c) (λoJ=>(.error oJ)) λ_=>tr (bM n a0 a0.c.R 1) (λzQ=>(.error zQ)) λ_=>tr (fk n a0 a0.c.R) (λIM=>(.error IM)) λbA=>tr (rF n bA a0.c) (λad8=>(.error ad8)) λ_=>lt ({E:=0,V:=0,W:=0}:ah) λgV=>some (.ok gV)
def rh(n:Nat):CT:=cX (tW n [] [bz n,bn n,Bl n,cO n,iU n,Bm n]) ⟨184,[(222, .st (.part 952 (.v (.st 19)) (.part 1 (.v (.int .i64)) (.part 6 (.v (.st 23)) (.part 2 (.v (.st 4)) (.part 1 (.v (.int .i64)) (.part 1 (.v .bool) (.part 1 (.row 169 2 (.st 4)) .nil))))))))], .cons (.bS 0) .nil, .cons (.v (.st 22)) .nil,[],(.cons (.iQ 43 (.v (.int .i64))) .nil),[],[]⟩ (λx=>gG n (g7 x)) u1 m1 u1 m1
def oC(n:Nat)(a0:aq):Option (Except Int (ah×aq)):=tr (bM n a0 a0.c.R 1) (λoJ=>(.error oJ)) λ_=>tr (fk n a0 a0.c.R) (λzQ=>(.error zQ)) λbp=>gu (ig a0.gk.length bp.E.aN.length 16)<|lt (a0.gk++bp.E.aN:List av) λdW=>lt ({Up:=0,gq:=bp.gq,E:=cQ,rV:=(λ_ =>0)}:aP) λiw=>tr (gH n ({a0 with gk:=dW}) (({a0 with gk:=dW}).c.R) iw) (λajD=>(.error ajD)) λyu=>lt ({E:=0,V:=0,W:=0}:ah) λuW=>some (.ok (uW,yu))
def rm(n:Nat):CT:=cX (tW n [] [bz n,bn n,cO n,iU n,tP n]) ⟨185,[], .cons dN .nil, .cons (.v (.st 22)) (.cons dN .nil),[some 0,none],(.cons (.iQ 43 (.v (.int .i64))) .nil),[],[[0]]⟩ (λx=>oC n (g7 x)) (λy=>(y.1,g7 y.2)) (λz=>(z.1,(h7 z.2 ()))) u1 m1
def nL(n:Nat)(a0:aq):Option (Except Int (ah×aq)):=tr (bM n a0 a0.c.R 2) (λoJ=>(.error oJ)) λ_=>bd (jz n a0 a0.c.R) λbp=>lt ({E:=0,V:=0,W:=0}:ah) λdh=>some (.ok (dh,bp))
def qw(n:Nat):CT:=cX (tW n [] [bz n,bn n,cO n,nF n]) ⟨186,[], .cons dN .nil, .cons (.v (.st 22)) (.cons dN .nil),[some 0,none],(.cons (.iQ 43 (.v (.int .i64))) .nil),[],[[0]]⟩ (λx=>nL n (g7 x)) (λy=>(y.1,g7 y.2)) (λz=>(z.1,(h7 z.2 ()))) u1 m1
def l7(n:Nat)(a0:aq)(a1:Int):Option (Except Int aq):=bd (ID n a0.aH.dR.T a1) λbA=>tr (dX n bA.2) (λPO=>(.error PO)) λ_=>some (.ok ({a0 with aH:={a0.aH with dR:={a0.aH.dR with T:=bA.1}}}))
def nE(n:Nat):CT:=cX (tW n [] [bz n,bn n,Lm n,dJ n]) ⟨217,[], .cons dN (.cons (.v (.int .u32)) .nil), .cons (.jc .nil) (.cons dN .nil),[some 0,none],(.cons (.iQ 43 (.v (.int .i64))) .nil),[],[[0]]⟩ (λx=>l7 n (g7 x) x.2.2.2.2.2.2.2.1) (λy=>g7 y) (λz=>(h7 z ())) u1 m1
def qH(n:Nat)(a0:aq):Option (Except Int (ah×aq)):=tr (bM n a0 a0.c.R 2) (λoJ=>(.error oJ)) λ_=>bd (jC n a0.aH.dR.T a0.c.R) λcM=>tc (cM !=a0.c.R) (.error 12)<|tr (l7 n a0 a0.c.R) (λad9=>(.error ad9)) λdZ=>tr (jy n dZ dZ.c.R dZ.fZ) (λajG=>(.error ajG)) λdI=>lt ({E:=0,V:=0,W:=0}:ah) λKg=>some (.ok (Kg,dI))
def tS(n:Nat):CT:=cX (tW n [] [bz n,bn n,cO n,iA n,nE n,jU n]) ⟨187,[], .cons dN .nil, .cons (.v (.st 22)) (.cons dN .nil),[some 0,none],(.cons (.iQ 43 (.v (.int .i64))) .nil),[],[[0]]⟩ (λx=>qH n (g7 x)) (λy=>(y.1,g7 y.2)) (λz=>(z.1,(h7 z.2 ()))) u1 m1
def oD(n:Nat)(a0:aq):Option (Except Int (ah×aq)):=tr (bM n a0 a0.c.R 2) (λoJ=>(.error oJ)) λ_=>tr (bM n a0 a0.c.S 1) (λzQ=>(.error zQ)) λ_=>bd (Dx n a0.aH.dR.T a0.c.R a0.c.S) λcU=>tr (dX n cU.2) (λajI=>(.error ajI)) λ_=>lt ({E:=0,V:=0,W:=0}:ah) λnQ=>some (.ok (nQ,{a0 with aH:={a0.aH with dR:={a0.aH.dR with T:=cU.1}}}))
def rq(n:Nat):CT:=cX (tW n [] [bz n,bn n,cO n,HD n,dJ n]) ⟨188,[], .cons dN .nil, .cons (.v (.st 22)) (.cons dN .nil),[some 0,none],(.cons (.iQ 43 (.v (.int .i64))) .nil),[],[[0]]⟩ (λx=>oD n (g7 x)) (λy=>(y.1,g7 y.2)) (λz=>(z.1,(h7 z.2 ()))) u1 m1
def nK(n:Nat)(a0:aq):Option (Except Int (ah×aq)):=tr (bM n a0 a0.c.R 2) (λoJ=>(.error oJ)) λ_=>tr (l7 n a0 a0.c.R) (λzQ=>(.error zQ)) λbp=>bd (yg n bp.aH.dR.O bp.aH.dR.T bp.c.R bp.fZ) λdW=>tr (dX n dW.2) (λad7=>(.error ad7)) λ_=>lt ({E:=0,V:=0,W:=0}:ah) λtM=>some (.ok (tM,{bp with aH:={bp.aH with dR:={bp.aH.dR with O:=dW.1}}}))
def qv(n:Nat):CT:=cX (tW n [] [bz n,bn n,cO n,nE n,CO n,dJ n]) ⟨189,[], .cons dN .nil, .cons (.v (.st 22)) (.cons dN .nil),[some 0,none],(.cons (.iQ 43 (.v (.int .i64))) .nil),[],[[0]]⟩ (λx=>nK n (g7 x)) (λy=>(y.1,g7 y.2)) (λz=>(z.1,(h7 z.2 ()))) u1 m1
def kP(n:Nat)(a0:aq)(a1:Int):Option (Except Int Unit):=bd (aJ n a0.aH.dR.T.fT.lI a1) λax=>tc ax (.error 4)<|bd (kB n a0.aH.dR.O a0.aH.dR.T a1) λcU=>bd (jC n a0.aH.dR.T a1) λdP=>tc ((dP==a1)&&(cU.yM==3)) (.error 12)<|gu (decide (0<=a0.fZ))<|tc ((tj .u8 (vM .u8 cU.jJ a0.fZ) 1)==1) (.error 5)<|some (.ok ())
def mD(n:Nat):CT:=cX (tW n [] [bz n,bn n,aS n,jL n,iA n]) ⟨221,[(222, .st (.part 952 (.v (.st 19)) (.part 1 (.v (.int .i64)) (.part 6 (.v (.st 23)) (.part 2 (.v (.st 4)) (.part 1 (.v (.int .i64)) (.part 1 (.v .bool) (.part 1 (.row 169 2 (.st 4)) .nil))))))))], .cons (.bS 0) (.cons (.v (.int .u32)) .nil), .cons (.jc .nil) .nil,[],(.cons (.iQ 43 (.v (.int .i64))) .nil),[],[]⟩ (λx=>kP n (g7 x) x.2.2.2.2.2.2.2.1) (λ_ =>()) (λ_ =>()) u1 m1
def iP(n:Nat)(a0:aq)(a1:Int):Option (Except Int Unit):=gu (!((decide (a1<8))==true)||dH a1 8)<|tc (decide (a1<8)&&(a0.aH.m9 (Int.toNat a1))) (.error 2)<|some (.ok ())
def jq(n:Nat):CT:=cX (tW n [] [bz n,bn n]) ⟨220,[(222, .st (.part 952 (.v (.st 19)) (.part 1 (.v (.int .i64)) (.part 6 (.v (.st 23)) (.part 2 (.v (.st 4)) (.part 1 (.v (.int .i64)) (.part 1 (.v .bool) (.part 1 (.row 169 2 (.st 4)) .nil))))))))], .cons (.bS 0) (.cons (.v (.int .u32)) .nil), .cons (.jc .nil) .nil,[],(.cons (.iQ 43 (.v (.int .i64))) .nil),[],[]⟩ (λx=>iP n (g7 x) x.2.2.2.2.2.2.2.1) (λ_ =>()) (λ_ =>()) u1 m1
def oB(n:Nat)(a0:aq):Option (Except Int (ah×aq)):=tr (iP n a0 a0.c.A) (λoJ=>(.error oJ)) λ_=>tr (kP n a0 a0.c.R) (λzQ=>(.error zQ)) λ_=>bd (vQ n a0.aH.dR.O a0.aH.dR.T a0.c.R (wr .i64 a0.c.A)) λcU=>tr (dX n cU.2) (λad9=>(.error ad9)) λ_=>lt ({E:=0,V:=0,W:=0}:ah) λeB=>some (.ok (eB,{a0 with aH:={a0.aH with dR:={a0.aH.dR with O:=cU.1}}}))
def rj(n:Nat):CT:=cX (tW n [] [bz n,bn n,jq n,mD n,xV n,dJ n]) ⟨190,[], .cons dN .nil, .cons (.v (.st 22)) (.cons dN .nil),[some 0,none],(.cons (.iQ 43 (.v (.int .i64))) .nil),[],[[0]]⟩ (λx=>oB n (g7 x)) (λy=>(y.1,g7 y.2)) (λz=>(z.1,(h7 z.2 ()))) u1 m1
def pU(n:Nat)(a0:aq):Option (Except Int (ah×aq)):=tr (kP n a0 a0.c.R) (λoJ=>(.error oJ)) λ_=>tr (oE n a0 a0.c.R a0.fZ) (λzQ=>(.error zQ)) λbp=>lt ({E:=0,V:=0,W:=0}:ah) λdh=>some (.ok (dh,bp))
def sM(n:Nat):CT:=cX (tW n [] [bz n,bn n,mD n,ru n]) ⟨191,[], .cons dN .nil, .cons (.v (.st 22)) (.cons dN .nil),[some 0,none],(.cons (.iQ 43 (.v (.int .i64))) .nil),[],[[0]]⟩ (λx=>pU n (g7 x)) (λy=>(y.1,g7 y.2)) (λz=>(z.1,(h7 z.2 ()))) u1 m1
def pR(n:Nat)(a0:aq):Option (Except Int (ah×aq)):=tr (iP n a0 a0.c.A) (λoJ=>(.error oJ)) λ_=>tc (decide (a0.c.B<=1)) (.error 2)<|bd (aJ n a0.aH.dR.T.fT.lI a0.c.R) λbA=>tc bA (.error 4)<|lt (λ(u25:Unit)=>lt ({Region:=a0.c.R,By:=wr .u8 a0.fZ,To:=wr .u8 a0.c.A,nA:=(a0.c.B==1),vG:=a0.c.S}:bI) λcN=>bd (vm n a0.aH.dR.K cN) λdW=>tr (dX n dW.2.2) (λad7=>(.error ad7)) λ_=>lt ({E:=0,V:=0,W:=dW.2.1}:ah) λtM=>some (.ok (tM,{a0 with aH:={a0.aH with dR:={a0.aH.dR with K:=dW.1}}}))) λj26=>cn ((a0.c.S==0)) (bd (kB n a0.aH.dR.O a0.aH.dR.T a0.c.R) λeF=>tc ((eF.yM==1)&&((wr .i64 eF.kA)==a0.fZ)) (.error 5)<|j26 ()) (bd (dD n a0.aH.dR.K a0.c.S) λcL=>tr (dX n cL.2) (λPO=>(.error PO)) λ_=>tc (((wr .i64 cL.1.To)==a0.fZ)&&(cL.1.Region==a0.c.R)) (.error 5)<|j26 ())
def sJ(n:Nat):CT:=cX (tW n [(20, .join [] [])] [bz n,bn n,jq n,aS n,jL n,eK n,dJ n,AK n]) ⟨192,[], .cons dN .nil, .cons (.v (.st 22)) (.cons dN .nil),[some 0,none],(.cons (.iQ 43 (.v (.int .i64))) .nil),[],[[0]]⟩ (λx=>pR n (g7 x)) (λy=>(y.1,g7 y.2)) (λz=>(z.1,(h7 z.2 ()))) u1 m1
def lY(n:Nat)(a0:aq):Option (Except Int (ah×aq)):=bd (dD n a0.aH.dR.K a0.c.S) λax=>tr (dX n ax.2) (λzQ=>(.error zQ)) λ_=>tc ((wr .i64 ax.1.To)==a0.fZ) (.error 5)<|bd (iq n a0.aH.dR.K a0.c.S) λcM=>lt ({E:=0,V:=0,W:=0}:ah) λcN=>some (.ok (cN,{a0 with aH:={a0.aH with dR:={a0.aH.dR with K:=cM.1}}}))
def oR(n:Nat):CT:=cX (tW n [] [bz n,bn n,eK n,dJ n,qu n]) ⟨193,[], .cons dN .nil, .cons (.v (.st 22)) (.cons dN .nil),[some 0,none],(.cons (.iQ 43 (.v (.int .i64))) .nil),[],[[0]]⟩ (λx=>lY n (g7 x)) (λy=>(y.1,g7 y.2)) (λz=>(z.1,(h7 z.2 ()))) u1 m1
def Dn(n:Nat)(a0:cE)(a1:aT):Option (cE×Int):=cn (a0.closed) (some (a0,11)) (cn ((a0.n==4)) (some (a0,7)) (bd (vr n a0 a0.n) λax=>gu (dH ax 4)<|lt ({a0 with ring:=(iW a0.ring (Int.toNat ax) a1)}:cE) λbA=>lt ({bA with n:=wr .i64 (bA.n+1)}:cE) λcM=>some (cM,0)))
def HA(n:Nat):CT:=cV (tW n [] [vK n]) (kU 228 [.s 18, .s 17] [.t [.s 18, .i]]) (a2 (Dn n)) u2 m2
def pQ(n:Nat)(a0:aq):Option (Except Int (ah×aq)):=tr (iP n a0 a0.c.A) (λoJ=>(.error oJ)) λ_=>tc (decide (a0.c.B<=1)) (.error 2)<|lt ({Jt:=wr .u8 a0.fZ,JZ:=a0.c.V,Region:=a0.c.R,Ae:=((a0.c.R !=0)&&(a0.c.B==1))}:aT) λbA=>lt (λ(dZ:aq)=>gu (dH dZ.c.A 8)<|bd (Dn n (dZ.aH.lH (Int.toNat dZ.c.A)) bA) λwX=>tr (dX n wX.2) (λajB=>(.error ajB)) λ_=>gu (dH dZ.c.A 8)<|lt ({E:=0,V:=0,W:=0}:ah) λYY=>some (.ok (YY,{dZ with aH:={dZ.aH with lH:=(iW dZ.aH.lH (Int.toNat dZ.c.A) wX.1)}}))) λS5=>cn (bA.Ae) (tr (kP n a0 a0.c.R) (λajJ=>(.error ajJ)) λ_=>bd (vQ n a0.aH.dR.O a0.aH.dR.T a0.c.R (wr .i64 a0.c.A)) λnC=>cn ((nC.2==0)) (S5 ({a0 with aH:={a0.aH with dR:={a0.aH.dR with O:=nC.1}}})) (S5 a0)) (cn ((a0.c.R !=0)) (tr (bM n a0 a0.c.R 2) (λajF=>(.error ajF)) λ_=>tr (l7 n a0 a0.c.R) (λajE=>(.error ajE)) λiw=>bd (Dg n iw.aH.dR.O iw.aH.dR.T iw.c.R) λow=>tr (dX n ow.2) (λajC=>(.error ajC)) λ_=>S5 ({iw with aH:={iw.aH with dR:={iw.aH.dR with O:=ow.1}}})) (S5 a0))
def sG(n:Nat):CT:=cX (tW n [(30, .join [(.via 0,dN)] [])] [bz n,bn n,jq n,mD n,xV n,cO n,nE n,Hx n,dJ n,HA n]) ⟨194,[], .cons dN .nil, .cons (.v (.st 22)) (.cons dN .nil),[some 0,none],(.cons (.iQ 43 (.v (.int .i64))) .nil),[],[[0]]⟩ (λx=>pQ n (g7 x)) (λy=>(y.1,g7 y.2)) (λz=>(z.1,(h7 z.2 ()))) u1 m1
def Bx(n:Nat)(a0:cE):Option (cE×aT×Int):=cn (((a0.n==0)&&a0.closed)) (lt ({Jt:=0,JZ:=0,Region:=0,Ae:=false}:aT) λax=>some (a0,ax,11)) (cn ((a0.n==0)) (lt ({Jt:=0,JZ:=0,Region:=0,Ae:=false}:aT) λbp=>some (a0,bp,10)) (gu (dH a0.yo 4)<|lt ((a0.ring (Int.toNat a0.yo)):aT) λcM=>bd (vr n a0 1) λcU=>lt ({a0 with yo:=cU}:cE) λdZ=>lt ({dZ with n:=wr .i64 (a0.n-1)}:cE) λcJ=>some (cJ,cM,0)))
def Gb(n:Nat):CT:=cV (tW n [] [vK n]) (kU 229 [.s 18] [.t [.s 18, .s 17, .i]]) (a1 (Bx n)) u3 m3
def jx(n:Nat)(a0:aq):Option (Except Int (ah×aq)):=gu (dH a0.fZ 8)<|bd (Bx n (a0.aH.lH (Int.toNat a0.fZ))) λbp=>tr (dX n bp.2.2) (λIM=>(.error IM)) λ_=>gu (dH a0.fZ 8)<|cn (((bp.2.1.Region !=0)&&(!bp.2.1.Ae))) (tr (jy n ({a0 with aH:={a0.aH with lH:=(iW a0.aH.lH (Int.toNat a0.fZ) bp.1)}}) bp.2.1.Region (({a0 with aH:={a0.aH with lH:=(iW a0.aH.lH (Int.toNat a0.fZ) bp.1)}}).fZ)) (λajK=>(.error ajK)) λdP=>lt ({E:=0,V:=bp.2.1.JZ,W:=bp.2.1.Region}:ah) λgN=>some (.ok (gN,dP))) (lt ({E:=0,V:=bp.2.1.JZ,W:=bp.2.1.Region}:ah) λiw=>some (.ok (iw,{a0 with aH:={a0.aH with lH:=(iW a0.aH.lH (Int.toNat a0.fZ) bp.1)}})))
def sH(n:Nat):CT:=cX (tW n [] [bz n,bn n,Gb n,dJ n,jU n]) ⟨195,[], .cons dN .nil, .cons (.v (.st 22)) (.cons dN .nil),[some 0,none],(.cons (.iQ 43 (.v (.int .i64))) .nil),[],[[0]]⟩ (λx=>jx n (g7 x)) (λy=>(y.1,g7 y.2)) (λz=>(z.1,(h7 z.2 ()))) u1 m1
def zB(n:Nat)(a0:cE):Option (cE×Int):=cn (a0.closed) (some (a0,11)) (lt ({a0 with closed:=true}:cE) λax=>some (ax,0))
def Eh(n:Nat):CT:=cV (tW n [] []) (kU 230 [.s 18] [.t [.s 18, .i]]) (a1 (zB n)) u2 m2
def oG(n:Nat)(a0:aq):Option (Except Int (ah×aq)):=gu (dH a0.fZ 8)<|bd (zB n (a0.aH.lH (Int.toNat a0.fZ))) λbp=>tr (dX n bp.2) (λIM=>(.error IM)) λ_=>gu (dH a0.fZ 8)<|lt ({E:=0,V:=0,W:=0}:ah) λdP=>some (.ok (dP,{a0 with aH:={a0.aH with lH:=(iW a0.aH.lH (Int.toNat a0.fZ) bp.1)}}))
def rz(n:Nat):CT:=cX (tW n [] [bz n,bn n,Eh n,dJ n]) ⟨196,[], .cons dN .nil, .cons (.v (.st 22)) (.cons dN .nil),[some 0,none],(.cons (.iQ 43 (.v (.int .i64))) .nil),[],[[0]]⟩ (λx=>oG n (g7 x)) (λy=>(y.1,g7 y.2)) (λz=>(z.1,(h7 z.2 ()))) u1 m1
def qG(n:Nat)(a0:aq):Option (Except Int (ah×aq)):=tr (bM n a0 a0.c.R 1) (λoJ=>(.error oJ)) λ_=>lt (λ(u22:Unit)=>bd (kB n a0.aH.dR.O a0.aH.dR.T a0.c.S) λeF=>bd (N4 n a0.aH.dR.T a0.c.R (wr .i64 (if 8<a0.c.A then 8 else a0.c.A)) a0.c.S (eF.yM==3)) λeB=>tr (dX n eB.2) (λad6=>(.error ad6)) λ_=>lt ({E:=0,V:=0,W:=0}:ah) λrW=>some (.ok (rW,{a0 with aH:={a0.aH with dR:={a0.aH.dR with T:=eB.1}}}))) λj23=>cn ((a0.c.S !=0)) (tr (bM n a0 a0.c.S 0) (λMq=>(.error Mq)) λ_=>j23 ()) (j23 ())
def tQ(n:Nat):CT:=cX (tW n [(8, .join [(.via 0,dN)] [])] [bz n,bn n,cO n,jL n,OI n,dJ n]) ⟨197,[], .cons dN .nil, .cons (.v (.st 22)) (.cons dN .nil),[some 0,none],(.cons (.iQ 43 (.v (.int .i64))) .nil),[],[[0]]⟩ (λx=>qG n (g7 x)) (λy=>(y.1,g7 y.2)) (λz=>(z.1,(h7 z.2 ()))) u1 m1
def oF(n:Nat)(a0:aq):Option (Except Int ah):=tr (bM n a0 a0.c.R 0) (λoJ=>(.error oJ)) λ_=>bd (IV n a0.aH.dR.T a0.c.R (wr .i64 (if 8<a0.c.A then 8 else a0.c.A))) λcM=>tr (dX n cM.2) (λaea=>(.error aea)) λ_=>lt ({E:=0,V:=0,W:=cM.1}:ah) λdZ=>some (.ok dZ)
def ry(n:Nat):CT:=cX (tW n [] [bz n,bn n,cO n,Ln n,dJ n]) ⟨198,[(222, .st (.part 952 (.v (.st 19)) (.part 1 (.v (.int .i64)) (.part 6 (.v (.st 23)) (.part 2 (.v (.st 4)) (.part 1 (.v (.int .i64)) (.part 1 (.v .bool) (.part 1 (.row 169 2 (.st 4)) .nil))))))))], .cons (.bS 0) .nil, .cons (.v (.st 22)) .nil,[],(.cons (.iQ 43 (.v (.int .i64))) .nil),[],[]⟩ (λx=>oF n (g7 x)) u1 m1 u1 m1
def pT(n:Nat)(a0:aq):Option (Except Int (ah×aq)):=tr (pV n a0 a0.fZ) (λoJ=>(.error oJ)) λax=>lt ({E:=0,V:=0,W:=0}:ah) λgV=>some (.ok (gV,ax))
def sL(n:Nat):CT:=cX (tW n [] [bz n,bn n,sN n]) ⟨199,[], .cons dN .nil, .cons (.v (.st 22)) (.cons dN .nil),[some 0,none],(.cons (.iQ 43 (.v (.int .i64))) .nil),[],[[0]]⟩ (λx=>pT n (g7 x)) (λy=>(y.1,g7 y.2)) (λz=>(z.1,(h7 z.2 ()))) u1 m1
def pS(n:Nat)(a0:aq):Option (Except Int (ah×aq)):=tr (iP n a0 a0.c.A) (λoJ=>(.error oJ)) λ_=>tr (pV n a0 (wr .i64 a0.c.A)) (λzQ=>(.error zQ)) λbp=>lt ({E:=0,V:=0,W:=0}:ah) λdh=>some (.ok (dh,bp))
def sK(n:Nat):CT:=cX (tW n [] [bz n,bn n,jq n,sN n]) ⟨200,[], .cons dN .nil, .cons (.v (.st 22)) (.cons dN .nil),[some 0,none],(.cons (.iQ 43 (.v (.int .i64))) .nil),[],[[0]]⟩ (λx=>pS n (g7 x)) (λy=>(y.1,g7 y.2)) (λz=>(z.1,(h7 z.2 ()))) u1 m1
def oA(n:Nat)(a0:aq):Option (Except Int (ah×aq)):=gu (!((decide (a0.c.A<8))==true)||dH (Int.tmod a0.c.A 8) 8)<|tc (decide (a0.c.A<8)&&(!(a0.aH.GQ (Int.toNat (Int.tmod a0.c.A 8))))) (.error 2)<|gu (dH a0.c.A 8)<|gu (dH a0.c.A 8)<|lt ({E:=0,V:=0,W:=0}:ah) λcL=>some (.ok (cL,{({a0 with aH:={a0.aH with m9:=(iW a0.aH.m9 (Int.toNat a0.c.A) true)}})with aH:={({a0 with aH:={a0.aH with m9:=(iW a0.aH.m9 (Int.toNat a0.c.A) true)}}).aH with GQ:=(iW ((({a0 with aH:={a0.aH with m9:=(iW a0.aH.m9 (Int.toNat a0.c.A) true)}}).aH).GQ) (Int.toNat a0.c.A) true)}}))
def ri(n:Nat):CT:=cX (tW n [] [bz n,bn n]) ⟨201,[], .cons dN .nil, .cons (.v (.st 22)) (.cons dN .nil),[some 0,none],(.cons (.iQ 43 (.v (.int .i64))) .nil),[],[[0]]⟩ (λx=>oA n (g7 x)) (λy=>(y.1,g7 y.2)) (λz=>(z.1,(h7 z.2 ()))) u1 m1
end
end Go.Proofs.Z
namespace Go.Proofs.Z
open Go Go.Bw Go.Rw Go.RowKit
abbrev abq:=Nat->aq->Option (Except Int (ah×aq))
def Ik(g:Nat->aq->Option (Except Int ah)):abq:=λn a=>match g n a with
 |some (.ok r)=>some (.ok (r,a))
 |some (.error e)=>some (.error e)
 |none=>none
def NT:List (Int×Nat×abq):=[(1,181,iI),(2,182,dL),(3,183,Ik gZ),(4,184,Ik gG),(5,185,oC),(6,186,nL),(7,187,qH),(8,188,oD),(9,189,nK),(10,190,oB),(11,191,pU),(12,192,pR),(13,193,lY),(14,194,pQ),(15,195,jx),(16,195,jx),(17,196,oG),(18,197,qG),(19,198,Ik oF),(20,199,pT),(21,200,pS),(22,201,oA)]
def IQ(k:Int):Option (Int×Nat×abq):=NT.find? λx=>k==x.1
def bY(n:Nat)(a0:aq):Option (ah×Option aq):=
 gu (!((decide (0<=a0.fZ)&&decide (a0.fZ<8))==true)||dH (tj .i64 a0.fZ 7) 8)<|
 tc ((decide (0<=a0.fZ)&&decide (a0.fZ<8))&&(a0.aH.m9 (Int.toNat (tj .i64 a0.fZ 7)))) (⟨12,0,0⟩,none)<|
 match IQ a0.c.Do with
 |none=>some (⟨2,0,0⟩,none)
 |some x=>tr (x.2.2 n a0) (λe=>(⟨e,0,0⟩,none)) λy=>some (y.1,some y.2)
def mC{Z:Type}(m:Option (Except Int (ah×aq)))(KO:ah->aq->Option Z)(KE:Int->Option Z):Option Z:=bd m λr=>match r with
 | .ok z=>KO z.1 z.2
 | .error e=>KE e
def kC{Z:Type}(m:Option (Except Int ah))(a:aq)(KO:ah->aq->Option Z)(KE:Int->Option Z):Option Z:=bd m λr=>match r with
 | .ok z=>KO z a
 | .error e=>KE e
def cD{Z:Type}(n:Nat)(a:aq)(KO:ah->aq->Option Z)(KM KK:Int->Option Z)(KN:Option Z):Option Z:=cn (a.c.Do==1) (mC (iI n a) KO KM)<|cn (a.c.Do==2) (mC (dL n a) KO KM)<|cn (a.c.Do==3) (kC (gZ n a) a KO KK)<|cn (a.c.Do==4) (kC (gG n a) a KO KK)<|cn (a.c.Do==5) (mC (oC n a) KO KM)<|cn (a.c.Do==6) (mC (nL n a) KO KM)<|cn (a.c.Do==7) (mC (qH n a) KO KM)<|cn (a.c.Do==8) (mC (oD n a) KO KM)<|cn (a.c.Do==9) (mC (nK n a) KO KM)<|cn (a.c.Do==10) (mC (oB n a) KO KM)<|cn (a.c.Do==11) (mC (pU n a) KO KM)<|cn (a.c.Do==12) (mC (pR n a) KO KM)<|cn (a.c.Do==13) (mC (lY n a) KO KM)<|cn (a.c.Do==14) (mC (pQ n a) KO KM)<|cn (a.c.Do==15) (mC (jx n a) KO KM)<|cn (a.c.Do==16) (mC (jx n a) KO KM)<|cn (a.c.Do==17) (mC (oG n a) KO KM)<|cn (a.c.Do==18) (mC (qG n a) KO KM)<|cn (a.c.Do==19) (kC (oF n a) a KO KK)<|cn (a.c.Do==20) (mC (pT n a) KO KM)<|cn (a.c.Do==21) (mC (pS n a) KO KM)<|cn (a.c.Do==22) (mC (oA n a) KO KM)<|KN
def cA{Z:Type}(n:Nat)(a:aq)(KO:ah->aq->Option Z)(KM KK:Int->Option Z)(KN KA:Option Z):Option Z:=gu (!((decide (0<=a.fZ)&&decide (a.fZ<8))==true)||dH (tj .i64 a.fZ 7) 8)<|cn ((decide (0<=a.fZ)&&decide (a.fZ<8))&&(a.aH.m9 (Int.toNat (tj .i64 a.fZ 7)))) (cD n a KO KM KK KN) KA
theorem pE{Z:Type}{m:Option (Except Int (ah×aq))}{K:ah×Option aq->Option Z}{z:Z}(h:bd (tr m (λe=>(⟨e,0,0⟩,none)) λy=>some (y.1,some y.2)) K=some z):mC m (λr c=>K (r,some c)) (λe=>K (⟨e,0,0⟩,none))=some z:=by
 cases m with
 |none=>cases h
 |some r=>cases r<;>exact h
theorem UO{Z:Type}{g:Nat->aq->Option (Except Int ah)}{n:Nat}{a:aq}{K:ah×Option aq->Option Z}{KK:Int->Option Z}{z:Z}(hk:∀e,K (⟨e,0,0⟩,none)=some z->KK e=some z)(h:bd (tr (Ik g n a) (λe=>(⟨e,0,0⟩,none)) λy=>some (y.1,some y.2)) K=some z):kC (g n a) a (λr c=>K (r,some c)) KK=some z:=by
 unfold Ik at h;cases hm:g n a with
 |none=>rw[hm]at h;cases h
 |some r=>rw[hm]at h;cases r with
  |ok r=>exact h
  |error e=>exact hk e h
theorem ahH{Z:Type}{n:Nat}{a:aq}{K:ah×Option aq->Option Z}{KK:Int->Option Z}{z:Z}(hk:∀e,K (⟨e,0,0⟩,none)=some z->KK e=some z)(h:bd (match IQ a.c.Do with
  |none=>some (⟨2,0,0⟩,none)
  |some x=>tr (x.2.2 n a) (λe=>(⟨e,0,0⟩,none)) λy=>some (y.1,some y.2)) K=some z):cD n a (λr c=>K (r,some c)) (λe=>K (⟨e,0,0⟩,none)) KK (K (⟨2,0,0⟩,none))=some z:=by
 unfold IQ NT at h;unfold cD;rw[List.find?_cons]at h;dsimp only at h;cases h0:(a.c.Do==1)with
 |true=>rw[h0]at h;exact pE h
 |false=>
 rw[h0]at h;refine(rfl:cn false _ _ =_).trans ?_;rw[List.find?_cons]at h;dsimp only at h;cases h1:(a.c.Do==2)with
 |true=>rw[h1]at h;exact pE h
 |false=>
 rw[h1]at h;refine(rfl:cn false _ _ =_).trans ?_;rw[List.find?_cons]at h;dsimp only at h;cases h2:(a.c.Do==3)with
 |true=>rw[h2]at h;exact UO hk h
 |false=>
 rw[h2]at h;refine(rfl:cn false _ _ =_).trans ?_;rw[List.find?_cons]at h;dsimp only at h;cases h3:(a.c.Do==4)with
 |true=>rw[h3]at h;exact UO hk h
 |false=>
 rw[h3]at h;refine(rfl:cn false _ _ =_).trans ?_;rw[List.find?_cons]at h;dsimp only at h;cases h4:(a.c.Do==5)with
 |true=>rw[h4]at h;exact pE h
 |false=>
 rw[h4]at h;refine(rfl:cn false _ _ =_).trans ?_;rw[List.find?_cons]at h;dsimp only at h;cases h5:(a.c.Do==6)with
 |true=>rw[h5]at h;exact pE h
 |false=>
 rw[h5]at h;refine(rfl:cn false _ _ =_).trans ?_;rw[List.find?_cons]at h;dsimp only at h;cases h6:(a.c.Do==7)with
 |true=>rw[h6]at h;exact pE h
 |false=>
 rw[h6]at h;refine(rfl:cn false _ _ =_).trans ?_;rw[List.find?_cons]at h;dsimp only at h;cases h7:(a.c.Do==8)with
 |true=>rw[h7]at h;exact pE h
 |false=>
 rw[h7]at h;refine(rfl:cn false _ _ =_).trans ?_;rw[List.find?_cons]at h;dsimp only at h;cases h8:(a.c.Do==9)with
 |true=>rw[h8]at h;exact pE h
 |false=>
 rw[h8]at h;refine(rfl:cn false _ _ =_).trans ?_;rw[List.find?_cons]at h;dsimp only at h;cases h9:(a.c.Do==10)with
 |true=>rw[h9]at h;exact pE h
 |false=>
 rw[h9]at h;refine(rfl:cn false _ _ =_).trans ?_;rw[List.find?_cons]at h;dsimp only at h;cases h10:(a.c.Do==11)with
 |true=>rw[h10]at h;exact pE h
 |false=>
 rw[h10]at h;refine(rfl:cn false _ _ =_).trans ?_;rw[List.find?_cons]at h;dsimp only at h;cases h11:(a.c.Do==12)with
 |true=>rw[h11]at h;exact pE h
 |false=>
 rw[h11]at h;refine(rfl:cn false _ _ =_).trans ?_;rw[List.find?_cons]at h;dsimp only at h;cases h12:(a.c.Do==13)with
 |true=>rw[h12]at h;exact pE h
 |false=>
 rw[h12]at h;refine(rfl:cn false _ _ =_).trans ?_;rw[List.find?_cons]at h;dsimp only at h;cases h13:(a.c.Do==14)with
 |true=>rw[h13]at h;exact pE h
 |false=>
 rw[h13]at h;refine(rfl:cn false _ _ =_).trans ?_;rw[List.find?_cons]at h;dsimp only at h;cases h14:(a.c.Do==15)with
 |true=>rw[h14]at h;exact pE h
 |false=>
 rw[h14]at h;refine(rfl:cn false _ _ =_).trans ?_;rw[List.find?_cons]at h;dsimp only at h;cases h15:(a.c.Do==16)with
 |true=>rw[h15]at h;exact pE h
 |false=>
 rw[h15]at h;refine(rfl:cn false _ _ =_).trans ?_;rw[List.find?_cons]at h;dsimp only at h;cases h16:(a.c.Do==17)with
 |true=>rw[h16]at h;exact pE h
 |false=>
 rw[h16]at h;refine(rfl:cn false _ _ =_).trans ?_;rw[List.find?_cons]at h;dsimp only at h;cases h17:(a.c.Do==18)with
 |true=>rw[h17]at h;exact pE h
 |false=>
 rw[h17]at h;refine(rfl:cn false _ _ =_).trans ?_;rw[List.find?_cons]at h;dsimp only at h;cases h18:(a.c.Do==19)with
 |true=>rw[h18]at h;exact UO hk h
 |false=>
 rw[h18]at h;refine(rfl:cn false _ _ =_).trans ?_;rw[List.find?_cons]at h;dsimp only at h;cases h19:(a.c.Do==20)with
 |true=>rw[h19]at h;exact pE h
 |false=>
 rw[h19]at h;refine(rfl:cn false _ _ =_).trans ?_;rw[List.find?_cons]at h;dsimp only at h;cases h20:(a.c.Do==21)with
 |true=>rw[h20]at h;exact pE h
 |false=>
 rw[h20]at h;refine(rfl:cn false _ _ =_).trans ?_;rw[List.find?_cons]at h;dsimp only at h;cases h21:(a.c.Do==22)with
 |true=>rw[h21]at h;exact pE h
 |false=>
 rw[h21]at h;refine(rfl:cn false _ _ =_).trans ?_;exact h
theorem ab3{Z:Type}{n:Nat}{a:aq}{K:ah×Option aq->Option Z}{KK:Int->Option Z}{z:Z}(hk:∀e,K (⟨e,0,0⟩,none)=some z->KK e=some z)(h:bd (bY n a) K=some z):cA n a (λr c=>K (r,some c)) (λe=>K (⟨e,0,0⟩,none)) KK (K (⟨2,0,0⟩,none)) (K (⟨12,0,0⟩,none))=some z:=by
 unfold bY at h;unfold cA;cases h1:(!((decide (0<=a.fZ)&&decide (a.fZ<8))==true)||dH (tj .i64 a.fZ 7) 8)with
 |false=>rw[h1]at h;cases h
 |true=>
  rw[h1]at h;cases h2:((decide (0<=a.fZ)&&decide (a.fZ<8))&&(a.aH.m9 (Int.toNat (tj .i64 a.fZ 7))))with
  |false=>rw[h2]at h;exact h
  |true=>rw[h2]at h;exact ahH hk h
def bR(n:Nat)(a0:ae)(a1:Int)(a2:aD):Option Int:=lt ({aH:=a0,fZ:=a1,c:=a2,run:=aB,lD:=0,z6:=true,gk:=[]}:aq) λ_=>cn ((a2.Do !=2)==false) (bd (bY n ({aH:=a0,fZ:=a1,c:=a2,run:=aB,lD:=0,z6:=true,gk:=[]}:aq)) λcJ=>oc cJ.2 (cn (((a2.Do !=2)||(cJ.1.E !=0))) (some 0) (none)) λZC=>cn (((a2.Do !=2)||(cJ.1.E !=0))) (some 0) (some ZC.lD)) (cn (((a2.Do !=2)||(az.E !=0))) (some 0) (some (({aH:=a0,fZ:=a1,c:=a2,run:=aB,lD:=0,z6:=true,gk:=[]}:aq).lD)))
def nI(n:Nat)(a0:ae)(a1:Int)(a2:aD):Option Int:=cn (a2.Do !=2) (some 0) (cA n ({aH:=a0,fZ:=a1,c:=a2,run:=aB,lD:=0,z6:=true,gk:=[]}:aq) (λr c=>cn (r.E !=0) (some 0) (some c.lD)) (λe=>cn (e !=0) (some 0) none) (λe=>cn (e !=0) (some 0) (some 0)) (some 0) (some 0))
theorem A0(n:Nat)(a0:ae)(a1:Int)(a2:aD)(z:Int)(h:bR n a0 a1 a2=some z):nI n a0 a1 a2=some z:=by
 unfold bR at h;unfold nI;cases h1:(a2.Do !=2)with
 |true=>rw[h1]at h;exact h
 |false=>
  rw[h1]at h;have:=ab3 (a:=({aH:=a0,fZ:=a1,c:=a2,run:=aB,lD:=0,z6:=true,gk:=[]}:aq)) (KK:=λe=>cn (e !=0) (some 0) (some 0)) (λe h=>by
   have h:cn (e !=0) (some 0) none=some z:=h;cases hb:(e !=0)with
   |true=>rw[hb]at h;exact h
   |false=>rw[hb]at h;cases h) h
  exact this
noncomputable def nG(n:Nat):Ct Tryz.prog sg:=abK (tW n [] [bz n,bn n,tR n,rA n,sI n,rh n,rm n,qw n,tS n,rq n,qv n,rj n,sM n,sJ n,oR n,sG n,sH n,rz n,tQ n,ry n,sL n,sK n,ri n]) 3000 ⟨86,[], .cons (.v (.st 19)) (.cons (.v (.int .i64)) (.cons (.v (.st 23)) .nil)), .cons (.v (.int .i64)) .nil,[], .nil,[],[]⟩ (λx=>bR n x.1 x.2.1 x.2.2.1) (λx=>nI n x.1 x.2.1 x.2.2.1) (λy=>y.1) (λz=>(z,())) (0) (λ_ =>rfl) (by kernel_rfl) (λx=>by kernel_rfl) (λx z h=>by apply A0;exact h)
def cF(n:Nat)(a0:ae)(a1:Int)(a2:aD)(a3:av):Option (ae×ah×(List av)):=lt ({aH:=a0,fZ:=a1,c:=a2,run:=a3,lD:=0,z6:=false,gk:=[]}:aq) λ_=>bd (bY n ({aH:=a0,fZ:=a1,c:=a2,run:=a3,lD:=0,z6:=false,gk:=[]}:aq)) λcJ=>oc cJ.2 (cn ((cJ.1.E !=0)) (some (a0,cJ.1,([]:List av))) (none)) λZC=>cn ((cJ.1.E !=0)) (some (a0,cJ.1,([]:List av))) (some (ZC.aH,cJ.1,ZC.gk))
def wk(n:Nat)(a0:ae)(a1:Int)(a2:aD)(a3:av):Option (ae×ah×(List av)):=cA n ({aH:=a0,fZ:=a1,c:=a2,run:=a3,lD:=0,z6:=false,gk:=[]}:aq) (λr c=>cn (r.E !=0) (some (a0,r,[])) (some (c.aH,r,c.gk))) (λe=>cn (e !=0) (some (a0,⟨e,0,0⟩,[])) none) (λe=>cn (e !=0) (some (a0,⟨e,0,0⟩,[])) (some (a0,⟨e,0,0⟩,[]))) (some (a0,⟨2,0,0⟩,[])) (some (a0,⟨12,0,0⟩,[]))
theorem EZ(n:Nat)(a0:ae)(a1:Int)(a2:aD)(a3:av)(z:ae×ah×(List av))(h:cF n a0 a1 a2 a3=some z):wk n a0 a1 a2 a3=some z:=by
 have:=ab3 (a:=({aH:=a0,fZ:=a1,c:=a2,run:=a3,lD:=0,z6:=false,gk:=[]}:aq)) (KK:=λe=>cn (e !=0) (some (a0,⟨e,0,0⟩,[])) (some (a0,⟨e,0,0⟩,[]))) (λe h=>by
  have h:cn (e !=0) (some (a0,⟨e,0,0⟩,([]:List av))) none=some z:=h;cases hb:(e !=0)with
  |true=>rw[hb]at h;exact h
  |false=>rw[hb]at h;cases h) h
 exact this
noncomputable def wj(n:Nat):Ct Tryz.prog sg:=abK (tW n [] [bz n,bn n,tR n,rA n,sI n,rh n,rm n,qw n,tS n,rq n,qv n,rj n,sM n,sJ n,oR n,sG n,sH n,rz n,tQ n,ry n,sL n,sK n,ri n]) 3000 ⟨87,[], .cons (.v (.st 19)) (.cons (.v (.int .i64)) (.cons (.v (.st 23)) (.cons (.v (.st 4)) .nil))), .cons (.jc (.cons (.v (.st 19)) (.cons (.v (.st 22)) (.cons (.v (.sl (.st 4))) .nil)))) .nil,[], .nil,[],[]⟩ (λx=>cF n x.1 x.2.1 x.2.2.1 x.2.2.2.1) (λx=>wk n x.1 x.2.1 x.2.2.1 x.2.2.2.1) (λy=>(y.1,y.2.1,y.2.2.1)) (λz=>(z.1,(z.2.1,(z.2.2,())))) (dx,az,[]) (λ_ =>rfl) (by kernel_rfl) (λx=>by kernel_rfl) (λx z h=>by apply EZ;exact h)
def wz(n:Nat)(a0:(List Int)):Option (List Int):=some a0
def ud(n:Nat)(a0:(List Int)):Option (List Int):=gu ((a0.length:Int)==(a0.length:Int))<|gu ((a0.length:Int)==(a0.length:Int))<|some a0
theorem B6(n:Nat)(a0:(List Int)):ud n a0=wz n a0:=Re.trans Re
noncomputable def BH(n:Nat):CT:=cV (tW n [] []) (kU 121 [.v (.sl (.int .i64))] [.v (.sl (.int .i64))]) (a1 (wz n)) u1 m1 (hW:=λx=>Eq.trans (b:=ud n x.1) (by kernel_rfl) (B6 ..))
def cK(n:Nat)(a0:ae)(a1:aD):Option ((List Int)×Int):=bd (eU n a0.dR.T a1.R) λbA=>cn ((bA.2!=0)) (some (([]:List Int),bA.2)) (cn (((((a1.Do !=3)&&(a1.Do !=4))||decide (a1.B<1))||decide (8<a1.B))) (some (([]:List Int),2)) (cn (decide ((wr .i64 (bA.1.E.er-(wr .i64 a1.B)))<(wr .i64 a1.A))) (some (([]:List Int),9)) (fe (λk47 (iw:(List Int)) (yu:Int)=>cn (decide (yu<(wr .i64 a1.B))) (bd (jW n bA.1.E (wr .i64 ((wr .i64 a1.A)+yu))) λCp=>gu (ig iw.length 1 8)<|lt (iw++([Cp.1]):List Int) λMU=>k47 MU (wr .i64 (yu+1))) (some (iw,0))) n ([]) 0)))
noncomputable def AO(n:Nat):CT:=cV (tW n [(21, .loop [(.dS 8,(.row 3 1 (.int .i64))),(.dS 59,(.v (.int .i64)))])] [fY n,yy n,BH n]) (kU 93 [.s 19, .s 23] [.t [.v (.sl (.int .i64)), .i]]) (a2 (cK n)) u2 m2
end Go.Proofs.Z
