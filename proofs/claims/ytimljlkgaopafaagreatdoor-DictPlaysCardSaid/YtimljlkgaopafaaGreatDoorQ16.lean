/- Part 16 of what a proof leans on; pruned and shortened by a program out of longer texts. -/
import Derived.Test.YtimljlkgaopafaaGreatDoorQ15
namespace Go.Proofs.Z
open Go Go.Bw
def zv(l:List Rn):List Int:=l.flatMap Gj
theorem VT(y:Rn):(Gj y).length=y.N.toNat:=by simp[Gj]
theorem Nd:∀{l:List Rn},(∀y∈l,JR y.At y.N)->(zv l).length<=64*l.length
 |[],_ =>by simp[zv]
 |y::r,h=>by have:=Nd (l:=r) λz hz=>h z (by simp[hz]);obtain⟨h1,h2,h3⟩:=h y (by simp);unfold zv at this ⊢;rw[List.flatMap_cons,List.length_append,VT,List.length_cons];omega
section
variable {n:Nat} {S S':ae} {P P':aj} {M M':ai} {Q:List Int} {t:Int} {c:aD} {u:aF} {r:ah}
theorem Lq(hn:110<=n){gk:List Rn}(hb:∀y∈gk,JR y.At y.N)(hq:Q.length+64*gk.length<=10000)(hbl:gk.length<n)(hg:dG n M u.kA=some M'){ρ:Type}(F:ae×aj×ai×(List Int)×aF×ah×Bool->Option ρ)(x0:ah)(b0:Bool):
  yj (λk51 (yO:Int) (JG:ae) (Kg:aj) (Ke:ai) (Cp:(List Int))=>cn (decide (yO<(gk.length:Int))) (gu (dH yO gk.length)<|lt ((gk.getD (Int.toNat yO) default):av) λMU=>bd (fM n JG Kg Ke Cp MU) λOD=>k51 (wr .i64 (yO+1)) OD.1 OD.2.1 OD.2.2.1 OD.2.2.2) (bd (fB n JG Kg Ke Cp ({u with yR:=aB}:aF) x0 b0 r) F)) n 0 S P M Q=F (S,P,M',Q++zv gk,{u with yR:=aB},r,true):=by
 refine KL (λ(i:Int) s p m q=>∃j:Nat,i=(j:Int)/\j<=gk.length/\s=S/\p=P/\m=M/\q=Q++zv (gk.take j)) (λi _ _ _ _ =>((gk.length:Int)-i).toNat) (λo=>o=F (S,P,M',Q++zv gk,{u with yR:=aB},r,true)) ?_ n 0 S P M Q ⟨0,rfl,by omega,rfl,rfl,rfl,by simp[zv]⟩ (by omega);rintro kk i s p m q ⟨j,rfl,hj,rfl,rfl,rfl,rfl⟩ ih;by_cases hc:j<gk.length
 ·have hgd:gk.getD (Int.toNat (j:Int)) default=gk[j]:=by rw[aki,List.getD,akm hc];rfl
  have hlen:=Nd (l:=gk.take j) λy hy=>hb y (List.mem_of_mem_take hy);rw[List.length_take]at hlen;rw[aR (by simpa using hc),bf (eP (by omega) (by omega)),aU,hgd,ak (Vu hn _ _ _ _ (by rw[List.length_append];omega) (hb _ (List.getElem_mem hc))),bx (by omega) (by omega)];refine ih _ _ _ _ _ ⟨j+1,by omega,by omega,rfl,rfl,rfl,?_⟩ (by omega);unfold zv;rw[akn hc,List.flatMap_append,List.append_assoc];simp
 ·obtain rfl:j=gk.length:=by omega
  rw[au (by simp),List.take_length,ak (PT (c:={u with yR:=aB}) (by omega) _ _ _ _ _ _ _ (by show(0:Int)<=0;omega) hg)]
theorem E0(hn:110<=n)(hr:u.yR.N<=0\/(0<u.yR.N/\bR n S u.kA u.C=some u.yR.N)){pl}(hp:cK n S u.C=some pl){gk:List Rn}(hd:cF n S u.kA u.C u.yR=some (S',r,gk))(hE:r.E=0)(h34:u.C.Do≠3/\u.C.Do≠4)(hb:∀y∈gk,JR y.At y.N)(hq:Q.length+64*gk.length<=10000)(hbl:gk.length<n)(hg:dG n M u.kA=some M'){x0:ah}{b0:Bool}:
  cG n S P M Q u x0 b0=some (true,S',P,M',Q++zv gk,{u with yR:=aB},r,true):=by
 have e3:(u.C.Do==3)=false:=by simpa using h34.1
 have e4:(u.C.Do==4)=false:=by simpa using h34.2
 unfold cG;rw[aU,aU];rcases hr with hr|⟨hr,hne⟩
 ·rw[n5 (by simp;omega),au (by simp;omega)]
  show bd (cK n S u.C) _ =_;rw[ak hp,ak hd,aU,aU,au (by rw[hE];rfl),aU,au e4,au e3];show lt _ _ =_;rw[aU,aU];exact Lq hn hb hq hbl hg (λow=>some (true,ow.1,ow.2.1,ow.2.2.1,ow.2.2.2.1,ow.2.2.2.2.1,ow.2.2.2.2.2.1,ow.2.2.2.2.2.2)) _ _
 ·rw[kW (by simp;omega) hne,au (by simp)]
  show bd (cK n S u.C) _ =_;rw[ak hp,ak hd,aU,aU,au (by rw[hE];rfl),aU,au e4,au e3];show lt _ _ =_;rw[aU,aU];exact Lq hn hb hq hbl hg (λow=>some (true,ow.1,ow.2.1,ow.2.2.1,ow.2.2.2.1,ow.2.2.2.2.1,ow.2.2.2.2.2.1,ow.2.2.2.2.2.2)) _ _
theorem TG(hn:110<=n)(hr:u.yR.N<=0){pl:List Int}{pe:Int}(hp:cK n S u.C=some (pl,pe))(hd:cF n S u.kA u.C u.yR=some (S',⟨0,0,0⟩,[]))(h3:u.C.Do=3)(hP:JA P)(hl:pl.length<=8)(Uc:∀i,i<pl.length->0<=pl.getD i default/\iy P (pl.getD i default/32))(hq:Q.length<=10000)(hg:dG n M u.kA=some M'){x0:ah}{b0:Bool}:
  cG n S P M Q u x0 b0=some (true,S',P,M',Q,{u with yR:=aB},⟨0,JS (λi=>Hg P (pl.getD i default)) pl.length,0⟩,true):=by
 have e3:(u.C.Do==3)=true:=by simpa using h3
 have e4:(u.C.Do==4)=false:=by rw[h3];rfl
 unfold cG;rw[aU,aU,n5 (by simp;omega),au (by simp;omega)];show bd (cK n S u.C) _ =_;rw[ak hp,ak hd,aU,aU,au (by rfl),aU,au e4,aR e3];refine(agf hn hP hl Uc _).trans ?_;show lt _ _ =_;rw[aU,aU];have:=Lq (S:=S') (P:=P) (r:=⟨0,JS (λi=>Hg P (pl.getD i default)) pl.length,0⟩) hn (gk:=[]) (by simp) (by simpa using hq) (by simp;omega) hg (λow=>some (true,ow.1,ow.2.1,ow.2.2.1,ow.2.2.2.1,ow.2.2.2.2.1,ow.2.2.2.2.2.1,ow.2.2.2.2.2.2)) x0 b0;rw[show Q++zv []=Q by simp[zv]]at this;exact this
theorem TF(hn:110<=n)(hr:u.yR.N<=0){pl:List Int}{pe:Int}(hp:cK n S u.C=some (pl,pe))(hd:cF n S u.kA u.C u.yR=some (S',⟨0,0,0⟩,[]))(h4:u.C.Do=4)(hP:JA P)(hl:pl.length<=8)(Uc:∀i,i<pl.length->0<=pl.getD i default/\iy P (pl.getD i default/32))(hq:Q.length<=10000)(hg:dG n M u.kA=some M'){x0:ah}{b0:Bool}:
  cG n S P M Q u x0 b0=some (true,S',MW P (λi=>pl.getD i default) (λi=>wr .u8 (vM .u64 u.C.V (wr .i64 (8*(i:Int))))) pl.length,M',Q,{u with yR:=aB},⟨0,0,0⟩,true):=by
 have e4:(u.C.Do==4)=true:=by simpa using h4
 unfold cG;rw[aU,aU,n5 (by simp;omega),au (by simp;omega)];show bd (cK n S u.C) _ =_;rw[ak hp,ak hd,aU,aU,au (by rfl),aU,aR e4];refine(ack hn hP hl Uc _ _ _ _ _ _ _).trans ?_;show lt _ _ =_;rw[aU,aU];have:=Lq (S:=S') (P:=MW P (λi=>pl.getD i default) (λi=>wr .u8 (vM .u64 u.C.V (wr .i64 (8*(i:Int))))) pl.length) (r:=⟨0,0,0⟩) hn (gk:=[]) (by simp) (by simpa using hq) (by simp;omega) hg (λow=>some (true,ow.1,ow.2.1,ow.2.2.1,ow.2.2.2.1,ow.2.2.2.2.1,ow.2.2.2.2.2.1,ow.2.2.2.2.2.2)) x0 b0;rw[show Q++zv []=Q by simp[zv]]at this;exact this
theorem aaM(hne:bR n S u.kA u.C=some 0){x0:ah}{b0:Bool}:cy n S P M Q u x0 b0=some (false,S,P,M,Q,u,x0,b0):=by unfold cy;rw[ak hne,aR (by rfl)]
theorem RK{k:Int}(hne:bR n S u.kA u.C=some k)(hr:0<u.yR.N){x0:ah}{b0:Bool}:cy n S P M Q u x0 b0=some (false,S,P,M,Q,u,x0,b0):=by unfold cy;rw[ak hne,aR (by simp;omega)]
theorem Ru{m:Nat}(hd:c.Do≠15)(hne:bR n S t c=some 0){Q':List Int}{u':aF}(hc:cG n S P M Q (F5 t c [] aB 0) az false=some (true,S',P',M',Q',u',r,true)):
  wJ (nU n c) (m+1) az S P M Q t (F5 t c [] aB 0)=some (r,S',P',M',Q',t):=by
 show nU n c _ _ _ _ _ _ _ _ =_;exact Av hd (aby rfl rfl (aaM hne) (by show(0:Int)<=0;omega) hc)
theorem kX{Q':List Int}(h:eG n S P M Q t c=some (r,S',P',M',Q',t))(hE:r.E≠6\/Q'=[]):di n S P M Q t c=some (r,S',P',M',Q',t):=by
 unfold di;rw[ak h,aU,aU,au]
 ·rfl
 ·rcases hE with h|h
  ·have:(r.E==6)=false:=by simpa using h
   rw[this];rfl
  ·rw[h];simp
end
def vY(P:aj)(f:br):aj:={P with eo:=f}
def rZ(P:aj)(a:Int):Nat->aj
 |0=>P
 |j+1=>{rZ P a j with bytes:=iW (rZ P a j).bytes (a+j).toNat (λ_ =>0)}
theorem tA(P:aj)(a:Int)(k:Nat):(rZ P a k).eo=P.eo/\(rZ P a k).n=P.n:=by
 induction k with
 |zero=>exact⟨rfl,rfl⟩
 |succ k ih=>exact ih
theorem Qw(P:aj){a:Int}(ha:0<=a)(k:Nat){b:Int}(hb:0<=b):Hg (rZ P a k) b=if a<=b/32/\b/32<a+k then 0 else Hg P b:=by
 induction k with
 |zero=>rw[ake (by omega)];rfl
 |succ k ih=>
  show(iW (rZ P a k).bytes (a+(k:Int)).toNat (λ_ =>0)) (b/32).toNat (b%32).toNat=_;unfold iW;by_cases h:(b/32).toNat=(a+(k:Int)).toNat
  ·rw[akd h,akd (by omega)]
  ·rw[ake h]
   refine Eq.trans ih ?_;by_cases h1:a<=b/32/\b/32<a+(k:Int)
   ·rw[akd h1,akd (by omega)]
   ·rw[ake h1,ake (by omega)]
theorem Qv{P:aj}(h:JA P)(a:Int)(k:Nat):JA (rZ P a k):=by
 induction k with
 |zero=>exact h
 |succ k ih=>exact⟨ih.Ox,ih.n1,ih.fr,λi j=>by
   unfold rZ iW;dsimp only;by_cases h1:i=(a+(k:Int)).toNat
   ·rw[akd h1];omega
   ·rw[ake h1];exact ih.bt i j⟩
theorem aaL{n:Nat}(hn:110<=n){P:aj}(h:JA P){p:Int}(hp:iy P p):lB n P p=some (0,{P with bytes:=iW P.bytes p.toNat (λ_ =>0)}):=by have:=h.n1;obtain⟨p0,p1,p2⟩:=hp;unfold lB;rw[au (by simp;omega),ak (Mf hn h ⟨p0,p1,p2⟩),au (by rfl),bf (eP (by omega) (by omega))];rfl
section
variable {n:Nat} {S S':ae} {P:aj} {M M':ai} {Q Q':List Int} {t:Int} {c:aD} {r:ah}
theorem XC(hn:110<=n)(hd:c.Do≠15){a k:Int}(ha:0<=a)(hk:0<k)(hk4:k<=64)(hne:bR n S t c=some k)(h:JA P)(hl:∀p,a<=p->p<a+k->iy P p)(hc:∃u',cG n S (rZ P a k.toNat) M Q (F5 t c [] ⟨a,k⟩ k) az false=some (true,S',rZ P a k.toNat,M',Q',u',r,true)):
  ∀(d:Nat) (j:Nat) (m:Nat),(j:Int)+d=k->wJ (nU n c) (m+d+1) az S (rZ P a j) M Q t (F5 t c [] ⟨a,k⟩ j)=some (r,S',rZ P a k.toNat,M',Q',t):=by
 have hn1:=h.n1;intro d
 induction d with
 |zero=>
  intro j m e;obtain⟨u',hc⟩:=hc;have ej:(j:Int)=k:=by omega
  have ej':k.toNat=j:=by omega
  show nU n c _ _ _ _ _ _ _ _ =_;rw[ej']at hc ⊢;rw[ej];exact Av hd (aby rfl rfl (RK hne hk) (by show k<=k;omega) hc)
 |succ d ih=>
  intro j m e;show nU n c _ _ _ _ _ _ _ _ =_;have rX:fq n S (rZ P a j) M Q (F5 t c [] ⟨a,k⟩ j) az false=some (true,S,rZ P a (j+1),M,Q,F5 t c [] ⟨a,k⟩ ((j+1:Nat):Int),az,false):=by have hp:=hl (a+j) (by omega) (by omega);have AY:=hp;obtain⟨q0,q1,q2⟩:=AY;unfold fq;rw[au (by simp;omega)];show bd (lB n (rZ P a j) (wr .i64 (a+(j:Int)))) _ =_;rw[bx (x:=a+(j:Int)) (by omega) (by omega),ak (aaL hn (Qv h a j) (by unfold iy at hp ⊢;rw[(tA P a j).1,(tA P a j).2];exact hp)),aU];show some (true,S,_,M,Q,F5 t c [] ⟨a,k⟩ (wr .i64 ((j:Int)+1)),az,false)=_;rw[bx (by omega) (by omega)];rfl
  rw[uA hd (afY rfl rfl (RK hne hk) rX) (λ_ => .inl rfl)];have:=ih (j+1) m (by omega);rw[show m+(d+1)=m+d+1 by omega];exact this
theorem TI(hn:110<=n)(hd:c.Do≠15)(h:JA P){k:Int}(hk:0<k)(hk4:k<=64)(hne:bR n S t c=some k){m:Nat}{v:Int}(hf:IF k P.eo.l=(v,true))(hv:0<=v)(hin:KS P.eo.l v k):
  ∃f:br,qz f.l/\(∀p,cB f.l p↔cB P.eo.l p/\¬(v<=p/\p<v+k))/\
   wJ (nU n c) (m+1) az S P M Q t (F5 t c [] aB 0)=wJ (nU n c) m az S (vY P f) M Q t (F5 t c [] ⟨v,k⟩ 0):=by
 obtain⟨⟨o1,o2,o3⟩,_⟩:=id hin;obtain⟨f,g,e1,e2,_,e3⟩:=Zj hn h.Ox (at_:=v) (k:=k) ⟨by omega,by omega⟩ ⟨by omega,by omega⟩;have hg:g=true:=e2.2 hin;subst hg;obtain⟨f1,f2⟩:=e3 rfl;refine⟨f,f1,f2,?_⟩;show nU n c _ _ _ _ _ _ _ _ =_;have rX:jk n P k=some (v,0,vY P f):=by unfold jk;rw[au (by simp;omega),ak (Rs hn h.Ox k),hf,au (b:= !true) rfl,ak e1];rfl
 have hs:cy n S P M Q (F5 t c [] aB 0) az false=some (true,S,vY P f,M,Q,F5 t c [] ⟨v,k⟩ 0,az,false):=by unfold cy;rw[ak hne,au (by simp;omega),ak rX,au (by rfl)];rfl
 rw[uA hd (abz rfl rfl hs) (λ_ => .inl rfl)]
theorem TH(hn:110<=n)(hd:c.Do≠15)(h:JA P){k:Int}(hk:0<k)(hne:bR n S t c=some k){m:Nat}(hf:IF k P.eo.l=(0,false))(hg:dG n M t=some M'):
  wJ (nU n c) (m+1) az S P M Q t (F5 t c [] aB 0)=some (⟨6,0,0⟩,S,P,M',Q,t):=by
 show nU n c _ _ _ _ _ _ _ _ =_;have rX:jk n P k=some (0,6,P):=by unfold jk;rw[au (by simp;omega),ak (Rs hn h.Ox k),hf,aR (b:= !false) rfl]
 have hs:cy n S P M Q (F5 t c [] aB 0) az false=some (true,S,P,M',Q,F5 t c [] aB 0,⟨6,0,0⟩,true):=by unfold cy;rw[ak hne,au (by simp;omega),ak rX,aR (by rfl),ak (PT (c:=F5 t c [] aB 0) (by omega) S P M Q _ _ _ (by show(0:Int)<=0;omega) hg)]
 exact Av hd (abz rfl rfl hs)
end
end Go.Proofs.Z
namespace Go.Proofs.Z
open Go Go.Bw
theorem xJ{l:List Rn}(h:JB l){a:Int}(ha:0<=a/\a<32*bD l):cB l (ep l a/32)/\0<=ep l a:=by
 have hl:=uN h.YN;have h1:a.toNat<(kr l).length:=by omega
 have hm:ep l a∈kr l:=by unfold ep;rw[List.getD,akm h1];exact List.getElem_mem h1
 have h2:=Ic.1 hm;obtain⟨y,hy,h3,h4⟩:=id h2;obtain⟨o1,o2,o3⟩:=h.wC y hy;exact⟨h2,by omega⟩
structure Cw(S:ae)(P:aj)(M:ai)(Q:List Int):Prop where
 DY:JA P
 may:∀k,qg (bC S k)
 own:∀k p,cB (bC S k).aN p->iy P p
 sep:∀k j p,k≠j->cB (bC S k).aN p->¬cB (bC S j).aN p
 Vv:∀p∈Q,iy P p/\∀k,¬cB (bC S k).aN p
 qnd:Q.Nodup
 QS:Qp M
 YW:∀k a,(bC S k).er<=a->a<32*bD (bC S k).aN->Hg P (ep (bC S k).aN a)=0
 MZ:∀p,0<=p->p<P.n->cB P.eo.l p\/p∈Q\/∃k,cB (bC S k).aN p
def pM(S:ae)(P:aj)(k:Nat)(a:Int):Int:=Hg P (ep (bC S k).aN a)
def I5(S:ae)(k:Nat)(a:Int):Prop:=0<=a/\a<32*bD (bC S k).aN
section
variable {n:Nat} {S S':ae} {P P':aj} {M:ai} {Q Q':List Int} {t h:Int} {k:Nat} {c:aD}
theorem Cw.Vx(C:Cw S P M Q):Q.length<=64:=wG 64 C.qnd λp hp=>by obtain⟨⟨a,b,_⟩,_⟩:=C.Vv p hp;have:=C.DY.n1;exact⟨a,by show p<64;omega⟩
theorem Cw.adr(C:Cw S P M Q){k:Nat}{a:Int}(ha:I5 S k a):iy P (ep (bC S k).aN a/32)/\0<=ep (bC S k).aN a:=by obtain⟨h1,h2⟩:=xJ (C.may k).gx.gd ha;exact⟨C.own k _ h1,h2⟩
theorem Cw.apart(C:Cw S P M Q){k j:Nat}{a b:Int}(ha:I5 S k a)(hb:I5 S j b)(e:ep (bC S k).aN a=ep (bC S j).aN b):k=j/\a=b:=by
 by_cases hk:k=j
 ·subst hk
  exact⟨rfl,Qd (C.may k).gx.gd ha hb e⟩
 ·obtain⟨h1,_⟩:=xJ (C.may k).gx.gd ha
  obtain⟨h2,_⟩:=xJ (C.may j).gx.gd hb;rw[e]at h1;exact absurd h2 (C.sep k j _ hk h1)
theorem Cw.ad(C:Cw S P M Q){k:Nat}{a:Int}(h0:0<=a)(h1:a<(bC S k).er):I5 S k a:=by have:=(C.may k).hi;exact⟨h0,by omega⟩
theorem G6(f:Nat->Int){b i:Nat}(h:i<b):((List.range b).map f).getD i default=f i:=by rw[List.getD,List.getElem?_map,List.getElem?_range h];rfl
theorem Wm{w:Bool}(hn:200<=n)(C:Cw S P M Q)(a:wW w n S t h k)(hd:c.Do=3)(hR:c.R=h)(hA:0<=c.A/\c.A<4294967296)(hB:1<=c.B/\c.B<=8):
  di n S P M Q t c=some (if c.A+c.B<=(bC S k).er then⟨0,JS (λi=>pM S P k (c.A+(i:Int))) c.B.toNat,0⟩else⟨9,0,0⟩,S,P,M,Q,t):=by
 have hk:=a.kl;have hc:=RN a (C.may k) (.inl hd) hR hA hB;have AZ:c.Do≠15:=by omega
 by_cases hl:c.A+c.B<=(bC S k).er
 ·rw[akd hl]at hc ⊢
  refine kX ?_ (.inl (by show(0:Int)≠6;omega));obtain⟨m,rfl⟩:∃m,n=m+1+2:=⟨n-3,by omega⟩;rw[zy AZ C.QS a.t0 a.t1 hc (wA a (.inr (.inl hd)) hR) hk a.dS];have Uc:∀i,i<((List.range c.B.toNat).map λ(i:Nat)=>ep (bC S k).aN (c.A+(i:Int))).length->0<=((List.range c.B.toNat).map λ(i:Nat)=>ep (bC S k).aN (c.A+(i:Int))).getD i default/\iy P (((List.range c.B.toNat).map λ(i:Nat)=>ep (bC S k).aN (c.A+(i:Int))).getD i default/32):=by intro i hi;rw[List.length_map,List.length_range]at hi;rw[G6 (λ(i:Nat)=>ep (bC S k).aN (c.A+(i:Int))) hi];obtain⟨q1,q2⟩:=C.adr (C.ad (k:=k) (a:=c.A+(i:Int)) (by omega) (by omega));exact⟨q2,q1⟩
  have:=TG (S:=S) (P:=P) (Q:=Q) (u:=F5 t c [] aB 0) (M':=M) (x0:=az) (b0:=false) (by omega) (by show(0:Int)<=0;omega) (UZ (by omega) a (C.may k) (.inl hd) hR hA.1 hB hl) (by have:=aei a (C.may k) (.inl hd) hR hA hB;rw[akd hl]at this;exact this) hd C.DY (by simp;omega) Uc (by have:=C.Vx;omega) (ES (by omega) C.QS hk a.t0 a.t1);refine(Ru AZ (Dm (by omega)) this).trans ?_;rw[List.length_map,List.length_range,oV (g:=λi=>pM S P k (c.A+(i:Int))) λi hi=>by
   dsimp only;rw[G6 (λ(i:Nat)=>ep (bC S k).aN (c.A+(i:Int))) hi];rfl]
 ·rw[ake hl]at hc ⊢
  exact kX (H7 (by omega) AZ C.QS a.t0 a.t1 hc (by omega)) (.inl (by show(9:Int)≠6;omega))
def E5(V:Int)(i:Nat):Int:=V/256^i%256
theorem aaU{V:Int}{i:Nat}(hi:i<8)(hV:0<=V/\V<18446744073709551616):wr .u8 (vM .u64 V (wr .i64 (8*(i:Int))))=E5 V i:=by
 have hp:=(agl i).symm;rw[bx (by omega) (by omega),U8 (8*i) (by omega) (by show 8*i<=64;omega),hp];have h:∀x:Int,wr .u8 x=x%256:=λx=>by simp[wr,IntKind.wrap,IntKind.signed,IntKind.bits]
 rw[h];rfl
theorem XG(V:Int)(i:Nat):0<=E5 V i/\E5 V i<=255:=by unfold E5;omega
theorem Sm(P:aj){f g v w:Nat->Int}{k:Nat}(h1:∀i,i<k->f i=g i)(h2:∀i,i<k->v i=w i):MW P f v k=MW P g w k:=by
 induction k with
 |zero=>rfl
 |succ k ih=>unfold MW;rw[ih (λi hi=>h1 i (by omega)) (λi hi=>h2 i (by omega)),h1 k (by omega),h2 k (by omega)]
def YK(S:ae)(P:aj)(k:Nat)(c:aD):aj:=MW P (λi=>ep (bC S k).aN (c.A+(i:Int))) (E5 c.V) c.B.toNat
theorem UW(C:Cw S P M Q)(hA:0<=c.A)(hB:1<=c.B/\c.B<=8)(hl:c.A+c.B<=32*bD (bC S k).aN){j:Nat}{b:Int}(hb:I5 S j b):
  pM S (YK S P k c) j b=if j=k/\c.A<=b/\b<c.A+c.B then E5 c.V (b-c.A).toNat else pM S P j b:=by
 have aar:∀i,i<c.B.toNat->I5 S k (c.A+(i:Int)):=λi hi=>⟨by omega,by omega⟩;obtain⟨h1,h2⟩:=aco (P:=P) (f:=λi=>ep (bC S k).aN (c.A+(i:Int))) (v:=E5 c.V) (k:=c.B.toNat) (λi hi=>(C.adr (aar i hi)).2) (b:=ep (bC S j).aN b) (C.adr hb).2 (λi i' hi hi' e=>by
  have:=(C.apart (aar i hi) (aar i' hi') e).2;omega)
 unfold pM YK;by_cases hc:j=k/\c.A<=b/\b<c.A+c.B
 ·rw[akd hc]
  obtain⟨rfl,c1,c2⟩:=hc;exact h1 (b-c.A).toNat (by omega) (by show ep _ (c.A+((b-c.A).toNat:Int))=_;rw[show c.A+((b-c.A).toNat:Int)=b by omega])
 ·rw[ake hc]
  refine h2 λi hi e=>hc ?_;obtain⟨e1,e2⟩:=C.apart (aar i hi) hb e;exact⟨e1.symm,by omega,by omega⟩
theorem UX(S:ae)(P:aj)(k:Nat)(c:aD):(YK S P k c).eo=P.eo/\(YK S P k c).n=P.n:=Hu _ _ _ _
theorem acB(C:Cw S P M Q)(hA:0<=c.A)(hB:1<=c.B/\c.B<=8)(hl:c.A+c.B<=(bC S k).er):Cw S (YK S P k c) M Q:=by
 obtain⟨f1,f2⟩:=UX S P k c;have hh:=(C.may k).hi;have hlt:∀p,iy P p->iy (YK S P k c) p:=λp hp=>by unfold iy at hp ⊢;rw[f1,f2];exact hp
 refine{C with DY:=Ut C.DY λi _ =>XG _ _,own:=λj p hp=>hlt p (C.own j p hp),Vv:=λp hp=>⟨hlt p (C.Vv p hp).1,(C.Vv p hp).2⟩,YW:=λj a h1 h2=>?_,MZ:=λp p0 p1=>by rw[f1];exact C.MZ p p0 (by rw[f2]at p1;exact p1)};have h0:=(C.may j).lo;have:=UW (P:=P) (k:=k) C hA hB (by omega) (j:=j) (b:=a) ⟨by omega,h2⟩;unfold pM at this;rw[this,ake]
 ·exact C.YW j a h1 h2
 ·rintro⟨rfl,c1,c2⟩;omega
theorem Sv(hn:200<=n)(C:Cw S P M Q)(a:wW true n S t h k)(hd:c.Do=4)(hR:c.R=h)(hA:0<=c.A/\c.A<4294967296)(hB:1<=c.B/\c.B<=8)(hV:0<=c.V/\c.V<18446744073709551616):
  di n S P M Q t c=some (if c.A+c.B<=(bC S k).er then⟨0,0,0⟩else⟨9,0,0⟩,S,if c.A+c.B<=(bC S k).er then YK S P k c else P,M,Q,t):=by
 have hk:=a.kl;have hc:=RN a (C.may k) (.inr ⟨hd,rfl⟩) hR hA hB;have AZ:c.Do≠15:=by omega
 by_cases hl:c.A+c.B<=(bC S k).er
 ·rw[akd hl]at hc ⊢
  rw[akd hl];refine kX ?_ (.inl (by show(0:Int)≠6;omega));obtain⟨m,rfl⟩:∃m,n=m+1+2:=⟨n-3,by omega⟩;rw[zy AZ C.QS a.t0 a.t1 hc (wA a (.inr (.inr hd)) hR) hk a.dS];have Uc:∀i,i<((List.range c.B.toNat).map λ(i:Nat)=>ep (bC S k).aN (c.A+(i:Int))).length->0<=((List.range c.B.toNat).map λ(i:Nat)=>ep (bC S k).aN (c.A+(i:Int))).getD i default/\iy P (((List.range c.B.toNat).map λ(i:Nat)=>ep (bC S k).aN (c.A+(i:Int))).getD i default/32):=by intro i hi;rw[List.length_map,List.length_range]at hi;rw[G6 (λ(i:Nat)=>ep (bC S k).aN (c.A+(i:Int))) hi];obtain⟨q1,q2⟩:=C.adr (C.ad (k:=k) (a:=c.A+(i:Int)) (by omega) (by omega));exact⟨q2,q1⟩
  have:=TF (S:=S) (P:=P) (Q:=Q) (u:=F5 t c [] aB 0) (M':=M) (x0:=az) (b0:=false) (by omega) (by show(0:Int)<=0;omega) (UZ (by omega) a (C.may k) (.inr hd) hR hA.1 hB hl) (by have:=aei a (C.may k) (.inr ⟨hd,rfl⟩) hR hA hB;rw[akd hl]at this;exact this) hd C.DY (by simp;omega) Uc (by have:=C.Vx;omega) (ES (by omega) C.QS hk a.t0 a.t1);refine(Ru AZ (Dm (by omega)) this).trans ?_;rw[List.length_map,List.length_range];unfold YK;rw[Sm P (g:=λi=>ep (bC S k).aN (c.A+(i:Int))) (w:=E5 c.V) (λi hi=>G6 (λ(i:Nat)=>ep (bC S k).aN (c.A+(i:Int))) hi) (λi hi=>aaU (by have hi':i<c.B.toNat:=hi;omega) hV)]
 ·rw[ake hl]at hc ⊢
  rw[ake hl];exact kX (H7 (by omega) AZ C.QS a.t0 a.t1 hc (by omega)) (.inl (by show(9:Int)≠6;omega))
end
end Go.Proofs.Z
namespace Go.Proofs.Z
open Go Go.Bw
theorem N9{l:List Rn}{y:Rn}(h:JB (l++[y])){a:Int}(h0:32*bD l<=a)(h1:a<32*bD l+32*y.N):ep (l++[y]) a=32*y.At+(a-32*bD l):=by obtain⟨g1,g2,_⟩:=zJ.1 h;have hl:=uN g1.YN;have hp:=wu g1.YN;unfold ep;rw[Cb,I1,Iw _ _ _ _ (by omega),IZ y (by omega)];omega
theorem RJ{P:aj}(h:JA P){f:br}(hf:qz f.l)(hm:∀p,cB f.l p->cB P.eo.l p):JA (vY P f):=⟨hf,h.n1,λp hp=>h.fr p (hm p hp),h.bt⟩
section
variable {n:Nat} {S S':ae} {P P':aj} {M:ai} {Q Q':List Int} {t h:Int} {k:Nat} {c:aD}
theorem age(hn:110<=n){p:Int}(C:Cw S P M (p::Q)):∃f:br,mS n S P M (p::Q)=some (true,S,vY P f,M,Q)/\Cw S (vY P f) M Q/\∀x,cB f.l x↔cB P.eo.l x\/x=p:=by
 have hn1:=C.DY.n1;obtain⟨⟨p0,p1,p2⟩,p3⟩:=C.Vv p (by simp);have hql:=C.Vx;rw[List.length_cons]at hql;obtain⟨f,g,e1,e2,_,e3⟩:=Rg hn C.DY.Ox (at_:=p) (k:=1) ⟨by omega,by omega⟩ ⟨by omega,by omega⟩;have hg:g=true:=e2.2 ⟨⟨by omega,by omega,by omega⟩,λq h1 h2=>by rw[show q=p by omega];exact p2⟩;subst hg;obtain⟨f1,f2⟩:=e3 rfl;have f3:∀x,cB f.l x↔cB P.eo.l x\/x=p:=λx=>(f2 x).trans ⟨λh=>h.elim .inl λh=> .inr (by omega),λh=>h.elim .inl λh=> .inr (by omega)⟩;have hb:mN n P p=some (0,vY P f):=by unfold mN;rw[au (by simp;omega),ak (Mf hn C.DY ⟨p0,p1,p2⟩),au (by rfl),bf (eP (by omega) (by omega)),ak e1];rfl
 obtain⟨d1,d2⟩:=List.nodup_cons.1 C.qnd;refine⟨f,?_,⟨⟨f1,hn1,λx hx=>?_,C.DY.bt⟩,C.may,λj x hx=>?_,C.sep,λx hx=>?_,d2,C.QS,C.YW,λx x0 x1=>?_⟩,f3⟩
 ·unfold mS
  rw[au (by simp;omega),bf (eP (by omega) (by simp)),ak (show mN n P (List.getD (p::Q) (Int.toNat 0) default)=some (0,vY P f)from hb),bf (eP (by omega) (by simp;omega))];rfl
 ·rcases(f3 x).1 hx with h|h
  ·exact C.DY.fr x h
  ·show x<P.n;omega
 ·obtain⟨q0,q1,q2⟩:=C.own j x hx
  refine⟨q0,q1,λh=>?_⟩;rcases(f3 x).1 h with h|h
  ·exact q2 h
  ·subst h;exact p3 j hx
 ·obtain⟨⟨q0,q1,q2⟩,q3⟩:=C.Vv x (by simp[hx])
  refine⟨⟨q0,q1,λh=>?_⟩,q3⟩;rcases(f3 x).1 h with h|h
  ·exact q2 h
  ·subst h;exact d1 hx
 ·rcases C.MZ x x0 x1 with h|h|h
  ·exact .inl ((f3 x).2 (.inl h))
  ·rcases List.mem_cons.1 h with h|h
   ·exact .inl ((f3 x).2 (.inr h))
   ·exact .inr (.inl h)
  ·exact .inr (.inr h)
theorem agd(hn:110<=n){ρ:Type}(F:ae->aj->ai->List Int->Int->Option ρ):∀(Q:List Int) (P:aj),Cw S P M Q->∃P',Cw S P' M []/\P'.n=P.n/\P'.bytes=P.bytes/\(∀x,cB P'.eo.l x↔cB P.eo.l x\/x∈Q)/\
  ∀m,Q.length<m->yj (λk36 (cL:ae) (gV:aj) (dh:ai) (cN:(List Int)) (dW:Int)=>bd (mS n cL gV dh cN) λdI=>cn (dI.1) (k36 dI.2.1 dI.2.2.1 dI.2.2.2.1 dI.2.2.2.2 dW) (F dI.2.1 dI.2.2.1 dI.2.2.2.1 dI.2.2.2.2 dW)) m S P M Q t=F S P' M [] t:=by
 intro Q
 induction Q with
 |nil=>intro P C;refine⟨P,C,rfl,rfl,λx=>by simp,λm hm=>?_⟩;obtain⟨m,rfl⟩:∃j,m=j+1:=⟨m-1,by omega⟩;rfl
 |cons p Q ih=>
  intro P C;obtain⟨f,e,C1,hf⟩:=age hn C;obtain⟨P',C2,h1,h2,h3,h4⟩:=ih _ C1;refine⟨P',C2,h1,h2,λx=>?_,λm hm=>?_⟩
  ·rw[h3]
   show cB f.l x\/_ ↔_;rw[hf,List.mem_cons,or_assoc]
  ·obtain⟨m,rfl⟩:∃j,m=j+1:=⟨m-1,by omega⟩
   rw[List.length_cons]at hm;simp only[yj];rw[ak e,aR (by rfl)];exact h4 m (by omega)
theorem Qc(hn:110<=n){w:Int}(C:Cw S P M Q)(hq:Q≠[])(h:eG n S P M Q t c=some (⟨6,0,w⟩,S,P,M,Q,t)):
  ∃P',Cw S P' M []/\P'.n=P.n/\P'.bytes=P.bytes/\(∀x,cB P'.eo.l x↔cB P.eo.l x\/x∈Q)/\di n S P M Q t c=eG n S P' M [] t c:=by
 have hql:=C.Vx;obtain⟨P',h1,h2,h3,h4,h5⟩:=agd (S:=S) (M:=M) (t:=t) hn (λx1 x2 x3 x4 x5=>bd (eG n x1 x2 x3 x4 x5 c) λnQ=>some nQ) Q P C;refine⟨P',h1,h2,h3,h4,?_⟩;have h6:=h5 n (by omega);have hb:((6:Int)==6)&&decide (0<(Q.length:Int)):=by have:=List.length_pos_iff.2 hq;simp;omega
 unfold di;rw[ak h,aU,aU,aR hb];refine Eq.trans h6 ?_;cases eG n S P' M [] t c<;>rfl
theorem Cw.acJ(C:Cw S P M Q)(k:Nat){L:Int}(h1:(bC S k).er<=L)(h2:L<=32*bD (bC S k).aN):Cw (ja S k ⟨(bC S k).aN,L⟩) P M Q:=by
 have hr:∀j,(bC (ja S k ⟨(bC S k).aN,L⟩) j).aN=(bC S j).aN:=λj=>by
  by_cases hj:j=k
  ·subst hj;rw[fL]
  ·rw[sZ _ _ hj]
 have hl:∀j,(bC S j).er<=(bC (ja S k ⟨(bC S k).aN,L⟩) j).er:=λj=>by
  by_cases hj:j=k
  ·subst hj;rw[fL];exact h1
  ·rw[sZ _ _ hj];omega
 refine⟨C.DY,λj=>?_,λj p hp=>C.own j p (by rw[hr]at hp;exact hp),λi j p hij hp=>by rw[hr]at hp ⊢;exact C.sep i j p hij hp,λp hp=>⟨(C.Vv p hp).1,λj=>by rw[hr];exact(C.Vv p hp).2 j⟩,C.qnd,C.QS,λj a q1 q2=>?_,λp p0 p1=>?_⟩
 ·by_cases hj:j=k
  ·subst hj;rw[fL];have:=(C.may j).lo;exact⟨(C.may j).gx,by dsimp only;omega,h2⟩
  ·rw[sZ _ _ hj];exact C.may j
 ·rw[hr]at q2 ⊢
  exact C.YW j a (by have:=hl j;omega) q2
 ·rcases C.MZ p p0 p1 with h|h|⟨j,h⟩
  ·exact .inl h
  ·exact .inr (.inl h)
  ·exact .inr (.inr ⟨j,by rw[hr];exact h⟩)
theorem Kv(S:ae)(P:aj)(k j:Nat)(L a:Int):pM (ja S k ⟨(bC S k).aN,L⟩) P j a=pM S P j a:=by
 unfold pM;by_cases hj:j=k
 ·subst hj;rw[fL]
 ·rw[sZ _ _ hj]
theorem Cw.ajy(C:Cw S P M Q)(k:Nat){v m s:Int}(hin:KS P.eo.l v m){f:br}(hf:qz f.l)(hfm:∀p,cB f.l p↔cB P.eo.l p/\¬(v<=p/\p<v+m))(hs:0<=s/\s<=32*m):
  Cw (ja S k ⟨(bC S k).aN++[⟨v,m⟩],32*bD (bC S k).aN+s⟩) (rZ (vY P f) v m.toNat) M Q/\
  (∀j a,I5 S j a->pM (ja S k ⟨(bC S k).aN++[⟨v,m⟩],32*bD (bC S k).aN+s⟩) (rZ (vY P f) v m.toNat) j a=pM S P j a)/\
  (∀a,32*bD (bC S k).aN<=a->a<32*bD (bC S k).aN+32*m->pM (ja S k ⟨(bC S k).aN++[⟨v,m⟩],32*bD (bC S k).aN+s⟩) (rZ (vY P f) v m.toNat) k a=0):=by
 obtain⟨⟨o1,o2,o3⟩,adE⟩:=id hin;have hn1:=C.DY.n1;have z1:=(tA (vY P f) v m.toNat).1;have z2:=(tA (vY P f) v m.toNat).2;have hno:∀p,v<=p->p<v+m->∀j,¬cB (bC S j).aN p:=λp p0 p1 j hp=>(C.own j p hp).2.2 (adE p p0 p1);have hmay:qg ⟨(bC S k).aN++[⟨v,m⟩],32*bD (bC S k).aN⟩:=KH (C.may k) ⟨o1,o2,o3⟩ λp p0 p1=>hno p p0 p1 k;have hsn:bD ((bC S k).aN++[(⟨v,m⟩:Rn)])=bD (bC S k).aN+m:=by rw[nT,qW]
 have Px:=(C.may k).gx.pos;have hlen:=(C.may k).hi;have hlo:=(C.may k).lo;have hmem:∀j p,cB (bC (ja S k ⟨(bC S k).aN++[⟨v,m⟩],32*bD (bC S k).aN+s⟩) j).aN p↔cB (bC S j).aN p\/(j=k/\v<=p/\p<v+m):=λj p=>by
  by_cases hj:j=k
  ·subst hj
   rw[fL];show cB ((bC S j).aN++[⟨v,m⟩]) p↔_;rw[KF];simp
  ·rw[sZ _ _ hj];simp[hj]
 have hlt:∀p,iy P p->iy (rZ (vY P f) v m.toNat) p:=λp ⟨q0,q1,q2⟩=>⟨q0,by rw[z2];exact q1,λh=>by rw[z1]at h;exact q2 ((hfm p).1 h).1⟩;have hby:∀b,0<=b->¬(v<=b/32/\b/32<v+m)->Hg (rZ (vY P f) v m.toNat) b=Hg P b:=λb b0 b1=>by rw[Qw _ o2 _ b0,ake (by omega)];rfl
 have hz:∀b,0<=b->v<=b/32->b/32<v+m->Hg (rZ (vY P f) v m.toNat) b=0:=λb b0 b1 b2=>by rw[Qw _ o2 _ b0,akd (by omega)]
 have old:∀j a,I5 S j a->pM (ja S k ⟨(bC S k).aN++[⟨v,m⟩],32*bD (bC S k).aN+s⟩) (rZ (vY P f) v m.toNat) j a=pM S P j a:=λj a ha=>by
  obtain⟨m1,m2⟩:=xJ (C.may j).gx.gd ha;have e:ep (bC (ja S k ⟨(bC S k).aN++[⟨v,m⟩],32*bD (bC S k).aN+s⟩) j).aN a=ep (bC S j).aN a:=by
   by_cases hj:j=k
   ·subst hj;rw[fL];exact Qe (C.may j).gx.gd ha
   ·rw[sZ _ _ hj]
  unfold pM;rw[e];exact hby _ m2 λq=>hno _ q.1 q.2 j m1
 have new:∀a,32*bD (bC S k).aN<=a->a<32*bD (bC S k).aN+32*m->pM (ja S k ⟨(bC S k).aN++[⟨v,m⟩],32*bD (bC S k).aN+s⟩) (rZ (vY P f) v m.toNat) k a=0:=λa a0 a1=>by unfold pM;rw[fL];show Hg _ (ep ((bC S k).aN++[⟨v,m⟩]) a)=0;rw[N9 hmay.gx.gd a0 a1];exact hz _ (by dsimp only;omega) (by dsimp only;omega) (by dsimp only;omega)
 refine⟨⟨Qv (RJ C.DY hf λp hp=>((hfm p).1 hp).1) _ _,λj=>?_,λj p hp=>?_,λi j p hij hp hq=>?_,λp hp=>⟨hlt p (C.Vv p hp).1,λj hj=>?_⟩,C.qnd,C.QS,λj a a0 a1=>?_,λp p0 p1=>?_⟩,old,new⟩
 ·by_cases hj:j=k
  ·subst hj;rw[fL];exact⟨hmay.gx,by dsimp only;omega,by dsimp only;rw[hsn];omega⟩
  ·rw[sZ _ _ hj];exact C.may j
 ·rcases(hmem j p).1 hp with hp|⟨_,q0,q1⟩
  ·exact hlt p (C.own j p hp)
  ·refine⟨by omega,by rw[z2];exact C.DY.fr p (adE p q0 q1),λhh=>?_⟩
   rw[z1]at hh;exact((hfm p).1 hh).2 ⟨q0,q1⟩
 ·rcases(hmem i p).1 hp with hp'|⟨hp',q0,q1⟩<;>rcases(hmem j p).1 hq with DZ|⟨DZ,r0,r1⟩
  ·exact C.sep i j p hij hp' DZ
  ·exact hno p r0 r1 i hp'
  ·exact hno p q0 q1 j DZ
  ·exact hij (hp'.trans DZ.symm)
 ·rcases(hmem j p).1 hj with hj|⟨_,q0,q1⟩
  ·exact(C.Vv p hp).2 j hj
  ·exact(C.Vv p hp).1.2.2 (adE p q0 q1)
 ·by_cases hj:j=k
  ·subst hj
   have a0':32*bD (bC S j).aN+s<=a:=by rw[fL]at a0;exact a0
   have a1':a<32*(bD (bC S j).aN+m):=by rw[fL, ← hsn]at *;exact a1
   exact new a (by omega) (by omega)
  ·rw[sZ _ _ hj]at a0 a1
   have h0:=(C.may j).lo;have:=old j a ⟨by omega,a1⟩;unfold pM at this;rw[this];exact C.YW j a a0 a1
 ·rw[z1]
  rw[z2]at p1;rcases C.MZ p p0 p1 with q|q|⟨j,q⟩
  ·by_cases hv:v<=p/\p<v+m
   ·exact .inr (.inr ⟨k,(hmem k p).2 (.inr ⟨rfl,hv⟩)⟩)
   ·exact .inl ((hfm p).2 ⟨q,hv⟩)
  ·exact .inr (.inl q)
  ·exact .inr (.inr ⟨j,(hmem j p).2 (.inl q)⟩)
structure abu(S:ae)(P:aj)(M:ai)(Q:List Int)(k:Nat)(s b:Int)(S':ae)(P':aj)(at_:Int):Prop where
 cw:Cw S' P' M Q
 st:∃l,S'=ja S k ⟨l,at_+s⟩
 lo:(bC S k).er<=at_
 al:at_%b=0
 n:P'.n=P.n
 old:∀j a,I5 S j a->pM S' P' j a=pM S P j a
 YW:∀a,(bC S k).er<=a->I5 S' k a->pM S' P' k a=0
 fit:gh (bC S k) s b=true->at_=AT (bC S k).er b/\(bC S' k).aN=(bC S k).aN/\P'=P
 new:gh (bC S k) s b=false->at_=32*bD (bC S k).aN/\∃v,(bC S' k).aN=(bC S k).aN++[⟨v,fG s⟩]/\KS P.eo.l v (fG s)/\(∀a,a<v->¬KS P.eo.l a (fG s))/\∀p,cB P'.eo.l p↔cB P.eo.l p/\¬(v<=p/\p<v+fG s)
theorem H8(hn:200<=n)(C:Cw S P M Q)(a:wW true n S t h k)(hd:c.Do=2)(hR:c.R=h){s b:Int}(hA:c.A=s)(hB:c.B=b)(ho:uB s b=true):
  (eG n S P M Q t c=some (⟨6,0,0⟩,S,P,M,Q,t)/\gh (bC S k) s b=false/\((S.dR.T.aZ k).gq<bD (bC S k).aN+fG s\/∀v,¬KS P.eo.l v (fG s)))\/
  ∃S' P' at_,eG n S P M Q t c=some (⟨0,at_,0⟩,S',P',M,Q,t)/\abu S P M Q k s b S' P' at_:=by
 have hk:=a.kl;have WW:=aer (by omega) a (C.may k) hd hR hA hB ho;have AZ:c.Do≠15:=by omega
 obtain⟨n1,n2,n3⟩:=Dj ho;obtain⟨⟨s1,s2⟩,o3⟩:=mP.1 ho;have hne:=V9 (by omega) a (C.may k) hd hR hA hB ho;have hql:=C.Vx;have g:=ES (n:=n) (by omega) C.QS hk a.t0 a.t1;cases hf:gh (bC S k) s b with
 |true=>
  rw[hf,akd rfl]at WW;unfold No at hne;rw[hf,akd rfl]at hne;refine .inr ⟨ja S k ⟨(bC S k).aN,AT (bC S k).er b+s⟩,P,AT (bC S k).er b,?_,?_⟩
  ·obtain⟨m,rfl⟩:∃m,n=m+1+2:=⟨n-3,by omega⟩
   rw[zy AZ C.QS a.t0 a.t1 WW (wA a (.inl hd) hR) hk a.dS];have:=E0 (S:=S) (P:=P) (M:=vV M k t) (M':=M) (Q:=Q) (u:=F5 t c [] aB 0) (gk:=[]) (x0:=az) (b0:=false) (by omega) (.inl (by show(0:Int)<=0;omega)) (VX a hd hR) (RD (by omega) a (C.may k) hd hR hA hB ho hf) rfl (by show c.Do≠3/\c.Do≠4;omega) (by simp) (by simp;omega) (by show 0<m+1+2;omega) g;rw[show Q++zv []=Q by simp[zv]]at this;exact Ru AZ hne this
  ·have hm:=LW (C.may k) hf
   obtain⟨f0,f1,f2⟩:=Rr (C.may k) hf;have hc:=C.acJ k (L:=AT (bC S k).er b+s) (by omega) hm.hi;refine⟨hc,⟨_,rfl⟩,f1,(CZ o3).2.2.1,rfl,λj x _ =>Kv _ _ _ _ _ _,λx x0 x1=>?_,λ_ =>⟨rfl,by rw[fL],rfl⟩,λh=>by rw[hf]at h;cases h⟩;rw[Kv];refine C.YW k x x0 ?_;have:=x1.2;rw[fL]at this;exact this
 |false=>
  rw[hf,ake (by simp)]at WW;unfold No at hne;rw[hf,ake (by simp)]at hne;by_cases hq:bD (bC S k).aN+fG s<=(S.dR.T.aZ k).gq
  ·rw[akd hq]at WW hne
   rcases aaG C.DY.Ox (k:=fG s)with⟨e1,e2⟩|⟨v,e1,v0,e2,e3⟩
   ·refine .inl ⟨?_,rfl, .inr e2⟩
    obtain⟨m,rfl⟩:∃m,n=m+1+2:=⟨n-3,by omega⟩;rw[zy AZ C.QS a.t0 a.t1 WW (wA a (.inl hd) hR) hk a.dS];exact TH (by omega) AZ C.DY (by omega) hne e1 g
   ·obtain⟨⟨w1,w2,w3⟩,w4⟩:=id e2
    obtain⟨d,hdn⟩:∃d:Nat,(d:Int)=fG s:=⟨(fG s).toNat,by omega⟩;have hdt:(fG s).toNat=d:=by omega
    obtain⟨m,rfl⟩:∃m,n=m+d+1+1+2:=⟨n-d-4,by omega⟩;obtain⟨f,f1,f2,f3⟩:=TI (S:=S) (P:=P) (M:=vV M k t) (Q:=Q) (m:=m+d+1) (by omega) AZ C.DY (by omega) (by omega) hne e1 v0 e2;obtain⟨G1,G2,G3⟩:=C.ajy k (s:=s) e2 f1 f2 ⟨by omega,by omega⟩;refine .inr ⟨ja S k ⟨(bC S k).aN++[⟨v,fG s⟩],32*bD (bC S k).aN+s⟩,rZ (vY P f) v (fG s).toNat,32*bD (bC S k).aN,?_,?_⟩
    ·rw[zy AZ C.QS a.t0 a.t1 WW (wA a (.inl hd) hR) hk a.dS,f3]
     have ahe:∀p,v<=p->p<v+fG s->iy (vY P f) p:=λp p0 p1=>⟨by omega,C.DY.fr p (w4 p p0 p1),λhh=>((f2 p).1 hh).2 ⟨p0,p1⟩⟩;have hdo:=Xz (by omega) a (C.may k) hd hR hA hB ho hf hq (r:=⟨v,fG s⟩) rfl e2.1 (λp p0 p1 hp=>(C.own k p hp).2.2 (w4 p p0 p1));have:=E0 (S:=S) (P:=rZ (vY P f) v (fG s).toNat) (M:=vV M k t) (M':=M) (Q:=Q) (u:=F5 t c [] ⟨v,fG s⟩ (fG s)) (gk:=[]) (x0:=az) (b0:=false) (by omega) (.inr ⟨by show 0<fG s;omega,hne⟩) (VX a hd hR) hdo rfl (by show c.Do≠3/\c.Do≠4;omega) (by simp) (by simp;omega) (by show 0<m+d+1+1+2;omega) g;rw[show Q++zv []=Q by simp[zv]]at this;exact XC (by omega) AZ v0 (by omega) (by omega) hne (RJ C.DY f1 λp hp=>((f2 p).1 hp).1) ahe ⟨_,this⟩ d 0 m (by omega)
    ·have Px:=(C.may k).gx.pos
     have hlo:=(C.may k).lo;refine⟨G1,⟨_,rfl⟩,(C.may k).hi,?_,(tA _ _ _).2,G2,λx x0 x1=>?_,(λh=>by rw[hf]at h;cases h),λ_ =>⟨rfl,v,by rw[fL],e2,e3,λp=>by rw[(tA _ _ _).1];exact f2 p⟩⟩
     ·rcases o3 with rfl|rfl|rfl|rfl<;>omega
     ·rcases Int.lt_or_le x (32*bD (bC S k).aN)with hx|hx
      ·rw[G2 k x ⟨by omega,hx⟩];exact C.YW k x x0 hx
      ·refine G3 x hx ?_
       have:=x1.2;rw[fL]at this;dsimp only at this;rw[nT,qW]at this;omega
  ·rw[ake hq]at WW
   exact .inl ⟨H7 (by omega) AZ C.QS a.t0 a.t1 WW (by omega),rfl, .inl (by omega)⟩
theorem TN(hn:200<=n)(C:Cw S P M Q)(a:wW true n S t h k)(hd:c.Do=2)(hR:c.R=h){s b:Int}(hA:c.A=s)(hB:c.B=b)(ho:uB s b=true):
  ∃P0 Q0,(P0=P/\Q0=Q\/Q0=[]/\∀p,cB P0.eo.l p↔cB P.eo.l p\/p∈Q)/\Cw S P0 M Q0/\P0.n=P.n/\P0.bytes=P.bytes/\
  ((di n S P M Q t c=some (⟨6,0,0⟩,S,P0,M,Q0,t)/\Q0=[]/\gh (bC S k) s b=false/\((S.dR.T.aZ k).gq<bD (bC S k).aN+fG s\/∀v,¬KS P0.eo.l v (fG s)))\/
  ∃S' P' at_,di n S P M Q t c=some (⟨0,at_,0⟩,S',P',M,Q0,t)/\abu S P0 M Q0 k s b S' P' at_):=by
 rcases H8 hn C a hd hR hA hB ho with⟨e1,e2,e3⟩|⟨S',P',at_,e1,e2⟩
 ·by_cases hq:Q=[]
  ·exact⟨P,Q, .inl ⟨rfl,rfl⟩,C,rfl,rfl, .inl ⟨kX e1 (.inr hq),hq,e2,e3⟩⟩
  ·obtain⟨P0,c1,c2,c3,c4,c5⟩:=Qc (by omega) C hq e1
   refine⟨P0,[], .inr ⟨rfl,c4⟩,c1,c2,c3,?_⟩;rw[c5];rcases H8 hn c1 a hd hR hA hB ho with⟨d1,d2,d3⟩|⟨S',P',at_,d1,d2⟩
   ·exact .inl ⟨d1,rfl,d2,d3⟩
   ·exact .inr ⟨S',P',at_,d1,d2⟩
 ·exact⟨P,Q, .inl ⟨rfl,rfl⟩,C,rfl,rfl, .inr ⟨S',P',at_,kX e1 (.inl (by show(0:Int)≠6;omega)),e2⟩⟩
end
end Go.Proofs.Z
namespace Go.Proofs.Z
open Go Go.Bw
theorem aaT(k:Nat):(256:Int)^k=((256^k:Nat):Int):=(Int.natCast_pow 256 k).symm
theorem adj{V:Int}(hV:0<=V)(k:Nat):JS (E5 V) k=V%256^k:=by
 obtain⟨v,rfl⟩:=Int.eq_ofNat_of_zero_le hV
 induction k with
 |zero=>unfold JS;simp
 |succ k ih=>
  rw[Wq,ih];have h:=Nat.mod_pow_succ (x:=v) (b:=256) (k:=k);have e1:E5 (v:Int) k=((v/256^k%256:Nat):Int):=by unfold E5;rw[aaT];rfl
  have e2:(v:Int)%256^k=((v%256^k:Nat):Int):=by rw[aaT];rfl
  have e3:(v:Int)%256^(k+1)=((v%256^(k+1):Nat):Int):=by rw[aaT];rfl
  rw[e1,e2,e3,h,Int.natCast_add,Int.natCast_mul, ← aaT,Int.mul_comm]
def D4(S:ae)(P:aj)(k:Nat)(a:Int):Int:=JS (λi=>pM S P k (a+(i:Int))) 8
def vT(S:ae)(k:Nat)(a:Int):Prop:=0<=a/\a%8=0/\a+8<=(bC S k).er
instance(S:ae)(k:Nat)(a:Int):Decidable (vT S k a):=by unfold vT;infer_instance
def Wd(S:ae)(P:aj)(k:Nat)(a:Int):Int:=if vT S k a then D4 S P k a else 0
def JN(m:Int->Int)(a v:Int):Int->Int:=λb=>if b=a then v else m b
theorem kJ(m:Int->Int)(a v:Int):JN m a v a=v:=akd rfl
theorem cW(m:Int->Int){a b:Int}(v:Int)(h:b≠a):JN m a v b=m b:=ake h
section
variable {n:Nat} {S S':ae} {P P':aj} {M:ai} {Q Q':List Int} {t h:Int} {k:Nat}
theorem Vt(C:Cw S P M Q)(k:Nat)(a:Int):0<=pM S P k a/\pM S P k a<=255:=RR C.DY _
theorem Ux(C:Cw S P M Q)(k:Nat)(a:Int):0<=D4 S P k a/\D4 S P k a<18446744073709551616:=L5 (k:=8) λi _ =>Vt C k _
theorem z8(C:Cw S P M Q)(k:Nat)(a:Int):0<=Wd S P k a/\Wd S P k a<18446744073709551616:=by
 unfold Wd;split
 ·exact Ux C k a
 ·omega
theorem ahR{a:Int}(h:vT S k a):Wd S P k a=D4 S P k a:=akd h
def yq(d h a b v:Int):aD:=⟨d,h,0,a,b,v⟩
theorem Hi{d a b v:Int}(ha:0<=a/\a<4294967296)(hb:0<=b/\b<4294967296){r:ah}(hc:di n S P M Q t (yq d h a b v)=some (r,S',P',M,Q',t)):nq n S P M Q t d h a b v=some (r,S',P',M,Q',t):=by
 have e:∀x:Int,0<=x/\x<4294967296->uD n x=some (x,true):=λx hx=>by
  unfold uD;rw[Uy hx.1 (by omega)];have:(decide (0<=x)&&decide (x<=4294967295))=true:=by simp;omega
  rw[this]
 unfold nq;rw[ak (e a ha),ak (e b hb),au (by rfl)];show bd (di n S P M Q t (yq d h a b v)) _ =_;rw[ak hc];rfl
theorem Za{w:Bool}(hn:200<=n)(C:Cw S P M Q)(a:wW w n S t h k){x:Int}(h0:0<=x)(h1:x+8<=(bC S k).er):kQ n S P M Q t h x=some (D4 S P k x,0,S,P,M,Q,t):=by have hh:=(C.may k).hi;have hs:=(C.may k).gx.sum;have:di n S P M Q t (yq 3 h x 8 0)=some (if x+8<=(bC S k).er then⟨0,D4 S P k x,0⟩else⟨9,0,0⟩,S,P,M,Q,t):=Wm hn C a (c:=yq 3 h x 8 0) rfl rfl ⟨h0,by show x<_;omega⟩ ⟨by show(1:Int)<=8;omega,by show(8:Int)<=8;omega⟩;rw[akd h1]at this;unfold kQ;rw[ak (Hi ⟨h0,by omega⟩ (by omega) this)];rfl
def swP(S:ae)(P:aj)(k:Nat)(h x v:Int):aj:=YK S P k (yq 4 h x 8 v)
theorem Vb(hn:200<=n)(C:Cw S P M Q)(a:wW true n S t h k){x v:Int}(h0:0<=x)(h1:x+8<=(bC S k).er)(hv:0<=v/\v<18446744073709551616):vq n S P M Q t h x v=some (0,S,swP S P k h x v,M,Q,t)/\Cw S (swP S P k h x v) M Q:=by have hh:=(C.may k).hi;have hs:=(C.may k).gx.sum;have hb:1<=(yq 4 h x 8 v).B/\(yq 4 h x 8 v).B<=8:=⟨by show(1:Int)<=8;omega,by show(8:Int)<=8;omega⟩;have:di n S P M Q t (yq 4 h x 8 v)=some (if x+8<=(bC S k).er then⟨0,0,0⟩else⟨9,0,0⟩,S,if x+8<=(bC S k).er then YK S P k (yq 4 h x 8 v)else P,M,Q,t):=Sv hn C a (c:=yq 4 h x 8 v) rfl rfl ⟨h0,by show x<_;omega⟩ hb hv;rw[akd h1,akd h1]at this;refine⟨?_,acB C h0 hb h1⟩;unfold vq;rw[ak (Hi ⟨h0,by omega⟩ (by omega) this)];rfl
theorem OP(C:Cw S P M Q){x v:Int}(h0:0<=x)(h1:x+8<=(bC S k).er){j:Nat}{b:Int}(hb:I5 S j b):pM S (swP S P k h x v) j b=if j=k/\x<=b/\b<x+8 then E5 v (b-x).toNat else pM S P j b:=by have hh:=(C.may k).hi;exact UW C (c:=yq 4 h x 8 v) h0 ⟨by show(1:Int)<=8;omega,by show(8:Int)<=8;omega⟩ (by show x+8<=_;omega) hb
theorem acz(C:Cw S P M Q){x v:Int}(hx:vT S k x)(hv:0<=v/\v<18446744073709551616):Wd S (swP S P k h x v) k=JN (Wd S P k) x v/\∀j,j≠k->Wd S (swP S P k h x v) j=Wd S P j:=by
 obtain⟨x0,x1,x2⟩:=id hx;constructor
 ·funext b
  unfold JN Wd;by_cases hb:vT S k b
  ·obtain⟨b0,b1,b2⟩:=id hb
   rw[akd hb];by_cases e:b=x
   ·subst e
    rw[akd rfl];unfold D4;rw[oV (g:=E5 v) λi hi=>by
     rw[OP C x0 x2 (C.ad (by omega) (by omega)),akd ⟨rfl,by omega,by omega⟩,show(b+(i:Int)-b).toNat=i by omega],adj hv.1]
    exact Int.emod_eq_of_lt hv.1 hv.2
   ·rw[ake e,akd hb]
    unfold D4;exact oV λi hi=>by rw[OP C x0 x2 (C.ad (by omega) (by omega)),ake (λq=>by obtain⟨_,q1,q2⟩:=q;omega)]
  ·rw[ake hb,ake hb,ake (λ(e:b=x)=>hb (by rw[e];exact hx))]
 ·intro j hj
  funext b;unfold Wd;by_cases hb:vT S j b
  ·obtain⟨b0,b1,b2⟩:=id hb
   rw[akd hb,akd hb];unfold D4;exact oV λi hi=>by rw[OP C x0 x2 (C.ad (by omega) (by omega)),ake (λq=>hj q.1)]
  ·rw[ake hb,ake hb]
theorem aa0{s b at_:Int}(C:Cw S P M Q)(A:abu S P M Q k s b S' P' at_)(h8:(bC S k).er%8=0)(hs:0<=s):∀j,Wd S' P' j=Wd S P j:=by
 obtain⟨l,rfl⟩:=A.st;intro j;funext x;unfold Wd;have hlen:(bC (ja S k ⟨l,at_+s⟩) k).er=at_+s:=by rw[fL]
 have hlo:=A.lo;by_cases hj:j=k
 ·subst hj
  by_cases h1:vT S j x
  ·obtain⟨x0,x1,x2⟩:=id h1
   rw[akd h1,akd ⟨x0,x1,by rw[hlen];omega⟩];unfold D4;exact oV λi hi=>A.old _ _ (C.ad (by omega) (by omega))
  ·rw[ake h1]
   by_cases h2:vT (ja S j ⟨l,at_+s⟩) j x
   ·obtain⟨x0,x1,x2⟩:=id h2
    have h3:(bC S j).er<=x:=by unfold vT at h1;omega
    rw[akd h2];unfold D4;rw[oV (g:=λ_ =>0) λi hi=>A.YW _ (by omega) (A.cw.ad (by omega) (by omega))];rfl
   ·rw[ake h2]
 ·have e:vT (ja S k ⟨l,at_+s⟩) j x↔vT S j x:=by unfold vT;rw[sZ _ _ hj]
  by_cases h1:vT S j x
  ·obtain⟨x0,x1,x2⟩:=id h1
   rw[akd h1,akd (e.2 h1)];unfold D4;exact oV λi hi=>A.old _ _ (C.ad (by omega) (by omega))
  ·rw[ake h1,ake (λq=>h1 (e.1 q))]
theorem QD(hb:P'.bytes=P.bytes):∀j,Wd S P' j=Wd S P j:=by
 intro j;have:∀a,pM S P' j a=pM S P j a:=λa=>by unfold pM Hg;rw[hb]
 funext x;unfold Wd D4;split
 ·exact oV λi _ =>this _
 ·rfl
theorem SW(hn:200<=n)(C:Cw S P M Q)(a:wW true n S t h k){s b:Int}(ho:uB s b=true):
  ∃P0 Q0,(P0=P/\Q0=Q\/Q0=[]/\∀p,cB P0.eo.l p↔cB P.eo.l p\/p∈Q)/\Cw S P0 M Q0/\P0.n=P.n/\P0.bytes=P.bytes/\
  ((eV n S P M Q t h s b=some (0,6,S,P0,M,Q0,t)/\Q0=[]/\gh (bC S k) s b=false/\((S.dR.T.aZ k).gq<bD (bC S k).aN+fG s\/∀v,¬KS P0.eo.l v (fG s)))\/
  ∃S' P' at_,eV n S P M Q t h s b=some (at_,0,S',P',M,Q0,t)/\abu S P0 M Q0 k s b S' P' at_/\0<=at_/\at_<=2048):=by
 obtain⟨⟨s1,s2⟩,o3⟩:=mP.1 ho;have hb:0<=b/\b<4294967296:=by rcases o3 with rfl|rfl|rfl|rfl<;>omega
 obtain⟨P0,Q0,e1,e2,e3,e4,e5⟩:=TN hn C a (c:=yq 2 h s b 0) (s:=s) (b:=b) rfl rfl rfl rfl ho;refine⟨P0,Q0,e1,e2,e3,e4,?_⟩;rcases e5 with⟨f1,f2⟩|⟨S',P',at_,f1,f2⟩
 ·refine .inl ⟨?_,f2⟩
  unfold eV;rw[ak (Hi ⟨by omega,by omega⟩ hb f1),aU];rfl
 ·have h0:=(C.may k).lo
  have h1:=f2.lo;have h2:at_+s<=2048:=by obtain⟨l,rfl⟩:=f2.st;have:=(f2.cw.may k).hi;have:=(f2.cw.may k).gx.sum;rw[fL]at *;dsimp only at *;omega
  refine .inr ⟨S',P',at_,?_,f2,by omega,by omega⟩;unfold eV;rw[ak (Hi ⟨by omega,by omega⟩ hb f1),aU,bx (x:=at_) (by omega) (by omega)]
end
end Go.Proofs.Z
namespace Go.Proofs.Z
open Go Go.Bw
structure Me(n:Nat)(S:ae)(P:aj)(M:ai)(Q:List Int)(t h:Int)(k:Nat):Prop where
 cw:Cw S P M Q
 Gt:wW true n S t h k
 l8:(bC S k).er%8=0
section
variable {n:Nat} {S S':ae} {P P':aj} {M:ai} {Q Q':List Int} {t h:Int} {k:Nat}
theorem Me.set(E:Me n S P M Q t h k){x v:Int}(hn:200<=n)(h1:vT S k x)(hv:0<=v/\v<18446744073709551616):Me n S (swP S P k h x v) M Q t h k:=
 ⟨(Vb hn E.cw E.Gt h1.1 h1.2.2 hv).2,E.Gt,E.l8⟩
theorem Me.alloc(hn:200<=n)(E:Me n S P M Q t h k){s:Int}(ho:uB s 8=true)(hs:s%8=0):
  ∃S' P' Q',(Q=[]->Q'=[])/\P'.n=P.n/\Me n S' P' M Q' t h k/\(∀j,Wd S' P' j=Wd S P j)/\(Q=[]->bD P'.eo.l+bD (bC S' k).aN=bD P.eo.l+bD (bC S k).aN)/\
   ((eV n S P M Q t h s 8=some (0,6,S',P',M,Q',t)/\S'=S/\Q'=[]/\gh (bC S k) s 8=false/\((S.dR.T.aZ k).gq<bD (bC S k).aN+fG s\/∀v,¬KS P'.eo.l v (fG s)))\/
    ∃x l,eV n S P M Q t h s 8=some (x,0,S',P',M,Q',t)/\S'=ja S k ⟨l,x+s⟩/\(bC S k).er<=x/\x%8=0/\0<=x/\x+s<=2048/\
     (gh (bC S k) s 8=true->x=AT (bC S k).er 8/\l=(bC S k).aN/\(Q=[]->∀p,cB P'.eo.l p↔cB P.eo.l p))/\
     (gh (bC S k) s 8=false->x=32*bD (bC S k).aN/\∃v,l=(bC S k).aN++[⟨v,fG s⟩]/\(Q=[]->KS P.eo.l v (fG s)/\(∀a,a<v->¬KS P.eo.l a (fG s))/\∀p,cB P'.eo.l p↔cB P.eo.l p/\¬(v<=p/\p<v+fG s)))):=by
 obtain⟨P0,Q0,e1,e2,e3,e4,e5⟩:=SW hn E.cw E.Gt ho;have hq:Q=[]->Q0=[]:=λhq=>by
  rcases e1 with⟨_,h2⟩|⟨h2,_⟩
  ·rw[h2,hq]
  ·exact h2
 have L8:Q=[]->∀p,cB P0.eo.l p↔cB P.eo.l p:=λhq p=>by
  rcases e1 with⟨h1,_⟩|⟨_,h2⟩
  ·rw[h1]
  ·rw[h2,hq];simp
 rcases e5 with⟨f1,f2,f3,f4⟩|⟨S',P',x,f1,f2,f3,f4⟩
 ·exact⟨S,P0,Q0,hq,e3,⟨e2,E.Gt,E.l8⟩,QD e4,λq=>by rw[Mu e2.DY.Ox E.cw.DY.Ox (L8 q)], .inl ⟨f1,rfl,f2,f3,f4⟩⟩
 ·obtain⟨l,hl⟩:=f2.st
  obtain⟨⟨s1,s2⟩,_⟩:=mP.1 ho;have hw:=aa0 e2 f2 E.l8 (by omega);have hlen:(bC S' k).er=x+s:=by rw[hl,fL]
  have NA:=(f2.cw.may k).hi;have hsx:=(f2.cw.may k).gx.sum;have hal:=f2.al;refine⟨S',P',Q0,hq,f2.n.trans e3,⟨f2.cw,by rw[hl];exact E.Gt.set _ _,by rw[hlen];omega⟩,λj=>(hw j).trans (QD e4 j),λq=>?_, .inr ⟨x,l,f1,hl,f2.lo,f2.al,f3,by omega,λhf=>?_,λhf=>?_⟩⟩
  ·have hfr:=Mu e2.DY.Ox E.cw.DY.Ox (L8 q)
   cases hf:gh (bC S k) s 8 with
   |true=>obtain⟨g1,g2,g3⟩:=f2.fit hf;rw[g2,g3,hfr]
   |false=>
    obtain⟨g1,v,g2,g3,g4,g5⟩:=f2.new hf;have Tf:=DG g3.1;have:=Ez e2.DY.Ox f2.cw.DY.Ox Tf (λp=>by
     rw[g5,fI];constructor
     ·intro hp
      by_cases hr:v<=p/\p<v+fG s
      ·exact .inr hr
      ·exact .inl ⟨hp,hr⟩
     ·rintro(hp|hp)
      ·exact hp.1
      ·exact g3.2 p hp.1 hp.2) (λp hp hq=>by rw[fI]at hq;exact((g5 p).1 hp).2 hq)
    rw[qW,hfr]at this;rw[g2,nT,qW];omega
  ·obtain⟨g1,g2,g3⟩:=f2.fit hf
   rw[hl,fL]at g2;exact⟨g1,g2,λq p=>by rw[g3];exact L8 q p⟩
  ·obtain⟨g1,v,g2,g3,g4,g5⟩:=f2.new hf
   rw[hl,fL]at g2;have hi:Q=[]->∀a,KS P.eo.l a (fG s)↔KS P0.eo.l a (fG s):=λq a=>and_congr_right λ_ =>forall_congr' λp=>imp_congr_right λ_ =>imp_congr_right λ_ =>(L8 q p).symm
   exact⟨g1,v,g2,λq=>⟨(hi q v).2 g3,λa ha=>λhh=>g4 a ha ((hi q a).1 hh),λp=>by rw[g5,L8 q p]⟩⟩
end
theorem EA(S:ae)(k:Nat):ja S k (bC S k)=S:=by have h:iW S.dR.T.aZ k {S.dR.T.aZ k with E:=bC S k}=S.dR.T.aZ:=Eu _ _;unfold ja;rw[h]
theorem SD(S:ae)(k:Nat)(E F:aC):ja (ja S k E) k F=ja S k F:=by
 have h:iW (iW S.dR.T.aZ k {S.dR.T.aZ k with E:=E}) k {(iW S.dR.T.aZ k {S.dR.T.aZ k with E:=E}) k with E:=F}=iW S.dR.T.aZ k {S.dR.T.aZ k with E:=F}:=by
  funext j;unfold iW;by_cases hj:j=k
  ·rw[akd hj,akd hj,akd rfl]
  ·rw[ake hj,ake hj,ake hj]
 unfold ja;dsimp only;rw[h]
structure Ev(S:ae)(P:aj)(Q:List Int)(S':ae)(P':aj)(Q':List Int)(k:Nat):Prop where
 st:∃E,S'=ja S k E
 oth:∀j,j≠k->Wd S' P' j=Wd S P j
 q:Q=[]->Q'=[]
 n:P'.n=P.n
 len:(bC S k).er<=(bC S' k).er
 pg:Q=[]->bD P'.eo.l+bD (bC S' k).aN=bD P.eo.l+bD (bC S k).aN
theorem Ev.refl(S:ae)(P:aj)(Q:List Int)(k:Nat):Ev S P Q S P Q k:=⟨⟨_,(EA S k).symm⟩,λ_ _ =>rfl,id,rfl,Int.le_refl _,λ_ =>rfl⟩
theorem Ev.trans{S S' S'':ae}{P P' P'':aj}{Q Q' Q'':List Int}{k:Nat}(a:Ev S P Q S' P' Q' k)(b:Ev S' P' Q' S'' P'' Q'' k):Ev S P Q S'' P'' Q'' k:=by obtain⟨E,hE⟩:=a.st;obtain⟨F,hF⟩:=b.st;exact⟨⟨F,by rw[hF,hE,SD]⟩,λj hj=>(b.oth j hj).trans (a.oth j hj),λh=>b.q (a.q h),b.n.trans a.n,Int.le_trans a.len b.len,λh=>(b.pg (a.q h)).trans (a.pg h)⟩
section
variable {n:Nat} {S S':ae} {P P':aj} {M:ai} {Q Q':List Int} {t h:Int} {k:Nat}
theorem Me.afP(hn:200<=n)(E:Me n S P M Q t h k){x:Int}(h1:vT S k x):kQ n S P M Q t h x=some (Wd S P k x,0,S,P,M,Q,t):=by rw[ahR h1];exact Za hn E.cw E.Gt h1.1 h1.2.2
end
end Go.Proofs.Z
namespace Go.Proofs.Z
open Go Go.Bw
def YE(p:Int):aj:={n:=p,eo:=⟨[⟨0,p⟩]⟩,bytes:=λ_ =>λ_ =>0}
def Um:ae:={dx with m9:=iW dx.m9 0 true,GQ:=iW dx.GQ 0 true}
def Lc(q:Int):ae:={Um with dR:={T:={fT:=⟨⟨iW (λ_ =>jO) 0 {jO with kS:=true}⟩⟩,aZ:=iW (λ_ =>iS) 0 ⟨0,q,cQ,λ_ =>0⟩},O:=⟨iW (λ_ =>qN) 0 ⟨1,⟨1,0,0⟩⟩⟩,K:=dY}}
theorem zP(q:Int)(k:Nat):bC (Lc q) k=cQ:=by unfold bC Lc iW;dsimp only;split<;>rfl
theorem aiR:qg cQ:=⟨abX JB.nil,by show(0:Int)<=0;omega,by show(0:Int)<=32*bD [];simp[bD]⟩
theorem agi{p:Int}(hp:1<=p/\p<=64):JA (YE p):=⟨DG ⟨hp.1,by omega,by omega⟩,hp.2,λx hx=>by
 obtain h:=fI.1 hx;dsimp only at h;show x<p;omega,λi j=>⟨by show(0:Int)<=0;omega,by show(0:Int)<=255;omega⟩⟩
theorem abJ:Qp bG:=λi _ =>⟨rfl,rfl⟩
theorem ajL{p:Int}(hp:1<=p/\p<=64)(q:Int):Cw (Lc q) (YE p) bG []:=by
 refine⟨agi hp,λk=>by rw[zP];exact aiR,λk x hx=>?_,λk j x _ hx=>?_,λx hx=>by simp at hx,List.nodup_nil,abJ,λk a h1 h2=>?_,λx x0 x1=> .inl (fI.2 ⟨x0,by show x<0+p;have:x<p:=x1;omega⟩)⟩
 ·rw[zP]at hx;exact absurd hx (jA _)
 ·rw[zP]at hx;exact absurd hx (jA _)
 ·rw[zP]at h1 h2
  have h1':0<=a:=h1;have h2':a<32*bD []:=h2;simp[bD]at h2';omega
set_option maxRecDepth 100000 in
theorem ab6{n:Nat}(hn:300<=n){q:Int}(hq:0<=q/\q<=64):wW true n (Lc q) 0 1 0:=by obtain⟨m,rfl⟩:∃m,n=m+300:=⟨n-300,by omega⟩;exact⟨by omega,by kernel_rfl,by kernel_rfl,by omega,by omega,by kernel_rfl,λe=>by kernel_rfl,λ_ e=>by kernel_rfl,hq,⟨false,by kernel_rfl⟩⟩
theorem aiP{n:Nat}(hn:300<=n){p q:Int}(hp:1<=p/\p<=64)(hq:0<=q/\q<=64):Me n (Lc q) (YE p) bG [] 0 1 0:=⟨ajL hp q,ab6 hn hq,by rw[zP];rfl⟩
theorem ajP(p q:Int)(k:Nat):Wd (Lc q) (YE p) k=λ_ =>0:=by funext a;unfold Wd;rw[ake];rintro⟨h1,_,h2⟩;rw[zP]at h2;have:a+8<=0:=h2;omega
theorem agp{p:Int}(hp:1<=p/\p<=64):C6 20000 p=some ⟨[⟨0,p⟩]⟩:=by unfold C6;rw[ake (show¬(64<p)by omega),au (by simp;omega)];rfl
def JY(q:Int):aD:={fb with Do:=1,A:=q}
set_option maxRecDepth 100000 in
theorem ab1{q:Int}(hq:0<=q/\q<=64):cF 20000 Um 0 (JY q) aB=some (Lc q,⟨0,0,1⟩,[]):=by
 have hm:wr .i64 (if 65<q then 65 else q)=q:=by rw[ake (by omega),bx (by omega) (by omega)]
 have hqt:mE 20000 q=some true:=by unfold mE;simp[hq.1,hq.2]
 have hf:uG 20000 eE 0 q=some ((Lc q).dR.T,1,0):=by
  have hT:oa 20000 eE 0 q=some ((Lc q).dR.T,1,0):=by
   unfold oa;rw[n5 (by rfl),au (by rfl),ak hqt,au (b:= !true) rfl]
   kernel_rfl
  have hd:nt 20000 eE 0=some 0:=by kernel_rfl
  unfold uG;rw[ak hT,kW (by rfl) hd];rfl
 have hc:iI 20000 (jF Um 0 (JY q) aB false)=some (.ok (⟨0,0,1⟩,jF (Lc q) 0 (JY q) aB false)):=by
  unfold iI;rw[aU,au (by rfl)];show bd (uG 20000 eE 0 (wr .i64 (if 65<q then 65 else q))) _ =_;rw[hm,ak hf]
  kernel_rfl
 have hd:∃i,IQ 1=some (1,i,iI):=⟨_,rfl⟩;obtain⟨i,hi⟩:=hd;have hk:bY 20000 (jF Um 0 (JY q) aB false)=some (⟨0,0,1⟩,some (jF (Lc q) 0 (JY q) aB false)):=by unfold bY;rw[bf (by kernel_rfl),tc1 (by kernel_rfl),show IQ (jF Um 0 (JY q) aB false).c.Do=_ from hi];exact C3 hc
 unfold cF;rw[aU];show bd (bY 20000 (jF Um 0 (JY q) aB false)) _ =_;rw[ak hk];rfl
theorem ags{p q:Int}(hq:0<=q/\q<=64):di 20000 Um (YE p) bG [] 0 (JY q)=some (⟨0,0,1⟩,Lc q,YE p,bG,[],0):=by
 have WW:gE 20000 Um 0 (JY q)=some 0:=by unfold gE;rw[ak (Dm (by show(1:Int)≠2;omega)),au (by simp),ak (ab1 hq)];rfl
 refine kX ?_ (.inr rfl);rw[show(20000:Nat)=19998+1+1 from rfl]at WW ⊢;rw[VZ (by show(1:Int)≠15;omega) WW (by kernel_rfl)];have:=E0 (n:=19998+1+1) (S:=Um) (P:=YE p) (M:=bG) (M':=bG) (Q:=[]) (u:=F5 0 (JY q) [] aB 0) (gk:=[]) (x0:=az) (b0:=false) (pl:=([],4)) (by omega) (.inl (by show(0:Int)<=0;omega)) (by kernel_rfl) (ab1 hq) rfl ⟨by show(1:Int)≠3;omega,by show(1:Int)≠4;omega⟩ (by simp) (by simp) (by simp) (Rf (t:=0) (by omega) abJ (by omega) (by omega));exact Ru (by show(1:Int)≠15;omega) (Dm (by show(1:Int)≠2;omega)) this
theorem ada{p q s:Int}(hp:1<=p/\p<=64)(hq:q<=64)(ho:uB s 8=true)(h8:s%8=0)(h1:fG s<=p/\fG s<=q):∃S P,eV 20000 (Lc q) (YE p) bG [] 0 1 s 8=some (0,0,S,P,bG,[],0)/\Me 20000 S P bG [] 0 1 0/\P.n=p/\S=ja (Lc q) 0 ⟨[⟨0,fG s⟩],s⟩/\(∀j,Wd S P j=λ_ =>0)/\(∀x,cB P.eo.l x↔fG s<=x/\x<p):=by
 obtain⟨n1,n2,n3⟩:=Dj ho;have E:=aiP (n:=20000) (by omega) hp (show 0<=q/\q<=64 by omega);have hnf:gh (bC (Lc q) 0) s 8=false:=by rw[zP];obtain⟨⟨s1,s2⟩,_⟩:=mP.1 ho;unfold gh;rw[ho,Bool.true_and,decide_eq_false_iff_not];show¬(AT 0 8+s<=32*bD []);simp only[bD,List.map_nil,List.sum_nil];unfold AT;omega
 have hin:KS (YE p).eo.l 0 (fG s):=⟨⟨by omega,by omega,by omega⟩,λx x0 x1=>fI.2 ⟨x0,by show x<0+p;omega⟩⟩;obtain⟨S',P',Q',q1,q2,E',hW,_,hc⟩:=E.alloc (s:=s) (by omega) ho h8;have hQ:Q'=[]:=q1 rfl;subst hQ;rcases hc with⟨e1,e2,e3,e4,e5⟩|⟨x,l,e1,e2,e3,e4,e5,e6,e7,e8⟩
 ·exfalso
  rcases e5 with h|h
  ·have h1:((Lc q).dR.T.aZ 0).gq=q:=rfl
   have h2:bD (bC (Lc q) 0).aN=0:=by rw[zP];rfl
   omega
  ·refine h 0 ⟨⟨by omega,by omega,by omega⟩,λx x0 x1=>?_⟩
   rcases E'.cw.MZ x x0 (by rw[q2];show x<p;omega)with h1|h1|⟨k,h1⟩
   ·exact h1
   ·simp at h1
   ·rw[e2,zP]at h1;exact absurd h1 (jA _)
 ·obtain⟨f1,v,f2,f3⟩:=e8 hnf
  obtain⟨g1,g2,g3⟩:=f3 rfl;have hv:v=0:=by
   have h0:=g1.1.2.1;rcases Int.lt_or_le 0 v with h1|h1
   ·exact absurd hin (g2 0 h1)
   ·omega
  subst hv;have hx:x=0:=by rw[f1,zP];rfl
  subst hx;have hl:l=[⟨0,fG s⟩]:=by rw[f2,zP];rfl
  subst hl;refine⟨S',P',e1,E',q2,by rw[e2,Int.zero_add],λj=>by rw[hW j,ajP],λx=>?_⟩;rw[g3];constructor
  ·rintro⟨h1,h2⟩
   have h1':=fI.1 h1;dsimp only at h1';omega
  ·rintro⟨h1,h2⟩
   exact⟨fI.2 ⟨by show 0<=x;omega,by show x<0+p;omega⟩,by omega⟩
end Go.Proofs.Z
namespace Go.Proofs.Z
open Go Go.Bw Go.Rw
theorem aK{E X Y:Type}{o:Option (Except E X)}{x:X}{f:X->Option Y}{g:E->Option Y}(h:o=some (.ok x)):iL o f g=f x:=by rw[h];rfl
theorem aev{E X Y:Type}{o:Option (Except E X)}{x:E}{f:X->Option Y}{g:E->Option Y}(h:o=some (.error x)):iL o f g=g x:=by rw[h];rfl
structure ME(S:ae)(P:aj)(M:ai)(Q:List Int)(t h:Int)(k:Nat):Prop where
 cw:Cw S P M Q
 Gt:∀n,300<=n->wW true n S t h k
 l8:(bC S k).er%8=0
def nP(L a x:Int):Prop:=0<=x/\x%8=0/\x+32<=L/\L<=2048/\(x+32<=a\/a+24<=x)
section
variable {n:Nat} {S S':ae} {P P':aj} {M:ai} {Q Q':List Int} {t h:Int} {k:Nat} {a b c:Int}
theorem ME.me(E:ME S P M Q t h k)(hn:300<=n):Me n S P M Q t h k:=⟨E.cw,E.Gt n hn,E.l8⟩
theorem ME.of(hA:∀n,300<=n->wW true n S t h k){F:aC}{j:Nat}(hS:S'=ja S j F)(E:Me n S' P' M Q' t h k):ME S' P' M Q' t h k:=⟨E.cw,λn hn=>by rw[hS];exact(hA n hn).set _ _,E.l8⟩
theorem ahE(hn:300<=n)(E:ME S P M Q t h k){x:Int}(h1:vT S k x):aX n S P M Q t h a c x=some (.ok (Wd S P k x,S,P,M,Q,t,h,a,c)):=by unfold aX;rw[ak ((E.me hn).afP (by omega) h1)];rfl
theorem DD(hn:300<=n)(E:ME S P M Q t h k){x:Int}(hr:0<=a/\a<=100000)(hx:0<=x/\x<=100)(h1:vT S k (a+x)):da n S P M Q t h a c x=some (.ok (Wd S P k (a+x),S,P,M,Q,t,h,a,c)):=by unfold da;rw[bx (by omega) (by omega),aK (ahE hn E h1)]
theorem PU(E:ME S P M Q t h k){x v:Int}(h1:vT S k x)(hv:0<=v/\v<18446744073709551616):
  ∃P',(∀{n:Nat} {a c:Int},300<=n->aW n S P M Q t h a c x v=some (.ok (S,P',M,Q,t,h,a,c)))/\ME S P' M Q t h k/\Wd S P' k=JN (Wd S P k) x v/\Ev S P Q S P' Q k:=by
 obtain⟨w1,w2⟩:=acz (h:=h) E.cw h1 hv;refine⟨_,λ{n a c} hn=>?_,⟨((E.me (Nat.le_refl 300)).set (by omega) h1 hv).cw,E.Gt,E.l8⟩,w1,⟨⟨_,(EA S k).symm⟩,w2,id,rfl,Int.le_refl _,λ_ =>rfl⟩⟩;unfold aW;rw[ak (Vb (n:=n) (by omega) E.cw (E.Gt n hn) h1.1 h1.2.2 hv).1];rfl
theorem p8{x:Int}(h0:0<=x)(h1:x<4294967296):gw n (x+1)=some x:=by unfold gw;rw[au (by simp;omega),Bj (by omega) (by omega),bx (by omega) (by omega)];congr 1;omega
theorem xG{x:Int}(hx:nP (bC S k).er b x)(hc:0<=c/\c<64):dV n S P M Q t h a c (x+1)=some (.ok (x,S,P,M,Q,t,h,a,c+1)):=by obtain⟨h1,h2,h3,h4,_⟩:=hx;unfold dV;rw[aU,bx (by omega) (by omega),aU,au (by simp;omega)];exact ak (p8 h1 (by omega))
theorem XJ{x o:Int}(hx:nP (bC S k).er b x)(ho:o=0\/o=8\/o=16\/o=24):vT S k (x+o):=by obtain⟨h1,h2,h3,h4,_⟩:=hx;exact⟨by omega,by omega,by omega⟩
theorem uX(hn:300<=n)(E:ME S P M Q t h k){x o:Int}(hx:nP (bC S k).er b x)(ho:o=0\/o=8\/o=16\/o=24):aX n S P M Q t h a c (wr .i64 (x+o))=some (.ok (Wd S P k (x+o),S,P,M,Q,t,h,a,c)):=by have hi:=XJ hx ho;obtain⟨h1,h2,h3,h4,_⟩:=hx;rw[bx (by omega) (by omega)];exact ahE hn E hi
theorem LU(hn:300<=n)(E:ME S P M Q t h k){x:Int}(hx:nP (bC S k).er b x):aX n S P M Q t h a c (wr .i64 (x+0))=some (.ok (Wd S P k x,S,P,M,Q,t,h,a,c)):=by have:=uX (a:=a) (c:=c) hn E hx (o:=0) (.inl rfl);rw[Int.add_zero]at this ⊢;exact this
theorem Di(E:ME S P M Q t h k){x o v:Int}(hx:nP (bC S k).er b x)(ho:o=0\/o=8\/o=16\/o=24)(hv:0<=v/\v<18446744073709551616):
  ∃P',(∀{n:Nat} {a c:Int},300<=n->aW n S P M Q t h a c (wr .i64 (x+o)) v=some (.ok (S,P',M,Q,t,h,a,c)))/\ME S P' M Q t h k/\Wd S P' k=JN (Wd S P k) (x+o) v/\Ev S P Q S P' Q k:=by
 have hi:=XJ hx ho;obtain⟨h1,h2,h3,h4,_⟩:=hx;rw[bx (by omega) (by omega)];exact PU E hi hv
end
def lz(v:Int):Int:=wr .u64 ((MR .u64 v (vM .u64 v 33))*18397679294719823053)
theorem og(n:Nat)(v:Int):nu n v=some (lz v):=by rw[FQ];rfl
def jf(m:Int->Int):Nat->List Int->Int->Prop
 |0,ps,L=>ps=[]/\L=0
 |d+1,ps,L=>(ps=[]/\L=0)\/∃l x r,ps=l++x::r/\L=x+1/\jf m d l (m (x+16))/\jf m d r (m (x+24))/\∀y∈l++r,lz (m y)<lz (m x)
theorem Ew(m:Int->Int)(d:Nat):jf m d [] 0:=by
 cases d with
 |zero=>exact⟨rfl,rfl⟩
 |succ d=>exact .inl ⟨rfl,rfl⟩
theorem HM{m:Int->Int}:∀{d:Nat} {ps:List Int} {L:Int},jf m d ps L->jf m (d+1) ps L
 |0,_,_,h=> .inl h
 |d+1,_,_, .inl h=> .inl h
 |d+1,_,_, .inr ⟨l,x,r,e1,e2,e3,e4,e5⟩=> .inr ⟨l,x,r,e1,e2,HM e3,HM e4,e5⟩
theorem Bp{m:Int->Int}{ps:List Int}{L:Int}{d e:Nat}(h:jf m d ps L)(hde:d<=e):jf m e ps L:=by
 induction e with
 |zero=>
  obtain rfl:d=0:=by omega
  exact h
 |succ e ih=>
  by_cases hd:d=e+1
  ·exact hd▸h
  ·exact HM (ih (by omega))
theorem pF{m:Int->Int}:∀{d:Nat} {ps:List Int} {L:Int},jf m d ps L->jf m ps.length ps L
 |0,_,_,⟨e1,e2⟩=>by subst e1 e2;exact Ew m _
 |d+1,_,_, .inl ⟨e1,e2⟩=>by subst e1 e2;exact Ew m _
 |d+1,_,_, .inr ⟨l,x,r,e1,e2,e3,e4,e5⟩=>by
  subst e1;have:(l++x::r).length=(l.length+r.length)+1:=by simp;omega
  rw[this];exact .inr ⟨l,x,r,rfl,e2,Bp (pF e3) (by omega),Bp (pF e4) (by omega),e5⟩
theorem qV{m:Int->Int}{d:Nat}{ps:List Int}{L:Int}(h:jf m d ps L)(hp:∀x∈ps,0<=x):L=0↔ps=[]:=by
 cases d with
 |zero=>exact⟨λ_ =>h.1,λ_ =>h.2⟩
 |succ d=>
  rcases h with⟨e1,e2⟩|⟨l,x,r,e1,e2,_⟩
  ·exact⟨λ_ =>e1,λ_ =>e2⟩
  ·subst e1
   have:=hp x (by simp);exact⟨λh=>by omega,λh=>by simp at h⟩
theorem nS{m m':Int->Int}:∀{d:Nat} {ps:List Int} {L:Int},(∀x∈ps,m' x=m x/\m' (x+16)=m (x+16)/\m' (x+24)=m (x+24))->jf m d ps L->jf m' d ps L
 |0,_,_,_,h=>h
 |d+1,_,_,_, .inl h=> .inl h
 |d+1,_,_,hm, .inr ⟨l,x,r,e1,e2,e3,e4,e5⟩=>by
  subst e1;obtain⟨h0,h1,h2⟩:=hm x (by simp);refine .inr ⟨l,x,r,rfl,e2,?_,?_,λy hy=>?_⟩
  ·rw[h1];exact nS (λy hy=>hm y (by simp[hy])) e3
  ·rw[h2];exact nS (λy hy=>hm y (by simp[hy])) e4
  ·rw[h0,(hm y (by simp at hy ⊢;rcases hy with h|h<;>simp[h])).1];exact e5 y hy
theorem vL{m:Int->Int}{d:Nat}{ps:List Int}{L:Int}(h:jf m d ps L)(hL:L≠0):∃e l x r,d=e+1/\ps=l++x::r/\L=x+1/\jf m e l (m (x+16))/\jf m e r (m (x+24))/\∀y∈l++r,lz (m y)<lz (m x):=by
 cases d with
 |zero=>exact absurd h.2 hL
 |succ d=>
  rcases h with⟨_,e2⟩|⟨l,x,r,h⟩
  ·exact absurd e2 hL
  ·exact⟨d,l,x,r,rfl,h⟩
def iK(x y:Int):Prop:=x+32<=y\/y+32<=x
theorem gp{x y:Int}(h:iK x y):iK y x:=Or.symm h
def xA(ps:List Int)(m m':Int->Int):Prop:=∀z,(∀x∈ps,z≠x+16/\z≠x+24)->m' z=m z
theorem Dw(ps:List Int)(m:Int->Int):xA ps m m:=λ_ _ =>rfl
theorem IC{ps:List Int}{m m' m'':Int->Int}(h:xA ps m m')(h':xA ps m' m''):xA ps m m'':=λz hz=>(h' z hz).trans (h z hz)
theorem PI{ps qs:List Int}{m m':Int->Int}(h:xA ps m m')(hs:∀x∈ps,x∈qs):xA qs m m':=λz hz=>h z λx hx=>hz x (hs x hx)
theorem PG{ps:List Int}{m:Int->Int}{x v:Int}(hx:x∈ps){o:Int}(ho:o=16\/o=24):xA ps m (JN m (x+o) v):=λz hz=>by have:=hz x hx;rw[cW _ _ (by rcases ho with rfl|rfl<;>omega)]
theorem Ml{ps:List Int}{m m':Int->Int}(h:xA ps m m'){x:Int}(hx:∀y∈ps,x=y\/iK x y){o:Int}(ho:o=0\/o=8):m' (x+o)=m (x+o):=h _ λy hy=>by
 rcases hx y hy with rfl|h
 ·rcases ho with rfl|rfl<;>constructor<;>omega
 ·unfold iK at h
  rcases ho with rfl|rfl<;>constructor<;>omega
theorem EU{ps:List Int}{m m':Int->Int}(h:xA ps m m'){x:Int}(hx:∀y∈ps,iK x y){o:Int}(ho:0<=o/\o<32):m' (x+o)=m (x+o):=h _ λy hy=>by have:=hx y hy;unfold iK at this;constructor<;>omega
end Go.Proofs.Z
namespace Go.Proofs.Z
open Go Go.Bw Go.Rw
theorem BU{ps:List Int}(h:ps.Pairwise iK){x y:Int}(hx:x∈ps)(hy:y∈ps):x=y\/iK x y:=by
 induction ps with
 |nil=>cases hx
 |cons p r ih=>
  obtain⟨h1,h2⟩:=List.pairwise_cons.1 h;rcases List.mem_cons.1 hx with rfl|hx'
  ·rcases List.mem_cons.1 hy with rfl|hy'
   ·exact .inl rfl
   ·exact .inr (h1 y hy')
  ·rcases List.mem_cons.1 hy with rfl|hy'
   ·exact .inr (gp (h1 x hx'))
   ·exact ih h2 hx' hy'
theorem XA{A B l r:List Int}{x:Int}(h:A++B=l++x::r)(hx:x∉B):∃A2,A=l++x::A2/\r=A2++B:=by
 rcases List.append_eq_append_iff.1 h with⟨q,e1,e2⟩|⟨q,e1,e2⟩
 ·exact absurd (by rw[e2];simp) hx
 ·cases q with
  |nil=>exact absurd (by rw[List.nil_append]at e2;rw[← e2];simp) hx
  |cons y q=>rw[List.cons_append]at e2;injection e2 with e3 e4;subst e3;exact⟨q,e1,e4⟩
theorem RF{A B l r:List Int}{x:Int}(h:A++B=l++x::r)(hx:x∉A):∃B1,l=A++B1/\B=B1++x::r:=by
 rcases List.append_eq_append_iff.1 h with⟨q,e1,e2⟩|⟨q,e1,e2⟩
 ·exact⟨q,e1,e2⟩
 ·cases q with
  |nil=>exact⟨[],by rw[e1];simp,by rw[List.nil_append]at e2 ⊢;exact e2.symm⟩
  |cons y q=>rw[List.cons_append]at e2;injection e2 with e3 e4;subst e3;exact absurd (by rw[e1];simp) hx
theorem zi{m m1 m2:Int->Int}{d:Nat}{wl wr ps l' r':List Int}{x v o:Int}(s9:(wl++x::wr).Pairwise iK)(hf:xA ps m m1)(h2:m2=JN m1 (x+o) v)
  (hc:(o=24/\ps=wr/\jf m d wl (m (x+16))/\l'=wl/\jf m1 d r' v/\∀y∈r',y∈wr)\/(o=16/\ps=wl/\jf m d wr (m (x+24))/\r'=wr/\jf m1 d l' v/\∀y∈l',y∈wl))
  (hh:∀y∈l'++r',lz (m y)<lz (m x)):
  jf m2 (d+1) (l'++x::r') (x+1)/\xA (wl++x::wr) m m2/\(∀y∈wl++x::wr,m2 y=m y)/\∀q,(∀y∈q,y∈ps)->∀e L,jf m1 e q L->jf m2 e q L:=by
 obtain⟨p1,p2,p3⟩:=List.pairwise_append.1 s9;obtain⟨p4,p5⟩:=List.pairwise_cons.1 p2;have hps:∀y∈ps,y∈wl++x::wr/\iK x y:=λy hy=>by
  rcases hc with⟨_,rfl,_⟩|⟨_,rfl,_⟩
  ·exact⟨by simp[hy],p4 y hy⟩
  ·exact⟨by simp[hy],gp (p3 y hy x (by simp))⟩
 have ho:o=16\/o=24:=by rcases hc with⟨h,_⟩|⟨h,_⟩<;>omega
 have hfr:xA (wl++x::wr) m m2:=by rw[h2];exact IC (PI hf λy hy=>(hps y hy).1) (PG (by simp) ho)
 have hk:∀y∈wl++x::wr,m2 y=m y:=λy hy=>by have:=Ml hfr (x:=y) (λz hz=>BU s9 hy hz) (o:=0) (.inl rfl);rwa[Int.add_zero]at this
 have Ra:∀{y:Int},(y=x+16\/y=x+24)->y≠x+o->m2 y=m y:=λ{y} hy hyo=>by
  rw[h2,cW _ _ hyo];rcases hy with rfl|rfl
  ·exact EU hf (λz hz=>(hps z hz).2) ⟨by omega,by omega⟩
  ·exact EU hf (λz hz=>(hps z hz).2) ⟨by omega,by omega⟩
 have hkeep:∀y∈ps,m2 y=m1 y/\m2 (y+16)=m1 (y+16)/\m2 (y+24)=m1 (y+24):=λy hy=>by have:=(hps y hy).2;unfold iK at this;rw[h2];exact⟨cW _ _ (by omega),cW _ _ (by omega),cW _ _ (by omega)⟩
 have zI:∀q,(∀y∈q,y∈ps)->∀e L,jf m1 e q L->jf m2 e q L:=λq hq e L h=>nS (λy hy=>hkeep y (hq y hy)) h;have WI:∀y,y∈wl++wr->(∀z∈ps,iK y z)->m2 y=m y/\m2 (y+16)=m (y+16)/\m2 (y+24)=m (y+24):=λy hy hz=>by
  have hyx:iK y x:=by
   rcases List.mem_append.1 hy with h|h
   ·exact p3 y h x (by simp)
   ·exact gp (p4 y h)
  unfold iK at hyx;refine⟨hk y (by simp at hy ⊢;rcases hy with h|h<;>simp[h]),?_,?_⟩
  ·rw[h2,cW _ _ (by omega)];exact EU hf hz ⟨by omega,by omega⟩
  ·rw[h2,cW _ _ (by omega)];exact EU hf hz ⟨by omega,by omega⟩
 have abV:(∀y∈l'++r',y∈wl++wr)->∀y∈l'++r',lz (m2 y)<lz (m2 x):=λhs y hy=>by have h:=hs y hy;rw[hk y (by simp at h ⊢;rcases h with h|h<;>simp[h]),hk x (by simp)];exact hh y hy
 refine⟨?_,hfr,hk,zI⟩;rcases hc with⟨rfl,rfl,h1,rfl,h3,h4⟩|⟨rfl,rfl,h1,rfl,h3,h4⟩
 ·refine .inr ⟨l',x,r',rfl,rfl,?_,?_,abV λy hy=>?_⟩
  ·rw[Ra (.inl rfl) (by omega)]
   exact nS (λy hy=>WI y (by simp[hy]) λz hz=>p3 y hy z (by simp[hz])) h1
  ·have:=zI r' h4 d v h3
   have e:m2 (x+24)=v:=by rw[h2,kJ]
   rw[e];exact this
  ·rcases List.mem_append.1 hy with h|h
   ·simp[h]
   ·simp[h4 y h]
 ·refine .inr ⟨l',x,r',rfl,rfl,?_,?_,abV λy hy=>?_⟩
  ·have:=zI l' h4 d v h3
   have e:m2 (x+16)=v:=by rw[h2,kJ]
   rw[e];exact this
  ·rw[Ra (.inr rfl) (by omega)]
   exact nS (λy hy=>WI y (by simp[hy]) λz hz=>gp (p3 z hz y (by simp[hy]))) h1
  ·rcases List.mem_append.1 hy with h|h
   ·simp[h4 y h]
   ·simp[h]
section
variable {S:ae} {M:ai} {Q:List Int} {t h:Int} {k:Nat} {a b key:Int}
theorem sq{n:Nat}{P:aj}(E:ME S P M Q t h k){d:Nat}{ps:List Int}{L:Int}(T:jf (Wd S P k) d ps L)(hp:∀x∈ps,nP (bC S k).er b x):0<=L/\L<18446744073709551616:=by
 by_cases hL:L=0
 ·omega
 ·obtain⟨_,l,x,r,_,rfl,rfl,_⟩:=vL T hL
  obtain⟨h1,h2,h3,h4,_⟩:=hp x (by simp);omega
theorem Sz:∀(d:Nat) {n:Nat} {P:aj} {c L:Int} {A B:List Int},301+d<=n->ME S P M Q t h k->jf (Wd S P k) d (A++B) L->(∀x∈A++B,nP (bC S k).er b x)->(A++B).Pairwise iK->
  (∀x∈A,Wd S P k x<key)->(∀x∈B,key<Wd S P k x)->0<=c->c+(A++B).length<=64->
  ∃P' c' La Lb,lG n S P M Q t h a c L key=some (.ok (La,Lb,S,P',M,Q,t,h,a,c'))/\ME S P' M Q t h k/\Ev S P Q S P' Q k/\jf (Wd S P' k) d A La/\jf (Wd S P' k) d B Lb/\xA (A++B) (Wd S P k) (Wd S P' k)/\c<=c'/\c'<=c+(A++B).length:=by
 intro d
 induction d with
 |zero=>intro n P c L A B hn E T _ _ _ _ _ _;obtain⟨n,rfl⟩:∃m,n=m+1:=⟨n-1,by omega⟩;obtain⟨e1,rfl⟩:=T;obtain⟨rfl,rfl⟩:=List.append_eq_nil_iff.1 e1;exact⟨P,c,0,0,rfl,E,Ev.refl _ _ _ _,Ew _ _,Ew _ _,Dw _ _,Int.le_refl _,by simp⟩
 |succ d ih=>
  intro n P c L A B hn E T hp s9 hA hB hc uZ;obtain⟨n,rfl⟩:∃m,n=m+1:=⟨n-1,by omega⟩;by_cases hL:L=0
  ·subst hL
   have e1:=(qV T λx hx=>(hp x hx).1).1 rfl;obtain⟨rfl,rfl⟩:=List.append_eq_nil_iff.1 e1;exact⟨P,c,0,0,rfl,E,Ev.refl _ _ _ _,Ew _ _,Ew _ _,Dw _ _,Int.le_refl _,by simp⟩
  obtain⟨_,l,x,r,hd,e1,rfl,Tl,Tr,hh⟩:=vL T hL;obtain rfl:d=_ :=Nat.succ.inj hd;have hx:nP (bC S k).er b x:=hp x (by rw[e1];simp);have hlen:(A++B).length=l.length+r.length+1:=by rw[e1];simp;omega
  rw[e1]at hp s9;obtain⟨p1,p2,p3⟩:=List.pairwise_append.1 s9;have p5:=(List.pairwise_cons.1 p2).2;have g1:=xG (n:=n) (S:=S) (P:=P) (M:=M) (Q:=Q) (t:=t) (h:=h) (a:=a) (c:=c) hx ⟨hc,by omega⟩;have g2:=LU (n:=n) (a:=a) (c:=c+1) (by omega) E hx;by_cases hk:Wd S P k x<key
  ·obtain⟨A2,rfl,rfl⟩:=XA e1 (λhm=>by have:=hB x hm;omega)
   have g3:=uX (n:=n) (a:=a) (c:=c+1) (by omega) E hx (o:=24) (.inr (.inr (.inr rfl)));obtain⟨P1,c1,La,Lb,f1,f2,f3,f4,f5,f6,f7,f8⟩:=ih (n:=n) (c:=c+1) (by omega) E Tr (λy hy=>hp y (by simp at hy ⊢;rcases hy with h|h<;>simp[h])) p5 (λy hy=>hA y (by simp[hy])) hB (by omega) (by omega);have hLa:=sq (n:=n) f2 f4 (b:=b) (λy hy=>hp y (by simp[hy]));obtain⟨P2,g4,g5,g6,g7⟩:=Di f2 hx (o:=24) (.inr (.inr (.inr rfl))) hLa;obtain⟨q1,q2,q3,q4⟩:=zi (l':=l) (r':=A2) s9 f6 g6 (.inl ⟨rfl,rfl,Tl,rfl,f4,λy hy=>by simp[hy]⟩) (λy hy=>hh y (by simp at hy ⊢;rcases hy with h|h<;>simp[h]));refine⟨P2,c1,x+1,Lb,?_,g5,f3.trans g7,q1,HM (q4 B (λy hy=>by simp[hy]) _ _ f5),by rw[e1];exact q2,by omega,by omega⟩;refine(au (by simp;omega)).trans ?_;refine(aK g1).trans ?_;refine(aK g2).trans ?_;refine(aR (by simpa using hk)).trans ?_;refine(aK g3).trans ?_;refine(aK f1).trans ?_;exact aK (g4 (by omega))
  ·obtain⟨B1,rfl,rfl⟩:=RF e1 (λhm=>by have:=hA x hm;omega)
   have g3:=uX (n:=n) (a:=a) (c:=c+1) (by omega) E hx (o:=16) (.inr (.inr (.inl rfl)));obtain⟨P1,c1,La,Lb,f1,f2,f3,f4,f5,f6,f7,f8⟩:=ih (n:=n) (c:=c+1) (by omega) E Tl (λy hy=>hp y (by simp at hy ⊢;rcases hy with h|h<;>simp[h])) p1 hA (λy hy=>hB y (by simp[hy])) (by omega) (by omega);have hLb:=sq (n:=n) f2 f5 (b:=b) (λy hy=>hp y (by simp[hy]));obtain⟨P2,g4,g5,g6,g7⟩:=Di f2 hx (o:=16) (.inr (.inr (.inl rfl))) hLb;obtain⟨q1,q2,q3,q4⟩:=zi (l':=B1) (r':=r) s9 f6 g6 (.inr ⟨rfl,rfl,Tr,rfl,f5,λy hy=>by simp[hy]⟩) (λy hy=>hh y (by simp at hy ⊢;rcases hy with h|h<;>simp[h]));refine⟨P2,c1,La,x+1,?_,g5,f3.trans g7,HM (q4 A (λy hy=>by simp[hy]) _ _ f4),q1,by rw[e1];exact q2,by omega,by omega⟩;refine(au (by simp;omega)).trans ?_;refine(aK g1).trans ?_;refine(aK g2).trans ?_;refine(au (by simpa using hk)).trans ?_;refine(aK g3).trans ?_;refine(aK f1).trans ?_;exact aK (g4 (by omega))
end
end Go.Proofs.Z
namespace Go.Proofs.Z
open Go Go.Bw Go.Rw
section
variable {S:ae} {M:ai} {Q:List Int} {t h:Int} {k:Nat} {a b key:Int}
theorem Lp{m:Int->Int}{x v o:Int}(ho:o=16\/o=24){d:Nat}{q:List Int}{L:Int}(hq:∀y∈q,iK x y)(h:jf m d q L):jf (JN m (x+o) v) d q L:=
 nS (λy hy=>by
  have:=hq y hy;unfold iK at this;exact⟨cW _ _ (by omega),cW _ _ (by omega),cW _ _ (by omega)⟩) h
theorem L6{d n:Nat}{P:aj}{c L x0:Int}{A B:List Int}(hn:301+d<=n)(E:ME S P M Q t h k)(T:jf (Wd S P k) d (A++B) L)(hp:∀x∈A++B,nP (bC S k).er b x)(s9:(A++B).Pairwise iK)
  (hA:∀x∈A,Wd S P k x<key)(hB:∀x∈B,key<Wd S P k x)(hc:0<=c)(uZ:c+(A++B).length<=64)(hx:nP (bC S k).er b x0)(hk:Wd S P k x0=key)(hap:∀y∈A++B,iK x0 y)(hr:∀y∈A++B,lz (Wd S P k y)<lz key):
  ∃P1 P2 P3 c' La Lb,lG n S P M Q t h a c L key=some (.ok (La,Lb,S,P1,M,Q,t,h,a,c'))/\
   aW n S P1 M Q t h a c' (wr .i64 (x0+16)) La=some (.ok (S,P2,M,Q,t,h,a,c'))/\aW n S P2 M Q t h a c' (wr .i64 (x0+24)) Lb=some (.ok (S,P3,M,Q,t,h,a,c'))/\
   ME S P3 M Q t h k/\Ev S P Q S P3 Q k/\jf (Wd S P3 k) (d+1) (A++x0::B) (x0+1)/\xA (A++x0::B) (Wd S P k) (Wd S P3 k)/\c<=c'/\c'<=c+(A++B).length:=by
 obtain⟨P1,c',La,Lb,f1,f2,f3,f4,f5,f6,f7,f8⟩:=Sz (a:=a) d hn E T hp s9 hA hB hc uZ;obtain⟨P2,g1,g2,g3,g4⟩:=Di f2 hx (o:=16) (.inr (.inr (.inl rfl))) (sq (n:=n) f2 f4 (b:=b) λy hy=>hp y (by simp[hy]));obtain⟨P3,i1,i2,i3,i4⟩:=Di g2 hx (o:=24) (.inr (.inr (.inr rfl))) (sq (n:=n) f2 f5 (b:=b) λy hy=>hp y (by simp[hy]));have hfr:xA (A++x0::B) (Wd S P k) (Wd S P3 k):=by rw[i3,g3];exact IC (IC (PI f6 λy hy=>by simp at hy ⊢;rcases hy with h|h<;>simp[h]) (PG (by simp) (.inl rfl))) (PG (by simp) (.inr rfl))
 have hkey:∀y∈A++x0::B,Wd S P3 k y=Wd S P k y:=λy hy=>by
  have hy':∀z∈A++x0::B,y=z\/iK y z:=λz hz=>by
   by_cases e1:y=x0
   ·subst e1
    by_cases e2:z=y
    ·exact .inl e2.symm
    ·exact .inr (hap z (by simp at hz ⊢;rcases hz with h|h|h<;>simp_all))
   ·have hyy:y∈A++B:=by simp at hy ⊢;rcases hy with h|h|h<;>simp_all
    by_cases e2:z=x0
    ·subst e2;exact .inr (gp (hap y hyy))
    ·exact BU s9 hyy (by simp at hz ⊢;rcases hz with h|h|h<;>simp_all)
  have:=Ml hfr (x:=y) hy' (o:=0) (.inl rfl);rwa[Int.add_zero]at this
 refine⟨P1,P2,P3,c',La,Lb,f1,g1 (by omega),i1 (by omega),i2,(f3.trans g4).trans i4, .inr ⟨A,x0,B,rfl,rfl,?_,?_,λy hy=>?_⟩,hfr,f7,f8⟩
 ·have e:Wd S P3 k (x0+16)=La:=by rw[i3,cW _ _ (by omega),g3,kJ]
  rw[e,i3,g3];exact Lp (.inr rfl) (λy hy=>hap y (by simp[hy])) (Lp (.inl rfl) (λy hy=>hap y (by simp[hy])) f4)
 ·have e:Wd S P3 k (x0+24)=Lb:=by rw[i3,kJ]
  rw[e,i3,g3];exact Lp (.inr rfl) (λy hy=>hap y (by simp[hy])) (Lp (.inl rfl) (λy hy=>hap y (by simp[hy])) f5)
 ·rw[hkey y (by simp at hy ⊢;rcases hy with h|h<;>simp[h]),hkey x0 (by simp),hk]
  exact hr y hy
theorem Ps{x0:Int}:∀(d:Nat) {n:Nat} {P:aj} {c L:Int} {A B:List Int},302+d<=n->ME S P M Q t h k->jf (Wd S P k) d (A++B) L->(∀x∈A++x0::B,nP (bC S k).er b x)->(A++x0::B).Pairwise iK->
  (∀x∈A,Wd S P k x<key)->(∀x∈B,key<Wd S P k x)->0<=c->c+(A++B).length<=64->Wd S P k x0=key->(∀y∈A++B,lz (Wd S P k y)≠lz key)->
  ∃P' c' L',qL n S P M Q t h a c L (x0+1) key=some (.ok (L',S,P',M,Q,t,h,a,c'))/\ME S P' M Q t h k/\Ev S P Q S P' Q k/\jf (Wd S P' k) (d+1) (A++x0::B) L'/\xA (A++x0::B) (Wd S P k) (Wd S P' k):=by
 have Dt:∀{A B:List Int},(A++x0::B).Pairwise iK->(A++B).Pairwise iK/\∀y∈A++B,iK x0 y:=λ{A B} s9=>by have:=List.pairwise_cons.1 ((List.Perm.pairwise_iff gp List.perm_middle).1 s9);exact⟨this.2,this.1⟩
 intro d
 induction d with
 |zero=>intro n P c L A B hn E T hp s9 hA hB hc uZ hk hr;obtain⟨n,rfl⟩:∃m,n=m+1:=⟨n-1,by omega⟩;obtain⟨L9,hap⟩:=Dt s9;have hx:=hp x0 (by simp);have hto:gw n (x0+1)=some x0:=p8 hx.1 (by obtain⟨h1,h2,h3,h4,_⟩:=hx;omega);obtain⟨e1,rfl⟩:=T;obtain⟨P1,P2,P3,c',La,Lb,f1,f2,f3,f4,f5,f6,f7,_⟩:=L6 (a:=a) (d:=0) (n:=n) (L:=0) (by omega) E ⟨e1,rfl⟩ (λx hx=>hp x (by simp at hx ⊢;rcases hx with h|h<;>simp[h])) L9 hA hB hc uZ hx hk hap (λy hy=>by rw[e1]at hy;cases hy);refine⟨P3,c',x0+1,?_,f4,f5,f6,f7⟩;refine(n5 (by rfl)).trans ?_;refine(n5 (by rfl)).trans ?_;refine(aR (by rfl)).trans ?_;refine(aK f1).trans ?_;refine(ak hto).trans ?_;refine(aK f2).trans ?_;refine(ak hto).trans ?_;exact aK f3
 |succ d ih=>
  intro n P c L A B hn E T hp s9 hA hB hc uZ hk hr;obtain⟨n,rfl⟩:∃m,n=m+1:=⟨n-1,by omega⟩;obtain⟨L9,hap⟩:=Dt s9;have hx:=hp x0 (by simp);have hp':∀x∈A++B,nP (bC S k).er b x:=λx hx=>hp x (by simp at hx ⊢;rcases hx with h|h<;>simp[h]);have hto:gw n (x0+1)=some x0:=p8 hx.1 (by obtain⟨h1,h2,h3,h4,_⟩:=hx;omega);by_cases hL:L=0
  ·subst hL
   have e1:=(qV T λx hx=>(hp' x hx).1).1 rfl;obtain⟨P1,P2,P3,c',La,Lb,f1,f2,f3,f4,f5,f6,f7,_⟩:=L6 (a:=a) (n:=n) (by omega) E T hp' L9 hA hB hc uZ hx hk hap (λy hy=>by rw[e1]at hy;cases hy);refine⟨P3,c',x0+1,?_,f4,f5,f6,f7⟩;refine(n5 (by rfl)).trans ?_;refine(n5 (by rfl)).trans ?_;refine(aR (by rfl)).trans ?_;refine(aK f1).trans ?_;refine(ak hto).trans ?_;refine(aK f2).trans ?_;refine(ak hto).trans ?_;exact aK f3
  obtain⟨_,l,x,r,hd,e1,rfl,Tl,Tr,hh⟩:=vL T hL;obtain rfl:d=_ :=Nat.succ.inj hd;have hxm:x∈A++B:=by rw[e1];simp
  have Ub:nP (bC S k).er b x:=hp' x hxm;have S8:gw n (x+1)=some x:=p8 Ub.1 (by obtain⟨h1,h2,h3,h4,_⟩:=Ub;omega);have hLb:((x+1==0)==false)=true:=by have:=Ub.1;simp;omega
  have g1:=LU (n:=n) (a:=a) (c:=c) (by omega) E Ub;by_cases hrk:lz (Wd S P k x)<lz key
  ·obtain⟨P1,P2,P3,c',La,Lb,f1,f2,f3,f4,f5,f6,f7,_⟩:=L6 (a:=a) (n:=n) (by omega) E T hp' L9 hA hB hc uZ hx hk hap (λy hy=>by
    rw[e1]at hy;simp at hy;rcases hy with hy|rfl|hy
    ·exact Int.lt_trans (hh y (by simp[hy])) hrk
    ·exact hrk
    ·exact Int.lt_trans (hh y (by simp[hy])) hrk)
   refine⟨P3,c',x0+1,?_,f4,f5,f6,f7⟩;refine(kW hLb (og n key)).trans ?_;refine(kW hLb S8).trans ?_;refine(au (by simpa using hL)).trans ?_;refine(aK g1).trans ?_;refine(ak (og n _)).trans ?_;refine(aR (by simpa using hrk)).trans ?_;refine(aK f1).trans ?_;refine(ak hto).trans ?_;refine(aK f2).trans ?_;refine(ak hto).trans ?_;exact aK f3
  have WE:lz key<lz (Wd S P k x):=by have:=hr x hxm;omega
  have hlen:(A++B).length=l.length+r.length+1:=by rw[e1];simp;omega
  have g2:=xG (n:=n) (S:=S) (P:=P) (M:=M) (Q:=Q) (t:=t) (h:=h) (a:=a) (c:=c) Ub ⟨hc,by omega⟩;have g3:=LU (n:=n) (a:=a) (c:=c+1) (by omega) E Ub;have hne:Wd S P k x≠key:=λe=>by rw[e]at WE;omega
  by_cases hlt:key<Wd S P k x
  ·obtain⟨B1,rfl,rfl⟩:=RF e1 (λhm=>by have:=hA x hm;omega)
   have hW:(A++x0::B1)++x::r=A++x0::(B1++x::r):=by simp
   rw[← hW]at s9 hp;obtain⟨p1,p2,p3⟩:=List.pairwise_append.1 s9;have g4:=uX (n:=n) (a:=a) (c:=c+1) (by omega) E Ub (o:=16) (.inr (.inr (.inl rfl)));obtain⟨P1,c1,L1,f1,f2,f3,f4,f5⟩:=ih (n:=n) (c:=c+1) (by omega) E Tl (λy hy=>hp y (akk _ hy)) p1 hA (λy hy=>hB y (by simp[hy])) (by omega) (by simp at uZ ⊢;omega) hk (λy hy=>hr y (by simp at hy ⊢;rcases hy with h|h<;>simp[h]));obtain⟨P2,i1,i2,i3,i4⟩:=Di f2 Ub (o:=16) (.inr (.inr (.inl rfl))) (sq (n:=n) f2 f4 (b:=b) λy hy=>hp y (akk _ hy));obtain⟨q1,q2,_,_⟩:=zi (l':=A++x0::B1) (r':=r) s9 f5 i3 (.inr ⟨rfl,rfl,HM Tr,rfl,f4,λy hy=>hy⟩) (λy hy=>by
    simp at hy;rcases hy with hy|rfl|hy|hy
    ·exact hh y (by simp[hy])
    ·rw[hk];exact WE
    ·exact hh y (by simp[hy])
    ·exact hh y (by simp[hy]))
   refine⟨P2,c1,x+1,?_,i2,f3.trans i4,by rw[← hW];exact q1,by rw[← hW];exact q2⟩;refine(kW hLb (og n key)).trans ?_;refine(kW hLb S8).trans ?_;refine(au (by simpa using hL)).trans ?_;refine(aK g1).trans ?_;refine(ak (og n _)).trans ?_;refine(au (by simpa using Int.le_of_lt WE)).trans ?_;refine(aK g2).trans ?_;refine(aU _ _).trans ?_;refine(aK g3).trans ?_;refine(aR (by simpa using hlt)).trans ?_;refine(aK g4).trans ?_;refine(aK f1).trans ?_;exact aK (i1 (by omega))
  ·obtain⟨A2,rfl,rfl⟩:=XA e1 (λhm=>by have:=hB x hm;omega)
   have hW:l++x::(A2++x0::B)=(l++x::A2)++x0::B:=by simp
   rw[← hW]at s9 hp;obtain⟨p1,p2,p3⟩:=List.pairwise_append.1 s9;obtain⟨p4,p5⟩:=List.pairwise_cons.1 p2;have g4:=uX (n:=n) (a:=a) (c:=c+1) (by omega) E Ub (o:=24) (.inr (.inr (.inr rfl)));obtain⟨P1,c1,L1,f1,f2,f3,f4,f5⟩:=ih (n:=n) (c:=c+1) (by omega) E Tr (λy hy=>hp y (akj _ (akp _ hy))) p5 (λy hy=>hA y (by simp[hy])) hB (by omega) (by simp at uZ ⊢;omega) hk (λy hy=>hr y (by simp at hy ⊢;rcases hy with h|h<;>simp[h]));obtain⟨P2,i1,i2,i3,i4⟩:=Di f2 Ub (o:=24) (.inr (.inr (.inr rfl))) (sq (n:=n) f2 f4 (b:=b) λy hy=>hp y (akj _ (akp _ hy)));obtain⟨q1,q2,_,_⟩:=zi (l':=l) (r':=A2++x0::B) s9 f5 i3 (.inl ⟨rfl,rfl,HM Tl,rfl,f4,λy hy=>hy⟩) (λy hy=>by
    simp at hy;rcases hy with hy|hy|rfl|hy
    ·exact hh y (by simp[hy])
    ·exact hh y (by simp[hy])
    ·rw[hk];exact WE
    ·exact hh y (by simp[hy]))
   refine⟨P2,c1,x+1,?_,i2,f3.trans i4,by rw[← hW];exact q1,by rw[← hW];exact q2⟩;refine(kW hLb (og n key)).trans ?_;refine(kW hLb S8).trans ?_;refine(au (by simpa using hL)).trans ?_;refine(aK g1).trans ?_;refine(ak (og n _)).trans ?_;refine(au (by simpa using Int.le_of_lt WE)).trans ?_;refine(aK g2).trans ?_;refine(aU _ _).trans ?_;refine(aK g3).trans ?_;refine(au (by simpa using hlt)).trans ?_;refine(aK g4).trans ?_;refine(aK f1).trans ?_;exact aK (i1 (by omega))
end
end Go.Proofs.Z
namespace Go.Proofs.Z
open Go Go.Bw Go.Rw
section
variable {S:ae} {M:ai} {Q:List Int} {t h:Int} {k:Nat} {a b key:Int}
theorem Ws:∀(N:Nat) {n:Nat} {P:aj} {c La Lb:Int} {dA dB:Nat} {A B:List Int},301+N<=n->A.length+B.length<=N->ME S P M Q t h k->jf (Wd S P k) dA A La->jf (Wd S P k) dB B Lb->(∀x∈A++B,nP (bC S k).er b x)->(A++B).Pairwise iK->
  0<=c->c+(A++B).length<=64->(∀x∈A,∀y∈B,lz (Wd S P k x)≠lz (Wd S P k y))->
  ∃P' c' L',uJ n S P M Q t h a c La Lb=some (.ok (L',S,P',M,Q,t,h,a,c'))/\ME S P' M Q t h k/\Ev S P Q S P' Q k/\jf (Wd S P' k) (A++B).length (A++B) L'/\xA (A++B) (Wd S P k) (Wd S P' k):=by
 intro N
 induction N with
 |zero=>intro n P c La Lb dA dB A B hn hN E TA TB _ _ _ _ _;obtain⟨n,rfl⟩:∃m,n=m+1:=⟨n-1,by omega⟩;obtain rfl:A=[]:=List.length_eq_zero_iff.1 (by omega);obtain rfl:B=[]:=List.length_eq_zero_iff.1 (by omega);obtain rfl:La=0:=(qV TA (by simp)).2 rfl;exact⟨P,c,Lb,rfl,E,Ev.refl _ _ _ _,pF TB,Dw _ _⟩
 |succ N ih=>
  intro n P c La Lb dA dB A B hn hN E TA TB hp s9 hc uZ hr;obtain⟨n,rfl⟩:∃m,n=m+1:=⟨n-1,by omega⟩;by_cases hA:La=0
  ·subst hA
   obtain rfl:=(qV TA λx hx=>(hp x (akk _ hx)).1).1 rfl;exact⟨P,c,Lb,rfl,E,Ev.refl _ _ _ _,pF TB,Dw _ _⟩
  by_cases hB:Lb=0
  ·subst hB
   obtain rfl:=(qV TB λx hx=>(hp x (akj _ hx)).1).1 rfl;refine⟨P,c,La,(au (by simpa using hA)).trans (aR (by rfl)),E,Ev.refl _ _ _ _,?_,Dw _ _⟩;rw[List.append_nil];exact pF TA
  obtain⟨_,l,x,r,_,rfl,rfl,Tl,Tr,hh⟩:=vL TA hA;obtain⟨_,u,y,v,_,rfl,rfl,Tu,Tv,gg⟩:=vL TB hB;have hx:nP (bC S k).er b x:=hp x (by simp);have hy:nP (bC S k).er b y:=hp y (by simp);have S8:gw n (x+1)=some x:=p8 hx.1 (by obtain⟨h1,h2,h3,h4,_⟩:=hx;omega);have agZ:gw n (y+1)=some y:=p8 hy.1 (by obtain⟨h1,h2,h3,h4,_⟩:=hy;omega);have g1:=LU (n:=n) (a:=a) (c:=c) (by omega) E hx;have g2:=LU (n:=n) (a:=a) (c:=c) (by omega) E hy;have hlen:(l++x::r++(u++y::v)).length=l.length+r.length+1+(u.length+v.length+1):=by simp;omega
  rw[hlen]at uZ;have hN':l.length+r.length+1+(u.length+v.length+1)<=N+1:=by simp at hN;omega
  by_cases hlt:lz (Wd S P k y)<lz (Wd S P k x)
  ·have hW:l++x::(r++(u++y::v))=l++x::r++(u++y::v):=by simp
   rw[← hW]at hp s9;obtain⟨p1,p2,p3⟩:=List.pairwise_append.1 s9;obtain⟨p4,p5⟩:=List.pairwise_cons.1 p2;have g3:=xG (n:=n) (S:=S) (P:=P) (M:=M) (Q:=Q) (t:=t) (h:=h) (a:=a) (c:=c) hx ⟨hc,by omega⟩;have g4:=uX (n:=n) (a:=a) (c:=c+1) (by omega) E hx (o:=24) (.inr (.inr (.inr rfl)));obtain⟨P1,c1,L1,f1,f2,f3,f4,f5⟩:=ih (n:=n) (c:=c+1) (by omega) (by simp;omega) E Tr TB (λz hz=>hp z (akj _ (akp _ hz))) p5 (by omega) (by simp;omega) (λz hz w hw=>hr z (by simp[hz]) w hw);obtain⟨P2,i1,i2,i3,i4⟩:=Di f2 hx (o:=24) (.inr (.inr (.inr rfl))) (sq (n:=n) f2 f4 (b:=b) λz hz=>hp z (akj _ (akp _ hz)));obtain⟨q1,q2,_,_⟩:=zi (d:=l.length+(r++(u++y::v)).length) (l':=l) (r':=r++(u++y::v)) s9 f5 i3 (.inl ⟨rfl,rfl,Bp (pF Tl) (by omega),rfl,Bp f4 (by omega),λz hz=>hz⟩) (λz hz=>by
    simp at hz;rcases hz with hz|hz|hz|rfl|hz
    ·exact hh z (by simp[hz])
    ·exact hh z (by simp[hz])
    ·exact Int.lt_trans (gg z (by simp[hz])) hlt
    ·exact hlt
    ·exact Int.lt_trans (gg z (by simp[hz])) hlt)
   rw[← hW];refine⟨P2,c1,x+1,?_,i2,f3.trans i4,pF q1,q2⟩;refine(au (by simpa using hA)).trans ?_;refine(au (by simpa using hB)).trans ?_;refine(ak S8).trans ?_;refine(aK g1).trans ?_;refine(ak (og n _)).trans ?_;refine(ak agZ).trans ?_;refine(aK g2).trans ?_;refine(ak (og n _)).trans ?_;refine(aR (by simpa using hlt)).trans ?_;refine(aK g3).trans ?_;refine(aK g4).trans ?_;refine(aK f1).trans ?_;exact aK (i1 (by omega))
  ·have aak:lz (Wd S P k x)<lz (Wd S P k y):=by
    have:=hr x (by simp) y (by simp);omega
   have hW:(l++x::r++u)++y::v=l++x::r++(u++y::v):=by simp
   rw[← hW]at hp s9;obtain⟨p1,p2,p3⟩:=List.pairwise_append.1 s9;have g3:=xG (n:=n) (S:=S) (P:=P) (M:=M) (Q:=Q) (t:=t) (h:=h) (a:=a) (c:=c) hy ⟨hc,by omega⟩;have g4:=uX (n:=n) (a:=a) (c:=c+1) (by omega) E hy (o:=16) (.inr (.inr (.inl rfl)));obtain⟨P1,c1,L1,f1,f2,f3,f4,f5⟩:=ih (n:=n) (c:=c+1) (by omega) (by simp;omega) E TA Tu (λz hz=>hp z (akk _ hz)) p1 (by omega) (by simp;omega) (λz hz w hw=>hr z hz w (by simp[hw]));obtain⟨P2,i1,i2,i3,i4⟩:=Di f2 hy (o:=16) (.inr (.inr (.inl rfl))) (sq (n:=n) f2 f4 (b:=b) λz hz=>hp z (akk _ hz));obtain⟨q1,q2,_,_⟩:=zi (d:=v.length+(l++x::r++u).length) (l':=l++x::r++u) (r':=v) s9 f5 i3 (.inr ⟨rfl,rfl,Bp (pF Tv) (by omega),rfl,Bp f4 (by omega),λz hz=>hz⟩) (λz hz=>by
    simp at hz;rcases hz with hz|rfl|hz|hz|hz
    ·exact Int.lt_trans (hh z (by simp[hz])) aak
    ·exact aak
    ·exact Int.lt_trans (hh z (by simp[hz])) aak
    ·exact gg z (by simp[hz])
    ·exact gg z (by simp[hz]))
   rw[← hW];refine⟨P2,c1,y+1,?_,i2,f3.trans i4,pF q1,q2⟩;refine(au (by simpa using hA)).trans ?_;refine(au (by simpa using hB)).trans ?_;refine(ak S8).trans ?_;refine(aK g1).trans ?_;refine(ak (og n _)).trans ?_;refine(ak agZ).trans ?_;refine(aK g2).trans ?_;refine(ak (og n _)).trans ?_;refine(au (by simpa using Int.le_of_lt aak)).trans ?_;refine(aK g3).trans ?_;refine(aK g4).trans ?_;refine(aK f1).trans ?_;exact aK (i1 (by omega))
theorem O6{x0:Int}:∀(d:Nat) {n:Nat} {P:aj} {c L:Int} {A B:List Int},302+d+(A++x0::B).length<=n->ME S P M Q t h k->jf (Wd S P k) d (A++x0::B) L->(∀x∈A++x0::B,nP (bC S k).er b x)->(A++x0::B).Pairwise iK->
  (∀x∈A,Wd S P k x<key)->(∀x∈B,key<Wd S P k x)->Wd S P k x0=key->0<=c->c+(A++x0::B).length<=64->(∀x∈A,∀y∈B,lz (Wd S P k x)≠lz (Wd S P k y))->
  ∃P' c' L',qK n S P M Q t h a c L key=some (.ok (L',x0+1,S,P',M,Q,t,h,a,c'))/\ME S P' M Q t h k/\Ev S P Q S P' Q k/\jf (Wd S P' k) (A++B).length (A++B) L'/\xA (A++x0::B) (Wd S P k) (Wd S P' k):=by
 intro d
 induction d with
 |zero=>intro n P c L A B _ _ T;exact absurd T.1 (by simp)
 |succ d ih=>
  intro n P c L A B hn E T hp s9 hA hB hk hc uZ hr;obtain⟨n,rfl⟩:∃m,n=m+1:=⟨n-1,by omega⟩;have hL:L≠0:=λe=>by have:=(qV T λx hx=>(hp x hx).1).1 e;simp at this
  obtain⟨_,l,x,r,hd,e1,rfl,Tl,Tr,hh⟩:=vL T hL;obtain rfl:d=_ :=Nat.succ.inj hd;have hxm:x∈A++x0::B:=by rw[e1];simp
  have hx:nP (bC S k).er b x:=hp x hxm;have hlen:(A++x0::B).length=l.length+r.length+1:=by rw[e1];simp;omega
  rw[hlen]at uZ hn;have g1:=xG (n:=n) (S:=S) (P:=P) (M:=M) (Q:=Q) (t:=t) (h:=h) (a:=a) (c:=c) hx ⟨hc,by omega⟩;have g2:=LU (n:=n) (a:=a) (c:=c+1) (by omega) E hx;have hx0:x0∉B:=λhm=>by have:=hB x0 hm;omega
  by_cases hgt:key<Wd S P k x
  ·obtain⟨B1,rfl,e2⟩:=RF e1 (λhm=>by have:=hA x hm;omega)
   cases B1 with
   |nil=>rw[List.nil_append]at e2;injection e2 with e3 _;subst e3;omega
   |cons z B2=>
    rw[List.cons_append]at e2;injection e2 with e3 e4;subst e3 e4;have hW:A++x0::B2++x::r=A++x0::(B2++x::r):=by simp
    rw[← hW]at hp s9;obtain⟨p1,p2,p3⟩:=List.pairwise_append.1 s9;have g4:=uX (n:=n) (a:=a) (c:=c+1) (by omega) E hx (o:=16) (.inr (.inr (.inl rfl)));obtain⟨P1,c1,L1,f1,f2,f3,f4,f5⟩:=ih (n:=n) (c:=c+1) (by omega) E Tl (λy hy=>hp y (akk _ hy)) p1 hA (λy hy=>hB y (by simp[hy])) hk (by omega) (by omega) (λz hz w hw=>hr z hz w (by simp[hw]));obtain⟨P2,i1,i2,i3,i4⟩:=Di f2 hx (o:=16) (.inr (.inr (.inl rfl))) (sq (n:=n) f2 f4 (b:=b) λy hy=>hp y (by simp at hy ⊢;rcases hy with h|h<;>simp[h]));obtain⟨q1,q2,_,_⟩:=zi (d:=r.length+(A++B2).length) (l':=A++B2) (r':=r) s9 f5 i3 (.inr ⟨rfl,rfl,Bp (pF Tr) (by omega),rfl,Bp f4 (by omega),λy hy=>by simp at hy ⊢;rcases hy with h|h<;>simp[h]⟩) (λy hy=>hh y (by simp at hy ⊢;rcases hy with h|h|h<;>simp[h]));refine⟨P2,c1,x+1,?_,i2,f3.trans i4,by have:=pF q1;rw[List.append_assoc]at this;exact this,by rw[← hW];exact q2⟩;refine(aK g1).trans ?_;refine(aK g2).trans ?_;refine(au (by simp;omega)).trans ?_;refine(aU _ _).trans ?_;refine(aR (by simpa using hgt)).trans ?_;refine(aK g4).trans ?_;refine(aK f1).trans ?_;exact aK (i1 (by omega))
  by_cases hlt:Wd S P k x<key
  ·obtain⟨A2,rfl,rfl⟩:=XA e1 (λhm=>by
    rcases List.mem_cons.1 hm with rfl|hm
    ·omega
    ·have:=hB x hm;omega)
   have hW:l++x::(A2++x0::B)=l++x::A2++x0::B:=by simp
   rw[← hW]at hp s9;obtain⟨p1,p2,p3⟩:=List.pairwise_append.1 s9;obtain⟨p4,p5⟩:=List.pairwise_cons.1 p2;have g4:=uX (n:=n) (a:=a) (c:=c+1) (by omega) E hx (o:=24) (.inr (.inr (.inr rfl)));obtain⟨P1,c1,L1,f1,f2,f3,f4,f5⟩:=ih (n:=n) (c:=c+1) (by omega) E Tr (λy hy=>hp y (akj _ (akp _ hy))) p5 (λy hy=>hA y (by simp[hy])) hB hk (by omega) (by omega) (λz hz w hw=>hr z (by simp[hz]) w hw);obtain⟨P2,i1,i2,i3,i4⟩:=Di f2 hx (o:=24) (.inr (.inr (.inr rfl))) (sq (n:=n) f2 f4 (b:=b) λy hy=>hp y (by simp at hy ⊢;rcases hy with h|h<;>simp[h]));obtain⟨q1,q2,_,_⟩:=zi (d:=l.length+(A2++B).length) (l':=l) (r':=A2++B) s9 f5 i3 (.inl ⟨rfl,rfl,Bp (pF Tl) (by omega),rfl,Bp f4 (by omega),λy hy=>by simp at hy ⊢;rcases hy with h|h<;>simp[h]⟩) (λy hy=>hh y (by simp at hy ⊢;rcases hy with h|h|h<;>simp[h]));refine⟨P2,c1,x+1,?_,i2,f3.trans i4,by have:=pF q1;rw[List.append_assoc];exact this,by rw[← hW];exact q2⟩;refine(aK g1).trans ?_;refine(aK g2).trans ?_;refine(au (by simp;omega)).trans ?_;refine(aU _ _).trans ?_;refine(au (by simpa using hgt)).trans ?_;refine(aK g4).trans ?_;refine(aK f1).trans ?_;exact aK (i1 (by omega))
  ·have Ua:Wd S P k x=key:=by omega
   obtain⟨B1,rfl,e2⟩:=RF e1 (λhm=>by have:=hA x hm;omega);cases B1 with
   |cons z B2=>rw[List.cons_append]at e2;injection e2 with e3 e4;subst e3 e4;have:=hB x (by simp);omega
   |nil=>rw[List.nil_append]at e2;injection e2 with e3 e4;subst e3 e4;rw[List.append_nil]at Tl;have hW:(A++B).Pairwise iK:=(List.pairwise_cons.1 ((List.Perm.pairwise_iff gp List.perm_middle).1 s9)).2;have g3:=uX (n:=n) (a:=a) (c:=c+1) (by omega) E hx (o:=16) (.inr (.inr (.inl rfl)));have g4:=uX (n:=n) (a:=a) (c:=c+1) (by omega) E hx (o:=24) (.inr (.inr (.inr rfl)));simp only[List.append_nil]at hlen uZ hn;obtain⟨P1,c1,L1,f1,f2,f3,f4,f5⟩:=Ws (a:=a) (b:=b) (A.length+B.length) (n:=n) (c:=c+1) (by omega) (Nat.le_refl _) E Tl Tr (λy hy=>hp y (by simp at hy ⊢;rcases hy with h|h<;>simp[h])) hW (by omega) (by rw[List.length_append];omega) hr;refine⟨P1,c1,L1,?_,f2,f3,f4,PI f5 λy hy=>by simp at hy ⊢;rcases hy with h|h<;>simp[h]⟩;refine(aK g1).trans ?_;refine(aK g2).trans ?_;refine(aR (by simpa using Ua)).trans ?_;refine(aK g3).trans ?_;refine(aK g4).trans ?_;exact aK f1
end
end Go.Proofs.Z
namespace Go.Proofs.Z
open Go Go.Bw Go.Rw
section
variable {n:Nat} {S:ae} {P:aj} {M:ai} {Q:List Int} {t h:Int} {k:Nat} {a b c key:Int}
theorem zN(hn:300<=n)(E:ME S P M Q t h k)(hb:0<=a/\a%8=0/\a+24<=(bC S k).er/\(bC S k).er<=2048){d:Nat}{ps:List Int}(T:jf (Wd S P k) d ps (Wd S P k a))(hp:∀x∈ps,nP (bC S k).er b x)(hi:ps.Pairwise λx y=>Wd S P k x<Wd S P k y)(hlen:ps.length<=64):
  ∃r c',kj n S P M Q t h a 0 key=some (.ok (r,S,P,M,Q,t,h,a,c'))/\((∃x∈ps,Wd S P k x=key/\r=x+1)\/r=0/\∀x∈ps,Wd S P k x≠key):=by
 have h0:=DD (c:=0) hn E (a:=a) ⟨hb.1,by omega⟩ (x:=0) (by omega) ⟨by omega,by omega,by omega⟩;rw[Int.add_zero]at h0;unfold kj;rw[aK h0];dsimp only;refine KJ (λ(L:Int) s p m q t' h' a' (c':Int)=>∃d qs,s=S/\p=P/\m=M/\q=Q/\t'=t/\h'=h/\a'=a/\jf (Wd S P k) d qs L/\0<=c'/\c'+qs.length<=64/\(∀y∈qs,y∈ps)/\(∀y∈ps,Wd S P k y=key->y∈qs)/\qs.Pairwise λx y=>Wd S P k x<Wd S P k y) (λ_ _ _ _ _ _ _ _ c'=>(64-c').toNat)
  (λo=>∃r c',o=some (Except.ok (r,S,P,M,Q,t,h,a,c'))/\((∃x∈ps,Wd S P k x=key/\r=x+1)\/r=0/\∀x∈ps,Wd S P k x≠key)) ?_ n _ _ _ _ _ _ _ _ _ ⟨d,ps,rfl,rfl,rfl,rfl,rfl,rfl,rfl,T,by omega,by omega,λ_ h=>h,λ_ h _ =>h,hi⟩ (by omega)
 rintro kk L s p m q t' h' a' c' ⟨d,qs,rfl,rfl,rfl,rfl,rfl,rfl,rfl,T,hc,uZ,hs,hin,hi⟩ ih;by_cases hL:L=0
 ·subst hL
  obtain rfl:=(qV T λx hx=>(hp x (hs x hx)).1).1 rfl;rw[au (by rfl)];exact⟨0,c',rfl, .inr ⟨rfl,λx hx e=>by have:=hin x hx e;cases this⟩⟩
 obtain⟨e,l,x,r,_,rfl,rfl,Tl,Tr,_⟩:=vL T hL;have hx:=hp x (hs x (by simp));have hl:(l++x::r).length=l.length+r.length+1:=by simp;omega
 rw[hl]at uZ;obtain⟨p1,p2,p3⟩:=List.pairwise_append.1 hi;obtain⟨p4,p5⟩:=List.pairwise_cons.1 p2;rw[aR (by simpa using hL),aK (xG hx ⟨hc,by omega⟩),aK (LU hn E hx)];dsimp only;by_cases hk:Wd s p k x=key
 ·rw[aR (by simpa using hk)]
  exact⟨x+1,c'+1,rfl, .inl ⟨x,hs x (by simp),hk,rfl⟩⟩
 rw[au (by simpa using hk)];by_cases hlt:key<Wd s p k x
 ·rw[aR (by simpa using hlt),aK (uX hn E hx (.inr (.inr (.inl rfl))))]
  dsimp only;refine ih _ _ _ _ _ _ _ _ _ ⟨e,l,rfl,rfl,rfl,rfl,rfl,rfl,rfl,Tl,by omega,by omega,λy hy=>hs y (by simp[hy]),λy hy he=>?_,p1⟩ (by omega);have:=hin y hy he;rcases List.mem_append.1 this with h1|h1
  ·exact h1
  ·rcases List.mem_cons.1 h1 with rfl|h1
   ·omega
   ·have:=p4 y h1;omega
 ·rw[au (by simpa using hlt),aK (uX hn E hx (.inr (.inr (.inr rfl))))]
  dsimp only;refine ih _ _ _ _ _ _ _ _ _ ⟨e,r,rfl,rfl,rfl,rfl,rfl,rfl,rfl,Tr,by omega,by omega,λy hy=>hs y (by simp[hy]),λy hy he=>?_,p5⟩ (by omega);have:=hin y hy he;rcases List.mem_append.1 this with h1|h1
  ·have:=p3 y h1 x (by simp);omega
  ·rcases List.mem_cons.1 h1 with rfl|h1
   ·omega
   ·exact h1
def EF(m:Int->Int)(x:Int):bN:=⟨m x,m (x+8)⟩
theorem aey:∀(d:Nat) {n:Nat} {c L:Int} {ps:List Int} {out:List bN},301+d<=n->ME S P M Q t h k->jf (Wd S P k) d ps L->(∀x∈ps,nP (bC S k).er b x)->0<=c->c+ps.length<=64->out.length+ps.length<=1000->
  qb n L S P M Q t h a c out=some (.ok (S,P,M,Q,t,h,a,c+ps.length,out++ps.map (EF (Wd S P k)))):=by
 intro d
 induction d with
 |zero=>intro n c L ps out hn E T _ _ _ _;obtain⟨n,rfl⟩:∃m,n=m+1:=⟨n-1,by omega⟩;obtain⟨rfl,rfl⟩:=T;refine(aR (by rfl)).trans ?_;simp
 |succ d ih=>
  intro n c L ps out hn E T hp hc uZ ho;obtain⟨n,rfl⟩:∃m,n=m+1:=⟨n-1,by omega⟩;by_cases hL:L=0
  ·subst hL
   obtain rfl:=(qV T λx hx=>(hp x hx).1).1 rfl;refine(aR (by rfl)).trans ?_;simp
  obtain⟨_,l,x,r,hd,rfl,rfl,Tl,Tr,_⟩:=vL T hL;obtain rfl:d=_ :=Nat.succ.inj hd;have hx:=hp x (by simp);have hl:(l++x::r).length=l.length+r.length+1:=by simp;omega
  rw[hl]at uZ ho;have f1:=ih (n:=n) (c:=c+1) (out:=out) (by omega) E Tl (λy hy=>hp y (by simp[hy])) (by omega) (by omega) (by omega);have f2:=ih (n:=n) (c:=c+1+l.length) (out:=out++l.map (EF (Wd S P k))++[EF (Wd S P k) x]) (by omega) E Tr (λy hy=>hp y (by simp[hy])) (by omega) (by omega) (by simp;omega);refine(au (by simpa using hL)).trans ?_;refine(aK (xG hx ⟨hc,by omega⟩)).trans ?_;refine(aK (uX (by omega) E hx (.inr (.inr (.inl rfl))))).trans ?_;refine(aK f1).trans ?_;refine(aK (LU (by omega) E hx)).trans ?_;refine(aK (uX (by omega) E hx (.inr (.inl rfl)))).trans ?_;refine(bf (jg (by simp;omega) (by simp;omega))).trans ?_;refine(aU _ _).trans ?_;refine(aK (uX (by omega) E hx (.inr (.inr (.inr rfl))))).trans ?_;refine(aK f2).trans ?_;have e1:c+1+(l.length:Int)+(r.length:Int)=c+((l++x::r).length:Int):=by rw[hl];omega
  have e2:out++l.map (EF (Wd S P k))++[EF (Wd S P k) x]++r.map (EF (Wd S P k))=out++(l++x::r).map (EF (Wd S P k)):=by simp
  rw[← e1, ← e2]
end
end Go.Proofs.Z
