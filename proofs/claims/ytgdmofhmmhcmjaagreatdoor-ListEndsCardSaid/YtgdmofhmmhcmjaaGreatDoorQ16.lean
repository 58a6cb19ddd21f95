/- Part 16 of what a proof leans on; pruned and shortened by a program out of longer texts. -/
import Derived.Test.YtgdmofhmmhcmjaaGreatDoorQ15
namespace Go.Proofs.Z
open Go Go.Bw
def xY(l:List Rn):List Int:=l.flatMap Ez
theorem Tg(y:Rn):(Ez y).length=y.N.toNat:=by simp[Ez]
theorem K4:∀{l:List Rn},(∀y∈l,HW y.At y.N)->(xY l).length<=64*l.length
 |[],_ =>by simp[xY]
 |y::r,h=>by have:=K4 (l:=r) λz hz=>h z (by simp[hz]);obtain⟨h1,h2,h3⟩:=h y (by simp);unfold xY at this ⊢;rw[List.flatMap_cons,List.length_append,Tg,List.length_cons];omega
section
variable {n:Nat} {S S':ae} {P P':aj} {M M':ai} {Q:List Int} {t:Int} {c:aC} {u:aF} {r:ah}
theorem Js(hn:110<=n){fC:List Rn}(hb:∀y∈fC,HW y.At y.N)(hq:Q.length+64*fC.length<=10000)(hbl:fC.length<n)(hg:cU n M u.jS=some M'){ρ:Type}(F:ae×aj×ai×(List Int)×aF×ah×Bool->Option ρ)(x0:ah)(b0:Bool):
  wT (λk51 (vH:Int) (zZ:ae) (tF:aj) (rU:ai) (uh:(List Int))=>cn (decide (vH<(fC.length:Int))) (gu (dm vH fC.length)<|lt ((fC.getD (Int.toNat vH) default):au) λMB=>bd (eZ n zZ tF rU uh MB) λw5=>k51 (wr .i64 (vH+1)) w5.1 w5.2.1 w5.2.2.1 w5.2.2.2) (bd (eK n zZ tF rU uh ({u with xA:=aA}:aF) x0 b0 r) F)) n 0 S P M Q=F (S,P,M',Q++xY fC,{u with xA:=aA},r,true):=by
 refine IS (λ(i:Int) s p m q=>∃j:Nat,i=(j:Int)/\j<=fC.length/\s=S/\p=P/\m=M/\q=Q++xY (fC.take j)) (λi _ _ _ _ =>((fC.length:Int)-i).toNat) (λo=>o=F (S,P,M',Q++xY fC,{u with xA:=aA},r,true)) ?_ n 0 S P M Q ⟨0,rfl,by omega,rfl,rfl,rfl,by simp[xY]⟩ (by omega);rintro kk i s p m q ⟨j,rfl,hj,rfl,rfl,rfl,rfl⟩ ih;by_cases hc:j<fC.length
 ·have hgd:fC.getD (Int.toNat (j:Int)) default=fC[j]:=by rw[aif,List.getD,aik hc];rfl
  have hlen:=K4 (l:=fC.take j) λy hy=>hb y (List.mem_of_mem_take hy);rw[List.length_take]at hlen;rw[aX (by simpa using hc),bR (jd (by omega) (by omega)),aZ,hgd,aq (SN hn _ _ _ _ (by rw[List.length_append];omega) (hb _ (List.getElem_mem hc))),bD (by omega) (by omega)];refine ih _ _ _ _ _ ⟨j+1,by omega,by omega,rfl,rfl,rfl,?_⟩ (by omega);unfold xY;rw[ail hc,List.flatMap_append,List.append_assoc];simp
 ·obtain rfl:j=fC.length:=by omega
  rw[av (by simp),List.take_length,aq (NG (c:={u with xA:=aA}) (by omega) _ _ _ _ _ _ _ (by show(0:Int)<=0;omega) hg)]
theorem Dw(hn:110<=n)(hr:u.xA.N<=0\/(0<u.xA.N/\bH n S u.jS u.C=some u.xA.N)){pl}(hp:cv n S u.C=some pl){fC:List Rn}(hd:cq n S u.jS u.C u.xA=some (S',r,fC))(hE:r.E=0)(h34:u.C.Do≠3/\u.C.Do≠4)(hb:∀y∈fC,HW y.At y.N)(hq:Q.length+64*fC.length<=10000)(hbl:fC.length<n)(hg:cU n M u.jS=some M'){x0:ah}{b0:Bool}:
  cu n S P M Q u x0 b0=some (true,S',P,M',Q++xY fC,{u with xA:=aA},r,true):=by
 have e3:(u.C.Do==3)=false:=by simpa using h34.1
 have e4:(u.C.Do==4)=false:=by simpa using h34.2
 unfold cu;rw[aZ,aZ];rcases hr with hr|⟨hr,hne⟩
 ·rw[qt (by simp;omega),av (by simp;omega)]
  show bd (cv n S u.C) _ =_;rw[aq hp,aq hd,aZ,aZ,av (by rw[hE];rfl),aZ,av e4,av e3];show lt _ _ =_;rw[aZ,aZ];exact Js hn hb hq hbl hg (λg9=>some (true,g9.1,g9.2.1,g9.2.2.1,g9.2.2.2.1,g9.2.2.2.2.1,g9.2.2.2.2.2.1,g9.2.2.2.2.2.2)) _ _
 ·rw[rK (by simp;omega) hne,av (by simp)]
  show bd (cv n S u.C) _ =_;rw[aq hp,aq hd,aZ,aZ,av (by rw[hE];rfl),aZ,av e4,av e3];show lt _ _ =_;rw[aZ,aZ];exact Js hn hb hq hbl hg (λg9=>some (true,g9.1,g9.2.1,g9.2.2.1,g9.2.2.2.1,g9.2.2.2.2.1,g9.2.2.2.2.2.1,g9.2.2.2.2.2.2)) _ _
theorem QS(hn:110<=n)(hr:u.xA.N<=0){pl:List Int}{pe:Int}(hp:cv n S u.C=some (pl,pe))(hd:cq n S u.jS u.C u.xA=some (S',⟨0,0,0⟩,[]))(h3:u.C.Do=3)(hP:HD P)(hl:pl.length<=8)(Rj:∀i,i<pl.length->0<=pl.getD i default/\gL P (pl.getD i default/32))(hq:Q.length<=10000)(hg:cU n M u.jS=some M'){x0:ah}{b0:Bool}:
  cu n S P M Q u x0 b0=some (true,S',P,M',Q,{u with xA:=aA},⟨0,HX (λi=>Fj P (pl.getD i default)) pl.length,0⟩,true):=by
 have e3:(u.C.Do==3)=true:=by simpa using h3
 have e4:(u.C.Do==4)=false:=by rw[h3];rfl
 unfold cu;rw[aZ,aZ,qt (by simp;omega),av (by simp;omega)];show bd (cv n S u.C) _ =_;rw[aq hp,aq hd,aZ,aZ,av (by rfl),aZ,av e4,aX e3];refine(aef hn hP hl Rj _).trans ?_;show lt _ _ =_;rw[aZ,aZ];have:=Js (S:=S') (P:=P) (r:=⟨0,HX (λi=>Fj P (pl.getD i default)) pl.length,0⟩) hn (fC:=[]) (by simp) (by simpa using hq) (by simp;omega) hg (λg9=>some (true,g9.1,g9.2.1,g9.2.2.1,g9.2.2.2.1,g9.2.2.2.2.1,g9.2.2.2.2.2.1,g9.2.2.2.2.2.2)) x0 b0;rw[show Q++xY []=Q by simp[xY]]at this;exact this
theorem QO(hn:110<=n)(hr:u.xA.N<=0){pl:List Int}{pe:Int}(hp:cv n S u.C=some (pl,pe))(hd:cq n S u.jS u.C u.xA=some (S',⟨0,0,0⟩,[]))(h4:u.C.Do=4)(hP:HD P)(hl:pl.length<=8)(Rj:∀i,i<pl.length->0<=pl.getD i default/\gL P (pl.getD i default/32))(hq:Q.length<=10000)(hg:cU n M u.jS=some M'){x0:ah}{b0:Bool}:
  cu n S P M Q u x0 b0=some (true,S',KL P (λi=>pl.getD i default) (λi=>wr .u8 (zE .u64 u.C.V (wr .i64 (8*(i:Int))))) pl.length,M',Q,{u with xA:=aA},⟨0,0,0⟩,true):=by
 have e4:(u.C.Do==4)=true:=by simpa using h4
 unfold cu;rw[aZ,aZ,qt (by simp;omega),av (by simp;omega)];show bd (cv n S u.C) _ =_;rw[aq hp,aq hd,aZ,aZ,av (by rfl),aZ,aX e4];refine(aav hn hP hl Rj _ _ _ _ _ _ _).trans ?_;show lt _ _ =_;rw[aZ,aZ];have:=Js (S:=S') (P:=KL P (λi=>pl.getD i default) (λi=>wr .u8 (zE .u64 u.C.V (wr .i64 (8*(i:Int))))) pl.length) (r:=⟨0,0,0⟩) hn (fC:=[]) (by simp) (by simpa using hq) (by simp;omega) hg (λg9=>some (true,g9.1,g9.2.1,g9.2.2.1,g9.2.2.2.1,g9.2.2.2.2.1,g9.2.2.2.2.2.1,g9.2.2.2.2.2.2)) x0 b0;rw[show Q++xY []=Q by simp[xY]]at this;exact this
theorem YG(hne:bH n S u.jS u.C=some 0){x0:ah}{b0:Bool}:bY n S P M Q u x0 b0=some (false,S,P,M,Q,u,x0,b0):=by unfold bY;rw[aq hne,aX (by rfl)]
theorem Pn{k:Int}(hne:bH n S u.jS u.C=some k)(hr:0<u.xA.N){x0:ah}{b0:Bool}:bY n S P M Q u x0 b0=some (false,S,P,M,Q,u,x0,b0):=by unfold bY;rw[aq hne,aX (by simp;omega)]
theorem Pa{m:Nat}(hd:c.Do≠15)(hne:bH n S t c=some 0){Q':List Int}{u':aF}(hc:cu n S P M Q (En t c [] aA 0) ay false=some (true,S',P',M',Q',u',r,true)):
  vo (mW n c) (m+1) ay S P M Q t (En t c [] aA 0)=some (r,S',P',M',Q',t):=by
 show mW n c _ _ _ _ _ _ _ _ =_;exact ze hd (ZD rfl rfl (YG hne) (by show(0:Int)<=0;omega) hc)
theorem kB{Q':List Int}(h:dX n S P M Q t c=some (r,S',P',M',Q',t))(hE:r.E≠6\/Q'=[]):cy n S P M Q t c=some (r,S',P',M',Q',t):=by
 unfold cy;rw[aq h,aZ,aZ,av]
 ·rfl
 ·rcases hE with h|h
  ·have:(r.E==6)=false:=by simpa using h
   rw[this];rfl
  ·rw[h];simp
end
def uI(P:aj)(f:bg):aj:={P with dF:=f}
def qJ(P:aj)(a:Int):Nat->aj
 |0=>P
 |j+1=>{qJ P a j with bytes:=iB (qJ P a j).bytes (a+j).toNat (λ_ =>0)}
theorem rT(P:aj)(a:Int)(k:Nat):(qJ P a k).dF=P.dF/\(qJ P a k).n=P.n:=by
 induction k with
 |zero=>exact⟨rfl,rfl⟩
 |succ k ih=>exact ih
theorem Oa(P:aj){a:Int}(ha:0<=a)(k:Nat){b:Int}(hb:0<=b):Fj (qJ P a k) b=if a<=b/32/\b/32<a+k then 0 else Fj P b:=by
 induction k with
 |zero=>rw[aib (by omega)];rfl
 |succ k ih=>
  show(iB (qJ P a k).bytes (a+(k:Int)).toNat (λ_ =>0)) (b/32).toNat (b%32).toNat=_;unfold iB;by_cases h:(b/32).toNat=(a+(k:Int)).toNat
  ·rw[aia h,aia (by omega)]
  ·rw[aib h]
   refine Eq.trans ih ?_;by_cases h1:a<=b/32/\b/32<a+(k:Int)
   ·rw[aia h1,aia (by omega)]
   ·rw[aib h1,aib (by omega)]
theorem N9{P:aj}(h:HD P)(a:Int)(k:Nat):HD (qJ P a k):=by
 induction k with
 |zero=>exact h
 |succ k ih=>exact⟨ih.Mu,ih.n1,ih.fr,λi j=>by
   unfold qJ iB;dsimp only;by_cases h1:i=(a+(k:Int)).toNat
   ·rw[aia h1];omega
   ·rw[aib h1];exact ih.bt i j⟩
theorem YF{n:Nat}(hn:110<=n){P:aj}(h:HD P){p:Int}(hp:gL P p):kK n P p=some (0,{P with bytes:=iB P.bytes p.toNat (λ_ =>0)}):=by have:=h.n1;obtain⟨p0,p1,p2⟩:=hp;unfold kK;rw[av (by simp;omega),aq (J8 hn h ⟨p0,p1,p2⟩),av (by rfl),bR (jd (by omega) (by omega))];rfl
section
variable {n:Nat} {S S':ae} {P:aj} {M M':ai} {Q Q':List Int} {t:Int} {c:aC} {r:ah}
theorem UT(hn:110<=n)(hd:c.Do≠15){a k:Int}(ha:0<=a)(hk:0<k)(hk4:k<=64)(hne:bH n S t c=some k)(h:HD P)(hl:∀p,a<=p->p<a+k->gL P p)(hc:∃u',cu n S (qJ P a k.toNat) M Q (En t c [] ⟨a,k⟩ k) ay false=some (true,S',qJ P a k.toNat,M',Q',u',r,true)):
  ∀(d:Nat) (j:Nat) (m:Nat),(j:Int)+d=k->vo (mW n c) (m+d+1) ay S (qJ P a j) M Q t (En t c [] ⟨a,k⟩ j)=some (r,S',qJ P a k.toNat,M',Q',t):=by
 have hn1:=h.n1;intro d
 induction d with
 |zero=>
  intro j m e;obtain⟨u',hc⟩:=hc;have ej:(j:Int)=k:=by omega
  have ej':k.toNat=j:=by omega
  show mW n c _ _ _ _ _ _ _ _ =_;rw[ej']at hc ⊢;rw[ej];exact ze hd (ZD rfl rfl (Pn hne hk) (by show k<=k;omega) hc)
 |succ d ih=>
  intro j m e;show mW n c _ _ _ _ _ _ _ _ =_;have qH:eF n S (qJ P a j) M Q (En t c [] ⟨a,k⟩ j) ay false=some (true,S,qJ P a (j+1),M,Q,En t c [] ⟨a,k⟩ ((j+1:Nat):Int),ay,false):=by have hp:=hl (a+j) (by omega) (by omega);have xy:=hp;obtain⟨q0,q1,q2⟩:=xy;unfold eF;rw[av (by simp;omega)];show bd (kK n (qJ P a j) (wr .i64 (a+(j:Int)))) _ =_;rw[bD (x:=a+(j:Int)) (by omega) (by omega),aq (YF hn (N9 h a j) (by unfold gL at hp ⊢;rw[(rT P a j).1,(rT P a j).2];exact hp)),aZ];show some (true,S,_,M,Q,En t c [] ⟨a,k⟩ (wr .i64 ((j:Int)+1)),ay,false)=_;rw[bD (by omega) (by omega)];rfl
  rw[sV hd (adY rfl rfl (Pn hne hk) qH) (λ_ => .inl rfl)];have:=ih (j+1) m (by omega);rw[show m+(d+1)=m+d+1 by omega];exact this
theorem QU(hn:110<=n)(hd:c.Do≠15)(h:HD P){k:Int}(hk:0<k)(hk4:k<=64)(hne:bH n S t c=some k){m:Nat}{v:Int}(hf:Gw k P.dF.l=(v,true))(hv:0<=v)(hin:HY P.dF.l v k):
  ∃f:bg,pG f.l/\(∀p,bZ f.l p↔bZ P.dF.l p/\¬(v<=p/\p<v+k))/\
   vo (mW n c) (m+1) ay S P M Q t (En t c [] aA 0)=vo (mW n c) m ay S (uI P f) M Q t (En t c [] ⟨v,k⟩ 0):=by
 obtain⟨⟨o1,o2,o3⟩,_⟩:=id hin;obtain⟨f,g,e1,e2,_,e3⟩:=WK hn h.Mu (at_:=v) (k:=k) ⟨by omega,by omega⟩ ⟨by omega,by omega⟩;have hg:g=true:=e2.2 hin;subst hg;obtain⟨f1,f2⟩:=e3 rfl;refine⟨f,f1,f2,?_⟩;show mW n c _ _ _ _ _ _ _ _ =_;have qH:iO n P k=some (v,0,uI P f):=by unfold iO;rw[av (by simp;omega),aq (O8 hn h.Mu k),hf,av (b:= !true) rfl,aq e1];rfl
 have hs:bY n S P M Q (En t c [] aA 0) ay false=some (true,S,uI P f,M,Q,En t c [] ⟨v,k⟩ 0,ay,false):=by unfold bY;rw[aq hne,av (by simp;omega),aq qH,av (by rfl)];rfl
 rw[sV hd (ZE rfl rfl hs) (λ_ => .inl rfl)]
theorem QT(hn:110<=n)(hd:c.Do≠15)(h:HD P){k:Int}(hk:0<k)(hne:bH n S t c=some k){m:Nat}(hf:Gw k P.dF.l=(0,false))(hg:cU n M t=some M'):
  vo (mW n c) (m+1) ay S P M Q t (En t c [] aA 0)=some (⟨6,0,0⟩,S,P,M',Q,t):=by
 show mW n c _ _ _ _ _ _ _ _ =_;have qH:iO n P k=some (0,6,P):=by unfold iO;rw[av (by simp;omega),aq (O8 hn h.Mu k),hf,aX (b:= !false) rfl]
 have hs:bY n S P M Q (En t c [] aA 0) ay false=some (true,S,P,M',Q,En t c [] aA 0,⟨6,0,0⟩,true):=by unfold bY;rw[aq hne,av (by simp;omega),aq qH,aX (by rfl),aq (NG (c:=En t c [] aA 0) (by omega) S P M Q _ _ _ (by show(0:Int)<=0;omega) hg)]
 exact ze hd (ZE rfl rfl hs)
end
end Go.Proofs.Z
namespace Go.Proofs.Z
open Go Go.Bw
theorem wh{l:List Rn}(h:HE l){a:Int}(ha:0<=a/\a<32*bx l):bZ l (dI l a/32)/\0<=dI l a:=by
 have hl:=ta h.V8;have h1:a.toNat<(jN l).length:=by omega
 have hm:dI l a∈jN l:=by unfold dI;rw[List.getD,aik h1];exact List.getElem_mem h1
 have h2:=F6.1 hm;obtain⟨y,hy,h3,h4⟩:=id h2;obtain⟨o1,o2,o3⟩:=h.vg y hy;exact⟨h2,by omega⟩
structure Cw(S:ae)(P:aj)(M:ai)(Q:List Int):Prop where
 Cz:HD P
 may:∀k,o7 (bC S k)
 own:∀k p,bZ (bC S k).aK p->gL P p
 sep:∀k j p,k≠j->bZ (bC S k).aK p->¬bZ (bC S j).aK p
 SO:∀p∈Q,gL P p/\∀k,¬bZ (bC S k).aK p
 qnd:Q.Nodup
 OD:N4 M
 Wm:∀k a,(bC S k).eY<=a->a<32*bx (bC S k).aK->Fj P (dI (bC S k).aK a)=0
 KR:∀p,0<=p->p<P.n->bZ P.dF.l p\/p∈Q\/∃k,bZ (bC S k).aK p
def oI(S:ae)(P:aj)(k:Nat)(a:Int):Int:=Fj P (dI (bC S k).aK a)
def GZ(S:ae)(k:Nat)(a:Int):Prop:=0<=a/\a<32*bx (bC S k).aK
section
variable {n:Nat} {S S':ae} {P P':aj} {M:ai} {Q Q':List Int} {t h:Int} {k:Nat} {c:aC}
theorem Cw.SP(C:Cw S P M Q):Q.length<=64:=vl 64 C.qnd λp hp=>by obtain⟨⟨a,b,_⟩,_⟩:=C.SO p hp;have:=C.Cz.n1;exact⟨a,by show p<64;omega⟩
theorem Cw.adr(C:Cw S P M Q){k:Nat}{a:Int}(ha:GZ S k a):gL P (dI (bC S k).aK a/32)/\0<=dI (bC S k).aK a:=by obtain⟨h1,h2⟩:=wh (C.may k).gx.gd ha;exact⟨C.own k _ h1,h2⟩
theorem Cw.apart(C:Cw S P M Q){k j:Nat}{a b:Int}(ha:GZ S k a)(hb:GZ S j b)(e:dI (bC S k).aK a=dI (bC S j).aK b):k=j/\a=b:=by
 by_cases hk:k=j
 ·subst hk
  exact⟨rfl,NP (C.may k).gx.gd ha hb e⟩
 ·obtain⟨h1,_⟩:=wh (C.may k).gx.gd ha
  obtain⟨h2,_⟩:=wh (C.may j).gx.gd hb;rw[e]at h1;exact absurd h2 (C.sep k j _ hk h1)
theorem Cw.ad(C:Cw S P M Q){k:Nat}{a:Int}(h0:0<=a)(h1:a<(bC S k).eY):GZ S k a:=by have:=(C.may k).hi;exact⟨h0,by omega⟩
theorem Fc(f:Nat->Int){b i:Nat}(h:i<b):((List.range b).map f).getD i default=f i:=by rw[List.getD,List.getElem?_map,List.getElem?_range h];rfl
theorem Ll{w:Bool}(hn:200<=n)(C:Cw S P M Q)(a:tE w n S t h k)(hd:c.Do=3)(hR:c.R=h)(hA:0<=c.A/\c.A<4294967296)(hB:1<=c.B/\c.B<=8):
  cy n S P M Q t c=some (if c.A+c.B<=(bC S k).eY then⟨0,HX (λi=>oI S P k (c.A+(i:Int))) c.B.toNat,0⟩else⟨9,0,0⟩,S,P,M,Q,t):=by
 have hk:=a.kl;have hc:=Pq a (C.may k) (.inl hd) hR hA hB;have zH:c.Do≠15:=by omega
 by_cases hl:c.A+c.B<=(bC S k).eY
 ·rw[aia hl]at hc ⊢
  refine kB ?_ (.inl (by show(0:Int)≠6;omega));obtain⟨m,rfl⟩:∃m,n=m+1+2:=⟨n-3,by omega⟩;rw[yb zH C.OD a.t0 a.t1 hc (ve a (.inr (.inl hd)) hR) hk a.dz];have Rj:∀i,i<((List.range c.B.toNat).map λ(i:Nat)=>dI (bC S k).aK (c.A+(i:Int))).length->0<=((List.range c.B.toNat).map λ(i:Nat)=>dI (bC S k).aK (c.A+(i:Int))).getD i default/\gL P (((List.range c.B.toNat).map λ(i:Nat)=>dI (bC S k).aK (c.A+(i:Int))).getD i default/32):=by intro i hi;rw[List.length_map,List.length_range]at hi;rw[Fc (λ(i:Nat)=>dI (bC S k).aK (c.A+(i:Int))) hi];obtain⟨q1,q2⟩:=C.adr (C.ad (k:=k) (a:=c.A+(i:Int)) (by omega) (by omega));exact⟨q2,q1⟩
  have:=QS (S:=S) (P:=P) (Q:=Q) (u:=En t c [] aA 0) (M':=M) (x0:=ay) (b0:=false) (by omega) (by show(0:Int)<=0;omega) (Sj (by omega) a (C.may k) (.inl hd) hR hA.1 hB hl) (by have:=ack a (C.may k) (.inl hd) hR hA hB;rw[aia hl]at this;exact this) hd C.Cz (by simp;omega) Rj (by have:=C.SP;omega) (Dp (by omega) C.OD hk a.t0 a.t1);refine(Pa zH (BV (by omega)) this).trans ?_;rw[List.length_map,List.length_range,nZ (g:=λi=>oI S P k (c.A+(i:Int))) λi hi=>by
   dsimp only;rw[Fc (λ(i:Nat)=>dI (bC S k).aK (c.A+(i:Int))) hi];rfl]
 ·rw[aib hl]at hc ⊢
  exact kB (F1 (by omega) zH C.OD a.t0 a.t1 hc (by omega)) (.inl (by show(9:Int)≠6;omega))
def DA(V:Int)(i:Nat):Int:=V/256^i%256
theorem YN{V:Int}{i:Nat}(hi:i<8)(hV:0<=V/\V<18446744073709551616):wr .u8 (zE .u64 V (wr .i64 (8*(i:Int))))=DA V i:=by
 have hp:=(aek i).symm;rw[bD (by omega) (by omega),Sy (8*i) (by omega) (by show 8*i<=64;omega),hp];have h:∀x:Int,wr .u8 x=x%256:=λx=>by simp[wr,IntKind.wrap,IntKind.signed,IntKind.bits]
 rw[h];rfl
theorem UY(V:Int)(i:Nat):0<=DA V i/\DA V i<=255:=by unfold DA;omega
theorem PS(P:aj){f g v w:Nat->Int}{k:Nat}(h1:∀i,i<k->f i=g i)(h2:∀i,i<k->v i=w i):KL P f v k=KL P g w k:=by
 induction k with
 |zero=>rfl
 |succ k ih=>unfold KL;rw[ih (λi hi=>h1 i (by omega)) (λi hi=>h2 i (by omega)),h1 k (by omega),h2 k (by omega)]
def Se(S:ae)(P:aj)(k:Nat)(c:aC):aj:=KL P (λi=>dI (bC S k).aK (c.A+(i:Int))) (DA c.V) c.B.toNat
theorem Sc(C:Cw S P M Q)(hA:0<=c.A)(hB:1<=c.B/\c.B<=8)(hl:c.A+c.B<=32*bx (bC S k).aK){j:Nat}{b:Int}(hb:GZ S j b):
  oI S (Se S P k c) j b=if j=k/\c.A<=b/\b<c.A+c.B then DA c.V (b-c.A).toNat else oI S P j b:=by
 have Ye:∀i,i<c.B.toNat->GZ S k (c.A+(i:Int)):=λi hi=>⟨by omega,by omega⟩;obtain⟨h1,h2⟩:=aay (P:=P) (f:=λi=>dI (bC S k).aK (c.A+(i:Int))) (v:=DA c.V) (k:=c.B.toNat) (λi hi=>(C.adr (Ye i hi)).2) (b:=dI (bC S j).aK b) (C.adr hb).2 (λi i' hi hi' e=>by
  have:=(C.apart (Ye i hi) (Ye i' hi') e).2;omega)
 unfold oI Se;by_cases hc:j=k/\c.A<=b/\b<c.A+c.B
 ·rw[aia hc]
  obtain⟨rfl,c1,c2⟩:=hc;exact h1 (b-c.A).toNat (by omega) (by show dI _ (c.A+((b-c.A).toNat:Int))=_;rw[show c.A+((b-c.A).toNat:Int)=b by omega])
 ·rw[aib hc]
  refine h2 λi hi e=>hc ?_;obtain⟨e1,e2⟩:=C.apart (Ye i hi) hb e;exact⟨e1.symm,by omega,by omega⟩
theorem Sd(S:ae)(P:aj)(k:Nat)(c:aC):(Se S P k c).dF=P.dF/\(Se S P k c).n=P.n:=Fw _ _ _ _
theorem aaI(C:Cw S P M Q)(hA:0<=c.A)(hB:1<=c.B/\c.B<=8)(hl:c.A+c.B<=(bC S k).eY):Cw S (Se S P k c) M Q:=by
 obtain⟨f1,f2⟩:=Sd S P k c;have hh:=(C.may k).hi;have hlt:∀p,gL P p->gL (Se S P k c) p:=λp hp=>by unfold gL at hp ⊢;rw[f1,f2];exact hp
 refine{C with Cz:=RD C.Cz λi _ =>UY _ _,own:=λj p hp=>hlt p (C.own j p hp),SO:=λp hp=>⟨hlt p (C.SO p hp).1,(C.SO p hp).2⟩,Wm:=λj a h1 h2=>?_,KR:=λp p0 p1=>by rw[f1];exact C.KR p p0 (by rw[f2]at p1;exact p1)};have h0:=(C.may j).lo;have:=Sc (P:=P) (k:=k) C hA hB (by omega) (j:=j) (b:=a) ⟨by omega,h2⟩;unfold oI at this;rw[this,aib]
 ·exact C.Wm j a h1 h2
 ·rintro⟨rfl,c1,c2⟩;omega
theorem Iq(hn:200<=n)(C:Cw S P M Q)(a:tE true n S t h k)(hd:c.Do=4)(hR:c.R=h)(hA:0<=c.A/\c.A<4294967296)(hB:1<=c.B/\c.B<=8)(hV:0<=c.V/\c.V<18446744073709551616):
  cy n S P M Q t c=some (if c.A+c.B<=(bC S k).eY then⟨0,0,0⟩else⟨9,0,0⟩,S,if c.A+c.B<=(bC S k).eY then Se S P k c else P,M,Q,t):=by
 have hk:=a.kl;have hc:=Pq a (C.may k) (.inr ⟨hd,rfl⟩) hR hA hB;have zH:c.Do≠15:=by omega
 by_cases hl:c.A+c.B<=(bC S k).eY
 ·rw[aia hl]at hc ⊢
  rw[aia hl];refine kB ?_ (.inl (by show(0:Int)≠6;omega));obtain⟨m,rfl⟩:∃m,n=m+1+2:=⟨n-3,by omega⟩;rw[yb zH C.OD a.t0 a.t1 hc (ve a (.inr (.inr hd)) hR) hk a.dz];have Rj:∀i,i<((List.range c.B.toNat).map λ(i:Nat)=>dI (bC S k).aK (c.A+(i:Int))).length->0<=((List.range c.B.toNat).map λ(i:Nat)=>dI (bC S k).aK (c.A+(i:Int))).getD i default/\gL P (((List.range c.B.toNat).map λ(i:Nat)=>dI (bC S k).aK (c.A+(i:Int))).getD i default/32):=by intro i hi;rw[List.length_map,List.length_range]at hi;rw[Fc (λ(i:Nat)=>dI (bC S k).aK (c.A+(i:Int))) hi];obtain⟨q1,q2⟩:=C.adr (C.ad (k:=k) (a:=c.A+(i:Int)) (by omega) (by omega));exact⟨q2,q1⟩
  have:=QO (S:=S) (P:=P) (Q:=Q) (u:=En t c [] aA 0) (M':=M) (x0:=ay) (b0:=false) (by omega) (by show(0:Int)<=0;omega) (Sj (by omega) a (C.may k) (.inr hd) hR hA.1 hB hl) (by have:=ack a (C.may k) (.inr ⟨hd,rfl⟩) hR hA hB;rw[aia hl]at this;exact this) hd C.Cz (by simp;omega) Rj (by have:=C.SP;omega) (Dp (by omega) C.OD hk a.t0 a.t1);refine(Pa zH (BV (by omega)) this).trans ?_;rw[List.length_map,List.length_range];unfold Se;rw[PS P (g:=λi=>dI (bC S k).aK (c.A+(i:Int))) (w:=DA c.V) (λi hi=>Fc (λ(i:Nat)=>dI (bC S k).aK (c.A+(i:Int))) hi) (λi hi=>YN (by have hi':i<c.B.toNat:=hi;omega) hV)]
 ·rw[aib hl]at hc ⊢
  rw[aib hl];exact kB (F1 (by omega) zH C.OD a.t0 a.t1 hc (by omega)) (.inl (by show(9:Int)≠6;omega))
end
end Go.Proofs.Z
namespace Go.Proofs.Z
open Go Go.Bw
theorem L7{l:List Rn}{y:Rn}(h:HE (l++[y])){a:Int}(h0:32*bx l<=a)(h1:a<32*bx l+32*y.N):dI (l++[y]) a=32*y.At+(a-32*bx l):=by obtain⟨g1,g2,_⟩:=yt.1 h;have hl:=ta g1.V8;have hp:=u6 g1.V8;unfold dI;rw[AZ,GU,Gp _ _ _ _ (by omega),GR y (by omega)];omega
theorem Pm{P:aj}(h:HD P){f:bg}(hf:pG f.l)(hm:∀p,bZ f.l p->bZ P.dF.l p):HD (uI P f):=⟨hf,h.n1,λp hp=>h.fr p (hm p hp),h.bt⟩
section
variable {n:Nat} {S S':ae} {P P':aj} {M:ai} {Q Q':List Int} {t h:Int} {k:Nat} {c:aC}
theorem aee(hn:110<=n){p:Int}(C:Cw S P M (p::Q)):∃f:bg,lZ n S P M (p::Q)=some (true,S,uI P f,M,Q)/\Cw S (uI P f) M Q/\∀x,bZ f.l x↔bZ P.dF.l x\/x=p:=by
 have hn1:=C.Cz.n1;obtain⟨⟨p0,p1,p2⟩,p3⟩:=C.SO p (by simp);have hql:=C.SP;rw[List.length_cons]at hql;obtain⟨f,g,e1,e2,_,e3⟩:=O0 hn C.Cz.Mu (at_:=p) (k:=1) ⟨by omega,by omega⟩ ⟨by omega,by omega⟩;have hg:g=true:=e2.2 ⟨⟨by omega,by omega,by omega⟩,λq h1 h2=>by rw[show q=p by omega];exact p2⟩;subst hg;obtain⟨f1,f2⟩:=e3 rfl;have f3:∀x,bZ f.l x↔bZ P.dF.l x\/x=p:=λx=>(f2 x).trans ⟨λh=>h.elim .inl λh=> .inr (by omega),λh=>h.elim .inl λh=> .inr (by omega)⟩;have hb:lU n P p=some (0,uI P f):=by unfold lU;rw[av (by simp;omega),aq (J8 hn C.Cz ⟨p0,p1,p2⟩),av (by rfl),bR (jd (by omega) (by omega)),aq e1];rfl
 obtain⟨d1,d2⟩:=List.nodup_cons.1 C.qnd;refine⟨f,?_,⟨⟨f1,hn1,λx hx=>?_,C.Cz.bt⟩,C.may,λj x hx=>?_,C.sep,λx hx=>?_,d2,C.OD,C.Wm,λx x0 x1=>?_⟩,f3⟩
 ·unfold lZ
  rw[av (by simp;omega),bR (jd (by omega) (by simp)),aq (show lU n P (List.getD (p::Q) (Int.toNat 0) default)=some (0,uI P f)from hb),bR (jd (by omega) (by simp;omega))];rfl
 ·rcases(f3 x).1 hx with h|h
  ·exact C.Cz.fr x h
  ·show x<P.n;omega
 ·obtain⟨q0,q1,q2⟩:=C.own j x hx
  refine⟨q0,q1,λh=>?_⟩;rcases(f3 x).1 h with h|h
  ·exact q2 h
  ·subst h;exact p3 j hx
 ·obtain⟨⟨q0,q1,q2⟩,q3⟩:=C.SO x (by simp[hx])
  refine⟨⟨q0,q1,λh=>?_⟩,q3⟩;rcases(f3 x).1 h with h|h
  ·exact q2 h
  ·subst h;exact d1 hx
 ·rcases C.KR x x0 x1 with h|h|h
  ·exact .inl ((f3 x).2 (.inl h))
  ·rcases List.mem_cons.1 h with h|h
   ·exact .inl ((f3 x).2 (.inr h))
   ·exact .inr (.inl h)
  ·exact .inr (.inr h)
theorem aed(hn:110<=n){ρ:Type}(F:ae->aj->ai->List Int->Int->Option ρ):∀(Q:List Int) (P:aj),Cw S P M Q->∃P',Cw S P' M []/\P'.n=P.n/\P'.bytes=P.bytes/\(∀x,bZ P'.dF.l x↔bZ P.dF.l x\/x∈Q)/\
  ∀m,Q.length<m->wT (λk36 (dK:ae) (iM:aj) (eL:ai) (cC:(List Int)) (fP:Int)=>bd (lZ n dK iM eL cC) λdR=>cn (dR.1) (k36 dR.2.1 dR.2.2.1 dR.2.2.2.1 dR.2.2.2.2 fP) (F dR.2.1 dR.2.2.1 dR.2.2.2.1 dR.2.2.2.2 fP)) m S P M Q t=F S P' M [] t:=by
 intro Q
 induction Q with
 |nil=>intro P C;refine⟨P,C,rfl,rfl,λx=>by simp,λm hm=>?_⟩;obtain⟨m,rfl⟩:∃j,m=j+1:=⟨m-1,by omega⟩;rfl
 |cons p Q ih=>
  intro P C;obtain⟨f,e,C1,hf⟩:=aee hn C;obtain⟨P',C2,h1,h2,h3,h4⟩:=ih _ C1;refine⟨P',C2,h1,h2,λx=>?_,λm hm=>?_⟩
  ·rw[h3]
   show bZ f.l x\/_ ↔_;rw[hf,List.mem_cons,or_assoc]
  ·obtain⟨m,rfl⟩:∃j,m=j+1:=⟨m-1,by omega⟩
   rw[List.length_cons]at hm;simp only[wT];rw[aq e,aX (by rfl)];exact h4 m (by omega)
theorem NO(hn:110<=n){w:Int}(C:Cw S P M Q)(hq:Q≠[])(h:dX n S P M Q t c=some (⟨6,0,w⟩,S,P,M,Q,t)):
  ∃P',Cw S P' M []/\P'.n=P.n/\P'.bytes=P.bytes/\(∀x,bZ P'.dF.l x↔bZ P.dF.l x\/x∈Q)/\cy n S P M Q t c=dX n S P' M [] t c:=by
 have hql:=C.SP;obtain⟨P',h1,h2,h3,h4,h5⟩:=aed (S:=S) (M:=M) (t:=t) hn (λx1 x2 x3 x4 x5=>bd (dX n x1 x2 x3 x4 x5 c) λjo=>some jo) Q P C;refine⟨P',h1,h2,h3,h4,?_⟩;have h6:=h5 n (by omega);have hb:((6:Int)==6)&&decide (0<(Q.length:Int)):=by have:=List.length_pos_iff.2 hq;simp;omega
 unfold cy;rw[aq h,aZ,aZ,aX hb];refine Eq.trans h6 ?_;cases dX n S P' M [] t c<;>rfl
theorem Cw.aaQ(C:Cw S P M Q)(k:Nat){L:Int}(h1:(bC S k).eY<=L)(h2:L<=32*bx (bC S k).aK):Cw (iI S k ⟨(bC S k).aK,L⟩) P M Q:=by
 have hr:∀j,(bC (iI S k ⟨(bC S k).aK,L⟩) j).aK=(bC S j).aK:=λj=>by
  by_cases hj:j=k
  ·subst hj;rw[fK]
  ·rw[rD _ _ hj]
 have hl:∀j,(bC S j).eY<=(bC (iI S k ⟨(bC S k).aK,L⟩) j).eY:=λj=>by
  by_cases hj:j=k
  ·subst hj;rw[fK];exact h1
  ·rw[rD _ _ hj];omega
 refine⟨C.Cz,λj=>?_,λj p hp=>C.own j p (by rw[hr]at hp;exact hp),λi j p hij hp=>by rw[hr]at hp ⊢;exact C.sep i j p hij hp,λp hp=>⟨(C.SO p hp).1,λj=>by rw[hr];exact(C.SO p hp).2 j⟩,C.qnd,C.OD,λj a q1 q2=>?_,λp p0 p1=>?_⟩
 ·by_cases hj:j=k
  ·subst hj;rw[fK];have:=(C.may j).lo;exact⟨(C.may j).gx,by dsimp only;omega,h2⟩
  ·rw[rD _ _ hj];exact C.may j
 ·rw[hr]at q2 ⊢
  exact C.Wm j a (by have:=hl j;omega) q2
 ·rcases C.KR p p0 p1 with h|h|⟨j,h⟩
  ·exact .inl h
  ·exact .inr (.inl h)
  ·exact .inr (.inr ⟨j,by rw[hr];exact h⟩)
theorem IC(S:ae)(P:aj)(k j:Nat)(L a:Int):oI (iI S k ⟨(bC S k).aK,L⟩) P j a=oI S P j a:=by
 unfold oI;by_cases hj:j=k
 ·subst hj;rw[fK]
 ·rw[rD _ _ hj]
theorem Cw.ahv(C:Cw S P M Q)(k:Nat){v m s:Int}(hin:HY P.dF.l v m){f:bg}(hf:pG f.l)(X8:∀p,bZ f.l p↔bZ P.dF.l p/\¬(v<=p/\p<v+m))(hs:0<=s/\s<=32*m):
  Cw (iI S k ⟨(bC S k).aK++[⟨v,m⟩],32*bx (bC S k).aK+s⟩) (qJ (uI P f) v m.toNat) M Q/\
  (∀j a,GZ S j a->oI (iI S k ⟨(bC S k).aK++[⟨v,m⟩],32*bx (bC S k).aK+s⟩) (qJ (uI P f) v m.toNat) j a=oI S P j a)/\
  (∀a,32*bx (bC S k).aK<=a->a<32*bx (bC S k).aK+32*m->oI (iI S k ⟨(bC S k).aK++[⟨v,m⟩],32*bx (bC S k).aK+s⟩) (qJ (uI P f) v m.toNat) k a=0):=by
 obtain⟨⟨o1,o2,o3⟩,abE⟩:=id hin;have hn1:=C.Cz.n1;have z1:=(rT (uI P f) v m.toNat).1;have z2:=(rT (uI P f) v m.toNat).2;have hno:∀p,v<=p->p<v+m->∀j,¬bZ (bC S j).aK p:=λp p0 p1 j hp=>(C.own j p hp).2.2 (abE p p0 p1);have hmay:o7 ⟨(bC S k).aK++[⟨v,m⟩],32*bx (bC S k).aK⟩:=IP (C.may k) ⟨o1,o2,o3⟩ λp p0 p1=>hno p p0 p1 k;have hsn:bx ((bC S k).aK++[(⟨v,m⟩:Rn)])=bx (bC S k).aK+m:=by rw[oD,pW]
 have Nr:=(C.may k).gx.pos;have hlen:=(C.may k).hi;have hlo:=(C.may k).lo;have hmem:∀j p,bZ (bC (iI S k ⟨(bC S k).aK++[⟨v,m⟩],32*bx (bC S k).aK+s⟩) j).aK p↔bZ (bC S j).aK p\/(j=k/\v<=p/\p<v+m):=λj p=>by
  by_cases hj:j=k
  ·subst hj
   rw[fK];show bZ ((bC S j).aK++[⟨v,m⟩]) p↔_;rw[IM];simp
  ·rw[rD _ _ hj];simp[hj]
 have hlt:∀p,gL P p->gL (qJ (uI P f) v m.toNat) p:=λp ⟨q0,q1,q2⟩=>⟨q0,by rw[z2];exact q1,λh=>by rw[z1]at h;exact q2 ((X8 p).1 h).1⟩;have hby:∀b,0<=b->¬(v<=b/32/\b/32<v+m)->Fj (qJ (uI P f) v m.toNat) b=Fj P b:=λb b0 b1=>by rw[Oa _ o2 _ b0,aib (by omega)];rfl
 have hz:∀b,0<=b->v<=b/32->b/32<v+m->Fj (qJ (uI P f) v m.toNat) b=0:=λb b0 b1 b2=>by rw[Oa _ o2 _ b0,aia (by omega)]
 have old:∀j a,GZ S j a->oI (iI S k ⟨(bC S k).aK++[⟨v,m⟩],32*bx (bC S k).aK+s⟩) (qJ (uI P f) v m.toNat) j a=oI S P j a:=λj a ha=>by
  obtain⟨m1,m2⟩:=wh (C.may j).gx.gd ha;have e:dI (bC (iI S k ⟨(bC S k).aK++[⟨v,m⟩],32*bx (bC S k).aK+s⟩) j).aK a=dI (bC S j).aK a:=by
   by_cases hj:j=k
   ·subst hj;rw[fK];exact NQ (C.may j).gx.gd ha
   ·rw[rD _ _ hj]
  unfold oI;rw[e];exact hby _ m2 λq=>hno _ q.1 q.2 j m1
 have new:∀a,32*bx (bC S k).aK<=a->a<32*bx (bC S k).aK+32*m->oI (iI S k ⟨(bC S k).aK++[⟨v,m⟩],32*bx (bC S k).aK+s⟩) (qJ (uI P f) v m.toNat) k a=0:=λa a0 a1=>by unfold oI;rw[fK];show Fj _ (dI ((bC S k).aK++[⟨v,m⟩]) a)=0;rw[L7 hmay.gx.gd a0 a1];exact hz _ (by dsimp only;omega) (by dsimp only;omega) (by dsimp only;omega)
 refine⟨⟨N9 (Pm C.Cz hf λp hp=>((X8 p).1 hp).1) _ _,λj=>?_,λj p hp=>?_,λi j p hij hp hq=>?_,λp hp=>⟨hlt p (C.SO p hp).1,λj hj=>?_⟩,C.qnd,C.OD,λj a a0 a1=>?_,λp p0 p1=>?_⟩,old,new⟩
 ·by_cases hj:j=k
  ·subst hj;rw[fK];exact⟨hmay.gx,by dsimp only;omega,by dsimp only;rw[hsn];omega⟩
  ·rw[rD _ _ hj];exact C.may j
 ·rcases(hmem j p).1 hp with hp|⟨_,q0,q1⟩
  ·exact hlt p (C.own j p hp)
  ·refine⟨by omega,by rw[z2];exact C.Cz.fr p (abE p q0 q1),λhh=>?_⟩
   rw[z1]at hh;exact((X8 p).1 hh).2 ⟨q0,q1⟩
 ·rcases(hmem i p).1 hp with hp'|⟨hp',q0,q1⟩<;>rcases(hmem j p).1 hq with CA|⟨CA,r0,r1⟩
  ·exact C.sep i j p hij hp' CA
  ·exact hno p r0 r1 i hp'
  ·exact hno p q0 q1 j CA
  ·exact hij (hp'.trans CA.symm)
 ·rcases(hmem j p).1 hj with hj|⟨_,q0,q1⟩
  ·exact(C.SO p hp).2 j hj
  ·exact(C.SO p hp).1.2.2 (abE p q0 q1)
 ·by_cases hj:j=k
  ·subst hj
   have a0':32*bx (bC S j).aK+s<=a:=by rw[fK]at a0;exact a0
   have a1':a<32*(bx (bC S j).aK+m):=by rw[fK, ← hsn]at *;exact a1
   exact new a (by omega) (by omega)
  ·rw[rD _ _ hj]at a0 a1
   have h0:=(C.may j).lo;have:=old j a ⟨by omega,a1⟩;unfold oI at this;rw[this];exact C.Wm j a a0 a1
 ·rw[z1]
  rw[z2]at p1;rcases C.KR p p0 p1 with q|q|⟨j,q⟩
  ·by_cases hv:v<=p/\p<v+m
   ·exact .inr (.inr ⟨k,(hmem k p).2 (.inr ⟨rfl,hv⟩)⟩)
   ·exact .inl ((X8 p).2 ⟨q,hv⟩)
  ·exact .inr (.inl q)
  ·exact .inr (.inr ⟨j,(hmem j p).2 (.inl q)⟩)
structure Zu(S:ae)(P:aj)(M:ai)(Q:List Int)(k:Nat)(s b:Int)(S':ae)(P':aj)(at_:Int):Prop where
 cw:Cw S' P' M Q
 st:∃l,S'=iI S k ⟨l,at_+s⟩
 lo:(bC S k).eY<=at_
 al:at_%b=0
 n:P'.n=P.n
 old:∀j a,GZ S j a->oI S' P' j a=oI S P j a
 Wm:∀a,(bC S k).eY<=a->GZ S' k a->oI S' P' k a=0
 fit:eJ (bC S k) s b=true->at_=y8 (bC S k).eY b/\(bC S' k).aK=(bC S k).aK/\P'=P
 new:eJ (bC S k) s b=false->at_=32*bx (bC S k).aK/\∃v,(bC S' k).aK=(bC S k).aK++[⟨v,eS s⟩]/\HY P.dF.l v (eS s)/\(∀a,a<v->¬HY P.dF.l a (eS s))/\∀p,bZ P'.dF.l p↔bZ P.dF.l p/\¬(v<=p/\p<v+eS s)
theorem F3(hn:200<=n)(C:Cw S P M Q)(a:tE true n S t h k)(hd:c.Do=2)(hR:c.R=h){s b:Int}(hA:c.A=s)(hB:c.B=b)(ho:sW s b=true):
  (dX n S P M Q t c=some (⟨6,0,0⟩,S,P,M,Q,t)/\eJ (bC S k) s b=false/\((S.dx.T.aT k).fU<bx (bC S k).aK+eS s\/∀v,¬HY P.dF.l v (eS s)))\/
  ∃S' P' at_,dX n S P M Q t c=some (⟨0,at_,0⟩,S',P',M,Q,t)/\Zu S P M Q k s b S' P' at_:=by
 have hk:=a.kl;have Uh:=acs (by omega) a (C.may k) hd hR hA hB ho;have zH:c.Do≠15:=by omega
 obtain⟨n1,n2,n3⟩:=BR ho;obtain⟨⟨s1,s2⟩,o3⟩:=lW.1 ho;have hne:=TC (by omega) a (C.may k) hd hR hA hB ho;have hql:=C.SP;have g:=Dp (n:=n) (by omega) C.OD hk a.t0 a.t1;cases hf:eJ (bC S k) s b with
 |true=>
  rw[hf,aia rfl]at Uh;unfold Ld at hne;rw[hf,aia rfl]at hne;refine .inr ⟨iI S k ⟨(bC S k).aK,y8 (bC S k).eY b+s⟩,P,y8 (bC S k).eY b,?_,?_⟩
  ·obtain⟨m,rfl⟩:∃m,n=m+1+2:=⟨n-3,by omega⟩
   rw[yb zH C.OD a.t0 a.t1 Uh (ve a (.inl hd) hR) hk a.dz];have:=Dw (S:=S) (P:=P) (M:=uE M k t) (M':=M) (Q:=Q) (u:=En t c [] aA 0) (fC:=[]) (x0:=ay) (b0:=false) (by omega) (.inl (by show(0:Int)<=0;omega)) (Tl a hd hR) (Pj (by omega) a (C.may k) hd hR hA hB ho hf) rfl (by show c.Do≠3/\c.Do≠4;omega) (by simp) (by simp;omega) (by show 0<m+1+2;omega) g;rw[show Q++xY []=Q by simp[xY]]at this;exact Pa zH hne this
  ·have hm:=JO (C.may k) hf
   obtain⟨f0,f1,f2⟩:=O7 (C.may k) hf;have hc:=C.aaQ k (L:=y8 (bC S k).eY b+s) (by omega) hm.hi;refine⟨hc,⟨_,rfl⟩,f1,(BD o3).2.2.1,rfl,λj x _ =>IC _ _ _ _ _ _,λx x0 x1=>?_,λ_ =>⟨rfl,by rw[fK],rfl⟩,λh=>by rw[hf]at h;cases h⟩;rw[IC];refine C.Wm k x x0 ?_;have:=x1.2;rw[fK]at this;exact this
 |false=>
  rw[hf,aib (by simp)]at Uh;unfold Ld at hne;rw[hf,aib (by simp)]at hne;by_cases hq:bx (bC S k).aK+eS s<=(S.dx.T.aT k).fU
  ·rw[aia hq]at Uh hne
   rcases Yv C.Cz.Mu (k:=eS s)with⟨e1,e2⟩|⟨v,e1,v0,e2,e3⟩
   ·refine .inl ⟨?_,rfl, .inr e2⟩
    obtain⟨m,rfl⟩:∃m,n=m+1+2:=⟨n-3,by omega⟩;rw[yb zH C.OD a.t0 a.t1 Uh (ve a (.inl hd) hR) hk a.dz];exact QT (by omega) zH C.Cz (by omega) hne e1 g
   ·obtain⟨⟨w1,w2,w3⟩,w4⟩:=id e2
    obtain⟨d,hdn⟩:∃d:Nat,(d:Int)=eS s:=⟨(eS s).toNat,by omega⟩;have hdt:(eS s).toNat=d:=by omega
    obtain⟨m,rfl⟩:∃m,n=m+d+1+1+2:=⟨n-d-4,by omega⟩;obtain⟨f,f1,f2,f3⟩:=QU (S:=S) (P:=P) (M:=uE M k t) (Q:=Q) (m:=m+d+1) (by omega) zH C.Cz (by omega) (by omega) hne e1 v0 e2;obtain⟨G1,G2,G3⟩:=C.ahv k (s:=s) e2 f1 f2 ⟨by omega,by omega⟩;refine .inr ⟨iI S k ⟨(bC S k).aK++[⟨v,eS s⟩],32*bx (bC S k).aK+s⟩,qJ (uI P f) v (eS s).toNat,32*bx (bC S k).aK,?_,?_⟩
    ·rw[yb zH C.OD a.t0 a.t1 Uh (ve a (.inl hd) hR) hk a.dz,f3]
     have afb:∀p,v<=p->p<v+eS s->gL (uI P f) p:=λp p0 p1=>⟨by omega,C.Cz.fr p (w4 p p0 p1),λhh=>((f2 p).1 hh).2 ⟨p0,p1⟩⟩;have hdo:=UP (by omega) a (C.may k) hd hR hA hB ho hf hq (r:=⟨v,eS s⟩) rfl e2.1 (λp p0 p1 hp=>(C.own k p hp).2.2 (w4 p p0 p1));have:=Dw (S:=S) (P:=qJ (uI P f) v (eS s).toNat) (M:=uE M k t) (M':=M) (Q:=Q) (u:=En t c [] ⟨v,eS s⟩ (eS s)) (fC:=[]) (x0:=ay) (b0:=false) (by omega) (.inr ⟨by show 0<eS s;omega,hne⟩) (Tl a hd hR) hdo rfl (by show c.Do≠3/\c.Do≠4;omega) (by simp) (by simp;omega) (by show 0<m+d+1+1+2;omega) g;rw[show Q++xY []=Q by simp[xY]]at this;exact UT (by omega) zH v0 (by omega) (by omega) hne (Pm C.Cz f1 λp hp=>((f2 p).1 hp).1) afb ⟨_,this⟩ d 0 m (by omega)
    ·have Nr:=(C.may k).gx.pos
     have hlo:=(C.may k).lo;refine⟨G1,⟨_,rfl⟩,(C.may k).hi,?_,(rT _ _ _).2,G2,λx x0 x1=>?_,(λh=>by rw[hf]at h;cases h),λ_ =>⟨rfl,v,by rw[fK],e2,e3,λp=>by rw[(rT _ _ _).1];exact f2 p⟩⟩
     ·rcases o3 with rfl|rfl|rfl|rfl<;>omega
     ·rcases Int.lt_or_le x (32*bx (bC S k).aK)with hx|hx
      ·rw[G2 k x ⟨by omega,hx⟩];exact C.Wm k x x0 hx
      ·refine G3 x hx ?_
       have:=x1.2;rw[fK]at this;dsimp only at this;rw[oD,pW]at this;omega
  ·rw[aib hq]at Uh
   exact .inl ⟨F1 (by omega) zH C.OD a.t0 a.t1 Uh (by omega),rfl, .inl (by omega)⟩
theorem Q2(hn:200<=n)(C:Cw S P M Q)(a:tE true n S t h k)(hd:c.Do=2)(hR:c.R=h){s b:Int}(hA:c.A=s)(hB:c.B=b)(ho:sW s b=true):
  ∃P0 Q0,(P0=P/\Q0=Q\/Q0=[]/\∀p,bZ P0.dF.l p↔bZ P.dF.l p\/p∈Q)/\Cw S P0 M Q0/\P0.n=P.n/\P0.bytes=P.bytes/\
  ((cy n S P M Q t c=some (⟨6,0,0⟩,S,P0,M,Q0,t)/\Q0=[]/\eJ (bC S k) s b=false/\((S.dx.T.aT k).fU<bx (bC S k).aK+eS s\/∀v,¬HY P0.dF.l v (eS s)))\/
  ∃S' P' at_,cy n S P M Q t c=some (⟨0,at_,0⟩,S',P',M,Q0,t)/\Zu S P0 M Q0 k s b S' P' at_):=by
 rcases F3 hn C a hd hR hA hB ho with⟨e1,e2,e3⟩|⟨S',P',at_,e1,e2⟩
 ·by_cases hq:Q=[]
  ·exact⟨P,Q, .inl ⟨rfl,rfl⟩,C,rfl,rfl, .inl ⟨kB e1 (.inr hq),hq,e2,e3⟩⟩
  ·obtain⟨P0,c1,c2,c3,c4,c5⟩:=NO (by omega) C hq e1
   refine⟨P0,[], .inr ⟨rfl,c4⟩,c1,c2,c3,?_⟩;rw[c5];rcases F3 hn c1 a hd hR hA hB ho with⟨d1,d2,d3⟩|⟨S',P',at_,d1,d2⟩
   ·exact .inl ⟨d1,rfl,d2,d3⟩
   ·exact .inr ⟨S',P',at_,d1,d2⟩
 ·exact⟨P,Q, .inl ⟨rfl,rfl⟩,C,rfl,rfl, .inr ⟨S',P',at_,kB e1 (.inl (by show(0:Int)≠6;omega)),e2⟩⟩
end
end Go.Proofs.Z
namespace Go.Proofs.Z
open Go Go.Bw
theorem YM(k:Nat):(256:Int)^k=((256^k:Nat):Int):=(Int.natCast_pow 256 k).symm
theorem abo{V:Int}(hV:0<=V)(k:Nat):HX (DA V) k=V%256^k:=by
 obtain⟨v,rfl⟩:=Int.eq_ofNat_of_zero_le hV
 induction k with
 |zero=>unfold HX;simp
 |succ k ih=>
  rw[TO,ih];have h:=Nat.mod_pow_succ (x:=v) (b:=256) (k:=k);have e1:DA (v:Int) k=((v/256^k%256:Nat):Int):=by unfold DA;rw[YM];rfl
  have e2:(v:Int)%256^k=((v%256^k:Nat):Int):=by rw[YM];rfl
  have e3:(v:Int)%256^(k+1)=((v%256^(k+1):Nat):Int):=by rw[YM];rfl
  rw[e1,e2,e3,h,Int.natCast_add,Int.natCast_mul, ← YM,Int.mul_comm]
def w6(S:ae)(P:aj)(k:Nat)(a:Int):Int:=HX (λi=>oI S P k (a+(i:Int))) 8
def oe(S:ae)(k:Nat)(a:Int):Prop:=0<=a/\a%8=0/\a+8<=(bC S k).eY
instance(S:ae)(k:Nat)(a:Int):Decidable (oe S k a):=by unfold oe;infer_instance
def Wd(S:ae)(P:aj)(k:Nat)(a:Int):Int:=if oe S k a then w6 S P k a else 0
def KQ(m:Int->Int)(a v:Int):Int->Int:=λb=>if b=a then v else m b
theorem WI(m:Int->Int)(a v:Int):KQ m a v a=v:=aia rfl
theorem Oj(m:Int->Int){a b:Int}(v:Int)(h:b≠a):KQ m a v b=m b:=aib h
section
variable {n:Nat} {S S':ae} {P P':aj} {M:ai} {Q Q':List Int} {t h:Int} {k:Nat}
theorem SM(C:Cw S P M Q)(k:Nat)(a:Int):0<=oI S P k a/\oI S P k a<=255:=Ps C.Cz _
theorem Fy(C:Cw S P M Q)(k:Nat)(a:Int):0<=w6 S P k a/\w6 S P k a<18446744073709551616:=JV (k:=8) λi _ =>SM C k _
theorem A2(C:Cw S P M Q)(k:Nat)(a:Int):0<=Wd S P k a/\Wd S P k a<18446744073709551616:=by
 unfold Wd;split
 ·exact Fy C k a
 ·omega
theorem afL{a:Int}(h:oe S k a):Wd S P k a=w6 S P k a:=aia h
def qv(d h a b v:Int):aC:=⟨d,h,0,a,b,v⟩
theorem zm{d a b v:Int}(ha:0<=a/\a<4294967296)(hb:0<=b/\b<4294967296){r:ah}(hc:cy n S P M Q t (qv d h a b v)=some (r,S',P',M,Q',t)):ja n S P M Q t d h a b v=some (r,S',P',M,Q',t):=by
 have e:∀x:Int,0<=x/\x<4294967296->lX n x=some (x,true):=λx hx=>by
  unfold lX;rw[adP hx.1 (by omega)];have:(decide (0<=x)&&decide (x<=4294967295))=true:=by simp;omega
  rw[this]
 unfold ja;rw[aq (e a ha),aq (e b hb),av (by rfl)];show bd (cy n S P M Q t (qv d h a b v)) _ =_;rw[aq hc];rfl
theorem Pu{d a b v:Int}(ha:a<0\/4294967296<=a):ja n S P M Q t d h a b v=some (⟨2,0,0⟩,S,P,M,Q,t):=by
 have e:∃x,lX n a=some (x,false):=by
  unfold lX;have:(decide (0<=a)&&decide (a<=4294967295))=false:=by rw[Bool.and_eq_false_iff];simp;omega
  rw[this];exact⟨_,rfl⟩
 obtain⟨x,e⟩:=e;obtain⟨y,e2⟩:∃y,lX n b=some y:=⟨_,rfl⟩;unfold ja;rw[aq e,aq e2,aX (by rfl)];rfl
theorem Od{w:Bool}(hn:200<=n)(C:Cw S P M Q)(a:tE w n S t h k){x:Int}(h0:0<=x)(h1:x+8<=(bC S k).eY):kj n S P M Q t h x=some (w6 S P k x,0,S,P,M,Q,t):=by have hh:=(C.may k).hi;have hs:=(C.may k).gx.sum;have:cy n S P M Q t (qv 3 h x 8 0)=some (if x+8<=(bC S k).eY then⟨0,w6 S P k x,0⟩else⟨9,0,0⟩,S,P,M,Q,t):=Ll hn C a (c:=qv 3 h x 8 0) rfl rfl ⟨h0,by show x<_;omega⟩ ⟨by show(1:Int)<=8;omega,by show(8:Int)<=8;omega⟩;rw[aia h1]at this;unfold kj;rw[aq (zm ⟨h0,by omega⟩ (by omega) this)];rfl
theorem RI{w:Bool}(hn:200<=n)(C:Cw S P M Q)(a:tE w n S t h k){x:Int}(h1:¬(0<=x/\x+8<=(bC S k).eY)):∃e,(e=2\/e=9)/\kj n S P M Q t h x=some (0,e,S,P,M,Q,t):=by
 by_cases h2:0<=x/\x<4294967296
 ·have:cy n S P M Q t (qv 3 h x 8 0)=some (if x+8<=(bC S k).eY then⟨0,w6 S P k x,0⟩else⟨9,0,0⟩,S,P,M,Q,t):=Ll hn C a (c:=qv 3 h x 8 0) rfl rfl h2 ⟨by show(1:Int)<=8;omega,by show(8:Int)<=8;omega⟩
  rw[aib (show¬(x+8<=(bC S k).eY)by omega)]at this;refine⟨9, .inr rfl,?_⟩;unfold kj;rw[aq (zm h2 (by omega) this)];rfl
 ·refine⟨2, .inl rfl,?_⟩
  unfold kj;rw[aq (Pu (by omega))];rfl
def ZB(S:ae)(P:aj)(k:Nat)(h x v:Int):aj:=Se S P k (qv 4 h x 8 v)
theorem MS(hn:200<=n)(C:Cw S P M Q)(a:tE true n S t h k){x v:Int}(h0:0<=x)(h1:x+8<=(bC S k).eY)(hv:0<=v/\v<18446744073709551616):gS n S P M Q t h x v=some (0,S,ZB S P k h x v,M,Q,t)/\Cw S (ZB S P k h x v) M Q:=by have hh:=(C.may k).hi;have hs:=(C.may k).gx.sum;have hb:1<=(qv 4 h x 8 v).B/\(qv 4 h x 8 v).B<=8:=⟨by show(1:Int)<=8;omega,by show(8:Int)<=8;omega⟩;have:cy n S P M Q t (qv 4 h x 8 v)=some (if x+8<=(bC S k).eY then⟨0,0,0⟩else⟨9,0,0⟩,S,if x+8<=(bC S k).eY then Se S P k (qv 4 h x 8 v)else P,M,Q,t):=Iq hn C a (c:=qv 4 h x 8 v) rfl rfl ⟨h0,by show x<_;omega⟩ hb hv;rw[aia h1,aia h1]at this;refine⟨?_,aaI C h0 hb h1⟩;unfold gS;rw[aq (zm ⟨h0,by omega⟩ (by omega) this)];rfl
theorem WW(hn:200<=n)(C:Cw S P M Q)(a:tE true n S t h k){x v:Int}(h1:¬(0<=x/\x+8<=(bC S k).eY))(hv:0<=v/\v<18446744073709551616):∃e,(e=2\/e=9)/\gS n S P M Q t h x v=some (e,S,P,M,Q,t):=by
 by_cases h2:0<=x/\x<4294967296
 ·have:cy n S P M Q t (qv 4 h x 8 v)=some (if x+8<=(bC S k).eY then⟨0,0,0⟩else⟨9,0,0⟩,S,if x+8<=(bC S k).eY then Se S P k (qv 4 h x 8 v)else P,M,Q,t):=Iq hn C a (c:=qv 4 h x 8 v) rfl rfl h2 ⟨by show(1:Int)<=8;omega,by show(8:Int)<=8;omega⟩ hv
  rw[aib (show¬(x+8<=(bC S k).eY)by omega),aib (show¬(x+8<=(bC S k).eY)by omega)]at this;refine⟨9, .inr rfl,?_⟩;unfold gS;rw[aq (zm h2 (by omega) this)]
 ·refine⟨2, .inl rfl,?_⟩
  unfold gS;rw[aq (Pu (by omega))]
theorem MM(C:Cw S P M Q){x v:Int}(h0:0<=x)(h1:x+8<=(bC S k).eY){j:Nat}{b:Int}(hb:GZ S j b):oI S (ZB S P k h x v) j b=if j=k/\x<=b/\b<x+8 then DA v (b-x).toNat else oI S P j b:=by have hh:=(C.may k).hi;exact Sc C (c:=qv 4 h x 8 v) h0 ⟨by show(1:Int)<=8;omega,by show(8:Int)<=8;omega⟩ (by show x+8<=_;omega) hb
theorem MN(C:Cw S P M Q){x v:Int}(hx:oe S k x)(hv:0<=v/\v<18446744073709551616):Wd S (ZB S P k h x v) k=KQ (Wd S P k) x v/\∀j,j≠k->Wd S (ZB S P k h x v) j=Wd S P j:=by
 obtain⟨x0,x1,x2⟩:=id hx;constructor
 ·funext b
  unfold KQ Wd;by_cases hb:oe S k b
  ·obtain⟨b0,b1,b2⟩:=id hb
   rw[aia hb];by_cases e:b=x
   ·subst e
    rw[aia rfl];unfold w6;rw[nZ (g:=DA v) λi hi=>by
     rw[MM C x0 x2 (C.ad (by omega) (by omega)),aia ⟨rfl,by omega,by omega⟩,show(b+(i:Int)-b).toNat=i by omega],abo hv.1]
    exact Int.emod_eq_of_lt hv.1 hv.2
   ·rw[aib e,aia hb]
    unfold w6;exact nZ λi hi=>by rw[MM C x0 x2 (C.ad (by omega) (by omega)),aib (λq=>by obtain⟨_,q1,q2⟩:=q;omega)]
  ·rw[aib hb,aib hb,aib (λ(e:b=x)=>hb (by rw[e];exact hx))]
 ·intro j hj
  funext b;unfold Wd;by_cases hb:oe S j b
  ·obtain⟨b0,b1,b2⟩:=id hb
   rw[aia hb,aia hb];unfold w6;exact nZ λi hi=>by rw[MM C x0 x2 (C.ad (by omega) (by omega)),aib (λq=>hj q.1)]
  ·rw[aib hb,aib hb]
theorem YX{s b at_:Int}(C:Cw S P M Q)(A:Zu S P M Q k s b S' P' at_)(h8:(bC S k).eY%8=0)(hs:0<=s):∀j,Wd S' P' j=Wd S P j:=by
 obtain⟨l,rfl⟩:=A.st;intro j;funext x;unfold Wd;have hlen:(bC (iI S k ⟨l,at_+s⟩) k).eY=at_+s:=by rw[fK]
 have hlo:=A.lo;by_cases hj:j=k
 ·subst hj
  by_cases h1:oe S j x
  ·obtain⟨x0,x1,x2⟩:=id h1
   rw[aia h1,aia ⟨x0,x1,by rw[hlen];omega⟩];unfold w6;exact nZ λi hi=>A.old _ _ (C.ad (by omega) (by omega))
  ·rw[aib h1]
   by_cases h2:oe (iI S j ⟨l,at_+s⟩) j x
   ·obtain⟨x0,x1,x2⟩:=id h2
    have h3:(bC S j).eY<=x:=by unfold oe at h1;omega
    rw[aia h2];unfold w6;rw[nZ (g:=λ_ =>0) λi hi=>A.Wm _ (by omega) (A.cw.ad (by omega) (by omega))];rfl
   ·rw[aib h2]
 ·have e:oe (iI S k ⟨l,at_+s⟩) j x↔oe S j x:=by unfold oe;rw[rD _ _ hj]
  by_cases h1:oe S j x
  ·obtain⟨x0,x1,x2⟩:=id h1
   rw[aia h1,aia (e.2 h1)];unfold w6;exact nZ λi hi=>A.old _ _ (C.ad (by omega) (by omega))
  ·rw[aib h1,aib (λq=>h1 (e.1 q))]
theorem On(hb:P'.bytes=P.bytes):∀j,Wd S P' j=Wd S P j:=by
 intro j;have:∀a,oI S P' j a=oI S P j a:=λa=>by unfold oI Fj;rw[hb]
 funext x;unfold Wd w6;split
 ·exact nZ λi _ =>this _
 ·rfl
theorem Qo(hn:200<=n)(C:Cw S P M Q)(a:tE true n S t h k){s b:Int}(ho:sW s b=true):
  ∃P0 Q0,(P0=P/\Q0=Q\/Q0=[]/\∀p,bZ P0.dF.l p↔bZ P.dF.l p\/p∈Q)/\Cw S P0 M Q0/\P0.n=P.n/\P0.bytes=P.bytes/\
  ((dU n S P M Q t h s b=some (0,6,S,P0,M,Q0,t)/\Q0=[]/\eJ (bC S k) s b=false/\((S.dx.T.aT k).fU<bx (bC S k).aK+eS s\/∀v,¬HY P0.dF.l v (eS s)))\/
  ∃S' P' at_,dU n S P M Q t h s b=some (at_,0,S',P',M,Q0,t)/\Zu S P0 M Q0 k s b S' P' at_/\0<=at_/\at_<=2048):=by
 obtain⟨⟨s1,s2⟩,o3⟩:=lW.1 ho;have hb:0<=b/\b<4294967296:=by rcases o3 with rfl|rfl|rfl|rfl<;>omega
 obtain⟨P0,Q0,e1,e2,e3,e4,e5⟩:=Q2 hn C a (c:=qv 2 h s b 0) (s:=s) (b:=b) rfl rfl rfl rfl ho;refine⟨P0,Q0,e1,e2,e3,e4,?_⟩;rcases e5 with⟨f1,f2⟩|⟨S',P',at_,f1,f2⟩
 ·refine .inl ⟨?_,f2⟩
  unfold dU;rw[aq (zm ⟨by omega,by omega⟩ hb f1),aZ];rfl
 ·have h0:=(C.may k).lo
  have h1:=f2.lo;have h2:at_+s<=2048:=by obtain⟨l,rfl⟩:=f2.st;have:=(f2.cw.may k).hi;have:=(f2.cw.may k).gx.sum;rw[fK]at *;dsimp only at *;omega
  refine .inr ⟨S',P',at_,?_,f2,by omega,by omega⟩;unfold dU;rw[aq (zm ⟨by omega,by omega⟩ hb f1),aZ,bD (x:=at_) (by omega) (by omega)]
end
end Go.Proofs.Z
namespace Go.Proofs.Z
open Go Go.Bw
structure Me(n:Nat)(S:ae)(P:aj)(M:ai)(Q:List Int)(t h:Int)(k:Nat):Prop where
 cw:Cw S P M Q
 Eh:tE true n S t h k
 l8:(bC S k).eY%8=0
structure Mr(n:Nat)(S:ae)(P:aj)(M:ai)(Q:List Int)(t h:Int)(k:Nat):Prop where
 cw:Cw S P M Q
 Eh:tE false n S t h k
theorem Me.mr{n:Nat}{S:ae}{P:aj}{M:ai}{Q:List Int}{t h:Int}{k:Nat}(E:Me n S P M Q t h k):Mr n S P M Q t h k:=⟨E.cw,E.Eh.agA⟩
section
variable {n:Nat} {S S':ae} {P P':aj} {M:ai} {Q Q':List Int} {t h:Int} {k:Nat}
theorem Me.set(E:Me n S P M Q t h k){x v:Int}(hn:200<=n)(h1:oe S k x)(hv:0<=v/\v<18446744073709551616):Me n S (ZB S P k h x v) M Q t h k:=
 ⟨(MS hn E.cw E.Eh h1.1 h1.2.2 hv).2,E.Eh,E.l8⟩
theorem Me.alloc(hn:200<=n)(E:Me n S P M Q t h k){s:Int}(ho:sW s 8=true)(hs:s%8=0):
  ∃S' P' Q',(Q=[]->Q'=[])/\P'.n=P.n/\Me n S' P' M Q' t h k/\(∀j,Wd S' P' j=Wd S P j)/\(Q=[]->bx P'.dF.l+bx (bC S' k).aK=bx P.dF.l+bx (bC S k).aK)/\
   ((dU n S P M Q t h s 8=some (0,6,S',P',M,Q',t)/\S'=S/\Q'=[]/\eJ (bC S k) s 8=false/\((S.dx.T.aT k).fU<bx (bC S k).aK+eS s\/∀v,¬HY P'.dF.l v (eS s)))\/
    ∃x l,dU n S P M Q t h s 8=some (x,0,S',P',M,Q',t)/\S'=iI S k ⟨l,x+s⟩/\(bC S k).eY<=x/\x%8=0/\0<=x/\x+s<=2048/\
     (eJ (bC S k) s 8=true->x=y8 (bC S k).eY 8/\l=(bC S k).aK/\(Q=[]->∀p,bZ P'.dF.l p↔bZ P.dF.l p))/\
     (eJ (bC S k) s 8=false->x=32*bx (bC S k).aK/\∃v,l=(bC S k).aK++[⟨v,eS s⟩]/\(Q=[]->HY P.dF.l v (eS s)/\(∀a,a<v->¬HY P.dF.l a (eS s))/\∀p,bZ P'.dF.l p↔bZ P.dF.l p/\¬(v<=p/\p<v+eS s)))):=by
 obtain⟨P0,Q0,e1,e2,e3,e4,e5⟩:=Qo hn E.cw E.Eh ho;have hq:Q=[]->Q0=[]:=λhq=>by
  rcases e1 with⟨_,h2⟩|⟨h2,_⟩
  ·rw[h2,hq]
  ·exact h2
 have Lu:Q=[]->∀p,bZ P0.dF.l p↔bZ P.dF.l p:=λhq p=>by
  rcases e1 with⟨h1,_⟩|⟨_,h2⟩
  ·rw[h1]
  ·rw[h2,hq];simp
 rcases e5 with⟨f1,f2,f3,f4⟩|⟨S',P',x,f1,f2,f3,f4⟩
 ·exact⟨S,P0,Q0,hq,e3,⟨e2,E.Eh,E.l8⟩,On e4,λq=>by rw[Km e2.Cz.Mu E.cw.Cz.Mu (Lu q)], .inl ⟨f1,rfl,f2,f3,f4⟩⟩
 ·obtain⟨l,hl⟩:=f2.st
  obtain⟨⟨s1,s2⟩,_⟩:=lW.1 ho;have hw:=YX e2 f2 E.l8 (by omega);have hlen:(bC S' k).eY=x+s:=by rw[hl,fK]
  have Lw:=(f2.cw.may k).hi;have hsx:=(f2.cw.may k).gx.sum;have hal:=f2.al;refine⟨S',P',Q0,hq,f2.n.trans e3,⟨f2.cw,by rw[hl];exact E.Eh.set _ _,by rw[hlen];omega⟩,λj=>(hw j).trans (On e4 j),λq=>?_, .inr ⟨x,l,f1,hl,f2.lo,f2.al,f3,by omega,λhf=>?_,λhf=>?_⟩⟩
  ·have hfr:=Km e2.Cz.Mu E.cw.Cz.Mu (Lu q)
   cases hf:eJ (bC S k) s 8 with
   |true=>obtain⟨g1,g2,g3⟩:=f2.fit hf;rw[g2,g3,hfr]
   |false=>
    obtain⟨g1,v,g2,g3,g4,g5⟩:=f2.new hf;have Qy:=Cg g3.1;have:=C6 e2.Cz.Mu f2.cw.Cz.Mu Qy (λp=>by
     rw[g5,eU];constructor
     ·intro hp
      by_cases hr:v<=p/\p<v+eS s
      ·exact .inr hr
      ·exact .inl ⟨hp,hr⟩
     ·rintro(hp|hp)
      ·exact hp.1
      ·exact g3.2 p hp.1 hp.2) (λp hp hq=>by rw[eU]at hq;exact((g5 p).1 hp).2 hq)
    rw[pW,hfr]at this;rw[g2,oD,pW];omega
  ·obtain⟨g1,g2,g3⟩:=f2.fit hf
   rw[hl,fK]at g2;exact⟨g1,g2,λq p=>by rw[g3];exact Lu q p⟩
  ·obtain⟨g1,v,g2,g3,g4,g5⟩:=f2.new hf
   rw[hl,fK]at g2;have hi:Q=[]->∀a,HY P.dF.l a (eS s)↔HY P0.dF.l a (eS s):=λq a=>and_congr_right λ_ =>forall_congr' λp=>imp_congr_right λ_ =>imp_congr_right λ_ =>(Lu q p).symm
   exact⟨g1,v,g2,λq=>⟨(hi q v).2 g3,λa ha=>λhh=>g4 a ha ((hi q a).1 hh),λp=>by rw[g5,Lu q p]⟩⟩
end
theorem za(S:ae)(k:Nat):iI S k (bC S k)=S:=by have h:iB S.dx.T.aT k {S.dx.T.aT k with E:=bC S k}=S.dx.T.aT:=C4 _ _;unfold iI;rw[h]
theorem Qa(S:ae)(k:Nat)(E F:aD):iI (iI S k E) k F=iI S k F:=by
 have h:iB (iB S.dx.T.aT k {S.dx.T.aT k with E:=E}) k {(iB S.dx.T.aT k {S.dx.T.aT k with E:=E}) k with E:=F}=iB S.dx.T.aT k {S.dx.T.aT k with E:=F}:=by
  funext j;unfold iB;by_cases hj:j=k
  ·rw[aia hj,aia hj,aia rfl]
  ·rw[aib hj,aib hj,aib hj]
 unfold iI;dsimp only;rw[h]
structure Ev(S:ae)(P:aj)(Q:List Int)(S':ae)(P':aj)(Q':List Int)(k:Nat):Prop where
 st:∃E,S'=iI S k E
 oth:∀j,j≠k->Wd S' P' j=Wd S P j
 q:Q=[]->Q'=[]
 n:P'.n=P.n
 len:(bC S k).eY<=(bC S' k).eY
 pg:Q=[]->bx P'.dF.l+bx (bC S' k).aK=bx P.dF.l+bx (bC S k).aK
theorem Ev.trans{S S' S'':ae}{P P' P'':aj}{Q Q' Q'':List Int}{k:Nat}(a:Ev S P Q S' P' Q' k)(b:Ev S' P' Q' S'' P'' Q'' k):Ev S P Q S'' P'' Q'' k:=by obtain⟨E,hE⟩:=a.st;obtain⟨F,hF⟩:=b.st;exact⟨⟨F,by rw[hF,hE,Qa]⟩,λj hj=>(b.oth j hj).trans (a.oth j hj),λh=>b.q (a.q h),b.n.trans a.n,Int.le_trans a.len b.len,λh=>(b.pg (a.q h)).trans (a.pg h)⟩
section
variable {n:Nat} {S S':ae} {P P':aj} {M:ai} {Q Q':List Int} {t h:Int} {k:Nat}
theorem Me.put(hn:200<=n)(E:Me n S P M Q t h k){x v:Int}(h1:oe S k x)(hv:0<=v/\v<18446744073709551616):
  ∃P',gS n S P M Q t h x v=some (0,S,P',M,Q,t)/\Me n S P' M Q t h k/\Wd S P' k=KQ (Wd S P k) x v/\Ev S P Q S P' Q k/\P'.dF=P.dF:=by
 obtain⟨w1,w2⟩:=MN (h:=h) E.cw h1 hv;exact⟨_,(MS hn E.cw E.Eh h1.1 h1.2.2 hv).1,E.set hn h1 hv,w1,⟨⟨_,(za S k).symm⟩,w2,id,rfl,Int.le_refl _,λ_ =>rfl⟩,rfl⟩
end
end Go.Proofs.Z
namespace Go.Proofs.Z
open Go Go.Bw
def VR(p:Int):aj:={n:=p,dF:=⟨[⟨0,p⟩]⟩,bytes:=λ_ =>λ_ =>0}
def VX:ae:={cO with mj:=iB cO.mj 0 true,EV:=iB cO.EV 0 true}
def Je(q:Int):ae:={VX with dx:={T:={fB:=⟨⟨iB (λ_ =>ju) 0 {ju with kx:=true}⟩⟩,aT:=iB (λ_ =>iw) 0 ⟨0,q,cB,λ_ =>0⟩},O:=⟨iB (λ_ =>pP) 0 ⟨1,⟨1,0,0⟩⟩⟩,K:=dB}}
theorem yz(q:Int)(k:Nat):bC (Je q) k=cB:=by unfold bC Je iB;dsimp only;split<;>rfl
theorem agR:o7 cB:=⟨aae HE.nil,by show(0:Int)<=0;omega,by show(0:Int)<=32*bx [];simp[bx]⟩
theorem aeh{p:Int}(hp:1<=p/\p<=64):HD (VR p):=⟨Cg ⟨hp.1,by omega,by omega⟩,hp.2,λx hx=>by
 obtain h:=eU.1 hx;dsimp only at h;show x<p;omega,λi j=>⟨by show(0:Int)<=0;omega,by show(0:Int)<=255;omega⟩⟩
theorem ZO:N4 bn:=λi _ =>⟨rfl,rfl⟩
theorem ahI{p:Int}(hp:1<=p/\p<=64)(q:Int):Cw (Je q) (VR p) bn []:=by
 refine⟨aeh hp,λk=>by rw[yz];exact agR,λk x hx=>?_,λk j x _ hx=>?_,λx hx=>by simp at hx,List.nodup_nil,ZO,λk a h1 h2=>?_,λx x0 x1=> .inl (eU.2 ⟨x0,by show x<0+p;have:x<p:=x1;omega⟩)⟩
 ·rw[yz]at hx;exact absurd hx (jb _)
 ·rw[yz]at hx;exact absurd hx (jb _)
 ·rw[yz]at h1 h2
  have h1':0<=a:=h1;have h2':a<32*bx []:=h2;simp[bx]at h2';omega
set_option maxRecDepth 100000 in
theorem afK{n:Nat}(hn:300<=n){q:Int}(hq:0<=q/\q<=64):tE true n (Je q) 0 1 0:=by obtain⟨m,rfl⟩:∃m,n=m+300:=⟨n-300,by omega⟩;exact⟨by omega,by kernel_rfl,by kernel_rfl,by omega,by omega,by kernel_rfl,λe=>by kernel_rfl,λ_ e=>by kernel_rfl,hq,⟨false,by kernel_rfl⟩⟩
theorem agP{n:Nat}(hn:300<=n){p q:Int}(hp:1<=p/\p<=64)(hq:0<=q/\q<=64):Me n (Je q) (VR p) bn [] 0 1 0:=⟨ahI hp q,afK hn hq,by rw[yz];rfl⟩
theorem ahM(p q:Int)(k:Nat):Wd (Je q) (VR p) k=λ_ =>0:=by funext a;unfold Wd;rw[aib];rintro⟨h1,_,h2⟩;rw[yz]at h2;have:a+8<=0:=h2;omega
theorem agN{p:Int}(hp:1<=p/\p<=64):BI 20000 p=some ⟨[⟨0,p⟩]⟩:=by unfold BI;rw[aib (show¬(64<p)by omega),av (by simp;omega)];rfl
def H6(q:Int):aC:={eC with Do:=1,A:=q}
set_option maxRecDepth 100000 in
theorem aaj{q:Int}(hq:0<=q/\q<=64):cq 20000 VX 0 (H6 q) aA=some (Je q,⟨0,0,1⟩,[]):=by
 have hm:wr .i64 (if 65<q then 65 else q)=q:=by rw[aib (by omega),bD (by omega) (by omega)]
 have hqt:lH 20000 q=some true:=by unfold lH;simp[hq.1,hq.2]
 have hf:s0 20000 dV 0 q=some ((Je q).dx.T,1,0):=by
  have hT:nn 20000 dV 0 q=some ((Je q).dx.T,1,0):=by
   unfold nn;rw[qt (by rfl),av (by rfl),aq hqt,av (b:= !true) rfl]
   kernel_rfl
  have hd:mG 20000 dV 0=some 0:=by kernel_rfl
  unfold s0;rw[aq hT,rK (by rfl) hd];rfl
 have hc:gX 20000 (jh VX 0 (H6 q) aA false)=some (.ok (⟨0,0,1⟩,jh (Je q) 0 (H6 q) aA false)):=by
  unfold gX;rw[aZ,av (by rfl)];show bd (s0 20000 dV 0 (wr .i64 (if 65<q then 65 else q))) _ =_;rw[hm,aq hf]
  kernel_rfl
 have hd:∃i,GH 1=some (1,i,gX):=⟨_,rfl⟩;obtain⟨i,hi⟩:=hd;have hk:bM 20000 (jh VX 0 (H6 q) aA false)=some (⟨0,0,1⟩,some (jh (Je q) 0 (H6 q) aA false)):=by unfold bM;rw[bR (by kernel_rfl),ZA (by kernel_rfl),show GH (jh VX 0 (H6 q) aA false).c.Do=_ from hi];exact BF hc
 unfold cq;rw[aZ];show bd (bM 20000 (jh VX 0 (H6 q) aA false)) _ =_;rw[aq hk];rfl
theorem aeq{p q:Int}(hq:0<=q/\q<=64):cy 20000 VX (VR p) bn [] 0 (H6 q)=some (⟨0,0,1⟩,Je q,VR p,bn,[],0):=by
 have Uh:fX 20000 VX 0 (H6 q)=some 0:=by unfold fX;rw[aq (BV (by show(1:Int)≠2;omega)),av (by simp),aq (aaj hq)];rfl
 refine kB ?_ (.inr rfl);rw[show(20000:Nat)=19998+1+1 from rfl]at Uh ⊢;rw[Tn (by show(1:Int)≠15;omega) Uh (by kernel_rfl)];have:=Dw (n:=19998+1+1) (S:=VX) (P:=VR p) (M:=bn) (M':=bn) (Q:=[]) (u:=En 0 (H6 q) [] aA 0) (fC:=[]) (x0:=ay) (b0:=false) (pl:=([],4)) (by omega) (.inl (by show(0:Int)<=0;omega)) (by kernel_rfl) (aaj hq) rfl ⟨by show(1:Int)≠3;omega,by show(1:Int)≠4;omega⟩ (by simp) (by simp) (by simp) (OZ (t:=0) (by omega) ZO (by omega) (by omega));exact Pa (by show(1:Int)≠15;omega) (BV (by show(1:Int)≠2;omega)) this
theorem abi{p q s:Int}(hp:1<=p/\p<=64)(hq:q<=64)(ho:sW s 8=true)(h8:s%8=0)(h1:eS s<=p/\eS s<=q):∃S P,dU 20000 (Je q) (VR p) bn [] 0 1 s 8=some (0,0,S,P,bn,[],0)/\Me 20000 S P bn [] 0 1 0/\P.n=p/\S=iI (Je q) 0 ⟨[⟨0,eS s⟩],s⟩/\(∀j,Wd S P j=λ_ =>0)/\(∀x,bZ P.dF.l x↔eS s<=x/\x<p):=by
 obtain⟨n1,n2,n3⟩:=BR ho;have E:=agP (n:=20000) (by omega) hp (show 0<=q/\q<=64 by omega);have hnf:eJ (bC (Je q) 0) s 8=false:=by rw[yz];obtain⟨⟨s1,s2⟩,_⟩:=lW.1 ho;unfold eJ;rw[ho,Bool.true_and,decide_eq_false_iff_not];show¬(y8 0 8+s<=32*bx []);simp only[bx,List.map_nil,List.sum_nil];unfold y8;omega
 have hin:HY (VR p).dF.l 0 (eS s):=⟨⟨by omega,by omega,by omega⟩,λx x0 x1=>eU.2 ⟨x0,by show x<0+p;omega⟩⟩;obtain⟨S',P',Q',q1,q2,E',hW,_,hc⟩:=E.alloc (s:=s) (by omega) ho h8;have hQ:Q'=[]:=q1 rfl;subst hQ;rcases hc with⟨e1,e2,e3,e4,e5⟩|⟨x,l,e1,e2,e3,e4,e5,e6,e7,e8⟩
 ·exfalso
  rcases e5 with h|h
  ·have h1:((Je q).dx.T.aT 0).fU=q:=rfl
   have h2:bx (bC (Je q) 0).aK=0:=by rw[yz];rfl
   omega
  ·refine h 0 ⟨⟨by omega,by omega,by omega⟩,λx x0 x1=>?_⟩
   rcases E'.cw.KR x x0 (by rw[q2];show x<p;omega)with h1|h1|⟨k,h1⟩
   ·exact h1
   ·simp at h1
   ·rw[e2,yz]at h1;exact absurd h1 (jb _)
 ·obtain⟨f1,v,f2,f3⟩:=e8 hnf
  obtain⟨g1,g2,g3⟩:=f3 rfl;have hv:v=0:=by
   have h0:=g1.1.2.1;rcases Int.lt_or_le 0 v with h1|h1
   ·exact absurd hin (g2 0 h1)
   ·omega
  subst hv;have hx:x=0:=by rw[f1,yz];rfl
  subst hx;have hl:l=[⟨0,eS s⟩]:=by rw[f2,yz];rfl
  subst hl;refine⟨S',P',e1,E',q2,by rw[e2,Int.zero_add],λj=>by rw[hW j,ahM],λx=>?_⟩;rw[g3];constructor
  ·rintro⟨h1,h2⟩
   have h1':=eU.1 h1;dsimp only at h1';omega
  ·rintro⟨h1,h2⟩
   exact⟨eU.2 ⟨by show 0<=x;omega,by show x<0+p;omega⟩,by omega⟩
end Go.Proofs.Z
namespace Go.Proofs.Z
open Go Go.Bw
section
variable {n:Nat} {S S':ae} {P P':aj} {M:ai} {Q Q':List Int} {t h:Int} {k:Nat} {at_:Int}
theorem abI(hn:200<=n)(E:Mr n S P M Q t h k){x:Int}(h1:oe S k x):bN n S P M Q t h at_ 0 x=some (Wd S P k x,S,P,M,Q,t,h,at_,0):=by unfold bN;rw[av (by rfl),aq (Od hn E.cw E.Eh h1.1 h1.2.2),aZ,afL h1]
theorem Ue{e:Int}(he:e≠0){x:Int}:bN n S P M Q t h at_ e x=some (0,S,P,M,Q,t,h,at_,e):=by unfold bN;rw[aX (by simpa using he)]
theorem yp(hn:200<=n)(E:Mr n S P M Q t h k){x:Int}(hr:0<=at_/\at_<=100000)(hx:0<=x/\x<=100)(h1:oe S k (at_+x)):bP n S P M Q t h at_ 0 x=some (Wd S P k (at_+x),S,P,M,Q,t,h,at_,0):=by unfold bP;rw[bD (by omega) (by omega),aq (abI hn E h1)]
theorem abH{e:Int}(he:e≠0){x:Int}:bP n S P M Q t h at_ e x=some (0,S,P,M,Q,t,h,at_,e):=by unfold bP;rw[aq (Ue he)]
theorem Lt(hn:200<=n)(E:Me n S P M Q t h k){x v:Int}(h1:oe S k x)(hv:0<=v/\v<18446744073709551616):dg n S P M Q t h at_ 0 x v=some (S,ZB S P k h x v,M,Q,t,h,at_,0):=by unfold dg;rw[aX (by rfl),aq (MS hn E.cw E.Eh h1.1 h1.2.2 hv).1,aZ]
theorem OU{e:Int}(he:e≠0){x v:Int}:dg n S P M Q t h at_ e x v=some (S,P,M,Q,t,h,at_,e):=by unfold dg;rw[av (by simpa using he)]
theorem aeZ(hn:200<=n)(E:Me n S P M Q t h k){x v:Int}(hr:0<=at_/\at_<=100000)(hx:0<=x/\x<=100)(h1:oe S k (at_+x))(hv:0<=v/\v<18446744073709551616):bz n S P M Q t h at_ 0 x v=some (S,ZB S P k h (at_+x) v,M,Q,t,h,at_,0):=by unfold bz;rw[bD (by omega) (by omega),aq (Lt hn E h1 hv)]
theorem Gi{e:Int}(he:e≠0){x v:Int}:bz n S P M Q t h at_ e x v=some (S,P,M,Q,t,h,at_,e):=by unfold bz;rw[aq (OU he)]
theorem R6{x:Int}(h0:0<=x)(h1:x<4294967296):fL n (x+1)=some x:=by unfold fL;rw[av (by simp;omega),uO (by omega) (by omega),bD (by omega) (by omega)];congr 1;omega
theorem vZ{x:Int}(h0:0<=x)(h1:x<4294967296):gY n x=some (x+1):=by unfold gY;rw[uO (x:=x) (by omega) (by omega),uO (by omega) (by omega)]
end
def chn(m:Int->Int):List Int->Int->Prop
 |[],l=>l=0
 |x::r,l=>l=x+1/\chn m r (m x)
theorem rY{m m':Int->Int}:∀{ns:List Int} {l:Int},(∀x∈ns,m' x=m x)->chn m ns l->chn m' ns l
 |[],_,_,h=>h
 |x::r,l,hm,⟨h1,h2⟩=>⟨h1,by rw[hm x (by simp)];exact rY (λy hy=>hm y (by simp[hy])) h2⟩
def DC(x y:Int):Prop:=x+16<=y\/y+16<=x
theorem DB{x y:Int}(h:DC x y):DC y x:=Or.symm h
structure Lr(m:Int->Int)(L a:Int)(vs ns sp:List Int):Prop where
 hb:0<=a/\a%8=0/\a+32<=L/\L<=2048
 nb:∀x∈ns++sp,0<=x/\x%8=0/\x+16<=L/\(x+16<=a\/a+32<=x)
 cr:(ns++sp).Pairwise DC
 first:chn m ns (m a)
 Nl:∀pre x,ns=pre++[x]->m (a+8)=x+1
 zh:m (a+16)=ns.length
 spare:chn m sp (m (a+24))
 val:vs=ns.map λx=>m (x+8)
theorem Lr.frame{m m':Int->Int}{L L' a:Int}{vs ns sp:List Int}(h:Lr m L a vs ns sp)(hL:L<=L'/\L'<=2048)(h0:∀x,x=a\/x=a+8\/x=a+16\/x=a+24->m' x=m x)(hn:∀x,x∈ns++sp->m' x=m x/\m' (x+8)=m (x+8)):Lr m' L' a vs ns sp:=by
 refine⟨⟨h.hb.1,h.hb.2.1,by have:=h.hb;omega,hL.2⟩,λx hx=>?_,h.cr,?_,λpre x e=>?_,?_,?_,?_⟩
 ·obtain⟨a1,a2,a3,a4⟩:=h.nb x hx
  exact⟨a1,a2,by omega,a4⟩
 ·rw[h0 a (.inl rfl)];exact rY (λx hx=>(hn x (by simp[hx])).1) h.first
 ·rw[h0 _ (.inr (.inl rfl))];exact h.Nl pre x e
 ·rw[h0 _ (.inr (.inr (.inl rfl)))];exact h.zh
 ·rw[h0 _ (.inr (.inr (.inr rfl)))];exact rY (λx hx=>(hn x (by simp[hx])).1) h.spare
 ·rw[h.val]
  exact List.map_congr_left λx hx=>((hn x (by simp[hx])).2).symm
theorem Lr.agO{m:Int->Int}{L a:Int}{vs ns sp:List Int}(h:Lr m L a vs ns sp):(ns++sp).length<=128:=by
 have hl:((ns++sp).map λx=>(x+15)/16).length<=128:=by
  refine vl 128 ?_ λp hp=>?_
  ·rw[List.Nodup,List.pairwise_map]
   exact h.cr.imp λ{x y} hxy e=>by unfold DC at hxy;omega
  ·obtain⟨x,hx,rfl⟩:=List.mem_map.1 hp
   obtain⟨a1,_,a3,_⟩:=h.nb x hx;have:=h.hb;exact⟨by omega,by show _ <(128:Int);omega⟩
 rw[List.length_map]at hl;exact hl
theorem aa1{l:List Int}(h:l.Pairwise DC){x y:Int}(hx:x∈l)(hy:y∈l):x=y\/DC x y:=by
 induction l with
 |nil=>simp at hx
 |cons z r ih=>
  obtain⟨h1,h2⟩:=List.pairwise_cons.1 h;rcases List.mem_cons.1 hx with ex|hx'<;>rcases List.mem_cons.1 hy with ey|hy'
  ·exact .inl (ex.trans ey.symm)
  ·rw[ex];exact .inr (h1 y hy')
  ·rw[ey];exact .inr (DB (h1 x hx'))
  ·exact ih h2 hx' hy'
theorem LW{m m':Int->Int}{y:Int}(h4:m' y=0):∀{ns:List Int} {l:Int},ns≠[]->chn m ns l->(∀pre z,ns=pre++[z]->(∀w∈pre,m' w=m w)/\m' z=y+1)->chn m' (ns++[y]) l
 |[],_,hn,_,_ =>absurd rfl hn
 |[x],l,_,⟨h1,_⟩,hm=>⟨h1,by obtain⟨_,h⟩:=hm [] x rfl;exact h,h4⟩
 |x::z::r,l,_,⟨h1,h2⟩,hm=>by
  refine⟨h1,?_⟩;have hx:m' x=m x:=by obtain⟨pre,w,e⟩:∃pre w,z::r=pre++[w]:=⟨(z::r).dropLast,(z::r).getLast (by simp),(List.dropLast_concat_getLast (by simp)).symm⟩;exact(hm (x::pre) w (by rw[e];rfl)).1 x (by simp)
  show chn m' ((z::r)++[y]) (m' x);rw[hx];exact LW h4 (by simp) h2 λpre w e=>by obtain⟨q1,q2⟩:=hm (x::pre) w (by rw[e];rfl);exact⟨λu hu=>q1 u (by simp[hu]),q2⟩
theorem Lr.fC{m m':Int->Int}{L a v x:Int}{vs ns sp:List Int}(h:Lr m L a vs ns sp)(hx:0<=x/\x%8=0/\x+16<=L/\(x+16<=a\/a+32<=x))(hf:∀y∈ns++sp,DC x y)
  (e0:m' x=0)(e1:m' (x+8)=v)(e2:m' (a+8)=x+1)(e3:m' a=if ns.length=0 then x+1 else m a)(e4:m' (a+16)=ns.length+1)(e5:m' (a+24)=m (a+24))(e6:∀y∈ns++sp,m' (y+8)=m (y+8))(e7:∀y∈sp,m' y=m y)(e8:∀pre z,ns=pre++[z]->(∀w∈pre,m' w=m w)/\m' z=x+1):Lr m' L a (vs++[v]) (ns++[x]) sp:=by
 have hp:((ns++[x])++sp).Perm (x::(ns++sp)):=by rw[List.append_assoc];exact List.perm_middle
 refine⟨h.hb,λy hy=>?_,(List.Perm.pairwise_iff DB hp).2 (List.pairwise_cons.2 ⟨hf,h.cr⟩),?_,λpre z e=>?_,?_,?_,?_⟩
 ·rcases List.mem_cons.1 (hp.mem_iff.1 hy)with rfl|hy
  ·exact hx
  ·exact h.nb y hy
 ·rw[e3]
  cases ns with
  |nil=>exact⟨rfl,e0⟩
  |cons z r=>rw[aib (by simp)];exact LW e0 (by simp) h.first e8
 ·have:x=z:=by
   have:=congrArg List.getLast? e;rw[List.getLast?_append,List.getLast?_append]at this;simpa using this
  rw[e2,this]
 ·rw[e4];simp
 ·rw[e5];exact rY e7 h.spare
 ·rw[List.map_append,h.val]
  congr 1
  ·exact List.map_congr_left λy hy=>(e6 y (by simp[hy])).symm
  ·simp[e1]
end Go.Proofs.Z
namespace Go.Proofs.Z
open Go Go.Bw
section
variable {n:Nat} {S S':ae} {P P':aj} {M:ai} {Q Q':List Int} {t h:Int} {k:Nat} {a:Int}
theorem JZ(hn:200<=n)(E:Me n S P M Q t h k){x v:Int}(h1:oe S k x)(hv:0<=v/\v<18446744073709551616):
  ∃P',dg n S P M Q t h a 0 x v=some (S,P',M,Q,t,h,a,0)/\Me n S P' M Q t h k/\Wd S P' k=KQ (Wd S P k) x v/\Ev S P Q S P' Q k:=by
 obtain⟨w1,w2⟩:=MN (h:=h) E.cw h1 hv;exact⟨_,Lt hn E h1 hv,E.set hn h1 hv,w1,⟨⟨_,(za S k).symm⟩,w2,id,rfl,Int.le_refl _,λ_ =>rfl⟩⟩
theorem B4(hn:200<=n)(E:Me n S P M Q t h k){x v:Int}(hr:0<=a/\a<=100000)(hx:0<=x/\x<=100)(h1:oe S k (a+x))(hv:0<=v/\v<18446744073709551616):
  ∃P',bz n S P M Q t h a 0 x v=some (S,P',M,Q,t,h,a,0)/\Me n S P' M Q t h k/\Wd S P' k=KQ (Wd S P k) (a+x) v/\Ev S P Q S P' Q k:=by
 obtain⟨w1,w2⟩:=MN (h:=h) E.cw h1 hv;exact⟨_,aeZ hn E hr hx h1 hv,E.set hn h1 hv,w1,⟨⟨_,(za S k).symm⟩,w2,id,rfl,Int.le_refl _,λ_ =>rfl⟩⟩
theorem Tv(hn:200<=n)(E:Me n S P M Q t h k){vs ns sp:List Int}(R:Lr (Wd S P k) (bC S k).eY a vs ns sp):
  ∃x S' P' Q' e,iv n S P M Q t h a 0=some (x,S',P',M,Q',t,h,a,e)/\Me n S' P' M Q' t h k/\Ev S P Q S' P' Q' k/\
   ((e=6/\S'=S/\sp=[]/\Q'=[]/\Wd S' P' k=Wd S P k/\x=0/\eJ (bC S k) 16 8=false/\((S.dx.T.aT k).fU<bx (bC S k).aK+1\/∀v,¬HY P'.dF.l v 1))\/
    (e=0/\∃sp',Lr (Wd S' P' k) (bC S' k).eY a vs ns sp'/\(0<=x/\x%8=0/\x+16<=(bC S' k).eY/\(x+16<=a\/a+32<=x))/\(∀y∈ns++sp',DC x y)/\
     ((sp.length=sp'.length+1/\S'=S)\/(sp=[]/\sp'=[]/\(bC S k).eY+16<=(bC S' k).eY/\((bC S k).eY%16=0->(bC S' k).eY=(bC S k).eY+16)/\(eJ (bC S k) 16 8=true->bx (bC S' k).aK=bx (bC S k).aK)/\(eJ (bC S k) 16 8=false->bx (bC S' k).aK=bx (bC S k).aK+1)))/\
     ∀z,z=a\/z=a+8\/z=a+16->Wd S' P' k z=Wd S P k z)):=by
 obtain⟨b1,b2,b3,b4⟩:=R.hb;have hin:∀z,z=0\/z=8\/z=16\/z=24->oe S k (a+z):=λz hz=>⟨by omega,by omega,by omega⟩;have ho:sW 16 8=true:=rfl;cases sp with
 |nil=>
  obtain⟨S',P',Q',q1,q2,E',hW,hpg,hc⟩:=E.alloc hn ho rfl;have h0:Wd S P k (a+24)=0:=R.spare;have he:∀{x e:Int},dU n S P M Q t h 16 8=some (x,e,S',P',M,Q',t)->iv n S P M Q t h a 0=some (x,S',P',M,Q',t,h,a,e):=λ{x e} hm=>by unfold iv;rw[aq (yp hn E.mr ⟨b1,by omega⟩ (by omega) (hin 24 (by omega))),av (by rfl),h0,aX (by rfl),aq hm,aZ]
  rcases hc with⟨e1,e2,e3,e4,e5⟩|⟨x,l,e1,e2,e3,e4,e5,e6,e7,e8⟩
  ·subst e2
   refine⟨0,S',P',Q',6,he e1,E',⟨⟨_,(za S' k).symm⟩,λj _ =>hW j,q1,q2,Int.le_refl _,hpg⟩, .inl ⟨rfl,rfl,rfl,e3,hW k,rfl,e4,?_⟩⟩;rcases e5 with h|h
   ·exact .inl h
   ·exact .inr h
  ·have hlen:(bC S' k).eY=x+16:=by rw[e2,fK]
   have Z9:(bC S' k).aK=l:=by rw[e2,fK]
   refine⟨x,S',P',Q',0,he e1,E',⟨⟨_,e2⟩,λj _ =>hW j,q1,q2,by omega,hpg⟩, .inr ⟨rfl,[],?_,⟨e5,e4,by omega, .inr (by omega)⟩,λy hy=>?_, .inr ⟨rfl,rfl,by omega,λ_=>?_,λhf=>?_,λhf=>?_⟩,λz _ =>by rw[hW k]⟩⟩
   ·rw[hW k]
    exact R.frame ⟨by omega,by omega⟩ (λ_ _ =>rfl) (λ_ _ =>⟨rfl,rfl⟩)
   ·have:=(R.nb y hy).2.2.1
    exact .inr (by omega)
   ·have hm:=E.cw.may k
    have h1:=hm.hi;have h2:=hm.lo;cases hf:eJ (bC S k) 16 8 with
    |true=>rw[hlen,(e7 hf).1];unfold y8;omega
    |false=>rw[hlen,(e8 hf).1];unfold eJ at hf;rw[ho,Bool.true_and,decide_eq_false_iff_not]at hf;unfold y8 at hf;omega
   ·rw[Z9,(e7 hf).2.1]
   ·obtain⟨v,hv,_⟩:=(e8 hf).2
    rw[Z9,hv,oD,pW];rfl
 |cons y sp'=>
  have hy:Wd S P k (a+24)=y+1:=R.spare.1;obtain⟨y1,y2,y3,y4⟩:=R.nb y (by simp);have hyi:oe S k (y+0):=⟨by omega,by omega,by omega⟩;have Wb:=A2 E.cw k (y+0);obtain⟨P',f1,f2,f3,f4⟩:=B4 (a:=a) hn E ⟨b1,by omega⟩ (x:=24) (by omega) (hin 24 (by omega)) Wb;have Qt:=R.cr;have hp:(ns++y::sp').Perm (y::(ns++sp')):=List.perm_middle;have ae5:=List.pairwise_cons.1 ((List.Perm.pairwise_iff DB hp).1 Qt);have hnb:∀z∈ns++sp',0<=z/\z%8=0/\z+16<=(bC S k).eY/\(z+16<=a\/a+32<=z):=λz hz=>R.nb z (hp.mem_iff.2 (by simp[hz]));refine⟨y,S,P',Q,0,?_,f2,f4, .inr ⟨rfl,sp',?_,⟨y1,y2,y3,y4⟩,ae5.1, .inl ⟨by simp,rfl⟩,λz hz=>by rw[f3,Oj _ _ (by omega)]⟩⟩
  ·unfold iv
   rw[aq (yp hn E.mr ⟨b1,by omega⟩ (by omega) (hin 24 (by omega))),av (by rfl),hy,av (by simp;omega),aq (R6 (by omega) (by omega)),bD (by omega) (by omega),aq (abI hn E.mr hyi),aq f1,aq (R6 (by omega) (by omega))]
  ·have Dn:∀z,z≠a+24->Wd S P' k z=Wd S P k z:=λz hz=>by rw[f3,Oj _ _ hz]
   refine⟨R.hb,hnb,ae5.2,?_,λpre z e=>?_,?_,?_,?_⟩
   ·rw[Dn a (by omega)]
    exact rY (λz hz=>Dn z (by have:=hnb z (by simp[hz]);omega)) R.first
   ·rw[Dn _ (by omega)];exact R.Nl pre z e
   ·rw[Dn _ (by omega)];exact R.zh
   ·have T4:Wd S P' k (a+24)=Wd S P k y:=by rw[f3,WI,Int.add_zero]
    rw[T4];exact rY (λz hz=>Dn z (by have:=hnb z (by simp[hz]);omega)) R.spare.2
   ·rw[R.val]
    exact List.map_congr_left λz hz=>(Dn _ (by have:=hnb z (by simp[hz]);omega)).symm
end
end Go.Proofs.Z
namespace Go.Proofs.Z
open Go Go.Bw
section
variable {n:Nat} {S S':ae} {P P':aj} {M:ai} {Q Q':List Int} {t h:Int} {k:Nat} {a:Int}
def Oom(S:ae)(k:Nat)(P':aj):Prop:=eJ (bC S k) 16 8=false/\((S.dx.T.aT k).fU<bx (bC S k).aK+1\/∀v,¬HY P'.dF.l v 1)
def afS(S S':ae)(k:Nat)(ns sp ns' sp':List Int):Prop:=ns'.length=ns.length+1/\ ((sp.length=sp'.length+1/\S'=S)\/(sp=[]/\sp'=[]/\(bC S k).eY+16<=(bC S' k).eY/\((bC S k).eY%16=0->(bC S' k).eY=(bC S k).eY+16)/\(eJ (bC S k) 16 8=true->bx (bC S' k).aK=bx (bC S k).aK)/\(eJ (bC S k) 16 8=false->bx (bC S' k).aK=bx (bC S k).aK+1)))
theorem aaF(n:Nat)(x:Int):∃y,fL n x=some y:=by
 unfold fL;cases((x==0)||decide (4294967296<x))with
 |true=>exact⟨_,rfl⟩
 |false=>exact⟨_,rfl⟩
theorem WS{ns:List Int}(h:ns.length≠0):∃pre z,ns=pre++[z]:=⟨ns.dropLast,ns.getLast (by intro e;rw[e]at h;exact h rfl),(List.dropLast_concat_getLast _).symm⟩
theorem U0(hn:200<=n)(E:Me n S P M Q t h k){vs ns sp:List Int}(R:Lr (Wd S P k) (bC S k).eY a vs ns sp){v:Int}(hv:0<=v/\v<18446744073709551616):
  ∃S' P' Q' e,jL n S P M Q t h a v=some (e,S',P',M,Q',t,h,a)/\Me n S' P' M Q' t h k/\Ev S P Q S' P' Q' k/\
   ((e=6/\S'=S/\sp=[]/\Q'=[]/\Wd S' P' k=Wd S P k/\Oom S k P')\/
    (e=0/\∃ns' sp',Lr (Wd S' P' k) (bC S' k).eY a (vs++[v]) ns' sp'/\afS S S' k ns sp ns' sp')):=by
 obtain⟨b1,b2,b3,b4⟩:=R.hb;have hin:∀z,z=0\/z=8\/z=16\/z=24->oe S k (a+z):=λz hz=>⟨by omega,by omega,by omega⟩;have har:0<=a/\a<=100000:=⟨b1,by omega⟩;have hm:=R.agO;rw[List.length_append]at hm;obtain⟨x,S1,P1,Q1,e,n1,E1,V1,hc⟩:=Tv hn E R;unfold jL;rw[aq (yp hn E.mr har (by omega) (hin 16 (by omega))),aq (yp hn E.mr har (by omega) (hin 8 (by omega))),aq n1];rcases hc with⟨rfl,rfl,e3,e4,e5,rfl,e6,e7⟩|⟨rfl,sp',R1,hx,hf,hs,hold⟩
 ·have h6:(6:Int)≠0:=by omega
  rw[aq (OU h6),aq (OU h6),aZ];refine⟨S1,P1,Q1,6,?_,E1,V1, .inl ⟨rfl,rfl,e3,e4,e5,e6,e7⟩⟩;by_cases c:(Wd S1 P k (a+16)==0)=true
  ·rw[aX c]
   dsimp only;rw[aq (vZ (x:=0) (by omega) (by omega)),aq (Gi h6)];dsimp only;rw[aq (vZ (x:=0) (by omega) (by omega)),aq (Gi h6),aq (Gi h6)]
  ·rw[av (by simpa using c)]
   dsimp only;obtain⟨y,hy⟩:=aaF n (Wd S1 P k (a+8));rw[aq hy,aq (vZ (x:=0) (by omega) (by omega)),aq (OU h6)];dsimp only;rw[aq (vZ (x:=0) (by omega) (by omega)),aq (Gi h6),aq (Gi h6)]
 ·obtain⟨x0,x1,x2,x3⟩:=hx
  have hL1:=R1.hb.2.2.2;have abF:∀z,z=0\/z=8\/z=16\/z=24->oe S1 k (a+z):=λz hz=>⟨by omega,by omega,by have:=V1.len;omega⟩;have X9:Wd S P k (a+16)=ns.length:=R.zh;obtain⟨P2,f2,E2,W2,V2⟩:=JZ (a:=a) hn E1 (x:=x+0) (v:=0) ⟨by omega,by omega,by omega⟩ (by omega);obtain⟨P3,f3,E3,W3,V3⟩:=JZ (a:=a) hn E2 (x:=x+8) (v:=v) ⟨by omega,by omega,by omega⟩ hv;rw[bD (x:=x+0) (by omega) (by omega),bD (x:=x+8) (by omega) (by omega),aq f2,aq f3,aZ];have fin:∀{P5:aj} {b w:Int},(ns.length=0/\b=a/\w=x+1\/(∃pre,ns=pre++[b]/\w=x+1))->Me n S1 P5 M Q1 t h k->Ev S1 P1 Q1 S1 P5 Q1 k->Wd S1 P5 k=KQ (Wd S1 P3 k) b w->
    ∃S' P' Q' e,(bd (gY n x) λfP=>bd (bz n S1 P5 M Q1 t h a 0 8 fP) λjx=>bd (bz n jx.1 jx.2.1 jx.2.2.1 jx.2.2.2.1 jx.2.2.2.2.1 jx.2.2.2.2.2.1 jx.2.2.2.2.2.2.1 jx.2.2.2.2.2.2.2 16 (wr .u64 ((ns.length:Int)+1))) λdR=>some (dR.2.2.2.2.2.2.2,dR.1,dR.2.1,dR.2.2.1,dR.2.2.2.1,dR.2.2.2.2.1,h,a))=some (e,S',P',M,Q',t,h,a)/\Me n S' P' M Q' t h k/\Ev S P Q S' P' Q' k/\
     ((e=6/\S'=S/\sp=[]/\Q'=[]/\Wd S' P' k=Wd S P k/\Oom S k P')\/
      (e=0/\∃ns' sp',Lr (Wd S' P' k) (bC S' k).eY a (vs++[v]) ns' sp'/\afS S S' k ns sp ns' sp')):=by
   intro P5 b w hb E5 V5 W5;obtain⟨P6,f6,E6,W6,V6⟩:=B4 (a:=a) hn E5 har (x:=8) (v:=x+1) (by omega) (abF 8 (by omega)) (by omega);obtain⟨P7,f7,E7,W7,V7⟩:=B4 (a:=a) hn E6 har (x:=16) (v:=(ns.length:Int)+1) (by omega) (abF 16 (by omega)) (by omega);rw[aq (vZ (by omega) (by omega)),aq f6,uO (by omega) (by omega),aq f7];refine⟨S1,P7,Q1,0,rfl,E7,V1.trans (V5.trans (V6.trans V7)), .inr ⟨rfl,ns++[x],sp',?_,by simp,hs⟩⟩;have hW:∀z,Wd S1 P7 k z=if z=a+16 then(ns.length:Int)+1 else if z=a+8 then x+1 else if z=b then w else if z=x+8 then v else if z=x then 0 else Wd S1 P1 k z:=by intro z;rw[W7,W6,W5,W3,W2,Int.add_zero];rfl
   have hbn:(ns.length=0/\b=a)\/(ns.length≠0/\b∈ns++sp'):=by
    rcases hb with⟨c1,c2,_⟩|⟨pre,c1,_⟩
    ·exact .inl ⟨c1,c2⟩
    ·exact .inr ⟨by rw[c1];simp,by rw[c1];simp⟩
   have hbx:b=a\/(b≠a/\b≠a+8/\b≠a+16/\b≠a+24/\b≠x/\b≠x+8):=by
    rcases hbn with⟨_,c2⟩|⟨_,c2⟩
    ·exact .inl c2
    ·have q1:=R1.nb b c2
     have q2:=hf b c2;unfold DC at q2;exact .inr ⟨by omega,by omega,by omega,by omega,by omega,by omega⟩
   have hw:w=x+1:=by rcases hb with⟨_,_,c⟩|⟨_,_,c⟩<;>exact c
   have hne:∀y∈ns++sp',∀z,(z=y/\y≠b)\/z=y+8->Wd S1 P7 k z=Wd S1 P1 k z:=λy hy z hz=>by
    have q1:=R1.nb y hy;have q2:=hf y hy;unfold DC at q2;have q3:y+8≠b:=by
     rcases hbn with⟨_,c2⟩|⟨_,c2⟩
     ·omega
     ·rcases aa1 R1.cr hy c2 with c|c
      ·omega
      ·unfold DC at c;omega
    rw[hW,aib (by omega),aib (by omega),aib (by omega),aib (by omega),aib (by omega)]
   refine R1.fC ⟨x0,x1,x2,x3⟩ hf ?_ ?_ ?_ ?_ ?_ ?_ (λy hy=>hne y hy _ (.inr rfl)) (λy hy=>hne y (by simp[hy]) _ (.inl ⟨rfl,?_⟩)) λpre z e=>⟨λy hy=>hne y (by rw[e];simp[hy]) _ (.inl ⟨rfl,?_⟩),?_⟩
   ·rw[hW,aib (by omega),aib (by omega),aib (by omega),aib (by omega),aia rfl]
   ·rw[hW,aib (by omega),aib (by omega),aib (by omega),aia rfl]
   ·rw[hW,aib (by omega),aia rfl]
   ·by_cases c:ns.length=0
    ·rw[hW,aib (by omega),aib (by omega),aia (by rcases hbn with⟨_,c2⟩|⟨c1,_⟩<;>omega),aia c,hw]
    ·have q:a≠b:=by
      rcases hbn with⟨c1,_⟩|⟨_,c2⟩
      ·exact absurd c1 c
      ·have:=R1.nb b c2;omega
     rw[hW,aib (by omega),aib (by omega),aib q,aib (by omega),aib (by omega),aib c]
   ·rw[hW,aia rfl]
   ·rw[hW,aib (by omega),aib (by omega),aib (by omega),aib (by omega),aib (by omega)]
   ·intro e
    subst e;rcases hb with⟨_,c2,_⟩|⟨pre,c1,_⟩
    ·have:=R1.nb y (by simp[hy]);omega
    ·have h1:=(List.pairwise_append.1 R1.cr).2.2 y (by rw[c1];simp) y hy
     unfold DC at h1;omega
   ·intro e'
    subst e';rcases hb with⟨c1,_,_⟩|⟨pre',c1,_⟩
    ·rw[e]at c1;simp at c1
    ·have h1:=(List.pairwise_append.1 R1.cr).1
     have hz:y=z:=by have:=congrArg List.getLast? (c1.symm.trans e);rw[List.getLast?_append,List.getLast?_append]at this;simpa using this
     subst hz;rw[e]at h1;have h2:=(List.pairwise_append.1 h1).2.2 y hy y (by simp);unfold DC at h2;omega
   ·have q:z=b:=by
     rcases hb with⟨c1,_,_⟩|⟨pre',c1,_⟩
     ·rw[e]at c1;simp at c1
     ·have:=congrArg List.getLast? (e.symm.trans c1)
      rw[List.getLast?_append,List.getLast?_append]at this;simpa using this
    have q1:=R1.nb z (by rw[e];simp);rw[hW,aib (by omega),aib (by omega),aia q,hw]
  by_cases c:ns.length=0
  ·rw[aX (by rw[X9,c];rfl)]
   dsimp only;obtain⟨P5,f5,E5,W5,V5⟩:=B4 (a:=a) hn E3 har (x:=0) (v:=x+1) (by omega) (abF 0 (by omega)) (by omega);rw[aq (vZ (by omega) (by omega)),aq f5];dsimp only;rw[X9];exact fin (.inl ⟨c,rfl,rfl⟩) E5 (V2.trans (V3.trans V5)) (by rw[W5,Int.add_zero])
  ·obtain⟨pre,z,hz⟩:=WS c
   have hl:Wd S P k (a+8)=z+1:=R.Nl pre z hz;have q1:=R1.nb z (by rw[hz];simp);rw[av (by rw[X9];exact beq_eq_false_iff_ne.2 (by omega))];dsimp only;obtain⟨P5,f5,E5,W5,V5⟩:=JZ (a:=a) hn E3 (x:=z+0) (v:=x+1) ⟨by omega,by omega,by omega⟩ (by omega);rw[hl,aq (R6 (by omega) (by omega)),aq (vZ (by omega) (by omega)),bD (x:=z+0) (by omega) (by omega),aq f5];dsimp only;rw[X9];exact fin (b:=z) (.inr ⟨pre,hz,rfl⟩) E5 (V2.trans (V3.trans V5)) (by rw[W5,Int.add_zero])
end
end Go.Proofs.Z
namespace Go.Proofs.Z
open Go Go.Bw
end Go.Proofs.Z
namespace Go.Proofs.Z
open Go Go.Bw
end Go.Proofs.Z
namespace Go.Proofs.Z
open Go Go.Bw
theorem abh{p q:Int}(hp:1<=p/\p<=64)(hq:1<=q/\q<=64):∃S P,dU 20000 (Je q) (VR p) bn [] 0 1 32 8=some (0,0,S,P,bn,[],0)/\Me 20000 S P bn [] 0 1 0/\P.n=p/\S=iI (Je q) 0 ⟨[⟨0,1⟩],32⟩/\(∀j,Wd S P j=λ_ =>0)/\(∀x,bZ P.dF.l x↔1<=x/\x<p)/\Lr (Wd S P 0) 32 0 [] [] []:=by obtain⟨S,P,e1,e2,e3,e4,e5,e6⟩:=abi (s:=32) hp hq.2 rfl rfl (by have:eS 32=1:=rfl;omega);refine⟨S,P,e1,e2,e3,e4,e5,e6,?_⟩;rw[e5 0];exact⟨by omega,by simp,by simp,rfl,λpre x e=>by simp at e,rfl,rfl,rfl⟩
end Go.Proofs.Z
namespace Go.Proofs.Z
open Go Go.Bw
def Hz(c:Int):Int:=if c=0\/4294967296<c then -1 else c-1
theorem Ip{n:Nat}{c:Int}(h0:0<=c)(h1:c<18446744073709551616):fL n c=some (Hz c):=by
 unfold fL Hz;by_cases h:c=0\/4294967296<c
 ·rw[aX (by simpa using h),aia h]
 ·rw[av (by simpa using h),aib h,uO (by omega) (by omega),bD (by omega) (by omega)]
theorem EZ{c:Int}(h0:0<=c): -1<=Hz c/\Hz c<4294967296:=by unfold Hz;split<;>omega
section
variable {n:Nat} {S:ae} {P P':aj} {M:ai} {Q:List Int} {t h:Int} {k:Nat} {a:Int}
def V4(S:ae)(k:Nat)(x:Int):Prop:=0<=x/\x+8<=(bC S k).eY
instance(S:ae)(k:Nat)(x:Int):Decidable (V4 S k x):=by unfold V4;infer_instance
theorem yq(hn:200<=n)(E:Me n S P M Q t h k)(x:Int):∃v e,bN n S P M Q t h a 0 x=some (v,S,P,M,Q,t,h,a,e)/\(0<=v/\v<18446744073709551616)/\(V4 S k x->v=w6 S P k x/\e=0)/\(¬V4 S k x->e≠0):=by
 by_cases hx:V4 S k x
 ·refine⟨_,0,?_,Fy E.cw k x,λ_ =>⟨rfl,rfl⟩,λh=>absurd hx h⟩
  unfold bN;rw[av (by rfl),aq (Od hn E.cw E.Eh hx.1 hx.2),aZ]
 ·obtain⟨e,he,hw⟩:=RI hn E.cw E.Eh (x:=x) hx
  refine⟨0,e,?_,by omega,λh=>absurd h hx,λ_ =>by omega⟩;unfold bN;rw[av (by rfl),aq hw,aZ]
def Na(S:ae)(P:aj)(k:Nat)(c d:Int):Prop:=c≠0/\V4 S k (Hz c+8)/\V4 S k (Hz c)/\d=w6 S P k (Hz c)
def OB(S:ae)(P:aj)(k:Nat):Nat->Int->Int->Prop
 |0,c,d=>c=d
 |j+1,c,d=>∃x,OB S P k j c x/\Na S P k x d
theorem OA{j:Nat}{c d d':Int}(h:OB S P k j c d)(h':OB S P k j c d'):d=d':=by
 induction j generalizing d d' with
 |zero=>have h:c=d:=h;have h':c=d':=h';omega
 |succ j ih=>obtain⟨x,h1,h2⟩:=h;obtain⟨y,h3,h4⟩:=h';obtain rfl:=ih h1 h3;rw[h2.2.2.2,h4.2.2.2]
theorem Oz{j m:Nat}{c d:Int}(h:OB S P k m c d)(hj:j<=m):∃x,OB S P k j c x:=by
 induction m generalizing d with
 |zero=>
  obtain rfl:j=0:=by omega
  exact⟨c,rfl⟩
 |succ m ih=>
  rcases Nat.lt_or_ge j (m+1)with h1|h1
  ·obtain⟨x,h2,_⟩:=h
   exact ih h2 (by omega)
  ·obtain rfl:j=m+1:=(by omega)
   exact⟨d,h⟩
theorem YW(hn:300<=n)(E:Me n S P M Q t h k)(hb:0<=a/\a%8=0/\a+32<=(bC S k).eY):
  ∃l f,mZ n S P M Q t h a=some (l,f,S,P,M,Q,t,h,a)/\(f=0->Wd S P k (a+16)=(l.length:Int)/\l.length<=128/\∃d,OB S P k l.length (Wd S P k a) d)/\(f≠0->l=[]):=by
 obtain⟨b1,b2,b3⟩:=hb;have hm:=(E.cw.may k).hi;have hs:=(E.cw.may k).gx.sum;have hin:∀z,z=0\/z=8\/z=16\/z=24->oe S k (a+z):=λz hz=>⟨by omega,by omega,by omega⟩;have har:0<=a/\a<=100000:=⟨b1,by omega⟩;have hc:=A2 E.cw k (a+16);have hf:=A2 E.cw k a;unfold mZ;rw[aq (yp (by omega) E.mr har (by omega) (hin 16 (by omega))),aq (yp (by omega) E.mr har (by omega) (hin 0 (by omega))),aZ,Int.add_zero];generalize Wd S P k (a+16)=zh at hc
 suffices H:∀e0:Int,(e0=0->zh<=128)->∃(l:List Int) (f:Int),uB (λk43 (iM:Int) (eL:Int) (cC:ae) (fP:aj) (jx:ai) (dR:(List Int)) (jo:Int) (gB:Int) (tv:Int) (gi:Int) (kY:(List Int))=>cn (decide (iM<zh)) (lt (λ(tG:ae) (CG:aj) (vH:ai) (zZ:(List Int)) (tF:Int) (rU:Int) (uh:Int) (Bc:Int)=>cl (((Bc !=0)==false)) (fL n eL) default λw5=>cn ((Bc !=0)) (cn ((Bc !=0)) (some ([],Bc,tG,CG,vH,zZ,tF,h,a)) (some (kY,Bc,tG,CG,vH,zZ,tF,h,a))) (bd (bN n tG CG vH zZ tF rU uh Bc (wr .i64 (w5+8))) λg9=>gu (gZ kY.length [g9.1].length 8)<|lt (kY++[g9.1]:List Int) λpb=>bd (fL n eL) λCF=>bd (bN n g9.2.1 g9.2.2.1 g9.2.2.2.1 g9.2.2.2.2.1 g9.2.2.2.2.2.1 g9.2.2.2.2.2.2.1 g9.2.2.2.2.2.2.2.1 g9.2.2.2.2.2.2.2.2 (wr .i64 (CF+0))) λpH=>k43 (wr .u64 (iM+1)) pH.1 pH.2.1 pH.2.2.1 pH.2.2.2.1 pH.2.2.2.2.1 pH.2.2.2.2.2.1 pH.2.2.2.2.2.2.1 pH.2.2.2.2.2.2.2.1 pH.2.2.2.2.2.2.2.2 pb)) λZ0=>cn (((gi==0)&&(eL==0))) (Z0 cC fP jx dR jo gB tv 3) (Z0 cC fP jx dR jo gB tv gi)) (cn ((gi !=0)) (some ([],gi,cC,fP,jx,dR,jo,h,a)) (some (kY,gi,cC,fP,jx,dR,jo,h,a)))) n 0 (Wd S P k a) S P M Q t h a e0 ([]:List Int)=some (l,f,S,P,M,Q,t,h,a)/\(f=0->zh=(l.length:Int)/\l.length<=128/\∃d,OB S P k l.length (Wd S P k a) d)/\(f≠0->l=[])by
  by_cases h128:128<zh
  ·rw[aX (by simpa using h128)]
   exact H 3 (λh=>by omega)
  ·rw[av (by simpa using h128)]
   exact H 0 (λ_ =>by omega)
 intro e0 he0;refine AJ (λ(i:Int) (f:Int) (s:ae) (p:aj) (m:ai) (q:List Int) (t' h' a' e:Int) (out:List Int)=>∃j:Nat,i=(j:Int)/\(i=0\/i<=zh)/\(0<=f/\f<18446744073709551616)/\s=S/\p=P/\m=M/\q=Q/\t'=t/\h'=h/\a'=a/\(e=0->zh<=128/\out.length=j/\OB S P k j (Wd S P k a) f)/\(j=0\/zh<=128)) (λ(i:Int) _ _ _ _ _ _ _ _ (e:Int) _ =>if e=0 then(130-i).toNat else 0) (λo=>∃(l:List Int) (f:Int),o=some (l,f,S,P,M,Q,t,h,a)/\(f=0->zh=(l.length:Int)/\l.length<=128/\∃d,OB S P k l.length (Wd S P k a) d)/\(f≠0->l=[])) ?_ n 0 _ _ _ _ _ _ _ _ e0 [] ⟨0,rfl, .inl rfl,hf,rfl,rfl,rfl,rfl,rfl,rfl,rfl,λh=>⟨he0 h,rfl,rfl⟩, .inl rfl⟩ (by split<;>omega);rintro kk i f s p m q t' h' a' e out ⟨j,rfl,hj,hfr,rfl,rfl,rfl,rfl,rfl,rfl,rfl,he,hj0⟩ ih;have stop:∀e1:Int,e1≠0->∃(l:List Int) (f1:Int),(cl (((e1 !=0)==false)) (fL n f) default λw5=>cn ((e1 !=0)) (cn ((e1 !=0)) (some (([]:List Int),e1,s,p,m,q,t',h',a')) (some (out,e1,s,p,m,q,t',h',a'))) (bd (bN n s p m q t' h' a' e1 (wr .i64 (w5+8))) λg9=>gu (gZ out.length [g9.1].length 8)<|lt (out++[g9.1]:List Int) λpb=>bd (fL n f) λCF=>bd (bN n g9.2.1 g9.2.2.1 g9.2.2.2.1 g9.2.2.2.2.1 g9.2.2.2.2.2.1 g9.2.2.2.2.2.2.1 g9.2.2.2.2.2.2.2.1 g9.2.2.2.2.2.2.2.2 (wr .i64 (CF+0))) λpH=>kk (wr .u64 ((j:Int)+1)) pH.1 pH.2.1 pH.2.2.1 pH.2.2.2.1 pH.2.2.2.2.1 pH.2.2.2.2.2.1 pH.2.2.2.2.2.2.1 pH.2.2.2.2.2.2.2.1 pH.2.2.2.2.2.2.2.2 pb))=some (l,f1,s,p,m,q,t',h',a')/\(f1=0->zh=(l.length:Int)/\l.length<=128/\∃d,OB s p k l.length (Wd s p k a') d)/\(f1≠0->l=[]):=by
  intro e1 h1;have hb:(e1 !=0)=true:=by simpa using h1
  refine⟨[],e1,?_,λh=>absurd h h1,λ_ =>rfl⟩;rw[hb,qt (by rfl),aX (by rfl),aX (by rfl)]
 by_cases hlt:(j:Int)<zh
 ·rw[aX (by simpa using hlt),aZ]
  by_cases hz:e=0
  ·obtain⟨c1,c2,c3⟩:=he hz
   subst hz;by_cases Qx:f=0
   ·rw[aX (by rw[Qx];rfl)]
    exact stop 3 (by omega)
   ·have tr:=EZ hfr.1
    rw[av (by simpa using Qx)];dsimp only;rw[rK (by rfl) (Ip hfr.1 hfr.2),av (by rfl),bD (x:=Hz f+8) (by omega) (by omega)];obtain⟨v,e1,g1,_,g3,g4⟩:=yq (a:=a') (by omega) E (Hz f+8);rw[aq g1,bR (nQ (by simp;omega) (by simp;omega)),aZ,aq (Ip hfr.1 hfr.2),bD (x:=Hz f+0) (by omega) (by omega),Int.add_zero];dsimp only;rw[uO (by omega) (by omega)];by_cases hr:V4 s k (Hz f+8)
    ·obtain⟨rfl,rfl⟩:=g3 hr
     obtain⟨v2,e2,g5,g6,g7,g8⟩:=yq (a:=a') (by omega) E (Hz f);rw[aq g5];refine ih _ _ _ _ _ _ _ _ _ _ _ ⟨j+1,by omega, .inr (by omega),g6,rfl,rfl,rfl,rfl,rfl,rfl,rfl,λhz=>?_, .inr c1⟩ ?_
     ·have hr2:V4 s k (Hz f):=Decidable.byContradiction λq=>g8 q hz
      exact⟨c1,by simp[c2],⟨f,c3,Qx,hr,hr2,(g7 hr2).1⟩⟩
     ·dsimp only
      rw[aia rfl];split<;>omega
    ·have h1:=g4 hr
     rw[aq (Ue h1)];refine ih _ _ _ _ _ _ _ _ _ _ _ ⟨j+1,by omega, .inr (by omega),by omega,rfl,rfl,rfl,rfl,rfl,rfl,rfl,λhz=>absurd hz h1, .inr c1⟩ ?_;dsimp only;rw[aia rfl,aib h1];omega
  ·have hb:(e==0)=false:=by simpa using hz
   rw[av (by rw[hb];rfl)];exact stop e hz
 ·rw[av (by simpa using hlt)]
  by_cases hz:e=0
  ·obtain⟨c1,c2,c3⟩:=he hz
   rw[hz,av (by rfl)];exact⟨out,0,rfl,λ_ =>⟨by omega,by omega,f,by rw[c2];exact c3⟩,λh=>absurd rfl h⟩
  ·rw[aX (by simpa using hz)]
   exact⟨[],e,rfl,λh=>absurd h hz,λ_ =>rfl⟩
end
end Go.Proofs.Z
namespace Go.Proofs.Z
open Go Go.Bw
section
variable {n:Nat} {S:ae} {P P':aj} {M:ai} {Q:List Int} {t h:Int} {k:Nat} {a:Int}
theorem YE{i:Int}(h0:0<=i)(h1:i<=9223372036854775807):wr .u64 ((wr .u64 (if 0<i then i else 0))+1)=i+1/\wr .u64 i=i:=by
 have e:(if 0<i then i else 0)=i:=by split<;>omega
 rw[e,uO (x:=i) (by omega) (by omega),uO (by omega) (by omega)];exact⟨rfl,rfl⟩
theorem afG(hn:300<=n)(E:Me n S P M Q t h k)(hb:0<=a/\a%8=0/\a+32<=(bC S k).eY){i:Nat}(hi:(i:Int)<Wd S P k (a+16))(ah5:i<=127){c d:Int}(hp:OB S P k i (Wd S P k a) c)(hc:Na S P k c d):
  ku n S P M Q t h a 0 (i:Int)=some (Hz c,S,P,M,Q,t,h,a,0):=by
 obtain⟨b1,b2,b3⟩:=hb;have hm:=(E.cw.may k).hi;have hs:=(E.cw.may k).gx.sum;have hin:∀z,z=0\/z=8\/z=16\/z=24->oe S k (a+z):=λz hz=>⟨by omega,by omega,by omega⟩;have har:0<=a/\a<=100000:=⟨b1,by omega⟩;have hf:=A2 E.cw k a;obtain⟨u1,u2⟩:=YE (i:=(i:Int)) (by omega) (by omega);have afa:OB S P k (i+1) (Wd S P k a) d:=⟨c,hp,hc⟩;unfold ku;rw[aq (yp (by omega) E.mr har (by omega) (hin 16 (by omega))),aZ,u1,u2,av (by simp;omega)];dsimp only;rw[aq (yp (by omega) E.mr har (by omega) (hin 0 (by omega))),aZ,av (by simp;omega),Int.add_zero];dsimp only;refine AJ (λ(x:Int) (f:Int) (out:Int) (s:ae) (p:aj) (m:ai) (q:List Int) (t' h' a' e:Int)=>∃j:Nat,x=(j:Int)/\j<=i+1/\OB S P k j (Wd S P k a) f/\(0<=f/\f<18446744073709551616)/\(j=i+1->out=Hz c)/\s=S/\p=P/\m=M/\q=Q/\t'=t/\h'=h/\a'=a/\e=0) (λ(x:Int) _ _ _ _ _ _ _ _ _ _ =>((i:Int)+1-x).toNat) (λo=>o=some (Hz c,S,P,M,Q,t,h,a,0)) ?_ n 0 _ 0 _ _ _ _ _ _ _ _ ⟨0,rfl,by omega,rfl,hf,λh=>by omega,rfl,rfl,rfl,rfl,rfl,rfl,rfl,rfl⟩ (by omega);rintro kk x f out s p m q t' h' a' e ⟨j,rfl,hj,hpj,hfr,ho,rfl,rfl,rfl,rfl,rfl,rfl,rfl,rfl⟩ ih;by_cases hlt:j<i+1
 ·obtain⟨f2,xy⟩:=Oz afa (j:=j+1) (by omega)
  obtain⟨f1,hp1,hn1⟩:=id xy;obtain rfl:=OA hp1 hpj;obtain⟨q1,q2,q3,q4⟩:=id hn1;have tr:=EZ hfr.1;rw[aX (by simp;omega),aZ,av (by simpa using q1)];dsimp only;obtain⟨v,e1,g1,g2,g3,_⟩:=yq (a:=a') (by omega) E (Hz f1);obtain⟨rfl,rfl⟩:=g3 q3;rw[rK (by rfl) (Ip hfr.1 hfr.2),av (by rfl),aZ,aq (Ip hfr.1 hfr.2),bD (x:=Hz f1+0) (by omega) (by omega),Int.add_zero,aq g1,uO (x:=(j:Int)+1) (by omega) (by omega)];refine ih _ _ _ _ _ _ _ _ _ _ _ ⟨j+1,by omega,by omega,?_,g2,λ_=>?_,rfl,rfl,rfl,rfl,rfl,rfl,rfl,rfl⟩ (by omega)
  ·dsimp only
   rw[← q4];exact xy
  ·have:j=i:=by omega
   subst this;rw[OA hpj hp]
 ·rw[av (by simp;omega),ho (by omega)]
theorem acy(hn:300<=n)(E:Me n S P M Q t h k)(hb:0<=a/\a%8=0/\a+32<=(bC S k).eY){i:Int}(hi: -9223372036854775808<=i/\i<=9223372036854775807):
  ∃x e,ku n S P M Q t h a 0 i=some (x,S,P,M,Q,t,h,a,e)/\(-1<=x/\x<4294967296)/\(¬(0<=i/\i<Wd S P k (a+16))->e=9):=by
 obtain⟨b1,b2,b3⟩:=hb;have hm:=(E.cw.may k).hi;have hs:=(E.cw.may k).gx.sum;have hin:∀z,z=0\/z=8\/z=16\/z=24->oe S k (a+z):=λz hz=>⟨by omega,by omega,by omega⟩;have har:0<=a/\a<=100000:=⟨b1,by omega⟩;have hc:=A2 E.cw k (a+16);have hf:=A2 E.cw k a;obtain⟨u,hu,hu0⟩:∃u,wr .u64 ((wr .u64 (if 0<i then i else 0))+1)=u/\1<=u:=by
  refine⟨_,rfl,?_⟩;by_cases h0:0<=i
  ·rw[(YE h0 hi.2).1];omega
  ·rw[aib (by omega)];decide
 unfold ku;rw[aq (yp (by omega) E.mr har (by omega) (hin 16 (by omega))),aZ,hu];generalize Wd S P k (a+16)=zh at hc;have main:∀(e0 f0:Int),(0<=f0/\f0<18446744073709551616)->(e0=0->u<=128)->∃x e,uB (λk52 (gi:Int) (kY:Int) (z6:Int) (tG:ae) (CG:aj) (vH:ai) (zZ:(List Int)) (tF:Int) (rU:Int) (uh:Int) (Bc:Int)=>cn (decide (gi<u)) (lt (λ(w5:ae) (g9:aj) (pb:ai) (CF:(List Int)) (pH:Int) (MA:Int) (Fv:Int) (y7:Int)=>cl (((y7 !=0)==false)) (fL n kY) default λJk=>cn ((y7 !=0)) (some (z6,w5,g9,pb,CF,pH,MA,Fv,y7)) (lt (Jk:Int) λRA=>bd (fL n kY) λPO=>bd (bN n w5 g9 pb CF pH MA Fv y7 (wr .i64 (PO+0))) λuN=>k52 (wr .u64 (gi+1)) uN.1 RA uN.2.1 uN.2.2.1 uN.2.2.2.1 uN.2.2.2.2.1 uN.2.2.2.2.2.1 uN.2.2.2.2.2.2.1 uN.2.2.2.2.2.2.2.1 uN.2.2.2.2.2.2.2.2)) λj61=>cn (((Bc==0)&&(kY==0))) (j61 tG CG vH zZ tF rU uh 3) (j61 tG CG vH zZ tF rU uh Bc)) (some (z6,tG,CG,vH,zZ,tF,rU,uh,Bc))) n 0 f0 0 S P M Q t h a e0=some (x,S,P,M,Q,t,h,a,e)/\(-1<=x/\x<4294967296)/\(e0≠0->e=e0):=by
  intro e0 f0 Qx he0;refine AJ (λ(x:Int) (f:Int) (out:Int) (s:ae) (p:aj) (m:ai) (q:List Int) (t' h' a' e:Int)=>∃j:Nat,x=(j:Int)/\(0<=f/\f<18446744073709551616)/\(-1<=out/\out<4294967296)/\(e0≠0->e=e0/\j=0)/\(e0=0->u<=128)/\s=S/\p=P/\m=M/\q=Q/\t'=t/\h'=h/\a'=a) (λ(x:Int) _ _ _ _ _ _ _ _ _ (e:Int)=>if e=0 then(130-x).toNat else 0) (λo=>∃(x:Int) (e:Int),o=some (x,S,P,M,Q,t,h,a,e)/\(-1<=x/\x<4294967296)/\(e0≠0->e=e0)) ?_ n 0 f0 0 _ _ _ _ _ _ _ e0 ⟨0,rfl,Qx,by omega,λ_ =>⟨rfl,rfl⟩,he0,rfl,rfl,rfl,rfl,rfl,rfl,rfl⟩ (by split<;>omega);rintro kk x f out s p m q t' h' a' e ⟨j,rfl,hfr,hor,hee,hu1,rfl,rfl,rfl,rfl,rfl,rfl,rfl⟩ ih;by_cases hlt:(j:Int)<u
  ·rw[aX (by simpa using hlt),aZ]
   by_cases hz:e=0
   ·subst hz
    have abO:e0=0:=Decidable.byContradiction λq=>q (hee q).1.symm;have hu2:=hu1 abO;by_cases hf1:f=0
    ·rw[aX (by rw[hf1];rfl)]
     dsimp only;rw[qt (by rfl),aX (by rfl)];exact⟨out,3,rfl,hor,λh=>absurd abO h⟩
    ·have tr:=EZ hfr.1
     rw[av (by simpa using hf1)];dsimp only;obtain⟨v,e1,g1,g2,g3,g4⟩:=yq (a:=a') (by omega) E (Hz f);rw[rK (by rfl) (Ip hfr.1 hfr.2),av (by rfl),aZ,aq (Ip hfr.1 hfr.2),bD (x:=Hz f+0) (by omega) (by omega),Int.add_zero,aq g1,uO (x:=(j:Int)+1) (by omega) (by omega)];refine ih _ _ _ _ _ _ _ _ _ _ _ ⟨j+1,by omega,g2,tr,λh=>absurd abO h,hu1,rfl,rfl,rfl,rfl,rfl,rfl,rfl⟩ ?_;dsimp only;rw[aia rfl];split<;>omega
   ·have hb:(e==0)=false:=by simpa using hz
    have HC:(e !=0)=true:=by simpa using hz
    rw[av (by rw[hb];rfl)];dsimp only;rw[HC,qt (by rfl),aX (by rfl)];exact⟨out,e,rfl,hor,λh=>(hee h).1⟩
  ·rw[av (by simpa using hlt)]
   exact⟨out,e,rfl,hor,λh=>(hee h).1⟩
 by_cases hr:0<=i/\i<zh
 ·rw[(YE hr.1 hi.2).2,av (by simp;omega)]
  dsimp only;rw[aq (yp (by omega) E.mr har (by omega) (hin 0 (by omega))),aZ,Int.add_zero];by_cases h128:128<u
  ·rw[aX (by simpa using h128)]
   obtain⟨x,e,h1,h2,_⟩:=main 3 (Wd S P k a) hf (λh=>by omega);exact⟨x,e,h1,h2,λh=>absurd hr h⟩
  ·rw[av (by simpa using h128)]
   obtain⟨x,e,h1,h2,_⟩:=main 0 (Wd S P k a) hf (λ_ =>by omega);exact⟨x,e,h1,h2,λh=>absurd hr h⟩
 ·have hg:((0:Int)==0&&(decide (i<0)||decide (zh<=wr .u64 i)))=true:=by
   by_cases h0:0<=i
   ·rw[(YE h0 hi.2).2];simp;omega
   ·simp;omega
  rw[aX hg];dsimp only;rw[aq (abH (show(9:Int)≠0 by omega)),aZ,av (by rfl)];obtain⟨x,e,h1,h2,h3⟩:=main 9 0 (by omega) (λh=>by omega);exact⟨x,e,h1,h2,λ_ =>h3 (by omega)⟩
theorem Yl(hn:300<=n)(E:Me n S P M Q t h k)(hb:0<=a/\a%8=0/\a+32<=(bC S k).eY){i:Int}(hi: -9223372036854775808<=i/\i<=9223372036854775807):
  ∃v e,mY n S P M Q t h a i=some (v,e,S,P,M,Q,t,h,a)/\(¬(0<=i/\i<Wd S P k (a+16))->e=9/\v=0)/\(0<=i->i<Wd S P k (a+16)->i<=127->∀c d,OB S P k i.toNat (Wd S P k a) c->Na S P k c d->e=0/\v=w6 S P k (Hz c+8)):=by
 obtain⟨x,e,h1,h2,h3⟩:=acy hn E hb hi;have fin:∀{x e:Int},(-1<=x/\x<4294967296)->ku n S P M Q t h a 0 i=some (x,S,P,M,Q,t,h,a,e)->∃v e1,mY n S P M Q t h a i=some (v,e1,S,P,M,Q,t,h,a)/\(e≠0->e1=e/\v=0)/\(e=0->V4 S k (x+8)->e1=0/\v=w6 S P k (x+8)):=by
  intro x e hx hh;unfold mY;rw[aq hh,bD (x:=x+8) (by omega) (by omega)];by_cases he:e=0
  ·subst he
   obtain⟨v,e1,g1,g2,g3,g4⟩:=yq (a:=a) (by omega) E (x+8);rw[aq g1,aZ,aZ];by_cases hz:e1=0
   ·subst hz
    rw[av (by rfl)];exact⟨v,0,rfl,λh=>absurd rfl h,λ_ hr=>⟨rfl,(g3 hr).1⟩⟩
   ·rw[aX (by simpa using hz)]
    exact⟨0,e1,rfl,λh=>absurd rfl h,λ_ hr=>absurd (g3 hr).2 hz⟩
  ·rw[aq (Ue he),aZ,aZ,aX (by simpa using he)]
   exact⟨0,e,rfl,λ_ =>⟨rfl,rfl⟩,λh=>absurd h he⟩
 obtain⟨v,e1,f1,f2,_⟩:=fin h2 h1;refine⟨v,e1,f1,λhr=>?_,λi0 i1 i2 c d hp hc=>?_⟩
 ·have:=h3 hr
  subst this;exact f2 (by omega)
 ·obtain⟨j,rfl⟩:=Int.eq_ofNat_of_zero_le i0
  rw[aif]at hp;have hok:=afG hn E hb i1 (by omega) hp hc;have hcr:0<=c:=by
   cases j with
   |zero=>have hp:Wd S P k a=c:=hp;have:=A2 E.cw k a;omega
   |succ j=>obtain⟨y,_,hy⟩:=hp;rw[hy.2.2.2];exact(Fy E.cw k _).1
  obtain⟨v',e',g1,_,g3⟩:=fin (EZ hcr) hok;rw[f1]at g1;simp only[Option.some.injEq,Prod.mk.injEq]at g1;obtain⟨k1,k2⟩:=g3 rfl hc.2.1;exact⟨g1.2.1.trans k1,g1.1.trans k2⟩
end
end Go.Proofs.Z
namespace Go.Proofs.Z
open Go Go.Bw
set_option maxRecDepth 100000 in
theorem Og:qo 20000=some true:=by kernel_rfl
theorem YS{q:Int}(hq:1<=q/\q<=64):cy 20000 VX ({({jV with n:=64}:aj)with dF:=⟨[⟨0,64⟩]⟩}:aj) bn [] 0 ({({eC with Do:=1}:aC)with A:=q}:aC)=some (⟨0,0,1⟩,Je q,VR 64,bn,[],0):=aeq (p:=64) ⟨by omega,by omega⟩
end Go.Proofs.Z
