/- Part 16 of what a proof leans on; pruned and shortened by a program out of longer texts. -/
import Derived.Test.YtgdmofhmmhcmjaaGreatDoorQ15
namespace Go.Proofs.Z
open Go Go.Bw
def yD(l:List Rn):List Int:=l.flatMap ES
theorem TV(y:Rn):(ES y).length=y.N.toNat:=by simp[ES]
theorem LG:∀{l:List Rn},(∀y∈l,Ir y.At y.N)->(yD l).length<=64*l.length
 |[],_ =>by simp[yD]
 |y::r,h=>by have:=LG (l:=r) λz hz=>h z (by simp[hz]);obtain⟨h1,h2,h3⟩:=h y (by simp);unfold yD at this ⊢;rw[List.flatMap_cons,List.length_append,TV,List.length_cons];omega
section
variable {n:Nat} {S S':ae} {P P':aj} {M M':ai} {Q:List Int} {t:Int} {c:aC} {u:aF} {r:ah}
theorem J6(hn:110<=n){fD:List Rn}(hb:∀y∈fD,Ir y.At y.N)(hq:Q.length+64*fD.length<=10000)(hbl:fD.length<n)(hg:cZ n M u.jW=some M'){ρ:Type}(F:ae×aj×ai×(List Int)×aF×ah×Bool->Option ρ)(x0:ah)(b0:Bool):
  xm (λk51 (vg:Int) (Fo:ae) (zQ:aj) (qX:ai) (tU:(List Int))=>cn (decide (vg<(fD.length:Int))) (gu (dk vg fD.length)<|lt ((fD.getD (Int.toNat vg) default):av) λJO=>bd (fe n Fo zQ qX tU JO) λye=>k51 (wr .i64 (vg+1)) ye.1 ye.2.1 ye.2.2.1 ye.2.2.2) (bd (eR n Fo zQ qX tU ({u with xV:=aB}:aF) x0 b0 r) F)) n 0 S P M Q=F (S,P,M',Q++yD fD,{u with xV:=aB},r,true):=by
 refine Jk (λ(i:Int) s p m q=>∃j:Nat,i=(j:Int)/\j<=fD.length/\s=S/\p=P/\m=M/\q=Q++yD (fD.take j)) (λi _ _ _ _ =>((fD.length:Int)-i).toNat) (λo=>o=F (S,P,M',Q++yD fD,{u with xV:=aB},r,true)) ?_ n 0 S P M Q ⟨0,rfl,by omega,rfl,rfl,rfl,by simp[yD]⟩ (by omega);rintro kk i s p m q ⟨j,rfl,hj,rfl,rfl,rfl,rfl⟩ ih;by_cases hc:j<fD.length
 ·have hgd:fD.getD (Int.toNat (j:Int)) default=fD[j]:=by rw[aiL,List.getD,aiP hc];rfl
  have hlen:=LG (l:=fD.take j) λy hy=>hb y (List.mem_of_mem_take hy);rw[List.length_take]at hlen;rw[aS (by simpa using hc),bj (fP (by omega) (by omega)),aK,hgd,ak (Tz hn _ _ _ _ (by rw[List.length_append];omega) (hb _ (List.getElem_mem hc))),bq (by omega) (by omega)];refine ih _ _ _ _ _ ⟨j+1,by omega,by omega,rfl,rfl,rfl,?_⟩ (by omega);unfold yD;rw[aiQ hc,List.flatMap_append,List.append_assoc];simp
 ·obtain rfl:j=fD.length:=by omega
  rw[au (by simp),List.take_length,ak (Oe (c:={u with xV:=aB}) (by omega) _ _ _ _ _ _ _ (by show(0:Int)<=0;omega) hg)]
theorem DL(hn:110<=n)(hr:u.xV.N<=0\/(0<u.xV.N/\bJ n S u.jW u.C=some u.xV.N)){pl}(hp:cv n S u.C=some pl){fD:List Rn}(hd:cq n S u.jW u.C u.xV=some (S',r,fD))(hE:r.E=0)(h34:u.C.Do≠3/\u.C.Do≠4)(hb:∀y∈fD,Ir y.At y.N)(hq:Q.length+64*fD.length<=10000)(hbl:fD.length<n)(hg:cZ n M u.jW=some M'){x0:ah}{b0:Bool}:
  cu n S P M Q u x0 b0=some (true,S',P,M',Q++yD fD,{u with xV:=aB},r,true):=by
 have e3:(u.C.Do==3)=false:=by simpa using h34.1
 have e4:(u.C.Do==4)=false:=by simpa using h34.2
 unfold cu;rw[aK,aK];rcases hr with hr|⟨hr,hne⟩
 ·rw[tD (by simp;omega),au (by simp;omega)]
  show bd (cv n S u.C) _ =_;rw[ak hp,ak hd,aK,aK,au (by rw[hE];rfl),aK,au e4,au e3];show lt _ _ =_;rw[aK,aK];exact J6 hn hb hq hbl hg (λlA=>some (true,lA.1,lA.2.1,lA.2.2.1,lA.2.2.2.1,lA.2.2.2.2.1,lA.2.2.2.2.2.1,lA.2.2.2.2.2.2)) _ _
 ·rw[rZ (by simp;omega) hne,au (by simp)]
  show bd (cv n S u.C) _ =_;rw[ak hp,ak hd,aK,aK,au (by rw[hE];rfl),aK,au e4,au e3];show lt _ _ =_;rw[aK,aK];exact J6 hn hb hq hbl hg (λlA=>some (true,lA.1,lA.2.1,lA.2.2.1,lA.2.2.2.1,lA.2.2.2.2.1,lA.2.2.2.2.2.1,lA.2.2.2.2.2.2)) _ _
theorem Rt(hn:110<=n)(hr:u.xV.N<=0){pl:List Int}{pe:Int}(hp:cv n S u.C=some (pl,pe))(hd:cq n S u.jW u.C u.xV=some (S',⟨0,0,0⟩,[]))(h3:u.C.Do=3)(hP:H9 P)(hl:pl.length<=8)(RZ:∀i,i<pl.length->0<=pl.getD i default/\gS P (pl.getD i default/32))(hq:Q.length<=10000)(hg:cZ n M u.jW=some M'){x0:ah}{b0:Bool}:
  cu n S P M Q u x0 b0=some (true,S',P,M',Q,{u with xV:=aB},⟨0,Is (λi=>FH P (pl.getD i default)) pl.length,0⟩,true):=by
 have e3:(u.C.Do==3)=true:=by simpa using h3
 have e4:(u.C.Do==4)=false:=by rw[h3];rfl
 unfold cu;rw[aK,aK,tD (by simp;omega),au (by simp;omega)];show bd (cv n S u.C) _ =_;rw[ak hp,ak hd,aK,aK,au (by rfl),aK,au e4,aS e3];refine(aeL hn hP hl RZ _).trans ?_;show lt _ _ =_;rw[aK,aK];have:=J6 (S:=S') (P:=P) (r:=⟨0,Is (λi=>FH P (pl.getD i default)) pl.length,0⟩) hn (fD:=[]) (by simp) (by simpa using hq) (by simp;omega) hg (λlA=>some (true,lA.1,lA.2.1,lA.2.2.1,lA.2.2.2.1,lA.2.2.2.2.1,lA.2.2.2.2.2.1,lA.2.2.2.2.2.2)) x0 b0;rw[show Q++yD []=Q by simp[yD]]at this;exact this
theorem Rs(hn:110<=n)(hr:u.xV.N<=0){pl:List Int}{pe:Int}(hp:cv n S u.C=some (pl,pe))(hd:cq n S u.jW u.C u.xV=some (S',⟨0,0,0⟩,[]))(h4:u.C.Do=4)(hP:H9 P)(hl:pl.length<=8)(RZ:∀i,i<pl.length->0<=pl.getD i default/\gS P (pl.getD i default/32))(hq:Q.length<=10000)(hg:cZ n M u.jW=some M'){x0:ah}{b0:Bool}:
  cu n S P M Q u x0 b0=some (true,S',Lo P (λi=>pl.getD i default) (λi=>wr .u8 (z6 .u64 u.C.V (wr .i64 (8*(i:Int))))) pl.length,M',Q,{u with xV:=aB},⟨0,0,0⟩,true):=by
 have e4:(u.C.Do==4)=true:=by simpa using h4
 unfold cu;rw[aK,aK,tD (by simp;omega),au (by simp;omega)];show bd (cv n S u.C) _ =_;rw[ak hp,ak hd,aK,aK,au (by rfl),aK,aS e4];refine(aaZ hn hP hl RZ _ _ _ _ _ _ _).trans ?_;show lt _ _ =_;rw[aK,aK];have:=J6 (S:=S') (P:=Lo P (λi=>pl.getD i default) (λi=>wr .u8 (z6 .u64 u.C.V (wr .i64 (8*(i:Int))))) pl.length) (r:=⟨0,0,0⟩) hn (fD:=[]) (by simp) (by simpa using hq) (by simp;omega) hg (λlA=>some (true,lA.1,lA.2.1,lA.2.2.1,lA.2.2.2.1,lA.2.2.2.2.1,lA.2.2.2.2.2.1,lA.2.2.2.2.2.2)) x0 b0;rw[show Q++yD []=Q by simp[yD]]at this;exact this
theorem Zr(hne:bJ n S u.jW u.C=some 0){x0:ah}{b0:Bool}:bY n S P M Q u x0 b0=some (false,S,P,M,Q,u,x0,b0):=by unfold bY;rw[ak hne,aS (by rfl)]
theorem PW{k:Int}(hne:bJ n S u.jW u.C=some k)(hr:0<u.xV.N){x0:ah}{b0:Bool}:bY n S P M Q u x0 b0=some (false,S,P,M,Q,u,x0,b0):=by unfold bY;rw[ak hne,aS (by simp;omega)]
theorem PE{m:Nat}(hd:c.Do≠15)(hne:bJ n S t c=some 0){Q':List Int}{u':aF}(hc:cu n S P M Q (EF t c [] aB 0) ay false=some (true,S',P',M',Q',u',r,true)):
  vI (nq n c) (m+1) ay S P M Q t (EF t c [] aB 0)=some (r,S',P',M',Q',t):=by
 show nq n c _ _ _ _ _ _ _ _ =_;exact zH hd (aaj rfl rfl (Zr hne) (by show(0:Int)<=0;omega) hc)
theorem kG{Q':List Int}(h:ef n S P M Q t c=some (r,S',P',M',Q',t))(hE:r.E≠6\/Q'=[]):cJ n S P M Q t c=some (r,S',P',M',Q',t):=by
 unfold cJ;rw[ak h,aK,aK,au]
 ·rfl
 ·rcases hE with h|h
  ·have:(r.E==6)=false:=by simpa using h
   rw[this];rfl
  ·rw[h];simp
end
def uY(P:aj)(f:bn):aj:={P with dV:=f}
def qT(P:aj)(a:Int):Nat->aj
 |0=>P
 |j+1=>{qT P a j with bytes:=iC (qT P a j).bytes (a+j).toNat (λ_ =>0)}
theorem sx(P:aj)(a:Int)(k:Nat):(qT P a k).dV=P.dV/\(qT P a k).n=P.n:=by
 induction k with
 |zero=>exact⟨rfl,rfl⟩
 |succ k ih=>exact ih
theorem OJ(P:aj){a:Int}(ha:0<=a)(k:Nat){b:Int}(hb:0<=b):FH (qT P a k) b=if a<=b/32/\b/32<a+k then 0 else FH P b:=by
 induction k with
 |zero=>rw[aiH (by omega)];rfl
 |succ k ih=>
  show(iC (qT P a k).bytes (a+(k:Int)).toNat (λ_ =>0)) (b/32).toNat (b%32).toNat=_;unfold iC;by_cases h:(b/32).toNat=(a+(k:Int)).toNat
  ·rw[aiG h,aiG (by omega)]
  ·rw[aiH h]
   refine Eq.trans ih ?_;by_cases h1:a<=b/32/\b/32<a+(k:Int)
   ·rw[aiG h1,aiG (by omega)]
   ·rw[aiH h1,aiH (by omega)]
theorem OI{P:aj}(h:H9 P)(a:Int)(k:Nat):H9 (qT P a k):=by
 induction k with
 |zero=>exact h
 |succ k ih=>exact⟨ih.P9,ih.n1,ih.fr,λi j=>by
   unfold qT iC;dsimp only;by_cases h1:i=(a+(k:Int)).toNat
   ·rw[aiG h1];omega
   ·rw[aiH h1];exact ih.bt i j⟩
theorem Zq{n:Nat}(hn:110<=n){P:aj}(h:H9 P){p:Int}(hp:gS P p):kO n P p=some (0,{P with bytes:=iC P.bytes p.toNat (λ_ =>0)}):=by have:=h.n1;obtain⟨p0,p1,p2⟩:=hp;unfold kO;rw[au (by simp;omega),ak (KJ hn h ⟨p0,p1,p2⟩),au (by rfl),bj (fP (by omega) (by omega))];rfl
section
variable {n:Nat} {S S':ae} {P:aj} {M M':ai} {Q Q':List Int} {t:Int} {c:aC} {r:ah}
theorem Vu(hn:110<=n)(hd:c.Do≠15){a k:Int}(ha:0<=a)(hk:0<k)(hk4:k<=64)(hne:bJ n S t c=some k)(h:H9 P)(hl:∀p,a<=p->p<a+k->gS P p)(hc:∃u',cu n S (qT P a k.toNat) M Q (EF t c [] ⟨a,k⟩ k) ay false=some (true,S',qT P a k.toNat,M',Q',u',r,true)):
  ∀(d:Nat) (j:Nat) (m:Nat),(j:Int)+d=k->vI (nq n c) (m+d+1) ay S (qT P a j) M Q t (EF t c [] ⟨a,k⟩ j)=some (r,S',qT P a k.toNat,M',Q',t):=by
 have hn1:=h.n1;intro d
 induction d with
 |zero=>
  intro j m e;obtain⟨u',hc⟩:=hc;have ej:(j:Int)=k:=by omega
  have ej':k.toNat=j:=by omega
  show nq n c _ _ _ _ _ _ _ _ =_;rw[ej']at hc ⊢;rw[ej];exact zH hd (aaj rfl rfl (PW hne hk) (by show k<=k;omega) hc)
 |succ d ih=>
  intro j m e;show nq n c _ _ _ _ _ _ _ _ =_;have qR:eK n S (qT P a j) M Q (EF t c [] ⟨a,k⟩ j) ay false=some (true,S,qT P a (j+1),M,Q,EF t c [] ⟨a,k⟩ ((j+1:Nat):Int),ay,false):=by have hp:=hl (a+j) (by omega) (by omega);have xT:=hp;obtain⟨q0,q1,q2⟩:=xT;unfold eK;rw[au (by simp;omega)];show bd (kO n (qT P a j) (wr .i64 (a+(j:Int)))) _ =_;rw[bq (x:=a+(j:Int)) (by omega) (by omega),ak (Zq hn (OI h a j) (by unfold gS at hp ⊢;rw[(sx P a j).1,(sx P a j).2];exact hp)),aK];show some (true,S,_,M,Q,EF t c [] ⟨a,k⟩ (wr .i64 ((j:Int)+1)),ay,false)=_;rw[bq (by omega) (by omega)];rfl
  rw[tg hd (aeu rfl rfl (PW hne hk) qR) (λ_ => .inl rfl)];have:=ih (j+1) m (by omega);rw[show m+(d+1)=m+d+1 by omega];exact this
theorem Rv(hn:110<=n)(hd:c.Do≠15)(h:H9 P){k:Int}(hk:0<k)(hk4:k<=64)(hne:bJ n S t c=some k){m:Nat}{v:Int}(hf:G5 k P.dV.l=(v,true))(hv:0<=v)(hin:Jq P.dV.l v k):
  ∃f:bn,qb f.l/\(∀p,bZ f.l p↔bZ P.dV.l p/\¬(v<=p/\p<v+k))/\
   vI (nq n c) (m+1) ay S P M Q t (EF t c [] aB 0)=vI (nq n c) m ay S (uY P f) M Q t (EF t c [] ⟨v,k⟩ 0):=by
 obtain⟨⟨o1,o2,o3⟩,_⟩:=id hin;obtain⟨f,g,e1,e2,_,e3⟩:=Xz hn h.P9 (at_:=v) (k:=k) ⟨by omega,by omega⟩ ⟨by omega,by omega⟩;have hg:g=true:=e2.2 hin;subst hg;obtain⟨f1,f2⟩:=e3 rfl;refine⟨f,f1,f2,?_⟩;show nq n c _ _ _ _ _ _ _ _ =_;have qR:iO n P k=some (v,0,uY P f):=by unfold iO;rw[au (by simp;omega),ak (PC hn h.P9 k),hf,au (b:= !true) rfl,ak e1];rfl
 have hs:bY n S P M Q (EF t c [] aB 0) ay false=some (true,S,uY P f,M,Q,EF t c [] ⟨v,k⟩ 0,ay,false):=by unfold bY;rw[ak hne,au (by simp;omega),ak qR,au (by rfl)];rfl
 rw[tg hd (aak rfl rfl hs) (λ_ => .inl rfl)]
theorem Ru(hn:110<=n)(hd:c.Do≠15)(h:H9 P){k:Int}(hk:0<k)(hne:bJ n S t c=some k){m:Nat}(hf:G5 k P.dV.l=(0,false))(hg:cZ n M t=some M'):
  vI (nq n c) (m+1) ay S P M Q t (EF t c [] aB 0)=some (⟨6,0,0⟩,S,P,M',Q,t):=by
 show nq n c _ _ _ _ _ _ _ _ =_;have qR:iO n P k=some (0,6,P):=by unfold iO;rw[au (by simp;omega),ak (PC hn h.P9 k),hf,aS (b:= !false) rfl]
 have hs:bY n S P M Q (EF t c [] aB 0) ay false=some (true,S,P,M',Q,EF t c [] aB 0,⟨6,0,0⟩,true):=by unfold bY;rw[ak hne,au (by simp;omega),ak qR,aS (by rfl),ak (Oe (c:=EF t c [] aB 0) (by omega) S P M Q _ _ _ (by show(0:Int)<=0;omega) hg)]
 exact zH hd (aak rfl rfl hs)
end
end Go.Proofs.Z
namespace Go.Proofs.Z
open Go Go.Bw
theorem wM{l:List Rn}(h:Ia l){a:Int}(ha:0<=a/\a<32*bF l):bZ l (dO l a/32)/\0<=dO l a:=by
 have hl:=tH h.WV;have h1:a.toNat<(jQ l).length:=by omega
 have hm:dO l a∈jQ l:=by unfold dO;rw[List.getD,aiP h1];exact List.getElem_mem h1
 have h2:=Gv.1 hm;obtain⟨y,hy,h3,h4⟩:=id h2;obtain⟨o1,o2,o3⟩:=h.vV y hy;exact⟨h2,by omega⟩
structure Cw(S:ae)(P:aj)(M:ai)(Q:List Int):Prop where
 Eh:H9 P
 may:∀k,pE (bx S k)
 own:∀k p,bZ (bx S k).aL p->gS P p
 sep:∀k j p,k≠j->bZ (bx S k).aL p->¬bZ (bx S j).aL p
 TA:∀p∈Q,gS P p/\∀k,¬bZ (bx S k).aL p
 qnd:Q.Nodup
 O7:OD M
 Xf:∀k a,(bx S k).ep<=a->a<32*bF (bx S k).aL->FH P (dO (bx S k).aL a)=0
 Lq:∀p,0<=p->p<P.n->bZ P.dV.l p\/p∈Q\/∃k,bZ (bx S k).aL p
def oV(S:ae)(P:aj)(k:Nat)(a:Int):Int:=FH P (dO (bx S k).aL a)
def Hz(S:ae)(k:Nat)(a:Int):Prop:=0<=a/\a<32*bF (bx S k).aL
section
variable {n:Nat} {S S':ae} {P P':aj} {M:ai} {Q Q':List Int} {t h:Int} {k:Nat} {c:aC}
theorem Cw.TB(C:Cw S P M Q):Q.length<=64:=vF 64 C.qnd λp hp=>by obtain⟨⟨a,b,_⟩,_⟩:=C.TA p hp;have:=C.Eh.n1;exact⟨a,by show p<64;omega⟩
theorem Cw.adr(C:Cw S P M Q){k:Nat}{a:Int}(ha:Hz S k a):gS P (dO (bx S k).aL a/32)/\0<=dO (bx S k).aL a:=by obtain⟨h1,h2⟩:=wM (C.may k).gx.gd ha;exact⟨C.own k _ h1,h2⟩
theorem Cw.apart(C:Cw S P M Q){k j:Nat}{a b:Int}(ha:Hz S k a)(hb:Hz S j b)(e:dO (bx S k).aL a=dO (bx S j).aL b):k=j/\a=b:=by
 by_cases hk:k=j
 ·subst hk
  exact⟨rfl,Oo (C.may k).gx.gd ha hb e⟩
 ·obtain⟨h1,_⟩:=wM (C.may k).gx.gd ha
  obtain⟨h2,_⟩:=wM (C.may j).gx.gd hb;rw[e]at h1;exact absurd h2 (C.sep k j _ hk h1)
theorem Cw.ad(C:Cw S P M Q){k:Nat}{a:Int}(h0:0<=a)(h1:a<(bx S k).ep):Hz S k a:=by have:=(C.may k).hi;exact⟨h0,by omega⟩
theorem FB(f:Nat->Int){b i:Nat}(h:i<b):((List.range b).map f).getD i default=f i:=by rw[List.getD,List.getElem?_map,List.getElem?_range h];rfl
theorem L3{w:Bool}(hn:200<=n)(C:Cw S P M Q)(a:uI w n S t h k)(hd:c.Do=3)(hR:c.R=h)(hA:0<=c.A/\c.A<4294967296)(hB:1<=c.B/\c.B<=8):
  cJ n S P M Q t c=some (if c.A+c.B<=(bx S k).ep then⟨0,Is (λi=>oV S P k (c.A+(i:Int))) c.B.toNat,0⟩else⟨9,0,0⟩,S,P,M,Q,t):=by
 have hk:=a.kl;have hc:=PZ a (C.may k) (.inl hd) hR hA hB;have Aa:c.Do≠15:=by omega
 by_cases hl:c.A+c.B<=(bx S k).ep
 ·rw[aiG hl]at hc ⊢
  refine kG ?_ (.inl (by show(0:Int)≠6;omega));obtain⟨m,rfl⟩:∃m,n=m+1+2:=⟨n-3,by omega⟩;rw[yG Aa C.O7 a.t0 a.t1 hc (vB a (.inr (.inl hd)) hR) hk a.dh];have RZ:∀i,i<((List.range c.B.toNat).map λ(i:Nat)=>dO (bx S k).aL (c.A+(i:Int))).length->0<=((List.range c.B.toNat).map λ(i:Nat)=>dO (bx S k).aL (c.A+(i:Int))).getD i default/\gS P (((List.range c.B.toNat).map λ(i:Nat)=>dO (bx S k).aL (c.A+(i:Int))).getD i default/32):=by intro i hi;rw[List.length_map,List.length_range]at hi;rw[FB (λ(i:Nat)=>dO (bx S k).aL (c.A+(i:Int))) hi];obtain⟨q1,q2⟩:=C.adr (C.ad (k:=k) (a:=c.A+(i:Int)) (by omega) (by omega));exact⟨q2,q1⟩
  have:=Rt (S:=S) (P:=P) (Q:=Q) (u:=EF t c [] aB 0) (M':=M) (x0:=ay) (b0:=false) (by omega) (by show(0:Int)<=0;omega) (S6 (by omega) a (C.may k) (.inl hd) hR hA.1 hB hl) (by have:=acS a (C.may k) (.inl hd) hR hA hB;rw[aiG hl]at this;exact this) hd C.Eh (by simp;omega) RZ (by have:=C.TB;omega) (DE (by omega) C.O7 hk a.t0 a.t1);refine(PE Aa (Ch (by omega)) this).trans ?_;rw[List.length_map,List.length_range,oq (g:=λi=>oV S P k (c.A+(i:Int))) λi hi=>by
   dsimp only;rw[FB (λ(i:Nat)=>dO (bx S k).aL (c.A+(i:Int))) hi];rfl]
 ·rw[aiH hl]at hc ⊢
  exact kG (Gp (by omega) Aa C.O7 a.t0 a.t1 hc (by omega)) (.inl (by show(9:Int)≠6;omega))
def DP(V:Int)(i:Nat):Int:=V/256^i%256
theorem Zy{V:Int}{i:Nat}(hi:i<8)(hV:0<=V/\V<18446744073709551616):wr .u8 (z6 .u64 V (wr .i64 (8*(i:Int))))=DP V i:=by
 have hp:=(aeQ i).symm;rw[bq (by omega) (by omega),Ti (8*i) (by omega) (by show 8*i<=64;omega),hp];have h:∀x:Int,wr .u8 x=x%256:=λx=>by simp[wr,IntKind.wrap,IntKind.signed,IntKind.bits]
 rw[h];rfl
theorem Vz(V:Int)(i:Nat):0<=DP V i/\DP V i<=255:=by unfold DP;omega
theorem Qu(P:aj){f g v w:Nat->Int}{k:Nat}(h1:∀i,i<k->f i=g i)(h2:∀i,i<k->v i=w i):Lo P f v k=Lo P g w k:=by
 induction k with
 |zero=>rfl
 |succ k ih=>unfold Lo;rw[ih (λi hi=>h1 i (by omega)) (λi hi=>h2 i (by omega)),h1 k (by omega),h2 k (by omega)]
def WO(S:ae)(P:aj)(k:Nat)(c:aC):aj:=Lo P (λi=>dO (bx S k).aL (c.A+(i:Int))) (DP c.V) c.B.toNat
theorem SY(C:Cw S P M Q)(hA:0<=c.A)(hB:1<=c.B/\c.B<=8)(hl:c.A+c.B<=32*bF (bx S k).aL){j:Nat}{b:Int}(hb:Hz S j b):
  oV S (WO S P k c) j b=if j=k/\c.A<=b/\b<c.A+c.B then DP c.V (b-c.A).toNat else oV S P j b:=by
 have YV:∀i,i<c.B.toNat->Hz S k (c.A+(i:Int)):=λi hi=>⟨by omega,by omega⟩;obtain⟨h1,h2⟩:=aa2 (P:=P) (f:=λi=>dO (bx S k).aL (c.A+(i:Int))) (v:=DP c.V) (k:=c.B.toNat) (λi hi=>(C.adr (YV i hi)).2) (b:=dO (bx S j).aL b) (C.adr hb).2 (λi i' hi hi' e=>by
  have:=(C.apart (YV i hi) (YV i' hi') e).2;omega)
 unfold oV WO;by_cases hc:j=k/\c.A<=b/\b<c.A+c.B
 ·rw[aiG hc]
  obtain⟨rfl,c1,c2⟩:=hc;exact h1 (b-c.A).toNat (by omega) (by show dO _ (c.A+((b-c.A).toNat:Int))=_;rw[show c.A+((b-c.A).toNat:Int)=b by omega])
 ·rw[aiH hc]
  refine h2 λi hi e=>hc ?_;obtain⟨e1,e2⟩:=C.apart (YV i hi) hb e;exact⟨e1.symm,by omega,by omega⟩
theorem SZ(S:ae)(P:aj)(k:Nat)(c:aC):(WO S P k c).dV=P.dV/\(WO S P k c).n=P.n:=FW _ _ _ _
theorem abd(C:Cw S P M Q)(hA:0<=c.A)(hB:1<=c.B/\c.B<=8)(hl:c.A+c.B<=(bx S k).ep):Cw S (WO S P k c) M Q:=by
 obtain⟨f1,f2⟩:=SZ S P k c;have hh:=(C.may k).hi;have hlt:∀p,gS P p->gS (WO S P k c) p:=λp hp=>by unfold gS at hp ⊢;rw[f1,f2];exact hp
 refine{C with Eh:=Sm C.Eh λi _ =>Vz _ _,own:=λj p hp=>hlt p (C.own j p hp),TA:=λp hp=>⟨hlt p (C.TA p hp).1,(C.TA p hp).2⟩,Xf:=λj a h1 h2=>?_,Lq:=λp p0 p1=>by rw[f1];exact C.Lq p p0 (by rw[f2]at p1;exact p1)};have h0:=(C.may j).lo;have:=SY (P:=P) (k:=k) C hA hB (by omega) (j:=j) (b:=a) ⟨by omega,h2⟩;unfold oV at this;rw[this,aiH]
 ·exact C.Xf j a h1 h2
 ·rintro⟨rfl,c1,c2⟩;omega
theorem Qz(hn:200<=n)(C:Cw S P M Q)(a:uI true n S t h k)(hd:c.Do=4)(hR:c.R=h)(hA:0<=c.A/\c.A<4294967296)(hB:1<=c.B/\c.B<=8)(hV:0<=c.V/\c.V<18446744073709551616):
  cJ n S P M Q t c=some (if c.A+c.B<=(bx S k).ep then⟨0,0,0⟩else⟨9,0,0⟩,S,if c.A+c.B<=(bx S k).ep then WO S P k c else P,M,Q,t):=by
 have hk:=a.kl;have hc:=PZ a (C.may k) (.inr ⟨hd,rfl⟩) hR hA hB;have Aa:c.Do≠15:=by omega
 by_cases hl:c.A+c.B<=(bx S k).ep
 ·rw[aiG hl]at hc ⊢
  rw[aiG hl];refine kG ?_ (.inl (by show(0:Int)≠6;omega));obtain⟨m,rfl⟩:∃m,n=m+1+2:=⟨n-3,by omega⟩;rw[yG Aa C.O7 a.t0 a.t1 hc (vB a (.inr (.inr hd)) hR) hk a.dh];have RZ:∀i,i<((List.range c.B.toNat).map λ(i:Nat)=>dO (bx S k).aL (c.A+(i:Int))).length->0<=((List.range c.B.toNat).map λ(i:Nat)=>dO (bx S k).aL (c.A+(i:Int))).getD i default/\gS P (((List.range c.B.toNat).map λ(i:Nat)=>dO (bx S k).aL (c.A+(i:Int))).getD i default/32):=by intro i hi;rw[List.length_map,List.length_range]at hi;rw[FB (λ(i:Nat)=>dO (bx S k).aL (c.A+(i:Int))) hi];obtain⟨q1,q2⟩:=C.adr (C.ad (k:=k) (a:=c.A+(i:Int)) (by omega) (by omega));exact⟨q2,q1⟩
  have:=Rs (S:=S) (P:=P) (Q:=Q) (u:=EF t c [] aB 0) (M':=M) (x0:=ay) (b0:=false) (by omega) (by show(0:Int)<=0;omega) (S6 (by omega) a (C.may k) (.inr hd) hR hA.1 hB hl) (by have:=acS a (C.may k) (.inr ⟨hd,rfl⟩) hR hA hB;rw[aiG hl]at this;exact this) hd C.Eh (by simp;omega) RZ (by have:=C.TB;omega) (DE (by omega) C.O7 hk a.t0 a.t1);refine(PE Aa (Ch (by omega)) this).trans ?_;rw[List.length_map,List.length_range];unfold WO;rw[Qu P (g:=λi=>dO (bx S k).aL (c.A+(i:Int))) (w:=DP c.V) (λi hi=>FB (λ(i:Nat)=>dO (bx S k).aL (c.A+(i:Int))) hi) (λi hi=>Zy (by have hi':i<c.B.toNat:=hi;omega) hV)]
 ·rw[aiH hl]at hc ⊢
  rw[aiH hl];exact kG (Gp (by omega) Aa C.O7 a.t0 a.t1 hc (by omega)) (.inl (by show(9:Int)≠6;omega))
end
end Go.Proofs.Z
namespace Go.Proofs.Z
open Go Go.Bw
theorem MI{l:List Rn}{y:Rn}(h:Ia (l++[y])){a:Int}(h0:32*bF l<=a)(h1:a<32*bF l+32*y.N):dO (l++[y]) a=32*y.At+(a-32*bF l):=by obtain⟨g1,g2,_⟩:=yQ.1 h;have hl:=tH g1.WV;have hp:=vx g1.WV;unfold dO;rw[Bi,Hu,GR _ _ _ _ (by omega),Ht y (by omega)];omega
theorem PU{P:aj}(h:H9 P){f:bn}(hf:qb f.l)(hm:∀p,bZ f.l p->bZ P.dV.l p):H9 (uY P f):=⟨hf,h.n1,λp hp=>h.fr p (hm p hp),h.bt⟩
section
variable {n:Nat} {S S':ae} {P P':aj} {M:ai} {Q Q':List Int} {t h:Int} {k:Nat} {c:aC}
theorem aeK(hn:110<=n){p:Int}(C:Cw S P M (p::Q)):∃f:bn,my n S P M (p::Q)=some (true,S,uY P f,M,Q)/\Cw S (uY P f) M Q/\∀x,bZ f.l x↔bZ P.dV.l x\/x=p:=by
 have hn1:=C.Eh.n1;obtain⟨⟨p0,p1,p2⟩,p3⟩:=C.TA p (by simp);have hql:=C.TB;rw[List.length_cons]at hql;obtain⟨f,g,e1,e2,_,e3⟩:=Pv hn C.Eh.P9 (at_:=p) (k:=1) ⟨by omega,by omega⟩ ⟨by omega,by omega⟩;have hg:g=true:=e2.2 ⟨⟨by omega,by omega,by omega⟩,λq h1 h2=>by rw[show q=p by omega];exact p2⟩;subst hg;obtain⟨f1,f2⟩:=e3 rfl;have f3:∀x,bZ f.l x↔bZ P.dV.l x\/x=p:=λx=>(f2 x).trans ⟨λh=>h.elim .inl λh=> .inr (by omega),λh=>h.elim .inl λh=> .inr (by omega)⟩;have hb:l9 n P p=some (0,uY P f):=by unfold l9;rw[au (by simp;omega),ak (KJ hn C.Eh ⟨p0,p1,p2⟩),au (by rfl),bj (fP (by omega) (by omega)),ak e1];rfl
 obtain⟨d1,d2⟩:=List.nodup_cons.1 C.qnd;refine⟨f,?_,⟨⟨f1,hn1,λx hx=>?_,C.Eh.bt⟩,C.may,λj x hx=>?_,C.sep,λx hx=>?_,d2,C.O7,C.Xf,λx x0 x1=>?_⟩,f3⟩
 ·unfold my
  rw[au (by simp;omega),bj (fP (by omega) (by simp)),ak (show l9 n P (List.getD (p::Q) (Int.toNat 0) default)=some (0,uY P f)from hb),bj (fP (by omega) (by simp;omega))];rfl
 ·rcases(f3 x).1 hx with h|h
  ·exact C.Eh.fr x h
  ·show x<P.n;omega
 ·obtain⟨q0,q1,q2⟩:=C.own j x hx
  refine⟨q0,q1,λh=>?_⟩;rcases(f3 x).1 h with h|h
  ·exact q2 h
  ·subst h;exact p3 j hx
 ·obtain⟨⟨q0,q1,q2⟩,q3⟩:=C.TA x (by simp[hx])
  refine⟨⟨q0,q1,λh=>?_⟩,q3⟩;rcases(f3 x).1 h with h|h
  ·exact q2 h
  ·subst h;exact d1 hx
 ·rcases C.Lq x x0 x1 with h|h|h
  ·exact .inl ((f3 x).2 (.inl h))
  ·rcases List.mem_cons.1 h with h|h
   ·exact .inl ((f3 x).2 (.inr h))
   ·exact .inr (.inl h)
  ·exact .inr (.inr h)
theorem aeJ(hn:110<=n){ρ:Type}(F:ae->aj->ai->List Int->Int->Option ρ):∀(Q:List Int) (P:aj),Cw S P M Q->∃P',Cw S P' M []/\P'.n=P.n/\P'.bytes=P.bytes/\(∀x,bZ P'.dV.l x↔bZ P.dV.l x\/x∈Q)/\
  ∀m,Q.length<m->xm (λk36 (dP:ae) (jk:aj) (eU:ai) (cI:(List Int)) (fV:Int)=>bd (my n dP jk eU cI) λdL=>cn (dL.1) (k36 dL.2.1 dL.2.2.1 dL.2.2.2.1 dL.2.2.2.2 fV) (F dL.2.1 dL.2.2.1 dL.2.2.2.1 dL.2.2.2.2 fV)) m S P M Q t=F S P' M [] t:=by
 intro Q
 induction Q with
 |nil=>intro P C;refine⟨P,C,rfl,rfl,λx=>by simp,λm hm=>?_⟩;obtain⟨m,rfl⟩:∃j,m=j+1:=⟨m-1,by omega⟩;rfl
 |cons p Q ih=>
  intro P C;obtain⟨f,e,C1,hf⟩:=aeK hn C;obtain⟨P',C2,h1,h2,h3,h4⟩:=ih _ C1;refine⟨P',C2,h1,h2,λx=>?_,λm hm=>?_⟩
  ·rw[h3]
   show bZ f.l x\/_ ↔_;rw[hf,List.mem_cons,or_assoc]
  ·obtain⟨m,rfl⟩:∃j,m=j+1:=⟨m-1,by omega⟩
   rw[List.length_cons]at hm;simp only[xm];rw[ak e,aS (by rfl)];exact h4 m (by omega)
theorem On(hn:110<=n){w:Int}(C:Cw S P M Q)(hq:Q≠[])(h:ef n S P M Q t c=some (⟨6,0,w⟩,S,P,M,Q,t)):
  ∃P',Cw S P' M []/\P'.n=P.n/\P'.bytes=P.bytes/\(∀x,bZ P'.dV.l x↔bZ P.dV.l x\/x∈Q)/\cJ n S P M Q t c=ef n S P' M [] t c:=by
 have hql:=C.TB;obtain⟨P',h1,h2,h3,h4,h5⟩:=aeJ (S:=S) (M:=M) (t:=t) hn (λx1 x2 x3 x4 x5=>bd (ef n x1 x2 x3 x4 x5 c) λjU=>some jU) Q P C;refine⟨P',h1,h2,h3,h4,?_⟩;have h6:=h5 n (by omega);have hb:((6:Int)==6)&&decide (0<(Q.length:Int)):=by have:=List.length_pos_iff.2 hq;simp;omega
 unfold cJ;rw[ak h,aK,aK,aS hb];refine Eq.trans h6 ?_;cases ef n S P' M [] t c<;>rfl
theorem Cw.abl(C:Cw S P M Q)(k:Nat){L:Int}(h1:(bx S k).ep<=L)(h2:L<=32*bF (bx S k).aL):Cw (iI S k ⟨(bx S k).aL,L⟩) P M Q:=by
 have hr:∀j,(bx (iI S k ⟨(bx S k).aL,L⟩) j).aL=(bx S j).aL:=λj=>by
  by_cases hj:j=k
  ·subst hj;rw[fQ]
  ·rw[rS _ _ hj]
 have hl:∀j,(bx S j).ep<=(bx (iI S k ⟨(bx S k).aL,L⟩) j).ep:=λj=>by
  by_cases hj:j=k
  ·subst hj;rw[fQ];exact h1
  ·rw[rS _ _ hj];omega
 refine⟨C.Eh,λj=>?_,λj p hp=>C.own j p (by rw[hr]at hp;exact hp),λi j p hij hp=>by rw[hr]at hp ⊢;exact C.sep i j p hij hp,λp hp=>⟨(C.TA p hp).1,λj=>by rw[hr];exact(C.TA p hp).2 j⟩,C.qnd,C.O7,λj a q1 q2=>?_,λp p0 p1=>?_⟩
 ·by_cases hj:j=k
  ·subst hj;rw[fQ];have:=(C.may j).lo;exact⟨(C.may j).gx,by dsimp only;omega,h2⟩
  ·rw[rS _ _ hj];exact C.may j
 ·rw[hr]at q2 ⊢
  exact C.Xf j a (by have:=hl j;omega) q2
 ·rcases C.Lq p p0 p1 with h|h|⟨j,h⟩
  ·exact .inl h
  ·exact .inr (.inl h)
  ·exact .inr (.inr ⟨j,by rw[hr];exact h⟩)
theorem I3(S:ae)(P:aj)(k j:Nat)(L a:Int):oV (iI S k ⟨(bx S k).aL,L⟩) P j a=oV S P j a:=by
 unfold oV;by_cases hj:j=k
 ·subst hj;rw[fQ]
 ·rw[rS _ _ hj]
theorem Cw.ah0(C:Cw S P M Q)(k:Nat){v m s:Int}(hin:Jq P.dV.l v m){f:bn}(hf:qb f.l)(YS:∀p,bZ f.l p↔bZ P.dV.l p/\¬(v<=p/\p<v+m))(hs:0<=s/\s<=32*m):
  Cw (iI S k ⟨(bx S k).aL++[⟨v,m⟩],32*bF (bx S k).aL+s⟩) (qT (uY P f) v m.toNat) M Q/\
  (∀j a,Hz S j a->oV (iI S k ⟨(bx S k).aL++[⟨v,m⟩],32*bF (bx S k).aL+s⟩) (qT (uY P f) v m.toNat) j a=oV S P j a)/\
  (∀a,32*bF (bx S k).aL<=a->a<32*bF (bx S k).aL+32*m->oV (iI S k ⟨(bx S k).aL++[⟨v,m⟩],32*bF (bx S k).aL+s⟩) (qT (uY P f) v m.toNat) k a=0):=by
 obtain⟨⟨o1,o2,o3⟩,ace⟩:=id hin;have hn1:=C.Eh.n1;have z1:=(sx (uY P f) v m.toNat).1;have z2:=(sx (uY P f) v m.toNat).2;have hno:∀p,v<=p->p<v+m->∀j,¬bZ (bx S j).aL p:=λp p0 p1 j hp=>(C.own j p hp).2.2 (ace p p0 p1);have hmay:pE ⟨(bx S k).aL++[⟨v,m⟩],32*bF (bx S k).aL⟩:=Jh (C.may k) ⟨o1,o2,o3⟩ λp p0 p1=>hno p p0 p1 k;have hsn:bF ((bx S k).aL++[(⟨v,m⟩:Rn)])=bF (bx S k).aL+m:=by rw[oP,wm]
 have NY:=(C.may k).gx.pos;have hlen:=(C.may k).hi;have hlo:=(C.may k).lo;have hmem:∀j p,bZ (bx (iI S k ⟨(bx S k).aL++[⟨v,m⟩],32*bF (bx S k).aL+s⟩) j).aL p↔bZ (bx S j).aL p\/(j=k/\v<=p/\p<v+m):=λj p=>by
  by_cases hj:j=k
  ·subst hj
   rw[fQ];show bZ ((bx S j).aL++[⟨v,m⟩]) p↔_;rw[Jf];simp
  ·rw[rS _ _ hj];simp[hj]
 have hlt:∀p,gS P p->gS (qT (uY P f) v m.toNat) p:=λp ⟨q0,q1,q2⟩=>⟨q0,by rw[z2];exact q1,λh=>by rw[z1]at h;exact q2 ((YS p).1 h).1⟩;have hby:∀b,0<=b->¬(v<=b/32/\b/32<v+m)->FH (qT (uY P f) v m.toNat) b=FH P b:=λb b0 b1=>by rw[OJ _ o2 _ b0,aiH (by omega)];rfl
 have hz:∀b,0<=b->v<=b/32->b/32<v+m->FH (qT (uY P f) v m.toNat) b=0:=λb b0 b1 b2=>by rw[OJ _ o2 _ b0,aiG (by omega)]
 have old:∀j a,Hz S j a->oV (iI S k ⟨(bx S k).aL++[⟨v,m⟩],32*bF (bx S k).aL+s⟩) (qT (uY P f) v m.toNat) j a=oV S P j a:=λj a ha=>by
  obtain⟨m1,m2⟩:=wM (C.may j).gx.gd ha;have e:dO (bx (iI S k ⟨(bx S k).aL++[⟨v,m⟩],32*bF (bx S k).aL+s⟩) j).aL a=dO (bx S j).aL a:=by
   by_cases hj:j=k
   ·subst hj;rw[fQ];exact Oq (C.may j).gx.gd ha
   ·rw[rS _ _ hj]
  unfold oV;rw[e];exact hby _ m2 λq=>hno _ q.1 q.2 j m1
 have new:∀a,32*bF (bx S k).aL<=a->a<32*bF (bx S k).aL+32*m->oV (iI S k ⟨(bx S k).aL++[⟨v,m⟩],32*bF (bx S k).aL+s⟩) (qT (uY P f) v m.toNat) k a=0:=λa a0 a1=>by unfold oV;rw[fQ];show FH _ (dO ((bx S k).aL++[⟨v,m⟩]) a)=0;rw[MI hmay.gx.gd a0 a1];exact hz _ (by dsimp only;omega) (by dsimp only;omega) (by dsimp only;omega)
 refine⟨⟨OI (PU C.Eh hf λp hp=>((YS p).1 hp).1) _ _,λj=>?_,λj p hp=>?_,λi j p hij hp hq=>?_,λp hp=>⟨hlt p (C.TA p hp).1,λj hj=>?_⟩,C.qnd,C.O7,λj a a0 a1=>?_,λp p0 p1=>?_⟩,old,new⟩
 ·by_cases hj:j=k
  ·subst hj;rw[fQ];exact⟨hmay.gx,by dsimp only;omega,by dsimp only;rw[hsn];omega⟩
  ·rw[rS _ _ hj];exact C.may j
 ·rcases(hmem j p).1 hp with hp|⟨_,q0,q1⟩
  ·exact hlt p (C.own j p hp)
  ·refine⟨by omega,by rw[z2];exact C.Eh.fr p (ace p q0 q1),λhh=>?_⟩
   rw[z1]at hh;exact((YS p).1 hh).2 ⟨q0,q1⟩
 ·rcases(hmem i p).1 hp with hp'|⟨hp',q0,q1⟩<;>rcases(hmem j p).1 hq with CY|⟨CY,r0,r1⟩
  ·exact C.sep i j p hij hp' CY
  ·exact hno p r0 r1 i hp'
  ·exact hno p q0 q1 j CY
  ·exact hij (hp'.trans CY.symm)
 ·rcases(hmem j p).1 hj with hj|⟨_,q0,q1⟩
  ·exact(C.TA p hp).2 j hj
  ·exact(C.TA p hp).1.2.2 (ace p q0 q1)
 ·by_cases hj:j=k
  ·subst hj
   have a0':32*bF (bx S j).aL+s<=a:=by rw[fQ]at a0;exact a0
   have a1':a<32*(bF (bx S j).aL+m):=by rw[fQ, ← hsn]at *;exact a1
   exact new a (by omega) (by omega)
  ·rw[rS _ _ hj]at a0 a1
   have h0:=(C.may j).lo;have:=old j a ⟨by omega,a1⟩;unfold oV at this;rw[this];exact C.Xf j a a0 a1
 ·rw[z1]
  rw[z2]at p1;rcases C.Lq p p0 p1 with q|q|⟨j,q⟩
  ·by_cases hv:v<=p/\p<v+m
   ·exact .inr (.inr ⟨k,(hmem k p).2 (.inr ⟨rfl,hv⟩)⟩)
   ·exact .inl ((YS p).2 ⟨q,hv⟩)
  ·exact .inr (.inl q)
  ·exact .inr (.inr ⟨j,(hmem j p).2 (.inl q)⟩)
structure aae(S:ae)(P:aj)(M:ai)(Q:List Int)(k:Nat)(s b:Int)(S':ae)(P':aj)(at_:Int):Prop where
 cw:Cw S' P' M Q
 st:∃l,S'=iI S k ⟨l,at_+s⟩
 lo:(bx S k).ep<=at_
 al:at_%b=0
 n:P'.n=P.n
 old:∀j a,Hz S j a->oV S' P' j a=oV S P j a
 Xf:∀a,(bx S k).ep<=a->Hz S' k a->oV S' P' k a=0
 fit:eG (bx S k) s b=true->at_=zC (bx S k).ep b/\(bx S' k).aL=(bx S k).aL/\P'=P
 new:eG (bx S k) s b=false->at_=32*bF (bx S k).aL/\∃v,(bx S' k).aL=(bx S k).aL++[⟨v,eX s⟩]/\Jq P.dV.l v (eX s)/\(∀a,a<v->¬Jq P.dV.l a (eX s))/\∀p,bZ P'.dV.l p↔bZ P.dV.l p/\¬(v<=p/\p<v+eX s)
theorem Gq(hn:200<=n)(C:Cw S P M Q)(a:uI true n S t h k)(hd:c.Do=2)(hR:c.R=h){s b:Int}(hA:c.A=s)(hB:c.B=b)(ho:tj s b=true):
  (ef n S P M Q t c=some (⟨6,0,0⟩,S,P,M,Q,t)/\eG (bx S k) s b=false/\((S.dK.T.aY k).gF<bF (bx S k).aL+eX s\/∀v,¬Jq P.dV.l v (eX s)))\/
  ∃S' P' at_,ef n S P M Q t c=some (⟨0,at_,0⟩,S',P',M,Q,t)/\aae S P M Q k s b S' P' at_:=by
 have hk:=a.kl;have UR:=acZ (by omega) a (C.may k) hd hR hA hB ho;have Aa:c.Do≠15:=by omega
 obtain⟨n1,n2,n3⟩:=Cc ho;obtain⟨⟨s1,s2⟩,o3⟩:=mh.1 ho;have hne:=Uf (by omega) a (C.may k) hd hR hA hB ho;have hql:=C.TB;have g:=DE (n:=n) (by omega) C.O7 hk a.t0 a.t1;cases hf:eG (bx S k) s b with
 |true=>
  rw[hf,aiG rfl]at UR;unfold LW at hne;rw[hf,aiG rfl]at hne;refine .inr ⟨iI S k ⟨(bx S k).aL,zC (bx S k).ep b+s⟩,P,zC (bx S k).ep b,?_,?_⟩
  ·obtain⟨m,rfl⟩:∃m,n=m+1+2:=⟨n-3,by omega⟩
   rw[yG Aa C.O7 a.t0 a.t1 UR (vB a (.inl hd) hR) hk a.dh];have:=DL (S:=S) (P:=P) (M:=uV M k t) (M':=M) (Q:=Q) (u:=EF t c [] aB 0) (fD:=[]) (x0:=ay) (b0:=false) (by omega) (.inl (by show(0:Int)<=0;omega)) (T3 a hd hR) (PS (by omega) a (C.may k) hd hR hA hB ho hf) rfl (by show c.Do≠3/\c.Do≠4;omega) (by simp) (by simp;omega) (by show 0<m+1+2;omega) g;rw[show Q++yD []=Q by simp[yD]]at this;exact PE Aa hne this
  ·have hm:=Ku (C.may k) hf
   obtain⟨f0,f1,f2⟩:=PA (C.may k) hf;have hc:=C.abl k (L:=zC (bx S k).ep b+s) (by omega) hm.hi;refine⟨hc,⟨_,rfl⟩,f1,(BX o3).2.2.1,rfl,λj x _ =>I3 _ _ _ _ _ _,λx x0 x1=>?_,λ_ =>⟨rfl,by rw[fQ],rfl⟩,λh=>by rw[hf]at h;cases h⟩;rw[I3];refine C.Xf k x x0 ?_;have:=x1.2;rw[fQ]at this;exact this
 |false=>
  rw[hf,aiH (by simp)]at UR;unfold LW at hne;rw[hf,aiH (by simp)]at hne;by_cases hq:bF (bx S k).aL+eX s<=(S.dK.T.aY k).gF
  ·rw[aiG hq]at UR hne
   rcases Zh C.Eh.P9 (k:=eX s)with⟨e1,e2⟩|⟨v,e1,v0,e2,e3⟩
   ·refine .inl ⟨?_,rfl, .inr e2⟩
    obtain⟨m,rfl⟩:∃m,n=m+1+2:=⟨n-3,by omega⟩;rw[yG Aa C.O7 a.t0 a.t1 UR (vB a (.inl hd) hR) hk a.dh];exact Ru (by omega) Aa C.Eh (by omega) hne e1 g
   ·obtain⟨⟨w1,w2,w3⟩,w4⟩:=id e2
    obtain⟨d,hdn⟩:∃d:Nat,(d:Int)=eX s:=⟨(eX s).toNat,by omega⟩;have hdt:(eX s).toNat=d:=by omega
    obtain⟨m,rfl⟩:∃m,n=m+d+1+1+2:=⟨n-d-4,by omega⟩;obtain⟨f,f1,f2,f3⟩:=Rv (S:=S) (P:=P) (M:=uV M k t) (Q:=Q) (m:=m+d+1) (by omega) Aa C.Eh (by omega) (by omega) hne e1 v0 e2;obtain⟨G1,G2,G3⟩:=C.ah0 k (s:=s) e2 f1 f2 ⟨by omega,by omega⟩;refine .inr ⟨iI S k ⟨(bx S k).aL++[⟨v,eX s⟩],32*bF (bx S k).aL+s⟩,qT (uY P f) v (eX s).toNat,32*bF (bx S k).aL,?_,?_⟩
    ·rw[yG Aa C.O7 a.t0 a.t1 UR (vB a (.inl hd) hR) hk a.dh,f3]
     have afJ:∀p,v<=p->p<v+eX s->gS (uY P f) p:=λp p0 p1=>⟨by omega,C.Eh.fr p (w4 p p0 p1),λhh=>((f2 p).1 hh).2 ⟨p0,p1⟩⟩;have hdo:=Vq (by omega) a (C.may k) hd hR hA hB ho hf hq (r:=⟨v,eX s⟩) rfl e2.1 (λp p0 p1 hp=>(C.own k p hp).2.2 (w4 p p0 p1));have:=DL (S:=S) (P:=qT (uY P f) v (eX s).toNat) (M:=uV M k t) (M':=M) (Q:=Q) (u:=EF t c [] ⟨v,eX s⟩ (eX s)) (fD:=[]) (x0:=ay) (b0:=false) (by omega) (.inr ⟨by show 0<eX s;omega,hne⟩) (T3 a hd hR) hdo rfl (by show c.Do≠3/\c.Do≠4;omega) (by simp) (by simp;omega) (by show 0<m+d+1+1+2;omega) g;rw[show Q++yD []=Q by simp[yD]]at this;exact Vu (by omega) Aa v0 (by omega) (by omega) hne (PU C.Eh f1 λp hp=>((f2 p).1 hp).1) afJ ⟨_,this⟩ d 0 m (by omega)
    ·have NY:=(C.may k).gx.pos
     have hlo:=(C.may k).lo;refine⟨G1,⟨_,rfl⟩,(C.may k).hi,?_,(sx _ _ _).2,G2,λx x0 x1=>?_,(λh=>by rw[hf]at h;cases h),λ_ =>⟨rfl,v,by rw[fQ],e2,e3,λp=>by rw[(sx _ _ _).1];exact f2 p⟩⟩
     ·rcases o3 with rfl|rfl|rfl|rfl<;>omega
     ·rcases Int.lt_or_le x (32*bF (bx S k).aL)with hx|hx
      ·rw[G2 k x ⟨by omega,hx⟩];exact C.Xf k x x0 hx
      ·refine G3 x hx ?_
       have:=x1.2;rw[fQ]at this;dsimp only at this;rw[oP,wm]at this;omega
  ·rw[aiH hq]at UR
   exact .inl ⟨Gp (by omega) Aa C.O7 a.t0 a.t1 UR (by omega),rfl, .inl (by omega)⟩
theorem RC(hn:200<=n)(C:Cw S P M Q)(a:uI true n S t h k)(hd:c.Do=2)(hR:c.R=h){s b:Int}(hA:c.A=s)(hB:c.B=b)(ho:tj s b=true):
  ∃P0 Q0,(P0=P/\Q0=Q\/Q0=[]/\∀p,bZ P0.dV.l p↔bZ P.dV.l p\/p∈Q)/\Cw S P0 M Q0/\P0.n=P.n/\P0.bytes=P.bytes/\
  ((cJ n S P M Q t c=some (⟨6,0,0⟩,S,P0,M,Q0,t)/\Q0=[]/\eG (bx S k) s b=false/\((S.dK.T.aY k).gF<bF (bx S k).aL+eX s\/∀v,¬Jq P0.dV.l v (eX s)))\/
  ∃S' P' at_,cJ n S P M Q t c=some (⟨0,at_,0⟩,S',P',M,Q0,t)/\aae S P0 M Q0 k s b S' P' at_):=by
 rcases Gq hn C a hd hR hA hB ho with⟨e1,e2,e3⟩|⟨S',P',at_,e1,e2⟩
 ·by_cases hq:Q=[]
  ·exact⟨P,Q, .inl ⟨rfl,rfl⟩,C,rfl,rfl, .inl ⟨kG e1 (.inr hq),hq,e2,e3⟩⟩
  ·obtain⟨P0,c1,c2,c3,c4,c5⟩:=On (by omega) C hq e1
   refine⟨P0,[], .inr ⟨rfl,c4⟩,c1,c2,c3,?_⟩;rw[c5];rcases Gq hn c1 a hd hR hA hB ho with⟨d1,d2,d3⟩|⟨S',P',at_,d1,d2⟩
   ·exact .inl ⟨d1,rfl,d2,d3⟩
   ·exact .inr ⟨S',P',at_,d1,d2⟩
 ·exact⟨P,Q, .inl ⟨rfl,rfl⟩,C,rfl,rfl, .inr ⟨S',P',at_,kG e1 (.inl (by show(0:Int)≠6;omega)),e2⟩⟩
end
end Go.Proofs.Z
namespace Go.Proofs.Z
open Go Go.Bw
theorem Zx(k:Nat):(256:Int)^k=((256^k:Nat):Int):=(Int.natCast_pow 256 k).symm
theorem abV{V:Int}(hV:0<=V)(k:Nat):Is (DP V) k=V%256^k:=by
 obtain⟨v,rfl⟩:=Int.eq_ofNat_of_zero_le hV
 induction k with
 |zero=>unfold Is;simp
 |succ k ih=>
  rw[Us,ih];have h:=Nat.mod_pow_succ (x:=v) (b:=256) (k:=k);have e1:DP (v:Int) k=((v/256^k%256:Nat):Int):=by unfold DP;rw[Zx];rfl
  have e2:(v:Int)%256^k=((v%256^k:Nat):Int):=by rw[Zx];rfl
  have e3:(v:Int)%256^(k+1)=((v%256^(k+1):Nat):Int):=by rw[Zx];rfl
  rw[e1,e2,e3,h,Int.natCast_add,Int.natCast_mul, ← Zx,Int.mul_comm]
def vZ(S:ae)(P:aj)(k:Nat)(a:Int):Int:=Is (λi=>oV S P k (a+(i:Int))) 8
def lK(S:ae)(k:Nat)(a:Int):Prop:=0<=a/\a%8=0/\a+8<=(bx S k).ep
instance(S:ae)(k:Nat)(a:Int):Decidable (lK S k a):=by unfold lK;infer_instance
def Wd(S:ae)(P:aj)(k:Nat)(a:Int):Int:=if lK S k a then vZ S P k a else 0
def Gb(m:Int->Int)(a v:Int):Int->Int:=λb=>if b=a then v else m b
theorem JY(m:Int->Int)(a v:Int):Gb m a v a=v:=aiG rfl
theorem Fq(m:Int->Int){a b:Int}(v:Int)(h:b≠a):Gb m a v b=m b:=aiH h
section
variable {n:Nat} {S S':ae} {P P':aj} {M:ai} {Q Q':List Int} {t h:Int} {k:Nat}
theorem Tx(C:Cw S P M Q)(k:Nat)(a:Int):0<=oV S P k a/\oV S P k a<=255:=Qa C.Eh _
theorem FY(C:Cw S P M Q)(k:Nat)(a:Int):0<=vZ S P k a/\vZ S P k a<18446744073709551616:=KB (k:=8) λi _ =>Tx C k _
theorem zb(C:Cw S P M Q)(k:Nat)(a:Int):0<=Wd S P k a/\Wd S P k a<18446744073709551616:=by
 unfold Wd;split
 ·exact FY C k a
 ·omega
theorem VR{a:Int}(h:lK S k a):Wd S P k a=vZ S P k a:=aiG h
def uE(d h a b v:Int):aC:=⟨d,h,0,a,b,v⟩
theorem CF{d a b v:Int}(ha:0<=a/\a<4294967296)(hb:0<=b/\b<4294967296){r:ah}(hc:cJ n S P M Q t (uE d h a b v)=some (r,S',P',M,Q',t)):iZ n S P M Q t d h a b v=some (r,S',P',M,Q',t):=by
 have e:∀x:Int,0<=x/\x<4294967296->mj n x=some (x,true):=λx hx=>by
  unfold mj;rw[aag hx.1 (by omega)];have:(decide (0<=x)&&decide (x<=4294967295))=true:=by simp;omega
  rw[this]
 unfold iZ;rw[ak (e a ha),ak (e b hb),au (by rfl)];show bd (cJ n S P M Q t (uE d h a b v)) _ =_;rw[ak hc];rfl
theorem ZE{d a b v:Int}(ha:a<0\/4294967296<=a):iZ n S P M Q t d h a b v=some (⟨2,0,0⟩,S,P,M,Q,t):=by
 have e:∃x,mj n a=some (x,false):=by
  unfold mj;have:(decide (0<=a)&&decide (a<=4294967295))=false:=by rw[Bool.and_eq_false_iff];simp;omega
  rw[this];exact⟨_,rfl⟩
 obtain⟨x,e⟩:=e;obtain⟨y,e2⟩:∃y,mj n b=some y:=⟨_,rfl⟩;unfold iZ;rw[ak e,ak e2,aS (by rfl)];rfl
theorem OL{w:Bool}(hn:200<=n)(C:Cw S P M Q)(a:uI w n S t h k){x:Int}(h0:0<=x)(h1:x+8<=(bx S k).ep):kA n S P M Q t h x=some (vZ S P k x,0,S,P,M,Q,t):=by have hh:=(C.may k).hi;have hs:=(C.may k).gx.sum;have:cJ n S P M Q t (uE 3 h x 8 0)=some (if x+8<=(bx S k).ep then⟨0,vZ S P k x,0⟩else⟨9,0,0⟩,S,P,M,Q,t):=L3 hn C a (c:=uE 3 h x 8 0) rfl rfl ⟨h0,by show x<_;omega⟩ ⟨by show(1:Int)<=8;omega,by show(8:Int)<=8;omega⟩;rw[aiG h1]at this;unfold kA;rw[ak (CF ⟨h0,by omega⟩ (by omega) this)];rfl
theorem Sr{w:Bool}(hn:200<=n)(C:Cw S P M Q)(a:uI w n S t h k){x:Int}(h1:¬(0<=x/\x+8<=(bx S k).ep)):∃e,(e=2\/e=9)/\kA n S P M Q t h x=some (0,e,S,P,M,Q,t):=by
 by_cases h2:0<=x/\x<4294967296
 ·have:cJ n S P M Q t (uE 3 h x 8 0)=some (if x+8<=(bx S k).ep then⟨0,vZ S P k x,0⟩else⟨9,0,0⟩,S,P,M,Q,t):=L3 hn C a (c:=uE 3 h x 8 0) rfl rfl h2 ⟨by show(1:Int)<=8;omega,by show(8:Int)<=8;omega⟩
  rw[aiH (show¬(x+8<=(bx S k).ep)by omega)]at this;refine⟨9, .inr rfl,?_⟩;unfold kA;rw[ak (CF h2 (by omega) this)];rfl
 ·refine⟨2, .inl rfl,?_⟩
  unfold kA;rw[ak (ZE (by omega))];rfl
def swP(S:ae)(P:aj)(k:Nat)(h x v:Int):aj:=WO S P k (uE 4 h x 8 v)
theorem Tl(hn:200<=n)(C:Cw S P M Q)(a:uI true n S t h k){x v:Int}(h0:0<=x)(h1:x+8<=(bx S k).ep)(hv:0<=v/\v<18446744073709551616):uo n S P M Q t h x v=some (0,S,swP S P k h x v,M,Q,t)/\Cw S (swP S P k h x v) M Q:=by have hh:=(C.may k).hi;have hs:=(C.may k).gx.sum;have hb:1<=(uE 4 h x 8 v).B/\(uE 4 h x 8 v).B<=8:=⟨by show(1:Int)<=8;omega,by show(8:Int)<=8;omega⟩;have:cJ n S P M Q t (uE 4 h x 8 v)=some (if x+8<=(bx S k).ep then⟨0,0,0⟩else⟨9,0,0⟩,S,if x+8<=(bx S k).ep then WO S P k (uE 4 h x 8 v)else P,M,Q,t):=Qz hn C a (c:=uE 4 h x 8 v) rfl rfl ⟨h0,by show x<_;omega⟩ hb hv;rw[aiG h1,aiG h1]at this;refine⟨?_,abd C h0 hb h1⟩;unfold uo;rw[ak (CF ⟨h0,by omega⟩ (by omega) this)];rfl
theorem Nj(C:Cw S P M Q){x v:Int}(h0:0<=x)(h1:x+8<=(bx S k).ep){j:Nat}{b:Int}(hb:Hz S j b):oV S (swP S P k h x v) j b=if j=k/\x<=b/\b<x+8 then DP v (b-x).toNat else oV S P j b:=by have hh:=(C.may k).hi;exact SY C (c:=uE 4 h x 8 v) h0 ⟨by show(1:Int)<=8;omega,by show(8:Int)<=8;omega⟩ (by show x+8<=_;omega) hb
theorem SR(C:Cw S P M Q){x v:Int}(hx:lK S k x)(hv:0<=v/\v<18446744073709551616):Wd S (swP S P k h x v) k=Gb (Wd S P k) x v/\∀j,j≠k->Wd S (swP S P k h x v) j=Wd S P j:=by
 obtain⟨x0,x1,x2⟩:=id hx;constructor
 ·funext b
  unfold Gb Wd;by_cases hb:lK S k b
  ·obtain⟨b0,b1,b2⟩:=id hb
   rw[aiG hb];by_cases e:b=x
   ·subst e
    rw[aiG rfl];unfold vZ;rw[oq (g:=DP v) λi hi=>by
     rw[Nj C x0 x2 (C.ad (by omega) (by omega)),aiG ⟨rfl,by omega,by omega⟩,show(b+(i:Int)-b).toNat=i by omega],abV hv.1]
    exact Int.emod_eq_of_lt hv.1 hv.2
   ·rw[aiH e,aiG hb]
    unfold vZ;exact oq λi hi=>by rw[Nj C x0 x2 (C.ad (by omega) (by omega)),aiH (λq=>by obtain⟨_,q1,q2⟩:=q;omega)]
  ·rw[aiH hb,aiH hb,aiH (λ(e:b=x)=>hb (by rw[e];exact hx))]
 ·intro j hj
  funext b;unfold Wd;by_cases hb:lK S j b
  ·obtain⟨b0,b1,b2⟩:=id hb
   rw[aiG hb,aiG hb];unfold vZ;exact oq λi hi=>by rw[Nj C x0 x2 (C.ad (by omega) (by omega)),aiH (λq=>hj q.1)]
  ·rw[aiH hb,aiH hb]
theorem ZI{s b at_:Int}(C:Cw S P M Q)(A:aae S P M Q k s b S' P' at_)(h8:(bx S k).ep%8=0)(hs:0<=s):∀j,Wd S' P' j=Wd S P j:=by
 obtain⟨l,rfl⟩:=A.st;intro j;funext x;unfold Wd;have hlen:(bx (iI S k ⟨l,at_+s⟩) k).ep=at_+s:=by rw[fQ]
 have hlo:=A.lo;by_cases hj:j=k
 ·subst hj
  by_cases h1:lK S j x
  ·obtain⟨x0,x1,x2⟩:=id h1
   rw[aiG h1,aiG ⟨x0,x1,by rw[hlen];omega⟩];unfold vZ;exact oq λi hi=>A.old _ _ (C.ad (by omega) (by omega))
  ·rw[aiH h1]
   by_cases h2:lK (iI S j ⟨l,at_+s⟩) j x
   ·obtain⟨x0,x1,x2⟩:=id h2
    have h3:(bx S j).ep<=x:=by unfold lK at h1;omega
    rw[aiG h2];unfold vZ;rw[oq (g:=λ_ =>0) λi hi=>A.Xf _ (by omega) (A.cw.ad (by omega) (by omega))];rfl
   ·rw[aiH h2]
 ·have e:lK (iI S k ⟨l,at_+s⟩) j x↔lK S j x:=by unfold lK;rw[rS _ _ hj]
  by_cases h1:lK S j x
  ·obtain⟨x0,x1,x2⟩:=id h1
   rw[aiG h1,aiG (e.2 h1)];unfold vZ;exact oq λi hi=>A.old _ _ (C.ad (by omega) (by omega))
  ·rw[aiH h1,aiH (λq=>h1 (e.1 q))]
theorem OU(hb:P'.bytes=P.bytes):∀j,Wd S P' j=Wd S P j:=by
 intro j;have:∀a,oV S P' j a=oV S P j a:=λa=>by unfold oV FH;rw[hb]
 funext x;unfold Wd vZ;split
 ·exact oq λi _ =>this _
 ·rfl
theorem QW(hn:200<=n)(C:Cw S P M Q)(a:uI true n S t h k){s b:Int}(ho:tj s b=true):
  ∃P0 Q0,(P0=P/\Q0=Q\/Q0=[]/\∀p,bZ P0.dV.l p↔bZ P.dV.l p\/p∈Q)/\Cw S P0 M Q0/\P0.n=P.n/\P0.bytes=P.bytes/\
  ((dX n S P M Q t h s b=some (0,6,S,P0,M,Q0,t)/\Q0=[]/\eG (bx S k) s b=false/\((S.dK.T.aY k).gF<bF (bx S k).aL+eX s\/∀v,¬Jq P0.dV.l v (eX s)))\/
  ∃S' P' at_,dX n S P M Q t h s b=some (at_,0,S',P',M,Q0,t)/\aae S P0 M Q0 k s b S' P' at_/\0<=at_/\at_<=2048):=by
 obtain⟨⟨s1,s2⟩,o3⟩:=mh.1 ho;have hb:0<=b/\b<4294967296:=by rcases o3 with rfl|rfl|rfl|rfl<;>omega
 obtain⟨P0,Q0,e1,e2,e3,e4,e5⟩:=RC hn C a (c:=uE 2 h s b 0) (s:=s) (b:=b) rfl rfl rfl rfl ho;refine⟨P0,Q0,e1,e2,e3,e4,?_⟩;rcases e5 with⟨f1,f2⟩|⟨S',P',at_,f1,f2⟩
 ·refine .inl ⟨?_,f2⟩
  unfold dX;rw[ak (CF ⟨by omega,by omega⟩ hb f1),aK];rfl
 ·have h0:=(C.may k).lo
  have h1:=f2.lo;have h2:at_+s<=2048:=by obtain⟨l,rfl⟩:=f2.st;have:=(f2.cw.may k).hi;have:=(f2.cw.may k).gx.sum;rw[fQ]at *;dsimp only at *;omega
  refine .inr ⟨S',P',at_,?_,f2,by omega,by omega⟩;unfold dX;rw[ak (CF ⟨by omega,by omega⟩ hb f1),aK,bq (x:=at_) (by omega) (by omega)]
end
end Go.Proofs.Z
namespace Go.Proofs.Z
open Go Go.Bw
structure Me(n:Nat)(S:ae)(P:aj)(M:ai)(Q:List Int)(t h:Int)(k:Nat):Prop where
 cw:Cw S P M Q
 FN:uI true n S t h k
 l8:(bx S k).ep%8=0
structure Mr(n:Nat)(S:ae)(P:aj)(M:ai)(Q:List Int)(t h:Int)(k:Nat):Prop where
 cw:Cw S P M Q
 FN:uI false n S t h k
theorem Me.mr{n:Nat}{S:ae}{P:aj}{M:ai}{Q:List Int}{t h:Int}{k:Nat}(E:Me n S P M Q t h k):Mr n S P M Q t h k:=⟨E.cw,E.FN.ag5⟩
section
variable {n:Nat} {S S':ae} {P P':aj} {M:ai} {Q Q':List Int} {t h:Int} {k:Nat}
theorem Me.set(E:Me n S P M Q t h k){x v:Int}(hn:200<=n)(h1:lK S k x)(hv:0<=v/\v<18446744073709551616):Me n S (swP S P k h x v) M Q t h k:=
 ⟨(Tl hn E.cw E.FN h1.1 h1.2.2 hv).2,E.FN,E.l8⟩
theorem Me.alloc(hn:200<=n)(E:Me n S P M Q t h k){s:Int}(ho:tj s 8=true)(hs:s%8=0):
  ∃S' P' Q',(Q=[]->Q'=[])/\P'.n=P.n/\Me n S' P' M Q' t h k/\(∀j,Wd S' P' j=Wd S P j)/\(Q=[]->bF P'.dV.l+bF (bx S' k).aL=bF P.dV.l+bF (bx S k).aL)/\
   ((dX n S P M Q t h s 8=some (0,6,S',P',M,Q',t)/\S'=S/\Q'=[]/\eG (bx S k) s 8=false/\((S.dK.T.aY k).gF<bF (bx S k).aL+eX s\/∀v,¬Jq P'.dV.l v (eX s)))\/
    ∃x l,dX n S P M Q t h s 8=some (x,0,S',P',M,Q',t)/\S'=iI S k ⟨l,x+s⟩/\(bx S k).ep<=x/\x%8=0/\0<=x/\x+s<=2048/\
     (eG (bx S k) s 8=true->x=zC (bx S k).ep 8/\l=(bx S k).aL/\(Q=[]->∀p,bZ P'.dV.l p↔bZ P.dV.l p))/\
     (eG (bx S k) s 8=false->x=32*bF (bx S k).aL/\∃v,l=(bx S k).aL++[⟨v,eX s⟩]/\(Q=[]->Jq P.dV.l v (eX s)/\(∀a,a<v->¬Jq P.dV.l a (eX s))/\∀p,bZ P'.dV.l p↔bZ P.dV.l p/\¬(v<=p/\p<v+eX s)))):=by
 obtain⟨P0,Q0,e1,e2,e3,e4,e5⟩:=QW hn E.cw E.FN ho;have hq:Q=[]->Q0=[]:=λhq=>by
  rcases e1 with⟨_,h2⟩|⟨h2,_⟩
  ·rw[h2,hq]
  ·exact h2
 have Mb:Q=[]->∀p,bZ P0.dV.l p↔bZ P.dV.l p:=λhq p=>by
  rcases e1 with⟨h1,_⟩|⟨_,h2⟩
  ·rw[h1]
  ·rw[h2,hq];simp
 rcases e5 with⟨f1,f2,f3,f4⟩|⟨S',P',x,f1,f2,f3,f4⟩
 ·exact⟨S,P0,Q0,hq,e3,⟨e2,E.FN,E.l8⟩,OU e4,λq=>by rw[K0 e2.Eh.P9 E.cw.Eh.P9 (Mb q)], .inl ⟨f1,rfl,f2,f3,f4⟩⟩
 ·obtain⟨l,hl⟩:=f2.st
  obtain⟨⟨s1,s2⟩,_⟩:=mh.1 ho;have hw:=ZI e2 f2 E.l8 (by omega);have hlen:(bx S' k).ep=x+s:=by rw[hl,fQ]
  have Md:=(f2.cw.may k).hi;have hsx:=(f2.cw.may k).gx.sum;have hal:=f2.al;refine⟨S',P',Q0,hq,f2.n.trans e3,⟨f2.cw,by rw[hl];exact E.FN.set _ _,by rw[hlen];omega⟩,λj=>(hw j).trans (OU e4 j),λq=>?_, .inr ⟨x,l,f1,hl,f2.lo,f2.al,f3,by omega,λhf=>?_,λhf=>?_⟩⟩
  ·have hfr:=K0 e2.Eh.P9 E.cw.Eh.P9 (Mb q)
   cases hf:eG (bx S k) s 8 with
   |true=>obtain⟨g1,g2,g3⟩:=f2.fit hf;rw[g2,g3,hfr]
   |false=>
    obtain⟨g1,v,g2,g3,g4,g5⟩:=f2.new hf;have Q8:=KZ g3.1;have:=IT e2.Eh.P9 f2.cw.Eh.P9 Q8 (λp=>by
     rw[g5,eY];constructor
     ·intro hp
      by_cases hr:v<=p/\p<v+eX s
      ·exact .inr hr
      ·exact .inl ⟨hp,hr⟩
     ·rintro(hp|hp)
      ·exact hp.1
      ·exact g3.2 p hp.1 hp.2) (λp hp hq=>by rw[eY]at hq;exact((g5 p).1 hp).2 hq)
    rw[wm,hfr]at this;rw[g2,oP,wm];omega
  ·obtain⟨g1,g2,g3⟩:=f2.fit hf
   rw[hl,fQ]at g2;exact⟨g1,g2,λq p=>by rw[g3];exact Mb q p⟩
  ·obtain⟨g1,v,g2,g3,g4,g5⟩:=f2.new hf
   rw[hl,fQ]at g2;have hi:Q=[]->∀a,Jq P.dV.l a (eX s)↔Jq P0.dV.l a (eX s):=λq a=>and_congr_right λ_ =>forall_congr' λp=>imp_congr_right λ_ =>imp_congr_right λ_ =>(Mb q p).symm
   exact⟨g1,v,g2,λq=>⟨(hi q v).2 g3,λa ha=>λhh=>g4 a ha ((hi q a).1 hh),λp=>by rw[g5,Mb q p]⟩⟩
end
theorem zE(S:ae)(k:Nat):iI S k (bx S k)=S:=by have h:iC S.dK.T.aY k {S.dK.T.aY k with E:=bx S k}=S.dK.T.aY:=Dn _ _;unfold iI;rw[h]
theorem QE(S:ae)(k:Nat)(E F:aD):iI (iI S k E) k F=iI S k F:=by
 have h:iC (iC S.dK.T.aY k {S.dK.T.aY k with E:=E}) k {(iC S.dK.T.aY k {S.dK.T.aY k with E:=E}) k with E:=F}=iC S.dK.T.aY k {S.dK.T.aY k with E:=F}:=by
  funext j;unfold iC;by_cases hj:j=k
  ·rw[aiG hj,aiG hj,aiG rfl]
  ·rw[aiH hj,aiH hj,aiH hj]
 unfold iI;dsimp only;rw[h]
structure Ev(S:ae)(P:aj)(Q:List Int)(S':ae)(P':aj)(Q':List Int)(k:Nat):Prop where
 st:∃E,S'=iI S k E
 oth:∀j,j≠k->Wd S' P' j=Wd S P j
 q:Q=[]->Q'=[]
 n:P'.n=P.n
 len:(bx S k).ep<=(bx S' k).ep
 pg:Q=[]->bF P'.dV.l+bF (bx S' k).aL=bF P.dV.l+bF (bx S k).aL
theorem Ev.refl(S:ae)(P:aj)(Q:List Int)(k:Nat):Ev S P Q S P Q k:=⟨⟨_,(zE S k).symm⟩,λ_ _ =>rfl,id,rfl,Int.le_refl _,λ_ =>rfl⟩
theorem Ev.trans{S S' S'':ae}{P P' P'':aj}{Q Q' Q'':List Int}{k:Nat}(a:Ev S P Q S' P' Q' k)(b:Ev S' P' Q' S'' P'' Q'' k):Ev S P Q S'' P'' Q'' k:=by obtain⟨E,hE⟩:=a.st;obtain⟨F,hF⟩:=b.st;exact⟨⟨F,by rw[hF,hE,QE]⟩,λj hj=>(b.oth j hj).trans (a.oth j hj),λh=>b.q (a.q h),b.n.trans a.n,Int.le_trans a.len b.len,λh=>(b.pg (a.q h)).trans (a.pg h)⟩
end Go.Proofs.Z
namespace Go.Proofs.Z
open Go Go.Bw
def WG(p:Int):aj:={n:=p,dV:=⟨[⟨0,p⟩]⟩,bytes:=λ_ =>λ_ =>0}
def WM:ae:={cS with mF:=iC cS.mF 0 true,Fm:=iC cS.Fm 0 true}
def JG(q:Int):ae:={WM with dK:={T:={fC:=⟨⟨iC (λ_ =>ju) 0 {ju with kD:=true}⟩⟩,aY:=iC (λ_ =>iy) 0 ⟨0,q,cB,λ_ =>0⟩},O:=⟨iC (λ_ =>pY) 0 ⟨1,⟨1,0,0⟩⟩⟩,K:=dJ}}
theorem yV(q:Int)(k:Nat):bx (JG q) k=cB:=by unfold bx JG iC;dsimp only;split<;>rfl
theorem ahl:pE cB:=⟨aaH Ia.nil,by show(0:Int)<=0;omega,by show(0:Int)<=32*bF [];simp[bF]⟩
theorem aeN{p:Int}(hp:1<=p/\p<=64):H9 (WG p):=⟨KZ ⟨hp.1,by omega,by omega⟩,hp.2,λx hx=>by
 obtain h:=eY.1 hx;dsimp only at h;show x<p;omega,λi j=>⟨by show(0:Int)<=0;omega,by show(0:Int)<=255;omega⟩⟩
theorem aas:OD bB:=λi _ =>⟨rfl,rfl⟩
theorem aid{p:Int}(hp:1<=p/\p<=64)(q:Int):Cw (JG q) (WG p) bB []:=by
 refine⟨aeN hp,λk=>by rw[yV];exact ahl,λk x hx=>?_,λk j x _ hx=>?_,λx hx=>by simp at hx,List.nodup_nil,aas,λk a h1 h2=>?_,λx x0 x1=> .inl (eY.2 ⟨x0,by show x<0+p;have:x<p:=x1;omega⟩)⟩
 ·rw[yV]at hx;exact absurd hx (kQ _)
 ·rw[yV]at hx;exact absurd hx (kQ _)
 ·rw[yV]at h1 h2
  have h1':0<=a:=h1;have h2':a<32*bF []:=h2;simp[bF]at h2';omega
set_option maxRecDepth 100000 in
theorem agi{n:Nat}(hn:300<=n){q:Int}(hq:0<=q/\q<=64):uI true n (JG q) 0 1 0:=by obtain⟨m,rfl⟩:∃m,n=m+300:=⟨n-300,by omega⟩;exact⟨by omega,by kernel_rfl,by kernel_rfl,by omega,by omega,by kernel_rfl,λe=>by kernel_rfl,λ_ e=>by kernel_rfl,hq,⟨false,by kernel_rfl⟩⟩
theorem ahj{n:Nat}(hn:300<=n){p q:Int}(hp:1<=p/\p<=64)(hq:0<=q/\q<=64):Me n (JG q) (WG p) bB [] 0 1 0:=⟨aid hp q,agi hn hq,by rw[yV];rfl⟩
theorem aii(p q:Int)(k:Nat):Wd (JG q) (WG p) k=λ_ =>0:=by funext a;unfold Wd;rw[aiH];rintro⟨h1,_,h2⟩;rw[yV]at h2;have:a+8<=0:=h2;omega
theorem ahi{p:Int}(hp:1<=p/\p<=64):B3 20000 p=some ⟨[⟨0,p⟩]⟩:=by unfold B3;rw[aiH (show¬(64<p)by omega),au (by simp;omega)];rfl
def Iy(q:Int):aC:={eF with Do:=1,A:=q}
set_option maxRecDepth 100000 in
theorem aaM{q:Int}(hq:0<=q/\q<=64):cq 20000 WM 0 (Iy q) aB=some (JG q,⟨0,0,1⟩,[]):=by
 have hm:wr .i64 (if 65<q then 65 else q)=q:=by rw[aiH (by omega),bq (by omega) (by omega)]
 have hqt:lU 20000 q=some true:=by unfold lU;simp[hq.1,hq.2]
 have hf:tw 20000 dY 0 q=some ((JG q).dK.T,1,0):=by
  have hT:nF 20000 dY 0 q=some ((JG q).dK.T,1,0):=by
   unfold nF;rw[tD (by rfl),au (by rfl),ak hqt,au (b:= !true) rfl]
   kernel_rfl
  have hd:mU 20000 dY 0=some 0:=by kernel_rfl
  unfold tw;rw[ak hT,rZ (by rfl) hd];rfl
 have hc:ia 20000 (jf WM 0 (Iy q) aB false)=some (.ok (⟨0,0,1⟩,jf (JG q) 0 (Iy q) aB false)):=by
  unfold ia;rw[aK,au (by rfl)];show bd (tw 20000 dY 0 (wr .i64 (if 65<q then 65 else q))) _ =_;rw[hm,ak hf]
  kernel_rfl
 have hd:∃i,Hg 1=some (1,i,ia):=⟨_,rfl⟩;obtain⟨i,hi⟩:=hd;have hk:bO 20000 (jf WM 0 (Iy q) aB false)=some (⟨0,0,1⟩,some (jf (JG q) 0 (Iy q) aB false)):=by unfold bO;rw[bj (by kernel_rfl),tc1 (by kernel_rfl),show Hg (jf WM 0 (Iy q) aB false).c.Do=_ from hi];exact BY hc
 unfold cq;rw[aK];show bd (bO 20000 (jf WM 0 (Iy q) aB false)) _ =_;rw[ak hk];rfl
theorem aeW{p q:Int}(hq:0<=q/\q<=64):cJ 20000 WM (WG p) bB [] 0 (Iy q)=some (⟨0,0,1⟩,JG q,WG p,bB,[],0):=by
 have UR:fY 20000 WM 0 (Iy q)=some 0:=by unfold fY;rw[ak (Ch (by show(1:Int)≠2;omega)),au (by simp),ak (aaM hq)];rfl
 refine kG ?_ (.inr rfl);rw[show(20000:Nat)=19998+1+1 from rfl]at UR ⊢;rw[T5 (by show(1:Int)≠15;omega) UR (by kernel_rfl)];have:=DL (n:=19998+1+1) (S:=WM) (P:=WG p) (M:=bB) (M':=bB) (Q:=[]) (u:=EF 0 (Iy q) [] aB 0) (fD:=[]) (x0:=ay) (b0:=false) (pl:=([],4)) (by omega) (.inl (by show(0:Int)<=0;omega)) (by kernel_rfl) (aaM hq) rfl ⟨by show(1:Int)≠3;omega,by show(1:Int)≠4;omega⟩ (by simp) (by simp) (by simp) (Pu (t:=0) (by omega) aas (by omega) (by omega));exact PE (by show(1:Int)≠15;omega) (Ch (by show(1:Int)≠2;omega)) this
theorem abP{p q s:Int}(hp:1<=p/\p<=64)(hq:q<=64)(ho:tj s 8=true)(h8:s%8=0)(h1:eX s<=p/\eX s<=q):∃S P,dX 20000 (JG q) (WG p) bB [] 0 1 s 8=some (0,0,S,P,bB,[],0)/\Me 20000 S P bB [] 0 1 0/\P.n=p/\S=iI (JG q) 0 ⟨[⟨0,eX s⟩],s⟩/\(∀j,Wd S P j=λ_ =>0)/\(∀x,bZ P.dV.l x↔eX s<=x/\x<p):=by
 obtain⟨n1,n2,n3⟩:=Cc ho;have E:=ahj (n:=20000) (by omega) hp (show 0<=q/\q<=64 by omega);have hnf:eG (bx (JG q) 0) s 8=false:=by rw[yV];obtain⟨⟨s1,s2⟩,_⟩:=mh.1 ho;unfold eG;rw[ho,Bool.true_and,decide_eq_false_iff_not];show¬(zC 0 8+s<=32*bF []);simp only[bF,List.map_nil,List.sum_nil];unfold zC;omega
 have hin:Jq (WG p).dV.l 0 (eX s):=⟨⟨by omega,by omega,by omega⟩,λx x0 x1=>eY.2 ⟨x0,by show x<0+p;omega⟩⟩;obtain⟨S',P',Q',q1,q2,E',hW,_,hc⟩:=E.alloc (s:=s) (by omega) ho h8;have hQ:Q'=[]:=q1 rfl;subst hQ;rcases hc with⟨e1,e2,e3,e4,e5⟩|⟨x,l,e1,e2,e3,e4,e5,e6,e7,e8⟩
 ·exfalso
  rcases e5 with h|h
  ·have h1:((JG q).dK.T.aY 0).gF=q:=rfl
   have h2:bF (bx (JG q) 0).aL=0:=by rw[yV];rfl
   omega
  ·refine h 0 ⟨⟨by omega,by omega,by omega⟩,λx x0 x1=>?_⟩
   rcases E'.cw.Lq x x0 (by rw[q2];show x<p;omega)with h1|h1|⟨k,h1⟩
   ·exact h1
   ·simp at h1
   ·rw[e2,yV]at h1;exact absurd h1 (kQ _)
 ·obtain⟨f1,v,f2,f3⟩:=e8 hnf
  obtain⟨g1,g2,g3⟩:=f3 rfl;have hv:v=0:=by
   have h0:=g1.1.2.1;rcases Int.lt_or_le 0 v with h1|h1
   ·exact absurd hin (g2 0 h1)
   ·omega
  subst hv;have hx:x=0:=by rw[f1,yV];rfl
  subst hx;have hl:l=[⟨0,eX s⟩]:=by rw[f2,yV];rfl
  subst hl;refine⟨S',P',e1,E',q2,by rw[e2,Int.zero_add],λj=>by rw[hW j,aii],λx=>?_⟩;rw[g3];constructor
  ·rintro⟨h1,h2⟩
   have h1':=eY.1 h1;dsimp only at h1';omega
  ·rintro⟨h1,h2⟩
   exact⟨eY.2 ⟨by show 0<=x;omega,by show x<0+p;omega⟩,by omega⟩
end Go.Proofs.Z
namespace Go.Proofs.Z
open Go Go.Bw
section
variable {n:Nat} {S S':ae} {P P':aj} {M:ai} {Q Q':List Int} {t h:Int} {k:Nat} {at_:Int}
theorem Mg(hn:200<=n)(E:Mr n S P M Q t h k){x:Int}(h1:lK S k x):cy n S P M Q t h at_ 0 x=some (Wd S P k x,S,P,M,Q,t,h,at_,0):=by unfold cy;rw[au (by rfl),ak (OL hn E.cw E.FN h1.1 h1.2.2),aK,VR h1]
theorem Pp{e:Int}(he:e≠0){x:Int}:cy n S P M Q t h at_ e x=some (0,S,P,M,Q,t,h,at_,e):=by unfold cy;rw[aS (by simpa using he)]
theorem nt(hn:200<=n)(E:Mr n S P M Q t h k){x:Int}(hr:0<=at_/\at_<=100000)(hx:0<=x/\x<=100)(h1:lK S k (at_+x)):bQ n S P M Q t h at_ 0 x=some (Wd S P k (at_+x),S,P,M,Q,t,h,at_,0):=by unfold bQ;rw[bq (by omega) (by omega),ak (Mg hn E h1)]
theorem acg{e:Int}(he:e≠0){x:Int}:bQ n S P M Q t h at_ e x=some (0,S,P,M,Q,t,h,at_,e):=by unfold bQ;rw[ak (Pp he)]
theorem Ma(hn:200<=n)(E:Me n S P M Q t h k){x v:Int}(h1:lK S k x)(hv:0<=v/\v<18446744073709551616):cK n S P M Q t h at_ 0 x v=some (S,swP S P k h x v,M,Q,t,h,at_,0):=by unfold cK;rw[aS (by rfl),ak (Tl hn E.cw E.FN h1.1 h1.2.2 hv).1,aK]
theorem Em{e:Int}(he:e≠0){x v:Int}:cK n S P M Q t h at_ e x v=some (S,P,M,Q,t,h,at_,e):=by unfold cK;rw[au (by simpa using he)]
theorem afw(hn:200<=n)(E:Me n S P M Q t h k){x v:Int}(hr:0<=at_/\at_<=100000)(hx:0<=x/\x<=100)(h1:lK S k (at_+x))(hv:0<=v/\v<18446744073709551616):bg n S P M Q t h at_ 0 x v=some (S,swP S P k h (at_+x) v,M,Q,t,h,at_,0):=by unfold bg;rw[bq (by omega) (by omega),ak (Ma hn E h1 hv)]
theorem ri{e:Int}(he:e≠0){x v:Int}:bg n S P M Q t h at_ e x v=some (S,P,M,Q,t,h,at_,e):=by unfold bg;rw[ak (Em he)]
theorem Ef{x:Int}(h0:0<=x)(h1:x<4294967296):gR n (x+1)=some x:=by unfold gR;rw[au (by simp;omega),ru (by omega) (by omega),bq (by omega) (by omega)];congr 1;omega
theorem mR{x:Int}(h0:0<=x)(h1:x<4294967296):gi n x=some (x+1):=by unfold gi;rw[ru (x:=x) (by omega) (by omega),ru (by omega) (by omega)]
end
def Rx(m:Int->Int):List Int->Int->Prop
 |[],l=>l=0
 |x::r,l=>l=x+1/\Rx m r (m x)
theorem gk{m m':Int->Int}:∀{ns:List Int} {l:Int},(∀x∈ns,m' x=m x)->Rx m ns l->Rx m' ns l
 |[],_,_,h=>h
 |x::r,l,hm,⟨h1,h2⟩=>⟨h1,by rw[hm x (by simp)];exact gk (λy hy=>hm y (by simp[hy])) h2⟩
def tS(x y:Int):Prop:=x+16<=y\/y+16<=x
theorem vR{x y:Int}(h:tS x y):tS y x:=Or.symm h
structure Lr(m:Int->Int)(L a:Int)(vs ns sp:List Int):Prop where
 hb:0<=a/\a%8=0/\a+32<=L/\L<=2048
 nb:∀x∈ns++sp,0<=x/\x%8=0/\x+16<=L/\(x+16<=a\/a+32<=x)
 cr:(ns++sp).Pairwise tS
 first:Rx m ns (m a)
 Iu:∀pre x,ns=pre++[x]->m (a+8)=x+1
 Ad:m (a+16)=ns.length
 spare:Rx m sp (m (a+24))
 val:vs=ns.map λx=>m (x+8)
theorem Lr.len{m:Int->Int}{L a:Int}{vs ns sp:List Int}(h:Lr m L a vs ns sp):vs.length=ns.length:=by rw[h.val,List.length_map]
theorem Lr.frame{m m':Int->Int}{L L' a:Int}{vs ns sp:List Int}(h:Lr m L a vs ns sp)(hL:L<=L'/\L'<=2048)(h0:∀x,x=a\/x=a+8\/x=a+16\/x=a+24->m' x=m x)(hn:∀x,x∈ns++sp->m' x=m x/\m' (x+8)=m (x+8)):Lr m' L' a vs ns sp:=by
 refine⟨⟨h.hb.1,h.hb.2.1,by have:=h.hb;omega,hL.2⟩,λx hx=>?_,h.cr,?_,λpre x e=>?_,?_,?_,?_⟩
 ·obtain⟨a1,a2,a3,a4⟩:=h.nb x hx
  exact⟨a1,a2,by omega,a4⟩
 ·rw[h0 a (.inl rfl)];exact gk (λx hx=>(hn x (by simp[hx])).1) h.first
 ·rw[h0 _ (.inr (.inl rfl))];exact h.Iu pre x e
 ·rw[h0 _ (.inr (.inr (.inl rfl)))];exact h.Ad
 ·rw[h0 _ (.inr (.inr (.inr rfl)))];exact gk (λx hx=>(hn x (by simp[hx])).1) h.spare
 ·rw[h.val]
  exact List.map_congr_left λx hx=>((hn x (by simp[hx])).2).symm
theorem Lr.Gt{m:Int->Int}{L a:Int}{vs ns sp:List Int}(h:Lr m L a vs ns sp):(ns++sp).length<=128:=by
 have hl:((ns++sp).map λx=>(x+15)/16).length<=128:=by
  refine vF 128 ?_ λp hp=>?_
  ·rw[List.Nodup,List.pairwise_map]
   exact h.cr.imp λ{x y} hxy e=>by unfold tS at hxy;omega
  ·obtain⟨x,hx,rfl⟩:=List.mem_map.1 hp
   obtain⟨a1,_,a3,_⟩:=h.nb x hx;have:=h.hb;exact⟨by omega,by show _ <(128:Int);omega⟩
 rw[List.length_map]at hl;exact hl
theorem Ny{l:List Int}(h:l.Pairwise tS){x y:Int}(hx:x∈l)(hy:y∈l):x=y\/tS x y:=by
 induction l with
 |nil=>simp at hx
 |cons z r ih=>
  obtain⟨h1,h2⟩:=List.pairwise_cons.1 h;rcases List.mem_cons.1 hx with ex|hx'<;>rcases List.mem_cons.1 hy with ey|hy'
  ·exact .inl (ex.trans ey.symm)
  ·rw[ex];exact .inr (h1 y hy')
  ·rw[ey];exact .inr (vR (h1 x hx'))
  ·exact ih h2 hx' hy'
theorem Lr.afZ{m m':Int->Int}{L a v x:Int}{vs ns sp:List Int}(h:Lr m L a vs ns sp)(hx:0<=x/\x%8=0/\x+16<=L/\(x+16<=a\/a+32<=x))(hf:∀y∈ns++sp,tS x y)
  (e0:m' x=m a)(e1:m' (x+8)=v)(e2:m' a=x+1)(e3:m' (a+8)=if ns.length=0 then x+1 else m (a+8))(e4:m' (a+16)=ns.length+1)(e5:m' (a+24)=m (a+24))(e6:∀y∈ns++sp,m' y=m y/\m' (y+8)=m (y+8)):Lr m' L a (v::vs) (x::ns) sp:=by
 refine⟨h.hb,λy hy=>?_,List.pairwise_cons.2 ⟨hf,h.cr⟩,⟨e2,?_⟩,λpre z e=>?_,?_,?_,?_⟩
 ·rcases List.mem_cons.1 hy with rfl|hy
  ·exact hx
  ·exact h.nb y hy
 ·rw[e0];exact gk (λy hy=>(e6 y (by simp[hy])).1) h.first
 ·rw[e3]
  cases pre with
  |nil=>rw[List.nil_append,List.cons.injEq]at e;rw[e.2,aiG (by simp),e.1]
  |cons w r=>rw[List.cons_append,List.cons.injEq]at e;rw[aiH (by rw[e.2];simp)];exact h.Iu r z e.2
 ·rw[e4];simp
 ·rw[e5];exact gk (λy hy=>(e6 y (by simp[hy])).1) h.spare
 ·rw[List.map_cons,e1,h.val]
  congr 1;exact List.map_congr_left λy hy=>((e6 y (by simp[hy])).2).symm
theorem My{m m':Int->Int}{y:Int}(h4:m' y=0):∀{ns:List Int} {l:Int},ns≠[]->Rx m ns l->(∀pre z,ns=pre++[z]->(∀w∈pre,m' w=m w)/\m' z=y+1)->Rx m' (ns++[y]) l
 |[],_,hn,_,_ =>absurd rfl hn
 |[x],l,_,⟨h1,_⟩,hm=>⟨h1,by obtain⟨_,h⟩:=hm [] x rfl;exact h,h4⟩
 |x::z::r,l,_,⟨h1,h2⟩,hm=>by
  refine⟨h1,?_⟩;have hx:m' x=m x:=by obtain⟨pre,w,e⟩:∃pre w,z::r=pre++[w]:=⟨(z::r).dropLast,(z::r).getLast (by simp),(List.dropLast_concat_getLast (by simp)).symm⟩;exact(hm (x::pre) w (by rw[e];rfl)).1 x (by simp)
  show Rx m' ((z::r)++[y]) (m' x);rw[hx];exact My h4 (by simp) h2 λpre w e=>by obtain⟨q1,q2⟩:=hm (x::pre) w (by rw[e];rfl);exact⟨λu hu=>q1 u (by simp[hu]),q2⟩
theorem Lr.fD{m m':Int->Int}{L a v x:Int}{vs ns sp:List Int}(h:Lr m L a vs ns sp)(hx:0<=x/\x%8=0/\x+16<=L/\(x+16<=a\/a+32<=x))(hf:∀y∈ns++sp,tS x y)
  (e0:m' x=0)(e1:m' (x+8)=v)(e2:m' (a+8)=x+1)(e3:m' a=if ns.length=0 then x+1 else m a)(e4:m' (a+16)=ns.length+1)(e5:m' (a+24)=m (a+24))(e6:∀y∈ns++sp,m' (y+8)=m (y+8))(e7:∀y∈sp,m' y=m y)(e8:∀pre z,ns=pre++[z]->(∀w∈pre,m' w=m w)/\m' z=x+1):Lr m' L a (vs++[v]) (ns++[x]) sp:=by
 have hp:((ns++[x])++sp).Perm (x::(ns++sp)):=by rw[List.append_assoc];exact List.perm_middle
 refine⟨h.hb,λy hy=>?_,(List.Perm.pairwise_iff vR hp).2 (List.pairwise_cons.2 ⟨hf,h.cr⟩),?_,λpre z e=>?_,?_,?_,?_⟩
 ·rcases List.mem_cons.1 (hp.mem_iff.1 hy)with rfl|hy
  ·exact hx
  ·exact h.nb y hy
 ·rw[e3]
  cases ns with
  |nil=>exact⟨rfl,e0⟩
  |cons z r=>rw[aiH (by simp)];exact My e0 (by simp) h.first e8
 ·have:x=z:=by
   have:=congrArg List.getLast? e;rw[List.getLast?_append,List.getLast?_append]at this;simpa using this
  rw[e2,this]
 ·rw[e4];simp
 ·rw[e5];exact gk e7 h.spare
 ·rw[List.map_append,h.val]
  congr 1
  ·exact List.map_congr_left λy hy=>(e6 y (by simp[hy])).symm
  ·simp[e1]
theorem Lr.I7{m m':Int->Int}{L a v x:Int}{vs ns sp:List Int}(h:Lr m L a (v::vs) (x::ns) sp)
  (e0:m' x=m (a+24))(e2:m' a=m x)(e3:ns≠[]->m' (a+8)=m (a+8))(e4:m' (a+16)=ns.length)(e5:m' (a+24)=x+1)(e6:∀y∈ns++sp,m' y=m y/\m' (y+8)=m (y+8)):Lr m' L a vs ns (x::sp):=by
 have hp:(ns++x::sp).Perm (x::(ns++sp)):=List.perm_middle;have hcr:=h.cr;refine⟨h.hb,λy hy=>h.nb y (hp.mem_iff.1 hy),(List.Perm.pairwise_iff vR hp).2 h.cr,?_,λpre z e=>?_,e4,⟨e5,?_⟩,?_⟩
 ·rw[e2];exact gk (λy hy=>(e6 y (by simp[hy])).1) h.first.2
 ·rw[e3 (by rw[e];simp)]
  exact h.Iu (x::pre) z (by rw[e];rfl)
 ·rw[e0];exact gk (λy hy=>(e6 y (by simp[hy])).1) h.spare
 ·have hv:=h.val
  rw[List.map_cons,List.cons.injEq]at hv;rw[hv.2];exact List.map_congr_left λy hy=>((e6 y (by simp[hy])).2).symm
end Go.Proofs.Z
namespace Go.Proofs.Z
open Go Go.Bw
section
variable {n:Nat} {S S':ae} {P P':aj} {M:ai} {Q Q':List Int} {t h:Int} {k:Nat} {a:Int}
theorem uy(hn:200<=n)(E:Me n S P M Q t h k){x v:Int}(h1:lK S k x)(hv:0<=v/\v<18446744073709551616):
  ∃P',cK n S P M Q t h a 0 x v=some (S,P',M,Q,t,h,a,0)/\Me n S P' M Q t h k/\Wd S P' k=Gb (Wd S P k) x v/\Ev S P Q S P' Q k:=by
 obtain⟨w1,w2⟩:=SR (h:=h) E.cw h1 hv;exact⟨_,Ma hn E h1 hv,E.set hn h1 hv,w1,⟨⟨_,(zE S k).symm⟩,w2,id,rfl,Int.le_refl _,λ_ =>rfl⟩⟩
theorem jO(hn:200<=n)(E:Me n S P M Q t h k){x v:Int}(hr:0<=a/\a<=100000)(hx:0<=x/\x<=100)(h1:lK S k (a+x))(hv:0<=v/\v<18446744073709551616):
  ∃P',bg n S P M Q t h a 0 x v=some (S,P',M,Q,t,h,a,0)/\Me n S P' M Q t h k/\Wd S P' k=Gb (Wd S P k) (a+x) v/\Ev S P Q S P' Q k:=by
 obtain⟨w1,w2⟩:=SR (h:=h) E.cw h1 hv;exact⟨_,afw hn E hr hx h1 hv,E.set hn h1 hv,w1,⟨⟨_,(zE S k).symm⟩,w2,id,rfl,Int.le_refl _,λ_ =>rfl⟩⟩
theorem LR(hn:200<=n)(E:Me n S P M Q t h k){vs ns sp:List Int}(R:Lr (Wd S P k) (bx S k).ep a vs ns sp):
  ∃x S' P' Q' e,iw n S P M Q t h a 0=some (x,S',P',M,Q',t,h,a,e)/\Me n S' P' M Q' t h k/\Ev S P Q S' P' Q' k/\
   ((e=6/\S'=S/\sp=[]/\Q'=[]/\Wd S' P' k=Wd S P k/\x=0/\eG (bx S k) 16 8=false/\((S.dK.T.aY k).gF<bF (bx S k).aL+1\/∀v,¬Jq P'.dV.l v 1))\/
    (e=0/\∃sp',Lr (Wd S' P' k) (bx S' k).ep a vs ns sp'/\(0<=x/\x%8=0/\x+16<=(bx S' k).ep/\(x+16<=a\/a+32<=x))/\(∀y∈ns++sp',tS x y)/\
     ((sp.length=sp'.length+1/\S'=S)\/(sp=[]/\sp'=[]/\(bx S k).ep+16<=(bx S' k).ep/\((bx S k).ep%16=0->(bx S' k).ep=(bx S k).ep+16)/\(eG (bx S k) 16 8=true->bF (bx S' k).aL=bF (bx S k).aL)/\(eG (bx S k) 16 8=false->bF (bx S' k).aL=bF (bx S k).aL+1)))/\
     ∀z,z=a\/z=a+8\/z=a+16->Wd S' P' k z=Wd S P k z)):=by
 obtain⟨b1,b2,b3,b4⟩:=R.hb;have hin:∀z,z=0\/z=8\/z=16\/z=24->lK S k (a+z):=λz hz=>⟨by omega,by omega,by omega⟩;have ho:tj 16 8=true:=rfl;cases sp with
 |nil=>
  obtain⟨S',P',Q',q1,q2,E',hW,hpg,hc⟩:=E.alloc hn ho rfl;have h0:Wd S P k (a+24)=0:=R.spare;have he:∀{x e:Int},dX n S P M Q t h 16 8=some (x,e,S',P',M,Q',t)->iw n S P M Q t h a 0=some (x,S',P',M,Q',t,h,a,e):=λ{x e} hm=>by unfold iw;rw[ak (nt hn E.mr ⟨b1,by omega⟩ (by omega) (hin 24 (by omega))),au (by rfl),h0,aS (by rfl),ak hm,aK]
  rcases hc with⟨e1,e2,e3,e4,e5⟩|⟨x,l,e1,e2,e3,e4,e5,e6,e7,e8⟩
  ·subst e2
   refine⟨0,S',P',Q',6,he e1,E',⟨⟨_,(zE S' k).symm⟩,λj _ =>hW j,q1,q2,Int.le_refl _,hpg⟩, .inl ⟨rfl,rfl,rfl,e3,hW k,rfl,e4,?_⟩⟩;rcases e5 with h|h
   ·exact .inl h
   ·exact .inr h
  ·have hlen:(bx S' k).ep=x+16:=by rw[e2,fQ]
   have aaD:(bx S' k).aL=l:=by rw[e2,fQ]
   refine⟨x,S',P',Q',0,he e1,E',⟨⟨_,e2⟩,λj _ =>hW j,q1,q2,by omega,hpg⟩, .inr ⟨rfl,[],?_,⟨e5,e4,by omega, .inr (by omega)⟩,λy hy=>?_, .inr ⟨rfl,rfl,by omega,λ_=>?_,λhf=>?_,λhf=>?_⟩,λz _ =>by rw[hW k]⟩⟩
   ·rw[hW k]
    exact R.frame ⟨by omega,by omega⟩ (λ_ _ =>rfl) (λ_ _ =>⟨rfl,rfl⟩)
   ·have:=(R.nb y hy).2.2.1
    exact .inr (by omega)
   ·have hm:=E.cw.may k
    have h1:=hm.hi;have h2:=hm.lo;cases hf:eG (bx S k) 16 8 with
    |true=>rw[hlen,(e7 hf).1];unfold zC;omega
    |false=>rw[hlen,(e8 hf).1];unfold eG at hf;rw[ho,Bool.true_and,decide_eq_false_iff_not]at hf;unfold zC at hf;omega
   ·rw[aaD,(e7 hf).2.1]
   ·obtain⟨v,hv,_⟩:=(e8 hf).2
    rw[aaD,hv,oP,wm];rfl
 |cons y sp'=>
  have hy:Wd S P k (a+24)=y+1:=R.spare.1;obtain⟨y1,y2,y3,y4⟩:=R.nb y (by simp);have hyi:lK S k (y+0):=⟨by omega,by omega,by omega⟩;have WZ:=zb E.cw k (y+0);obtain⟨P',f1,f2,f3,f4⟩:=jO (a:=a) hn E ⟨b1,by omega⟩ (x:=24) (by omega) (hin 24 (by omega)) WZ;have MY:=R.cr;have hp:(ns++y::sp').Perm (y::(ns++sp')):=List.perm_middle;have afC:=List.pairwise_cons.1 ((List.Perm.pairwise_iff vR hp).1 MY);have hnb:∀z∈ns++sp',0<=z/\z%8=0/\z+16<=(bx S k).ep/\(z+16<=a\/a+32<=z):=λz hz=>R.nb z (hp.mem_iff.2 (by simp[hz]));refine⟨y,S,P',Q,0,?_,f2,f4, .inr ⟨rfl,sp',?_,⟨y1,y2,y3,y4⟩,afC.1, .inl ⟨by simp,rfl⟩,λz hz=>by rw[f3,Fq _ _ (by omega)]⟩⟩
  ·unfold iw
   rw[ak (nt hn E.mr ⟨b1,by omega⟩ (by omega) (hin 24 (by omega))),au (by rfl),hy,au (by simp;omega),ak (Ef (by omega) (by omega)),bq (by omega) (by omega),ak (Mg hn E.mr hyi),ak f1,ak (Ef (by omega) (by omega))]
  ·have DD:∀z,z≠a+24->Wd S P' k z=Wd S P k z:=λz hz=>by rw[f3,Fq _ _ hz]
   refine⟨R.hb,hnb,afC.2,?_,λpre z e=>?_,?_,?_,?_⟩
   ·rw[DD a (by omega)]
    exact gk (λz hz=>DD z (by have:=hnb z (by simp[hz]);omega)) R.first
   ·rw[DD _ (by omega)];exact R.Iu pre z e
   ·rw[DD _ (by omega)];exact R.Ad
   ·have UE:Wd S P' k (a+24)=Wd S P k y:=by rw[f3,JY,Int.add_zero]
    rw[UE];exact gk (λz hz=>DD z (by have:=hnb z (by simp[hz]);omega)) R.spare.2
   ·rw[R.val]
    exact List.map_congr_left λz hz=>(DD _ (by have:=hnb z (by simp[hz]);omega)).symm
end
end Go.Proofs.Z
namespace Go.Proofs.Z
open Go Go.Bw
section
variable {n:Nat} {S S':ae} {P P':aj} {M:ai} {Q Q':List Int} {t h:Int} {k:Nat} {a:Int}
def Oom(S:ae)(k:Nat)(P':aj):Prop:=eG (bx S k) 16 8=false/\((S.dK.T.aY k).gF<bF (bx S k).aL+1\/∀v,¬Jq P'.dV.l v 1)
def Z9(S S':ae)(k:Nat)(ns sp ns' sp':List Int):Prop:=ns'.length=ns.length+1/\ ((sp.length=sp'.length+1/\S'=S)\/(sp=[]/\sp'=[]/\(bx S k).ep+16<=(bx S' k).ep/\((bx S k).ep%16=0->(bx S' k).ep=(bx S k).ep+16)/\(eG (bx S k) 16 8=true->bF (bx S' k).aL=bF (bx S k).aL)/\(eG (bx S k) 16 8=false->bF (bx S' k).aL=bF (bx S k).aL+1)))
theorem Rc(hn:200<=n)(E:Me n S P M Q t h k){vs ns sp:List Int}(R:Lr (Wd S P k) (bx S k).ep a vs ns sp){v:Int}(hv:0<=v/\v<18446744073709551616):
  ∃S' P' Q' e,kS n S P M Q t h a v=some (e,S',P',M,Q',t,h,a)/\Me n S' P' M Q' t h k/\Ev S P Q S' P' Q' k/\
   ((e=6/\S'=S/\sp=[]/\Q'=[]/\Wd S' P' k=Wd S P k/\Oom S k P')\/
    (e=0/\∃ns' sp',Lr (Wd S' P' k) (bx S' k).ep a (v::vs) ns' sp'/\Z9 S S' k ns sp ns' sp')):=by
 obtain⟨b1,b2,b3,b4⟩:=R.hb;have hin:∀z,z=0\/z=8\/z=16\/z=24->lK S k (a+z):=λz hz=>⟨by omega,by omega,by omega⟩;have har:0<=a/\a<=100000:=⟨b1,by omega⟩;have hm:=R.Gt;rw[List.length_append]at hm;obtain⟨x,S1,P1,Q1,e,n1,E1,V1,hc⟩:=LR hn E R;unfold kS;rw[ak (nt hn E.mr har (by omega) (hin 16 (by omega))),ak (nt hn E.mr har (by omega) (hin 0 (by omega))),ak n1];rcases hc with⟨rfl,rfl,e3,e4,e5,rfl,e6,e7⟩|⟨rfl,sp',R1,hx,hf,hs⟩
 ·have h6:(6:Int)≠0:=by omega
  rw[ak (Em h6),ak (Em h6),ak (mR (x:=0) (by omega) (by omega)),ak (ri h6),aK];refine⟨S1,P1,Q1,6,?_,E1,V1, .inl ⟨rfl,rfl,e3,e4,e5,e6,e7⟩⟩;by_cases c:(Wd S1 P k (a+16)==0)=true
  ·rw[aS c]
   dsimp only;rw[ak (mR (x:=0) (by omega) (by omega)),ak (ri h6)];dsimp only;rw[ak (ri h6)]
  ·rw[au (by simpa using c)]
   dsimp only;rw[ak (ri h6)]
 ·replace hs:((sp.length=sp'.length+1/\S1=S)\/(sp=[]/\sp'=[]/\(bx S k).ep+16<=(bx S1 k).ep/\((bx S k).ep%16=0->(bx S1 k).ep=(bx S k).ep+16)/\(eG (bx S k) 16 8=true->bF (bx S1 k).aL=bF (bx S k).aL)/\(eG (bx S k) 16 8=false->bF (bx S1 k).aL=bF (bx S k).aL+1)))/\∀z,z=a\/z=a+8\/z=a+16->Wd S1 P1 k z=Wd S P k z:=hs
  obtain⟨x0,x1,x2,x3⟩:=hx;have hL1:=R1.hb.2.2.2;have N0:∀z,z=0\/z=8\/z=16\/z=24->lK S1 k (a+z):=λz hz=>⟨by omega,by omega,by have:=V1.len;omega⟩;have hw0:=zb E.cw k (a+0);have xH:Wd S P k (a+16)=ns.length:=R.Ad;obtain⟨P2,f2,E2,W2,V2⟩:=uy (a:=a) hn E1 (x:=x+0) (v:=Wd S P k (a+0)) ⟨by omega,by omega,by omega⟩ hw0;obtain⟨P3,f3,E3,W3,V3⟩:=uy (a:=a) hn E2 (x:=x+8) (v:=v) ⟨by omega,by omega,by omega⟩ hv;obtain⟨P4,f4,E4,W4,V4⟩:=jO (a:=a) hn E3 har (x:=0) (v:=x+1) (by omega) (N0 0 (by omega)) (by omega);rw[bq (x:=x+0) (by omega) (by omega),bq (x:=x+8) (by omega) (by omega),ak f2,ak f3,ak (mR (by omega) (by omega)),ak f4,aK];have hnb:=R1.nb;have hold:∀z,z=a\/z=a+8\/z=a+16->Wd S1 P1 k z=Wd S P k z:=hs.2;have fin:∀{P5:aj},Me n S1 P5 M Q1 t h k->Ev S1 P1 Q1 S1 P5 Q1 k->Wd S1 P5 k=(if ns.length=0 then Gb (Wd S1 P4 k) (a+8) (x+1)else Wd S1 P4 k)->
    ∃S' P' Q' e,(bd (bg n S1 P5 M Q1 t h a 0 16 (wr .u64 ((ns.length:Int)+1))) λdL=>some (dL.2.2.2.2.2.2.2,dL.1,dL.2.1,dL.2.2.1,dL.2.2.2.1,dL.2.2.2.2.1,h,a))=some (e,S',P',M,Q',t,h,a)/\Me n S' P' M Q' t h k/\Ev S P Q S' P' Q' k/\
     ((e=6/\S'=S/\sp=[]/\Q'=[]/\Wd S' P' k=Wd S P k/\Oom S k P')\/
      (e=0/\∃ns' sp',Lr (Wd S' P' k) (bx S' k).ep a (v::vs) ns' sp'/\Z9 S S' k ns sp ns' sp')):=by
   intro P5 E5 V5 W5;obtain⟨P6,f6,E6,W6,V6⟩:=jO (a:=a) hn E5 har (x:=16) (v:=(ns.length:Int)+1) (by omega) (N0 16 (by omega)) (by omega);rw[ru (by omega) (by omega),ak f6];refine⟨S1,P6,Q1,0,rfl,E6,V1.trans (V5.trans V6), .inr ⟨rfl,x::ns,sp',?_,by simp,hs.1⟩⟩;have hW:∀z,Wd S1 P6 k z=if z=a+16 then(ns.length:Int)+1 else if ns.length=0/\z=a+8 then x+1 else if z=a then x+1 else if z=x+8 then v else if z=x then Wd S1 P1 k a else Wd S1 P1 k z:=by
    intro z;rw[W6,W5,W4,W3,W2,Int.add_zero,Int.add_zero,hold a (by omega)];unfold Gb;by_cases c:ns.length=0
    ·rw[aiG c];simp only[c,true_and]
    ·rw[aiH c];simp only[c,false_and,if_false]
   refine R1.afZ ⟨x0,x1,x2,x3⟩ hf ?_ ?_ ?_ ?_ ?_ ?_ λy hy=>?_
   ·rw[hW,aiH (by omega),aiH (by omega),aiH (by omega),aiH (by omega),aiG rfl]
   ·rw[hW,aiH (by omega),aiH (by omega),aiH (by omega),aiG rfl]
   ·rw[hW,aiH (by omega),aiH (by omega),aiG rfl]
   ·rw[hW,aiH (by omega)]
    by_cases c:ns.length=0
    ·rw[aiG ⟨c,rfl⟩,aiG c]
    ·rw[aiH (λq=>c q.1),aiH c,aiH (by omega),aiH (by omega),aiH (by omega)]
   ·rw[hW,aiG rfl]
   ·rw[hW,aiH (by omega),aiH (by omega),aiH (by omega),aiH (by omega),aiH (by omega)]
   ·have q1:=R1.nb y hy
    have q2:=hf y hy;unfold tS at q2;constructor<;>rw[hW,aiH (by omega),aiH (by omega),aiH (by omega),aiH (by omega),aiH (by omega)]
  by_cases c:ns.length=0
  ·rw[aS (by rw[xH,c];rfl)]
   dsimp only;obtain⟨P5,f5,E5,W5,V5⟩:=jO (a:=a) hn E4 har (x:=8) (v:=x+1) (by omega) (N0 8 (by omega)) (by omega);rw[ak (mR (by omega) (by omega)),ak f5];dsimp only;rw[xH];exact fin E5 (V2.trans (V3.trans (V4.trans V5))) (by rw[W5,aiG c])
  ·rw[au (by rw[xH];exact beq_eq_false_iff_ne.2 (by omega))]
   dsimp only;rw[xH];exact fin E4 (V2.trans (V3.trans V4)) (by rw[aiH c])
theorem SQ(n:Nat)(x:Int):∃y,gR n x=some y:=by
 unfold gR;cases((x==0)||decide (4294967296<x))with
 |true=>exact⟨_,rfl⟩
 |false=>exact⟨_,rfl⟩
theorem XE{ns:List Int}(h:ns.length≠0):∃pre z,ns=pre++[z]:=⟨ns.dropLast,ns.getLast (by intro e;rw[e]at h;exact h rfl),(List.dropLast_concat_getLast _).symm⟩
theorem VB(hn:200<=n)(E:Me n S P M Q t h k){vs ns sp:List Int}(R:Lr (Wd S P k) (bx S k).ep a vs ns sp){v:Int}(hv:0<=v/\v<18446744073709551616):
  ∃S' P' Q' e,jN n S P M Q t h a v=some (e,S',P',M,Q',t,h,a)/\Me n S' P' M Q' t h k/\Ev S P Q S' P' Q' k/\
   ((e=6/\S'=S/\sp=[]/\Q'=[]/\Wd S' P' k=Wd S P k/\Oom S k P')\/
    (e=0/\∃ns' sp',Lr (Wd S' P' k) (bx S' k).ep a (vs++[v]) ns' sp'/\Z9 S S' k ns sp ns' sp')):=by
 obtain⟨b1,b2,b3,b4⟩:=R.hb;have hin:∀z,z=0\/z=8\/z=16\/z=24->lK S k (a+z):=λz hz=>⟨by omega,by omega,by omega⟩;have har:0<=a/\a<=100000:=⟨b1,by omega⟩;have hm:=R.Gt;rw[List.length_append]at hm;obtain⟨x,S1,P1,Q1,e,n1,E1,V1,hc⟩:=LR hn E R;unfold jN;rw[ak (nt hn E.mr har (by omega) (hin 16 (by omega))),ak (nt hn E.mr har (by omega) (hin 8 (by omega))),ak n1];rcases hc with⟨rfl,rfl,e3,e4,e5,rfl,e6,e7⟩|⟨rfl,sp',R1,hx,hf,hs,hold⟩
 ·have h6:(6:Int)≠0:=by omega
  rw[ak (Em h6),ak (Em h6),aK];refine⟨S1,P1,Q1,6,?_,E1,V1, .inl ⟨rfl,rfl,e3,e4,e5,e6,e7⟩⟩;by_cases c:(Wd S1 P k (a+16)==0)=true
  ·rw[aS c]
   dsimp only;rw[ak (mR (x:=0) (by omega) (by omega)),ak (ri h6)];dsimp only;rw[ak (mR (x:=0) (by omega) (by omega)),ak (ri h6),ak (ri h6)]
  ·rw[au (by simpa using c)]
   dsimp only;obtain⟨y,hy⟩:=SQ n (Wd S1 P k (a+8));rw[ak hy,ak (mR (x:=0) (by omega) (by omega)),ak (Em h6)];dsimp only;rw[ak (mR (x:=0) (by omega) (by omega)),ak (ri h6),ak (ri h6)]
 ·obtain⟨x0,x1,x2,x3⟩:=hx
  have hL1:=R1.hb.2.2.2;have N0:∀z,z=0\/z=8\/z=16\/z=24->lK S1 k (a+z):=λz hz=>⟨by omega,by omega,by have:=V1.len;omega⟩;have xH:Wd S P k (a+16)=ns.length:=R.Ad;obtain⟨P2,f2,E2,W2,V2⟩:=uy (a:=a) hn E1 (x:=x+0) (v:=0) ⟨by omega,by omega,by omega⟩ (by omega);obtain⟨P3,f3,E3,W3,V3⟩:=uy (a:=a) hn E2 (x:=x+8) (v:=v) ⟨by omega,by omega,by omega⟩ hv;rw[bq (x:=x+0) (by omega) (by omega),bq (x:=x+8) (by omega) (by omega),ak f2,ak f3,aK];have fin:∀{P5:aj} {b w:Int},(ns.length=0/\b=a/\w=x+1\/(∃pre,ns=pre++[b]/\w=x+1))->Me n S1 P5 M Q1 t h k->Ev S1 P1 Q1 S1 P5 Q1 k->Wd S1 P5 k=Gb (Wd S1 P3 k) b w->
    ∃S' P' Q' e,(bd (gi n x) λfV=>bd (bg n S1 P5 M Q1 t h a 0 8 fV) λjS=>bd (bg n jS.1 jS.2.1 jS.2.2.1 jS.2.2.2.1 jS.2.2.2.2.1 jS.2.2.2.2.2.1 jS.2.2.2.2.2.2.1 jS.2.2.2.2.2.2.2 16 (wr .u64 ((ns.length:Int)+1))) λdL=>some (dL.2.2.2.2.2.2.2,dL.1,dL.2.1,dL.2.2.1,dL.2.2.2.1,dL.2.2.2.2.1,h,a))=some (e,S',P',M,Q',t,h,a)/\Me n S' P' M Q' t h k/\Ev S P Q S' P' Q' k/\
     ((e=6/\S'=S/\sp=[]/\Q'=[]/\Wd S' P' k=Wd S P k/\Oom S k P')\/
      (e=0/\∃ns' sp',Lr (Wd S' P' k) (bx S' k).ep a (vs++[v]) ns' sp'/\Z9 S S' k ns sp ns' sp')):=by
   intro P5 b w hb E5 V5 W5;obtain⟨P6,f6,E6,W6,V6⟩:=jO (a:=a) hn E5 har (x:=8) (v:=x+1) (by omega) (N0 8 (by omega)) (by omega);obtain⟨P7,f7,E7,W7,V7⟩:=jO (a:=a) hn E6 har (x:=16) (v:=(ns.length:Int)+1) (by omega) (N0 16 (by omega)) (by omega);rw[ak (mR (by omega) (by omega)),ak f6,ru (by omega) (by omega),ak f7];refine⟨S1,P7,Q1,0,rfl,E7,V1.trans (V5.trans (V6.trans V7)), .inr ⟨rfl,ns++[x],sp',?_,by simp,hs⟩⟩;have hW:∀z,Wd S1 P7 k z=if z=a+16 then(ns.length:Int)+1 else if z=a+8 then x+1 else if z=b then w else if z=x+8 then v else if z=x then 0 else Wd S1 P1 k z:=by intro z;rw[W7,W6,W5,W3,W2,Int.add_zero];rfl
   have hbn:(ns.length=0/\b=a)\/(ns.length≠0/\b∈ns++sp'):=by
    rcases hb with⟨c1,c2,_⟩|⟨pre,c1,_⟩
    ·exact .inl ⟨c1,c2⟩
    ·exact .inr ⟨by rw[c1];simp,by rw[c1];simp⟩
   have hbx:b=a\/(b≠a/\b≠a+8/\b≠a+16/\b≠a+24/\b≠x/\b≠x+8):=by
    rcases hbn with⟨_,c2⟩|⟨_,c2⟩
    ·exact .inl c2
    ·have q1:=R1.nb b c2
     have q2:=hf b c2;unfold tS at q2;exact .inr ⟨by omega,by omega,by omega,by omega,by omega,by omega⟩
   have hw:w=x+1:=by rcases hb with⟨_,_,c⟩|⟨_,_,c⟩<;>exact c
   have hne:∀y∈ns++sp',∀z,(z=y/\y≠b)\/z=y+8->Wd S1 P7 k z=Wd S1 P1 k z:=λy hy z hz=>by
    have q1:=R1.nb y hy;have q2:=hf y hy;unfold tS at q2;have q3:y+8≠b:=by
     rcases hbn with⟨_,c2⟩|⟨_,c2⟩
     ·omega
     ·rcases Ny R1.cr hy c2 with c|c
      ·omega
      ·unfold tS at c;omega
    rw[hW,aiH (by omega),aiH (by omega),aiH (by omega),aiH (by omega),aiH (by omega)]
   refine R1.fD ⟨x0,x1,x2,x3⟩ hf ?_ ?_ ?_ ?_ ?_ ?_ (λy hy=>hne y hy _ (.inr rfl)) (λy hy=>hne y (by simp[hy]) _ (.inl ⟨rfl,?_⟩)) λpre z e=>⟨λy hy=>hne y (by rw[e];simp[hy]) _ (.inl ⟨rfl,?_⟩),?_⟩
   ·rw[hW,aiH (by omega),aiH (by omega),aiH (by omega),aiH (by omega),aiG rfl]
   ·rw[hW,aiH (by omega),aiH (by omega),aiH (by omega),aiG rfl]
   ·rw[hW,aiH (by omega),aiG rfl]
   ·by_cases c:ns.length=0
    ·rw[hW,aiH (by omega),aiH (by omega),aiG (by rcases hbn with⟨_,c2⟩|⟨c1,_⟩<;>omega),aiG c,hw]
    ·have q:a≠b:=by
      rcases hbn with⟨c1,_⟩|⟨_,c2⟩
      ·exact absurd c1 c
      ·have:=R1.nb b c2;omega
     rw[hW,aiH (by omega),aiH (by omega),aiH q,aiH (by omega),aiH (by omega),aiH c]
   ·rw[hW,aiG rfl]
   ·rw[hW,aiH (by omega),aiH (by omega),aiH (by omega),aiH (by omega),aiH (by omega)]
   ·intro e
    subst e;rcases hb with⟨_,c2,_⟩|⟨pre,c1,_⟩
    ·have:=R1.nb y (by simp[hy]);omega
    ·have h1:=(List.pairwise_append.1 R1.cr).2.2 y (by rw[c1];simp) y hy
     unfold tS at h1;omega
   ·intro e'
    subst e';rcases hb with⟨c1,_,_⟩|⟨pre',c1,_⟩
    ·rw[e]at c1;simp at c1
    ·have h1:=(List.pairwise_append.1 R1.cr).1
     have hz:y=z:=by have:=congrArg List.getLast? (c1.symm.trans e);rw[List.getLast?_append,List.getLast?_append]at this;simpa using this
     subst hz;rw[e]at h1;have h2:=(List.pairwise_append.1 h1).2.2 y hy y (by simp);unfold tS at h2;omega
   ·have q:z=b:=by
     rcases hb with⟨c1,_,_⟩|⟨pre',c1,_⟩
     ·rw[e]at c1;simp at c1
     ·have:=congrArg List.getLast? (e.symm.trans c1)
      rw[List.getLast?_append,List.getLast?_append]at this;simpa using this
    have q1:=R1.nb z (by rw[e];simp);rw[hW,aiH (by omega),aiH (by omega),aiG q,hw]
  by_cases c:ns.length=0
  ·rw[aS (by rw[xH,c];rfl)]
   dsimp only;obtain⟨P5,f5,E5,W5,V5⟩:=jO (a:=a) hn E3 har (x:=0) (v:=x+1) (by omega) (N0 0 (by omega)) (by omega);rw[ak (mR (by omega) (by omega)),ak f5];dsimp only;rw[xH];exact fin (.inl ⟨c,rfl,rfl⟩) E5 (V2.trans (V3.trans V5)) (by rw[W5,Int.add_zero])
  ·obtain⟨pre,z,hz⟩:=XE c
   have hl:Wd S P k (a+8)=z+1:=R.Iu pre z hz;have q1:=R1.nb z (by rw[hz];simp);rw[au (by rw[xH];exact beq_eq_false_iff_ne.2 (by omega))];dsimp only;obtain⟨P5,f5,E5,W5,V5⟩:=uy (a:=a) hn E3 (x:=z+0) (v:=x+1) ⟨by omega,by omega,by omega⟩ (by omega);rw[hl,ak (Ef (by omega) (by omega)),ak (mR (by omega) (by omega)),bq (x:=z+0) (by omega) (by omega),ak f5];dsimp only;rw[xH];exact fin (b:=z) (.inr ⟨pre,hz,rfl⟩) E5 (V2.trans (V3.trans V5)) (by rw[W5,Int.add_zero])
end
end Go.Proofs.Z
namespace Go.Proofs.Z
open Go Go.Bw
section
variable {n:Nat} {S S':ae} {P P':aj} {M:ai} {Q Q':List Int} {t h:Int} {k:Nat} {a:Int}
theorem abE(hn:200<=n)(E:Me n S P M Q t h k){sp:List Int}(R:Lr (Wd S P k) (bx S k).ep a [] [] sp):jo n S P M Q t h a=some (0,10,S,P,M,Q,t,h,a):=by
 obtain⟨b1,b2,b3,b4⟩:=R.hb;have hin:∀z,z=0\/z=8\/z=16\/z=24->lK S k (a+z):=λz hz=>⟨by omega,by omega,by omega⟩;have har:0<=a/\a<=100000:=⟨b1,by omega⟩;have h10:(10:Int)≠0:=by omega
 have xH:Wd S P k (a+16)=0:=R.Ad;unfold jo;rw[ak (nt hn E.mr har (by omega) (hin 16 (by omega))),ak (nt hn E.mr har (by omega) (hin 0 (by omega))),ak (nt hn E.mr har (by omega) (hin 24 (by omega))),aK,xH,aS (by rfl)];dsimp only;obtain⟨y,hy⟩:=SQ n (Wd S P k (a+0));rw[ak hy,ak (Pp h10),ak (Pp h10),aK,ak (Em h10),ak (ri h10),ak (ri h10),aK,au (by rfl)];dsimp only;rw[ak (ri h10),aK,aS (by rfl)];rfl
theorem X4(hn:200<=n)(E:Me n S P M Q t h k){v:Int}{vs ns sp:List Int}(R:Lr (Wd S P k) (bx S k).ep a (v::vs) ns sp):
  ∃P' ns' sp',jo n S P M Q t h a=some (v,0,S,P',M,Q,t,h,a)/\Me n S P' M Q t h k/\Ev S P Q S P' Q k/\Lr (Wd S P' k) (bx S k).ep a vs ns' sp'/\ns.length=ns'.length+1/\sp'.length=sp.length+1:=by
 obtain⟨b1,b2,b3,b4⟩:=R.hb;have hin:∀z,z=0\/z=8\/z=16\/z=24->lK S k (a+z):=λz hz=>⟨by omega,by omega,by omega⟩;have har:0<=a/\a<=100000:=⟨b1,by omega⟩;have hm:=R.Gt;rw[List.length_append]at hm;obtain⟨x,r,rfl⟩:∃x r,ns=x::r:=by
  cases ns with
  |nil=>have:=R.val;simp at this
  |cons x r=>exact⟨x,r,rfl⟩
 obtain⟨x0,x1,x2,x3⟩:=R.nb x (by simp);have xH:Wd S P k (a+16)=(r.length:Int)+1:=by rw[R.Ad];simp
 have KI:Wd S P k (a+0)=x+1:=by rw[Int.add_zero];exact R.first.1
 have hv:v=Wd S P k (x+8):=by have:=R.val;rw[List.map_cons,List.cons.injEq]at this;exact this.1
 have hx0:lK S k (x+0):=⟨by omega,by omega,by omega⟩;have hx8:lK S k (x+8):=⟨by omega,by omega,by omega⟩;rw[List.length_cons]at hm;obtain⟨P2,f2,E2,W2,V2⟩:=uy (a:=a) hn E hx0 (zb E.cw k (a+24));obtain⟨P3,f3,E3,W3,V3⟩:=jO (a:=a) hn E2 har (x:=24) (v:=x+1) (by omega) (hin 24 (by omega)) (by omega);obtain⟨P4,f4,E4,W4,V4⟩:=jO (a:=a) hn E3 har (x:=0) (v:=Wd S P k (x+0)) (by omega) (hin 0 (by omega)) (zb E.cw k (x+0));unfold jo;rw[ak (nt hn E.mr har (by omega) (hin 16 (by omega))),ak (nt hn E.mr har (by omega) (hin 0 (by omega))),ak (nt hn E.mr har (by omega) (hin 24 (by omega))),aK,xH,KI,au (by simp;omega)];dsimp only;rw[ak (Ef (by omega) (by omega)),bq (x:=x+0) (by omega) (by omega),bq (x:=x+8) (by omega) (by omega),ak (Mg hn E.mr hx0),ak (Mg hn E.mr hx8),aK,ak f2,ak f3,ak f4,aK];have fin:∀{P5:aj},Me n S P5 M Q t h k->Ev S P Q S P5 Q k->Wd S P5 k=(if r.length=0 then Gb (Wd S P4 k) (a+8) 0 else Wd S P4 k)->
   ∃P' ns' sp',(bd (bg n S P5 M Q t h a 0 16 (wr .u64 ((r.length:Int)+1-1))) λqX=>lt (λ(tU:Int)=>lt (tU:Int) λJO=>some (JO,qX.2.2.2.2.2.2.2,qX.1,qX.2.1,qX.2.2.1,qX.2.2.2.1,qX.2.2.2.2.1,h,a)) λUu=>cn ((qX.2.2.2.2.2.2.2!=0)) (Uu 0) (Uu (Wd S P k (x+8))))=some (v,0,S,P',M,Q,t,h,a)/\Me n S P' M Q t h k/\Ev S P Q S P' Q k/\Lr (Wd S P' k) (bx S k).ep a vs ns' sp'/\(x::r).length=ns'.length+1/\sp'.length=sp.length+1:=by
  intro P5 E5 V5 W5;obtain⟨P6,f6,E6,W6,V6⟩:=jO (a:=a) hn E5 har (x:=16) (v:=(r.length:Int)+1-1) (by omega) (hin 16 (by omega)) (by omega);rw[ru (by omega) (by omega),ak f6,aK,au (by rfl)];dsimp only;rw[aK, ← hv];refine⟨P6,r,x::sp,rfl,E6,V5.trans V6,?_,by simp,by simp⟩;have hW:∀z,Wd S P6 k z=if z=a+16 then(r.length:Int)+1-1 else if r.length=0/\z=a+8 then 0 else if z=a then Wd S P k x else if z=a+24 then x+1 else if z=x then Wd S P k (a+24)else Wd S P k z:=by
   intro z;rw[W6,W5,W4,W3,W2,Int.add_zero,Int.add_zero];unfold Gb;by_cases c:r.length=0
   ·rw[aiG c];simp only[c,true_and]
   ·rw[aiH c];simp only[c,false_and,if_false]
  refine R.I7 ?_ ?_ (λhr=>?_) ?_ ?_ λy hy=>?_
  ·rw[hW,aiH (by omega),aiH (by omega),aiH (by omega),aiH (by omega),aiG rfl]
  ·rw[hW,aiH (by omega),aiH (by omega),aiG rfl]
  ·have:r.length≠0:=λq=>hr (List.length_eq_zero_iff.1 q)
   rw[hW,aiH (by omega),aiH (λq=>this q.1),aiH (by omega),aiH (by omega),aiH (by omega)]
  ·rw[hW,aiG rfl];omega
  ·rw[hW,aiH (by omega),aiH (by omega),aiH (by omega),aiG rfl]
  ·have q1:=R.nb y (by simp at hy ⊢;exact .inr hy)
   have q2:=(List.pairwise_cons.1 R.cr).1 y hy;unfold tS at q2;constructor<;>rw[hW,aiH (by omega),aiH (by omega),aiH (by omega),aiH (by omega),aiH (by omega)]
 by_cases c:r.length=0
 ·obtain⟨P5,f5,E5,W5,V5⟩:=jO (a:=a) hn E4 har (x:=8) (v:=0) (by omega) (hin 8 (by omega)) (by omega)
  rw[aS (by rw[c];rfl),ak f5];dsimp only;exact fin E5 (V2.trans (V3.trans (V4.trans V5))) (by rw[W5,aiG c])
 ·rw[au (by exact beq_eq_false_iff_ne.2 (by omega))]
  dsimp only;exact fin E4 (V2.trans (V3.trans V4)) (by rw[aiH c])
theorem Yx(hn:200<=n)(E:Mr n S P M Q t h k){vs ns sp:List Int}(R:Lr (Wd S P k) (bx S k).ep a vs ns sp):qe n S P M Q t h a=some ((vs.length:Int),0,S,P,M,Q,t,h,a):=by obtain⟨b1,b2,b3,b4⟩:=R.hb;have hm:=R.Gt;rw[List.length_append]at hm;unfold qe;rw[ak (nt hn E ⟨b1,by omega⟩ (by omega) ⟨by omega,by omega,by omega⟩),aK,aK,R.Ad,bq (by omega) (by omega),R.len]
theorem ZH(hn:200<=n)(E:Mr n S P M Q t h k){vs ns sp:List Int}(R:Lr (Wd S P k) (bx S k).ep a vs ns sp):qf n S P M Q t h a=some (vs,0,S,P,M,Q,t,h,a):=by
 obtain⟨b1,b2,b3,b4⟩:=R.hb;have hin:∀z,z=0\/z=8\/z=16\/z=24->lK S k (a+z):=λz hz=>⟨by omega,by omega,by omega⟩;have har:0<=a/\a<=100000:=⟨b1,by omega⟩;have hm:=R.Gt;rw[List.length_append]at hm;unfold qf;rw[ak (nt hn E har (by omega) (hin 16 (by omega))),ak (nt hn E har (by omega) (hin 0 (by omega))),aK,R.Ad,Int.add_zero,au (by simp;omega)];dsimp only;refine wD (λ(i:Int) (f:Int) s p m q t' h' a' e out=>∃(d:List Int) (r:List Int),ns=d++r/\i=(d.length:Int)/\Rx (Wd S P k) r f/\s=S/\p=P/\m=M/\q=Q/\t'=t/\h'=h/\a'=a/\e=0/\out=d.map λx=>Wd S P k (x+8)) (λi _ _ _ _ _ _ _ _ _ _ =>((ns.length:Int)-i).toNat) (λo=>o=some (vs,0,S,P,M,Q,t,h,a)) ?_ n 0 _ _ _ _ _ _ _ _ _ _ ⟨[],ns,rfl,rfl,R.first,rfl,rfl,rfl,rfl,rfl,rfl,rfl,rfl,rfl⟩ (by omega);rintro kk i f s p m q t' h' a' e out ⟨d,r,hd,rfl,hf,rfl,rfl,rfl,rfl,rfl,rfl,rfl,rfl,rfl⟩ ih;have hlen:ns.length=d.length+r.length:=by rw[hd,List.length_append]
 cases r with
 |nil=>rw[au (by rw[hlen];simp),au (by rfl),R.val,hd,List.append_nil]
 |cons x r=>rw[List.length_cons]at hlen;obtain⟨rfl,hf2⟩:=hf;obtain⟨x0,x1,x2,x3⟩:=R.nb x (by rw[hd];simp);rw[aS (by simp;omega),aK,au (by simp;omega)];dsimp only;rw[rZ (by rfl) (Ef (by omega) (by omega)),au (by rfl),bq (x:=x+8) (by omega) (by omega),ak (Mg hn E ⟨by omega,by omega,by omega⟩),bj (jt (by simp;omega) (by simp;omega)),aK,ak (Ef (by omega) (by omega)),bq (x:=x+0) (by omega) (by omega),ak (Mg hn E ⟨by omega,by omega,by omega⟩),ru (by omega) (by omega)];refine ih _ _ _ _ _ _ _ _ _ _ _ ⟨d++[x],r,by rw[hd];simp,by simp,?_,rfl,rfl,rfl,rfl,rfl,rfl,rfl,rfl,by simp⟩ (by omega);dsimp only;rw[Int.add_zero];exact hf2
end
end Go.Proofs.Z
