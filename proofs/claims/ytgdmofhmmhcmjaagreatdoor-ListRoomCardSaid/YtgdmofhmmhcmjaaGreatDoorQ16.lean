/- Part 16 of what a proof leans on; pruned and shortened by a program out of longer texts. -/
import Derived.Test.YtgdmofhmmhcmjaaGreatDoorQ15
namespace Go.Proofs.Z
open Go Go.Bw
def yI(l:List Rn):List Int:=l.flatMap EY
theorem Ua(y:Rn):(EY y).length=y.N.toNat:=by simp[EY]
theorem LV:∀{l:List Rn},(∀y∈l,IA y.At y.N)->(yI l).length<=64*l.length
 |[],_ =>by simp[yI]
 |y::r,h=>by have:=LV (l:=r) λz hz=>h z (by simp[hz]);obtain⟨h1,h2,h3⟩:=h y (by simp);unfold yI at this ⊢;rw[List.flatMap_cons,List.length_append,Ua,List.length_cons];omega
section
variable {n:Nat} {S S':ae} {P P':aj} {M M':ai} {Q:List Int} {t:Int} {c:aC} {u:aF} {r:ah}
theorem Kc(hn:110<=n){fF:List Rn}(hb:∀y∈fF,IA y.At y.N)(hq:Q.length+64*fF.length<=10000)(hbl:fF.length<n)(hg:da n M u.jU=some M'){ρ:Type}(F:ae×aj×ai×(List Int)×aF×ah×Bool->Option ρ)(x0:ah)(b0:Bool):
  xw (λk51 (vj:Int) (Fw:ae) (zY:aj) (qW:ai) (ua:(List Int))=>cn (decide (vj<(fF.length:Int))) (gu (dg vj fF.length)<|lt ((fF.getD (Int.toNat vj) default):av) λJU=>bd (fg n Fw zY qW ua JU) λym=>k51 (wr .i64 (vj+1)) ym.1 ym.2.1 ym.2.2.1 ym.2.2.2) (bd (eU n Fw zY qW ua ({u with ya:=aB}:aF) x0 b0 r) F)) n 0 S P M Q=F (S,P,M',Q++yI fF,{u with ya:=aB},r,true):=by
 refine Jq (λ(i:Int) s p m q=>∃j:Nat,i=(j:Int)/\j<=fF.length/\s=S/\p=P/\m=M/\q=Q++yI (fF.take j)) (λi _ _ _ _ =>((fF.length:Int)-i).toNat) (λo=>o=F (S,P,M',Q++yI fF,{u with ya:=aB},r,true)) ?_ n 0 S P M Q ⟨0,rfl,by omega,rfl,rfl,rfl,by simp[yI]⟩ (by omega);rintro kk i s p m q ⟨j,rfl,hj,rfl,rfl,rfl,rfl⟩ ih;by_cases hc:j<fF.length
 ·have hgd:fF.getD (Int.toNat (j:Int)) default=fF[j]:=by rw[aiV,List.getD,aiZ hc];rfl
  have hlen:=LV (l:=fF.take j) λy hy=>hb y (List.mem_of_mem_take hy);rw[List.length_take]at hlen;rw[aU (by simpa using hc),bH (gU (by omega) (by omega)),aP,hgd,ak (TM hn _ _ _ _ (by rw[List.length_append];omega) (hb _ (List.getElem_mem hc))),br (by omega) (by omega)];refine ih _ _ _ _ _ ⟨j+1,by omega,by omega,rfl,rfl,rfl,?_⟩ (by omega);unfold yI;rw[ai0 hc,List.flatMap_append,List.append_assoc];simp
 ·obtain rfl:j=fF.length:=by omega
  rw[au (by simp),List.take_length,ak (Oo (c:={u with ya:=aB}) (by omega) _ _ _ _ _ _ _ (by show(0:Int)<=0;omega) hg)]
theorem DW(hn:110<=n)(hr:u.ya.N<=0\/(0<u.ya.N/\bJ n S u.jU u.C=some u.ya.N)){pl}(hp:cv n S u.C=some pl){fF:List Rn}(hd:cq n S u.jU u.C u.ya=some (S',r,fF))(hE:r.E=0)(h34:u.C.Do≠3/\u.C.Do≠4)(hb:∀y∈fF,IA y.At y.N)(hq:Q.length+64*fF.length<=10000)(hbl:fF.length<n)(hg:da n M u.jU=some M'){x0:ah}{b0:Bool}:
  cu n S P M Q u x0 b0=some (true,S',P,M',Q++yI fF,{u with ya:=aB},r,true):=by
 have e3:(u.C.Do==3)=false:=by simpa using h34.1
 have e4:(u.C.Do==4)=false:=by simpa using h34.2
 unfold cu;rw[aP,aP];rcases hr with hr|⟨hr,hne⟩
 ·rw[tI (by simp;omega),au (by simp;omega)]
  show bd (cv n S u.C) _ =_;rw[ak hp,ak hd,aP,aP,au (by rw[hE];rfl),aP,au e4,au e3];show lt _ _ =_;rw[aP,aP];exact Kc hn hb hq hbl hg (λlu=>some (true,lu.1,lu.2.1,lu.2.2.1,lu.2.2.2.1,lu.2.2.2.2.1,lu.2.2.2.2.2.1,lu.2.2.2.2.2.2)) _ _
 ·rw[rY (by simp;omega) hne,au (by simp)]
  show bd (cv n S u.C) _ =_;rw[ak hp,ak hd,aP,aP,au (by rw[hE];rfl),aP,au e4,au e3];show lt _ _ =_;rw[aP,aP];exact Kc hn hb hq hbl hg (λlu=>some (true,lu.1,lu.2.1,lu.2.2.1,lu.2.2.2.1,lu.2.2.2.2.1,lu.2.2.2.2.2.1,lu.2.2.2.2.2.2)) _ _
theorem RF(hn:110<=n)(hr:u.ya.N<=0){pl:List Int}{pe:Int}(hp:cv n S u.C=some (pl,pe))(hd:cq n S u.jU u.C u.ya=some (S',⟨0,0,0⟩,[]))(h3:u.C.Do=3)(hP:Ih P)(hl:pl.length<=8)(Sd:∀i,i<pl.length->0<=pl.getD i default/\gW P (pl.getD i default/32))(hq:Q.length<=10000)(hg:da n M u.jU=some M'){x0:ah}{b0:Bool}:
  cu n S P M Q u x0 b0=some (true,S',P,M',Q,{u with ya:=aB},⟨0,IB (λi=>FP P (pl.getD i default)) pl.length,0⟩,true):=by
 have e3:(u.C.Do==3)=true:=by simpa using h3
 have e4:(u.C.Do==4)=false:=by rw[h3];rfl
 unfold cu;rw[aP,aP,tI (by simp;omega),au (by simp;omega)];show bd (cv n S u.C) _ =_;rw[ak hp,ak hd,aP,aP,au (by rfl),aP,au e4,aU e3];refine(aeU hn hP hl Sd _).trans ?_;show lt _ _ =_;rw[aP,aP];have:=Kc (S:=S') (P:=P) (r:=⟨0,IB (λi=>FP P (pl.getD i default)) pl.length,0⟩) hn (fF:=[]) (by simp) (by simpa using hq) (by simp;omega) hg (λlu=>some (true,lu.1,lu.2.1,lu.2.2.1,lu.2.2.2.1,lu.2.2.2.2.1,lu.2.2.2.2.2.1,lu.2.2.2.2.2.2)) x0 b0;rw[show Q++yI []=Q by simp[yI]]at this;exact this
theorem RD(hn:110<=n)(hr:u.ya.N<=0){pl:List Int}{pe:Int}(hp:cv n S u.C=some (pl,pe))(hd:cq n S u.jU u.C u.ya=some (S',⟨0,0,0⟩,[]))(h4:u.C.Do=4)(hP:Ih P)(hl:pl.length<=8)(Sd:∀i,i<pl.length->0<=pl.getD i default/\gW P (pl.getD i default/32))(hq:Q.length<=10000)(hg:da n M u.jU=some M'){x0:ah}{b0:Bool}:
  cu n S P M Q u x0 b0=some (true,S',Lx P (λi=>pl.getD i default) (λi=>wr .u8 (Ag .u64 u.C.V (wr .i64 (8*(i:Int))))) pl.length,M',Q,{u with ya:=aB},⟨0,0,0⟩,true):=by
 have e4:(u.C.Do==4)=true:=by simpa using h4
 unfold cu;rw[aP,aP,tI (by simp;omega),au (by simp;omega)];show bd (cv n S u.C) _ =_;rw[ak hp,ak hd,aP,aP,au (by rfl),aP,aU e4];refine(aa8 hn hP hl Sd _ _ _ _ _ _ _).trans ?_;show lt _ _ =_;rw[aP,aP];have:=Kc (S:=S') (P:=Lx P (λi=>pl.getD i default) (λi=>wr .u8 (Ag .u64 u.C.V (wr .i64 (8*(i:Int))))) pl.length) (r:=⟨0,0,0⟩) hn (fF:=[]) (by simp) (by simpa using hq) (by simp;omega) hg (λlu=>some (true,lu.1,lu.2.1,lu.2.2.1,lu.2.2.2.1,lu.2.2.2.2.1,lu.2.2.2.2.2.1,lu.2.2.2.2.2.2)) x0 b0;rw[show Q++yI []=Q by simp[yI]]at this;exact this
theorem ZC(hne:bJ n S u.jU u.C=some 0){x0:ah}{b0:Bool}:bY n S P M Q u x0 b0=some (false,S,P,M,Q,u,x0,b0):=by unfold bY;rw[ak hne,aU (by rfl)]
theorem Qc{k:Int}(hne:bJ n S u.jU u.C=some k)(hr:0<u.ya.N){x0:ah}{b0:Bool}:bY n S P M Q u x0 b0=some (false,S,P,M,Q,u,x0,b0):=by unfold bY;rw[ak hne,aU (by simp;omega)]
theorem PS{m:Nat}(hd:c.Do≠15)(hne:bJ n S t c=some 0){Q':List Int}{u':aF}(hc:cu n S P M Q (EM t c [] aB 0) ay false=some (true,S',P',M',Q',u',r,true)):
  vK (nk n c) (m+1) ay S P M Q t (EM t c [] aB 0)=some (r,S',P',M',Q',t):=by
 show nk n c _ _ _ _ _ _ _ _ =_;exact zO hd (aas rfl rfl (ZC hne) (by show(0:Int)<=0;omega) hc)
theorem kE{Q':List Int}(h:er n S P M Q t c=some (r,S',P',M',Q',t))(hE:r.E≠6\/Q'=[]):cI n S P M Q t c=some (r,S',P',M',Q',t):=by
 unfold cI;rw[ak h,aP,aP,au]
 ·rfl
 ·rcases hE with h|h
  ·have:(r.E==6)=false:=by simpa using h
   rw[this];rfl
  ·rw[h];simp
end
def u6(P:aj)(f:bj):aj:={P with dX:=f}
def qS(P:aj)(a:Int):Nat->aj
 |0=>P
 |j+1=>{qS P a j with bytes:=iD (qS P a j).bytes (a+j).toNat (λ_ =>0)}
theorem sy(P:aj)(a:Int)(k:Nat):(qS P a k).dX=P.dX/\(qS P a k).n=P.n:=by
 induction k with
 |zero=>exact⟨rfl,rfl⟩
 |succ k ih=>exact ih
theorem OT(P:aj){a:Int}(ha:0<=a)(k:Nat){b:Int}(hb:0<=b):FP (qS P a k) b=if a<=b/32/\b/32<a+k then 0 else FP P b:=by
 induction k with
 |zero=>rw[aiR (by omega)];rfl
 |succ k ih=>
  show(iD (qS P a k).bytes (a+(k:Int)).toNat (λ_ =>0)) (b/32).toNat (b%32).toNat=_;unfold iD;by_cases h:(b/32).toNat=(a+(k:Int)).toNat
  ·rw[aiQ h,aiQ (by omega)]
  ·rw[aiR h]
   refine Eq.trans ih ?_;by_cases h1:a<=b/32/\b/32<a+(k:Int)
   ·rw[aiQ h1,aiQ (by omega)]
   ·rw[aiR h1,aiR (by omega)]
theorem OS{P:aj}(h:Ih P)(a:Int)(k:Nat):Ih (qS P a k):=by
 induction k with
 |zero=>exact h
 |succ k ih=>exact⟨ih.Qh,ih.n1,ih.fr,λi j=>by
   unfold qS iD;dsimp only;by_cases h1:i=(a+(k:Int)).toNat
   ·rw[aiQ h1];omega
   ·rw[aiR h1];exact ih.bt i j⟩
theorem ZB{n:Nat}(hn:110<=n){P:aj}(h:Ih P){p:Int}(hp:gW P p):kM n P p=some (0,{P with bytes:=iD P.bytes p.toNat (λ_ =>0)}):=by have:=h.n1;obtain⟨p0,p1,p2⟩:=hp;unfold kM;rw[au (by simp;omega),ak (KU hn h ⟨p0,p1,p2⟩),au (by rfl),bH (gU (by omega) (by omega))];rfl
section
variable {n:Nat} {S S':ae} {P:aj} {M M':ai} {Q Q':List Int} {t:Int} {c:aC} {r:ah}
theorem VH(hn:110<=n)(hd:c.Do≠15){a k:Int}(ha:0<=a)(hk:0<k)(hk4:k<=64)(hne:bJ n S t c=some k)(h:Ih P)(hl:∀p,a<=p->p<a+k->gW P p)(hc:∃u',cu n S (qS P a k.toNat) M Q (EM t c [] ⟨a,k⟩ k) ay false=some (true,S',qS P a k.toNat,M',Q',u',r,true)):
  ∀(d:Nat) (j:Nat) (m:Nat),(j:Int)+d=k->vK (nk n c) (m+d+1) ay S (qS P a j) M Q t (EM t c [] ⟨a,k⟩ j)=some (r,S',qS P a k.toNat,M',Q',t):=by
 have hn1:=h.n1;intro d
 induction d with
 |zero=>
  intro j m e;obtain⟨u',hc⟩:=hc;have ej:(j:Int)=k:=by omega
  have ej':k.toNat=j:=by omega
  show nk n c _ _ _ _ _ _ _ _ =_;rw[ej']at hc ⊢;rw[ej];exact zO hd (aas rfl rfl (Qc hne hk) (by show k<=k;omega) hc)
 |succ d ih=>
  intro j m e;show nk n c _ _ _ _ _ _ _ _ =_;have qR:eL n S (qS P a j) M Q (EM t c [] ⟨a,k⟩ j) ay false=some (true,S,qS P a (j+1),M,Q,EM t c [] ⟨a,k⟩ ((j+1:Nat):Int),ay,false):=by have hp:=hl (a+j) (by omega) (by omega);have xy:=hp;obtain⟨q0,q1,q2⟩:=xy;unfold eL;rw[au (by simp;omega)];show bd (kM n (qS P a j) (wr .i64 (a+(j:Int)))) _ =_;rw[br (x:=a+(j:Int)) (by omega) (by omega),ak (ZB hn (OS h a j) (by unfold gW at hp ⊢;rw[(sy P a j).1,(sy P a j).2];exact hp)),aP];show some (true,S,_,M,Q,EM t c [] ⟨a,k⟩ (wr .i64 ((j:Int)+1)),ay,false)=_;rw[br (by omega) (by omega)];rfl
  rw[tv hd (aeD rfl rfl (Qc hne hk) qR) (λ_ => .inl rfl)];have:=ih (j+1) m (by omega);rw[show m+(d+1)=m+d+1 by omega];exact this
theorem RI(hn:110<=n)(hd:c.Do≠15)(h:Ih P){k:Int}(hk:0<k)(hk4:k<=64)(hne:bJ n S t c=some k){m:Nat}{v:Int}(hf:Hf k P.dX.l=(v,true))(hv:0<=v)(hin:Ju P.dX.l v k):
  ∃f:bj,qb f.l/\(∀p,bZ f.l p↔bZ P.dX.l p/\¬(v<=p/\p<v+k))/\
   vK (nk n c) (m+1) ay S P M Q t (EM t c [] aB 0)=vK (nk n c) m ay S (u6 P f) M Q t (EM t c [] ⟨v,k⟩ 0):=by
 obtain⟨⟨o1,o2,o3⟩,_⟩:=id hin;obtain⟨f,g,e1,e2,_,e3⟩:=XL hn h.Qh (at_:=v) (k:=k) ⟨by omega,by omega⟩ ⟨by omega,by omega⟩;have hg:g=true:=e2.2 hin;subst hg;obtain⟨f1,f2⟩:=e3 rfl;refine⟨f,f1,f2,?_⟩;show nk n c _ _ _ _ _ _ _ _ =_;have qR:iP n P k=some (v,0,u6 P f):=by unfold iP;rw[au (by simp;omega),ak (PN hn h.Qh k),hf,au (b:= !true) rfl,ak e1];rfl
 have hs:bY n S P M Q (EM t c [] aB 0) ay false=some (true,S,u6 P f,M,Q,EM t c [] ⟨v,k⟩ 0,ay,false):=by unfold bY;rw[ak hne,au (by simp;omega),ak qR,au (by rfl)];rfl
 rw[tv hd (aat rfl rfl hs) (λ_ => .inl rfl)]
theorem RH(hn:110<=n)(hd:c.Do≠15)(h:Ih P){k:Int}(hk:0<k)(hne:bJ n S t c=some k){m:Nat}(hf:Hf k P.dX.l=(0,false))(hg:da n M t=some M'):
  vK (nk n c) (m+1) ay S P M Q t (EM t c [] aB 0)=some (⟨6,0,0⟩,S,P,M',Q,t):=by
 show nk n c _ _ _ _ _ _ _ _ =_;have qR:iP n P k=some (0,6,P):=by unfold iP;rw[au (by simp;omega),ak (PN hn h.Qh k),hf,aU (b:= !false) rfl]
 have hs:bY n S P M Q (EM t c [] aB 0) ay false=some (true,S,P,M',Q,EM t c [] aB 0,⟨6,0,0⟩,true):=by unfold bY;rw[ak hne,au (by simp;omega),ak qR,aU (by rfl),ak (Oo (c:=EM t c [] aB 0) (by omega) S P M Q _ _ _ (by show(0:Int)<=0;omega) hg)]
 exact zO hd (aat rfl rfl hs)
end
end Go.Proofs.Z
namespace Go.Proofs.Z
open Go Go.Bw
theorem wQ{l:List Rn}(h:Ii l){a:Int}(ha:0<=a/\a<32*bE l):bZ l (dO l a/32)/\0<=dO l a:=by
 have hl:=tM h.Xg;have h1:a.toNat<(jQ l).length:=by omega
 have hm:dO l a∈jQ l:=by unfold dO;rw[List.getD,aiZ h1];exact List.getElem_mem h1
 have h2:=GA.1 hm;obtain⟨y,hy,h3,h4⟩:=id h2;obtain⟨o1,o2,o3⟩:=h.vW y hy;exact⟨h2,by omega⟩
structure Cw(S:ae)(P:aj)(M:ai)(Q:List Int):Prop where
 DC:Ih P
 may:∀k,pB (bw S k)
 own:∀k p,bZ (bw S k).aK p->gW P p
 sep:∀k j p,k≠j->bZ (bw S k).aK p->¬bZ (bw S j).aK p
 R8:∀p∈Q,gW P p/\∀k,¬bZ (bw S k).aK p
 qnd:Q.Nodup
 Pg:ON M
 Xr:∀k a,(bw S k).dZ<=a->a<32*bE (bw S k).aK->FP P (dO (bw S k).aK a)=0
 LC:∀p,0<=p->p<P.n->bZ P.dX.l p\/p∈Q\/∃k,bZ (bw S k).aK p
def oQ(S:ae)(P:aj)(k:Nat)(a:Int):Int:=FP P (dO (bw S k).aK a)
def HF(S:ae)(k:Nat)(a:Int):Prop:=0<=a/\a<32*bE (bw S k).aK
section
variable {n:Nat} {S S':ae} {P P':aj} {M:ai} {Q Q':List Int} {t h:Int} {k:Nat} {c:aC}
theorem Cw.TN(C:Cw S P M Q):Q.length<=64:=sB 64 C.qnd λp hp=>by obtain⟨⟨a,b,_⟩,_⟩:=C.R8 p hp;have:=C.DC.n1;exact⟨a,by show p<64;omega⟩
theorem Cw.adr(C:Cw S P M Q){k:Nat}{a:Int}(ha:HF S k a):gW P (dO (bw S k).aK a/32)/\0<=dO (bw S k).aK a:=by obtain⟨h1,h2⟩:=wQ (C.may k).gx.gd ha;exact⟨C.own k _ h1,h2⟩
theorem Cw.apart(C:Cw S P M Q){k j:Nat}{a b:Int}(ha:HF S k a)(hb:HF S j b)(e:dO (bw S k).aK a=dO (bw S j).aK b):k=j/\a=b:=by
 by_cases hk:k=j
 ·subst hk
  exact⟨rfl,OA (C.may k).gx.gd ha hb e⟩
 ·obtain⟨h1,_⟩:=wQ (C.may k).gx.gd ha
  obtain⟨h2,_⟩:=wQ (C.may j).gx.gd hb;rw[e]at h1;exact absurd h2 (C.sep k j _ hk h1)
theorem Cw.ad(C:Cw S P M Q){k:Nat}{a:Int}(h0:0<=a)(h1:a<(bw S k).dZ):HF S k a:=by have:=(C.may k).hi;exact⟨h0,by omega⟩
theorem FJ(f:Nat->Int){b i:Nat}(h:i<b):((List.range b).map f).getD i default=f i:=by rw[List.getD,List.getElem?_map,List.getElem?_range h];rfl
theorem Mc{w:Bool}(hn:200<=n)(C:Cw S P M Q)(a:uK w n S t h k)(hd:c.Do=3)(hR:c.R=h)(hA:0<=c.A/\c.A<4294967296)(hB:1<=c.B/\c.B<=8):
  cI n S P M Q t c=some (if c.A+c.B<=(bw S k).dZ then⟨0,IB (λi=>oQ S P k (c.A+(i:Int))) c.B.toNat,0⟩else⟨9,0,0⟩,S,P,M,Q,t):=by
 have hk:=a.kl;have hc:=Qf a (C.may k) (.inl hd) hR hA hB;have Ai:c.Do≠15:=by omega
 by_cases hl:c.A+c.B<=(bw S k).dZ
 ·rw[aiQ hl]at hc ⊢
  refine kE ?_ (.inl (by show(0:Int)≠6;omega));obtain⟨m,rfl⟩:∃m,n=m+1+2:=⟨n-3,by omega⟩;rw[yL Ai C.Pg a.t0 a.t1 hc (vE a (.inr (.inl hd)) hR) hk a.cY];have Sd:∀i,i<((List.range c.B.toNat).map λ(i:Nat)=>dO (bw S k).aK (c.A+(i:Int))).length->0<=((List.range c.B.toNat).map λ(i:Nat)=>dO (bw S k).aK (c.A+(i:Int))).getD i default/\gW P (((List.range c.B.toNat).map λ(i:Nat)=>dO (bw S k).aK (c.A+(i:Int))).getD i default/32):=by intro i hi;rw[List.length_map,List.length_range]at hi;rw[FJ (λ(i:Nat)=>dO (bw S k).aK (c.A+(i:Int))) hi];obtain⟨q1,q2⟩:=C.adr (C.ad (k:=k) (a:=c.A+(i:Int)) (by omega) (by omega));exact⟨q2,q1⟩
  have:=RF (S:=S) (P:=P) (Q:=Q) (u:=EM t c [] aB 0) (M':=M) (x0:=ay) (b0:=false) (by omega) (by show(0:Int)<=0;omega) (Tm (by omega) a (C.may k) (.inl hd) hR hA.1 hB hl) (by have:=ac0 a (C.may k) (.inl hd) hR hA hB;rw[aiQ hl]at this;exact this) hd C.DC (by simp;omega) Sd (by have:=C.TN;omega) (DN (by omega) C.Pg hk a.t0 a.t1);refine(PS Ai (Co (by omega)) this).trans ?_;rw[List.length_map,List.length_range,og (g:=λi=>oQ S P k (c.A+(i:Int))) λi hi=>by
   dsimp only;rw[FJ (λ(i:Nat)=>dO (bw S k).aK (c.A+(i:Int))) hi];rfl]
 ·rw[aiR hl]at hc ⊢
  exact kE (Gu (by omega) Ai C.Pg a.t0 a.t1 hc (by omega)) (.inl (by show(9:Int)≠6;omega))
def D1(V:Int)(i:Nat):Int:=V/256^i%256
theorem ZJ{V:Int}{i:Nat}(hi:i<8)(hV:0<=V/\V<18446744073709551616):wr .u8 (Ag .u64 V (wr .i64 (8*(i:Int))))=D1 V i:=by
 have hp:=(aeZ i).symm;rw[br (by omega) (by omega),Tz (8*i) (by omega) (by show 8*i<=64;omega),hp];have h:∀x:Int,wr .u8 x=x%256:=λx=>by simp[wr,IntKind.wrap,IntKind.signed,IntKind.bits]
 rw[h];rfl
theorem VM(V:Int)(i:Nat):0<=D1 V i/\D1 V i<=255:=by unfold D1;omega
theorem QD(P:aj){f g v w:Nat->Int}{k:Nat}(h1:∀i,i<k->f i=g i)(h2:∀i,i<k->v i=w i):Lx P f v k=Lx P g w k:=by
 induction k with
 |zero=>rfl
 |succ k ih=>unfold Lx;rw[ih (λi hi=>h1 i (by omega)) (λi hi=>h2 i (by omega)),h1 k (by omega),h2 k (by omega)]
def Xc(S:ae)(P:aj)(k:Nat)(c:aC):aj:=Lx P (λi=>dO (bw S k).aK (c.A+(i:Int))) (D1 c.V) c.B.toNat
theorem Tj(C:Cw S P M Q)(hA:0<=c.A)(hB:1<=c.B/\c.B<=8)(hl:c.A+c.B<=32*bE (bw S k).aK){j:Nat}{b:Int}(hb:HF S j b):
  oQ S (Xc S P k c) j b=if j=k/\c.A<=b/\b<c.A+c.B then D1 c.V (b-c.A).toNat else oQ S P j b:=by
 have Y9:∀i,i<c.B.toNat->HF S k (c.A+(i:Int)):=λi hi=>⟨by omega,by omega⟩;obtain⟨h1,h2⟩:=abd (P:=P) (f:=λi=>dO (bw S k).aK (c.A+(i:Int))) (v:=D1 c.V) (k:=c.B.toNat) (λi hi=>(C.adr (Y9 i hi)).2) (b:=dO (bw S j).aK b) (C.adr hb).2 (λi i' hi hi' e=>by
  have:=(C.apart (Y9 i hi) (Y9 i' hi') e).2;omega)
 unfold oQ Xc;by_cases hc:j=k/\c.A<=b/\b<c.A+c.B
 ·rw[aiQ hc]
  obtain⟨rfl,c1,c2⟩:=hc;exact h1 (b-c.A).toNat (by omega) (by show dO _ (c.A+((b-c.A).toNat:Int))=_;rw[show c.A+((b-c.A).toNat:Int)=b by omega])
 ·rw[aiR hc]
  refine h2 λi hi e=>hc ?_;obtain⟨e1,e2⟩:=C.apart (Y9 i hi) hb e;exact⟨e1.symm,by omega,by omega⟩
theorem Tk(S:ae)(P:aj)(k:Nat)(c:aC):(Xc S P k c).dX=P.dX/\(Xc S P k c).n=P.n:=F3 _ _ _ _
theorem abm(C:Cw S P M Q)(hA:0<=c.A)(hB:1<=c.B/\c.B<=8)(hl:c.A+c.B<=(bw S k).dZ):Cw S (Xc S P k c) M Q:=by
 obtain⟨f1,f2⟩:=Tk S P k c;have hh:=(C.may k).hi;have hlt:∀p,gW P p->gW (Xc S P k c) p:=λp hp=>by unfold gW at hp ⊢;rw[f1,f2];exact hp
 refine{C with DC:=SF C.DC λi _ =>VM _ _,own:=λj p hp=>hlt p (C.own j p hp),R8:=λp hp=>⟨hlt p (C.R8 p hp).1,(C.R8 p hp).2⟩,Xr:=λj a h1 h2=>?_,LC:=λp p0 p1=>by rw[f1];exact C.LC p p0 (by rw[f2]at p1;exact p1)};have h0:=(C.may j).lo;have:=Tj (P:=P) (k:=k) C hA hB (by omega) (j:=j) (b:=a) ⟨by omega,h2⟩;unfold oQ at this;rw[this,aiR]
 ·exact C.Xr j a h1 h2
 ·rintro⟨rfl,c1,c2⟩;omega
theorem QJ(hn:200<=n)(C:Cw S P M Q)(a:uK true n S t h k)(hd:c.Do=4)(hR:c.R=h)(hA:0<=c.A/\c.A<4294967296)(hB:1<=c.B/\c.B<=8)(hV:0<=c.V/\c.V<18446744073709551616):
  cI n S P M Q t c=some (if c.A+c.B<=(bw S k).dZ then⟨0,0,0⟩else⟨9,0,0⟩,S,if c.A+c.B<=(bw S k).dZ then Xc S P k c else P,M,Q,t):=by
 have hk:=a.kl;have hc:=Qf a (C.may k) (.inr ⟨hd,rfl⟩) hR hA hB;have Ai:c.Do≠15:=by omega
 by_cases hl:c.A+c.B<=(bw S k).dZ
 ·rw[aiQ hl]at hc ⊢
  rw[aiQ hl];refine kE ?_ (.inl (by show(0:Int)≠6;omega));obtain⟨m,rfl⟩:∃m,n=m+1+2:=⟨n-3,by omega⟩;rw[yL Ai C.Pg a.t0 a.t1 hc (vE a (.inr (.inr hd)) hR) hk a.cY];have Sd:∀i,i<((List.range c.B.toNat).map λ(i:Nat)=>dO (bw S k).aK (c.A+(i:Int))).length->0<=((List.range c.B.toNat).map λ(i:Nat)=>dO (bw S k).aK (c.A+(i:Int))).getD i default/\gW P (((List.range c.B.toNat).map λ(i:Nat)=>dO (bw S k).aK (c.A+(i:Int))).getD i default/32):=by intro i hi;rw[List.length_map,List.length_range]at hi;rw[FJ (λ(i:Nat)=>dO (bw S k).aK (c.A+(i:Int))) hi];obtain⟨q1,q2⟩:=C.adr (C.ad (k:=k) (a:=c.A+(i:Int)) (by omega) (by omega));exact⟨q2,q1⟩
  have:=RD (S:=S) (P:=P) (Q:=Q) (u:=EM t c [] aB 0) (M':=M) (x0:=ay) (b0:=false) (by omega) (by show(0:Int)<=0;omega) (Tm (by omega) a (C.may k) (.inr hd) hR hA.1 hB hl) (by have:=ac0 a (C.may k) (.inr ⟨hd,rfl⟩) hR hA hB;rw[aiQ hl]at this;exact this) hd C.DC (by simp;omega) Sd (by have:=C.TN;omega) (DN (by omega) C.Pg hk a.t0 a.t1);refine(PS Ai (Co (by omega)) this).trans ?_;rw[List.length_map,List.length_range];unfold Xc;rw[QD P (g:=λi=>dO (bw S k).aK (c.A+(i:Int))) (w:=D1 c.V) (λi hi=>FJ (λ(i:Nat)=>dO (bw S k).aK (c.A+(i:Int))) hi) (λi hi=>ZJ (by have hi':i<c.B.toNat:=hi;omega) hV)]
 ·rw[aiR hl]at hc ⊢
  rw[aiR hl];exact kE (Gu (by omega) Ai C.Pg a.t0 a.t1 hc (by omega)) (.inl (by show(9:Int)≠6;omega))
end
end Go.Proofs.Z
namespace Go.Proofs.Z
open Go Go.Bw
theorem MR{l:List Rn}{y:Rn}(h:Ii (l++[y])){a:Int}(h0:32*bE l<=a)(h1:a<32*bE l+32*y.N):dO (l++[y]) a=32*y.At+(a-32*bE l):=by obtain⟨g1,g2,_⟩:=yV.1 h;have hl:=tM g1.Xg;have hp:=vB g1.Xg;unfold dO;rw[Bs,HA,G4 _ _ _ _ (by omega),Hz y (by omega)];omega
theorem Qb{P:aj}(h:Ih P){f:bj}(hf:qb f.l)(hm:∀p,bZ f.l p->bZ P.dX.l p):Ih (u6 P f):=⟨hf,h.n1,λp hp=>h.fr p (hm p hp),h.bt⟩
section
variable {n:Nat} {S S':ae} {P P':aj} {M:ai} {Q Q':List Int} {t h:Int} {k:Nat} {c:aC}
theorem aeT(hn:110<=n){p:Int}(C:Cw S P M (p::Q)):∃f:bj,mw n S P M (p::Q)=some (true,S,u6 P f,M,Q)/\Cw S (u6 P f) M Q/\∀x,bZ f.l x↔bZ P.dX.l x\/x=p:=by
 have hn1:=C.DC.n1;obtain⟨⟨p0,p1,p2⟩,p3⟩:=C.R8 p (by simp);have hql:=C.TN;rw[List.length_cons]at hql;obtain⟨f,g,e1,e2,_,e3⟩:=PE hn C.DC.Qh (at_:=p) (k:=1) ⟨by omega,by omega⟩ ⟨by omega,by omega⟩;have hg:g=true:=e2.2 ⟨⟨by omega,by omega,by omega⟩,λq h1 h2=>by rw[show q=p by omega];exact p2⟩;subst hg;obtain⟨f1,f2⟩:=e3 rfl;have f3:∀x,bZ f.l x↔bZ P.dX.l x\/x=p:=λx=>(f2 x).trans ⟨λh=>h.elim .inl λh=> .inr (by omega),λh=>h.elim .inl λh=> .inr (by omega)⟩;have hb:l6 n P p=some (0,u6 P f):=by unfold l6;rw[au (by simp;omega),ak (KU hn C.DC ⟨p0,p1,p2⟩),au (by rfl),bH (gU (by omega) (by omega)),ak e1];rfl
 obtain⟨d1,d2⟩:=List.nodup_cons.1 C.qnd;refine⟨f,?_,⟨⟨f1,hn1,λx hx=>?_,C.DC.bt⟩,C.may,λj x hx=>?_,C.sep,λx hx=>?_,d2,C.Pg,C.Xr,λx x0 x1=>?_⟩,f3⟩
 ·unfold mw
  rw[au (by simp;omega),bH (gU (by omega) (by simp)),ak (show l6 n P (List.getD (p::Q) (Int.toNat 0) default)=some (0,u6 P f)from hb),bH (gU (by omega) (by simp;omega))];rfl
 ·rcases(f3 x).1 hx with h|h
  ·exact C.DC.fr x h
  ·show x<P.n;omega
 ·obtain⟨q0,q1,q2⟩:=C.own j x hx
  refine⟨q0,q1,λh=>?_⟩;rcases(f3 x).1 h with h|h
  ·exact q2 h
  ·subst h;exact p3 j hx
 ·obtain⟨⟨q0,q1,q2⟩,q3⟩:=C.R8 x (by simp[hx])
  refine⟨⟨q0,q1,λh=>?_⟩,q3⟩;rcases(f3 x).1 h with h|h
  ·exact q2 h
  ·subst h;exact d1 hx
 ·rcases C.LC x x0 x1 with h|h|h
  ·exact .inl ((f3 x).2 (.inl h))
  ·rcases List.mem_cons.1 h with h|h
   ·exact .inl ((f3 x).2 (.inr h))
   ·exact .inr (.inl h)
  ·exact .inr (.inr h)
theorem aeS(hn:110<=n){ρ:Type}(F:ae->aj->ai->List Int->Int->Option ρ):∀(Q:List Int) (P:aj),Cw S P M Q->∃P',Cw S P' M []/\P'.n=P.n/\P'.bytes=P.bytes/\(∀x,bZ P'.dX.l x↔bZ P.dX.l x\/x∈Q)/\
  ∀m,Q.length<m->xw (λk36 (dP:ae) (jo:aj) (eV:ai) (cJ:(List Int)) (fR:Int)=>bd (mw n dP jo eV cJ) λdV=>cn (dV.1) (k36 dV.2.1 dV.2.2.1 dV.2.2.2.1 dV.2.2.2.2 fR) (F dV.2.1 dV.2.2.1 dV.2.2.2.1 dV.2.2.2.2 fR)) m S P M Q t=F S P' M [] t:=by
 intro Q
 induction Q with
 |nil=>intro P C;refine⟨P,C,rfl,rfl,λx=>by simp,λm hm=>?_⟩;obtain⟨m,rfl⟩:∃j,m=j+1:=⟨m-1,by omega⟩;rfl
 |cons p Q ih=>
  intro P C;obtain⟨f,e,C1,hf⟩:=aeT hn C;obtain⟨P',C2,h1,h2,h3,h4⟩:=ih _ C1;refine⟨P',C2,h1,h2,λx=>?_,λm hm=>?_⟩
  ·rw[h3]
   show bZ f.l x\/_ ↔_;rw[hf,List.mem_cons,or_assoc]
  ·obtain⟨m,rfl⟩:∃j,m=j+1:=⟨m-1,by omega⟩
   rw[List.length_cons]at hm;simp only[xw];rw[ak e,aU (by rfl)];exact h4 m (by omega)
theorem Oz(hn:110<=n){w:Int}(C:Cw S P M Q)(hq:Q≠[])(h:er n S P M Q t c=some (⟨6,0,w⟩,S,P,M,Q,t)):
  ∃P',Cw S P' M []/\P'.n=P.n/\P'.bytes=P.bytes/\(∀x,bZ P'.dX.l x↔bZ P.dX.l x\/x∈Q)/\cI n S P M Q t c=er n S P' M [] t c:=by
 have hql:=C.TN;obtain⟨P',h1,h2,h3,h4,h5⟩:=aeS (S:=S) (M:=M) (t:=t) hn (λx1 x2 x3 x4 x5=>bd (er n x1 x2 x3 x4 x5 c) λjk=>some jk) Q P C;refine⟨P',h1,h2,h3,h4,?_⟩;have h6:=h5 n (by omega);have hb:((6:Int)==6)&&decide (0<(Q.length:Int)):=by have:=List.length_pos_iff.2 hq;simp;omega
 unfold cI;rw[ak h,aP,aP,aU hb];refine Eq.trans h6 ?_;cases er n S P' M [] t c<;>rfl
theorem Cw.abv(C:Cw S P M Q)(k:Nat){L:Int}(h1:(bw S k).dZ<=L)(h2:L<=32*bE (bw S k).aK):Cw (iK S k ⟨(bw S k).aK,L⟩) P M Q:=by
 have hr:∀j,(bw (iK S k ⟨(bw S k).aK,L⟩) j).aK=(bw S j).aK:=λj=>by
  by_cases hj:j=k
  ·subst hj;rw[fS]
  ·rw[rR _ _ hj]
 have hl:∀j,(bw S j).dZ<=(bw (iK S k ⟨(bw S k).aK,L⟩) j).dZ:=λj=>by
  by_cases hj:j=k
  ·subst hj;rw[fS];exact h1
  ·rw[rR _ _ hj];omega
 refine⟨C.DC,λj=>?_,λj p hp=>C.own j p (by rw[hr]at hp;exact hp),λi j p hij hp=>by rw[hr]at hp ⊢;exact C.sep i j p hij hp,λp hp=>⟨(C.R8 p hp).1,λj=>by rw[hr];exact(C.R8 p hp).2 j⟩,C.qnd,C.Pg,λj a q1 q2=>?_,λp p0 p1=>?_⟩
 ·by_cases hj:j=k
  ·subst hj;rw[fS];have:=(C.may j).lo;exact⟨(C.may j).gx,by dsimp only;omega,h2⟩
  ·rw[rR _ _ hj];exact C.may j
 ·rw[hr]at q2 ⊢
  exact C.Xr j a (by have:=hl j;omega) q2
 ·rcases C.LC p p0 p1 with h|h|⟨j,h⟩
  ·exact .inl h
  ·exact .inr (.inl h)
  ·exact .inr (.inr ⟨j,by rw[hr];exact h⟩)
theorem Jd(S:ae)(P:aj)(k j:Nat)(L a:Int):oQ (iK S k ⟨(bw S k).aK,L⟩) P j a=oQ S P j a:=by
 unfold oQ;by_cases hj:j=k
 ·subst hj;rw[fS]
 ·rw[rR _ _ hj]
theorem Cw.aia(C:Cw S P M Q)(k:Nat){v m s:Int}(hin:Ju P.dX.l v m){f:bj}(hf:qb f.l)(Y6:∀p,bZ f.l p↔bZ P.dX.l p/\¬(v<=p/\p<v+m))(hs:0<=s/\s<=32*m):
  Cw (iK S k ⟨(bw S k).aK++[⟨v,m⟩],32*bE (bw S k).aK+s⟩) (qS (u6 P f) v m.toNat) M Q/\
  (∀j a,HF S j a->oQ (iK S k ⟨(bw S k).aK++[⟨v,m⟩],32*bE (bw S k).aK+s⟩) (qS (u6 P f) v m.toNat) j a=oQ S P j a)/\
  (∀a,32*bE (bw S k).aK<=a->a<32*bE (bw S k).aK+32*m->oQ (iK S k ⟨(bw S k).aK++[⟨v,m⟩],32*bE (bw S k).aK+s⟩) (qS (u6 P f) v m.toNat) k a=0):=by
 obtain⟨⟨o1,o2,o3⟩,acp⟩:=id hin;have hn1:=C.DC.n1;have z1:=(sy (u6 P f) v m.toNat).1;have z2:=(sy (u6 P f) v m.toNat).2;have hno:∀p,v<=p->p<v+m->∀j,¬bZ (bw S j).aK p:=λp p0 p1 j hp=>(C.own j p hp).2.2 (acp p p0 p1);have hmay:pB ⟨(bw S k).aK++[⟨v,m⟩],32*bE (bw S k).aK⟩:=Jo (C.may k) ⟨o1,o2,o3⟩ λp p0 p1=>hno p p0 p1 k;have hsn:bE ((bw S k).aK++[(⟨v,m⟩:Rn)])=bE (bw S k).aK+m:=by rw[oL,wu]
 have N7:=(C.may k).gx.pos;have hlen:=(C.may k).hi;have hlo:=(C.may k).lo;have hmem:∀j p,bZ (bw (iK S k ⟨(bw S k).aK++[⟨v,m⟩],32*bE (bw S k).aK+s⟩) j).aK p↔bZ (bw S j).aK p\/(j=k/\v<=p/\p<v+m):=λj p=>by
  by_cases hj:j=k
  ·subst hj
   rw[fS];show bZ ((bw S j).aK++[⟨v,m⟩]) p↔_;rw[Jm];simp
  ·rw[rR _ _ hj];simp[hj]
 have hlt:∀p,gW P p->gW (qS (u6 P f) v m.toNat) p:=λp ⟨q0,q1,q2⟩=>⟨q0,by rw[z2];exact q1,λh=>by rw[z1]at h;exact q2 ((Y6 p).1 h).1⟩;have hby:∀b,0<=b->¬(v<=b/32/\b/32<v+m)->FP (qS (u6 P f) v m.toNat) b=FP P b:=λb b0 b1=>by rw[OT _ o2 _ b0,aiR (by omega)];rfl
 have hz:∀b,0<=b->v<=b/32->b/32<v+m->FP (qS (u6 P f) v m.toNat) b=0:=λb b0 b1 b2=>by rw[OT _ o2 _ b0,aiQ (by omega)]
 have old:∀j a,HF S j a->oQ (iK S k ⟨(bw S k).aK++[⟨v,m⟩],32*bE (bw S k).aK+s⟩) (qS (u6 P f) v m.toNat) j a=oQ S P j a:=λj a ha=>by
  obtain⟨m1,m2⟩:=wQ (C.may j).gx.gd ha;have e:dO (bw (iK S k ⟨(bw S k).aK++[⟨v,m⟩],32*bE (bw S k).aK+s⟩) j).aK a=dO (bw S j).aK a:=by
   by_cases hj:j=k
   ·subst hj;rw[fS];exact OB (C.may j).gx.gd ha
   ·rw[rR _ _ hj]
  unfold oQ;rw[e];exact hby _ m2 λq=>hno _ q.1 q.2 j m1
 have new:∀a,32*bE (bw S k).aK<=a->a<32*bE (bw S k).aK+32*m->oQ (iK S k ⟨(bw S k).aK++[⟨v,m⟩],32*bE (bw S k).aK+s⟩) (qS (u6 P f) v m.toNat) k a=0:=λa a0 a1=>by unfold oQ;rw[fS];show FP _ (dO ((bw S k).aK++[⟨v,m⟩]) a)=0;rw[MR hmay.gx.gd a0 a1];exact hz _ (by dsimp only;omega) (by dsimp only;omega) (by dsimp only;omega)
 refine⟨⟨OS (Qb C.DC hf λp hp=>((Y6 p).1 hp).1) _ _,λj=>?_,λj p hp=>?_,λi j p hij hp hq=>?_,λp hp=>⟨hlt p (C.R8 p hp).1,λj hj=>?_⟩,C.qnd,C.Pg,λj a a0 a1=>?_,λp p0 p1=>?_⟩,old,new⟩
 ·by_cases hj:j=k
  ·subst hj;rw[fS];exact⟨hmay.gx,by dsimp only;omega,by dsimp only;rw[hsn];omega⟩
  ·rw[rR _ _ hj];exact C.may j
 ·rcases(hmem j p).1 hp with hp|⟨_,q0,q1⟩
  ·exact hlt p (C.own j p hp)
  ·refine⟨by omega,by rw[z2];exact C.DC.fr p (acp p q0 q1),λhh=>?_⟩
   rw[z1]at hh;exact((Y6 p).1 hh).2 ⟨q0,q1⟩
 ·rcases(hmem i p).1 hp with hp'|⟨hp',q0,q1⟩<;>rcases(hmem j p).1 hq with C7|⟨C7,r0,r1⟩
  ·exact C.sep i j p hij hp' C7
  ·exact hno p r0 r1 i hp'
  ·exact hno p q0 q1 j C7
  ·exact hij (hp'.trans C7.symm)
 ·rcases(hmem j p).1 hj with hj|⟨_,q0,q1⟩
  ·exact(C.R8 p hp).2 j hj
  ·exact(C.R8 p hp).1.2.2 (acp p q0 q1)
 ·by_cases hj:j=k
  ·subst hj
   have a0':32*bE (bw S j).aK+s<=a:=by rw[fS]at a0;exact a0
   have a1':a<32*(bE (bw S j).aK+m):=by rw[fS, ← hsn]at *;exact a1
   exact new a (by omega) (by omega)
  ·rw[rR _ _ hj]at a0 a1
   have h0:=(C.may j).lo;have:=old j a ⟨by omega,a1⟩;unfold oQ at this;rw[this];exact C.Xr j a a0 a1
 ·rw[z1]
  rw[z2]at p1;rcases C.LC p p0 p1 with q|q|⟨j,q⟩
  ·by_cases hv:v<=p/\p<v+m
   ·exact .inr (.inr ⟨k,(hmem k p).2 (.inr ⟨rfl,hv⟩)⟩)
   ·exact .inl ((Y6 p).2 ⟨q,hv⟩)
  ·exact .inr (.inl q)
  ·exact .inr (.inr ⟨j,(hmem j p).2 (.inl q)⟩)
structure aan(S:ae)(P:aj)(M:ai)(Q:List Int)(k:Nat)(s b:Int)(S':ae)(P':aj)(at_:Int):Prop where
 cw:Cw S' P' M Q
 st:∃l,S'=iK S k ⟨l,at_+s⟩
 lo:(bw S k).dZ<=at_
 al:at_%b=0
 n:P'.n=P.n
 old:∀j a,HF S j a->oQ S' P' j a=oQ S P j a
 Xr:∀a,(bw S k).dZ<=a->HF S' k a->oQ S' P' k a=0
 fit:eG (bw S k) s b=true->at_=zI (bw S k).dZ b/\(bw S' k).aK=(bw S k).aK/\P'=P
 new:eG (bw S k) s b=false->at_=32*bE (bw S k).aK/\∃v,(bw S' k).aK=(bw S k).aK++[⟨v,eY s⟩]/\Ju P.dX.l v (eY s)/\(∀a,a<v->¬Ju P.dX.l a (eY s))/\∀p,bZ P'.dX.l p↔bZ P.dX.l p/\¬(v<=p/\p<v+eY s)
theorem Gv(hn:200<=n)(C:Cw S P M Q)(a:uK true n S t h k)(hd:c.Do=2)(hR:c.R=h){s b:Int}(hA:c.A=s)(hB:c.B=b)(ho:tw s b=true):
  (er n S P M Q t c=some (⟨6,0,0⟩,S,P,M,Q,t)/\eG (bw S k) s b=false/\((S.dH.T.aW k).gD<bE (bw S k).aK+eY s\/∀v,¬Ju P.dX.l v (eY s)))\/
  ∃S' P' at_,er n S P M Q t c=some (⟨0,at_,0⟩,S',P',M,Q,t)/\aan S P M Q k s b S' P' at_:=by
 have hk:=a.kl;have U3:=ac7 (by omega) a (C.may k) hd hR hA hB ho;have Ai:c.Do≠15:=by omega
 obtain⟨n1,n2,n3⟩:=Cj ho;obtain⟨⟨s1,s2⟩,o3⟩:=l9.1 ho;have hne:=Ur (by omega) a (C.may k) hd hR hA hB ho;have hql:=C.TN;have g:=DN (n:=n) (by omega) C.Pg hk a.t0 a.t1;cases hf:eG (bw S k) s b with
 |true=>
  rw[hf,aiQ rfl]at U3;unfold L6 at hne;rw[hf,aiQ rfl]at hne;refine .inr ⟨iK S k ⟨(bw S k).aK,zI (bw S k).dZ b+s⟩,P,zI (bw S k).dZ b,?_,?_⟩
  ·obtain⟨m,rfl⟩:∃m,n=m+1+2:=⟨n-3,by omega⟩
   rw[yL Ai C.Pg a.t0 a.t1 U3 (vE a (.inl hd) hR) hk a.cY];have:=DW (S:=S) (P:=P) (M:=uX M k t) (M':=M) (Q:=Q) (u:=EM t c [] aB 0) (fF:=[]) (x0:=ay) (b0:=false) (by omega) (.inl (by show(0:Int)<=0;omega)) (Ue a hd hR) (P9 (by omega) a (C.may k) hd hR hA hB ho hf) rfl (by show c.Do≠3/\c.Do≠4;omega) (by simp) (by simp;omega) (by show 0<m+1+2;omega) g;rw[show Q++yI []=Q by simp[yI]]at this;exact PS Ai hne this
  ·have hm:=KB (C.may k) hf
   obtain⟨f0,f1,f2⟩:=PK (C.may k) hf;have hc:=C.abv k (L:=zI (bw S k).dZ b+s) (by omega) hm.hi;refine⟨hc,⟨_,rfl⟩,f1,(B6 o3).2.2.1,rfl,λj x _ =>Jd _ _ _ _ _ _,λx x0 x1=>?_,λ_ =>⟨rfl,by rw[fS],rfl⟩,λh=>by rw[hf]at h;cases h⟩;rw[Jd];refine C.Xr k x x0 ?_;have:=x1.2;rw[fS]at this;exact this
 |false=>
  rw[hf,aiR (by simp)]at U3;unfold L6 at hne;rw[hf,aiR (by simp)]at hne;by_cases hq:bE (bw S k).aK+eY s<=(S.dH.T.aW k).gD
  ·rw[aiQ hq]at U3 hne
   rcases Zr C.DC.Qh (k:=eY s)with⟨e1,e2⟩|⟨v,e1,v0,e2,e3⟩
   ·refine .inl ⟨?_,rfl, .inr e2⟩
    obtain⟨m,rfl⟩:∃m,n=m+1+2:=⟨n-3,by omega⟩;rw[yL Ai C.Pg a.t0 a.t1 U3 (vE a (.inl hd) hR) hk a.cY];exact RH (by omega) Ai C.DC (by omega) hne e1 g
   ·obtain⟨⟨w1,w2,w3⟩,w4⟩:=id e2
    obtain⟨d,hdn⟩:∃d:Nat,(d:Int)=eY s:=⟨(eY s).toNat,by omega⟩;have hdt:(eY s).toNat=d:=by omega
    obtain⟨m,rfl⟩:∃m,n=m+d+1+1+2:=⟨n-d-4,by omega⟩;obtain⟨f,f1,f2,f3⟩:=RI (S:=S) (P:=P) (M:=uX M k t) (Q:=Q) (m:=m+d+1) (by omega) Ai C.DC (by omega) (by omega) hne e1 v0 e2;obtain⟨G1,G2,G3⟩:=C.aia k (s:=s) e2 f1 f2 ⟨by omega,by omega⟩;refine .inr ⟨iK S k ⟨(bw S k).aK++[⟨v,eY s⟩],32*bE (bw S k).aK+s⟩,qS (u6 P f) v (eY s).toNat,32*bE (bw S k).aK,?_,?_⟩
    ·rw[yL Ai C.Pg a.t0 a.t1 U3 (vE a (.inl hd) hR) hk a.cY,f3]
     have afT:∀p,v<=p->p<v+eY s->gW (u6 P f) p:=λp p0 p1=>⟨by omega,C.DC.fr p (w4 p p0 p1),λhh=>((f2 p).1 hh).2 ⟨p0,p1⟩⟩;have hdo:=VD (by omega) a (C.may k) hd hR hA hB ho hf hq (r:=⟨v,eY s⟩) rfl e2.1 (λp p0 p1 hp=>(C.own k p hp).2.2 (w4 p p0 p1));have:=DW (S:=S) (P:=qS (u6 P f) v (eY s).toNat) (M:=uX M k t) (M':=M) (Q:=Q) (u:=EM t c [] ⟨v,eY s⟩ (eY s)) (fF:=[]) (x0:=ay) (b0:=false) (by omega) (.inr ⟨by show 0<eY s;omega,hne⟩) (Ue a hd hR) hdo rfl (by show c.Do≠3/\c.Do≠4;omega) (by simp) (by simp;omega) (by show 0<m+d+1+1+2;omega) g;rw[show Q++yI []=Q by simp[yI]]at this;exact VH (by omega) Ai v0 (by omega) (by omega) hne (Qb C.DC f1 λp hp=>((f2 p).1 hp).1) afT ⟨_,this⟩ d 0 m (by omega)
    ·have N7:=(C.may k).gx.pos
     have hlo:=(C.may k).lo;refine⟨G1,⟨_,rfl⟩,(C.may k).hi,?_,(sy _ _ _).2,G2,λx x0 x1=>?_,(λh=>by rw[hf]at h;cases h),λ_ =>⟨rfl,v,by rw[fS],e2,e3,λp=>by rw[(sy _ _ _).1];exact f2 p⟩⟩
     ·rcases o3 with rfl|rfl|rfl|rfl<;>omega
     ·rcases Int.lt_or_le x (32*bE (bw S k).aK)with hx|hx
      ·rw[G2 k x ⟨by omega,hx⟩];exact C.Xr k x x0 hx
      ·refine G3 x hx ?_
       have:=x1.2;rw[fS]at this;dsimp only at this;rw[oL,wu]at this;omega
  ·rw[aiR hq]at U3
   exact .inl ⟨Gu (by omega) Ai C.Pg a.t0 a.t1 U3 (by omega),rfl, .inl (by omega)⟩
theorem RN(hn:200<=n)(C:Cw S P M Q)(a:uK true n S t h k)(hd:c.Do=2)(hR:c.R=h){s b:Int}(hA:c.A=s)(hB:c.B=b)(ho:tw s b=true):
  ∃P0 Q0,(P0=P/\Q0=Q\/Q0=[]/\∀p,bZ P0.dX.l p↔bZ P.dX.l p\/p∈Q)/\Cw S P0 M Q0/\P0.n=P.n/\P0.bytes=P.bytes/\
  ((cI n S P M Q t c=some (⟨6,0,0⟩,S,P0,M,Q0,t)/\Q0=[]/\eG (bw S k) s b=false/\((S.dH.T.aW k).gD<bE (bw S k).aK+eY s\/∀v,¬Ju P0.dX.l v (eY s)))\/
  ∃S' P' at_,cI n S P M Q t c=some (⟨0,at_,0⟩,S',P',M,Q0,t)/\aan S P0 M Q0 k s b S' P' at_):=by
 rcases Gv hn C a hd hR hA hB ho with⟨e1,e2,e3⟩|⟨S',P',at_,e1,e2⟩
 ·by_cases hq:Q=[]
  ·exact⟨P,Q, .inl ⟨rfl,rfl⟩,C,rfl,rfl, .inl ⟨kE e1 (.inr hq),hq,e2,e3⟩⟩
  ·obtain⟨P0,c1,c2,c3,c4,c5⟩:=Oz (by omega) C hq e1
   refine⟨P0,[], .inr ⟨rfl,c4⟩,c1,c2,c3,?_⟩;rw[c5];rcases Gv hn c1 a hd hR hA hB ho with⟨d1,d2,d3⟩|⟨S',P',at_,d1,d2⟩
   ·exact .inl ⟨d1,rfl,d2,d3⟩
   ·exact .inr ⟨S',P',at_,d1,d2⟩
 ·exact⟨P,Q, .inl ⟨rfl,rfl⟩,C,rfl,rfl, .inr ⟨S',P',at_,kE e1 (.inl (by show(0:Int)≠6;omega)),e2⟩⟩
end
end Go.Proofs.Z
namespace Go.Proofs.Z
open Go Go.Bw
theorem ZI(k:Nat):(256:Int)^k=((256^k:Nat):Int):=(Int.natCast_pow 256 k).symm
theorem ab4{V:Int}(hV:0<=V)(k:Nat):IB (D1 V) k=V%256^k:=by
 obtain⟨v,rfl⟩:=Int.eq_ofNat_of_zero_le hV
 induction k with
 |zero=>unfold IB;simp
 |succ k ih=>
  rw[UD,ih];have h:=Nat.mod_pow_succ (x:=v) (b:=256) (k:=k);have e1:D1 (v:Int) k=((v/256^k%256:Nat):Int):=by unfold D1;rw[ZI];rfl
  have e2:(v:Int)%256^k=((v%256^k:Nat):Int):=by rw[ZI];rfl
  have e3:(v:Int)%256^(k+1)=((v%256^(k+1):Nat):Int):=by rw[ZI];rfl
  rw[e1,e2,e3,h,Int.natCast_add,Int.natCast_mul, ← ZI,Int.mul_comm]
def v8(S:ae)(P:aj)(k:Nat)(a:Int):Int:=IB (λi=>oQ S P k (a+(i:Int))) 8
def mj(S:ae)(k:Nat)(a:Int):Prop:=0<=a/\a%8=0/\a+8<=(bw S k).dZ
instance(S:ae)(k:Nat)(a:Int):Decidable (mj S k a):=by unfold mj;infer_instance
def Wd(S:ae)(P:aj)(k:Nat)(a:Int):Int:=if mj S k a then v8 S P k a else 0
def Gi(m:Int->Int)(a v:Int):Int->Int:=λb=>if b=a then v else m b
theorem J8(m:Int->Int)(a v:Int):Gi m a v a=v:=aiQ rfl
theorem Fy(m:Int->Int){a b:Int}(v:Int)(h:b≠a):Gi m a v b=m b:=aiR h
section
variable {n:Nat} {S S':ae} {P P':aj} {M:ai} {Q Q':List Int} {t h:Int} {k:Nat}
theorem TL(C:Cw S P M Q)(k:Nat)(a:Int):0<=oQ S P k a/\oQ S P k a<=255:=Qi C.DC _
theorem F5(C:Cw S P M Q)(k:Nat)(a:Int):0<=v8 S P k a/\v8 S P k a<18446744073709551616:=KI (k:=8) λi _ =>TL C k _
theorem zi(C:Cw S P M Q)(k:Nat)(a:Int):0<=Wd S P k a/\Wd S P k a<18446744073709551616:=by
 unfold Wd;split
 ·exact F5 C k a
 ·omega
theorem Wa{a:Int}(h:mj S k a):Wd S P k a=v8 S P k a:=aiQ h
def uI(d h a b v:Int):aC:=⟨d,h,0,a,b,v⟩
theorem CN{d a b v:Int}(ha:0<=a/\a<4294967296)(hb:0<=b/\b<4294967296){r:ah}(hc:cI n S P M Q t (uI d h a b v)=some (r,S',P',M,Q',t)):ja n S P M Q t d h a b v=some (r,S',P',M,Q',t):=by
 have e:∀x:Int,0<=x/\x<4294967296->mg n x=some (x,true):=λx hx=>by
  unfold mg;rw[aap hx.1 (by omega)];have:(decide (0<=x)&&decide (x<=4294967295))=true:=by simp;omega
  rw[this]
 unfold ja;rw[ak (e a ha),ak (e b hb),au (by rfl)];show bd (cI n S P M Q t (uI d h a b v)) _ =_;rw[ak hc];rfl
theorem ZP{d a b v:Int}(ha:a<0\/4294967296<=a):ja n S P M Q t d h a b v=some (⟨2,0,0⟩,S,P,M,Q,t):=by
 have e:∃x,mg n a=some (x,false):=by
  unfold mg;have:(decide (0<=a)&&decide (a<=4294967295))=false:=by rw[Bool.and_eq_false_iff];simp;omega
  rw[this];exact⟨_,rfl⟩
 obtain⟨x,e⟩:=e;obtain⟨y,e2⟩:∃y,mg n b=some y:=⟨_,rfl⟩;unfold ja;rw[ak e,ak e2,aU (by rfl)];rfl
theorem OU{w:Bool}(hn:200<=n)(C:Cw S P M Q)(a:uK w n S t h k){x:Int}(h0:0<=x)(h1:x+8<=(bw S k).dZ):kx n S P M Q t h x=some (v8 S P k x,0,S,P,M,Q,t):=by have hh:=(C.may k).hi;have hs:=(C.may k).gx.sum;have:cI n S P M Q t (uI 3 h x 8 0)=some (if x+8<=(bw S k).dZ then⟨0,v8 S P k x,0⟩else⟨9,0,0⟩,S,P,M,Q,t):=Mc hn C a (c:=uI 3 h x 8 0) rfl rfl ⟨h0,by show x<_;omega⟩ ⟨by show(1:Int)<=8;omega,by show(8:Int)<=8;omega⟩;rw[aiQ h1]at this;unfold kx;rw[ak (CN ⟨h0,by omega⟩ (by omega) this)];rfl
theorem SI{w:Bool}(hn:200<=n)(C:Cw S P M Q)(a:uK w n S t h k){x:Int}(h1:¬(0<=x/\x+8<=(bw S k).dZ)):∃e,(e=2\/e=9)/\kx n S P M Q t h x=some (0,e,S,P,M,Q,t):=by
 by_cases h2:0<=x/\x<4294967296
 ·have:cI n S P M Q t (uI 3 h x 8 0)=some (if x+8<=(bw S k).dZ then⟨0,v8 S P k x,0⟩else⟨9,0,0⟩,S,P,M,Q,t):=Mc hn C a (c:=uI 3 h x 8 0) rfl rfl h2 ⟨by show(1:Int)<=8;omega,by show(8:Int)<=8;omega⟩
  rw[aiR (show¬(x+8<=(bw S k).dZ)by omega)]at this;refine⟨9, .inr rfl,?_⟩;unfold kx;rw[ak (CN h2 (by omega) this)];rfl
 ·refine⟨2, .inl rfl,?_⟩
  unfold kx;rw[ak (ZP (by omega))];rfl
def swP(S:ae)(P:aj)(k:Nat)(h x v:Int):aj:=Xc S P k (uI 4 h x 8 v)
theorem TC(hn:200<=n)(C:Cw S P M Q)(a:uK true n S t h k){x v:Int}(h0:0<=x)(h1:x+8<=(bw S k).dZ)(hv:0<=v/\v<18446744073709551616):uz n S P M Q t h x v=some (0,S,swP S P k h x v,M,Q,t)/\Cw S (swP S P k h x v) M Q:=by have hh:=(C.may k).hi;have hs:=(C.may k).gx.sum;have hb:1<=(uI 4 h x 8 v).B/\(uI 4 h x 8 v).B<=8:=⟨by show(1:Int)<=8;omega,by show(8:Int)<=8;omega⟩;have:cI n S P M Q t (uI 4 h x 8 v)=some (if x+8<=(bw S k).dZ then⟨0,0,0⟩else⟨9,0,0⟩,S,if x+8<=(bw S k).dZ then Xc S P k (uI 4 h x 8 v)else P,M,Q,t):=QJ hn C a (c:=uI 4 h x 8 v) rfl rfl ⟨h0,by show x<_;omega⟩ hb hv;rw[aiQ h1,aiQ h1]at this;refine⟨?_,abm C h0 hb h1⟩;unfold uz;rw[ak (CN ⟨h0,by omega⟩ (by omega) this)];rfl
theorem Nq(C:Cw S P M Q){x v:Int}(h0:0<=x)(h1:x+8<=(bw S k).dZ){j:Nat}{b:Int}(hb:HF S j b):oQ S (swP S P k h x v) j b=if j=k/\x<=b/\b<x+8 then D1 v (b-x).toNat else oQ S P j b:=by have hh:=(C.may k).hi;exact Tj C (c:=uI 4 h x 8 v) h0 ⟨by show(1:Int)<=8;omega,by show(8:Int)<=8;omega⟩ (by show x+8<=_;omega) hb
theorem Td(C:Cw S P M Q){x v:Int}(hx:mj S k x)(hv:0<=v/\v<18446744073709551616):Wd S (swP S P k h x v) k=Gi (Wd S P k) x v/\∀j,j≠k->Wd S (swP S P k h x v) j=Wd S P j:=by
 obtain⟨x0,x1,x2⟩:=id hx;constructor
 ·funext b
  unfold Gi Wd;by_cases hb:mj S k b
  ·obtain⟨b0,b1,b2⟩:=id hb
   rw[aiQ hb];by_cases e:b=x
   ·subst e
    rw[aiQ rfl];unfold v8;rw[og (g:=D1 v) λi hi=>by
     rw[Nq C x0 x2 (C.ad (by omega) (by omega)),aiQ ⟨rfl,by omega,by omega⟩,show(b+(i:Int)-b).toNat=i by omega],ab4 hv.1]
    exact Int.emod_eq_of_lt hv.1 hv.2
   ·rw[aiR e,aiQ hb]
    unfold v8;exact og λi hi=>by rw[Nq C x0 x2 (C.ad (by omega) (by omega)),aiR (λq=>by obtain⟨_,q1,q2⟩:=q;omega)]
  ·rw[aiR hb,aiR hb,aiR (λ(e:b=x)=>hb (by rw[e];exact hx))]
 ·intro j hj
  funext b;unfold Wd;by_cases hb:mj S j b
  ·obtain⟨b0,b1,b2⟩:=id hb
   rw[aiQ hb,aiQ hb];unfold v8;exact og λi hi=>by rw[Nq C x0 x2 (C.ad (by omega) (by omega)),aiR (λq=>hj q.1)]
  ·rw[aiR hb,aiR hb]
theorem ZS{s b at_:Int}(C:Cw S P M Q)(A:aan S P M Q k s b S' P' at_)(h8:(bw S k).dZ%8=0)(hs:0<=s):∀j,Wd S' P' j=Wd S P j:=by
 obtain⟨l,rfl⟩:=A.st;intro j;funext x;unfold Wd;have hlen:(bw (iK S k ⟨l,at_+s⟩) k).dZ=at_+s:=by rw[fS]
 have hlo:=A.lo;by_cases hj:j=k
 ·subst hj
  by_cases h1:mj S j x
  ·obtain⟨x0,x1,x2⟩:=id h1
   rw[aiQ h1,aiQ ⟨x0,x1,by rw[hlen];omega⟩];unfold v8;exact og λi hi=>A.old _ _ (C.ad (by omega) (by omega))
  ·rw[aiR h1]
   by_cases h2:mj (iK S j ⟨l,at_+s⟩) j x
   ·obtain⟨x0,x1,x2⟩:=id h2
    have h3:(bw S j).dZ<=x:=by unfold mj at h1;omega
    rw[aiQ h2];unfold v8;rw[og (g:=λ_ =>0) λi hi=>A.Xr _ (by omega) (A.cw.ad (by omega) (by omega))];rfl
   ·rw[aiR h2]
 ·have e:mj (iK S k ⟨l,at_+s⟩) j x↔mj S j x:=by unfold mj;rw[rR _ _ hj]
  by_cases h1:mj S j x
  ·obtain⟨x0,x1,x2⟩:=id h1
   rw[aiQ h1,aiQ (e.2 h1)];unfold v8;exact og λi hi=>A.old _ _ (C.ad (by omega) (by omega))
  ·rw[aiR h1,aiR (λq=>h1 (e.1 q))]
theorem O5(hb:P'.bytes=P.bytes):∀j,Wd S P' j=Wd S P j:=by
 intro j;have:∀a,oQ S P' j a=oQ S P j a:=λa=>by unfold oQ FP;rw[hb]
 funext x;unfold Wd v8;split
 ·exact og λi _ =>this _
 ·rfl
theorem Q8(hn:200<=n)(C:Cw S P M Q)(a:uK true n S t h k){s b:Int}(ho:tw s b=true):
  ∃P0 Q0,(P0=P/\Q0=Q\/Q0=[]/\∀p,bZ P0.dX.l p↔bZ P.dX.l p\/p∈Q)/\Cw S P0 M Q0/\P0.n=P.n/\P0.bytes=P.bytes/\
  ((ef n S P M Q t h s b=some (0,6,S,P0,M,Q0,t)/\Q0=[]/\eG (bw S k) s b=false/\((S.dH.T.aW k).gD<bE (bw S k).aK+eY s\/∀v,¬Ju P0.dX.l v (eY s)))\/
  ∃S' P' at_,ef n S P M Q t h s b=some (at_,0,S',P',M,Q0,t)/\aan S P0 M Q0 k s b S' P' at_/\0<=at_/\at_<=2048):=by
 obtain⟨⟨s1,s2⟩,o3⟩:=l9.1 ho;have hb:0<=b/\b<4294967296:=by rcases o3 with rfl|rfl|rfl|rfl<;>omega
 obtain⟨P0,Q0,e1,e2,e3,e4,e5⟩:=RN hn C a (c:=uI 2 h s b 0) (s:=s) (b:=b) rfl rfl rfl rfl ho;refine⟨P0,Q0,e1,e2,e3,e4,?_⟩;rcases e5 with⟨f1,f2⟩|⟨S',P',at_,f1,f2⟩
 ·refine .inl ⟨?_,f2⟩
  unfold ef;rw[ak (CN ⟨by omega,by omega⟩ hb f1),aP];rfl
 ·have h0:=(C.may k).lo
  have h1:=f2.lo;have h2:at_+s<=2048:=by obtain⟨l,rfl⟩:=f2.st;have:=(f2.cw.may k).hi;have:=(f2.cw.may k).gx.sum;rw[fS]at *;dsimp only at *;omega
  refine .inr ⟨S',P',at_,?_,f2,by omega,by omega⟩;unfold ef;rw[ak (CN ⟨by omega,by omega⟩ hb f1),aP,br (x:=at_) (by omega) (by omega)]
end
end Go.Proofs.Z
namespace Go.Proofs.Z
open Go Go.Bw
structure Me(n:Nat)(S:ae)(P:aj)(M:ai)(Q:List Int)(t h:Int)(k:Nat):Prop where
 cw:Cw S P M Q
 Fe:uK true n S t h k
 l8:(bw S k).dZ%8=0
structure Mr(n:Nat)(S:ae)(P:aj)(M:ai)(Q:List Int)(t h:Int)(k:Nat):Prop where
 cw:Cw S P M Q
 Fe:uK false n S t h k
theorem Me.mr{n:Nat}{S:ae}{P:aj}{M:ai}{Q:List Int}{t h:Int}{k:Nat}(E:Me n S P M Q t h k):Mr n S P M Q t h k:=⟨E.cw,E.Fe.ahg⟩
section
variable {n:Nat} {S S':ae} {P P':aj} {M:ai} {Q Q':List Int} {t h:Int} {k:Nat}
theorem Me.set(E:Me n S P M Q t h k){x v:Int}(hn:200<=n)(h1:mj S k x)(hv:0<=v/\v<18446744073709551616):Me n S (swP S P k h x v) M Q t h k:=
 ⟨(TC hn E.cw E.Fe h1.1 h1.2.2 hv).2,E.Fe,E.l8⟩
theorem Me.alloc(hn:200<=n)(E:Me n S P M Q t h k){s:Int}(ho:tw s 8=true)(hs:s%8=0):
  ∃S' P' Q',(Q=[]->Q'=[])/\P'.n=P.n/\Me n S' P' M Q' t h k/\(∀j,Wd S' P' j=Wd S P j)/\(Q=[]->bE P'.dX.l+bE (bw S' k).aK=bE P.dX.l+bE (bw S k).aK)/\
   ((ef n S P M Q t h s 8=some (0,6,S',P',M,Q',t)/\S'=S/\Q'=[]/\eG (bw S k) s 8=false/\((S.dH.T.aW k).gD<bE (bw S k).aK+eY s\/∀v,¬Ju P'.dX.l v (eY s)))\/
    ∃x l,ef n S P M Q t h s 8=some (x,0,S',P',M,Q',t)/\S'=iK S k ⟨l,x+s⟩/\(bw S k).dZ<=x/\x%8=0/\0<=x/\x+s<=2048/\
     (eG (bw S k) s 8=true->x=zI (bw S k).dZ 8/\l=(bw S k).aK/\(Q=[]->∀p,bZ P'.dX.l p↔bZ P.dX.l p))/\
     (eG (bw S k) s 8=false->x=32*bE (bw S k).aK/\∃v,l=(bw S k).aK++[⟨v,eY s⟩]/\(Q=[]->Ju P.dX.l v (eY s)/\(∀a,a<v->¬Ju P.dX.l a (eY s))/\∀p,bZ P'.dX.l p↔bZ P.dX.l p/\¬(v<=p/\p<v+eY s)))):=by
 obtain⟨P0,Q0,e1,e2,e3,e4,e5⟩:=Q8 hn E.cw E.Fe ho;have hq:Q=[]->Q0=[]:=λhq=>by
  rcases e1 with⟨_,h2⟩|⟨h2,_⟩
  ·rw[h2,hq]
  ·exact h2
 have Ml:Q=[]->∀p,bZ P0.dX.l p↔bZ P.dX.l p:=λhq p=>by
  rcases e1 with⟨h1,_⟩|⟨_,h2⟩
  ·rw[h1]
  ·rw[h2,hq];simp
 rcases e5 with⟨f1,f2,f3,f4⟩|⟨S',P',x,f1,f2,f3,f4⟩
 ·exact⟨S,P0,Q0,hq,e3,⟨e2,E.Fe,E.l8⟩,O5 e4,λq=>by rw[K9 e2.DC.Qh E.cw.DC.Qh (Ml q)], .inl ⟨f1,rfl,f2,f3,f4⟩⟩
 ·obtain⟨l,hl⟩:=f2.st
  obtain⟨⟨s1,s2⟩,_⟩:=l9.1 ho;have hw:=ZS e2 f2 E.l8 (by omega);have hlen:(bw S' k).dZ=x+s:=by rw[hl,fS]
  have Mn:=(f2.cw.may k).hi;have hsx:=(f2.cw.may k).gx.sum;have hal:=f2.al;refine⟨S',P',Q0,hq,f2.n.trans e3,⟨f2.cw,by rw[hl];exact E.Fe.set _ _,by rw[hlen];omega⟩,λj=>(hw j).trans (O5 e4 j),λq=>?_, .inr ⟨x,l,f1,hl,f2.lo,f2.al,f3,by omega,λhf=>?_,λhf=>?_⟩⟩
  ·have hfr:=K9 e2.DC.Qh E.cw.DC.Qh (Ml q)
   cases hf:eG (bw S k) s 8 with
   |true=>obtain⟨g1,g2,g3⟩:=f2.fit hf;rw[g2,g3,hfr]
   |false=>
    obtain⟨g1,v,g2,g3,g4,g5⟩:=f2.new hf;have Ri:=K8 g3.1;have:=I1 e2.DC.Qh f2.cw.DC.Qh Ri (λp=>by
     rw[g5,eZ];constructor
     ·intro hp
      by_cases hr:v<=p/\p<v+eY s
      ·exact .inr hr
      ·exact .inl ⟨hp,hr⟩
     ·rintro(hp|hp)
      ·exact hp.1
      ·exact g3.2 p hp.1 hp.2) (λp hp hq=>by rw[eZ]at hq;exact((g5 p).1 hp).2 hq)
    rw[wu,hfr]at this;rw[g2,oL,wu];omega
  ·obtain⟨g1,g2,g3⟩:=f2.fit hf
   rw[hl,fS]at g2;exact⟨g1,g2,λq p=>by rw[g3];exact Ml q p⟩
  ·obtain⟨g1,v,g2,g3,g4,g5⟩:=f2.new hf
   rw[hl,fS]at g2;have hi:Q=[]->∀a,Ju P.dX.l a (eY s)↔Ju P0.dX.l a (eY s):=λq a=>and_congr_right λ_ =>forall_congr' λp=>imp_congr_right λ_ =>imp_congr_right λ_ =>(Ml q p).symm
   exact⟨g1,v,g2,λq=>⟨(hi q v).2 g3,λa ha=>λhh=>g4 a ha ((hi q a).1 hh),λp=>by rw[g5,Ml q p]⟩⟩
end
theorem zK(S:ae)(k:Nat):iK S k (bw S k)=S:=by have h:iD S.dH.T.aW k {S.dH.T.aW k with E:=bw S k}=S.dH.T.aW:=Dw _ _;unfold iK;rw[h]
theorem QO(S:ae)(k:Nat)(E F:aD):iK (iK S k E) k F=iK S k F:=by
 have h:iD (iD S.dH.T.aW k {S.dH.T.aW k with E:=E}) k {(iD S.dH.T.aW k {S.dH.T.aW k with E:=E}) k with E:=F}=iD S.dH.T.aW k {S.dH.T.aW k with E:=F}:=by
  funext j;unfold iD;by_cases hj:j=k
  ·rw[aiQ hj,aiQ hj,aiQ rfl]
  ·rw[aiR hj,aiR hj,aiR hj]
 unfold iK;dsimp only;rw[h]
structure Ev(S:ae)(P:aj)(Q:List Int)(S':ae)(P':aj)(Q':List Int)(k:Nat):Prop where
 st:∃E,S'=iK S k E
 oth:∀j,j≠k->Wd S' P' j=Wd S P j
 q:Q=[]->Q'=[]
 n:P'.n=P.n
 len:(bw S k).dZ<=(bw S' k).dZ
 pg:Q=[]->bE P'.dX.l+bE (bw S' k).aK=bE P.dX.l+bE (bw S k).aK
theorem Ev.refl(S:ae)(P:aj)(Q:List Int)(k:Nat):Ev S P Q S P Q k:=⟨⟨_,(zK S k).symm⟩,λ_ _ =>rfl,id,rfl,Int.le_refl _,λ_ =>rfl⟩
theorem Ev.trans{S S' S'':ae}{P P' P'':aj}{Q Q' Q'':List Int}{k:Nat}(a:Ev S P Q S' P' Q' k)(b:Ev S' P' Q' S'' P'' Q'' k):Ev S P Q S'' P'' Q'' k:=by obtain⟨E,hE⟩:=a.st;obtain⟨F,hF⟩:=b.st;exact⟨⟨F,by rw[hF,hE,QO]⟩,λj hj=>(b.oth j hj).trans (a.oth j hj),λh=>b.q (a.q h),b.n.trans a.n,Int.le_trans a.len b.len,λh=>(b.pg (a.q h)).trans (a.pg h)⟩
end Go.Proofs.Z
namespace Go.Proofs.Z
open Go Go.Bw
def WW(p:Int):aj:={n:=p,dX:=⟨[⟨0,p⟩]⟩,bytes:=λ_ =>λ_ =>0}
def Xa:ae:={cS with mF:=iD cS.mF 0 true,Fv:=iD cS.Fv 0 true}
def JL(q:Int):ae:={Xa with dH:={T:={fE:=⟨⟨iD (λ_ =>jv) 0 {jv with kA:=true}⟩⟩,aW:=iD (λ_ =>iz) 0 ⟨0,q,cE,λ_ =>0⟩},O:=⟨iD (λ_ =>pY) 0 ⟨1,⟨1,0,0⟩⟩⟩,K:=dL}}
theorem y5(q:Int)(k:Nat):bw (JL q) k=cE:=by unfold bw JL iD;dsimp only;split<;>rfl
theorem ahw:pB cE:=⟨aaQ Ii.nil,by show(0:Int)<=0;omega,by show(0:Int)<=32*bE [];simp[bE]⟩
theorem aeW{p:Int}(hp:1<=p/\p<=64):Ih (WW p):=⟨K8 ⟨hp.1,by omega,by omega⟩,hp.2,λx hx=>by
 obtain h:=eZ.1 hx;dsimp only at h;show x<p;omega,λi j=>⟨by show(0:Int)<=0;omega,by show(0:Int)<=255;omega⟩⟩
theorem aaB:ON bA:=λi _ =>⟨rfl,rfl⟩
theorem aio{p:Int}(hp:1<=p/\p<=64)(q:Int):Cw (JL q) (WW p) bA []:=by
 refine⟨aeW hp,λk=>by rw[y5];exact ahw,λk x hx=>?_,λk j x _ hx=>?_,λx hx=>by simp at hx,List.nodup_nil,aaB,λk a h1 h2=>?_,λx x0 x1=> .inl (eZ.2 ⟨x0,by show x<0+p;have:x<p:=x1;omega⟩)⟩
 ·rw[y5]at hx;exact absurd hx (kO _)
 ·rw[y5]at hx;exact absurd hx (kO _)
 ·rw[y5]at h1 h2
  have h1':0<=a:=h1;have h2':a<32*bE []:=h2;simp[bE]at h2';omega
set_option maxRecDepth 100000 in
theorem ags{n:Nat}(hn:300<=n){q:Int}(hq:0<=q/\q<=64):uK true n (JL q) 0 1 0:=by obtain⟨m,rfl⟩:∃m,n=m+300:=⟨n-300,by omega⟩;exact⟨by omega,by kernel_rfl,by kernel_rfl,by omega,by omega,by kernel_rfl,λe=>by kernel_rfl,λ_ e=>by kernel_rfl,hq,⟨false,by kernel_rfl⟩⟩
theorem ahu{n:Nat}(hn:300<=n){p q:Int}(hp:1<=p/\p<=64)(hq:0<=q/\q<=64):Me n (JL q) (WW p) bA [] 0 1 0:=⟨aio hp q,ags hn hq,by rw[y5];rfl⟩
theorem ais(p q:Int)(k:Nat):Wd (JL q) (WW p) k=λ_ =>0:=by funext a;unfold Wd;rw[aiR];rintro⟨h1,_,h2⟩;rw[y5]at h2;have:a+8<=0:=h2;omega
theorem aht{p:Int}(hp:1<=p/\p<=64):Ca 20000 p=some ⟨[⟨0,p⟩]⟩:=by unfold Ca;rw[aiR (show¬(64<p)by omega),au (by simp;omega)];rfl
def IE(q:Int):aC:={eF with Do:=1,A:=q}
set_option maxRecDepth 100000 in
theorem aaV{q:Int}(hq:0<=q/\q<=64):cq 20000 Xa 0 (IE q) aB=some (JL q,⟨0,0,1⟩,[]):=by
 have hm:wr .i64 (if 65<q then 65 else q)=q:=by rw[aiR (by omega),br (by omega) (by omega)]
 have hqt:lR 20000 q=some true:=by unfold lR;simp[hq.1,hq.2]
 have hf:tF 20000 ei 0 q=some ((JL q).dH.T,1,0):=by
  have hT:nE 20000 ei 0 q=some ((JL q).dH.T,1,0):=by
   unfold nE;rw[tI (by rfl),au (by rfl),ak hqt,au (b:= !true) rfl]
   kernel_rfl
  have hd:mR 20000 ei 0=some 0:=by kernel_rfl
  unfold tF;rw[ak hT,rY (by rfl) hd];rfl
 have hc:ij 20000 (jg Xa 0 (IE q) aB false)=some (.ok (⟨0,0,1⟩,jg (JL q) 0 (IE q) aB false)):=by
  unfold ij;rw[aP,au (by rfl)];show bd (tF 20000 ei 0 (wr .i64 (if 65<q then 65 else q))) _ =_;rw[hm,ak hf]
  kernel_rfl
 have hd:∃i,Hq 1=some (1,i,ij):=⟨_,rfl⟩;obtain⟨i,hi⟩:=hd;have hk:bO 20000 (jg Xa 0 (IE q) aB false)=some (⟨0,0,1⟩,some (jg (JL q) 0 (IE q) aB false)):=by unfold bO;rw[bH (by kernel_rfl),tc1 (by kernel_rfl),show Hq (jg Xa 0 (IE q) aB false).c.Do=_ from hi];exact B7 hc
 unfold cq;rw[aP];show bd (bO 20000 (jg Xa 0 (IE q) aB false)) _ =_;rw[ak hk];rfl
theorem ae5{p q:Int}(hq:0<=q/\q<=64):cI 20000 Xa (WW p) bA [] 0 (IE q)=some (⟨0,0,1⟩,JL q,WW p,bA,[],0):=by
 have U3:fY 20000 Xa 0 (IE q)=some 0:=by unfold fY;rw[ak (Co (by show(1:Int)≠2;omega)),au (by simp),ak (aaV hq)];rfl
 refine kE ?_ (.inr rfl);rw[show(20000:Nat)=19998+1+1 from rfl]at U3 ⊢;rw[Ug (by show(1:Int)≠15;omega) U3 (by kernel_rfl)];have:=DW (n:=19998+1+1) (S:=Xa) (P:=WW p) (M:=bA) (M':=bA) (Q:=[]) (u:=EM 0 (IE q) [] aB 0) (fF:=[]) (x0:=ay) (b0:=false) (pl:=([],4)) (by omega) (.inl (by show(0:Int)<=0;omega)) (by kernel_rfl) (aaV hq) rfl ⟨by show(1:Int)≠3;omega,by show(1:Int)≠4;omega⟩ (by simp) (by simp) (by simp) (PD (t:=0) (by omega) aaB (by omega) (by omega));exact PS (by show(1:Int)≠15;omega) (Co (by show(1:Int)≠2;omega)) this
theorem abY{p q s:Int}(hp:1<=p/\p<=64)(hq:q<=64)(ho:tw s 8=true)(h8:s%8=0)(h1:eY s<=p/\eY s<=q):∃S P,ef 20000 (JL q) (WW p) bA [] 0 1 s 8=some (0,0,S,P,bA,[],0)/\Me 20000 S P bA [] 0 1 0/\P.n=p/\S=iK (JL q) 0 ⟨[⟨0,eY s⟩],s⟩/\(∀j,Wd S P j=λ_ =>0)/\(∀x,bZ P.dX.l x↔eY s<=x/\x<p):=by
 obtain⟨n1,n2,n3⟩:=Cj ho;have E:=ahu (n:=20000) (by omega) hp (show 0<=q/\q<=64 by omega);have hnf:eG (bw (JL q) 0) s 8=false:=by rw[y5];obtain⟨⟨s1,s2⟩,_⟩:=l9.1 ho;unfold eG;rw[ho,Bool.true_and,decide_eq_false_iff_not];show¬(zI 0 8+s<=32*bE []);simp only[bE,List.map_nil,List.sum_nil];unfold zI;omega
 have hin:Ju (WW p).dX.l 0 (eY s):=⟨⟨by omega,by omega,by omega⟩,λx x0 x1=>eZ.2 ⟨x0,by show x<0+p;omega⟩⟩;obtain⟨S',P',Q',q1,q2,E',hW,_,hc⟩:=E.alloc (s:=s) (by omega) ho h8;have hQ:Q'=[]:=q1 rfl;subst hQ;rcases hc with⟨e1,e2,e3,e4,e5⟩|⟨x,l,e1,e2,e3,e4,e5,e6,e7,e8⟩
 ·exfalso
  rcases e5 with h|h
  ·have h1:((JL q).dH.T.aW 0).gD=q:=rfl
   have h2:bE (bw (JL q) 0).aK=0:=by rw[y5];rfl
   omega
  ·refine h 0 ⟨⟨by omega,by omega,by omega⟩,λx x0 x1=>?_⟩
   rcases E'.cw.LC x x0 (by rw[q2];show x<p;omega)with h1|h1|⟨k,h1⟩
   ·exact h1
   ·simp at h1
   ·rw[e2,y5]at h1;exact absurd h1 (kO _)
 ·obtain⟨f1,v,f2,f3⟩:=e8 hnf
  obtain⟨g1,g2,g3⟩:=f3 rfl;have hv:v=0:=by
   have h0:=g1.1.2.1;rcases Int.lt_or_le 0 v with h1|h1
   ·exact absurd hin (g2 0 h1)
   ·omega
  subst hv;have hx:x=0:=by rw[f1,y5];rfl
  subst hx;have hl:l=[⟨0,eY s⟩]:=by rw[f2,y5];rfl
  subst hl;refine⟨S',P',e1,E',q2,by rw[e2,Int.zero_add],λj=>by rw[hW j,ais],λx=>?_⟩;rw[g3];constructor
  ·rintro⟨h1,h2⟩
   have h1':=eZ.1 h1;dsimp only at h1';omega
  ·rintro⟨h1,h2⟩
   exact⟨eZ.2 ⟨by show 0<=x;omega,by show x<0+p;omega⟩,by omega⟩
end Go.Proofs.Z
namespace Go.Proofs.Z
open Go Go.Bw
section
variable {n:Nat} {S S':ae} {P P':aj} {M:ai} {Q Q':List Int} {t h:Int} {k:Nat} {at_:Int}
theorem Rf(hn:200<=n)(E:Mr n S P M Q t h k){x:Int}(h1:mj S k x):cz n S P M Q t h at_ 0 x=some (Wd S P k x,S,P,M,Q,t,h,at_,0):=by unfold cz;rw[au (by rfl),ak (OU hn E.cw E.Fe h1.1 h1.2.2),aP,Wa h1]
theorem Py{e:Int}(he:e≠0){x:Int}:cz n S P M Q t h at_ e x=some (0,S,P,M,Q,t,h,at_,e):=by unfold cz;rw[aU (by simpa using he)]
theorem o6(hn:200<=n)(E:Mr n S P M Q t h k){x:Int}(hr:0<=at_/\at_<=100000)(hx:0<=x/\x<=100)(h1:mj S k (at_+x)):bQ n S P M Q t h at_ 0 x=some (Wd S P k (at_+x),S,P,M,Q,t,h,at_,0):=by unfold bQ;rw[br (by omega) (by omega),ak (Rf hn E h1)]
theorem acr{e:Int}(he:e≠0){x:Int}:bQ n S P M Q t h at_ e x=some (0,S,P,M,Q,t,h,at_,e):=by unfold bQ;rw[ak (Py he)]
theorem Mk(hn:200<=n)(E:Me n S P M Q t h k){x v:Int}(h1:mj S k x)(hv:0<=v/\v<18446744073709551616):cK n S P M Q t h at_ 0 x v=some (S,swP S P k h x v,M,Q,t,h,at_,0):=by unfold cK;rw[aU (by rfl),ak (TC hn E.cw E.Fe h1.1 h1.2.2 hv).1,aP]
theorem Eu{e:Int}(he:e≠0){x v:Int}:cK n S P M Q t h at_ e x v=some (S,P,M,Q,t,h,at_,e):=by unfold cK;rw[au (by simpa using he)]
theorem afG(hn:200<=n)(E:Me n S P M Q t h k){x v:Int}(hr:0<=at_/\at_<=100000)(hx:0<=x/\x<=100)(h1:mj S k (at_+x))(hv:0<=v/\v<18446744073709551616):bh n S P M Q t h at_ 0 x v=some (S,swP S P k h (at_+x) v,M,Q,t,h,at_,0):=by unfold bh;rw[br (by omega) (by omega),ak (Mk hn E h1 hv)]
theorem ri{e:Int}(he:e≠0){x v:Int}:bh n S P M Q t h at_ e x v=some (S,P,M,Q,t,h,at_,e):=by unfold bh;rw[ak (Eu he)]
theorem IZ{x:Int}(h0:0<=x)(h1:x<4294967296):gV n (x+1)=some x:=by unfold gV;rw[au (by simp;omega),sL (by omega) (by omega),br (by omega) (by omega)];congr 1;omega
theorem mO{x:Int}(h0:0<=x)(h1:x<4294967296):gi n x=some (x+1):=by unfold gi;rw[sL (x:=x) (by omega) (by omega),sL (by omega) (by omega)]
end
def Sj(m:Int->Int):List Int->Int->Prop
 |[],l=>l=0
 |x::r,l=>l=x+1/\Sj m r (m x)
theorem gk{m m':Int->Int}:∀{ns:List Int} {l:Int},(∀x∈ns,m' x=m x)->Sj m ns l->Sj m' ns l
 |[],_,_,h=>h
 |x::r,l,hm,⟨h1,h2⟩=>⟨h1,by rw[hm x (by simp)];exact gk (λy hy=>hm y (by simp[hy])) h2⟩
def tY(x y:Int):Prop:=x+16<=y\/y+16<=x
theorem vS{x y:Int}(h:tY x y):tY y x:=Or.symm h
structure Lr(m:Int->Int)(L a:Int)(vs ns sp:List Int):Prop where
 hb:0<=a/\a%8=0/\a+32<=L/\L<=2048
 nb:∀x∈ns++sp,0<=x/\x%8=0/\x+16<=L/\(x+16<=a\/a+32<=x)
 cr:(ns++sp).Pairwise tY
 first:Sj m ns (m a)
 IC:∀pre x,ns=pre++[x]->m (a+8)=x+1
 y8:m (a+16)=ns.length
 spare:Sj m sp (m (a+24))
 val:vs=ns.map λx=>m (x+8)
theorem Lr.len{m:Int->Int}{L a:Int}{vs ns sp:List Int}(h:Lr m L a vs ns sp):vs.length=ns.length:=by rw[h.val,List.length_map]
theorem Lr.frame{m m':Int->Int}{L L' a:Int}{vs ns sp:List Int}(h:Lr m L a vs ns sp)(hL:L<=L'/\L'<=2048)(h0:∀x,x=a\/x=a+8\/x=a+16\/x=a+24->m' x=m x)(hn:∀x,x∈ns++sp->m' x=m x/\m' (x+8)=m (x+8)):Lr m' L' a vs ns sp:=by
 refine⟨⟨h.hb.1,h.hb.2.1,by have:=h.hb;omega,hL.2⟩,λx hx=>?_,h.cr,?_,λpre x e=>?_,?_,?_,?_⟩
 ·obtain⟨a1,a2,a3,a4⟩:=h.nb x hx
  exact⟨a1,a2,by omega,a4⟩
 ·rw[h0 a (.inl rfl)];exact gk (λx hx=>(hn x (by simp[hx])).1) h.first
 ·rw[h0 _ (.inr (.inl rfl))];exact h.IC pre x e
 ·rw[h0 _ (.inr (.inr (.inl rfl)))];exact h.y8
 ·rw[h0 _ (.inr (.inr (.inr rfl)))];exact gk (λx hx=>(hn x (by simp[hx])).1) h.spare
 ·rw[h.val]
  exact List.map_congr_left λx hx=>((hn x (by simp[hx])).2).symm
theorem Lr.Cp{m:Int->Int}{L a:Int}{vs ns sp:List Int}(h:Lr m L a vs ns sp):(ns++sp).length<=128:=by
 have hl:((ns++sp).map λx=>(x+15)/16).length<=128:=by
  refine sB 128 ?_ λp hp=>?_
  ·rw[List.Nodup,List.pairwise_map]
   exact h.cr.imp λ{x y} hxy e=>by unfold tY at hxy;omega
  ·obtain⟨x,hx,rfl⟩:=List.mem_map.1 hp
   obtain⟨a1,_,a3,_⟩:=h.nb x hx;have:=h.hb;exact⟨by omega,by show _ <(128:Int);omega⟩
 rw[List.length_map]at hl;exact hl
theorem NH{l:List Int}(h:l.Pairwise tY){x y:Int}(hx:x∈l)(hy:y∈l):x=y\/tY x y:=by
 induction l with
 |nil=>simp at hx
 |cons z r ih=>
  obtain⟨h1,h2⟩:=List.pairwise_cons.1 h;rcases List.mem_cons.1 hx with ex|hx'<;>rcases List.mem_cons.1 hy with ey|hy'
  ·exact .inl (ex.trans ey.symm)
  ·rw[ex];exact .inr (h1 y hy')
  ·rw[ey];exact .inr (vS (h1 x hx'))
  ·exact ih h2 hx' hy'
theorem Lr.af9{m m':Int->Int}{L a v x:Int}{vs ns sp:List Int}(h:Lr m L a vs ns sp)(hx:0<=x/\x%8=0/\x+16<=L/\(x+16<=a\/a+32<=x))(hf:∀y∈ns++sp,tY x y)
  (e0:m' x=m a)(e1:m' (x+8)=v)(e2:m' a=x+1)(e3:m' (a+8)=if ns.length=0 then x+1 else m (a+8))(e4:m' (a+16)=ns.length+1)(e5:m' (a+24)=m (a+24))(e6:∀y∈ns++sp,m' y=m y/\m' (y+8)=m (y+8)):Lr m' L a (v::vs) (x::ns) sp:=by
 refine⟨h.hb,λy hy=>?_,List.pairwise_cons.2 ⟨hf,h.cr⟩,⟨e2,?_⟩,λpre z e=>?_,?_,?_,?_⟩
 ·rcases List.mem_cons.1 hy with rfl|hy
  ·exact hx
  ·exact h.nb y hy
 ·rw[e0];exact gk (λy hy=>(e6 y (by simp[hy])).1) h.first
 ·rw[e3]
  cases pre with
  |nil=>rw[List.nil_append,List.cons.injEq]at e;rw[e.2,aiQ (by simp),e.1]
  |cons w r=>rw[List.cons_append,List.cons.injEq]at e;rw[aiR (by rw[e.2];simp)];exact h.IC r z e.2
 ·rw[e4];simp
 ·rw[e5];exact gk (λy hy=>(e6 y (by simp[hy])).1) h.spare
 ·rw[List.map_cons,e1,h.val]
  congr 1;exact List.map_congr_left λy hy=>((e6 y (by simp[hy])).2).symm
theorem MG{m m':Int->Int}{y:Int}(h4:m' y=0):∀{ns:List Int} {l:Int},ns≠[]->Sj m ns l->(∀pre z,ns=pre++[z]->(∀w∈pre,m' w=m w)/\m' z=y+1)->Sj m' (ns++[y]) l
 |[],_,hn,_,_ =>absurd rfl hn
 |[x],l,_,⟨h1,_⟩,hm=>⟨h1,by obtain⟨_,h⟩:=hm [] x rfl;exact h,h4⟩
 |x::z::r,l,_,⟨h1,h2⟩,hm=>by
  refine⟨h1,?_⟩;have hx:m' x=m x:=by obtain⟨pre,w,e⟩:∃pre w,z::r=pre++[w]:=⟨(z::r).dropLast,(z::r).getLast (by simp),(List.dropLast_concat_getLast (by simp)).symm⟩;exact(hm (x::pre) w (by rw[e];rfl)).1 x (by simp)
  show Sj m' ((z::r)++[y]) (m' x);rw[hx];exact MG h4 (by simp) h2 λpre w e=>by obtain⟨q1,q2⟩:=hm (x::pre) w (by rw[e];rfl);exact⟨λu hu=>q1 u (by simp[hu]),q2⟩
theorem Lr.fF{m m':Int->Int}{L a v x:Int}{vs ns sp:List Int}(h:Lr m L a vs ns sp)(hx:0<=x/\x%8=0/\x+16<=L/\(x+16<=a\/a+32<=x))(hf:∀y∈ns++sp,tY x y)
  (e0:m' x=0)(e1:m' (x+8)=v)(e2:m' (a+8)=x+1)(e3:m' a=if ns.length=0 then x+1 else m a)(e4:m' (a+16)=ns.length+1)(e5:m' (a+24)=m (a+24))(e6:∀y∈ns++sp,m' (y+8)=m (y+8))(e7:∀y∈sp,m' y=m y)(e8:∀pre z,ns=pre++[z]->(∀w∈pre,m' w=m w)/\m' z=x+1):Lr m' L a (vs++[v]) (ns++[x]) sp:=by
 have hp:((ns++[x])++sp).Perm (x::(ns++sp)):=by rw[List.append_assoc];exact List.perm_middle
 refine⟨h.hb,λy hy=>?_,(List.Perm.pairwise_iff vS hp).2 (List.pairwise_cons.2 ⟨hf,h.cr⟩),?_,λpre z e=>?_,?_,?_,?_⟩
 ·rcases List.mem_cons.1 (hp.mem_iff.1 hy)with rfl|hy
  ·exact hx
  ·exact h.nb y hy
 ·rw[e3]
  cases ns with
  |nil=>exact⟨rfl,e0⟩
  |cons z r=>rw[aiR (by simp)];exact MG e0 (by simp) h.first e8
 ·have:x=z:=by
   have:=congrArg List.getLast? e;rw[List.getLast?_append,List.getLast?_append]at this;simpa using this
  rw[e2,this]
 ·rw[e4];simp
 ·rw[e5];exact gk e7 h.spare
 ·rw[List.map_append,h.val]
  congr 1
  ·exact List.map_congr_left λy hy=>(e6 y (by simp[hy])).symm
  ·simp[e1]
theorem Lr.Jh{m m':Int->Int}{L a v x:Int}{vs ns sp:List Int}(h:Lr m L a (v::vs) (x::ns) sp)
  (e0:m' x=m (a+24))(e2:m' a=m x)(e3:ns≠[]->m' (a+8)=m (a+8))(e4:m' (a+16)=ns.length)(e5:m' (a+24)=x+1)(e6:∀y∈ns++sp,m' y=m y/\m' (y+8)=m (y+8)):Lr m' L a vs ns (x::sp):=by
 have hp:(ns++x::sp).Perm (x::(ns++sp)):=List.perm_middle;have hcr:=h.cr;refine⟨h.hb,λy hy=>h.nb y (hp.mem_iff.1 hy),(List.Perm.pairwise_iff vS hp).2 h.cr,?_,λpre z e=>?_,e4,⟨e5,?_⟩,?_⟩
 ·rw[e2];exact gk (λy hy=>(e6 y (by simp[hy])).1) h.first.2
 ·rw[e3 (by rw[e];simp)]
  exact h.IC (x::pre) z (by rw[e];rfl)
 ·rw[e0];exact gk (λy hy=>(e6 y (by simp[hy])).1) h.spare
 ·have hv:=h.val
  rw[List.map_cons,List.cons.injEq]at hv;rw[hv.2];exact List.map_congr_left λy hy=>((e6 y (by simp[hy])).2).symm
end Go.Proofs.Z
namespace Go.Proofs.Z
open Go Go.Bw
section
variable {n:Nat} {S S':ae} {P P':aj} {M:ai} {Q Q':List Int} {t h:Int} {k:Nat} {a:Int}
theorem uC(hn:200<=n)(E:Me n S P M Q t h k){x v:Int}(h1:mj S k x)(hv:0<=v/\v<18446744073709551616):
  ∃P',cK n S P M Q t h a 0 x v=some (S,P',M,Q,t,h,a,0)/\Me n S P' M Q t h k/\Wd S P' k=Gi (Wd S P k) x v/\Ev S P Q S P' Q k:=by
 obtain⟨w1,w2⟩:=Td (h:=h) E.cw h1 hv;exact⟨_,Mk hn E h1 hv,E.set hn h1 hv,w1,⟨⟨_,(zK S k).symm⟩,w2,id,rfl,Int.le_refl _,λ_ =>rfl⟩⟩
theorem jO(hn:200<=n)(E:Me n S P M Q t h k){x v:Int}(hr:0<=a/\a<=100000)(hx:0<=x/\x<=100)(h1:mj S k (a+x))(hv:0<=v/\v<18446744073709551616):
  ∃P',bh n S P M Q t h a 0 x v=some (S,P',M,Q,t,h,a,0)/\Me n S P' M Q t h k/\Wd S P' k=Gi (Wd S P k) (a+x) v/\Ev S P Q S P' Q k:=by
 obtain⟨w1,w2⟩:=Td (h:=h) E.cw h1 hv;exact⟨_,afG hn E hr hx h1 hv,E.set hn h1 hv,w1,⟨⟨_,(zK S k).symm⟩,w2,id,rfl,Int.le_refl _,λ_ =>rfl⟩⟩
theorem L3(hn:200<=n)(E:Me n S P M Q t h k){vs ns sp:List Int}(R:Lr (Wd S P k) (bw S k).dZ a vs ns sp):
  ∃x S' P' Q' e,iy n S P M Q t h a 0=some (x,S',P',M,Q',t,h,a,e)/\Me n S' P' M Q' t h k/\Ev S P Q S' P' Q' k/\
   ((e=6/\S'=S/\sp=[]/\Q'=[]/\Wd S' P' k=Wd S P k/\x=0/\eG (bw S k) 16 8=false/\((S.dH.T.aW k).gD<bE (bw S k).aK+1\/∀v,¬Ju P'.dX.l v 1))\/
    (e=0/\∃sp',Lr (Wd S' P' k) (bw S' k).dZ a vs ns sp'/\(0<=x/\x%8=0/\x+16<=(bw S' k).dZ/\(x+16<=a\/a+32<=x))/\(∀y∈ns++sp',tY x y)/\
     ((sp.length=sp'.length+1/\S'=S)\/(sp=[]/\sp'=[]/\(bw S k).dZ+16<=(bw S' k).dZ/\((bw S k).dZ%16=0->(bw S' k).dZ=(bw S k).dZ+16)/\(eG (bw S k) 16 8=true->bE (bw S' k).aK=bE (bw S k).aK)/\(eG (bw S k) 16 8=false->bE (bw S' k).aK=bE (bw S k).aK+1)))/\
     ∀z,z=a\/z=a+8\/z=a+16->Wd S' P' k z=Wd S P k z)):=by
 obtain⟨b1,b2,b3,b4⟩:=R.hb;have hin:∀z,z=0\/z=8\/z=16\/z=24->mj S k (a+z):=λz hz=>⟨by omega,by omega,by omega⟩;have ho:tw 16 8=true:=rfl;cases sp with
 |nil=>
  obtain⟨S',P',Q',q1,q2,E',hW,hpg,hc⟩:=E.alloc hn ho rfl;have h0:Wd S P k (a+24)=0:=R.spare;have he:∀{x e:Int},ef n S P M Q t h 16 8=some (x,e,S',P',M,Q',t)->iy n S P M Q t h a 0=some (x,S',P',M,Q',t,h,a,e):=λ{x e} hm=>by unfold iy;rw[ak (o6 hn E.mr ⟨b1,by omega⟩ (by omega) (hin 24 (by omega))),au (by rfl),h0,aU (by rfl),ak hm,aP]
  rcases hc with⟨e1,e2,e3,e4,e5⟩|⟨x,l,e1,e2,e3,e4,e5,e6,e7,e8⟩
  ·subst e2
   refine⟨0,S',P',Q',6,he e1,E',⟨⟨_,(zK S' k).symm⟩,λj _ =>hW j,q1,q2,Int.le_refl _,hpg⟩, .inl ⟨rfl,rfl,rfl,e3,hW k,rfl,e4,?_⟩⟩;rcases e5 with h|h
   ·exact .inl h
   ·exact .inr h
  ·have hlen:(bw S' k).dZ=x+16:=by rw[e2,fS]
   have aaM:(bw S' k).aK=l:=by rw[e2,fS]
   refine⟨x,S',P',Q',0,he e1,E',⟨⟨_,e2⟩,λj _ =>hW j,q1,q2,by omega,hpg⟩, .inr ⟨rfl,[],?_,⟨e5,e4,by omega, .inr (by omega)⟩,λy hy=>?_, .inr ⟨rfl,rfl,by omega,λ_=>?_,λhf=>?_,λhf=>?_⟩,λz _ =>by rw[hW k]⟩⟩
   ·rw[hW k]
    exact R.frame ⟨by omega,by omega⟩ (λ_ _ =>rfl) (λ_ _ =>⟨rfl,rfl⟩)
   ·have:=(R.nb y hy).2.2.1
    exact .inr (by omega)
   ·have hm:=E.cw.may k
    have h1:=hm.hi;have h2:=hm.lo;cases hf:eG (bw S k) 16 8 with
    |true=>rw[hlen,(e7 hf).1];unfold zI;omega
    |false=>rw[hlen,(e8 hf).1];unfold eG at hf;rw[ho,Bool.true_and,decide_eq_false_iff_not]at hf;unfold zI at hf;omega
   ·rw[aaM,(e7 hf).2.1]
   ·obtain⟨v,hv,_⟩:=(e8 hf).2
    rw[aaM,hv,oL,wu];rfl
 |cons y sp'=>
  have hy:Wd S P k (a+24)=y+1:=R.spare.1;obtain⟨y1,y2,y3,y4⟩:=R.nb y (by simp);have hyi:mj S k (y+0):=⟨by omega,by omega,by omega⟩;have Xj:=zi E.cw k (y+0);obtain⟨P',f1,f2,f3,f4⟩:=jO (a:=a) hn E ⟨b1,by omega⟩ (x:=24) (by omega) (hin 24 (by omega)) Xj;have M7:=R.cr;have hp:(ns++y::sp').Perm (y::(ns++sp')):=List.perm_middle;have afM:=List.pairwise_cons.1 ((List.Perm.pairwise_iff vS hp).1 M7);have hnb:∀z∈ns++sp',0<=z/\z%8=0/\z+16<=(bw S k).dZ/\(z+16<=a\/a+32<=z):=λz hz=>R.nb z (hp.mem_iff.2 (by simp[hz]));refine⟨y,S,P',Q,0,?_,f2,f4, .inr ⟨rfl,sp',?_,⟨y1,y2,y3,y4⟩,afM.1, .inl ⟨by simp,rfl⟩,λz hz=>by rw[f3,Fy _ _ (by omega)]⟩⟩
  ·unfold iy
   rw[ak (o6 hn E.mr ⟨b1,by omega⟩ (by omega) (hin 24 (by omega))),au (by rfl),hy,au (by simp;omega),ak (IZ (by omega) (by omega)),br (by omega) (by omega),ak (Rf hn E.mr hyi),ak f1,ak (IZ (by omega) (by omega))]
  ·have DM:∀z,z≠a+24->Wd S P' k z=Wd S P k z:=λz hz=>by rw[f3,Fy _ _ hz]
   refine⟨R.hb,hnb,afM.2,?_,λpre z e=>?_,?_,?_,?_⟩
   ·rw[DM a (by omega)]
    exact gk (λz hz=>DM z (by have:=hnb z (by simp[hz]);omega)) R.first
   ·rw[DM _ (by omega)];exact R.IC pre z e
   ·rw[DM _ (by omega)];exact R.y8
   ·have UP:Wd S P' k (a+24)=Wd S P k y:=by rw[f3,J8,Int.add_zero]
    rw[UP];exact gk (λz hz=>DM z (by have:=hnb z (by simp[hz]);omega)) R.spare.2
   ·rw[R.val]
    exact List.map_congr_left λz hz=>(DM _ (by have:=hnb z (by simp[hz]);omega)).symm
end
end Go.Proofs.Z
namespace Go.Proofs.Z
open Go Go.Bw
section
variable {n:Nat} {S S':ae} {P P':aj} {M:ai} {Q Q':List Int} {t h:Int} {k:Nat} {a:Int}
def Oom(S:ae)(k:Nat)(P':aj):Prop:=eG (bw S k) 16 8=false/\((S.dH.T.aW k).gD<bE (bw S k).aK+1\/∀v,¬Ju P'.dX.l v 1)
def WX(S S':ae)(k:Nat)(ns sp ns' sp':List Int):Prop:=ns'.length=ns.length+1/\ ((sp.length=sp'.length+1/\S'=S)\/(sp=[]/\sp'=[]/\(bw S k).dZ+16<=(bw S' k).dZ/\((bw S k).dZ%16=0->(bw S' k).dZ=(bw S k).dZ+16)/\(eG (bw S k) 16 8=true->bE (bw S' k).aK=bE (bw S k).aK)/\(eG (bw S k) 16 8=false->bE (bw S' k).aK=bE (bw S k).aK+1)))
theorem Rq(hn:200<=n)(E:Me n S P M Q t h k){vs ns sp:List Int}(R:Lr (Wd S P k) (bw S k).dZ a vs ns sp){v:Int}(hv:0<=v/\v<18446744073709551616):
  ∃S' P' Q' e,kQ n S P M Q t h a v=some (e,S',P',M,Q',t,h,a)/\Me n S' P' M Q' t h k/\Ev S P Q S' P' Q' k/\
   ((e=6/\S'=S/\sp=[]/\Q'=[]/\Wd S' P' k=Wd S P k/\Oom S k P')\/
    (e=0/\∃ns' sp',Lr (Wd S' P' k) (bw S' k).dZ a (v::vs) ns' sp'/\WX S S' k ns sp ns' sp')):=by
 obtain⟨b1,b2,b3,b4⟩:=R.hb;have hin:∀z,z=0\/z=8\/z=16\/z=24->mj S k (a+z):=λz hz=>⟨by omega,by omega,by omega⟩;have har:0<=a/\a<=100000:=⟨b1,by omega⟩;have hm:=R.Cp;rw[List.length_append]at hm;obtain⟨x,S1,P1,Q1,e,n1,E1,V1,hc⟩:=L3 hn E R;unfold kQ;rw[ak (o6 hn E.mr har (by omega) (hin 16 (by omega))),ak (o6 hn E.mr har (by omega) (hin 0 (by omega))),ak n1];rcases hc with⟨rfl,rfl,e3,e4,e5,rfl,e6,e7⟩|⟨rfl,sp',R1,hx,hf,hs⟩
 ·have h6:(6:Int)≠0:=by omega
  rw[ak (Eu h6),ak (Eu h6),ak (mO (x:=0) (by omega) (by omega)),ak (ri h6),aP];refine⟨S1,P1,Q1,6,?_,E1,V1, .inl ⟨rfl,rfl,e3,e4,e5,e6,e7⟩⟩;by_cases c:(Wd S1 P k (a+16)==0)=true
  ·rw[aU c]
   dsimp only;rw[ak (mO (x:=0) (by omega) (by omega)),ak (ri h6)];dsimp only;rw[ak (ri h6)]
  ·rw[au (by simpa using c)]
   dsimp only;rw[ak (ri h6)]
 ·replace hs:((sp.length=sp'.length+1/\S1=S)\/(sp=[]/\sp'=[]/\(bw S k).dZ+16<=(bw S1 k).dZ/\((bw S k).dZ%16=0->(bw S1 k).dZ=(bw S k).dZ+16)/\(eG (bw S k) 16 8=true->bE (bw S1 k).aK=bE (bw S k).aK)/\(eG (bw S k) 16 8=false->bE (bw S1 k).aK=bE (bw S k).aK+1)))/\∀z,z=a\/z=a+8\/z=a+16->Wd S1 P1 k z=Wd S P k z:=hs
  obtain⟨x0,x1,x2,x3⟩:=hx;have hL1:=R1.hb.2.2.2;have Oa:∀z,z=0\/z=8\/z=16\/z=24->mj S1 k (a+z):=λz hz=>⟨by omega,by omega,by have:=V1.len;omega⟩;have hw0:=zi E.cw k (a+0);have xN:Wd S P k (a+16)=ns.length:=R.y8;obtain⟨P2,f2,E2,W2,V2⟩:=uC (a:=a) hn E1 (x:=x+0) (v:=Wd S P k (a+0)) ⟨by omega,by omega,by omega⟩ hw0;obtain⟨P3,f3,E3,W3,V3⟩:=uC (a:=a) hn E2 (x:=x+8) (v:=v) ⟨by omega,by omega,by omega⟩ hv;obtain⟨P4,f4,E4,W4,V4⟩:=jO (a:=a) hn E3 har (x:=0) (v:=x+1) (by omega) (Oa 0 (by omega)) (by omega);rw[br (x:=x+0) (by omega) (by omega),br (x:=x+8) (by omega) (by omega),ak f2,ak f3,ak (mO (by omega) (by omega)),ak f4,aP];have hnb:=R1.nb;have hold:∀z,z=a\/z=a+8\/z=a+16->Wd S1 P1 k z=Wd S P k z:=hs.2;have fin:∀{P5:aj},Me n S1 P5 M Q1 t h k->Ev S1 P1 Q1 S1 P5 Q1 k->Wd S1 P5 k=(if ns.length=0 then Gi (Wd S1 P4 k) (a+8) (x+1)else Wd S1 P4 k)->
    ∃S' P' Q' e,(bd (bh n S1 P5 M Q1 t h a 0 16 (wr .u64 ((ns.length:Int)+1))) λdV=>some (dV.2.2.2.2.2.2.2,dV.1,dV.2.1,dV.2.2.1,dV.2.2.2.1,dV.2.2.2.2.1,h,a))=some (e,S',P',M,Q',t,h,a)/\Me n S' P' M Q' t h k/\Ev S P Q S' P' Q' k/\
     ((e=6/\S'=S/\sp=[]/\Q'=[]/\Wd S' P' k=Wd S P k/\Oom S k P')\/
      (e=0/\∃ns' sp',Lr (Wd S' P' k) (bw S' k).dZ a (v::vs) ns' sp'/\WX S S' k ns sp ns' sp')):=by
   intro P5 E5 V5 W5;obtain⟨P6,f6,E6,W6,V6⟩:=jO (a:=a) hn E5 har (x:=16) (v:=(ns.length:Int)+1) (by omega) (Oa 16 (by omega)) (by omega);rw[sL (by omega) (by omega),ak f6];refine⟨S1,P6,Q1,0,rfl,E6,V1.trans (V5.trans V6), .inr ⟨rfl,x::ns,sp',?_,by simp,hs.1⟩⟩;have hW:∀z,Wd S1 P6 k z=if z=a+16 then(ns.length:Int)+1 else if ns.length=0/\z=a+8 then x+1 else if z=a then x+1 else if z=x+8 then v else if z=x then Wd S1 P1 k a else Wd S1 P1 k z:=by
    intro z;rw[W6,W5,W4,W3,W2,Int.add_zero,Int.add_zero,hold a (by omega)];unfold Gi;by_cases c:ns.length=0
    ·rw[aiQ c];simp only[c,true_and]
    ·rw[aiR c];simp only[c,false_and,if_false]
   refine R1.af9 ⟨x0,x1,x2,x3⟩ hf ?_ ?_ ?_ ?_ ?_ ?_ λy hy=>?_
   ·rw[hW,aiR (by omega),aiR (by omega),aiR (by omega),aiR (by omega),aiQ rfl]
   ·rw[hW,aiR (by omega),aiR (by omega),aiR (by omega),aiQ rfl]
   ·rw[hW,aiR (by omega),aiR (by omega),aiQ rfl]
   ·rw[hW,aiR (by omega)]
    by_cases c:ns.length=0
    ·rw[aiQ ⟨c,rfl⟩,aiQ c]
    ·rw[aiR (λq=>c q.1),aiR c,aiR (by omega),aiR (by omega),aiR (by omega)]
   ·rw[hW,aiQ rfl]
   ·rw[hW,aiR (by omega),aiR (by omega),aiR (by omega),aiR (by omega),aiR (by omega)]
   ·have q1:=R1.nb y hy
    have q2:=hf y hy;unfold tY at q2;constructor<;>rw[hW,aiR (by omega),aiR (by omega),aiR (by omega),aiR (by omega),aiR (by omega)]
  by_cases c:ns.length=0
  ·rw[aU (by rw[xN,c];rfl)]
   dsimp only;obtain⟨P5,f5,E5,W5,V5⟩:=jO (a:=a) hn E4 har (x:=8) (v:=x+1) (by omega) (Oa 8 (by omega)) (by omega);rw[ak (mO (by omega) (by omega)),ak f5];dsimp only;rw[xN];exact fin E5 (V2.trans (V3.trans (V4.trans V5))) (by rw[W5,aiQ c])
  ·rw[au (by rw[xN];exact beq_eq_false_iff_ne.2 (by omega))]
   dsimp only;rw[xN];exact fin E4 (V2.trans (V3.trans V4)) (by rw[aiR c])
theorem Ta(n:Nat)(x:Int):∃y,gV n x=some y:=by
 unfold gV;cases((x==0)||decide (4294967296<x))with
 |true=>exact⟨_,rfl⟩
 |false=>exact⟨_,rfl⟩
theorem XQ{ns:List Int}(h:ns.length≠0):∃pre z,ns=pre++[z]:=⟨ns.dropLast,ns.getLast (by intro e;rw[e]at h;exact h rfl),(List.dropLast_concat_getLast _).symm⟩
theorem VO(hn:200<=n)(E:Me n S P M Q t h k){vs ns sp:List Int}(R:Lr (Wd S P k) (bw S k).dZ a vs ns sp){v:Int}(hv:0<=v/\v<18446744073709551616):
  ∃S' P' Q' e,jN n S P M Q t h a v=some (e,S',P',M,Q',t,h,a)/\Me n S' P' M Q' t h k/\Ev S P Q S' P' Q' k/\
   ((e=6/\S'=S/\sp=[]/\Q'=[]/\Wd S' P' k=Wd S P k/\Oom S k P')\/
    (e=0/\∃ns' sp',Lr (Wd S' P' k) (bw S' k).dZ a (vs++[v]) ns' sp'/\WX S S' k ns sp ns' sp')):=by
 obtain⟨b1,b2,b3,b4⟩:=R.hb;have hin:∀z,z=0\/z=8\/z=16\/z=24->mj S k (a+z):=λz hz=>⟨by omega,by omega,by omega⟩;have har:0<=a/\a<=100000:=⟨b1,by omega⟩;have hm:=R.Cp;rw[List.length_append]at hm;obtain⟨x,S1,P1,Q1,e,n1,E1,V1,hc⟩:=L3 hn E R;unfold jN;rw[ak (o6 hn E.mr har (by omega) (hin 16 (by omega))),ak (o6 hn E.mr har (by omega) (hin 8 (by omega))),ak n1];rcases hc with⟨rfl,rfl,e3,e4,e5,rfl,e6,e7⟩|⟨rfl,sp',R1,hx,hf,hs,hold⟩
 ·have h6:(6:Int)≠0:=by omega
  rw[ak (Eu h6),ak (Eu h6),aP];refine⟨S1,P1,Q1,6,?_,E1,V1, .inl ⟨rfl,rfl,e3,e4,e5,e6,e7⟩⟩;by_cases c:(Wd S1 P k (a+16)==0)=true
  ·rw[aU c]
   dsimp only;rw[ak (mO (x:=0) (by omega) (by omega)),ak (ri h6)];dsimp only;rw[ak (mO (x:=0) (by omega) (by omega)),ak (ri h6),ak (ri h6)]
  ·rw[au (by simpa using c)]
   dsimp only;obtain⟨y,hy⟩:=Ta n (Wd S1 P k (a+8));rw[ak hy,ak (mO (x:=0) (by omega) (by omega)),ak (Eu h6)];dsimp only;rw[ak (mO (x:=0) (by omega) (by omega)),ak (ri h6),ak (ri h6)]
 ·obtain⟨x0,x1,x2,x3⟩:=hx
  have hL1:=R1.hb.2.2.2;have Oa:∀z,z=0\/z=8\/z=16\/z=24->mj S1 k (a+z):=λz hz=>⟨by omega,by omega,by have:=V1.len;omega⟩;have xN:Wd S P k (a+16)=ns.length:=R.y8;obtain⟨P2,f2,E2,W2,V2⟩:=uC (a:=a) hn E1 (x:=x+0) (v:=0) ⟨by omega,by omega,by omega⟩ (by omega);obtain⟨P3,f3,E3,W3,V3⟩:=uC (a:=a) hn E2 (x:=x+8) (v:=v) ⟨by omega,by omega,by omega⟩ hv;rw[br (x:=x+0) (by omega) (by omega),br (x:=x+8) (by omega) (by omega),ak f2,ak f3,aP];have fin:∀{P5:aj} {b w:Int},(ns.length=0/\b=a/\w=x+1\/(∃pre,ns=pre++[b]/\w=x+1))->Me n S1 P5 M Q1 t h k->Ev S1 P1 Q1 S1 P5 Q1 k->Wd S1 P5 k=Gi (Wd S1 P3 k) b w->
    ∃S' P' Q' e,(bd (gi n x) λfR=>bd (bh n S1 P5 M Q1 t h a 0 8 fR) λjx=>bd (bh n jx.1 jx.2.1 jx.2.2.1 jx.2.2.2.1 jx.2.2.2.2.1 jx.2.2.2.2.2.1 jx.2.2.2.2.2.2.1 jx.2.2.2.2.2.2.2 16 (wr .u64 ((ns.length:Int)+1))) λdV=>some (dV.2.2.2.2.2.2.2,dV.1,dV.2.1,dV.2.2.1,dV.2.2.2.1,dV.2.2.2.2.1,h,a))=some (e,S',P',M,Q',t,h,a)/\Me n S' P' M Q' t h k/\Ev S P Q S' P' Q' k/\
     ((e=6/\S'=S/\sp=[]/\Q'=[]/\Wd S' P' k=Wd S P k/\Oom S k P')\/
      (e=0/\∃ns' sp',Lr (Wd S' P' k) (bw S' k).dZ a (vs++[v]) ns' sp'/\WX S S' k ns sp ns' sp')):=by
   intro P5 b w hb E5 V5 W5;obtain⟨P6,f6,E6,W6,V6⟩:=jO (a:=a) hn E5 har (x:=8) (v:=x+1) (by omega) (Oa 8 (by omega)) (by omega);obtain⟨P7,f7,E7,W7,V7⟩:=jO (a:=a) hn E6 har (x:=16) (v:=(ns.length:Int)+1) (by omega) (Oa 16 (by omega)) (by omega);rw[ak (mO (by omega) (by omega)),ak f6,sL (by omega) (by omega),ak f7];refine⟨S1,P7,Q1,0,rfl,E7,V1.trans (V5.trans (V6.trans V7)), .inr ⟨rfl,ns++[x],sp',?_,by simp,hs⟩⟩;have hW:∀z,Wd S1 P7 k z=if z=a+16 then(ns.length:Int)+1 else if z=a+8 then x+1 else if z=b then w else if z=x+8 then v else if z=x then 0 else Wd S1 P1 k z:=by intro z;rw[W7,W6,W5,W3,W2,Int.add_zero];rfl
   have hbn:(ns.length=0/\b=a)\/(ns.length≠0/\b∈ns++sp'):=by
    rcases hb with⟨c1,c2,_⟩|⟨pre,c1,_⟩
    ·exact .inl ⟨c1,c2⟩
    ·exact .inr ⟨by rw[c1];simp,by rw[c1];simp⟩
   have hbx:b=a\/(b≠a/\b≠a+8/\b≠a+16/\b≠a+24/\b≠x/\b≠x+8):=by
    rcases hbn with⟨_,c2⟩|⟨_,c2⟩
    ·exact .inl c2
    ·have q1:=R1.nb b c2
     have q2:=hf b c2;unfold tY at q2;exact .inr ⟨by omega,by omega,by omega,by omega,by omega,by omega⟩
   have hw:w=x+1:=by rcases hb with⟨_,_,c⟩|⟨_,_,c⟩<;>exact c
   have hne:∀y∈ns++sp',∀z,(z=y/\y≠b)\/z=y+8->Wd S1 P7 k z=Wd S1 P1 k z:=λy hy z hz=>by
    have q1:=R1.nb y hy;have q2:=hf y hy;unfold tY at q2;have q3:y+8≠b:=by
     rcases hbn with⟨_,c2⟩|⟨_,c2⟩
     ·omega
     ·rcases NH R1.cr hy c2 with c|c
      ·omega
      ·unfold tY at c;omega
    rw[hW,aiR (by omega),aiR (by omega),aiR (by omega),aiR (by omega),aiR (by omega)]
   refine R1.fF ⟨x0,x1,x2,x3⟩ hf ?_ ?_ ?_ ?_ ?_ ?_ (λy hy=>hne y hy _ (.inr rfl)) (λy hy=>hne y (by simp[hy]) _ (.inl ⟨rfl,?_⟩)) λpre z e=>⟨λy hy=>hne y (by rw[e];simp[hy]) _ (.inl ⟨rfl,?_⟩),?_⟩
   ·rw[hW,aiR (by omega),aiR (by omega),aiR (by omega),aiR (by omega),aiQ rfl]
   ·rw[hW,aiR (by omega),aiR (by omega),aiR (by omega),aiQ rfl]
   ·rw[hW,aiR (by omega),aiQ rfl]
   ·by_cases c:ns.length=0
    ·rw[hW,aiR (by omega),aiR (by omega),aiQ (by rcases hbn with⟨_,c2⟩|⟨c1,_⟩<;>omega),aiQ c,hw]
    ·have q:a≠b:=by
      rcases hbn with⟨c1,_⟩|⟨_,c2⟩
      ·exact absurd c1 c
      ·have:=R1.nb b c2;omega
     rw[hW,aiR (by omega),aiR (by omega),aiR q,aiR (by omega),aiR (by omega),aiR c]
   ·rw[hW,aiQ rfl]
   ·rw[hW,aiR (by omega),aiR (by omega),aiR (by omega),aiR (by omega),aiR (by omega)]
   ·intro e
    subst e;rcases hb with⟨_,c2,_⟩|⟨pre,c1,_⟩
    ·have:=R1.nb y (by simp[hy]);omega
    ·have h1:=(List.pairwise_append.1 R1.cr).2.2 y (by rw[c1];simp) y hy
     unfold tY at h1;omega
   ·intro e'
    subst e';rcases hb with⟨c1,_,_⟩|⟨pre',c1,_⟩
    ·rw[e]at c1;simp at c1
    ·have h1:=(List.pairwise_append.1 R1.cr).1
     have hz:y=z:=by have:=congrArg List.getLast? (c1.symm.trans e);rw[List.getLast?_append,List.getLast?_append]at this;simpa using this
     subst hz;rw[e]at h1;have h2:=(List.pairwise_append.1 h1).2.2 y hy y (by simp);unfold tY at h2;omega
   ·have q:z=b:=by
     rcases hb with⟨c1,_,_⟩|⟨pre',c1,_⟩
     ·rw[e]at c1;simp at c1
     ·have:=congrArg List.getLast? (e.symm.trans c1)
      rw[List.getLast?_append,List.getLast?_append]at this;simpa using this
    have q1:=R1.nb z (by rw[e];simp);rw[hW,aiR (by omega),aiR (by omega),aiQ q,hw]
  by_cases c:ns.length=0
  ·rw[aU (by rw[xN,c];rfl)]
   dsimp only;obtain⟨P5,f5,E5,W5,V5⟩:=jO (a:=a) hn E3 har (x:=0) (v:=x+1) (by omega) (Oa 0 (by omega)) (by omega);rw[ak (mO (by omega) (by omega)),ak f5];dsimp only;rw[xN];exact fin (.inl ⟨c,rfl,rfl⟩) E5 (V2.trans (V3.trans V5)) (by rw[W5,Int.add_zero])
  ·obtain⟨pre,z,hz⟩:=XQ c
   have hl:Wd S P k (a+8)=z+1:=R.IC pre z hz;have q1:=R1.nb z (by rw[hz];simp);rw[au (by rw[xN];exact beq_eq_false_iff_ne.2 (by omega))];dsimp only;obtain⟨P5,f5,E5,W5,V5⟩:=uC (a:=a) hn E3 (x:=z+0) (v:=x+1) ⟨by omega,by omega,by omega⟩ (by omega);rw[hl,ak (IZ (by omega) (by omega)),ak (mO (by omega) (by omega)),br (x:=z+0) (by omega) (by omega),ak f5];dsimp only;rw[xN];exact fin (b:=z) (.inr ⟨pre,hz,rfl⟩) E5 (V2.trans (V3.trans V5)) (by rw[W5,Int.add_zero])
end
end Go.Proofs.Z
namespace Go.Proofs.Z
open Go Go.Bw
section
variable {n:Nat} {S S':ae} {P P':aj} {M:ai} {Q Q':List Int} {t h:Int} {k:Nat} {a:Int}
theorem abN(hn:200<=n)(E:Me n S P M Q t h k){sp:List Int}(R:Lr (Wd S P k) (bw S k).dZ a [] [] sp):jr n S P M Q t h a=some (0,10,S,P,M,Q,t,h,a):=by
 obtain⟨b1,b2,b3,b4⟩:=R.hb;have hin:∀z,z=0\/z=8\/z=16\/z=24->mj S k (a+z):=λz hz=>⟨by omega,by omega,by omega⟩;have har:0<=a/\a<=100000:=⟨b1,by omega⟩;have h10:(10:Int)≠0:=by omega
 have xN:Wd S P k (a+16)=0:=R.y8;unfold jr;rw[ak (o6 hn E.mr har (by omega) (hin 16 (by omega))),ak (o6 hn E.mr har (by omega) (hin 0 (by omega))),ak (o6 hn E.mr har (by omega) (hin 24 (by omega))),aP,xN,aU (by rfl)];dsimp only;obtain⟨y,hy⟩:=Ta n (Wd S P k (a+0));rw[ak hy,ak (Py h10),ak (Py h10),aP,ak (Eu h10),ak (ri h10),ak (ri h10),aP,au (by rfl)];dsimp only;rw[ak (ri h10),aP,aU (by rfl)];rfl
theorem Yj(hn:200<=n)(E:Me n S P M Q t h k){v:Int}{vs ns sp:List Int}(R:Lr (Wd S P k) (bw S k).dZ a (v::vs) ns sp):
  ∃P' ns' sp',jr n S P M Q t h a=some (v,0,S,P',M,Q,t,h,a)/\Me n S P' M Q t h k/\Ev S P Q S P' Q k/\Lr (Wd S P' k) (bw S k).dZ a vs ns' sp'/\ns.length=ns'.length+1/\sp'.length=sp.length+1:=by
 obtain⟨b1,b2,b3,b4⟩:=R.hb;have hin:∀z,z=0\/z=8\/z=16\/z=24->mj S k (a+z):=λz hz=>⟨by omega,by omega,by omega⟩;have har:0<=a/\a<=100000:=⟨b1,by omega⟩;have hm:=R.Cp;rw[List.length_append]at hm;obtain⟨x,r,rfl⟩:∃x r,ns=x::r:=by
  cases ns with
  |nil=>have:=R.val;simp at this
  |cons x r=>exact⟨x,r,rfl⟩
 obtain⟨x0,x1,x2,x3⟩:=R.nb x (by simp);have xN:Wd S P k (a+16)=(r.length:Int)+1:=by rw[R.y8];simp
 have KT:Wd S P k (a+0)=x+1:=by rw[Int.add_zero];exact R.first.1
 have hv:v=Wd S P k (x+8):=by have:=R.val;rw[List.map_cons,List.cons.injEq]at this;exact this.1
 have hx0:mj S k (x+0):=⟨by omega,by omega,by omega⟩;have hx8:mj S k (x+8):=⟨by omega,by omega,by omega⟩;rw[List.length_cons]at hm;obtain⟨P2,f2,E2,W2,V2⟩:=uC (a:=a) hn E hx0 (zi E.cw k (a+24));obtain⟨P3,f3,E3,W3,V3⟩:=jO (a:=a) hn E2 har (x:=24) (v:=x+1) (by omega) (hin 24 (by omega)) (by omega);obtain⟨P4,f4,E4,W4,V4⟩:=jO (a:=a) hn E3 har (x:=0) (v:=Wd S P k (x+0)) (by omega) (hin 0 (by omega)) (zi E.cw k (x+0));unfold jr;rw[ak (o6 hn E.mr har (by omega) (hin 16 (by omega))),ak (o6 hn E.mr har (by omega) (hin 0 (by omega))),ak (o6 hn E.mr har (by omega) (hin 24 (by omega))),aP,xN,KT,au (by simp;omega)];dsimp only;rw[ak (IZ (by omega) (by omega)),br (x:=x+0) (by omega) (by omega),br (x:=x+8) (by omega) (by omega),ak (Rf hn E.mr hx0),ak (Rf hn E.mr hx8),aP,ak f2,ak f3,ak f4,aP];have fin:∀{P5:aj},Me n S P5 M Q t h k->Ev S P Q S P5 Q k->Wd S P5 k=(if r.length=0 then Gi (Wd S P4 k) (a+8) 0 else Wd S P4 k)->
   ∃P' ns' sp',(bd (bh n S P5 M Q t h a 0 16 (wr .u64 ((r.length:Int)+1-1))) λqW=>lt (λ(ua:Int)=>lt (ua:Int) λJU=>some (JU,qW.2.2.2.2.2.2.2,qW.1,qW.2.1,qW.2.2.1,qW.2.2.2.1,qW.2.2.2.2.1,h,a)) λUF=>cn ((qW.2.2.2.2.2.2.2!=0)) (UF 0) (UF (Wd S P k (x+8))))=some (v,0,S,P',M,Q,t,h,a)/\Me n S P' M Q t h k/\Ev S P Q S P' Q k/\Lr (Wd S P' k) (bw S k).dZ a vs ns' sp'/\(x::r).length=ns'.length+1/\sp'.length=sp.length+1:=by
  intro P5 E5 V5 W5;obtain⟨P6,f6,E6,W6,V6⟩:=jO (a:=a) hn E5 har (x:=16) (v:=(r.length:Int)+1-1) (by omega) (hin 16 (by omega)) (by omega);rw[sL (by omega) (by omega),ak f6,aP,au (by rfl)];dsimp only;rw[aP, ← hv];refine⟨P6,r,x::sp,rfl,E6,V5.trans V6,?_,by simp,by simp⟩;have hW:∀z,Wd S P6 k z=if z=a+16 then(r.length:Int)+1-1 else if r.length=0/\z=a+8 then 0 else if z=a then Wd S P k x else if z=a+24 then x+1 else if z=x then Wd S P k (a+24)else Wd S P k z:=by
   intro z;rw[W6,W5,W4,W3,W2,Int.add_zero,Int.add_zero];unfold Gi;by_cases c:r.length=0
   ·rw[aiQ c];simp only[c,true_and]
   ·rw[aiR c];simp only[c,false_and,if_false]
  refine R.Jh ?_ ?_ (λhr=>?_) ?_ ?_ λy hy=>?_
  ·rw[hW,aiR (by omega),aiR (by omega),aiR (by omega),aiR (by omega),aiQ rfl]
  ·rw[hW,aiR (by omega),aiR (by omega),aiQ rfl]
  ·have:r.length≠0:=λq=>hr (List.length_eq_zero_iff.1 q)
   rw[hW,aiR (by omega),aiR (λq=>this q.1),aiR (by omega),aiR (by omega),aiR (by omega)]
  ·rw[hW,aiQ rfl];omega
  ·rw[hW,aiR (by omega),aiR (by omega),aiR (by omega),aiQ rfl]
  ·have q1:=R.nb y (by simp at hy ⊢;exact .inr hy)
   have q2:=(List.pairwise_cons.1 R.cr).1 y hy;unfold tY at q2;constructor<;>rw[hW,aiR (by omega),aiR (by omega),aiR (by omega),aiR (by omega),aiR (by omega)]
 by_cases c:r.length=0
 ·obtain⟨P5,f5,E5,W5,V5⟩:=jO (a:=a) hn E4 har (x:=8) (v:=0) (by omega) (hin 8 (by omega)) (by omega)
  rw[aU (by rw[c];rfl),ak f5];dsimp only;exact fin E5 (V2.trans (V3.trans (V4.trans V5))) (by rw[W5,aiQ c])
 ·rw[au (by exact beq_eq_false_iff_ne.2 (by omega))]
  dsimp only;exact fin E4 (V2.trans (V3.trans V4)) (by rw[aiR c])
theorem YJ(hn:200<=n)(E:Mr n S P M Q t h k){vs ns sp:List Int}(R:Lr (Wd S P k) (bw S k).dZ a vs ns sp):nn n S P M Q t h a=some ((vs.length:Int),0,S,P,M,Q,t,h,a):=by obtain⟨b1,b2,b3,b4⟩:=R.hb;have hm:=R.Cp;rw[List.length_append]at hm;unfold nn;rw[ak (o6 hn E ⟨b1,by omega⟩ (by omega) ⟨by omega,by omega,by omega⟩),aP,aP,R.y8,br (by omega) (by omega),R.len]
end
end Go.Proofs.Z
namespace Go.Proofs.Z
open Go Go.Bw
theorem Lr.Af{m m':Int->Int}{L a w x0:Int}{vs r sp:List Int}(h:Lr m L a vs (x0::r) sp)(e0:m' a=w)(e1:Sj m' (x0::r).reverse w)(e2:m' (a+8)=x0+1)(e3:m' (a+16)=m (a+16))(e4:m' (a+24)=m (a+24))(e5:∀y∈sp,m' y=m y)(e6:∀y∈(x0::r)++sp,m' (y+8)=m (y+8)):Lr m' L a vs.reverse (x0::r).reverse sp:=by
 have hp:((x0::r).reverse++sp).Perm ((x0::r)++sp):=(List.reverse_perm _).append_right _;refine⟨h.hb,λy hy=>h.nb y (hp.mem_iff.1 hy),(List.Perm.pairwise_iff vS hp).2 h.cr,by rw[e0];exact e1,λpre z e=>?_,?_,?_,?_⟩
 ·have:x0=z:=by
   have:=congrArg List.getLast? e;rw[List.reverse_cons,List.getLast?_append,List.getLast?_append]at this;simpa using this
  rw[e2,this]
 ·rw[e3,h.y8];simp
 ·rw[e4];exact gk e5 h.spare
 ·rw[h.val, ← List.map_reverse]
  exact List.map_congr_left λy hy=>(e6 y (by rw[List.mem_reverse]at hy;exact aiX _ hy)).symm
section
variable {n:Nat} {S S':ae} {P P':aj} {M:ai} {Q Q':List Int} {t h:Int} {k:Nat} {a:Int}
theorem aey(hn:200<=n)(E:Me n S P M Q t h k){vs ns sp:List Int}(R:Lr (Wd S P k) (bw S k).dZ a vs ns sp):
  ∃P',(wH (λk83 (JP:Int) (x74:Int) (x75:ae) (C5:aj) (Sz:ai) (QB:(List Int)) (QA:Int) (x80:Int) (Xv:Int) (x82:Int)=>cn (decide (JP<(ns.length:Int))) (gu (dg JP ns.length)<|bd (cK n x75 C5 Sz QB QA x80 Xv x82 (wr .i64 ((ns.getD (Int.toNat JP) default)+0)) x74) λEN=>bd (gi n (ns.getD (Int.toNat JP) default)) λXu=>k83 (wr .i64 (JP+1)) Xu EN.1 EN.2.1 EN.2.2.1 EN.2.2.2.1 EN.2.2.2.2.1 EN.2.2.2.2.2.1 EN.2.2.2.2.2.2.1 EN.2.2.2.2.2.2.2) (cn (decide (0<(ns.length:Int))) (bd (bh n x75 C5 Sz QB QA x80 Xv x82 0 x74) λLv=>gu (dg 0 ns.length)<|bd (gi n (ns.getD (Int.toNat 0) default)) λx87=>bd (bh n Lv.1 Lv.2.1 Lv.2.2.1 Lv.2.2.2.1 Lv.2.2.2.2.1 Lv.2.2.2.2.2.1 Lv.2.2.2.2.2.2.1 Lv.2.2.2.2.2.2.2 8 x87) λFY=>some (FY.1,FY.2.1,FY.2.2.1,FY.2.2.2.1,FY.2.2.2.2.1,FY.2.2.2.2.2.1,FY.2.2.2.2.2.2.1,FY.2.2.2.2.2.2.2)) (some (x75,C5,Sz,QB,QA,x80,Xv,x82)))) n 0 0 S P M Q t h a 0)=some (S,P',M,Q,t,h,a,0)/\Me n S P' M Q t h k/\Ev S P Q S P' Q k/\Lr (Wd S P' k) (bw S k).dZ a vs.reverse ns.reverse sp:=by
 obtain⟨b1,b2,b3,b4⟩:=R.hb;have hin:∀z,z=0\/z=8\/z=16\/z=24->mj S k (a+z):=λz hz=>⟨by omega,by omega,by omega⟩;have har:0<=a/\a<=100000:=⟨b1,by omega⟩;have hm:=R.Cp;rw[List.length_append]at hm;refine GF (λ(i:Int) (w:Int) s p m q t' h' a' e=>∃(d:List Int) (r:List Int),ns=d++r/\i=(d.length:Int)/\s=S/\m=M/\q=Q/\t'=t/\h'=h/\a'=a/\e=0/\Me n S p M Q t h k/\Ev S P Q S p Q k/\Sj (Wd S p k) d.reverse w/\(∀z,z∉d->Wd S p k z=Wd S P k z)/\0<=w/\w<4294967296) (λi _ _ _ _ _ _ _ _ _ =>((ns.length:Int)-i).toNat)
  (λo=>∃P',o=some (S,P',M,Q,t,h,a,0)/\Me n S P' M Q t h k/\Ev S P Q S P' Q k/\Lr (Wd S P' k) (bw S k).dZ a vs.reverse ns.reverse sp) ?_ n 0 0 _ _ _ _ _ _ _ _ ⟨[],ns,rfl,rfl,rfl,rfl,rfl,rfl,rfl,rfl,rfl,E,Ev.refl _ _ _ _,rfl,λ_ _ =>rfl,by omega,by omega⟩ (by omega)
 rintro kk i w s p m q t' h' a' e ⟨d,r,hd,rfl,rfl,rfl,rfl,rfl,rfl,rfl,rfl,E1,V1,Y7,hold,w0,w1⟩ ih;have hlen:ns.length=d.length+r.length:=by rw[hd,List.length_append]
 have hdm:∀y∈d,y∈ns:=λy hy=>by rw[hd];simp[hy]
 cases r with
 |cons x r=>
  rw[List.length_cons]at hlen;obtain⟨x0,x1,x2,x3⟩:=R.nb x (by rw[hd];simp);have hgx:ns.getD (Int.toNat (d.length:Int)) default=x:=by rw[aiV,hd,List.getD,List.getElem?_append_right (Nat.le_refl _),Nat.sub_self];rfl
  obtain⟨P2,f2,E2,W2,V2⟩:=uC (a:=a') hn E1 (x:=x+0) (v:=w) ⟨by omega,by omega,by omega⟩ ⟨w0,by omega⟩;rw[aU (by simp;omega),bH (gU (by omega) (by omega)),hgx,br (x:=x+0) (by omega) (by omega),ak f2,ak (mO (by omega) (by omega)),br (by omega) (by omega)];have hxd:x∉d:=λhxd=>by have h1:=(List.pairwise_append.1 R.cr).1;rw[hd]at h1;have h2:=(List.pairwise_append.1 h1).2.2 x hxd x (by simp);unfold tY at h2;omega
  have hw2:∀z,z≠x->Wd s P2 k z=Wd s p k z:=λz hz=>by rw[W2,Fy _ _ (by omega)]
  refine ih _ _ _ _ _ _ _ _ _ _ ⟨d++[x],r,by rw[hd];simp,by simp,rfl,rfl,rfl,rfl,rfl,rfl,rfl,E2,V1.trans V2,?_,λz hz=>?_,by omega,by omega⟩ (by omega)
  ·rw[List.reverse_append]
   refine⟨rfl,?_⟩;have:Wd s P2 k x=w:=by rw[W2,Int.add_zero,J8]
   rw[this];exact gk (λy hy=>hw2 y λe=>hxd (by rw[← e];simpa using hy)) Y7
  ·rw[hw2 z (λe=>hz (by rw[e];simp)),hold z (λhh=>hz (by simp[hh]))]
 |nil=>
  have hd':ns=d:=by rw[hd,List.append_nil]
  rw[au (by rw[hlen];simp)];cases ns with
  |nil=>
   subst hd';rw[au (by rfl)];refine⟨p,rfl,E1,V1,?_⟩;have hv:vs=[]:=by have:=R.val;simpa using this
   rw[hv];have:=R.frame (m':=Wd s p k) (L':=(bw s k).dZ) ⟨by omega,b4⟩ (λz _ =>hold z (by simp)) (λz _ =>⟨hold z (by simp),hold _ (by simp)⟩);rw[hv]at this;exact this
  |cons x0 r=>
   obtain⟨y0,y1,y2,y3⟩:=R.nb x0 (by simp);obtain⟨P2,f2,E2,W2,V2⟩:=jO (a:=a') hn E1 har (x:=0) (v:=w) (by omega) (hin 0 (by omega)) ⟨w0,by omega⟩;obtain⟨P3,f3,E3,W3,V3⟩:=jO (a:=a') hn E2 har (x:=8) (v:=x0+1) (by omega) (hin 8 (by omega)) (by omega);rw[aU (by simp),ak f2,bH (gU (by omega) (by simp)),show(x0::r).getD (Int.toNat 0) default=x0 from rfl,ak (mO (by omega) (by omega)),ak f3];refine⟨P3,rfl,E3,V1.trans (V2.trans V3),?_⟩;have hW:∀z,Wd s P3 k z=if z=a'+8 then x0+1 else if z=a' then w else Wd s p k z:=λz=>by rw[W3,W2,Int.add_zero];rfl
   have tD:∀z∈(x0::r)++sp,∀u,u=z\/u=z+8->Wd s P3 k u=Wd s p k u:=λz hz u hu=>by have:=R.nb z hz;rw[hW,aiR (by omega),aiR (by omega)]
   have ahW:∀z∈(x0::r)++sp,z+8∉d:=λz hz hh=>by have h1:=NH R.cr hz (aiX sp (hdm _ hh));unfold tY at h1;omega
   have hhd:∀u,u=a'+16\/u=a'+24->u∉d:=λu hu hh=>by have:=R.nb u (aiX sp (hdm _ hh));omega
   refine R.Af (w:=w) ?_ ?_ ?_ ?_ ?_ (λy hy=>?_) λy hy=>?_
   ·rw[hW,aiR (by omega),aiQ rfl]
   ·rw[← hd']at Y7
    exact gk (λy hy=>tD y (by rw[List.mem_reverse]at hy;exact aiX _ hy) y (.inl rfl)) Y7
   ·rw[hW,aiQ rfl]
   ·rw[hW,aiR (by omega),aiR (by omega),hold _ (hhd _ (.inl rfl))]
   ·rw[hW,aiR (by omega),aiR (by omega),hold _ (hhd _ (.inr rfl))]
   ·rw[tD y (aiW _ hy) y (.inl rfl),hold]
    intro hh;have h1:=(List.pairwise_append.1 R.cr).2.2 y (hdm y hh) y hy;unfold tY at h1;omega
   ·rw[tD y hy _ (.inr rfl),hold _ (ahW y hy)]
theorem S7(hn:200<=n)(E:Me n S P M Q t h k){vs ns sp:List Int}(R:Lr (Wd S P k) (bw S k).dZ a vs ns sp):
  ∃P',mh n S P M Q t h a=some (0,S,P',M,Q,t,h,a)/\Me n S P' M Q t h k/\Ev S P Q S P' Q k/\Lr (Wd S P' k) (bw S k).dZ a vs.reverse ns.reverse sp:=by
 obtain⟨b1,b2,b3,b4⟩:=R.hb;have hin:∀z,z=0\/z=8\/z=16\/z=24->mj S k (a+z):=λz hz=>⟨by omega,by omega,by omega⟩;have har:0<=a/\a<=100000:=⟨b1,by omega⟩;have hm:=R.Cp;rw[List.length_append]at hm;obtain⟨P',e1,e2,e3,e4⟩:=aey hn E R;refine⟨P',?_,e2,e3,e4⟩;have h1:mN n S P M Q t h a 0=some (S,P',M,Q,t,h,a,0):=by
  unfold mN;rw[ak (o6 hn E.mr har (by omega) (hin 16 (by omega))),ak (o6 hn E.mr har (by omega) (hin 0 (by omega))),aP,R.y8,Int.add_zero,au (by simp;omega)];dsimp only;refine Be (λ(i:Int) (f:Int) (out:List Int) s p m q t' h' a' e=>∃(r:List Int),ns=out++r/\i=(out.length:Int)/\Sj (Wd S P k) r f/\s=S/\p=P/\m=M/\q=Q/\t'=t/\h'=h/\a'=a/\e=0) (λi _ _ _ _ _ _ _ _ _ _ =>((ns.length:Int)-i).toNat) (λo=>o=some (S,P',M,Q,t,h,a,0)) ?_ n 0 _ _ _ _ _ _ _ _ _ _ ⟨ns,rfl,rfl,R.first,rfl,rfl,rfl,rfl,rfl,rfl,rfl,rfl⟩ (by omega);rintro kk i f out s p m q t' h' a' e ⟨r,hd,rfl,hf,rfl,rfl,rfl,rfl,rfl,rfl,rfl,rfl⟩ ih;have hlen:ns.length=out.length+r.length:=by rw[hd,List.length_append]
  cases r with
  |nil=>
   have hd':out=ns:=by rw[hd,List.append_nil]
   subst hd';rw[au (by simp)];exact e1
  |cons x r=>rw[List.length_cons]at hlen;obtain⟨rfl,hf2⟩:=hf;obtain⟨x0,x1,x2,x3⟩:=R.nb x (by rw[hd];simp);rw[aU (by simp;omega),aP,au (by simp;omega)];dsimp only;rw[rY (by rfl) (IZ (by omega) (by omega)),au (by rfl),bH (ni (by simp;omega) (by simp;omega)),aP,ak (IZ (by omega) (by omega)),br (x:=x+0) (by omega) (by omega),ak (Rf hn E.mr ⟨by omega,by omega,by omega⟩),sL (by omega) (by omega)];refine ih _ _ _ _ _ _ _ _ _ _ _ ⟨r,by rw[hd];simp,by simp,?_,rfl,rfl,rfl,rfl,rfl,rfl,rfl,rfl⟩ (by omega);dsimp only;rw[Int.add_zero];exact hf2
 unfold mh;rw[ak h1]
end
end Go.Proofs.Z
namespace Go.Proofs.Z
open Go Go.Bw
theorem abX{p q:Int}(hp:1<=p/\p<=64)(hq:1<=q/\q<=64):∃S P,ef 20000 (JL q) (WW p) bA [] 0 1 32 8=some (0,0,S,P,bA,[],0)/\Me 20000 S P bA [] 0 1 0/\P.n=p/\S=iK (JL q) 0 ⟨[⟨0,1⟩],32⟩/\(∀j,Wd S P j=λ_ =>0)/\(∀x,bZ P.dX.l x↔1<=x/\x<p)/\Lr (Wd S P 0) 32 0 [] [] []:=by obtain⟨S,P,e1,e2,e3,e4,e5,e6⟩:=abY (s:=32) hp hq.2 rfl rfl (by have:eY 32=1:=rfl;omega);refine⟨S,P,e1,e2,e3,e4,e5,e6,?_⟩;rw[e5 0];exact⟨by omega,by simp,by simp,rfl,λpre x e=>by simp at e,rfl,rfl,rfl⟩
end Go.Proofs.Z
