/- Part 16 of what a proof leans on; pruned and shortened by a program out of longer texts. -/
import Derived.Test.YtgdmofhmmhcmjaaGreatDoorQ15
namespace Go.Proofs.Z
open Go Go.Bw
def yG(l:List Rn):List Int:=l.flatMap EW
theorem T6(y:Rn):(EW y).length=y.N.toNat:=by simp[EW]
theorem LR:∀{l:List Rn},(∀y∈l,Iy y.At y.N)->(yG l).length<=64*l.length
 |[],_ =>by simp[yG]
 |y::r,h=>by have:=LR (l:=r) λz hz=>h z (by simp[hz]);obtain⟨h1,h2,h3⟩:=h y (by simp);unfold yG at this ⊢;rw[List.flatMap_cons,List.length_append,T6,List.length_cons];omega
section
variable {n:Nat} {S S':ae} {P P':aj} {M M':ai} {Q:List Int} {t:Int} {c:aC} {u:aF} {r:ah}
theorem Ka(hn:110<=n){fF:List Rn}(hb:∀y∈fF,Iy y.At y.N)(hq:Q.length+64*fF.length<=10000)(hbl:fF.length<n)(hg:da n M u.jU=some M'){ρ:Type}(F:ae×aj×ai×(List Int)×aF×ah×Bool->Option ρ)(x0:ah)(b0:Bool):
  xq (λk51 (vi:Int) (Fu:ae) (zW:aj) (qV:ai) (tZ:(List Int))=>cn (decide (vi<(fF.length:Int))) (gu (dg vi fF.length)<|lt ((fF.getD (Int.toNat vi) default):av) λJR=>bd (fg n Fu zW qV tZ JR) λyh=>k51 (wr .i64 (vi+1)) yh.1 yh.2.1 yh.2.2.1 yh.2.2.2) (bd (eU n Fu zW qV tZ ({u with xY:=aB}:aF) x0 b0 r) F)) n 0 S P M Q=F (S,P,M',Q++yG fF,{u with xY:=aB},r,true):=by
 refine Jo (λ(i:Int) s p m q=>∃j:Nat,i=(j:Int)/\j<=fF.length/\s=S/\p=P/\m=M/\q=Q++yG (fF.take j)) (λi _ _ _ _ =>((fF.length:Int)-i).toNat) (λo=>o=F (S,P,M',Q++yG fF,{u with xY:=aB},r,true)) ?_ n 0 S P M Q ⟨0,rfl,by omega,rfl,rfl,rfl,by simp[yG]⟩ (by omega);rintro kk i s p m q ⟨j,rfl,hj,rfl,rfl,rfl,rfl⟩ ih;by_cases hc:j<fF.length
 ·have hgd:fF.getD (Int.toNat (j:Int)) default=fF[j]:=by rw[aiR,List.getD,aiV hc];rfl
  have hlen:=LR (l:=fF.take j) λy hy=>hb y (List.mem_of_mem_take hy);rw[List.length_take]at hlen;rw[aU (by simpa using hc),bH (gU (by omega) (by omega)),aP,hgd,ak (TI hn _ _ _ _ (by rw[List.length_append];omega) (hb _ (List.getElem_mem hc))),br (by omega) (by omega)];refine ih _ _ _ _ _ ⟨j+1,by omega,by omega,rfl,rfl,rfl,?_⟩ (by omega);unfold yG;rw[aiW hc,List.flatMap_append,List.append_assoc];simp
 ·obtain rfl:j=fF.length:=by omega
  rw[au (by simp),List.take_length,ak (Om (c:={u with xY:=aB}) (by omega) _ _ _ _ _ _ _ (by show(0:Int)<=0;omega) hg)]
theorem DU(hn:110<=n)(hr:u.xY.N<=0\/(0<u.xY.N/\bJ n S u.jU u.C=some u.xY.N)){pl}(hp:cv n S u.C=some pl){fF:List Rn}(hd:cq n S u.jU u.C u.xY=some (S',r,fF))(hE:r.E=0)(h34:u.C.Do≠3/\u.C.Do≠4)(hb:∀y∈fF,Iy y.At y.N)(hq:Q.length+64*fF.length<=10000)(hbl:fF.length<n)(hg:da n M u.jU=some M'){x0:ah}{b0:Bool}:
  cu n S P M Q u x0 b0=some (true,S',P,M',Q++yG fF,{u with xY:=aB},r,true):=by
 have e3:(u.C.Do==3)=false:=by simpa using h34.1
 have e4:(u.C.Do==4)=false:=by simpa using h34.2
 unfold cu;rw[aP,aP];rcases hr with hr|⟨hr,hne⟩
 ·rw[tH (by simp;omega),au (by simp;omega)]
  show bd (cv n S u.C) _ =_;rw[ak hp,ak hd,aP,aP,au (by rw[hE];rfl),aP,au e4,au e3];show lt _ _ =_;rw[aP,aP];exact Ka hn hb hq hbl hg (λlu=>some (true,lu.1,lu.2.1,lu.2.2.1,lu.2.2.2.1,lu.2.2.2.2.1,lu.2.2.2.2.2.1,lu.2.2.2.2.2.2)) _ _
 ·rw[rX (by simp;omega) hne,au (by simp)]
  show bd (cv n S u.C) _ =_;rw[ak hp,ak hd,aP,aP,au (by rw[hE];rfl),aP,au e4,au e3];show lt _ _ =_;rw[aP,aP];exact Ka hn hb hq hbl hg (λlu=>some (true,lu.1,lu.2.1,lu.2.2.1,lu.2.2.2.1,lu.2.2.2.2.1,lu.2.2.2.2.2.1,lu.2.2.2.2.2.2)) _ _
theorem RB(hn:110<=n)(hr:u.xY.N<=0){pl:List Int}{pe:Int}(hp:cv n S u.C=some (pl,pe))(hd:cq n S u.jU u.C u.xY=some (S',⟨0,0,0⟩,[]))(h3:u.C.Do=3)(hP:Ie P)(hl:pl.length<=8)(R8:∀i,i<pl.length->0<=pl.getD i default/\gW P (pl.getD i default/32))(hq:Q.length<=10000)(hg:da n M u.jU=some M'){x0:ah}{b0:Bool}:
  cu n S P M Q u x0 b0=some (true,S',P,M',Q,{u with xY:=aB},⟨0,Iz (λi=>FN P (pl.getD i default)) pl.length,0⟩,true):=by
 have e3:(u.C.Do==3)=true:=by simpa using h3
 have e4:(u.C.Do==4)=false:=by rw[h3];rfl
 unfold cu;rw[aP,aP,tH (by simp;omega),au (by simp;omega)];show bd (cv n S u.C) _ =_;rw[ak hp,ak hd,aP,aP,au (by rfl),aP,au e4,aU e3];refine(aeQ hn hP hl R8 _).trans ?_;show lt _ _ =_;rw[aP,aP];have:=Ka (S:=S') (P:=P) (r:=⟨0,Iz (λi=>FN P (pl.getD i default)) pl.length,0⟩) hn (fF:=[]) (by simp) (by simpa using hq) (by simp;omega) hg (λlu=>some (true,lu.1,lu.2.1,lu.2.2.1,lu.2.2.2.1,lu.2.2.2.2.1,lu.2.2.2.2.2.1,lu.2.2.2.2.2.2)) x0 b0;rw[show Q++yG []=Q by simp[yG]]at this;exact this
theorem RA(hn:110<=n)(hr:u.xY.N<=0){pl:List Int}{pe:Int}(hp:cv n S u.C=some (pl,pe))(hd:cq n S u.jU u.C u.xY=some (S',⟨0,0,0⟩,[]))(h4:u.C.Do=4)(hP:Ie P)(hl:pl.length<=8)(R8:∀i,i<pl.length->0<=pl.getD i default/\gW P (pl.getD i default/32))(hq:Q.length<=10000)(hg:da n M u.jU=some M'){x0:ah}{b0:Bool}:
  cu n S P M Q u x0 b0=some (true,S',Lv P (λi=>pl.getD i default) (λi=>wr .u8 (Ae .u64 u.C.V (wr .i64 (8*(i:Int))))) pl.length,M',Q,{u with xY:=aB},⟨0,0,0⟩,true):=by
 have e4:(u.C.Do==4)=true:=by simpa using h4
 unfold cu;rw[aP,aP,tH (by simp;omega),au (by simp;omega)];show bd (cv n S u.C) _ =_;rw[ak hp,ak hd,aP,aP,au (by rfl),aP,aU e4];refine(aa4 hn hP hl R8 _ _ _ _ _ _ _).trans ?_;show lt _ _ =_;rw[aP,aP];have:=Ka (S:=S') (P:=Lv P (λi=>pl.getD i default) (λi=>wr .u8 (Ae .u64 u.C.V (wr .i64 (8*(i:Int))))) pl.length) (r:=⟨0,0,0⟩) hn (fF:=[]) (by simp) (by simpa using hq) (by simp;omega) hg (λlu=>some (true,lu.1,lu.2.1,lu.2.2.1,lu.2.2.2.1,lu.2.2.2.2.1,lu.2.2.2.2.2.1,lu.2.2.2.2.2.2)) x0 b0;rw[show Q++yG []=Q by simp[yG]]at this;exact this
theorem Zy(hne:bJ n S u.jU u.C=some 0){x0:ah}{b0:Bool}:bY n S P M Q u x0 b0=some (false,S,P,M,Q,u,x0,b0):=by unfold bY;rw[ak hne,aU (by rfl)]
theorem Qa{k:Int}(hne:bJ n S u.jU u.C=some k)(hr:0<u.xY.N){x0:ah}{b0:Bool}:bY n S P M Q u x0 b0=some (false,S,P,M,Q,u,x0,b0):=by unfold bY;rw[ak hne,aU (by simp;omega)]
theorem PN{m:Nat}(hd:c.Do≠15)(hne:bJ n S t c=some 0){Q':List Int}{u':aF}(hc:cu n S P M Q (EK t c [] aB 0) ay false=some (true,S',P',M',Q',u',r,true)):
  vJ (nk n c) (m+1) ay S P M Q t (EK t c [] aB 0)=some (r,S',P',M',Q',t):=by
 show nk n c _ _ _ _ _ _ _ _ =_;exact zM hd (aao rfl rfl (Zy hne) (by show(0:Int)<=0;omega) hc)
theorem kE{Q':List Int}(h:er n S P M Q t c=some (r,S',P',M',Q',t))(hE:r.E≠6\/Q'=[]):cI n S P M Q t c=some (r,S',P',M',Q',t):=by
 unfold cI;rw[ak h,aP,aP,au]
 ·rfl
 ·rcases hE with h|h
  ·have:(r.E==6)=false:=by simpa using h
   rw[this];rfl
  ·rw[h];simp
end
def uZ(P:aj)(f:bj):aj:={P with dX:=f}
def qR(P:aj)(a:Int):Nat->aj
 |0=>P
 |j+1=>{qR P a j with bytes:=iD (qR P a j).bytes (a+j).toNat (λ_ =>0)}
theorem sx(P:aj)(a:Int)(k:Nat):(qR P a k).dX=P.dX/\(qR P a k).n=P.n:=by
 induction k with
 |zero=>exact⟨rfl,rfl⟩
 |succ k ih=>exact ih
theorem OR(P:aj){a:Int}(ha:0<=a)(k:Nat){b:Int}(hb:0<=b):FN (qR P a k) b=if a<=b/32/\b/32<a+k then 0 else FN P b:=by
 induction k with
 |zero=>rw[aiN (by omega)];rfl
 |succ k ih=>
  show(iD (qR P a k).bytes (a+(k:Int)).toNat (λ_ =>0)) (b/32).toNat (b%32).toNat=_;unfold iD;by_cases h:(b/32).toNat=(a+(k:Int)).toNat
  ·rw[aiM h,aiM (by omega)]
  ·rw[aiN h]
   refine Eq.trans ih ?_;by_cases h1:a<=b/32/\b/32<a+(k:Int)
   ·rw[aiM h1,aiM (by omega)]
   ·rw[aiN h1,aiN (by omega)]
theorem OQ{P:aj}(h:Ie P)(a:Int)(k:Nat):Ie (qR P a k):=by
 induction k with
 |zero=>exact h
 |succ k ih=>exact⟨ih.Qf,ih.n1,ih.fr,λi j=>by
   unfold qR iD;dsimp only;by_cases h1:i=(a+(k:Int)).toNat
   ·rw[aiM h1];omega
   ·rw[aiN h1];exact ih.bt i j⟩
theorem Zx{n:Nat}(hn:110<=n){P:aj}(h:Ie P){p:Int}(hp:gW P p):kM n P p=some (0,{P with bytes:=iD P.bytes p.toNat (λ_ =>0)}):=by have:=h.n1;obtain⟨p0,p1,p2⟩:=hp;unfold kM;rw[au (by simp;omega),ak (KS hn h ⟨p0,p1,p2⟩),au (by rfl),bH (gU (by omega) (by omega))];rfl
section
variable {n:Nat} {S S':ae} {P:aj} {M M':ai} {Q Q':List Int} {t:Int} {c:aC} {r:ah}
theorem VC(hn:110<=n)(hd:c.Do≠15){a k:Int}(ha:0<=a)(hk:0<k)(hk4:k<=64)(hne:bJ n S t c=some k)(h:Ie P)(hl:∀p,a<=p->p<a+k->gW P p)(hc:∃u',cu n S (qR P a k.toNat) M Q (EK t c [] ⟨a,k⟩ k) ay false=some (true,S',qR P a k.toNat,M',Q',u',r,true)):
  ∀(d:Nat) (j:Nat) (m:Nat),(j:Int)+d=k->vJ (nk n c) (m+d+1) ay S (qR P a j) M Q t (EK t c [] ⟨a,k⟩ j)=some (r,S',qR P a k.toNat,M',Q',t):=by
 have hn1:=h.n1;intro d
 induction d with
 |zero=>
  intro j m e;obtain⟨u',hc⟩:=hc;have ej:(j:Int)=k:=by omega
  have ej':k.toNat=j:=by omega
  show nk n c _ _ _ _ _ _ _ _ =_;rw[ej']at hc ⊢;rw[ej];exact zM hd (aao rfl rfl (Qa hne hk) (by show k<=k;omega) hc)
 |succ d ih=>
  intro j m e;show nk n c _ _ _ _ _ _ _ _ =_;have qQ:eL n S (qR P a j) M Q (EK t c [] ⟨a,k⟩ j) ay false=some (true,S,qR P a (j+1),M,Q,EK t c [] ⟨a,k⟩ ((j+1:Nat):Int),ay,false):=by have hp:=hl (a+j) (by omega) (by omega);have xw:=hp;obtain⟨q0,q1,q2⟩:=xw;unfold eL;rw[au (by simp;omega)];show bd (kM n (qR P a j) (wr .i64 (a+(j:Int)))) _ =_;rw[br (x:=a+(j:Int)) (by omega) (by omega),ak (Zx hn (OQ h a j) (by unfold gW at hp ⊢;rw[(sx P a j).1,(sx P a j).2];exact hp)),aP];show some (true,S,_,M,Q,EK t c [] ⟨a,k⟩ (wr .i64 ((j:Int)+1)),ay,false)=_;rw[br (by omega) (by omega)];rfl
  rw[tu hd (aez rfl rfl (Qa hne hk) qQ) (λ_ => .inl rfl)];have:=ih (j+1) m (by omega);rw[show m+(d+1)=m+d+1 by omega];exact this
theorem RD(hn:110<=n)(hd:c.Do≠15)(h:Ie P){k:Int}(hk:0<k)(hk4:k<=64)(hne:bJ n S t c=some k){m:Nat}{v:Int}(hf:G9 k P.dX.l=(v,true))(hv:0<=v)(hin:Js P.dX.l v k):
  ∃f:bj,qb f.l/\(∀p,bZ f.l p↔bZ P.dX.l p/\¬(v<=p/\p<v+k))/\
   vJ (nk n c) (m+1) ay S P M Q t (EK t c [] aB 0)=vJ (nk n c) m ay S (uZ P f) M Q t (EK t c [] ⟨v,k⟩ 0):=by
 obtain⟨⟨o1,o2,o3⟩,_⟩:=id hin;obtain⟨f,g,e1,e2,_,e3⟩:=XH hn h.Qf (at_:=v) (k:=k) ⟨by omega,by omega⟩ ⟨by omega,by omega⟩;have hg:g=true:=e2.2 hin;subst hg;obtain⟨f1,f2⟩:=e3 rfl;refine⟨f,f1,f2,?_⟩;show nk n c _ _ _ _ _ _ _ _ =_;have qQ:iP n P k=some (v,0,uZ P f):=by unfold iP;rw[au (by simp;omega),ak (PJ hn h.Qf k),hf,au (b:= !true) rfl,ak e1];rfl
 have hs:bY n S P M Q (EK t c [] aB 0) ay false=some (true,S,uZ P f,M,Q,EK t c [] ⟨v,k⟩ 0,ay,false):=by unfold bY;rw[ak hne,au (by simp;omega),ak qQ,au (by rfl)];rfl
 rw[tu hd (aap rfl rfl hs) (λ_ => .inl rfl)]
theorem RC(hn:110<=n)(hd:c.Do≠15)(h:Ie P){k:Int}(hk:0<k)(hne:bJ n S t c=some k){m:Nat}(hf:G9 k P.dX.l=(0,false))(hg:da n M t=some M'):
  vJ (nk n c) (m+1) ay S P M Q t (EK t c [] aB 0)=some (⟨6,0,0⟩,S,P,M',Q,t):=by
 show nk n c _ _ _ _ _ _ _ _ =_;have qQ:iP n P k=some (0,6,P):=by unfold iP;rw[au (by simp;omega),ak (PJ hn h.Qf k),hf,aU (b:= !false) rfl]
 have hs:bY n S P M Q (EK t c [] aB 0) ay false=some (true,S,P,M',Q,EK t c [] aB 0,⟨6,0,0⟩,true):=by unfold bY;rw[ak hne,au (by simp;omega),ak qQ,aU (by rfl),ak (Om (c:=EK t c [] aB 0) (by omega) S P M Q _ _ _ (by show(0:Int)<=0;omega) hg)]
 exact zM hd (aap rfl rfl hs)
end
end Go.Proofs.Z
namespace Go.Proofs.Z
open Go Go.Bw
theorem wO{l:List Rn}(h:Ig l){a:Int}(ha:0<=a/\a<32*bE l):bZ l (dO l a/32)/\0<=dO l a:=by
 have hl:=tL h.Xc;have h1:a.toNat<(jQ l).length:=by omega
 have hm:dO l a∈jQ l:=by unfold dO;rw[List.getD,aiV h1];exact List.getElem_mem h1
 have h2:=Gy.1 hm;obtain⟨y,hy,h3,h4⟩:=id h2;obtain⟨o1,o2,o3⟩:=h.vV y hy;exact⟨h2,by omega⟩
structure Cw(S:ae)(P:aj)(M:ai)(Q:List Int):Prop where
 DA:Ie P
 may:∀k,pB (bw S k)
 own:∀k p,bZ (bw S k).aK p->gW P p
 sep:∀k j p,k≠j->bZ (bw S k).aK p->¬bZ (bw S j).aK p
 R4:∀p∈Q,gW P p/\∀k,¬bZ (bw S k).aK p
 qnd:Q.Nodup
 Pe:OL M
 Xn:∀k a,(bw S k).dZ<=a->a<32*bE (bw S k).aK->FN P (dO (bw S k).aK a)=0
 Lx:∀p,0<=p->p<P.n->bZ P.dX.l p\/p∈Q\/∃k,bZ (bw S k).aK p
def oQ(S:ae)(P:aj)(k:Nat)(a:Int):Int:=FN P (dO (bw S k).aK a)
def HD(S:ae)(k:Nat)(a:Int):Prop:=0<=a/\a<32*bE (bw S k).aK
section
variable {n:Nat} {S S':ae} {P P':aj} {M:ai} {Q Q':List Int} {t h:Int} {k:Nat} {c:aC}
theorem Cw.TJ(C:Cw S P M Q):Q.length<=64:=sA 64 C.qnd λp hp=>by obtain⟨⟨a,b,_⟩,_⟩:=C.R4 p hp;have:=C.DA.n1;exact⟨a,by show p<64;omega⟩
theorem Cw.adr(C:Cw S P M Q){k:Nat}{a:Int}(ha:HD S k a):gW P (dO (bw S k).aK a/32)/\0<=dO (bw S k).aK a:=by obtain⟨h1,h2⟩:=wO (C.may k).gx.gd ha;exact⟨C.own k _ h1,h2⟩
theorem Cw.apart(C:Cw S P M Q){k j:Nat}{a b:Int}(ha:HD S k a)(hb:HD S j b)(e:dO (bw S k).aK a=dO (bw S j).aK b):k=j/\a=b:=by
 by_cases hk:k=j
 ·subst hk
  exact⟨rfl,Oy (C.may k).gx.gd ha hb e⟩
 ·obtain⟨h1,_⟩:=wO (C.may k).gx.gd ha
  obtain⟨h2,_⟩:=wO (C.may j).gx.gd hb;rw[e]at h1;exact absurd h2 (C.sep k j _ hk h1)
theorem Cw.ad(C:Cw S P M Q){k:Nat}{a:Int}(h0:0<=a)(h1:a<(bw S k).dZ):HD S k a:=by have:=(C.may k).hi;exact⟨h0,by omega⟩
theorem FG(f:Nat->Int){b i:Nat}(h:i<b):((List.range b).map f).getD i default=f i:=by rw[List.getD,List.getElem?_map,List.getElem?_range h];rfl
theorem Ma{w:Bool}(hn:200<=n)(C:Cw S P M Q)(a:uJ w n S t h k)(hd:c.Do=3)(hR:c.R=h)(hA:0<=c.A/\c.A<4294967296)(hB:1<=c.B/\c.B<=8):
  cI n S P M Q t c=some (if c.A+c.B<=(bw S k).dZ then⟨0,Iz (λi=>oQ S P k (c.A+(i:Int))) c.B.toNat,0⟩else⟨9,0,0⟩,S,P,M,Q,t):=by
 have hk:=a.kl;have hc:=Qd a (C.may k) (.inl hd) hR hA hB;have Ag:c.Do≠15:=by omega
 by_cases hl:c.A+c.B<=(bw S k).dZ
 ·rw[aiM hl]at hc ⊢
  refine kE ?_ (.inl (by show(0:Int)≠6;omega));obtain⟨m,rfl⟩:∃m,n=m+1+2:=⟨n-3,by omega⟩;rw[yJ Ag C.Pe a.t0 a.t1 hc (vD a (.inr (.inl hd)) hR) hk a.cY];have R8:∀i,i<((List.range c.B.toNat).map λ(i:Nat)=>dO (bw S k).aK (c.A+(i:Int))).length->0<=((List.range c.B.toNat).map λ(i:Nat)=>dO (bw S k).aK (c.A+(i:Int))).getD i default/\gW P (((List.range c.B.toNat).map λ(i:Nat)=>dO (bw S k).aK (c.A+(i:Int))).getD i default/32):=by intro i hi;rw[List.length_map,List.length_range]at hi;rw[FG (λ(i:Nat)=>dO (bw S k).aK (c.A+(i:Int))) hi];obtain⟨q1,q2⟩:=C.adr (C.ad (k:=k) (a:=c.A+(i:Int)) (by omega) (by omega));exact⟨q2,q1⟩
  have:=RB (S:=S) (P:=P) (Q:=Q) (u:=EK t c [] aB 0) (M':=M) (x0:=ay) (b0:=false) (by omega) (by show(0:Int)<=0;omega) (Ti (by omega) a (C.may k) (.inl hd) hR hA.1 hB hl) (by have:=acW a (C.may k) (.inl hd) hR hA hB;rw[aiM hl]at this;exact this) hd C.DA (by simp;omega) R8 (by have:=C.TJ;omega) (DL (by omega) C.Pe hk a.t0 a.t1);refine(PN Ag (Cm (by omega)) this).trans ?_;rw[List.length_map,List.length_range,og (g:=λi=>oQ S P k (c.A+(i:Int))) λi hi=>by
   dsimp only;rw[FG (λ(i:Nat)=>dO (bw S k).aK (c.A+(i:Int))) hi];rfl]
 ·rw[aiN hl]at hc ⊢
  exact kE (Gs (by omega) Ag C.Pe a.t0 a.t1 hc (by omega)) (.inl (by show(9:Int)≠6;omega))
def DY(V:Int)(i:Nat):Int:=V/256^i%256
theorem ZF{V:Int}{i:Nat}(hi:i<8)(hV:0<=V/\V<18446744073709551616):wr .u8 (Ae .u64 V (wr .i64 (8*(i:Int))))=DY V i:=by
 have hp:=(aeV i).symm;rw[br (by omega) (by omega),Tt (8*i) (by omega) (by show 8*i<=64;omega),hp];have h:∀x:Int,wr .u8 x=x%256:=λx=>by simp[wr,IntKind.wrap,IntKind.signed,IntKind.bits]
 rw[h];rfl
theorem VH(V:Int)(i:Nat):0<=DY V i/\DY V i<=255:=by unfold DY;omega
theorem QB(P:aj){f g v w:Nat->Int}{k:Nat}(h1:∀i,i<k->f i=g i)(h2:∀i,i<k->v i=w i):Lv P f v k=Lv P g w k:=by
 induction k with
 |zero=>rfl
 |succ k ih=>unfold Lv;rw[ih (λi hi=>h1 i (by omega)) (λi hi=>h2 i (by omega)),h1 k (by omega),h2 k (by omega)]
def W8(S:ae)(P:aj)(k:Nat)(c:aC):aj:=Lv P (λi=>dO (bw S k).aK (c.A+(i:Int))) (DY c.V) c.B.toNat
theorem Te(C:Cw S P M Q)(hA:0<=c.A)(hB:1<=c.B/\c.B<=8)(hl:c.A+c.B<=32*bE (bw S k).aK){j:Nat}{b:Int}(hb:HD S j b):
  oQ S (W8 S P k c) j b=if j=k/\c.A<=b/\b<c.A+c.B then DY c.V (b-c.A).toNat else oQ S P j b:=by
 have Y5:∀i,i<c.B.toNat->HD S k (c.A+(i:Int)):=λi hi=>⟨by omega,by omega⟩;obtain⟨h1,h2⟩:=aa7 (P:=P) (f:=λi=>dO (bw S k).aK (c.A+(i:Int))) (v:=DY c.V) (k:=c.B.toNat) (λi hi=>(C.adr (Y5 i hi)).2) (b:=dO (bw S j).aK b) (C.adr hb).2 (λi i' hi hi' e=>by
  have:=(C.apart (Y5 i hi) (Y5 i' hi') e).2;omega)
 unfold oQ W8;by_cases hc:j=k/\c.A<=b/\b<c.A+c.B
 ·rw[aiM hc]
  obtain⟨rfl,c1,c2⟩:=hc;exact h1 (b-c.A).toNat (by omega) (by show dO _ (c.A+((b-c.A).toNat:Int))=_;rw[show c.A+((b-c.A).toNat:Int)=b by omega])
 ·rw[aiN hc]
  refine h2 λi hi e=>hc ?_;obtain⟨e1,e2⟩:=C.apart (Y5 i hi) hb e;exact⟨e1.symm,by omega,by omega⟩
theorem Tf(S:ae)(P:aj)(k:Nat)(c:aC):(W8 S P k c).dX=P.dX/\(W8 S P k c).n=P.n:=FZ _ _ _ _
theorem abi(C:Cw S P M Q)(hA:0<=c.A)(hB:1<=c.B/\c.B<=8)(hl:c.A+c.B<=(bw S k).dZ):Cw S (W8 S P k c) M Q:=by
 obtain⟨f1,f2⟩:=Tf S P k c;have hh:=(C.may k).hi;have hlt:∀p,gW P p->gW (W8 S P k c) p:=λp hp=>by unfold gW at hp ⊢;rw[f1,f2];exact hp
 refine{C with DA:=SA C.DA λi _ =>VH _ _,own:=λj p hp=>hlt p (C.own j p hp),R4:=λp hp=>⟨hlt p (C.R4 p hp).1,(C.R4 p hp).2⟩,Xn:=λj a h1 h2=>?_,Lx:=λp p0 p1=>by rw[f1];exact C.Lx p p0 (by rw[f2]at p1;exact p1)};have h0:=(C.may j).lo;have:=Te (P:=P) (k:=k) C hA hB (by omega) (j:=j) (b:=a) ⟨by omega,h2⟩;unfold oQ at this;rw[this,aiN]
 ·exact C.Xn j a h1 h2
 ·rintro⟨rfl,c1,c2⟩;omega
theorem QH(hn:200<=n)(C:Cw S P M Q)(a:uJ true n S t h k)(hd:c.Do=4)(hR:c.R=h)(hA:0<=c.A/\c.A<4294967296)(hB:1<=c.B/\c.B<=8)(hV:0<=c.V/\c.V<18446744073709551616):
  cI n S P M Q t c=some (if c.A+c.B<=(bw S k).dZ then⟨0,0,0⟩else⟨9,0,0⟩,S,if c.A+c.B<=(bw S k).dZ then W8 S P k c else P,M,Q,t):=by
 have hk:=a.kl;have hc:=Qd a (C.may k) (.inr ⟨hd,rfl⟩) hR hA hB;have Ag:c.Do≠15:=by omega
 by_cases hl:c.A+c.B<=(bw S k).dZ
 ·rw[aiM hl]at hc ⊢
  rw[aiM hl];refine kE ?_ (.inl (by show(0:Int)≠6;omega));obtain⟨m,rfl⟩:∃m,n=m+1+2:=⟨n-3,by omega⟩;rw[yJ Ag C.Pe a.t0 a.t1 hc (vD a (.inr (.inr hd)) hR) hk a.cY];have R8:∀i,i<((List.range c.B.toNat).map λ(i:Nat)=>dO (bw S k).aK (c.A+(i:Int))).length->0<=((List.range c.B.toNat).map λ(i:Nat)=>dO (bw S k).aK (c.A+(i:Int))).getD i default/\gW P (((List.range c.B.toNat).map λ(i:Nat)=>dO (bw S k).aK (c.A+(i:Int))).getD i default/32):=by intro i hi;rw[List.length_map,List.length_range]at hi;rw[FG (λ(i:Nat)=>dO (bw S k).aK (c.A+(i:Int))) hi];obtain⟨q1,q2⟩:=C.adr (C.ad (k:=k) (a:=c.A+(i:Int)) (by omega) (by omega));exact⟨q2,q1⟩
  have:=RA (S:=S) (P:=P) (Q:=Q) (u:=EK t c [] aB 0) (M':=M) (x0:=ay) (b0:=false) (by omega) (by show(0:Int)<=0;omega) (Ti (by omega) a (C.may k) (.inr hd) hR hA.1 hB hl) (by have:=acW a (C.may k) (.inr ⟨hd,rfl⟩) hR hA hB;rw[aiM hl]at this;exact this) hd C.DA (by simp;omega) R8 (by have:=C.TJ;omega) (DL (by omega) C.Pe hk a.t0 a.t1);refine(PN Ag (Cm (by omega)) this).trans ?_;rw[List.length_map,List.length_range];unfold W8;rw[QB P (g:=λi=>dO (bw S k).aK (c.A+(i:Int))) (w:=DY c.V) (λi hi=>FG (λ(i:Nat)=>dO (bw S k).aK (c.A+(i:Int))) hi) (λi hi=>ZF (by have hi':i<c.B.toNat:=hi;omega) hV)]
 ·rw[aiN hl]at hc ⊢
  rw[aiN hl];exact kE (Gs (by omega) Ag C.Pe a.t0 a.t1 hc (by omega)) (.inl (by show(9:Int)≠6;omega))
end
end Go.Proofs.Z
namespace Go.Proofs.Z
open Go Go.Bw
theorem MP{l:List Rn}{y:Rn}(h:Ig (l++[y])){a:Int}(h0:32*bE l<=a)(h1:a<32*bE l+32*y.N):dO (l++[y]) a=32*y.At+(a-32*bE l):=by obtain⟨g1,g2,_⟩:=yT.1 h;have hl:=tL g1.Xc;have hp:=vA g1.Xc;unfold dO;rw[Bq,Hx,GY _ _ _ _ (by omega),Hw y (by omega)];omega
theorem P9{P:aj}(h:Ie P){f:bj}(hf:qb f.l)(hm:∀p,bZ f.l p->bZ P.dX.l p):Ie (uZ P f):=⟨hf,h.n1,λp hp=>h.fr p (hm p hp),h.bt⟩
section
variable {n:Nat} {S S':ae} {P P':aj} {M:ai} {Q Q':List Int} {t h:Int} {k:Nat} {c:aC}
theorem aeP(hn:110<=n){p:Int}(C:Cw S P M (p::Q)):∃f:bj,mw n S P M (p::Q)=some (true,S,uZ P f,M,Q)/\Cw S (uZ P f) M Q/\∀x,bZ f.l x↔bZ P.dX.l x\/x=p:=by
 have hn1:=C.DA.n1;obtain⟨⟨p0,p1,p2⟩,p3⟩:=C.R4 p (by simp);have hql:=C.TJ;rw[List.length_cons]at hql;obtain⟨f,g,e1,e2,_,e3⟩:=PC hn C.DA.Qf (at_:=p) (k:=1) ⟨by omega,by omega⟩ ⟨by omega,by omega⟩;have hg:g=true:=e2.2 ⟨⟨by omega,by omega,by omega⟩,λq h1 h2=>by rw[show q=p by omega];exact p2⟩;subst hg;obtain⟨f1,f2⟩:=e3 rfl;have f3:∀x,bZ f.l x↔bZ P.dX.l x\/x=p:=λx=>(f2 x).trans ⟨λh=>h.elim .inl λh=> .inr (by omega),λh=>h.elim .inl λh=> .inr (by omega)⟩;have hb:l6 n P p=some (0,uZ P f):=by unfold l6;rw[au (by simp;omega),ak (KS hn C.DA ⟨p0,p1,p2⟩),au (by rfl),bH (gU (by omega) (by omega)),ak e1];rfl
 obtain⟨d1,d2⟩:=List.nodup_cons.1 C.qnd;refine⟨f,?_,⟨⟨f1,hn1,λx hx=>?_,C.DA.bt⟩,C.may,λj x hx=>?_,C.sep,λx hx=>?_,d2,C.Pe,C.Xn,λx x0 x1=>?_⟩,f3⟩
 ·unfold mw
  rw[au (by simp;omega),bH (gU (by omega) (by simp)),ak (show l6 n P (List.getD (p::Q) (Int.toNat 0) default)=some (0,uZ P f)from hb),bH (gU (by omega) (by simp;omega))];rfl
 ·rcases(f3 x).1 hx with h|h
  ·exact C.DA.fr x h
  ·show x<P.n;omega
 ·obtain⟨q0,q1,q2⟩:=C.own j x hx
  refine⟨q0,q1,λh=>?_⟩;rcases(f3 x).1 h with h|h
  ·exact q2 h
  ·subst h;exact p3 j hx
 ·obtain⟨⟨q0,q1,q2⟩,q3⟩:=C.R4 x (by simp[hx])
  refine⟨⟨q0,q1,λh=>?_⟩,q3⟩;rcases(f3 x).1 h with h|h
  ·exact q2 h
  ·subst h;exact d1 hx
 ·rcases C.Lx x x0 x1 with h|h|h
  ·exact .inl ((f3 x).2 (.inl h))
  ·rcases List.mem_cons.1 h with h|h
   ·exact .inl ((f3 x).2 (.inr h))
   ·exact .inr (.inl h)
  ·exact .inr (.inr h)
theorem aeO(hn:110<=n){ρ:Type}(F:ae->aj->ai->List Int->Int->Option ρ):∀(Q:List Int) (P:aj),Cw S P M Q->∃P',Cw S P' M []/\P'.n=P.n/\P'.bytes=P.bytes/\(∀x,bZ P'.dX.l x↔bZ P.dX.l x\/x∈Q)/\
  ∀m,Q.length<m->xq (λk36 (dP:ae) (jo:aj) (eV:ai) (cJ:(List Int)) (fR:Int)=>bd (mw n dP jo eV cJ) λdV=>cn (dV.1) (k36 dV.2.1 dV.2.2.1 dV.2.2.2.1 dV.2.2.2.2 fR) (F dV.2.1 dV.2.2.1 dV.2.2.2.1 dV.2.2.2.2 fR)) m S P M Q t=F S P' M [] t:=by
 intro Q
 induction Q with
 |nil=>intro P C;refine⟨P,C,rfl,rfl,λx=>by simp,λm hm=>?_⟩;obtain⟨m,rfl⟩:∃j,m=j+1:=⟨m-1,by omega⟩;rfl
 |cons p Q ih=>
  intro P C;obtain⟨f,e,C1,hf⟩:=aeP hn C;obtain⟨P',C2,h1,h2,h3,h4⟩:=ih _ C1;refine⟨P',C2,h1,h2,λx=>?_,λm hm=>?_⟩
  ·rw[h3]
   show bZ f.l x\/_ ↔_;rw[hf,List.mem_cons,or_assoc]
  ·obtain⟨m,rfl⟩:∃j,m=j+1:=⟨m-1,by omega⟩
   rw[List.length_cons]at hm;simp only[xq];rw[ak e,aU (by rfl)];exact h4 m (by omega)
theorem Ox(hn:110<=n){w:Int}(C:Cw S P M Q)(hq:Q≠[])(h:er n S P M Q t c=some (⟨6,0,w⟩,S,P,M,Q,t)):
  ∃P',Cw S P' M []/\P'.n=P.n/\P'.bytes=P.bytes/\(∀x,bZ P'.dX.l x↔bZ P.dX.l x\/x∈Q)/\cI n S P M Q t c=er n S P' M [] t c:=by
 have hql:=C.TJ;obtain⟨P',h1,h2,h3,h4,h5⟩:=aeO (S:=S) (M:=M) (t:=t) hn (λx1 x2 x3 x4 x5=>bd (er n x1 x2 x3 x4 x5 c) λjk=>some jk) Q P C;refine⟨P',h1,h2,h3,h4,?_⟩;have h6:=h5 n (by omega);have hb:((6:Int)==6)&&decide (0<(Q.length:Int)):=by have:=List.length_pos_iff.2 hq;simp;omega
 unfold cI;rw[ak h,aP,aP,aU hb];refine Eq.trans h6 ?_;cases er n S P' M [] t c<;>rfl
theorem Cw.abq(C:Cw S P M Q)(k:Nat){L:Int}(h1:(bw S k).dZ<=L)(h2:L<=32*bE (bw S k).aK):Cw (iK S k ⟨(bw S k).aK,L⟩) P M Q:=by
 have hr:∀j,(bw (iK S k ⟨(bw S k).aK,L⟩) j).aK=(bw S j).aK:=λj=>by
  by_cases hj:j=k
  ·subst hj;rw[fS]
  ·rw[rQ _ _ hj]
 have hl:∀j,(bw S j).dZ<=(bw (iK S k ⟨(bw S k).aK,L⟩) j).dZ:=λj=>by
  by_cases hj:j=k
  ·subst hj;rw[fS];exact h1
  ·rw[rQ _ _ hj];omega
 refine⟨C.DA,λj=>?_,λj p hp=>C.own j p (by rw[hr]at hp;exact hp),λi j p hij hp=>by rw[hr]at hp ⊢;exact C.sep i j p hij hp,λp hp=>⟨(C.R4 p hp).1,λj=>by rw[hr];exact(C.R4 p hp).2 j⟩,C.qnd,C.Pe,λj a q1 q2=>?_,λp p0 p1=>?_⟩
 ·by_cases hj:j=k
  ·subst hj;rw[fS];have:=(C.may j).lo;exact⟨(C.may j).gx,by dsimp only;omega,h2⟩
  ·rw[rQ _ _ hj];exact C.may j
 ·rw[hr]at q2 ⊢
  exact C.Xn j a (by have:=hl j;omega) q2
 ·rcases C.Lx p p0 p1 with h|h|⟨j,h⟩
  ·exact .inl h
  ·exact .inr (.inl h)
  ·exact .inr (.inr ⟨j,by rw[hr];exact h⟩)
theorem I8(S:ae)(P:aj)(k j:Nat)(L a:Int):oQ (iK S k ⟨(bw S k).aK,L⟩) P j a=oQ S P j a:=by
 unfold oQ;by_cases hj:j=k
 ·subst hj;rw[fS]
 ·rw[rQ _ _ hj]
theorem Cw.ah6(C:Cw S P M Q)(k:Nat){v m s:Int}(hin:Js P.dX.l v m){f:bj}(hf:qb f.l)(YY:∀p,bZ f.l p↔bZ P.dX.l p/\¬(v<=p/\p<v+m))(hs:0<=s/\s<=32*m):
  Cw (iK S k ⟨(bw S k).aK++[⟨v,m⟩],32*bE (bw S k).aK+s⟩) (qR (uZ P f) v m.toNat) M Q/\
  (∀j a,HD S j a->oQ (iK S k ⟨(bw S k).aK++[⟨v,m⟩],32*bE (bw S k).aK+s⟩) (qR (uZ P f) v m.toNat) j a=oQ S P j a)/\
  (∀a,32*bE (bw S k).aK<=a->a<32*bE (bw S k).aK+32*m->oQ (iK S k ⟨(bw S k).aK++[⟨v,m⟩],32*bE (bw S k).aK+s⟩) (qR (uZ P f) v m.toNat) k a=0):=by
 obtain⟨⟨o1,o2,o3⟩,ack⟩:=id hin;have hn1:=C.DA.n1;have z1:=(sx (uZ P f) v m.toNat).1;have z2:=(sx (uZ P f) v m.toNat).2;have hno:∀p,v<=p->p<v+m->∀j,¬bZ (bw S j).aK p:=λp p0 p1 j hp=>(C.own j p hp).2.2 (ack p p0 p1);have hmay:pB ⟨(bw S k).aK++[⟨v,m⟩],32*bE (bw S k).aK⟩:=Jm (C.may k) ⟨o1,o2,o3⟩ λp p0 p1=>hno p p0 p1 k;have hsn:bE ((bw S k).aK++[(⟨v,m⟩:Rn)])=bE (bw S k).aK+m:=by rw[oL,wq]
 have N5:=(C.may k).gx.pos;have hlen:=(C.may k).hi;have hlo:=(C.may k).lo;have hmem:∀j p,bZ (bw (iK S k ⟨(bw S k).aK++[⟨v,m⟩],32*bE (bw S k).aK+s⟩) j).aK p↔bZ (bw S j).aK p\/(j=k/\v<=p/\p<v+m):=λj p=>by
  by_cases hj:j=k
  ·subst hj
   rw[fS];show bZ ((bw S j).aK++[⟨v,m⟩]) p↔_;rw[Jk];simp
  ·rw[rQ _ _ hj];simp[hj]
 have hlt:∀p,gW P p->gW (qR (uZ P f) v m.toNat) p:=λp ⟨q0,q1,q2⟩=>⟨q0,by rw[z2];exact q1,λh=>by rw[z1]at h;exact q2 ((YY p).1 h).1⟩;have hby:∀b,0<=b->¬(v<=b/32/\b/32<v+m)->FN (qR (uZ P f) v m.toNat) b=FN P b:=λb b0 b1=>by rw[OR _ o2 _ b0,aiN (by omega)];rfl
 have hz:∀b,0<=b->v<=b/32->b/32<v+m->FN (qR (uZ P f) v m.toNat) b=0:=λb b0 b1 b2=>by rw[OR _ o2 _ b0,aiM (by omega)]
 have old:∀j a,HD S j a->oQ (iK S k ⟨(bw S k).aK++[⟨v,m⟩],32*bE (bw S k).aK+s⟩) (qR (uZ P f) v m.toNat) j a=oQ S P j a:=λj a ha=>by
  obtain⟨m1,m2⟩:=wO (C.may j).gx.gd ha;have e:dO (bw (iK S k ⟨(bw S k).aK++[⟨v,m⟩],32*bE (bw S k).aK+s⟩) j).aK a=dO (bw S j).aK a:=by
   by_cases hj:j=k
   ·subst hj;rw[fS];exact Oz (C.may j).gx.gd ha
   ·rw[rQ _ _ hj]
  unfold oQ;rw[e];exact hby _ m2 λq=>hno _ q.1 q.2 j m1
 have new:∀a,32*bE (bw S k).aK<=a->a<32*bE (bw S k).aK+32*m->oQ (iK S k ⟨(bw S k).aK++[⟨v,m⟩],32*bE (bw S k).aK+s⟩) (qR (uZ P f) v m.toNat) k a=0:=λa a0 a1=>by unfold oQ;rw[fS];show FN _ (dO ((bw S k).aK++[⟨v,m⟩]) a)=0;rw[MP hmay.gx.gd a0 a1];exact hz _ (by dsimp only;omega) (by dsimp only;omega) (by dsimp only;omega)
 refine⟨⟨OQ (P9 C.DA hf λp hp=>((YY p).1 hp).1) _ _,λj=>?_,λj p hp=>?_,λi j p hij hp hq=>?_,λp hp=>⟨hlt p (C.R4 p hp).1,λj hj=>?_⟩,C.qnd,C.Pe,λj a a0 a1=>?_,λp p0 p1=>?_⟩,old,new⟩
 ·by_cases hj:j=k
  ·subst hj;rw[fS];exact⟨hmay.gx,by dsimp only;omega,by dsimp only;rw[hsn];omega⟩
  ·rw[rQ _ _ hj];exact C.may j
 ·rcases(hmem j p).1 hp with hp|⟨_,q0,q1⟩
  ·exact hlt p (C.own j p hp)
  ·refine⟨by omega,by rw[z2];exact C.DA.fr p (ack p q0 q1),λhh=>?_⟩
   rw[z1]at hh;exact((YY p).1 hh).2 ⟨q0,q1⟩
 ·rcases(hmem i p).1 hp with hp'|⟨hp',q0,q1⟩<;>rcases(hmem j p).1 hq with C5|⟨C5,r0,r1⟩
  ·exact C.sep i j p hij hp' C5
  ·exact hno p r0 r1 i hp'
  ·exact hno p q0 q1 j C5
  ·exact hij (hp'.trans C5.symm)
 ·rcases(hmem j p).1 hj with hj|⟨_,q0,q1⟩
  ·exact(C.R4 p hp).2 j hj
  ·exact(C.R4 p hp).1.2.2 (ack p q0 q1)
 ·by_cases hj:j=k
  ·subst hj
   have a0':32*bE (bw S j).aK+s<=a:=by rw[fS]at a0;exact a0
   have a1':a<32*(bE (bw S j).aK+m):=by rw[fS, ← hsn]at *;exact a1
   exact new a (by omega) (by omega)
  ·rw[rQ _ _ hj]at a0 a1
   have h0:=(C.may j).lo;have:=old j a ⟨by omega,a1⟩;unfold oQ at this;rw[this];exact C.Xn j a a0 a1
 ·rw[z1]
  rw[z2]at p1;rcases C.Lx p p0 p1 with q|q|⟨j,q⟩
  ·by_cases hv:v<=p/\p<v+m
   ·exact .inr (.inr ⟨k,(hmem k p).2 (.inr ⟨rfl,hv⟩)⟩)
   ·exact .inl ((YY p).2 ⟨q,hv⟩)
  ·exact .inr (.inl q)
  ·exact .inr (.inr ⟨j,(hmem j p).2 (.inl q)⟩)
structure aaj(S:ae)(P:aj)(M:ai)(Q:List Int)(k:Nat)(s b:Int)(S':ae)(P':aj)(at_:Int):Prop where
 cw:Cw S' P' M Q
 st:∃l,S'=iK S k ⟨l,at_+s⟩
 lo:(bw S k).dZ<=at_
 al:at_%b=0
 n:P'.n=P.n
 old:∀j a,HD S j a->oQ S' P' j a=oQ S P j a
 Xn:∀a,(bw S k).dZ<=a->HD S' k a->oQ S' P' k a=0
 fit:eG (bw S k) s b=true->at_=zG (bw S k).dZ b/\(bw S' k).aK=(bw S k).aK/\P'=P
 new:eG (bw S k) s b=false->at_=32*bE (bw S k).aK/\∃v,(bw S' k).aK=(bw S k).aK++[⟨v,eY s⟩]/\Js P.dX.l v (eY s)/\(∀a,a<v->¬Js P.dX.l a (eY s))/\∀p,bZ P'.dX.l p↔bZ P.dX.l p/\¬(v<=p/\p<v+eY s)
theorem Gt(hn:200<=n)(C:Cw S P M Q)(a:uJ true n S t h k)(hd:c.Do=2)(hR:c.R=h){s b:Int}(hA:c.A=s)(hB:c.B=b)(ho:tv s b=true):
  (er n S P M Q t c=some (⟨6,0,0⟩,S,P,M,Q,t)/\eG (bw S k) s b=false/\((S.dH.T.aW k).gD<bE (bw S k).aK+eY s\/∀v,¬Js P.dX.l v (eY s)))\/
  ∃S' P' at_,er n S P M Q t c=some (⟨0,at_,0⟩,S',P',M,Q,t)/\aaj S P M Q k s b S' P' at_:=by
 have hk:=a.kl;have UZ:=ac3 (by omega) a (C.may k) hd hR hA hB ho;have Ag:c.Do≠15:=by omega
 obtain⟨n1,n2,n3⟩:=Ch ho;obtain⟨⟨s1,s2⟩,o3⟩:=l9.1 ho;have hne:=Um (by omega) a (C.may k) hd hR hA hB ho;have hql:=C.TJ;have g:=DL (n:=n) (by omega) C.Pe hk a.t0 a.t1;cases hf:eG (bw S k) s b with
 |true=>
  rw[hf,aiM rfl]at UZ;unfold L4 at hne;rw[hf,aiM rfl]at hne;refine .inr ⟨iK S k ⟨(bw S k).aK,zG (bw S k).dZ b+s⟩,P,zG (bw S k).dZ b,?_,?_⟩
  ·obtain⟨m,rfl⟩:∃m,n=m+1+2:=⟨n-3,by omega⟩
   rw[yJ Ag C.Pe a.t0 a.t1 UZ (vD a (.inl hd) hR) hk a.cY];have:=DU (S:=S) (P:=P) (M:=uW M k t) (M':=M) (Q:=Q) (u:=EK t c [] aB 0) (fF:=[]) (x0:=ay) (b0:=false) (by omega) (.inl (by show(0:Int)<=0;omega)) (Ua a hd hR) (PZ (by omega) a (C.may k) hd hR hA hB ho hf) rfl (by show c.Do≠3/\c.Do≠4;omega) (by simp) (by simp;omega) (by show 0<m+1+2;omega) g;rw[show Q++yG []=Q by simp[yG]]at this;exact PN Ag hne this
  ·have hm:=Ky (C.may k) hf
   obtain⟨f0,f1,f2⟩:=PI (C.may k) hf;have hc:=C.abq k (L:=zG (bw S k).dZ b+s) (by omega) hm.hi;refine⟨hc,⟨_,rfl⟩,f1,(B4 o3).2.2.1,rfl,λj x _ =>I8 _ _ _ _ _ _,λx x0 x1=>?_,λ_ =>⟨rfl,by rw[fS],rfl⟩,λh=>by rw[hf]at h;cases h⟩;rw[I8];refine C.Xn k x x0 ?_;have:=x1.2;rw[fS]at this;exact this
 |false=>
  rw[hf,aiN (by simp)]at UZ;unfold L4 at hne;rw[hf,aiN (by simp)]at hne;by_cases hq:bE (bw S k).aK+eY s<=(S.dH.T.aW k).gD
  ·rw[aiM hq]at UZ hne
   rcases Zn C.DA.Qf (k:=eY s)with⟨e1,e2⟩|⟨v,e1,v0,e2,e3⟩
   ·refine .inl ⟨?_,rfl, .inr e2⟩
    obtain⟨m,rfl⟩:∃m,n=m+1+2:=⟨n-3,by omega⟩;rw[yJ Ag C.Pe a.t0 a.t1 UZ (vD a (.inl hd) hR) hk a.cY];exact RC (by omega) Ag C.DA (by omega) hne e1 g
   ·obtain⟨⟨w1,w2,w3⟩,w4⟩:=id e2
    obtain⟨d,hdn⟩:∃d:Nat,(d:Int)=eY s:=⟨(eY s).toNat,by omega⟩;have hdt:(eY s).toNat=d:=by omega
    obtain⟨m,rfl⟩:∃m,n=m+d+1+1+2:=⟨n-d-4,by omega⟩;obtain⟨f,f1,f2,f3⟩:=RD (S:=S) (P:=P) (M:=uW M k t) (Q:=Q) (m:=m+d+1) (by omega) Ag C.DA (by omega) (by omega) hne e1 v0 e2;obtain⟨G1,G2,G3⟩:=C.ah6 k (s:=s) e2 f1 f2 ⟨by omega,by omega⟩;refine .inr ⟨iK S k ⟨(bw S k).aK++[⟨v,eY s⟩],32*bE (bw S k).aK+s⟩,qR (uZ P f) v (eY s).toNat,32*bE (bw S k).aK,?_,?_⟩
    ·rw[yJ Ag C.Pe a.t0 a.t1 UZ (vD a (.inl hd) hR) hk a.cY,f3]
     have afP:∀p,v<=p->p<v+eY s->gW (uZ P f) p:=λp p0 p1=>⟨by omega,C.DA.fr p (w4 p p0 p1),λhh=>((f2 p).1 hh).2 ⟨p0,p1⟩⟩;have hdo:=Vz (by omega) a (C.may k) hd hR hA hB ho hf hq (r:=⟨v,eY s⟩) rfl e2.1 (λp p0 p1 hp=>(C.own k p hp).2.2 (w4 p p0 p1));have:=DU (S:=S) (P:=qR (uZ P f) v (eY s).toNat) (M:=uW M k t) (M':=M) (Q:=Q) (u:=EK t c [] ⟨v,eY s⟩ (eY s)) (fF:=[]) (x0:=ay) (b0:=false) (by omega) (.inr ⟨by show 0<eY s;omega,hne⟩) (Ua a hd hR) hdo rfl (by show c.Do≠3/\c.Do≠4;omega) (by simp) (by simp;omega) (by show 0<m+d+1+1+2;omega) g;rw[show Q++yG []=Q by simp[yG]]at this;exact VC (by omega) Ag v0 (by omega) (by omega) hne (P9 C.DA f1 λp hp=>((f2 p).1 hp).1) afP ⟨_,this⟩ d 0 m (by omega)
    ·have N5:=(C.may k).gx.pos
     have hlo:=(C.may k).lo;refine⟨G1,⟨_,rfl⟩,(C.may k).hi,?_,(sx _ _ _).2,G2,λx x0 x1=>?_,(λh=>by rw[hf]at h;cases h),λ_ =>⟨rfl,v,by rw[fS],e2,e3,λp=>by rw[(sx _ _ _).1];exact f2 p⟩⟩
     ·rcases o3 with rfl|rfl|rfl|rfl<;>omega
     ·rcases Int.lt_or_le x (32*bE (bw S k).aK)with hx|hx
      ·rw[G2 k x ⟨by omega,hx⟩];exact C.Xn k x x0 hx
      ·refine G3 x hx ?_
       have:=x1.2;rw[fS]at this;dsimp only at this;rw[oL,wq]at this;omega
  ·rw[aiN hq]at UZ
   exact .inl ⟨Gs (by omega) Ag C.Pe a.t0 a.t1 UZ (by omega),rfl, .inl (by omega)⟩
theorem RK(hn:200<=n)(C:Cw S P M Q)(a:uJ true n S t h k)(hd:c.Do=2)(hR:c.R=h){s b:Int}(hA:c.A=s)(hB:c.B=b)(ho:tv s b=true):
  ∃P0 Q0,(P0=P/\Q0=Q\/Q0=[]/\∀p,bZ P0.dX.l p↔bZ P.dX.l p\/p∈Q)/\Cw S P0 M Q0/\P0.n=P.n/\P0.bytes=P.bytes/\
  ((cI n S P M Q t c=some (⟨6,0,0⟩,S,P0,M,Q0,t)/\Q0=[]/\eG (bw S k) s b=false/\((S.dH.T.aW k).gD<bE (bw S k).aK+eY s\/∀v,¬Js P0.dX.l v (eY s)))\/
  ∃S' P' at_,cI n S P M Q t c=some (⟨0,at_,0⟩,S',P',M,Q0,t)/\aaj S P0 M Q0 k s b S' P' at_):=by
 rcases Gt hn C a hd hR hA hB ho with⟨e1,e2,e3⟩|⟨S',P',at_,e1,e2⟩
 ·by_cases hq:Q=[]
  ·exact⟨P,Q, .inl ⟨rfl,rfl⟩,C,rfl,rfl, .inl ⟨kE e1 (.inr hq),hq,e2,e3⟩⟩
  ·obtain⟨P0,c1,c2,c3,c4,c5⟩:=Ox (by omega) C hq e1
   refine⟨P0,[], .inr ⟨rfl,c4⟩,c1,c2,c3,?_⟩;rw[c5];rcases Gt hn c1 a hd hR hA hB ho with⟨d1,d2,d3⟩|⟨S',P',at_,d1,d2⟩
   ·exact .inl ⟨d1,rfl,d2,d3⟩
   ·exact .inr ⟨S',P',at_,d1,d2⟩
 ·exact⟨P,Q, .inl ⟨rfl,rfl⟩,C,rfl,rfl, .inr ⟨S',P',at_,kE e1 (.inl (by show(0:Int)≠6;omega)),e2⟩⟩
end
end Go.Proofs.Z
namespace Go.Proofs.Z
open Go Go.Bw
theorem ZE(k:Nat):(256:Int)^k=((256^k:Nat):Int):=(Int.natCast_pow 256 k).symm
theorem ab0{V:Int}(hV:0<=V)(k:Nat):Iz (DY V) k=V%256^k:=by
 obtain⟨v,rfl⟩:=Int.eq_ofNat_of_zero_le hV
 induction k with
 |zero=>unfold Iz;simp
 |succ k ih=>
  rw[Uz,ih];have h:=Nat.mod_pow_succ (x:=v) (b:=256) (k:=k);have e1:DY (v:Int) k=((v/256^k%256:Nat):Int):=by unfold DY;rw[ZE];rfl
  have e2:(v:Int)%256^k=((v%256^k:Nat):Int):=by rw[ZE];rfl
  have e3:(v:Int)%256^(k+1)=((v%256^(k+1):Nat):Int):=by rw[ZE];rfl
  rw[e1,e2,e3,h,Int.natCast_add,Int.natCast_mul, ← ZE,Int.mul_comm]
def v7(S:ae)(P:aj)(k:Nat)(a:Int):Int:=Iz (λi=>oQ S P k (a+(i:Int))) 8
def mj(S:ae)(k:Nat)(a:Int):Prop:=0<=a/\a%8=0/\a+8<=(bw S k).dZ
instance(S:ae)(k:Nat)(a:Int):Decidable (mj S k a):=by unfold mj;infer_instance
def Wd(S:ae)(P:aj)(k:Nat)(a:Int):Int:=if mj S k a then v7 S P k a else 0
def Gf(m:Int->Int)(a v:Int):Int->Int:=λb=>if b=a then v else m b
theorem J6(m:Int->Int)(a v:Int):Gf m a v a=v:=aiM rfl
theorem Fw(m:Int->Int){a b:Int}(v:Int)(h:b≠a):Gf m a v b=m b:=aiN h
section
variable {n:Nat} {S S':ae} {P P':aj} {M:ai} {Q Q':List Int} {t h:Int} {k:Nat}
theorem TH(C:Cw S P M Q)(k:Nat)(a:Int):0<=oQ S P k a/\oQ S P k a<=255:=Qg C.DA _
theorem F3(C:Cw S P M Q)(k:Nat)(a:Int):0<=v7 S P k a/\v7 S P k a<18446744073709551616:=KG (k:=8) λi _ =>TH C k _
theorem zg(C:Cw S P M Q)(k:Nat)(a:Int):0<=Wd S P k a/\Wd S P k a<18446744073709551616:=by
 unfold Wd;split
 ·exact F3 C k a
 ·omega
theorem VZ{a:Int}(h:mj S k a):Wd S P k a=v7 S P k a:=aiM h
def uH(d h a b v:Int):aC:=⟨d,h,0,a,b,v⟩
theorem CL{d a b v:Int}(ha:0<=a/\a<4294967296)(hb:0<=b/\b<4294967296){r:ah}(hc:cI n S P M Q t (uH d h a b v)=some (r,S',P',M,Q',t)):ja n S P M Q t d h a b v=some (r,S',P',M,Q',t):=by
 have e:∀x:Int,0<=x/\x<4294967296->mg n x=some (x,true):=λx hx=>by
  unfold mg;rw[aal hx.1 (by omega)];have:(decide (0<=x)&&decide (x<=4294967295))=true:=by simp;omega
  rw[this]
 unfold ja;rw[ak (e a ha),ak (e b hb),au (by rfl)];show bd (cI n S P M Q t (uH d h a b v)) _ =_;rw[ak hc];rfl
theorem ZL{d a b v:Int}(ha:a<0\/4294967296<=a):ja n S P M Q t d h a b v=some (⟨2,0,0⟩,S,P,M,Q,t):=by
 have e:∃x,mg n a=some (x,false):=by
  unfold mg;have:(decide (0<=a)&&decide (a<=4294967295))=false:=by rw[Bool.and_eq_false_iff];simp;omega
  rw[this];exact⟨_,rfl⟩
 obtain⟨x,e⟩:=e;obtain⟨y,e2⟩:∃y,mg n b=some y:=⟨_,rfl⟩;unfold ja;rw[ak e,ak e2,aU (by rfl)];rfl
theorem OS{w:Bool}(hn:200<=n)(C:Cw S P M Q)(a:uJ w n S t h k){x:Int}(h0:0<=x)(h1:x+8<=(bw S k).dZ):kx n S P M Q t h x=some (v7 S P k x,0,S,P,M,Q,t):=by have hh:=(C.may k).hi;have hs:=(C.may k).gx.sum;have:cI n S P M Q t (uH 3 h x 8 0)=some (if x+8<=(bw S k).dZ then⟨0,v7 S P k x,0⟩else⟨9,0,0⟩,S,P,M,Q,t):=Ma hn C a (c:=uH 3 h x 8 0) rfl rfl ⟨h0,by show x<_;omega⟩ ⟨by show(1:Int)<=8;omega,by show(8:Int)<=8;omega⟩;rw[aiM h1]at this;unfold kx;rw[ak (CL ⟨h0,by omega⟩ (by omega) this)];rfl
theorem SE{w:Bool}(hn:200<=n)(C:Cw S P M Q)(a:uJ w n S t h k){x:Int}(h1:¬(0<=x/\x+8<=(bw S k).dZ)):∃e,(e=2\/e=9)/\kx n S P M Q t h x=some (0,e,S,P,M,Q,t):=by
 by_cases h2:0<=x/\x<4294967296
 ·have:cI n S P M Q t (uH 3 h x 8 0)=some (if x+8<=(bw S k).dZ then⟨0,v7 S P k x,0⟩else⟨9,0,0⟩,S,P,M,Q,t):=Ma hn C a (c:=uH 3 h x 8 0) rfl rfl h2 ⟨by show(1:Int)<=8;omega,by show(8:Int)<=8;omega⟩
  rw[aiN (show¬(x+8<=(bw S k).dZ)by omega)]at this;refine⟨9, .inr rfl,?_⟩;unfold kx;rw[ak (CL h2 (by omega) this)];rfl
 ·refine⟨2, .inl rfl,?_⟩
  unfold kx;rw[ak (ZL (by omega))];rfl
def swP(S:ae)(P:aj)(k:Nat)(h x v:Int):aj:=W8 S P k (uH 4 h x 8 v)
theorem Tx(hn:200<=n)(C:Cw S P M Q)(a:uJ true n S t h k){x v:Int}(h0:0<=x)(h1:x+8<=(bw S k).dZ)(hv:0<=v/\v<18446744073709551616):uy n S P M Q t h x v=some (0,S,swP S P k h x v,M,Q,t)/\Cw S (swP S P k h x v) M Q:=by have hh:=(C.may k).hi;have hs:=(C.may k).gx.sum;have hb:1<=(uH 4 h x 8 v).B/\(uH 4 h x 8 v).B<=8:=⟨by show(1:Int)<=8;omega,by show(8:Int)<=8;omega⟩;have:cI n S P M Q t (uH 4 h x 8 v)=some (if x+8<=(bw S k).dZ then⟨0,0,0⟩else⟨9,0,0⟩,S,if x+8<=(bw S k).dZ then W8 S P k (uH 4 h x 8 v)else P,M,Q,t):=QH hn C a (c:=uH 4 h x 8 v) rfl rfl ⟨h0,by show x<_;omega⟩ hb hv;rw[aiM h1,aiM h1]at this;refine⟨?_,abi C h0 hb h1⟩;unfold uy;rw[ak (CL ⟨h0,by omega⟩ (by omega) this)];rfl
theorem No(C:Cw S P M Q){x v:Int}(h0:0<=x)(h1:x+8<=(bw S k).dZ){j:Nat}{b:Int}(hb:HD S j b):oQ S (swP S P k h x v) j b=if j=k/\x<=b/\b<x+8 then DY v (b-x).toNat else oQ S P j b:=by have hh:=(C.may k).hi;exact Te C (c:=uH 4 h x 8 v) h0 ⟨by show(1:Int)<=8;omega,by show(8:Int)<=8;omega⟩ (by show x+8<=_;omega) hb
theorem S7(C:Cw S P M Q){x v:Int}(hx:mj S k x)(hv:0<=v/\v<18446744073709551616):Wd S (swP S P k h x v) k=Gf (Wd S P k) x v/\∀j,j≠k->Wd S (swP S P k h x v) j=Wd S P j:=by
 obtain⟨x0,x1,x2⟩:=id hx;constructor
 ·funext b
  unfold Gf Wd;by_cases hb:mj S k b
  ·obtain⟨b0,b1,b2⟩:=id hb
   rw[aiM hb];by_cases e:b=x
   ·subst e
    rw[aiM rfl];unfold v7;rw[og (g:=DY v) λi hi=>by
     rw[No C x0 x2 (C.ad (by omega) (by omega)),aiM ⟨rfl,by omega,by omega⟩,show(b+(i:Int)-b).toNat=i by omega],ab0 hv.1]
    exact Int.emod_eq_of_lt hv.1 hv.2
   ·rw[aiN e,aiM hb]
    unfold v7;exact og λi hi=>by rw[No C x0 x2 (C.ad (by omega) (by omega)),aiN (λq=>by obtain⟨_,q1,q2⟩:=q;omega)]
  ·rw[aiN hb,aiN hb,aiN (λ(e:b=x)=>hb (by rw[e];exact hx))]
 ·intro j hj
  funext b;unfold Wd;by_cases hb:mj S j b
  ·obtain⟨b0,b1,b2⟩:=id hb
   rw[aiM hb,aiM hb];unfold v7;exact og λi hi=>by rw[No C x0 x2 (C.ad (by omega) (by omega)),aiN (λq=>hj q.1)]
  ·rw[aiN hb,aiN hb]
theorem ZO{s b at_:Int}(C:Cw S P M Q)(A:aaj S P M Q k s b S' P' at_)(h8:(bw S k).dZ%8=0)(hs:0<=s):∀j,Wd S' P' j=Wd S P j:=by
 obtain⟨l,rfl⟩:=A.st;intro j;funext x;unfold Wd;have hlen:(bw (iK S k ⟨l,at_+s⟩) k).dZ=at_+s:=by rw[fS]
 have hlo:=A.lo;by_cases hj:j=k
 ·subst hj
  by_cases h1:mj S j x
  ·obtain⟨x0,x1,x2⟩:=id h1
   rw[aiM h1,aiM ⟨x0,x1,by rw[hlen];omega⟩];unfold v7;exact og λi hi=>A.old _ _ (C.ad (by omega) (by omega))
  ·rw[aiN h1]
   by_cases h2:mj (iK S j ⟨l,at_+s⟩) j x
   ·obtain⟨x0,x1,x2⟩:=id h2
    have h3:(bw S j).dZ<=x:=by unfold mj at h1;omega
    rw[aiM h2];unfold v7;rw[og (g:=λ_ =>0) λi hi=>A.Xn _ (by omega) (A.cw.ad (by omega) (by omega))];rfl
   ·rw[aiN h2]
 ·have e:mj (iK S k ⟨l,at_+s⟩) j x↔mj S j x:=by unfold mj;rw[rQ _ _ hj]
  by_cases h1:mj S j x
  ·obtain⟨x0,x1,x2⟩:=id h1
   rw[aiM h1,aiM (e.2 h1)];unfold v7;exact og λi hi=>A.old _ _ (C.ad (by omega) (by omega))
  ·rw[aiN h1,aiN (λq=>h1 (e.1 q))]
theorem O3(hb:P'.bytes=P.bytes):∀j,Wd S P' j=Wd S P j:=by
 intro j;have:∀a,oQ S P' j a=oQ S P j a:=λa=>by unfold oQ FN;rw[hb]
 funext x;unfold Wd v7;split
 ·exact og λi _ =>this _
 ·rfl
theorem Q6(hn:200<=n)(C:Cw S P M Q)(a:uJ true n S t h k){s b:Int}(ho:tv s b=true):
  ∃P0 Q0,(P0=P/\Q0=Q\/Q0=[]/\∀p,bZ P0.dX.l p↔bZ P.dX.l p\/p∈Q)/\Cw S P0 M Q0/\P0.n=P.n/\P0.bytes=P.bytes/\
  ((ef n S P M Q t h s b=some (0,6,S,P0,M,Q0,t)/\Q0=[]/\eG (bw S k) s b=false/\((S.dH.T.aW k).gD<bE (bw S k).aK+eY s\/∀v,¬Js P0.dX.l v (eY s)))\/
  ∃S' P' at_,ef n S P M Q t h s b=some (at_,0,S',P',M,Q0,t)/\aaj S P0 M Q0 k s b S' P' at_/\0<=at_/\at_<=2048):=by
 obtain⟨⟨s1,s2⟩,o3⟩:=l9.1 ho;have hb:0<=b/\b<4294967296:=by rcases o3 with rfl|rfl|rfl|rfl<;>omega
 obtain⟨P0,Q0,e1,e2,e3,e4,e5⟩:=RK hn C a (c:=uH 2 h s b 0) (s:=s) (b:=b) rfl rfl rfl rfl ho;refine⟨P0,Q0,e1,e2,e3,e4,?_⟩;rcases e5 with⟨f1,f2⟩|⟨S',P',at_,f1,f2⟩
 ·refine .inl ⟨?_,f2⟩
  unfold ef;rw[ak (CL ⟨by omega,by omega⟩ hb f1),aP];rfl
 ·have h0:=(C.may k).lo
  have h1:=f2.lo;have h2:at_+s<=2048:=by obtain⟨l,rfl⟩:=f2.st;have:=(f2.cw.may k).hi;have:=(f2.cw.may k).gx.sum;rw[fS]at *;dsimp only at *;omega
  refine .inr ⟨S',P',at_,?_,f2,by omega,by omega⟩;unfold ef;rw[ak (CL ⟨by omega,by omega⟩ hb f1),aP,br (x:=at_) (by omega) (by omega)]
end
end Go.Proofs.Z
namespace Go.Proofs.Z
open Go Go.Bw
structure Me(n:Nat)(S:ae)(P:aj)(M:ai)(Q:List Int)(t h:Int)(k:Nat):Prop where
 cw:Cw S P M Q
 Fb:uJ true n S t h k
 l8:(bw S k).dZ%8=0
structure Mr(n:Nat)(S:ae)(P:aj)(M:ai)(Q:List Int)(t h:Int)(k:Nat):Prop where
 cw:Cw S P M Q
 Fb:uJ false n S t h k
theorem Me.mr{n:Nat}{S:ae}{P:aj}{M:ai}{Q:List Int}{t h:Int}{k:Nat}(E:Me n S P M Q t h k):Mr n S P M Q t h k:=⟨E.cw,E.Fb.ahc⟩
section
variable {n:Nat} {S S':ae} {P P':aj} {M:ai} {Q Q':List Int} {t h:Int} {k:Nat}
theorem Me.set(E:Me n S P M Q t h k){x v:Int}(hn:200<=n)(h1:mj S k x)(hv:0<=v/\v<18446744073709551616):Me n S (swP S P k h x v) M Q t h k:=
 ⟨(Tx hn E.cw E.Fb h1.1 h1.2.2 hv).2,E.Fb,E.l8⟩
theorem Me.alloc(hn:200<=n)(E:Me n S P M Q t h k){s:Int}(ho:tv s 8=true)(hs:s%8=0):
  ∃S' P' Q',(Q=[]->Q'=[])/\P'.n=P.n/\Me n S' P' M Q' t h k/\(∀j,Wd S' P' j=Wd S P j)/\(Q=[]->bE P'.dX.l+bE (bw S' k).aK=bE P.dX.l+bE (bw S k).aK)/\
   ((ef n S P M Q t h s 8=some (0,6,S',P',M,Q',t)/\S'=S/\Q'=[]/\eG (bw S k) s 8=false/\((S.dH.T.aW k).gD<bE (bw S k).aK+eY s\/∀v,¬Js P'.dX.l v (eY s)))\/
    ∃x l,ef n S P M Q t h s 8=some (x,0,S',P',M,Q',t)/\S'=iK S k ⟨l,x+s⟩/\(bw S k).dZ<=x/\x%8=0/\0<=x/\x+s<=2048/\
     (eG (bw S k) s 8=true->x=zG (bw S k).dZ 8/\l=(bw S k).aK/\(Q=[]->∀p,bZ P'.dX.l p↔bZ P.dX.l p))/\
     (eG (bw S k) s 8=false->x=32*bE (bw S k).aK/\∃v,l=(bw S k).aK++[⟨v,eY s⟩]/\(Q=[]->Js P.dX.l v (eY s)/\(∀a,a<v->¬Js P.dX.l a (eY s))/\∀p,bZ P'.dX.l p↔bZ P.dX.l p/\¬(v<=p/\p<v+eY s)))):=by
 obtain⟨P0,Q0,e1,e2,e3,e4,e5⟩:=Q6 hn E.cw E.Fb ho;have hq:Q=[]->Q0=[]:=λhq=>by
  rcases e1 with⟨_,h2⟩|⟨h2,_⟩
  ·rw[h2,hq]
  ·exact h2
 have Mj:Q=[]->∀p,bZ P0.dX.l p↔bZ P.dX.l p:=λhq p=>by
  rcases e1 with⟨h1,_⟩|⟨_,h2⟩
  ·rw[h1]
  ·rw[h2,hq];simp
 rcases e5 with⟨f1,f2,f3,f4⟩|⟨S',P',x,f1,f2,f3,f4⟩
 ·exact⟨S,P0,Q0,hq,e3,⟨e2,E.Fb,E.l8⟩,O3 e4,λq=>by rw[K7 e2.DA.Qf E.cw.DA.Qf (Mj q)], .inl ⟨f1,rfl,f2,f3,f4⟩⟩
 ·obtain⟨l,hl⟩:=f2.st
  obtain⟨⟨s1,s2⟩,_⟩:=l9.1 ho;have hw:=ZO e2 f2 E.l8 (by omega);have hlen:(bw S' k).dZ=x+s:=by rw[hl,fS]
  have Ml:=(f2.cw.may k).hi;have hsx:=(f2.cw.may k).gx.sum;have hal:=f2.al;refine⟨S',P',Q0,hq,f2.n.trans e3,⟨f2.cw,by rw[hl];exact E.Fb.set _ _,by rw[hlen];omega⟩,λj=>(hw j).trans (O3 e4 j),λq=>?_, .inr ⟨x,l,f1,hl,f2.lo,f2.al,f3,by omega,λhf=>?_,λhf=>?_⟩⟩
  ·have hfr:=K7 e2.DA.Qf E.cw.DA.Qf (Mj q)
   cases hf:eG (bw S k) s 8 with
   |true=>obtain⟨g1,g2,g3⟩:=f2.fit hf;rw[g2,g3,hfr]
   |false=>
    obtain⟨g1,v,g2,g3,g4,g5⟩:=f2.new hf;have Rf:=K6 g3.1;have:=IY e2.DA.Qf f2.cw.DA.Qf Rf (λp=>by
     rw[g5,eZ];constructor
     ·intro hp
      by_cases hr:v<=p/\p<v+eY s
      ·exact .inr hr
      ·exact .inl ⟨hp,hr⟩
     ·rintro(hp|hp)
      ·exact hp.1
      ·exact g3.2 p hp.1 hp.2) (λp hp hq=>by rw[eZ]at hq;exact((g5 p).1 hp).2 hq)
    rw[wq,hfr]at this;rw[g2,oL,wq];omega
  ·obtain⟨g1,g2,g3⟩:=f2.fit hf
   rw[hl,fS]at g2;exact⟨g1,g2,λq p=>by rw[g3];exact Mj q p⟩
  ·obtain⟨g1,v,g2,g3,g4,g5⟩:=f2.new hf
   rw[hl,fS]at g2;have hi:Q=[]->∀a,Js P.dX.l a (eY s)↔Js P0.dX.l a (eY s):=λq a=>and_congr_right λ_ =>forall_congr' λp=>imp_congr_right λ_ =>imp_congr_right λ_ =>(Mj q p).symm
   exact⟨g1,v,g2,λq=>⟨(hi q v).2 g3,λa ha=>λhh=>g4 a ha ((hi q a).1 hh),λp=>by rw[g5,Mj q p]⟩⟩
end
theorem zI(S:ae)(k:Nat):iK S k (bw S k)=S:=by have h:iD S.dH.T.aW k {S.dH.T.aW k with E:=bw S k}=S.dH.T.aW:=Du _ _;unfold iK;rw[h]
theorem QM(S:ae)(k:Nat)(E F:aD):iK (iK S k E) k F=iK S k F:=by
 have h:iD (iD S.dH.T.aW k {S.dH.T.aW k with E:=E}) k {(iD S.dH.T.aW k {S.dH.T.aW k with E:=E}) k with E:=F}=iD S.dH.T.aW k {S.dH.T.aW k with E:=F}:=by
  funext j;unfold iD;by_cases hj:j=k
  ·rw[aiM hj,aiM hj,aiM rfl]
  ·rw[aiN hj,aiN hj,aiN hj]
 unfold iK;dsimp only;rw[h]
structure Ev(S:ae)(P:aj)(Q:List Int)(S':ae)(P':aj)(Q':List Int)(k:Nat):Prop where
 st:∃E,S'=iK S k E
 oth:∀j,j≠k->Wd S' P' j=Wd S P j
 q:Q=[]->Q'=[]
 n:P'.n=P.n
 len:(bw S k).dZ<=(bw S' k).dZ
 pg:Q=[]->bE P'.dX.l+bE (bw S' k).aK=bE P.dX.l+bE (bw S k).aK
theorem Ev.refl(S:ae)(P:aj)(Q:List Int)(k:Nat):Ev S P Q S P Q k:=⟨⟨_,(zI S k).symm⟩,λ_ _ =>rfl,id,rfl,Int.le_refl _,λ_ =>rfl⟩
theorem Ev.trans{S S' S'':ae}{P P' P'':aj}{Q Q' Q'':List Int}{k:Nat}(a:Ev S P Q S' P' Q' k)(b:Ev S' P' Q' S'' P'' Q'' k):Ev S P Q S'' P'' Q'' k:=by obtain⟨E,hE⟩:=a.st;obtain⟨F,hF⟩:=b.st;exact⟨⟨F,by rw[hF,hE,QM]⟩,λj hj=>(b.oth j hj).trans (a.oth j hj),λh=>b.q (a.q h),b.n.trans a.n,Int.le_trans a.len b.len,λh=>(b.pg (a.q h)).trans (a.pg h)⟩
end Go.Proofs.Z
namespace Go.Proofs.Z
open Go Go.Bw
def WR(p:Int):aj:={n:=p,dX:=⟨[⟨0,p⟩]⟩,bytes:=λ_ =>λ_ =>0}
def WX:ae:={cS with mF:=iD cS.mF 0 true,Ft:=iD cS.Ft 0 true}
def JJ(q:Int):ae:={WX with dH:={T:={fE:=⟨⟨iD (λ_ =>jv) 0 {jv with kA:=true}⟩⟩,aW:=iD (λ_ =>iz) 0 ⟨0,q,cE,λ_ =>0⟩},O:=⟨iD (λ_ =>pY) 0 ⟨1,⟨1,0,0⟩⟩⟩,K:=dL}}
theorem yY(q:Int)(k:Nat):bw (JJ q) k=cE:=by unfold bw JJ iD;dsimp only;split<;>rfl
theorem ahs:pB cE:=⟨aaM Ig.nil,by show(0:Int)<=0;omega,by show(0:Int)<=32*bE [];simp[bE]⟩
theorem aeS{p:Int}(hp:1<=p/\p<=64):Ie (WR p):=⟨K6 ⟨hp.1,by omega,by omega⟩,hp.2,λx hx=>by
 obtain h:=eZ.1 hx;dsimp only at h;show x<p;omega,λi j=>⟨by show(0:Int)<=0;omega,by show(0:Int)<=255;omega⟩⟩
theorem aax:OL bA:=λi _ =>⟨rfl,rfl⟩
theorem aik{p:Int}(hp:1<=p/\p<=64)(q:Int):Cw (JJ q) (WR p) bA []:=by
 refine⟨aeS hp,λk=>by rw[yY];exact ahs,λk x hx=>?_,λk j x _ hx=>?_,λx hx=>by simp at hx,List.nodup_nil,aax,λk a h1 h2=>?_,λx x0 x1=> .inl (eZ.2 ⟨x0,by show x<0+p;have:x<p:=x1;omega⟩)⟩
 ·rw[yY]at hx;exact absurd hx (kO _)
 ·rw[yY]at hx;exact absurd hx (kO _)
 ·rw[yY]at h1 h2
  have h1':0<=a:=h1;have h2':a<32*bE []:=h2;simp[bE]at h2';omega
set_option maxRecDepth 100000 in
theorem ago{n:Nat}(hn:300<=n){q:Int}(hq:0<=q/\q<=64):uJ true n (JJ q) 0 1 0:=by obtain⟨m,rfl⟩:∃m,n=m+300:=⟨n-300,by omega⟩;exact⟨by omega,by kernel_rfl,by kernel_rfl,by omega,by omega,by kernel_rfl,λe=>by kernel_rfl,λ_ e=>by kernel_rfl,hq,⟨false,by kernel_rfl⟩⟩
theorem ahq{n:Nat}(hn:300<=n){p q:Int}(hp:1<=p/\p<=64)(hq:0<=q/\q<=64):Me n (JJ q) (WR p) bA [] 0 1 0:=⟨aik hp q,ago hn hq,by rw[yY];rfl⟩
theorem aio(p q:Int)(k:Nat):Wd (JJ q) (WR p) k=λ_ =>0:=by funext a;unfold Wd;rw[aiN];rintro⟨h1,_,h2⟩;rw[yY]at h2;have:a+8<=0:=h2;omega
theorem ahp{p:Int}(hp:1<=p/\p<=64):B8 20000 p=some ⟨[⟨0,p⟩]⟩:=by unfold B8;rw[aiN (show¬(64<p)by omega),au (by simp;omega)];rfl
def IC(q:Int):aC:={eF with Do:=1,A:=q}
set_option maxRecDepth 100000 in
theorem aaR{q:Int}(hq:0<=q/\q<=64):cq 20000 WX 0 (IC q) aB=some (JJ q,⟨0,0,1⟩,[]):=by
 have hm:wr .i64 (if 65<q then 65 else q)=q:=by rw[aiN (by omega),br (by omega) (by omega)]
 have hqt:lR 20000 q=some true:=by unfold lR;simp[hq.1,hq.2]
 have hf:tE 20000 ei 0 q=some ((JJ q).dH.T,1,0):=by
  have hT:nE 20000 ei 0 q=some ((JJ q).dH.T,1,0):=by
   unfold nE;rw[tH (by rfl),au (by rfl),ak hqt,au (b:= !true) rfl]
   kernel_rfl
  have hd:mR 20000 ei 0=some 0:=by kernel_rfl
  unfold tE;rw[ak hT,rX (by rfl) hd];rfl
 have hc:ij 20000 (jg WX 0 (IC q) aB false)=some (.ok (⟨0,0,1⟩,jg (JJ q) 0 (IC q) aB false)):=by
  unfold ij;rw[aP,au (by rfl)];show bd (tE 20000 ei 0 (wr .i64 (if 65<q then 65 else q))) _ =_;rw[hm,ak hf]
  kernel_rfl
 have hd:∃i,Hl 1=some (1,i,ij):=⟨_,rfl⟩;obtain⟨i,hi⟩:=hd;have hk:bO 20000 (jg WX 0 (IC q) aB false)=some (⟨0,0,1⟩,some (jg (JJ q) 0 (IC q) aB false)):=by unfold bO;rw[bH (by kernel_rfl),tc1 (by kernel_rfl),show Hl (jg WX 0 (IC q) aB false).c.Do=_ from hi];exact B5 hc
 unfold cq;rw[aP];show bd (bO 20000 (jg WX 0 (IC q) aB false)) _ =_;rw[ak hk];rfl
theorem ae1{p q:Int}(hq:0<=q/\q<=64):cI 20000 WX (WR p) bA [] 0 (IC q)=some (⟨0,0,1⟩,JJ q,WR p,bA,[],0):=by
 have UZ:fY 20000 WX 0 (IC q)=some 0:=by unfold fY;rw[ak (Cm (by show(1:Int)≠2;omega)),au (by simp),ak (aaR hq)];rfl
 refine kE ?_ (.inr rfl);rw[show(20000:Nat)=19998+1+1 from rfl]at UZ ⊢;rw[Uc (by show(1:Int)≠15;omega) UZ (by kernel_rfl)];have:=DU (n:=19998+1+1) (S:=WX) (P:=WR p) (M:=bA) (M':=bA) (Q:=[]) (u:=EK 0 (IC q) [] aB 0) (fF:=[]) (x0:=ay) (b0:=false) (pl:=([],4)) (by omega) (.inl (by show(0:Int)<=0;omega)) (by kernel_rfl) (aaR hq) rfl ⟨by show(1:Int)≠3;omega,by show(1:Int)≠4;omega⟩ (by simp) (by simp) (by simp) (PA (t:=0) (by omega) aax (by omega) (by omega));exact PN (by show(1:Int)≠15;omega) (Cm (by show(1:Int)≠2;omega)) this
theorem abU{p q s:Int}(hp:1<=p/\p<=64)(hq:q<=64)(ho:tv s 8=true)(h8:s%8=0)(h1:eY s<=p/\eY s<=q):∃S P,ef 20000 (JJ q) (WR p) bA [] 0 1 s 8=some (0,0,S,P,bA,[],0)/\Me 20000 S P bA [] 0 1 0/\P.n=p/\S=iK (JJ q) 0 ⟨[⟨0,eY s⟩],s⟩/\(∀j,Wd S P j=λ_ =>0)/\(∀x,bZ P.dX.l x↔eY s<=x/\x<p):=by
 obtain⟨n1,n2,n3⟩:=Ch ho;have E:=ahq (n:=20000) (by omega) hp (show 0<=q/\q<=64 by omega);have hnf:eG (bw (JJ q) 0) s 8=false:=by rw[yY];obtain⟨⟨s1,s2⟩,_⟩:=l9.1 ho;unfold eG;rw[ho,Bool.true_and,decide_eq_false_iff_not];show¬(zG 0 8+s<=32*bE []);simp only[bE,List.map_nil,List.sum_nil];unfold zG;omega
 have hin:Js (WR p).dX.l 0 (eY s):=⟨⟨by omega,by omega,by omega⟩,λx x0 x1=>eZ.2 ⟨x0,by show x<0+p;omega⟩⟩;obtain⟨S',P',Q',q1,q2,E',hW,_,hc⟩:=E.alloc (s:=s) (by omega) ho h8;have hQ:Q'=[]:=q1 rfl;subst hQ;rcases hc with⟨e1,e2,e3,e4,e5⟩|⟨x,l,e1,e2,e3,e4,e5,e6,e7,e8⟩
 ·exfalso
  rcases e5 with h|h
  ·have h1:((JJ q).dH.T.aW 0).gD=q:=rfl
   have h2:bE (bw (JJ q) 0).aK=0:=by rw[yY];rfl
   omega
  ·refine h 0 ⟨⟨by omega,by omega,by omega⟩,λx x0 x1=>?_⟩
   rcases E'.cw.Lx x x0 (by rw[q2];show x<p;omega)with h1|h1|⟨k,h1⟩
   ·exact h1
   ·simp at h1
   ·rw[e2,yY]at h1;exact absurd h1 (kO _)
 ·obtain⟨f1,v,f2,f3⟩:=e8 hnf
  obtain⟨g1,g2,g3⟩:=f3 rfl;have hv:v=0:=by
   have h0:=g1.1.2.1;rcases Int.lt_or_le 0 v with h1|h1
   ·exact absurd hin (g2 0 h1)
   ·omega
  subst hv;have hx:x=0:=by rw[f1,yY];rfl
  subst hx;have hl:l=[⟨0,eY s⟩]:=by rw[f2,yY];rfl
  subst hl;refine⟨S',P',e1,E',q2,by rw[e2,Int.zero_add],λj=>by rw[hW j,aio],λx=>?_⟩;rw[g3];constructor
  ·rintro⟨h1,h2⟩
   have h1':=eZ.1 h1;dsimp only at h1';omega
  ·rintro⟨h1,h2⟩
   exact⟨eZ.2 ⟨by show 0<=x;omega,by show x<0+p;omega⟩,by omega⟩
end Go.Proofs.Z
namespace Go.Proofs.Z
open Go Go.Bw
section
variable {n:Nat} {S S':ae} {P P':aj} {M:ai} {Q Q':List Int} {t h:Int} {k:Nat} {at_:Int}
theorem Rc(hn:200<=n)(E:Mr n S P M Q t h k){x:Int}(h1:mj S k x):cz n S P M Q t h at_ 0 x=some (Wd S P k x,S,P,M,Q,t,h,at_,0):=by unfold cz;rw[au (by rfl),ak (OS hn E.cw E.Fb h1.1 h1.2.2),aP,VZ h1]
theorem Pw{e:Int}(he:e≠0){x:Int}:cz n S P M Q t h at_ e x=some (0,S,P,M,Q,t,h,at_,e):=by unfold cz;rw[aU (by simpa using he)]
theorem o6(hn:200<=n)(E:Mr n S P M Q t h k){x:Int}(hr:0<=at_/\at_<=100000)(hx:0<=x/\x<=100)(h1:mj S k (at_+x)):bQ n S P M Q t h at_ 0 x=some (Wd S P k (at_+x),S,P,M,Q,t,h,at_,0):=by unfold bQ;rw[br (by omega) (by omega),ak (Rc hn E h1)]
theorem acn{e:Int}(he:e≠0){x:Int}:bQ n S P M Q t h at_ e x=some (0,S,P,M,Q,t,h,at_,e):=by unfold bQ;rw[ak (Pw he)]
theorem Mi(hn:200<=n)(E:Me n S P M Q t h k){x v:Int}(h1:mj S k x)(hv:0<=v/\v<18446744073709551616):cK n S P M Q t h at_ 0 x v=some (S,swP S P k h x v,M,Q,t,h,at_,0):=by unfold cK;rw[aU (by rfl),ak (Tx hn E.cw E.Fb h1.1 h1.2.2 hv).1,aP]
theorem Es{e:Int}(he:e≠0){x v:Int}:cK n S P M Q t h at_ e x v=some (S,P,M,Q,t,h,at_,e):=by unfold cK;rw[au (by simpa using he)]
theorem afC(hn:200<=n)(E:Me n S P M Q t h k){x v:Int}(hr:0<=at_/\at_<=100000)(hx:0<=x/\x<=100)(h1:mj S k (at_+x))(hv:0<=v/\v<18446744073709551616):bh n S P M Q t h at_ 0 x v=some (S,swP S P k h (at_+x) v,M,Q,t,h,at_,0):=by unfold bh;rw[br (by omega) (by omega),ak (Mi hn E h1 hv)]
theorem rh{e:Int}(he:e≠0){x v:Int}:bh n S P M Q t h at_ e x v=some (S,P,M,Q,t,h,at_,e):=by unfold bh;rw[ak (Es he)]
theorem IX{x:Int}(h0:0<=x)(h1:x<4294967296):gV n (x+1)=some x:=by unfold gV;rw[au (by simp;omega),sK (by omega) (by omega),br (by omega) (by omega)];congr 1;omega
theorem mO{x:Int}(h0:0<=x)(h1:x<4294967296):gi n x=some (x+1):=by unfold gi;rw[sK (x:=x) (by omega) (by omega),sK (by omega) (by omega)]
end
def Sc(m:Int->Int):List Int->Int->Prop
 |[],l=>l=0
 |x::r,l=>l=x+1/\Sc m r (m x)
theorem gk{m m':Int->Int}:∀{ns:List Int} {l:Int},(∀x∈ns,m' x=m x)->Sc m ns l->Sc m' ns l
 |[],_,_,h=>h
 |x::r,l,hm,⟨h1,h2⟩=>⟨h1,by rw[hm x (by simp)];exact gk (λy hy=>hm y (by simp[hy])) h2⟩
def tV(x y:Int):Prop:=x+16<=y\/y+16<=x
theorem vR{x y:Int}(h:tV x y):tV y x:=Or.symm h
structure Lr(m:Int->Int)(L a:Int)(vs ns sp:List Int):Prop where
 hb:0<=a/\a%8=0/\a+32<=L/\L<=2048
 nb:∀x∈ns++sp,0<=x/\x%8=0/\x+16<=L/\(x+16<=a\/a+32<=x)
 cr:(ns++sp).Pairwise tV
 first:Sc m ns (m a)
 IA:∀pre x,ns=pre++[x]->m (a+8)=x+1
 y6:m (a+16)=ns.length
 spare:Sc m sp (m (a+24))
 val:vs=ns.map λx=>m (x+8)
theorem Lr.len{m:Int->Int}{L a:Int}{vs ns sp:List Int}(h:Lr m L a vs ns sp):vs.length=ns.length:=by rw[h.val,List.length_map]
theorem Lr.frame{m m':Int->Int}{L L' a:Int}{vs ns sp:List Int}(h:Lr m L a vs ns sp)(hL:L<=L'/\L'<=2048)(h0:∀x,x=a\/x=a+8\/x=a+16\/x=a+24->m' x=m x)(hn:∀x,x∈ns++sp->m' x=m x/\m' (x+8)=m (x+8)):Lr m' L' a vs ns sp:=by
 refine⟨⟨h.hb.1,h.hb.2.1,by have:=h.hb;omega,hL.2⟩,λx hx=>?_,h.cr,?_,λpre x e=>?_,?_,?_,?_⟩
 ·obtain⟨a1,a2,a3,a4⟩:=h.nb x hx
  exact⟨a1,a2,by omega,a4⟩
 ·rw[h0 a (.inl rfl)];exact gk (λx hx=>(hn x (by simp[hx])).1) h.first
 ·rw[h0 _ (.inr (.inl rfl))];exact h.IA pre x e
 ·rw[h0 _ (.inr (.inr (.inl rfl)))];exact h.y6
 ·rw[h0 _ (.inr (.inr (.inr rfl)))];exact gk (λx hx=>(hn x (by simp[hx])).1) h.spare
 ·rw[h.val]
  exact List.map_congr_left λx hx=>((hn x (by simp[hx])).2).symm
theorem Lr.Cn{m:Int->Int}{L a:Int}{vs ns sp:List Int}(h:Lr m L a vs ns sp):(ns++sp).length<=128:=by
 have hl:((ns++sp).map λx=>(x+15)/16).length<=128:=by
  refine sA 128 ?_ λp hp=>?_
  ·rw[List.Nodup,List.pairwise_map]
   exact h.cr.imp λ{x y} hxy e=>by unfold tV at hxy;omega
  ·obtain⟨x,hx,rfl⟩:=List.mem_map.1 hp
   obtain⟨a1,_,a3,_⟩:=h.nb x hx;have:=h.hb;exact⟨by omega,by show _ <(128:Int);omega⟩
 rw[List.length_map]at hl;exact hl
theorem NF{l:List Int}(h:l.Pairwise tV){x y:Int}(hx:x∈l)(hy:y∈l):x=y\/tV x y:=by
 induction l with
 |nil=>simp at hx
 |cons z r ih=>
  obtain⟨h1,h2⟩:=List.pairwise_cons.1 h;rcases List.mem_cons.1 hx with ex|hx'<;>rcases List.mem_cons.1 hy with ey|hy'
  ·exact .inl (ex.trans ey.symm)
  ·rw[ex];exact .inr (h1 y hy')
  ·rw[ey];exact .inr (vR (h1 x hx'))
  ·exact ih h2 hx' hy'
theorem Lr.af5{m m':Int->Int}{L a v x:Int}{vs ns sp:List Int}(h:Lr m L a vs ns sp)(hx:0<=x/\x%8=0/\x+16<=L/\(x+16<=a\/a+32<=x))(hf:∀y∈ns++sp,tV x y)
  (e0:m' x=m a)(e1:m' (x+8)=v)(e2:m' a=x+1)(e3:m' (a+8)=if ns.length=0 then x+1 else m (a+8))(e4:m' (a+16)=ns.length+1)(e5:m' (a+24)=m (a+24))(e6:∀y∈ns++sp,m' y=m y/\m' (y+8)=m (y+8)):Lr m' L a (v::vs) (x::ns) sp:=by
 refine⟨h.hb,λy hy=>?_,List.pairwise_cons.2 ⟨hf,h.cr⟩,⟨e2,?_⟩,λpre z e=>?_,?_,?_,?_⟩
 ·rcases List.mem_cons.1 hy with rfl|hy
  ·exact hx
  ·exact h.nb y hy
 ·rw[e0];exact gk (λy hy=>(e6 y (by simp[hy])).1) h.first
 ·rw[e3]
  cases pre with
  |nil=>rw[List.nil_append,List.cons.injEq]at e;rw[e.2,aiM (by simp),e.1]
  |cons w r=>rw[List.cons_append,List.cons.injEq]at e;rw[aiN (by rw[e.2];simp)];exact h.IA r z e.2
 ·rw[e4];simp
 ·rw[e5];exact gk (λy hy=>(e6 y (by simp[hy])).1) h.spare
 ·rw[List.map_cons,e1,h.val]
  congr 1;exact List.map_congr_left λy hy=>((e6 y (by simp[hy])).2).symm
theorem ME{m m':Int->Int}{y:Int}(h4:m' y=0):∀{ns:List Int} {l:Int},ns≠[]->Sc m ns l->(∀pre z,ns=pre++[z]->(∀w∈pre,m' w=m w)/\m' z=y+1)->Sc m' (ns++[y]) l
 |[],_,hn,_,_ =>absurd rfl hn
 |[x],l,_,⟨h1,_⟩,hm=>⟨h1,by obtain⟨_,h⟩:=hm [] x rfl;exact h,h4⟩
 |x::z::r,l,_,⟨h1,h2⟩,hm=>by
  refine⟨h1,?_⟩;have hx:m' x=m x:=by obtain⟨pre,w,e⟩:∃pre w,z::r=pre++[w]:=⟨(z::r).dropLast,(z::r).getLast (by simp),(List.dropLast_concat_getLast (by simp)).symm⟩;exact(hm (x::pre) w (by rw[e];rfl)).1 x (by simp)
  show Sc m' ((z::r)++[y]) (m' x);rw[hx];exact ME h4 (by simp) h2 λpre w e=>by obtain⟨q1,q2⟩:=hm (x::pre) w (by rw[e];rfl);exact⟨λu hu=>q1 u (by simp[hu]),q2⟩
theorem Lr.fF{m m':Int->Int}{L a v x:Int}{vs ns sp:List Int}(h:Lr m L a vs ns sp)(hx:0<=x/\x%8=0/\x+16<=L/\(x+16<=a\/a+32<=x))(hf:∀y∈ns++sp,tV x y)
  (e0:m' x=0)(e1:m' (x+8)=v)(e2:m' (a+8)=x+1)(e3:m' a=if ns.length=0 then x+1 else m a)(e4:m' (a+16)=ns.length+1)(e5:m' (a+24)=m (a+24))(e6:∀y∈ns++sp,m' (y+8)=m (y+8))(e7:∀y∈sp,m' y=m y)(e8:∀pre z,ns=pre++[z]->(∀w∈pre,m' w=m w)/\m' z=x+1):Lr m' L a (vs++[v]) (ns++[x]) sp:=by
 have hp:((ns++[x])++sp).Perm (x::(ns++sp)):=by rw[List.append_assoc];exact List.perm_middle
 refine⟨h.hb,λy hy=>?_,(List.Perm.pairwise_iff vR hp).2 (List.pairwise_cons.2 ⟨hf,h.cr⟩),?_,λpre z e=>?_,?_,?_,?_⟩
 ·rcases List.mem_cons.1 (hp.mem_iff.1 hy)with rfl|hy
  ·exact hx
  ·exact h.nb y hy
 ·rw[e3]
  cases ns with
  |nil=>exact⟨rfl,e0⟩
  |cons z r=>rw[aiN (by simp)];exact ME e0 (by simp) h.first e8
 ·have:x=z:=by
   have:=congrArg List.getLast? e;rw[List.getLast?_append,List.getLast?_append]at this;simpa using this
  rw[e2,this]
 ·rw[e4];simp
 ·rw[e5];exact gk e7 h.spare
 ·rw[List.map_append,h.val]
  congr 1
  ·exact List.map_congr_left λy hy=>(e6 y (by simp[hy])).symm
  ·simp[e1]
theorem Lr.Jf{m m':Int->Int}{L a v x:Int}{vs ns sp:List Int}(h:Lr m L a (v::vs) (x::ns) sp)
  (e0:m' x=m (a+24))(e2:m' a=m x)(e3:ns≠[]->m' (a+8)=m (a+8))(e4:m' (a+16)=ns.length)(e5:m' (a+24)=x+1)(e6:∀y∈ns++sp,m' y=m y/\m' (y+8)=m (y+8)):Lr m' L a vs ns (x::sp):=by
 have hp:(ns++x::sp).Perm (x::(ns++sp)):=List.perm_middle;have hcr:=h.cr;refine⟨h.hb,λy hy=>h.nb y (hp.mem_iff.1 hy),(List.Perm.pairwise_iff vR hp).2 h.cr,?_,λpre z e=>?_,e4,⟨e5,?_⟩,?_⟩
 ·rw[e2];exact gk (λy hy=>(e6 y (by simp[hy])).1) h.first.2
 ·rw[e3 (by rw[e];simp)]
  exact h.IA (x::pre) z (by rw[e];rfl)
 ·rw[e0];exact gk (λy hy=>(e6 y (by simp[hy])).1) h.spare
 ·have hv:=h.val
  rw[List.map_cons,List.cons.injEq]at hv;rw[hv.2];exact List.map_congr_left λy hy=>((e6 y (by simp[hy])).2).symm
end Go.Proofs.Z
namespace Go.Proofs.Z
open Go Go.Bw
section
variable {n:Nat} {S S':ae} {P P':aj} {M:ai} {Q Q':List Int} {t h:Int} {k:Nat} {a:Int}
theorem uB(hn:200<=n)(E:Me n S P M Q t h k){x v:Int}(h1:mj S k x)(hv:0<=v/\v<18446744073709551616):
  ∃P',cK n S P M Q t h a 0 x v=some (S,P',M,Q,t,h,a,0)/\Me n S P' M Q t h k/\Wd S P' k=Gf (Wd S P k) x v/\Ev S P Q S P' Q k:=by
 obtain⟨w1,w2⟩:=S7 (h:=h) E.cw h1 hv;exact⟨_,Mi hn E h1 hv,E.set hn h1 hv,w1,⟨⟨_,(zI S k).symm⟩,w2,id,rfl,Int.le_refl _,λ_ =>rfl⟩⟩
theorem jO(hn:200<=n)(E:Me n S P M Q t h k){x v:Int}(hr:0<=a/\a<=100000)(hx:0<=x/\x<=100)(h1:mj S k (a+x))(hv:0<=v/\v<18446744073709551616):
  ∃P',bh n S P M Q t h a 0 x v=some (S,P',M,Q,t,h,a,0)/\Me n S P' M Q t h k/\Wd S P' k=Gf (Wd S P k) (a+x) v/\Ev S P Q S P' Q k:=by
 obtain⟨w1,w2⟩:=S7 (h:=h) E.cw h1 hv;exact⟨_,afC hn E hr hx h1 hv,E.set hn h1 hv,w1,⟨⟨_,(zI S k).symm⟩,w2,id,rfl,Int.le_refl _,λ_ =>rfl⟩⟩
theorem L1(hn:200<=n)(E:Me n S P M Q t h k){vs ns sp:List Int}(R:Lr (Wd S P k) (bw S k).dZ a vs ns sp):
  ∃x S' P' Q' e,iy n S P M Q t h a 0=some (x,S',P',M,Q',t,h,a,e)/\Me n S' P' M Q' t h k/\Ev S P Q S' P' Q' k/\
   ((e=6/\S'=S/\sp=[]/\Q'=[]/\Wd S' P' k=Wd S P k/\x=0/\eG (bw S k) 16 8=false/\((S.dH.T.aW k).gD<bE (bw S k).aK+1\/∀v,¬Js P'.dX.l v 1))\/
    (e=0/\∃sp',Lr (Wd S' P' k) (bw S' k).dZ a vs ns sp'/\(0<=x/\x%8=0/\x+16<=(bw S' k).dZ/\(x+16<=a\/a+32<=x))/\(∀y∈ns++sp',tV x y)/\
     ((sp.length=sp'.length+1/\S'=S)\/(sp=[]/\sp'=[]/\(bw S k).dZ+16<=(bw S' k).dZ/\((bw S k).dZ%16=0->(bw S' k).dZ=(bw S k).dZ+16)/\(eG (bw S k) 16 8=true->bE (bw S' k).aK=bE (bw S k).aK)/\(eG (bw S k) 16 8=false->bE (bw S' k).aK=bE (bw S k).aK+1)))/\
     ∀z,z=a\/z=a+8\/z=a+16->Wd S' P' k z=Wd S P k z)):=by
 obtain⟨b1,b2,b3,b4⟩:=R.hb;have hin:∀z,z=0\/z=8\/z=16\/z=24->mj S k (a+z):=λz hz=>⟨by omega,by omega,by omega⟩;have ho:tv 16 8=true:=rfl;cases sp with
 |nil=>
  obtain⟨S',P',Q',q1,q2,E',hW,hpg,hc⟩:=E.alloc hn ho rfl;have h0:Wd S P k (a+24)=0:=R.spare;have he:∀{x e:Int},ef n S P M Q t h 16 8=some (x,e,S',P',M,Q',t)->iy n S P M Q t h a 0=some (x,S',P',M,Q',t,h,a,e):=λ{x e} hm=>by unfold iy;rw[ak (o6 hn E.mr ⟨b1,by omega⟩ (by omega) (hin 24 (by omega))),au (by rfl),h0,aU (by rfl),ak hm,aP]
  rcases hc with⟨e1,e2,e3,e4,e5⟩|⟨x,l,e1,e2,e3,e4,e5,e6,e7,e8⟩
  ·subst e2
   refine⟨0,S',P',Q',6,he e1,E',⟨⟨_,(zI S' k).symm⟩,λj _ =>hW j,q1,q2,Int.le_refl _,hpg⟩, .inl ⟨rfl,rfl,rfl,e3,hW k,rfl,e4,?_⟩⟩;rcases e5 with h|h
   ·exact .inl h
   ·exact .inr h
  ·have hlen:(bw S' k).dZ=x+16:=by rw[e2,fS]
   have aaI:(bw S' k).aK=l:=by rw[e2,fS]
   refine⟨x,S',P',Q',0,he e1,E',⟨⟨_,e2⟩,λj _ =>hW j,q1,q2,by omega,hpg⟩, .inr ⟨rfl,[],?_,⟨e5,e4,by omega, .inr (by omega)⟩,λy hy=>?_, .inr ⟨rfl,rfl,by omega,λ_=>?_,λhf=>?_,λhf=>?_⟩,λz _ =>by rw[hW k]⟩⟩
   ·rw[hW k]
    exact R.frame ⟨by omega,by omega⟩ (λ_ _ =>rfl) (λ_ _ =>⟨rfl,rfl⟩)
   ·have:=(R.nb y hy).2.2.1
    exact .inr (by omega)
   ·have hm:=E.cw.may k
    have h1:=hm.hi;have h2:=hm.lo;cases hf:eG (bw S k) 16 8 with
    |true=>rw[hlen,(e7 hf).1];unfold zG;omega
    |false=>rw[hlen,(e8 hf).1];unfold eG at hf;rw[ho,Bool.true_and,decide_eq_false_iff_not]at hf;unfold zG at hf;omega
   ·rw[aaI,(e7 hf).2.1]
   ·obtain⟨v,hv,_⟩:=(e8 hf).2
    rw[aaI,hv,oL,wq];rfl
 |cons y sp'=>
  have hy:Wd S P k (a+24)=y+1:=R.spare.1;obtain⟨y1,y2,y3,y4⟩:=R.nb y (by simp);have hyi:mj S k (y+0):=⟨by omega,by omega,by omega⟩;have Xf:=zg E.cw k (y+0);obtain⟨P',f1,f2,f3,f4⟩:=jO (a:=a) hn E ⟨b1,by omega⟩ (x:=24) (by omega) (hin 24 (by omega)) Xf;have M5:=R.cr;have hp:(ns++y::sp').Perm (y::(ns++sp')):=List.perm_middle;have afI:=List.pairwise_cons.1 ((List.Perm.pairwise_iff vR hp).1 M5);have hnb:∀z∈ns++sp',0<=z/\z%8=0/\z+16<=(bw S k).dZ/\(z+16<=a\/a+32<=z):=λz hz=>R.nb z (hp.mem_iff.2 (by simp[hz]));refine⟨y,S,P',Q,0,?_,f2,f4, .inr ⟨rfl,sp',?_,⟨y1,y2,y3,y4⟩,afI.1, .inl ⟨by simp,rfl⟩,λz hz=>by rw[f3,Fw _ _ (by omega)]⟩⟩
  ·unfold iy
   rw[ak (o6 hn E.mr ⟨b1,by omega⟩ (by omega) (hin 24 (by omega))),au (by rfl),hy,au (by simp;omega),ak (IX (by omega) (by omega)),br (by omega) (by omega),ak (Rc hn E.mr hyi),ak f1,ak (IX (by omega) (by omega))]
  ·have DK:∀z,z≠a+24->Wd S P' k z=Wd S P k z:=λz hz=>by rw[f3,Fw _ _ hz]
   refine⟨R.hb,hnb,afI.2,?_,λpre z e=>?_,?_,?_,?_⟩
   ·rw[DK a (by omega)]
    exact gk (λz hz=>DK z (by have:=hnb z (by simp[hz]);omega)) R.first
   ·rw[DK _ (by omega)];exact R.IA pre z e
   ·rw[DK _ (by omega)];exact R.y6
   ·have UL:Wd S P' k (a+24)=Wd S P k y:=by rw[f3,J6,Int.add_zero]
    rw[UL];exact gk (λz hz=>DK z (by have:=hnb z (by simp[hz]);omega)) R.spare.2
   ·rw[R.val]
    exact List.map_congr_left λz hz=>(DK _ (by have:=hnb z (by simp[hz]);omega)).symm
end
end Go.Proofs.Z
namespace Go.Proofs.Z
open Go Go.Bw
section
variable {n:Nat} {S S':ae} {P P':aj} {M:ai} {Q Q':List Int} {t h:Int} {k:Nat} {a:Int}
def Oom(S:ae)(k:Nat)(P':aj):Prop:=eG (bw S k) 16 8=false/\((S.dH.T.aW k).gD<bE (bw S k).aK+1\/∀v,¬Js P'.dX.l v 1)
def WS(S S':ae)(k:Nat)(ns sp ns' sp':List Int):Prop:=ns'.length=ns.length+1/\ ((sp.length=sp'.length+1/\S'=S)\/(sp=[]/\sp'=[]/\(bw S k).dZ+16<=(bw S' k).dZ/\((bw S k).dZ%16=0->(bw S' k).dZ=(bw S k).dZ+16)/\(eG (bw S k) 16 8=true->bE (bw S' k).aK=bE (bw S k).aK)/\(eG (bw S k) 16 8=false->bE (bw S' k).aK=bE (bw S k).aK+1)))
theorem Rj(hn:200<=n)(E:Me n S P M Q t h k){vs ns sp:List Int}(R:Lr (Wd S P k) (bw S k).dZ a vs ns sp){v:Int}(hv:0<=v/\v<18446744073709551616):
  ∃S' P' Q' e,kQ n S P M Q t h a v=some (e,S',P',M,Q',t,h,a)/\Me n S' P' M Q' t h k/\Ev S P Q S' P' Q' k/\
   ((e=6/\S'=S/\sp=[]/\Q'=[]/\Wd S' P' k=Wd S P k/\Oom S k P')\/
    (e=0/\∃ns' sp',Lr (Wd S' P' k) (bw S' k).dZ a (v::vs) ns' sp'/\WS S S' k ns sp ns' sp')):=by
 obtain⟨b1,b2,b3,b4⟩:=R.hb;have hin:∀z,z=0\/z=8\/z=16\/z=24->mj S k (a+z):=λz hz=>⟨by omega,by omega,by omega⟩;have har:0<=a/\a<=100000:=⟨b1,by omega⟩;have hm:=R.Cn;rw[List.length_append]at hm;obtain⟨x,S1,P1,Q1,e,n1,E1,V1,hc⟩:=L1 hn E R;unfold kQ;rw[ak (o6 hn E.mr har (by omega) (hin 16 (by omega))),ak (o6 hn E.mr har (by omega) (hin 0 (by omega))),ak n1];rcases hc with⟨rfl,rfl,e3,e4,e5,rfl,e6,e7⟩|⟨rfl,sp',R1,hx,hf,hs⟩
 ·have h6:(6:Int)≠0:=by omega
  rw[ak (Es h6),ak (Es h6),ak (mO (x:=0) (by omega) (by omega)),ak (rh h6),aP];refine⟨S1,P1,Q1,6,?_,E1,V1, .inl ⟨rfl,rfl,e3,e4,e5,e6,e7⟩⟩;by_cases c:(Wd S1 P k (a+16)==0)=true
  ·rw[aU c]
   dsimp only;rw[ak (mO (x:=0) (by omega) (by omega)),ak (rh h6)];dsimp only;rw[ak (rh h6)]
  ·rw[au (by simpa using c)]
   dsimp only;rw[ak (rh h6)]
 ·replace hs:((sp.length=sp'.length+1/\S1=S)\/(sp=[]/\sp'=[]/\(bw S k).dZ+16<=(bw S1 k).dZ/\((bw S k).dZ%16=0->(bw S1 k).dZ=(bw S k).dZ+16)/\(eG (bw S k) 16 8=true->bE (bw S1 k).aK=bE (bw S k).aK)/\(eG (bw S k) 16 8=false->bE (bw S1 k).aK=bE (bw S k).aK+1)))/\∀z,z=a\/z=a+8\/z=a+16->Wd S1 P1 k z=Wd S P k z:=hs
  obtain⟨x0,x1,x2,x3⟩:=hx;have hL1:=R1.hb.2.2.2;have N8:∀z,z=0\/z=8\/z=16\/z=24->mj S1 k (a+z):=λz hz=>⟨by omega,by omega,by have:=V1.len;omega⟩;have hw0:=zg E.cw k (a+0);have xL:Wd S P k (a+16)=ns.length:=R.y6;obtain⟨P2,f2,E2,W2,V2⟩:=uB (a:=a) hn E1 (x:=x+0) (v:=Wd S P k (a+0)) ⟨by omega,by omega,by omega⟩ hw0;obtain⟨P3,f3,E3,W3,V3⟩:=uB (a:=a) hn E2 (x:=x+8) (v:=v) ⟨by omega,by omega,by omega⟩ hv;obtain⟨P4,f4,E4,W4,V4⟩:=jO (a:=a) hn E3 har (x:=0) (v:=x+1) (by omega) (N8 0 (by omega)) (by omega);rw[br (x:=x+0) (by omega) (by omega),br (x:=x+8) (by omega) (by omega),ak f2,ak f3,ak (mO (by omega) (by omega)),ak f4,aP];have hnb:=R1.nb;have hold:∀z,z=a\/z=a+8\/z=a+16->Wd S1 P1 k z=Wd S P k z:=hs.2;have fin:∀{P5:aj},Me n S1 P5 M Q1 t h k->Ev S1 P1 Q1 S1 P5 Q1 k->Wd S1 P5 k=(if ns.length=0 then Gf (Wd S1 P4 k) (a+8) (x+1)else Wd S1 P4 k)->
    ∃S' P' Q' e,(bd (bh n S1 P5 M Q1 t h a 0 16 (wr .u64 ((ns.length:Int)+1))) λdV=>some (dV.2.2.2.2.2.2.2,dV.1,dV.2.1,dV.2.2.1,dV.2.2.2.1,dV.2.2.2.2.1,h,a))=some (e,S',P',M,Q',t,h,a)/\Me n S' P' M Q' t h k/\Ev S P Q S' P' Q' k/\
     ((e=6/\S'=S/\sp=[]/\Q'=[]/\Wd S' P' k=Wd S P k/\Oom S k P')\/
      (e=0/\∃ns' sp',Lr (Wd S' P' k) (bw S' k).dZ a (v::vs) ns' sp'/\WS S S' k ns sp ns' sp')):=by
   intro P5 E5 V5 W5;obtain⟨P6,f6,E6,W6,V6⟩:=jO (a:=a) hn E5 har (x:=16) (v:=(ns.length:Int)+1) (by omega) (N8 16 (by omega)) (by omega);rw[sK (by omega) (by omega),ak f6];refine⟨S1,P6,Q1,0,rfl,E6,V1.trans (V5.trans V6), .inr ⟨rfl,x::ns,sp',?_,by simp,hs.1⟩⟩;have hW:∀z,Wd S1 P6 k z=if z=a+16 then(ns.length:Int)+1 else if ns.length=0/\z=a+8 then x+1 else if z=a then x+1 else if z=x+8 then v else if z=x then Wd S1 P1 k a else Wd S1 P1 k z:=by
    intro z;rw[W6,W5,W4,W3,W2,Int.add_zero,Int.add_zero,hold a (by omega)];unfold Gf;by_cases c:ns.length=0
    ·rw[aiM c];simp only[c,true_and]
    ·rw[aiN c];simp only[c,false_and,if_false]
   refine R1.af5 ⟨x0,x1,x2,x3⟩ hf ?_ ?_ ?_ ?_ ?_ ?_ λy hy=>?_
   ·rw[hW,aiN (by omega),aiN (by omega),aiN (by omega),aiN (by omega),aiM rfl]
   ·rw[hW,aiN (by omega),aiN (by omega),aiN (by omega),aiM rfl]
   ·rw[hW,aiN (by omega),aiN (by omega),aiM rfl]
   ·rw[hW,aiN (by omega)]
    by_cases c:ns.length=0
    ·rw[aiM ⟨c,rfl⟩,aiM c]
    ·rw[aiN (λq=>c q.1),aiN c,aiN (by omega),aiN (by omega),aiN (by omega)]
   ·rw[hW,aiM rfl]
   ·rw[hW,aiN (by omega),aiN (by omega),aiN (by omega),aiN (by omega),aiN (by omega)]
   ·have q1:=R1.nb y hy
    have q2:=hf y hy;unfold tV at q2;constructor<;>rw[hW,aiN (by omega),aiN (by omega),aiN (by omega),aiN (by omega),aiN (by omega)]
  by_cases c:ns.length=0
  ·rw[aU (by rw[xL,c];rfl)]
   dsimp only;obtain⟨P5,f5,E5,W5,V5⟩:=jO (a:=a) hn E4 har (x:=8) (v:=x+1) (by omega) (N8 8 (by omega)) (by omega);rw[ak (mO (by omega) (by omega)),ak f5];dsimp only;rw[xL];exact fin E5 (V2.trans (V3.trans (V4.trans V5))) (by rw[W5,aiM c])
  ·rw[au (by rw[xL];exact beq_eq_false_iff_ne.2 (by omega))]
   dsimp only;rw[xL];exact fin E4 (V2.trans (V3.trans V4)) (by rw[aiN c])
theorem S6(n:Nat)(x:Int):∃y,gV n x=some y:=by
 unfold gV;cases((x==0)||decide (4294967296<x))with
 |true=>exact⟨_,rfl⟩
 |false=>exact⟨_,rfl⟩
theorem XM{ns:List Int}(h:ns.length≠0):∃pre z,ns=pre++[z]:=⟨ns.dropLast,ns.getLast (by intro e;rw[e]at h;exact h rfl),(List.dropLast_concat_getLast _).symm⟩
theorem VJ(hn:200<=n)(E:Me n S P M Q t h k){vs ns sp:List Int}(R:Lr (Wd S P k) (bw S k).dZ a vs ns sp){v:Int}(hv:0<=v/\v<18446744073709551616):
  ∃S' P' Q' e,jN n S P M Q t h a v=some (e,S',P',M,Q',t,h,a)/\Me n S' P' M Q' t h k/\Ev S P Q S' P' Q' k/\
   ((e=6/\S'=S/\sp=[]/\Q'=[]/\Wd S' P' k=Wd S P k/\Oom S k P')\/
    (e=0/\∃ns' sp',Lr (Wd S' P' k) (bw S' k).dZ a (vs++[v]) ns' sp'/\WS S S' k ns sp ns' sp')):=by
 obtain⟨b1,b2,b3,b4⟩:=R.hb;have hin:∀z,z=0\/z=8\/z=16\/z=24->mj S k (a+z):=λz hz=>⟨by omega,by omega,by omega⟩;have har:0<=a/\a<=100000:=⟨b1,by omega⟩;have hm:=R.Cn;rw[List.length_append]at hm;obtain⟨x,S1,P1,Q1,e,n1,E1,V1,hc⟩:=L1 hn E R;unfold jN;rw[ak (o6 hn E.mr har (by omega) (hin 16 (by omega))),ak (o6 hn E.mr har (by omega) (hin 8 (by omega))),ak n1];rcases hc with⟨rfl,rfl,e3,e4,e5,rfl,e6,e7⟩|⟨rfl,sp',R1,hx,hf,hs,hold⟩
 ·have h6:(6:Int)≠0:=by omega
  rw[ak (Es h6),ak (Es h6),aP];refine⟨S1,P1,Q1,6,?_,E1,V1, .inl ⟨rfl,rfl,e3,e4,e5,e6,e7⟩⟩;by_cases c:(Wd S1 P k (a+16)==0)=true
  ·rw[aU c]
   dsimp only;rw[ak (mO (x:=0) (by omega) (by omega)),ak (rh h6)];dsimp only;rw[ak (mO (x:=0) (by omega) (by omega)),ak (rh h6),ak (rh h6)]
  ·rw[au (by simpa using c)]
   dsimp only;obtain⟨y,hy⟩:=S6 n (Wd S1 P k (a+8));rw[ak hy,ak (mO (x:=0) (by omega) (by omega)),ak (Es h6)];dsimp only;rw[ak (mO (x:=0) (by omega) (by omega)),ak (rh h6),ak (rh h6)]
 ·obtain⟨x0,x1,x2,x3⟩:=hx
  have hL1:=R1.hb.2.2.2;have N8:∀z,z=0\/z=8\/z=16\/z=24->mj S1 k (a+z):=λz hz=>⟨by omega,by omega,by have:=V1.len;omega⟩;have xL:Wd S P k (a+16)=ns.length:=R.y6;obtain⟨P2,f2,E2,W2,V2⟩:=uB (a:=a) hn E1 (x:=x+0) (v:=0) ⟨by omega,by omega,by omega⟩ (by omega);obtain⟨P3,f3,E3,W3,V3⟩:=uB (a:=a) hn E2 (x:=x+8) (v:=v) ⟨by omega,by omega,by omega⟩ hv;rw[br (x:=x+0) (by omega) (by omega),br (x:=x+8) (by omega) (by omega),ak f2,ak f3,aP];have fin:∀{P5:aj} {b w:Int},(ns.length=0/\b=a/\w=x+1\/(∃pre,ns=pre++[b]/\w=x+1))->Me n S1 P5 M Q1 t h k->Ev S1 P1 Q1 S1 P5 Q1 k->Wd S1 P5 k=Gf (Wd S1 P3 k) b w->
    ∃S' P' Q' e,(bd (gi n x) λfR=>bd (bh n S1 P5 M Q1 t h a 0 8 fR) λjx=>bd (bh n jx.1 jx.2.1 jx.2.2.1 jx.2.2.2.1 jx.2.2.2.2.1 jx.2.2.2.2.2.1 jx.2.2.2.2.2.2.1 jx.2.2.2.2.2.2.2 16 (wr .u64 ((ns.length:Int)+1))) λdV=>some (dV.2.2.2.2.2.2.2,dV.1,dV.2.1,dV.2.2.1,dV.2.2.2.1,dV.2.2.2.2.1,h,a))=some (e,S',P',M,Q',t,h,a)/\Me n S' P' M Q' t h k/\Ev S P Q S' P' Q' k/\
     ((e=6/\S'=S/\sp=[]/\Q'=[]/\Wd S' P' k=Wd S P k/\Oom S k P')\/
      (e=0/\∃ns' sp',Lr (Wd S' P' k) (bw S' k).dZ a (vs++[v]) ns' sp'/\WS S S' k ns sp ns' sp')):=by
   intro P5 b w hb E5 V5 W5;obtain⟨P6,f6,E6,W6,V6⟩:=jO (a:=a) hn E5 har (x:=8) (v:=x+1) (by omega) (N8 8 (by omega)) (by omega);obtain⟨P7,f7,E7,W7,V7⟩:=jO (a:=a) hn E6 har (x:=16) (v:=(ns.length:Int)+1) (by omega) (N8 16 (by omega)) (by omega);rw[ak (mO (by omega) (by omega)),ak f6,sK (by omega) (by omega),ak f7];refine⟨S1,P7,Q1,0,rfl,E7,V1.trans (V5.trans (V6.trans V7)), .inr ⟨rfl,ns++[x],sp',?_,by simp,hs⟩⟩;have hW:∀z,Wd S1 P7 k z=if z=a+16 then(ns.length:Int)+1 else if z=a+8 then x+1 else if z=b then w else if z=x+8 then v else if z=x then 0 else Wd S1 P1 k z:=by intro z;rw[W7,W6,W5,W3,W2,Int.add_zero];rfl
   have hbn:(ns.length=0/\b=a)\/(ns.length≠0/\b∈ns++sp'):=by
    rcases hb with⟨c1,c2,_⟩|⟨pre,c1,_⟩
    ·exact .inl ⟨c1,c2⟩
    ·exact .inr ⟨by rw[c1];simp,by rw[c1];simp⟩
   have hbx:b=a\/(b≠a/\b≠a+8/\b≠a+16/\b≠a+24/\b≠x/\b≠x+8):=by
    rcases hbn with⟨_,c2⟩|⟨_,c2⟩
    ·exact .inl c2
    ·have q1:=R1.nb b c2
     have q2:=hf b c2;unfold tV at q2;exact .inr ⟨by omega,by omega,by omega,by omega,by omega,by omega⟩
   have hw:w=x+1:=by rcases hb with⟨_,_,c⟩|⟨_,_,c⟩<;>exact c
   have hne:∀y∈ns++sp',∀z,(z=y/\y≠b)\/z=y+8->Wd S1 P7 k z=Wd S1 P1 k z:=λy hy z hz=>by
    have q1:=R1.nb y hy;have q2:=hf y hy;unfold tV at q2;have q3:y+8≠b:=by
     rcases hbn with⟨_,c2⟩|⟨_,c2⟩
     ·omega
     ·rcases NF R1.cr hy c2 with c|c
      ·omega
      ·unfold tV at c;omega
    rw[hW,aiN (by omega),aiN (by omega),aiN (by omega),aiN (by omega),aiN (by omega)]
   refine R1.fF ⟨x0,x1,x2,x3⟩ hf ?_ ?_ ?_ ?_ ?_ ?_ (λy hy=>hne y hy _ (.inr rfl)) (λy hy=>hne y (by simp[hy]) _ (.inl ⟨rfl,?_⟩)) λpre z e=>⟨λy hy=>hne y (by rw[e];simp[hy]) _ (.inl ⟨rfl,?_⟩),?_⟩
   ·rw[hW,aiN (by omega),aiN (by omega),aiN (by omega),aiN (by omega),aiM rfl]
   ·rw[hW,aiN (by omega),aiN (by omega),aiN (by omega),aiM rfl]
   ·rw[hW,aiN (by omega),aiM rfl]
   ·by_cases c:ns.length=0
    ·rw[hW,aiN (by omega),aiN (by omega),aiM (by rcases hbn with⟨_,c2⟩|⟨c1,_⟩<;>omega),aiM c,hw]
    ·have q:a≠b:=by
      rcases hbn with⟨c1,_⟩|⟨_,c2⟩
      ·exact absurd c1 c
      ·have:=R1.nb b c2;omega
     rw[hW,aiN (by omega),aiN (by omega),aiN q,aiN (by omega),aiN (by omega),aiN c]
   ·rw[hW,aiM rfl]
   ·rw[hW,aiN (by omega),aiN (by omega),aiN (by omega),aiN (by omega),aiN (by omega)]
   ·intro e
    subst e;rcases hb with⟨_,c2,_⟩|⟨pre,c1,_⟩
    ·have:=R1.nb y (by simp[hy]);omega
    ·have h1:=(List.pairwise_append.1 R1.cr).2.2 y (by rw[c1];simp) y hy
     unfold tV at h1;omega
   ·intro e'
    subst e';rcases hb with⟨c1,_,_⟩|⟨pre',c1,_⟩
    ·rw[e]at c1;simp at c1
    ·have h1:=(List.pairwise_append.1 R1.cr).1
     have hz:y=z:=by have:=congrArg List.getLast? (c1.symm.trans e);rw[List.getLast?_append,List.getLast?_append]at this;simpa using this
     subst hz;rw[e]at h1;have h2:=(List.pairwise_append.1 h1).2.2 y hy y (by simp);unfold tV at h2;omega
   ·have q:z=b:=by
     rcases hb with⟨c1,_,_⟩|⟨pre',c1,_⟩
     ·rw[e]at c1;simp at c1
     ·have:=congrArg List.getLast? (e.symm.trans c1)
      rw[List.getLast?_append,List.getLast?_append]at this;simpa using this
    have q1:=R1.nb z (by rw[e];simp);rw[hW,aiN (by omega),aiN (by omega),aiM q,hw]
  by_cases c:ns.length=0
  ·rw[aU (by rw[xL,c];rfl)]
   dsimp only;obtain⟨P5,f5,E5,W5,V5⟩:=jO (a:=a) hn E3 har (x:=0) (v:=x+1) (by omega) (N8 0 (by omega)) (by omega);rw[ak (mO (by omega) (by omega)),ak f5];dsimp only;rw[xL];exact fin (.inl ⟨c,rfl,rfl⟩) E5 (V2.trans (V3.trans V5)) (by rw[W5,Int.add_zero])
  ·obtain⟨pre,z,hz⟩:=XM c
   have hl:Wd S P k (a+8)=z+1:=R.IA pre z hz;have q1:=R1.nb z (by rw[hz];simp);rw[au (by rw[xL];exact beq_eq_false_iff_ne.2 (by omega))];dsimp only;obtain⟨P5,f5,E5,W5,V5⟩:=uB (a:=a) hn E3 (x:=z+0) (v:=x+1) ⟨by omega,by omega,by omega⟩ (by omega);rw[hl,ak (IX (by omega) (by omega)),ak (mO (by omega) (by omega)),br (x:=z+0) (by omega) (by omega),ak f5];dsimp only;rw[xL];exact fin (b:=z) (.inr ⟨pre,hz,rfl⟩) E5 (V2.trans (V3.trans V5)) (by rw[W5,Int.add_zero])
end
end Go.Proofs.Z
namespace Go.Proofs.Z
open Go Go.Bw
section
variable {n:Nat} {S S':ae} {P P':aj} {M:ai} {Q Q':List Int} {t h:Int} {k:Nat} {a:Int}
theorem abJ(hn:200<=n)(E:Me n S P M Q t h k){sp:List Int}(R:Lr (Wd S P k) (bw S k).dZ a [] [] sp):jr n S P M Q t h a=some (0,10,S,P,M,Q,t,h,a):=by
 obtain⟨b1,b2,b3,b4⟩:=R.hb;have hin:∀z,z=0\/z=8\/z=16\/z=24->mj S k (a+z):=λz hz=>⟨by omega,by omega,by omega⟩;have har:0<=a/\a<=100000:=⟨b1,by omega⟩;have h10:(10:Int)≠0:=by omega
 have xL:Wd S P k (a+16)=0:=R.y6;unfold jr;rw[ak (o6 hn E.mr har (by omega) (hin 16 (by omega))),ak (o6 hn E.mr har (by omega) (hin 0 (by omega))),ak (o6 hn E.mr har (by omega) (hin 24 (by omega))),aP,xL,aU (by rfl)];dsimp only;obtain⟨y,hy⟩:=S6 n (Wd S P k (a+0));rw[ak hy,ak (Pw h10),ak (Pw h10),aP,ak (Es h10),ak (rh h10),ak (rh h10),aP,au (by rfl)];dsimp only;rw[ak (rh h10),aP,aU (by rfl)];rfl
theorem Yf(hn:200<=n)(E:Me n S P M Q t h k){v:Int}{vs ns sp:List Int}(R:Lr (Wd S P k) (bw S k).dZ a (v::vs) ns sp):
  ∃P' ns' sp',jr n S P M Q t h a=some (v,0,S,P',M,Q,t,h,a)/\Me n S P' M Q t h k/\Ev S P Q S P' Q k/\Lr (Wd S P' k) (bw S k).dZ a vs ns' sp'/\ns.length=ns'.length+1/\sp'.length=sp.length+1:=by
 obtain⟨b1,b2,b3,b4⟩:=R.hb;have hin:∀z,z=0\/z=8\/z=16\/z=24->mj S k (a+z):=λz hz=>⟨by omega,by omega,by omega⟩;have har:0<=a/\a<=100000:=⟨b1,by omega⟩;have hm:=R.Cn;rw[List.length_append]at hm;obtain⟨x,r,rfl⟩:∃x r,ns=x::r:=by
  cases ns with
  |nil=>have:=R.val;simp at this
  |cons x r=>exact⟨x,r,rfl⟩
 obtain⟨x0,x1,x2,x3⟩:=R.nb x (by simp);have xL:Wd S P k (a+16)=(r.length:Int)+1:=by rw[R.y6];simp
 have KR:Wd S P k (a+0)=x+1:=by rw[Int.add_zero];exact R.first.1
 have hv:v=Wd S P k (x+8):=by have:=R.val;rw[List.map_cons,List.cons.injEq]at this;exact this.1
 have hx0:mj S k (x+0):=⟨by omega,by omega,by omega⟩;have hx8:mj S k (x+8):=⟨by omega,by omega,by omega⟩;rw[List.length_cons]at hm;obtain⟨P2,f2,E2,W2,V2⟩:=uB (a:=a) hn E hx0 (zg E.cw k (a+24));obtain⟨P3,f3,E3,W3,V3⟩:=jO (a:=a) hn E2 har (x:=24) (v:=x+1) (by omega) (hin 24 (by omega)) (by omega);obtain⟨P4,f4,E4,W4,V4⟩:=jO (a:=a) hn E3 har (x:=0) (v:=Wd S P k (x+0)) (by omega) (hin 0 (by omega)) (zg E.cw k (x+0));unfold jr;rw[ak (o6 hn E.mr har (by omega) (hin 16 (by omega))),ak (o6 hn E.mr har (by omega) (hin 0 (by omega))),ak (o6 hn E.mr har (by omega) (hin 24 (by omega))),aP,xL,KR,au (by simp;omega)];dsimp only;rw[ak (IX (by omega) (by omega)),br (x:=x+0) (by omega) (by omega),br (x:=x+8) (by omega) (by omega),ak (Rc hn E.mr hx0),ak (Rc hn E.mr hx8),aP,ak f2,ak f3,ak f4,aP];have fin:∀{P5:aj},Me n S P5 M Q t h k->Ev S P Q S P5 Q k->Wd S P5 k=(if r.length=0 then Gf (Wd S P4 k) (a+8) 0 else Wd S P4 k)->
   ∃P' ns' sp',(bd (bh n S P5 M Q t h a 0 16 (wr .u64 ((r.length:Int)+1-1))) λqV=>lt (λ(tZ:Int)=>lt (tZ:Int) λJR=>some (JR,qV.2.2.2.2.2.2.2,qV.1,qV.2.1,qV.2.2.1,qV.2.2.2.1,qV.2.2.2.2.1,h,a)) λUB=>cn ((qV.2.2.2.2.2.2.2!=0)) (UB 0) (UB (Wd S P k (x+8))))=some (v,0,S,P',M,Q,t,h,a)/\Me n S P' M Q t h k/\Ev S P Q S P' Q k/\Lr (Wd S P' k) (bw S k).dZ a vs ns' sp'/\(x::r).length=ns'.length+1/\sp'.length=sp.length+1:=by
  intro P5 E5 V5 W5;obtain⟨P6,f6,E6,W6,V6⟩:=jO (a:=a) hn E5 har (x:=16) (v:=(r.length:Int)+1-1) (by omega) (hin 16 (by omega)) (by omega);rw[sK (by omega) (by omega),ak f6,aP,au (by rfl)];dsimp only;rw[aP, ← hv];refine⟨P6,r,x::sp,rfl,E6,V5.trans V6,?_,by simp,by simp⟩;have hW:∀z,Wd S P6 k z=if z=a+16 then(r.length:Int)+1-1 else if r.length=0/\z=a+8 then 0 else if z=a then Wd S P k x else if z=a+24 then x+1 else if z=x then Wd S P k (a+24)else Wd S P k z:=by
   intro z;rw[W6,W5,W4,W3,W2,Int.add_zero,Int.add_zero];unfold Gf;by_cases c:r.length=0
   ·rw[aiM c];simp only[c,true_and]
   ·rw[aiN c];simp only[c,false_and,if_false]
  refine R.Jf ?_ ?_ (λhr=>?_) ?_ ?_ λy hy=>?_
  ·rw[hW,aiN (by omega),aiN (by omega),aiN (by omega),aiN (by omega),aiM rfl]
  ·rw[hW,aiN (by omega),aiN (by omega),aiM rfl]
  ·have:r.length≠0:=λq=>hr (List.length_eq_zero_iff.1 q)
   rw[hW,aiN (by omega),aiN (λq=>this q.1),aiN (by omega),aiN (by omega),aiN (by omega)]
  ·rw[hW,aiM rfl];omega
  ·rw[hW,aiN (by omega),aiN (by omega),aiN (by omega),aiM rfl]
  ·have q1:=R.nb y (by simp at hy ⊢;exact .inr hy)
   have q2:=(List.pairwise_cons.1 R.cr).1 y hy;unfold tV at q2;constructor<;>rw[hW,aiN (by omega),aiN (by omega),aiN (by omega),aiN (by omega),aiN (by omega)]
 by_cases c:r.length=0
 ·obtain⟨P5,f5,E5,W5,V5⟩:=jO (a:=a) hn E4 har (x:=8) (v:=0) (by omega) (hin 8 (by omega)) (by omega)
  rw[aU (by rw[c];rfl),ak f5];dsimp only;exact fin E5 (V2.trans (V3.trans (V4.trans V5))) (by rw[W5,aiM c])
 ·rw[au (by exact beq_eq_false_iff_ne.2 (by omega))]
  dsimp only;exact fin E4 (V2.trans (V3.trans V4)) (by rw[aiN c])
theorem YF(hn:200<=n)(E:Mr n S P M Q t h k){vs ns sp:List Int}(R:Lr (Wd S P k) (bw S k).dZ a vs ns sp):nn n S P M Q t h a=some ((vs.length:Int),0,S,P,M,Q,t,h,a):=by obtain⟨b1,b2,b3,b4⟩:=R.hb;have hm:=R.Cn;rw[List.length_append]at hm;unfold nn;rw[ak (o6 hn E ⟨b1,by omega⟩ (by omega) ⟨by omega,by omega,by omega⟩),aP,aP,R.y6,br (by omega) (by omega),R.len]
end
end Go.Proofs.Z
namespace Go.Proofs.Z
open Go Go.Bw
theorem Lr.Ad{m m':Int->Int}{L a w x0:Int}{vs r sp:List Int}(h:Lr m L a vs (x0::r) sp)(e0:m' a=w)(e1:Sc m' (x0::r).reverse w)(e2:m' (a+8)=x0+1)(e3:m' (a+16)=m (a+16))(e4:m' (a+24)=m (a+24))(e5:∀y∈sp,m' y=m y)(e6:∀y∈(x0::r)++sp,m' (y+8)=m (y+8)):Lr m' L a vs.reverse (x0::r).reverse sp:=by
 have hp:((x0::r).reverse++sp).Perm ((x0::r)++sp):=(List.reverse_perm _).append_right _;refine⟨h.hb,λy hy=>h.nb y (hp.mem_iff.1 hy),(List.Perm.pairwise_iff vR hp).2 h.cr,by rw[e0];exact e1,λpre z e=>?_,?_,?_,?_⟩
 ·have:x0=z:=by
   have:=congrArg List.getLast? e;rw[List.reverse_cons,List.getLast?_append,List.getLast?_append]at this;simpa using this
  rw[e2,this]
 ·rw[e3,h.y6];simp
 ·rw[e4];exact gk e5 h.spare
 ·rw[h.val, ← List.map_reverse]
  exact List.map_congr_left λy hy=>(e6 y (by rw[List.mem_reverse]at hy;exact aiT _ hy)).symm
section
variable {n:Nat} {S S':ae} {P P':aj} {M:ai} {Q Q':List Int} {t h:Int} {k:Nat} {a:Int}
theorem aeu(hn:200<=n)(E:Me n S P M Q t h k){vs ns sp:List Int}(R:Lr (Wd S P k) (bw S k).dZ a vs ns sp):
  ∃P',(wG (λk83 (JN:Int) (x74:Int) (x75:ae) (C3:aj) (Ss:ai) (Qz:(List Int)) (Qy:Int) (x80:Int) (Xr:Int) (x82:Int)=>cn (decide (JN<(ns.length:Int))) (gu (dg JN ns.length)<|bd (cK n x75 C3 Ss Qz Qy x80 Xr x82 (wr .i64 ((ns.getD (Int.toNat JN) default)+0)) x74) λEL=>bd (gi n (ns.getD (Int.toNat JN) default)) λXq=>k83 (wr .i64 (JN+1)) Xq EL.1 EL.2.1 EL.2.2.1 EL.2.2.2.1 EL.2.2.2.2.1 EL.2.2.2.2.2.1 EL.2.2.2.2.2.2.1 EL.2.2.2.2.2.2.2) (cn (decide (0<(ns.length:Int))) (bd (bh n x75 C3 Ss Qz Qy x80 Xr x82 0 x74) λLt=>gu (dg 0 ns.length)<|bd (gi n (ns.getD (Int.toNat 0) default)) λx87=>bd (bh n Lt.1 Lt.2.1 Lt.2.2.1 Lt.2.2.2.1 Lt.2.2.2.2.1 Lt.2.2.2.2.2.1 Lt.2.2.2.2.2.2.1 Lt.2.2.2.2.2.2.2 8 x87) λFW=>some (FW.1,FW.2.1,FW.2.2.1,FW.2.2.2.1,FW.2.2.2.2.1,FW.2.2.2.2.2.1,FW.2.2.2.2.2.2.1,FW.2.2.2.2.2.2.2)) (some (x75,C3,Ss,Qz,Qy,x80,Xr,x82)))) n 0 0 S P M Q t h a 0)=some (S,P',M,Q,t,h,a,0)/\Me n S P' M Q t h k/\Ev S P Q S P' Q k/\Lr (Wd S P' k) (bw S k).dZ a vs.reverse ns.reverse sp:=by
 obtain⟨b1,b2,b3,b4⟩:=R.hb;have hin:∀z,z=0\/z=8\/z=16\/z=24->mj S k (a+z):=λz hz=>⟨by omega,by omega,by omega⟩;have har:0<=a/\a<=100000:=⟨b1,by omega⟩;have hm:=R.Cn;rw[List.length_append]at hm;refine GC (λ(i:Int) (w:Int) s p m q t' h' a' e=>∃(d:List Int) (r:List Int),ns=d++r/\i=(d.length:Int)/\s=S/\m=M/\q=Q/\t'=t/\h'=h/\a'=a/\e=0/\Me n S p M Q t h k/\Ev S P Q S p Q k/\Sc (Wd S p k) d.reverse w/\(∀z,z∉d->Wd S p k z=Wd S P k z)/\0<=w/\w<4294967296) (λi _ _ _ _ _ _ _ _ _ =>((ns.length:Int)-i).toNat)
  (λo=>∃P',o=some (S,P',M,Q,t,h,a,0)/\Me n S P' M Q t h k/\Ev S P Q S P' Q k/\Lr (Wd S P' k) (bw S k).dZ a vs.reverse ns.reverse sp) ?_ n 0 0 _ _ _ _ _ _ _ _ ⟨[],ns,rfl,rfl,rfl,rfl,rfl,rfl,rfl,rfl,rfl,E,Ev.refl _ _ _ _,rfl,λ_ _ =>rfl,by omega,by omega⟩ (by omega)
 rintro kk i w s p m q t' h' a' e ⟨d,r,hd,rfl,rfl,rfl,rfl,rfl,rfl,rfl,rfl,E1,V1,YZ,hold,w0,w1⟩ ih;have hlen:ns.length=d.length+r.length:=by rw[hd,List.length_append]
 have hdm:∀y∈d,y∈ns:=λy hy=>by rw[hd];simp[hy]
 cases r with
 |cons x r=>
  rw[List.length_cons]at hlen;obtain⟨x0,x1,x2,x3⟩:=R.nb x (by rw[hd];simp);have hgx:ns.getD (Int.toNat (d.length:Int)) default=x:=by rw[aiR,hd,List.getD,List.getElem?_append_right (Nat.le_refl _),Nat.sub_self];rfl
  obtain⟨P2,f2,E2,W2,V2⟩:=uB (a:=a') hn E1 (x:=x+0) (v:=w) ⟨by omega,by omega,by omega⟩ ⟨w0,by omega⟩;rw[aU (by simp;omega),bH (gU (by omega) (by omega)),hgx,br (x:=x+0) (by omega) (by omega),ak f2,ak (mO (by omega) (by omega)),br (by omega) (by omega)];have hxd:x∉d:=λhxd=>by have h1:=(List.pairwise_append.1 R.cr).1;rw[hd]at h1;have h2:=(List.pairwise_append.1 h1).2.2 x hxd x (by simp);unfold tV at h2;omega
  have hw2:∀z,z≠x->Wd s P2 k z=Wd s p k z:=λz hz=>by rw[W2,Fw _ _ (by omega)]
  refine ih _ _ _ _ _ _ _ _ _ _ ⟨d++[x],r,by rw[hd];simp,by simp,rfl,rfl,rfl,rfl,rfl,rfl,rfl,E2,V1.trans V2,?_,λz hz=>?_,by omega,by omega⟩ (by omega)
  ·rw[List.reverse_append]
   refine⟨rfl,?_⟩;have:Wd s P2 k x=w:=by rw[W2,Int.add_zero,J6]
   rw[this];exact gk (λy hy=>hw2 y λe=>hxd (by rw[← e];simpa using hy)) YZ
  ·rw[hw2 z (λe=>hz (by rw[e];simp)),hold z (λhh=>hz (by simp[hh]))]
 |nil=>
  have hd':ns=d:=by rw[hd,List.append_nil]
  rw[au (by rw[hlen];simp)];cases ns with
  |nil=>
   subst hd';rw[au (by rfl)];refine⟨p,rfl,E1,V1,?_⟩;have hv:vs=[]:=by have:=R.val;simpa using this
   rw[hv];have:=R.frame (m':=Wd s p k) (L':=(bw s k).dZ) ⟨by omega,b4⟩ (λz _ =>hold z (by simp)) (λz _ =>⟨hold z (by simp),hold _ (by simp)⟩);rw[hv]at this;exact this
  |cons x0 r=>
   obtain⟨y0,y1,y2,y3⟩:=R.nb x0 (by simp);obtain⟨P2,f2,E2,W2,V2⟩:=jO (a:=a') hn E1 har (x:=0) (v:=w) (by omega) (hin 0 (by omega)) ⟨w0,by omega⟩;obtain⟨P3,f3,E3,W3,V3⟩:=jO (a:=a') hn E2 har (x:=8) (v:=x0+1) (by omega) (hin 8 (by omega)) (by omega);rw[aU (by simp),ak f2,bH (gU (by omega) (by simp)),show(x0::r).getD (Int.toNat 0) default=x0 from rfl,ak (mO (by omega) (by omega)),ak f3];refine⟨P3,rfl,E3,V1.trans (V2.trans V3),?_⟩;have hW:∀z,Wd s P3 k z=if z=a'+8 then x0+1 else if z=a' then w else Wd s p k z:=λz=>by rw[W3,W2,Int.add_zero];rfl
   have tB:∀z∈(x0::r)++sp,∀u,u=z\/u=z+8->Wd s P3 k u=Wd s p k u:=λz hz u hu=>by have:=R.nb z hz;rw[hW,aiN (by omega),aiN (by omega)]
   have ahS:∀z∈(x0::r)++sp,z+8∉d:=λz hz hh=>by have h1:=NF R.cr hz (aiT sp (hdm _ hh));unfold tV at h1;omega
   have hhd:∀u,u=a'+16\/u=a'+24->u∉d:=λu hu hh=>by have:=R.nb u (aiT sp (hdm _ hh));omega
   refine R.Ad (w:=w) ?_ ?_ ?_ ?_ ?_ (λy hy=>?_) λy hy=>?_
   ·rw[hW,aiN (by omega),aiM rfl]
   ·rw[← hd']at YZ
    exact gk (λy hy=>tB y (by rw[List.mem_reverse]at hy;exact aiT _ hy) y (.inl rfl)) YZ
   ·rw[hW,aiM rfl]
   ·rw[hW,aiN (by omega),aiN (by omega),hold _ (hhd _ (.inl rfl))]
   ·rw[hW,aiN (by omega),aiN (by omega),hold _ (hhd _ (.inr rfl))]
   ·rw[tB y (aiS _ hy) y (.inl rfl),hold]
    intro hh;have h1:=(List.pairwise_append.1 R.cr).2.2 y (hdm y hh) y hy;unfold tV at h1;omega
   ·rw[tB y hy _ (.inr rfl),hold _ (ahS y hy)]
theorem SY(hn:200<=n)(E:Me n S P M Q t h k){vs ns sp:List Int}(R:Lr (Wd S P k) (bw S k).dZ a vs ns sp):
  ∃P',mh n S P M Q t h a=some (0,S,P',M,Q,t,h,a)/\Me n S P' M Q t h k/\Ev S P Q S P' Q k/\Lr (Wd S P' k) (bw S k).dZ a vs.reverse ns.reverse sp:=by
 obtain⟨b1,b2,b3,b4⟩:=R.hb;have hin:∀z,z=0\/z=8\/z=16\/z=24->mj S k (a+z):=λz hz=>⟨by omega,by omega,by omega⟩;have har:0<=a/\a<=100000:=⟨b1,by omega⟩;have hm:=R.Cn;rw[List.length_append]at hm;obtain⟨P',e1,e2,e3,e4⟩:=aeu hn E R;refine⟨P',?_,e2,e3,e4⟩;have h1:mN n S P M Q t h a 0=some (S,P',M,Q,t,h,a,0):=by
  unfold mN;rw[ak (o6 hn E.mr har (by omega) (hin 16 (by omega))),ak (o6 hn E.mr har (by omega) (hin 0 (by omega))),aP,R.y6,Int.add_zero,au (by simp;omega)];dsimp only;refine Bc (λ(i:Int) (f:Int) (out:List Int) s p m q t' h' a' e=>∃(r:List Int),ns=out++r/\i=(out.length:Int)/\Sc (Wd S P k) r f/\s=S/\p=P/\m=M/\q=Q/\t'=t/\h'=h/\a'=a/\e=0) (λi _ _ _ _ _ _ _ _ _ _ =>((ns.length:Int)-i).toNat) (λo=>o=some (S,P',M,Q,t,h,a,0)) ?_ n 0 _ _ _ _ _ _ _ _ _ _ ⟨ns,rfl,rfl,R.first,rfl,rfl,rfl,rfl,rfl,rfl,rfl,rfl⟩ (by omega);rintro kk i f out s p m q t' h' a' e ⟨r,hd,rfl,hf,rfl,rfl,rfl,rfl,rfl,rfl,rfl,rfl⟩ ih;have hlen:ns.length=out.length+r.length:=by rw[hd,List.length_append]
  cases r with
  |nil=>
   have hd':out=ns:=by rw[hd,List.append_nil]
   subst hd';rw[au (by simp)];exact e1
  |cons x r=>rw[List.length_cons]at hlen;obtain⟨rfl,hf2⟩:=hf;obtain⟨x0,x1,x2,x3⟩:=R.nb x (by rw[hd];simp);rw[aU (by simp;omega),aP,au (by simp;omega)];dsimp only;rw[rX (by rfl) (IX (by omega) (by omega)),au (by rfl),bH (ni (by simp;omega) (by simp;omega)),aP,ak (IX (by omega) (by omega)),br (x:=x+0) (by omega) (by omega),ak (Rc hn E.mr ⟨by omega,by omega,by omega⟩),sK (by omega) (by omega)];refine ih _ _ _ _ _ _ _ _ _ _ _ ⟨r,by rw[hd];simp,by simp,?_,rfl,rfl,rfl,rfl,rfl,rfl,rfl,rfl⟩ (by omega);dsimp only;rw[Int.add_zero];exact hf2
 unfold mh;rw[ak h1]
end
end Go.Proofs.Z
namespace Go.Proofs.Z
open Go Go.Bw
theorem abT{p q:Int}(hp:1<=p/\p<=64)(hq:1<=q/\q<=64):∃S P,ef 20000 (JJ q) (WR p) bA [] 0 1 32 8=some (0,0,S,P,bA,[],0)/\Me 20000 S P bA [] 0 1 0/\P.n=p/\S=iK (JJ q) 0 ⟨[⟨0,1⟩],32⟩/\(∀j,Wd S P j=λ_ =>0)/\(∀x,bZ P.dX.l x↔1<=x/\x<p)/\Lr (Wd S P 0) 32 0 [] [] []:=by obtain⟨S,P,e1,e2,e3,e4,e5,e6⟩:=abU (s:=32) hp hq.2 rfl rfl (by have:eY 32=1:=rfl;omega);refine⟨S,P,e1,e2,e3,e4,e5,e6,?_⟩;rw[e5 0];exact⟨by omega,by simp,by simp,rfl,λpre x e=>by simp at e,rfl,rfl,rfl⟩
end Go.Proofs.Z
