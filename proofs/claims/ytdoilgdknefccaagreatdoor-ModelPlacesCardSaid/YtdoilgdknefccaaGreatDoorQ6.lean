/- Part 6 of what a proof leans on; pruned and shortened by a program out of longer texts. -/
import Derived.Test.YtdoilgdknefccaaGreatDoorQ5
namespace Go.Proofs.Z
open Go Go.Bw
def ae2(w w':ai):Prop:=∀y,aQ w'.B y->(aQ w.B y/\(w'.R (aY y)).E=(w.R (aY y)).E)\/(w'.R (aY y)).E=bA
theorem Pg.tab{w w':ai}{bk fr:List Rn}(q:Pg w bk fr)(h:ae2 w w'):Pg w' bk fr:=by
 have no:∀{y p},aQ w'.B y->IS w' y p->aQ w.B y/\IS w y p:=λ{y p} hy hp=>by
  rcases h y hy with⟨h1,h2⟩|h1
  ·exact⟨h1,by unfold IS at hp ⊢;rw[← h2];exact hp⟩
  ·unfold IS at hp;rw[h1]at hp;exact absurd hp (jY _)
 exact⟨q.can,λy p hy hp=>q.f y p (no hy hp).1 (no hy hp).2,λy z p hy hz a b=>q.d y z p (no hy a).1 (no hz b).1 (no hy a).2 (no hz b).2,q.b,q.bf,λy p hy hp a=>q.bd y p (no hy a).1 hp (no hy a).2⟩
section
variable {c:Nat} {s:bB} {w:aj} {bk fr:List Rn}
theorem sV.tab(j:sV c s w bk fr){t':au}{w':ai}(r:gI t' w')(tt:jV w')(i:zn w')(mv:Mv w.aC.T w')(ch:ae2 w.aC.T w')
  (hf:∀x,aQ w.aC.T.B x->dM w.aC.T x=0->(lK w.aC.T s.aC.O x).dx=2->aQ w'.B x/\dM w' x=0):
  sV c {s with aC:={s.aC with T:=t'}} {w with aC:={w.aC with T:=w'}} bk fr:=
 {j with
  rt:=r,tt:=tt,i6:=i,op:=j.op.mv mv,pg:=j.pg.tab ch
  ly:=λy hy=>by
   rcases ch y hy with⟨h1,h2⟩|h1
   ·show(w'.R (aY y)).E.jW<=_
    rw[h2];exact j.ly y h1
   ·show(w'.R (aY y)).E.jW<=_
    rw[h1];exact Int.natCast_nonneg _
  fl:=⟨λa b m hm=>by
   obtain⟨f1,f2,f3⟩:=j.fl.k a b m hm;obtain⟨g1,g2⟩:=hf _ f1 f2 f3;exact⟨g1,g2,(congrArg cF.dx ((yc r tt g1 g2).trans (yc j.rt j.tt f1 f2).symm)).trans f3⟩,j.fl.u⟩}
theorem sV.own(j:sV c s w bk fr){c':Nat}{o':bM}{v':aS}(p:DK w.aC.T o' v')(hl:v'.cR.length<=c')(hf:∀a b m,RR w.tB a b m->(lK w.aC.T o' m.Region).dx=2):
  sV c' {s with aC:={s.aC with O:=o'}} {w with aC:={w.aC with O:=v'}} bk fr:=
 {j with
  op:=p,rl:=hl
  fl:=⟨λa b m hm=>by
   obtain⟨f1,f2,_⟩:=j.fl.k a b m hm;exact⟨f1,f2,hf a b m hm⟩,j.fl.u⟩}
theorem sV.RY(j:sV c s w bk fr){k':ay}{z':az}(r:RT k' z')(t:TT k' z'):sV c {s with aC:={s.aC with K:=k'}} {w with aC:={w.aC with K:=z'}} bk fr:={j with rk:=r,tk:=t}
theorem sV.fE(j:sV c s w bk fr){c':Nat}(h:c<=c'):sV c' s w bk fr:={j with rl:=Nat.le_trans j.rl h}
theorem qc{t:au}{w:ai}(r:gI t w)(tt:jV w){o:bM}{h x:Int}{y:cF}(hh:aQ w.B h)(hx:aQ w.B x)(hu:dM w x=0)(hn:x≠h):lK w (sX o h y) x=lK w o x:=by rw[yc r tt hx hu,yc r tt hx hu];have e:(sX o h y).aI (aY x)=o.aI (aY x):=jo _ _ λe=>hn (z6 hx hh e);simp only[e]
end
section
variable {n:Nat} {t:au} {w:ai} {o:bM} {v:aS}
theorem YX(hn:200<=n)(r:gI t w)(tt:jV w)(p:DK w o v)(hr:v.cR.length+100<=n/\v.cR.length<=100000){h aE kind tk:Int}(hg:aQ w.B h)(hu:dM w h=0)(hk:kind=1\/kind=2\/kind=3)(IW:tk=if kind=2 then 0 else aE)(ht:0<=tk/\tk<8){x:cF}(hx:RN x/\ROo x (yK kind aE)):
  ∃v',jQ n o t h tk x=some (sX o h x,0)/\dI n v w h aE kind=some (v',0)/\DK w (sX o h x) v'/\v'.cR.length<=v.cR.length+1:=by
 have he:yZ w h tk=0:=by unfold yZ;rw[hg.2,aoV (by decide),aoV (λe=>e ((Ey r tt hg).2 hu)),aoV (by omega)]
 obtain⟨o',v',e,q1,q2,q3,q4⟩:=aj0 (n:=n) hn r tt p hr hg.1 (gh hg.2) hk IW (λ_ =>hx);have h2:=Ol (n:=n) (o:=o) (by omega) r tt (aE:=tk) hg.1 (gh hg.2) x;rw[he,aoU rfl]at h2;obtain⟨rfl,rfl⟩:=Prod.mk.inj (Option.some.inj (q1.symm.trans h2));exact⟨v',h2,q2,q3,q4⟩
theorem Pc(hn:200<=n)(r:gI t w)(tt:jV w)(p:DK w o v)(hr:v.cR.length+100<=n/\v.cR.length<=100000){h aE:Int}(hg:aQ w.B h)(hu:dM w h=0)(ht:0<=aE/\aE<8):
  ∃v',oI n o t h aE=some (sX o h ⟨1,aE,0⟩,0)/\dI n v w h aE 1=some (v',0)/\DK w (sX o h ⟨1,aE,0⟩) v'/\v'.cR.length<=v.cR.length+1:=by
 have wq:wr .u8 aE=aE:=Wd ht.1 (by omega);obtain⟨v',q1,q2⟩:=YX (n:=n) hn r tt p hr hg hu (aE:=aE) (kind:=1) (tk:=aE) (.inl rfl) (by rw[aoV (by decide)]) ht (x:=⟨1,aE,0⟩) ⟨⟨by dsimp only;decide,λ_ =>rfl,λh=>absurd rfl h,by dsimp only;decide,by dsimp only;omega⟩,⟨rfl,rfl,λj _ =>(acL j).symm⟩⟩;refine⟨v',?_,q2⟩;unfold oI;rw[aJ,wq,ah q1]
theorem als(hn:200<=n)(r:gI t w)(tt:jV w)(p:DK w o v)(hr:v.cR.length+100<=n/\v.cR.length<=100000){h:Int}(hg:aQ w.B h)(hu:dM w h=0)(aE:Int):
  ∃v',wg n o t h=some (sX o h ⟨2,0,0⟩,0)/\dI n v w h aE 2=some (v',0)/\DK w (sX o h ⟨2,0,0⟩) v'/\v'.cR.length<=v.cR.length+1:=by
 obtain⟨v',q1,q2⟩:=YX (n:=n) hn r tt p hr hg hu (aE:=aE) (kind:=2) (tk:=0) (.inr (.inl rfl)) (by rw[aoU rfl]) (by decide) (x:=⟨2,0,0⟩) ⟨⟨by dsimp only;decide,λ_ =>rfl,λ_ =>rfl,by dsimp only;decide,by dsimp only;decide⟩,⟨rfl,rfl,λj _ =>(acL j).symm⟩⟩;refine⟨v',?_,q2⟩;unfold wg;rw[aJ,ah q1]
theorem aaV(hn:200<=n)(r:gI t w)(tt:jV w)(p:DK w o v)(hr:v.cR.length+100<=n/\v.cR.length<=100000){h aE:Int}(hg:aQ w.B h)(hu:dM w h=0)(ht:0<=aE/\aE<8):
  ∃v',qU n o t h aE=some (sX o h ⟨3,0,s6 aE⟩,0)/\dI n v w h aE 3=some (v',0)/\DK w (sX o h ⟨3,0,s6 aE⟩) v'/\v'.cR.length<=v.cR.length+1:=by
 obtain⟨v',q1,q2⟩:=YX (n:=n) hn r tt p hr hg hu (aE:=aE) (kind:=3) (tk:=aE) (.inr (.inr rfl)) (by rw[aoV (by decide)]) ht (x:=⟨3,0,s6 aE⟩) ⟨⟨by dsimp only;decide,λh=>absurd rfl h,λ_ =>rfl,abB _,by dsimp only;decide⟩,⟨rfl,rfl,λj hj=>by
    show dm (λ_ =>false) aE.toNat true j=AR (s6 aE) j;rw[aoo ht hj,bI];by_cases q:j=aE.toNat
    ·rw[aoU q,aoY q]
    ·rw[aoV q,ao5 q]⟩⟩
 refine⟨v',?_,q2⟩;unfold qU;rw[ah (J7 _),aJ,ah q1]
end
def ri(a:aN):bU:=⟨a.Do,a.R,a.S,a.A,a.B,a.V⟩
structure yu(a:aN):Prop where
 cd:0<=a.Do/\a.Do<=255
 cr:0<=a.R/\a.R<4294967296
 cs:0<=a.S/\a.S<4294967296
 ca:0<=a.A/\a.A<4294967296
 cb:0<=a.B/\a.B<4294967296
 cv:0<=a.V/\a.V<=18446744073709551615
structure Hc(n c:Nat)(x:aq)(w:aj)(fr:List Rn):Prop where
 j:sV c x.av w x.gO fr
 bk:x.gO=[]
 wb:w.o7=[]
 tk:0<=x.aE/\x.aE<8
 al:x.av.di x.aE.toNat=true
 cc:yu x.c
 nn:c+400<=n/\3000<=n/\c<=50000
def pX(c:Nat)(a:aN)(fr:List Rn)(w:aj)(p:Option (Except Int (aA×aq)))(q:Option (aj×aH)):Prop:=(∃e,e≠0/\p=some (.error e)/\q=some (w,⟨e,0,0⟩))\/ (∃r x' w' v,p=some (.ok (r,x'))/\q=some (w',v)/\r.E=0/\v.E=0/\v.W=r.W/\(0<=r.W/\r.W<4294967296)/\(a.Do≠3->v.V=r.V)/\sV c x'.av w' x'.gO fr)
def Dw(x:aq)(w:aj)(h what:Int):Int:=Ta w.aC.T x.av.aC.O x.av.aC.K w.aC.K x.aE h what
theorem rG{n:Nat}{γ:Type}(e:Int)(k:Unit->Option (Except Int γ)):tr (dJ n e) (λex=>(.error ex)) k=if e=0 then k ()else some (.error e):=by
 unfold dJ;by_cases h:e=0
 ·subst h;rfl
 ·have:(e==0)=false:=by simpa using h
  rw[aoV h,this];rfl
theorem aa6{n:Nat}(w:aj)(e:Int):(bd (aP n w e) λx=>some (x.1,x.2))=some (w,⟨e,0,0⟩):=rfl
theorem PT{α:Type}{b:Bool}{f:α}{k:Option α}:tc b f k=if b=true then k else some f:=by cases b<;>rfl
section
variable {n c:Nat} {x:aq} {w:aj} {fr:List Rn}
theorem Hz(H:Hc n c x w fr){h:Int}(hr:0<=h/\h<4294967296)(what:Int){γ:Type}(k:Unit->Option (Except Int γ)):
  tr (cz n x h what) (λex=>(.error ex)) k=if Dw x w h what=0 then k ()else some (.error (Dw x w h what)):=by
 have hn:=H.nn;have e:cz n x h what=if Dw x w h what=0 then some (.ok ())else some (.error (Dw x w h what)):=by unfold cz;refine(ah (Z9 (n:=n) (t:=x.av.aC.T) (o:=x.av.aC.O) (k:=x.av.aC.K) (by omega) H.j.rt H.j.tt H.j.op.q H.j.rk hr.1 hr.2 x.aE what)).trans ?_;exact rG _ _
 rw[e];split<;>rfl
theorem Hx(H:Hc n c x w fr){h:Int}(hr:0<=h)(what:Int):eF n w.aC x.aE h what=some (Dw x w h what):=by have hn:=H.nn;have:=H.j.rl;exact Zd (n:=n) (by omega) H.j.rt H.j.tt H.j.op (by omega) H.j.rk hr x.aE what
theorem oG{h what:Int}(h0:0<=h)(e:Dw x w h what=0):aQ w.aC.T.B h:=by
 unfold Dw Ta at e;split at e
 ·exact⟨h0,by assumption⟩
 ·exact absurd e (by decide)
theorem Rq{h what:Int}(hw:what≠0)(e:Dw x w h what=0):(lK w.aC.T x.av.aC.O h).dx=1:=by
 unfold Dw Ta at e;split at e
 ·split at e
  ·rw[aoV (λq=>hw q.1)]at e;exact absurd e (by decide)
  ·split at e
   ·assumption
   ·exact absurd e (by decide)
 ·exact absurd e (by decide)
theorem Oy{n:Nat}(w:ai)(a:Int){q:Int}(hq:65<=q):qe n w a q=qe n w a 65:=by unfold qe fM;rw[ao5 (show¬q<=64 by omega),aoY (show 64<q by omega),aoY (show 0<=q by omega)];rw[show decide ((65:Int)<=64)=false from by decide,show decide ((64:Int)<65)=true from by decide,show decide ((0:Int)<=65)=true from by decide];simp only[Bool.or_true,Bool.and_false,cn];rfl
end
end Go.Proofs.Z
namespace Go.Proofs.Z
open Go Go.Bw
theorem cnT{ρ:Type}{a b:Option ρ}:cn true a b=a:=rfl
theorem cnF{ρ:Type}{a b:Option ρ}:cn false a b=b:=rfl
theorem guT{ρ:Type}{a:Option ρ}:gu true a=a:=rfl
section
variable {n c:Nat} {x:aq} {w:aj} {fr:List Rn}
theorem pX.er{a:aN}{e:Int}{p:Option (Except Int (aA×aq))}{q:Option (aj×aH)}(h:e≠0)(h1:p=some (.error e))(h2:q=some (w,⟨e,0,0⟩)):pX c a fr w p q:= .inl ⟨e,h,h1,h2⟩
theorem pX.ok{a:aN}{r:aA}{x':aq}{w':aj}{v:aH}{p:Option (Except Int (aA×aq))}{q:Option (aj×aH)}(h1:p=some (.ok (r,x')))(h2:q=some (w',v))(h3:r.E=0)(h4:v.E=0)(h5:v.W=r.W)(h6:0<=r.W/\r.W<4294967296)(h7:a.Do≠3->v.V=r.V)(j:sV c x'.av w' x'.gO fr):pX c a fr w p q:= .inr ⟨r,x',w',v,h1,h2,h3,h4,h5,h6,h7,j⟩
theorem rj{e:Int}(h:e≠0):(e !=0)=true:=by simpa using h
theorem ju{e k:Int}(h:e≠k):(e==k)=false:=by simpa using h
theorem ZZ(H:Hc n c x w fr)(hR:x.c.R=0\/aQ w.aC.T.B x.c.R):pX (c+60) x.c fr w
  (bd (xu n x.av.aC.T x.c.R (wr .i64 (if 65<x.c.A then 65 else x.c.A))) λiB=>tr (dJ n iB.2.2) (λahZ=>(.error ahZ)) λjN=>cn (((({x with av:={x.av with aC:={x.av.aC with T:=iB.1}}}:aq).c.R)==0)) (tr (eB n ({x with av:={x.av with aC:={x.av.aC with T:=iB.1}}}) iB.2.1 (({x with av:={x.av with aC:={x.av.aC with T:=iB.1}}}:aq).aE)) (λTJ=>(.error TJ)) λrL=>lt ({E:=0,V:=0,W:=iB.2.1}:aA) λtC=>some (.ok (tC,rL))) (lt ({E:=0,V:=0,W:=iB.2.1}:aA) λyN=>some (.ok (yN,{x with av:={x.av with aC:={x.av.aC with T:=iB.1}}}))))
  (bd (qe n w.aC.T x.c.R (if 1000<x.c.A then 1000 else x.c.A)) λtC=>cn ((tC.2.2!=0)) (bd (aP n w tC.2.2) λuo=>some (uo.1,uo.2)) (lt ({w with aC:={w.aC with T:=tC.1}}:aj) λAH=>lt (λ(XH:aj)=>lt ({E:=0,V:=0,W:=tC.2.1}:aH) λx92=>some (XH,x92)) λj77=>cn ((x.c.R==0)) (bd (dI n AH.aC.O AH.aC.T tC.2.1 x.aE 1) λA1=>lt ({AH with aC:={AH.aC with O:=A1.1}}:aj) λx89=>j77 x89) (j77 AH))):=by
 have hn:=H.nn;have nc:=H.cc.cr;have hca:=H.cc.ca;have j:=H.j;obtain⟨t',w',m,e,n1,n2,n3,n4,n5,n6,n7,n8⟩:=ani (n:=n) (by omega) j.rt j.tt j.i6 (a:=x.c.R) (q:=if 65<x.c.A then 65 else x.c.A) nc.1 nc.2;have hq:qe n w.aC.T x.c.R (if 1000<x.c.A then 1000 else x.c.A)=some (w',m,e):=by
  rw[← n2];by_cases h1:65<x.c.A
  ·rw[aoU h1,Oy]
   split<;>omega
  ·rw[aoV h1,aoV (by omega)]
 have hw:wr .i64 (if 65<x.c.A then 65 else x.c.A)=if 65<x.c.A then 65 else x.c.A:=aL (by split<;>omega) (by split<;>omega)
 rw[hw,ah n1,ah hq];dsimp only;rw[rG];by_cases he:e=0
 ·rw[aoU he,ae (b:=(e !=0)) (by rw[he];rfl)]
  simp only[aJ];obtain⟨f,hf,hl,ha,hqr,hd,rfl,rfl⟩:=n8.is he;have hgn:aQ (mg w.aC.T.B f) (fL f (w.aC.T.B.gA f)):=(mh j.rt.bj hf hl _).2 (.inr rfl);have hnot:=KX j.rt.bj hf hl;obtain⟨s1,s2,s3,s4,s5⟩:=pB (i:=f) (g:=w.aC.T.B.gA f) (by omega) (by omega) (j.rt.bj.nW f hl).1 (j.rt.bj.nW f hl).2;have PZ:aY (fL f (w.aC.T.B.gA f))=f:=by unfold aY;omega
  have hold:∀{y},aQ w.aC.T.B y->aY y≠f:=λ{y} hy e=>by have:=(fg hy).2;rw[e,hf.2.2 hl]at this;exact absurd this (by decide)
  have mv:Mv w.aC.T ⟨mg w.aC.T.B f,dm w.aC.T.R f ⟨x.c.R,if 65<x.c.A then 65 else x.c.A,bA,λ_ =>0⟩⟩:=⟨λy h=>xn y h,λy h=>by
   rcases(mh j.rt.bj hf hl y).1 h with h|h
   ·exact .inl h
   ·exact .inr (h▸hnot)⟩
  have j1:=j.tab (t':=t') n5 n6 n7 mv (λy hy=>by
   rcases(mh j.rt.bj hf hl y).1 hy with h|h
   ·refine .inl ⟨h,?_⟩
    show(dm w.aC.T.R f _ (aY y)).E=_;rw[jo _ _ (hold h)]
   ·refine .inr ?_
    show(dm w.aC.T.R f _ (aY y)).E=_;rw[h,PZ,pq]) λy hy hu _ =>⟨(mh j.rt.bj hf hl y).2 (.inl hy),by
    show(dm w.aC.T.R f _ (aY y)).Up=0;rw[jo _ _ (hold hy)];exact hu⟩
  by_cases hz:x.c.R=0
  ·have PY:dM ⟨mg w.aC.T.B f,dm w.aC.T.R f ⟨x.c.R,if 65<x.c.A then 65 else x.c.A,bA,λ_ =>0⟩⟩ (fL f (w.aC.T.B.gA f))=0:=by
    show(dm w.aC.T.R f _ (aY _)).Up=0;rw[PZ,pq];exact hz
   obtain⟨v',g1,g2,g3,g4⟩:=Pc (n:=n) (by omega) n5 n6 j1.op (by have:=j.rl;dsimp only;omega) hgn PY H.tk;rw[ak (b:=(x.c.R==0)) (by rw[hz];rfl),ak (b:=(x.c.R==0)) (by rw[hz];rfl)];unfold eB;dsimp only at g1 g2 ⊢;rw[ah g1,ah g2];dsimp only;rw[rG,aoU rfl];refine .ok (x':={x with av:={x.av with aC:={x.av.aC with T:=t',O:=_ }}}) rfl rfl rfl rfl rfl ⟨n3,n4⟩ (λ_ =>rfl) ?_;refine j1.own g3 (by have:=j.rl;dsimp only at g4 ⊢;omega) λa b m hm=>?_;obtain⟨f1,f2,f3⟩:=j1.fl.k a b m hm;have hne:m.Region≠fL f (w.aC.T.B.gA f):=λe=>hnot (e▸tP (j.fl.k a b m hm).1);exact(congrArg cF.dx (qc n5 n6 hgn f1 f2 hne)).trans f3
  ·rw[ae (b:=(x.c.R==0)) (ju hz),ae (b:=(x.c.R==0)) (ju hz)]
   exact .ok rfl rfl rfl rfl rfl ⟨n3,n4⟩ (λ_ =>rfl) (j1.fE (by omega))
 ·rw[aoV he,ak (rj he),aa6]
  exact .er he rfl rfl
theorem akh(H:Hc n c x w fr)(hd:x.c.Do=1):pX (c+60) x.c fr w (lR n x) (cI n w x.aE (ri x.c)):=by
 have nc:=H.cc.cr;unfold lR cI;simp only[ri,hd,aJ,Int.reduceBEq,Bool.true_and,Bool.and_false,Bool.true_or,Bool.or_true,Bool.false_and,cnT,cnF,NF];rw[ah (Hx H nc.1 1)];by_cases hz:x.c.R=0
 ·rw[ae (b:=(x.c.R !=0)) (by rw[hz];rfl),ak (b:=(x.c.R==0)) (by rw[hz];rfl)]
  exact ZZ H (.inl hz)
 ·rw[ak (b:=(x.c.R !=0)) (rj hz),ae (b:=(x.c.R==0)) (ju hz),Hz H nc]
  by_cases he:Dw x w x.c.R 1=0
  ·rw[aoU he,he]
   exact ZZ H (.inr (oG nc.1 he))
  ·rw[aoV he,ak (rj he)]
   exact .er he rfl rfl
end
end Go.Proofs.Z
namespace Go.Proofs.Z
open Go Go.Bw
section
variable {n:Nat} {t:au} {w:ai} {o:bM}
theorem agN(r:gI t w)(tt:jV w){x h:Int}(hm:x∈fY w h)(h0:0<=h):lK w o x=lK w o h:=by
 have hx:=(xW r tt h).1 x hm;have hg:aM w.B h=true:=by
  unfold fY at hm;split at hm
  ·assumption
  ·cases hm
 unfold lK;rw[aga r tt hm h0,hx.2,hg]
theorem abj(r:gI t w){h x:Int}(hh:aQ w.B h)(hx:aQ w.B x):dM (EL w h) x=if x=h then 0 else dM w x:=by unfold EL;rw[aoU hh.2];generalize V6 (Gw w) (dM w) h=l;generalize U6 (dM w) h=L;have hb:=HV w L l w;rw[Sq (by rw[hb];exact hh) (by rw[hb];exact hx),aep]
theorem aid(w0:ai)(L l:List Int)(y:Int):∀v:ai,((l.foldl (MM w0 L) v).R (aY y)).E=(v.R (aY y)).E/\((l.foldl (MM w0 L) v).R (aY y)).cE=(v.R (aY y)).cE:=by
 induction l with
 |nil=>intro v;exact⟨rfl,rfl⟩
 |cons x l ih=>
  intro v;obtain⟨h1,h2⟩:=ih (MM w0 L v x);show((l.foldl (MM w0 L) (MM w0 L v x)).R (aY y)).E=_ /\((l.foldl (MM w0 L) (MM w0 L v x)).R (aY y)).cE=_;rw[h1,h2];unfold MM;dsimp only;rw[bI];split
  ·rename_i e;rw[e];exact⟨rfl,rfl⟩
  ·exact⟨rfl,rfl⟩
theorem ae7(w:ai)(h a y:Int):((Jp w h a).R (aY y)).E=(w.R (aY y)).E:=by
 unfold Jp;dsimp only;rw[bI];split
 ·rename_i e;rw[e]
 ·rfl
theorem alK(w:ai)(h y:Int):((EL w h).R (aY y)).E=(w.R (aY y)).E:=by
 unfold EL;split
 ·generalize V6 (Gw w) (dM w) h=l
  generalize U6 (dM w) h=L;rw[ae7,(aid w L l y w).1]
 ·rfl
theorem ae2.cQ{w':ai}(hb:w'.B=w.B)(h:∀y,(w'.R (aY y)).E=(w.R (aY y)).E):ae2 w w':=λy hy=> .inl ⟨hb▸hy,h y⟩
theorem mvB{w':ai}(h:w'.B=w.B):Mv w w':=⟨λx q=>by rw[h];exact q,λx q=> .inl (by rw[h]at q;exact q)⟩
theorem Pg.reset{w':ai}{bk fr:List Rn}(q:Pg w bk fr){h:Int}(hh:aQ w.B h)(hg:CL ((w.R (aY h)).E.aU.map jM))(ch:∀y,aQ w'.B y->(aQ w.B y/\y≠h/\(w'.R (aY y)).E=(w.R (aY y)).E)\/(w'.R (aY y)).E=bA):
  Pg w' (bk++(w.R (aY h)).E.aU.map jM) fr:=by
 have no:∀{y p},aQ w'.B y->IS w' y p->(aQ w.B y/\IS w y p)/\y≠h:=λ{y p} hy hp=>by
  rcases ch y hy with⟨h1,h3,h2⟩|h1
  ·exact⟨⟨h1,by unfold IS at hp ⊢;rw[← h2];exact hp⟩,h3⟩
  ·unfold IS at hp;rw[h1]at hp;exact absurd hp (jY _)
 refine⟨q.can,λy p hy hp=>q.f y p (no hy hp).1.1 (no hy hp).1.2,λy z p hy hz a b=>q.d y z p (no hy a).1.1 (no hz b).1.1 (no hy a).1.2 (no hz b).1.2,JZ.2 ⟨q.b,hg,λp a b=>q.bd h p hh a b⟩,λp hp=>?_,λy p hy hp a=>?_⟩
 ·rcases jZ.1 hp with e|e
  ·exact q.bf p e
  ·exact q.f h p hh e
 ·rcases jZ.1 hp with e|e
  ·exact q.bd y p (no hy a).1.1 e (no hy a).1.2
  ·exact(no hy a).2 (q.d y h p (no hy a).1.1 hh (no hy a).1.2 e)
end
section
variable {n c:Nat} {x:aq} {w:aj} {fr:List Rn}
theorem ahU(H:Hc n c x w fr){h:Int}(hg:aQ w.aC.T.B h):gD n w h=some ((w.aC.T.R (aY h)).E,mz h):=by have hn:=H.nn;unfold gD;rw[ah (cW (by omega) H.j.rt.bj hg.1),aoU hg.2,ax (gR h),aJ];rfl
theorem agv(H:Hc n c x w fr){h:Int}(hg:aQ w.aC.T.B h){γ:Type}(k:aR->Option (Except Int γ)):tr (eV n x h) (λex=>(.error ex)) k=k (p8 x.av.aC.T w.aC.T h):=by
 have e:eV n x h=some (.ok (p8 x.av.aC.T w.aC.T h)):=by unfold eV;rw[ah (z8 H.j.rt hg.1 (gh hg.2)),aoU hg.2,rG,aoU rfl]
 rw[e];rfl
theorem ZU(H:Hc n c x w fr){h what:Int}(h0:0<=h)(hw:what≠0)(e:Dw x w h what=0):∀i k m,RR w.tB i k m->m.Region∉fY w.aC.T h:=λi k m hm hu=>by have h1:=Rq hw e;rw[← agN H.j.rt H.j.tt hu h0,(H.j.fl.k i k m hm).2.2]at h1;exact absurd h1 (by decide)
theorem TG(H:Hc n c x w fr){h what:Int}(h0:0<=h)(hw:what≠0)(e:Dw x w h what=0):∀i k m,RR w.tB i k m->m.Region≠h:=λi k m hm hu=>ZU H h0 hw e i k m hm (by rw[hu];exact Yz H.j.rt H.j.tt (oG h0 e))
theorem adS(H:Hc n c x w fr){h what:Int}(hw:what≠0)(e:Dw x w h what=0){y:Int}(hy:(lK w.aC.T x.av.aC.O y).dx=2):y≠h:=λhu=>by have h1:=Rq hw e;rw[← hu,hy]at h1;exact absurd h1 (by decide)
theorem abi(H:Hc n c x w fr)(hd:x.c.Do=6):pX (c+60) x.c fr w (jd n x) (cI n w x.aE (ri x.c)):=by
 have nc:=H.cc.cr;have hn:=H.nn;unfold jd cI;simp only[ri,hd,aJ,Int.reduceBEq,Bool.true_and,Bool.and_false,Bool.true_or,Bool.or_false,Bool.false_and,cnT,cnF,NF];rw[ah (Hx H nc.1 2),Hz H nc];by_cases he:Dw x w x.c.R 2=0
 ·obtain⟨k',t',g1,g2,g3⟩:=Pa (n:=n) (by omega) H.j nc.1 nc.2 (ZU H nc.1 (by decide) he) x rfl rfl
  rw[aoU he,he,ae (b:=((0:Int)!=0)) rfl,ah g1,ah g2];exact .ok rfl rfl rfl rfl rfl (by decide) (λ_ =>rfl) (g3.fE (by omega))
 ·rw[aoV he,ak (rj he)]
  exact .er he rfl rfl
theorem ac4(H:Hc n c x w fr)(hd:x.c.Do=5):pX (c+60) x.c fr w (jE n x) (cI n w x.aE (ri x.c)):=by
 have nc:=H.cc.cr;have hn:=H.nn;have j:=H.j;unfold jE cI;simp only[ri,hd,aJ,Int.reduceBEq,Bool.true_and,Bool.and_false,Bool.true_or,Bool.or_true,Bool.false_and,cnT,cnF,NF];rw[ah (Hx H nc.1 1),Hz H nc];by_cases he:Dw x w x.c.R 1=0
 ·have hg:=oG nc.1 he
  have hr:=FF j.rt hg;have h4:=Ls j.rt j.i6 hg;have hq:=(j.i6 _ hg).1;have hrl:=h4.gx.len;have e1:(p8 x.av.aC.T w.aC.T x.c.R).E.aU=(w.aC.T.R (aY x.c.R)).E.aU.map jM:=congrArg aT.aU hr.e;have e2:(p8 x.av.aC.T w.aC.T x.c.R).cE=(w.aC.T.R (aY x.c.R)).cE:=hr.q;have hp:JG ⟨0,(w.aC.T.R (aY x.c.R)).cE,dG,λ_ =>0⟩ ⟨0,(w.aC.T.R (aY x.c.R)).cE,bA,λ_ =>0⟩:=⟨rfl,rfl,Nat.zero_le _,λy hy=>(by cases hy),λ_ _ =>rfl,λ_ _ =>by dsimp only;decide⟩;have hm0:=agR (n:=n) (by omega);obtain⟨t',s1,s2,s3⟩:=acV (n:=n) (by omega) j.rt j.tt hg hp hq hm0;have s4:=Ox (n:=n) (by omega) j.rt hg (x:=⟨0,(w.aC.T.R (aY x.c.R)).cE,bA,λ_ =>0⟩) hq hm0;rw[aoU he,he,ae (b:=((0:Int)!=0)) rfl,agv H hg,ah (ahU H hg),H.bk,e1,e2,ax (eM (by simp at hrl ⊢;omega) (by simp at hrl ⊢;omega)),ax (gR _),ax (gR _)];unfold lP;dsimp only;rw[ah s1,rG,aoU rfl];show pX _ _ _ _ _ (bd (jg n w.aC.T x.c.R ⟨0,(w.aC.T.R (aY x.c.R)).cE,bA,λ_ =>0⟩) _);rw[ah s4];have hE:∀y,aQ w.aC.T.B y->y≠x.c.R->(AU w.aC.T x.c.R ⟨0,(w.aC.T.R (aY x.c.R)).cE,bA,λ_ =>0⟩).R (aY y)=w.aC.T.R (aY y):=λy hy hn=>by unfold AU;dsimp only;rw[jo _ _ λe=>hn (z6 hy hg e)]
  have hE0:((AU w.aC.T x.c.R ⟨0,(w.aC.T.R (aY x.c.R)).cE,bA,λ_ =>0⟩).R (aY x.c.R)).E=bA:=by unfold AU;dsimp only;rw[pq]
  have i':zn (AU w.aC.T x.c.R ⟨0,(w.aC.T.R (aY x.c.R)).cE,bA,λ_ =>0⟩):=λg P1=>by
   by_cases e:g=x.c.R
   ·subst e
    rw[hE0];refine⟨?_,λm hm=>agR hm⟩;have:((AU w.aC.T x.c.R ⟨0,(w.aC.T.R (aY x.c.R)).cE,bA,λ_ =>0⟩).R (aY x.c.R)).cE=(w.aC.T.R (aY x.c.R)).cE:=by unfold AU;dsimp only;rw[pq]
    rw[this];exact hq
   ·rw[hE g P1 e];exact j.i6 g P1
  have ch:∀y,aQ w.aC.T.B y->(aQ w.aC.T.B y/\y≠x.c.R/\((AU w.aC.T x.c.R ⟨0,(w.aC.T.R (aY x.c.R)).cE,bA,λ_ =>0⟩).R (aY y)).E=(w.aC.T.R (aY y)).E)\/((AU w.aC.T x.c.R ⟨0,(w.aC.T.R (aY x.c.R)).cE,bA,λ_ =>0⟩).R (aY y)).E=bA:=λy hy=>by
   by_cases e:y=x.c.R
   ·exact .inr (e▸hE0)
   ·exact .inl ⟨hy,e,by rw[hE y hy e]⟩
  have j1:=j.tab (t':=t') s2 s3 i' (mvB rfl) (λy hy=>(ch y hy).imp (λh=>⟨h.1,h.2.2⟩) id) λy hy hu _ =>⟨hy,(Sw _ _ _).trans hu⟩;have hpg:=j.pg.reset (w':=AU w.aC.T x.c.R ⟨0,(w.aC.T.R (aY x.c.R)).cE,bA,λ_ =>0⟩) hg h4.gx.gd ch;rw[H.bk]at hpg;refine .ok (x':={x with av:={x.av with aC:={x.av.aC with T:=t'}},gO:=[]++(w.aC.T.R (aY x.c.R)).E.aU.map jM}) rfl rfl rfl rfl rfl (by decide) (λ_ =>rfl) (sV.fE (c:=c) ?_ (by omega));exact{j1 with
   ly:=λy hy=>by
    by_cases e:y=x.c.R
    ·subst e
     show((AU w.aC.T x.c.R ⟨0,(w.aC.T.R (aY x.c.R)).cE,bA,λ_ =>0⟩).R (aY x.c.R)).E.jW<=_;rw[hE0];exact Int.natCast_nonneg _
    ·show((AU w.aC.T x.c.R ⟨0,(w.aC.T.R (aY x.c.R)).cE,bA,λ_ =>0⟩).R (aY y)).E.jW<=(dm w.fz (aY x.c.R) [] (aY y)).length
     rw[hE y hy e,jo _ _ λq=>e (z6 hy hg q)];exact j.ly y hy
   b2:=λi=>by
    show(dm w.fz (aY x.c.R) [] i).length<=3000;rw[bI];split
    ·exact Nat.zero_le _
    ·exact j.b2 i
   pg:=hpg
   bl:=by simp}
 ·rw[aoV he,ak (rj he)]
  exact .er he rfl rfl
end
end Go.Proofs.Z
namespace Go.Proofs.Z
open Go Go.Bw
section
variable {n c:Nat} {x:aq} {w:aj} {fr:List Rn}
theorem sV.cut{s:bB}{bk:List Rn}(j:sV c s w bk fr)(hn:200<=n){h:Int}(hg:aQ w.aC.T.B h):
  ∃t',tQ n s.aC.T h=some (t',0)/\wA n w.aC.T h=some (EL w.aC.T h,0)/\sV c {s with aC:={s.aC with T:=t'}} {w with aC:={w.aC with T:=EL w.aC.T h}} bk fr/\aQ (EL w.aC.T h).B h/\dM (EL w.aC.T h) h=0:=by
 obtain⟨t',c1,c2,c3,c4,c5⟩:=aoj (n:=n) hn j.rt j.tt j.i6 hg.1 (gh hg.2);rw[aoU hg.2]at c1 c2;have hb:=abk w.aC.T h;refine⟨t',c1,c2,j.tab c3 c4 c5 (mvB hb) (.cQ hb (alK _ _)) λy hy hu _ =>⟨by rw[hb];exact hy,?_⟩,by rw[hb];exact hg,?_⟩
 ·rw[abj j.rt hg hy,hu];split<;>rfl
 ·rw[abj j.rt hg hg,aoU rfl]
theorem Y8{x:aq}{t':au}{h:Int}(hc:tQ n x.av.aC.T h=some (t',0)){γ:Type}(k:aq->Option (Except Int γ)):tr (iS n x h) (λex=>(.error ex)) k=k {x with av:={x.av with aC:={x.av.aC with T:=t'}}}:=by
 have e:iS n x h=some (.ok {x with av:={x.av with aC:={x.av.aC with T:=t'}}}):=by unfold iS;rw[ah hc,rG,aoU rfl]
 rw[e];rfl
theorem ZG{x:aq}{o':bM}{h aE:Int}(hc:oI n x.av.aC.O x.av.aC.T h aE=some (o',0)){γ:Type}(k:aq->Option (Except Int γ)):tr (eB n x h aE) (λex=>(.error ex)) k=k {x with av:={x.av with aC:={x.av.aC with O:=o'}}}:=by
 have e:eB n x h aE=some (.ok {x with av:={x.av with aC:={x.av.aC with O:=o'}}}):=by unfold eB;rw[ah hc,rG,aoU rfl]
 rw[e];rfl
theorem alM(H:Hc n c x w fr)(hd:x.c.Do=7):pX (c+60) x.c fr w (lT n x) (cI n w x.aE (ri x.c)):=by
 have nc:=H.cc.cr;have hn:=H.nn;have j:=H.j;unfold lT cI;simp only[ri,hd,aJ,Int.reduceBEq,Bool.and_false,Bool.and_true,Bool.or_false,Bool.false_and,cnF];rw[ah (Hx H nc.1 2),Hz H nc];by_cases he:Dw x w x.c.R 2=0
 ·have hg:=oG nc.1 he
  rw[aoU he,he,ah (Ew (n:=n) (by omega) j.rt j.tt nc.1 nc.2)];have e1:(((0:Int)==0)==true)=true:=rfl;rw[uj e1 (BT (n:=n) (by omega) j.rt j.tt nc.1),PT];by_cases hr:dc w.aC.T x.c.R=x.c.R
  ·rw[hr,aoV (by simp),ak (by simp),ak (by rfl)]
   exact .er (e:=12) (by decide) rfl (aa6 w 12)
  ·obtain⟨t',c1,c2,c3,c4,c5⟩:=j.cut (n:=n) (by omega) hg
   obtain⟨v',g1,g2,g3,g4⟩:=Pc (n:=n) (by omega) c3.rt c3.tt c3.op (by have:=j.rl;dsimp only;omega) c4 c5 H.tk;rw[aoU (by simpa using hr),Y8 c1,ae (by rw[ju hr];rfl),ae (by rfl),ah c2];dsimp only at g1 g2 ⊢;rw[ZG (x:={x with av:={x.av with aC:={x.av.aC with T:=t'}}}) g1,ah g2];refine .ok rfl rfl rfl rfl rfl (by decide) (λ_ =>rfl) ?_;refine c3.own g3 (by have:=j.rl;dsimp only at g4 ⊢;omega) λa b m hm=>?_;obtain⟨f1,f2,f3⟩:=c3.fl.k a b m hm;exact(congrArg cF.dx (qc c3.rt c3.tt c4 f1 f2 (TG H nc.1 (by decide) he a b m hm))).trans f3
 ·have e1:(Dw x w x.c.R 2==0)=false:=ju he
  rw[aoV he,e1];refine .er he rfl ?_;show cn (Dw x w x.c.R 2!=0) _ _ =_;rw[ak (rj he)];rfl
theorem ad7(H:Hc n c x w fr)(hd:x.c.Do=8):pX (c+60) x.c fr w (jF n x) (cI n w x.aE (ri x.c)):=by
 have nc:=H.cc.cr;have hcs:=H.cc.cs;have hn:=H.nn;have j:=H.j;unfold jF cI;simp only[ri,hd,aJ,Int.reduceBEq,Bool.and_false,Bool.and_true,Bool.or_false,Bool.false_and,cnT,cnF,NF];rw[ah (Hx H nc.1 2),Hz H nc];by_cases he:Dw x w x.c.R 2=0
 ·have hg:=oG nc.1 he
  rw[aoU he,he,ak (b:=((0:Int)==0)) rfl,ah (Hx H hcs.1 1),Hz H hcs];by_cases hs:Dw x w x.c.S 1=0
  ·obtain⟨t',w',e,g1,g2,g3,g4,g5,g6⟩:=ahL (n:=n) (by omega) j.rt j.tt j.i6 nc.1 nc.2 hcs.1 hcs.2
   rw[aoU hs,hs,ae (b:=((0:Int)!=0)) rfl,ah g1,ah g2];dsimp only;rw[rG];by_cases hz:e=0
   ·obtain⟨rfl,q1,q2,q3,q4,q5⟩:=g6.is hz
    rw[aoU hz,ae (by rw[hz];rfl)];refine .ok rfl rfl rfl rfl rfl (by decide) (λ_ =>rfl) (sV.fE (j.tab g3 g4 g5 (mvB rfl) (.cQ rfl (ae7 _ _ _)) λy hy hu hk=>⟨hy,?_⟩) (by omega));rw[Sq q1 hy,aoV (adS H (by decide) he hk)];exact hu
   ·rw[aoV hz,ak (rj hz)]
    exact .er hz rfl rfl
  ·rw[aoV hs,ak (rj hs)]
   exact .er hs rfl rfl
 ·rw[aoV he,ae (ju he),ak (rj he)]
  exact .er he rfl rfl
theorem Xg(H:Hc n c x w fr)(hd:x.c.Do=9):pX (c+60) x.c fr w (jc n x) (cI n w x.aE (ri x.c)):=by
 have nc:=H.cc.cr;have hn:=H.nn;have j:=H.j;unfold jc cI;simp only[ri,hd,aJ,Int.reduceBEq,Bool.and_false,Bool.or_false,Bool.false_and,cnT,cnF,NF];rw[ah (Hx H nc.1 2),Hz H nc];by_cases he:Dw x w x.c.R 2=0
 ·have hg:=oG nc.1 he
  obtain⟨t',c1,c2,c3,c4,c5⟩:=j.cut (n:=n) (by omega) hg;obtain⟨v',g1,g2,g3,g4⟩:=aaV (n:=n) (by omega) c3.rt c3.tt c3.op (by have:=j.rl;dsimp only;omega) c4 c5 H.tk;rw[aoU he,he,ae (b:=((0:Int)!=0)) rfl,Y8 c1,ah c2];dsimp only at g1 g2 ⊢;rw[ah g1,ah g2,rG,aoU rfl];refine .ok rfl rfl rfl rfl rfl (by decide) (λ_ =>rfl) ?_;refine c3.own g3 (by have:=j.rl;dsimp only at g4 ⊢;omega) λa b m hm=>?_;obtain⟨f1,f2,f3⟩:=c3.fl.k a b m hm;exact(congrArg cF.dx (qc c3.rt c3.tt c4 f1 f2 (TG H nc.1 (by decide) he a b m hm))).trans f3
 ·rw[aoV he,ak (rj he)]
  exact .er he rfl rfl
end
end Go.Proofs.Z
namespace Go.Proofs.Z
open Go Go.Bw
theorem akk{α ρ:Type}{d:Bool}(a b:α)(A:α->Option ρ):lt A (λj=>cn d (j a) (j b))=A (bif d then a else b):=by cases d<;>rfl
section
variable {n c:Nat} {x:aq} {w:aj} {fr:List Rn}
theorem Xt(hn:100<=n){a:bU}{b:List Int}(hA:0<=a.A/\a.A<4294967296)(hB:1<=a.B/\a.B<=8)(hl:a.A+a.B<=b.length){ρ:Type}(F:List Int->Int->Option ρ):
  ∃b' v,b'.length=b.length/\(a.Do=4->v=0)/\sF (λk85 (Kh:(List Int)) (GO:Int) (A1:Int)=>
 cn (decide (A1<a.B)) (
 cn ((a.Do==4)) (
 gu (decide (0<=(wr .i64 (8*A1))))<|
 gu (bQ (wr .i64 (a.A+A1)) Kh.length)<|
 lt ((Kh.set (Int.toNat (wr .i64 (a.A+A1))) (wr .u8 (Fw .u64 a.V (wr .i64 (8*A1))))):List Int) λx88=>
 k85 x88 GO (wr .i64 (A1+1))) (
 gu (bQ (wr .i64 (a.A+A1)) Kh.length)<|
 gu (decide (0<=(wr .i64 (8*A1))))<|
 k85 Kh (wr .u64 (GO+(KI .u64 (wr .u64 (Kh.getD (Int.toNat (wr .i64 (a.A+A1))) default)) (wr .i64 (8*A1))))) (wr .i64 (A1+1)))) (
 F Kh GO)) n b 0 0=F b' v:=by
 refine rE (λ(y:List Int) (v:Int) (i:Int)=>0<=i/\i<=a.B/\y.length=b.length/\(a.Do=4->v=0)) (λ_ _ i=>(a.B-i).toNat) (λo=>∃b' v,b'.length=b.length/\(a.Do=4->v=0)/\o=F b' v) ?_ n b 0 0 ⟨by omega,by omega,rfl,λ_ =>rfl⟩ (by omega);rintro k y v i ⟨i0,i1,hy,hv⟩ ih;by_cases c:i<a.B
 ·have g1:decide (0<=(wr .i64 (8*i)))=true:=aoY (by rw[aL (by omega) (by omega)];omega)
  have g2:bQ (wr .i64 (a.A+i)) y.length=true:=by rw[aL (by omega) (by omega)];exact bK (by omega) (by omega)
  rw[ak (aoY c),aL (x:=i+1) (by omega) (by omega)];by_cases d:a.Do=4
  ·rw[ak (by simpa using d),ax g1,ax g2,aJ]
   exact ih _ _ _ ⟨by omega,by omega,by rw[List.length_set];exact hy,hv⟩ (by omega)
  ·rw[ae (by simpa using d),ax g2,ax g1]
   exact ih _ _ _ ⟨by omega,by omega,hy,λh=>absurd h d⟩ (by omega)
 ·rw[ae (ao5 c)]
  exact⟨y,v,hy,hv,rfl⟩
theorem sV.byt{s:bB}{bk:List Rn}(j:sV c s w bk fr){h:Int}{b:List Int}(hl:b.length=(w.fz (aY h)).length):sV c s {w with fz:=dm w.fz (aY h) b} bk fr:=
 {j with
  ly:=λy hy=>by
   show _ <=((dm w.fz (aY h) b (aY y)).length:Int);rw[bI];split
   ·rename_i e;rw[hl, ← e];exact j.ly y hy
   ·exact j.ly y hy
  b2:=λi=>by
   show(dm w.fz (aY h) b i).length<=3000;rw[bI];split
   ·rw[hl];exact j.b2 _
   ·exact j.b2 i}
theorem SN(H:Hc n c x w fr){what:Int}(hw:what=if x.c.Do=4 then 1 else 0):
  (¬(1<=x.c.B/\x.c.B<=8)->dY n w x.aE (ri x.c)=some (w,⟨2,0,0⟩))/\
  (1<=x.c.B/\x.c.B<=8->Dw x w x.c.R what≠0->dY n w x.aE (ri x.c)=some (w,⟨Dw x w x.c.R what,0,0⟩))/\
  (1<=x.c.B/\x.c.B<=8->Dw x w x.c.R what=0->¬(x.c.A+x.c.B<=(w.aC.T.R (aY x.c.R)).E.jW)->dY n w x.aE (ri x.c)=some (w,⟨9,0,0⟩))/\
  (1<=x.c.B/\x.c.B<=8->Dw x w x.c.R what=0->x.c.A+x.c.B<=(w.aC.T.R (aY x.c.R)).E.jW->∃b' v,b'.length=(w.fz (aY x.c.R)).length/\(x.c.Do=4->v=0)/\dY n w x.aE (ri x.c)=some ({w with fz:=dm w.fz (aY x.c.R) b'},⟨0,v,0⟩)):=by
 have hn:=H.nn;have nc:=H.cc.cr;have hca:=H.cc.ca;have hcb:=H.cc.cb;have j:=H.j;have e1:(bif ((ri x.c).Do==4)then(1:Int)else 0)=what:=by
  show(bif (x.c.Do==4)then(1:Int)else 0)=what;rw[hw];by_cases d:x.c.Do=4
  ·rw[aoU d,d];rfl
  ·rw[aoV d,ju d];rfl
 unfold dY;rw[akk,e1];show(_ ->cn ((decide (x.c.B<1)||decide (8<x.c.B))) _ _ =_)/\(_ ->_ ->cn ((decide (x.c.B<1)||decide (8<x.c.B))) _ _ =_)/\(_ ->_ ->_ ->cn ((decide (x.c.B<1)||decide (8<x.c.B))) _ _ =_)/\(_ ->_ ->_ ->∃b' v,_ /\_ /\cn ((decide (x.c.B<1)||decide (8<x.c.B))) _ _ =_);by_cases hB:1<=x.c.B/\x.c.B<=8
 ·have hb:(decide (x.c.B<1)||decide (8<x.c.B))=false:=by rw[Bool.or_eq_false_iff,decide_eq_false_iff_not,decide_eq_false_iff_not];omega
  rw[hb,ae rfl];refine⟨λh=>absurd hB h,?_⟩;show(_ ->_ ->bd (eF n w.aC x.aE x.c.R what) _ =_)/\(_ ->_ ->_ ->bd (eF n w.aC x.aE x.c.R what) _ =_)/\(_ ->_ ->_ ->∃b' v,_ /\_ /\bd (eF n w.aC x.aE x.c.R what) _ =_);rw[ah (Hx H nc.1 what)];by_cases he:Dw x w x.c.R what=0
  ·have hg:=oG nc.1 he
   have hx:=Ls j.rt j.i6 hg;have hlo:=hx.lo;have hhi:=hx.hi;have hsu:=hx.gx.sum;dsimp only at hlo hhi hsu;refine⟨λ_ h=>absurd he h,?_⟩;rw[he,ae (b:=((0:Int)!=0)) rfl];show(_ ->_ ->_ ->bd (gD n w x.c.R) _ =_)/\(_ ->_ ->_ ->∃b' v,_ /\_ /\bd (gD n w x.c.R) _ =_);rw[ah (ahU H hg)];show(_ ->_ ->_ ->cn (decide ((w.aC.T.R (aY x.c.R)).E.jW<wr .i64 (x.c.A+x.c.B))) _ _ =_)/\(_ ->_ ->_ ->∃b' v,_ /\_ /\cn (decide ((w.aC.T.R (aY x.c.R)).E.jW<wr .i64 (x.c.A+x.c.B))) _ _ =_);rw[aL (by omega) (by omega)];by_cases hL:x.c.A+x.c.B<=(w.aC.T.R (aY x.c.R)).E.jW
   ·refine⟨λ_ _ h=>absurd hL h,λ_ _ _ =>?_⟩
    have h2:=j.b2 (aY x.c.R);have h3:=j.ly x.c.R hg;rw[ae (ao5 (by omega)),ax (gR _),List.nil_append];obtain⟨b',v,q1,q2,q3⟩:=Xt (n:=n) (by omega) (a:=ri x.c) (b:=w.fz (aY x.c.R)) hca hB (by show x.c.A+x.c.B<=_;omega) (λKh GO=>gu (bQ (mz x.c.R) 32)<|lt ({w with fz:=(dm w.fz (Int.toNat (mz x.c.R)) Kh)}:aj) λMZ=>lt ({E:=0,V:=GO,W:=0}:aH) λMr=>some (MZ,Mr))
    refine⟨b',v,q1,q2,?_⟩;show gu (gw 0 (w.fz (aY x.c.R)).length 1) _ =_;rw[ax (eM (by omega) (by omega)),aJ];refine q3.trans ?_;rw[ax (gR _),aJ,aJ];rfl
   ·refine⟨λ_ _ _ =>?_,λ_ _ h=>absurd h hL⟩
    rw[ak (aoY (by omega))];rfl
  ·refine⟨λ_ _ =>?_,λ_ h=>absurd h he,λ_ h=>absurd h he⟩
   rw[ak (rj he)];rfl
 ·have hb:(decide (x.c.B<1)||decide (8<x.c.B))=true:=by rw[Bool.or_eq_true,decide_eq_true_eq,decide_eq_true_eq];omega
  rw[hb,ak rfl];exact⟨λ_ =>rfl,λh=>absurd h hB,λh=>absurd h hB,λh=>absurd h hB⟩
theorem afZ{γ:Type}(a:aN)(k:Unit->Option (Except Int γ)):tr (rB n a) (λex=>(.error ex)) k=if 1<=a.B/\a.B<=8 then k ()else some (.error 2):=by
 unfold rB;rw[PT];by_cases h:1<=a.B/\a.B<=8
 ·rw[aoU h,aoU (by simpa using h)];rfl
 ·rw[aoV h,aoV (by simpa using h)];rfl
theorem adF{γ:Type}(r:aR)(a:aN)(hl:0<=r.E.jW/\r.E.jW<=100000)(ha:0<=a.A/\a.A<4294967296)(hb:0<=a.B/\a.B<4294967296)(k:Unit->Option (Except Int γ)):tr (rC n r a) (λex=>(.error ex)) k=if a.A+a.B<=r.E.jW then k ()else some (.error 9):=by
 unfold rC;rw[PT,aL (x:=a.A) (by omega) (by omega),aL (x:=a.B) (by omega) (by omega),aL (x:=r.E.jW-a.B) (by omega) (by omega)];by_cases h:a.A+a.B<=r.E.jW
 ·rw[aoU h,aoU (aoY (by omega))];rfl
 ·rw[aoV h,aoV (by simp;omega)];rfl
theorem akm(H:Hc n c x w fr){what:Int}(hw:what=if x.c.Do=4 then 1 else 0)(hd:x.c.Do=3\/x.c.Do=4){g:Nat->aq->Option (Except Int aA)}(hp:g n x=(tr (rB n x.c) (λqy=>(.error qy)) λbg=>tr (cz n x x.c.R what) (λAe=>(.error Ae)) λbV=>tr (eV n x x.c.R) (λHO=>(.error HO)) λgH=>tr (rC n gH x.c) (λaa8=>(.error aa8)) λeJ=>lt ({E:=0,V:=0,W:=0}:aA) λg8=>some (.ok g8))):pX (c+60) x.c fr w (yf g n x) (dY n w x.aE (ri x.c)):=by
 have hn:=H.nn;have nc:=H.cc.cr;have j:=H.j;obtain⟨r1,r2,r3,r4⟩:=SN H hw;unfold yf;rw[hp,afZ];by_cases hB:1<=x.c.B/\x.c.B<=8
 ·rw[aoU hB,Hz H nc]
  by_cases he:Dw x w x.c.R what=0
  ·have hg:=oG nc.1 he
   have hx:=Ls j.rt j.i6 hg;have hlo:=hx.lo;have hhi:=hx.hi;have hsu:=hx.gx.sum;dsimp only at hlo hhi hsu;have e2:(p8 x.av.aC.T w.aC.T x.c.R).E.jW=(w.aC.T.R (aY x.c.R)).E.jW:=congrArg aT.jW (FF j.rt hg).e;rw[aoU he,agv H hg,adF _ _ (by rw[e2];omega) H.cc.ca H.cc.cb,e2];by_cases hL:x.c.A+x.c.B<=(w.aC.T.R (aY x.c.R)).E.jW
   ·obtain⟨b',v,q1,q2,q3⟩:=r4 hB he hL
    rw[aoU hL];refine .ok rfl q3 rfl rfl rfl (by decide) (λh=>?_) ((j.byt q1).fE (by omega));rcases hd with e|e
    ·exact absurd e h
    ·exact q2 e
   ·rw[aoV hL]
    exact .er (e:=9) (by decide) rfl (r3 hB he hL)
  ·rw[aoV he]
   exact .er he rfl (r2 hB he)
 ·rw[aoV hB]
  exact .er (e:=2) (by decide) rfl (r1 hB)
theorem agV(H:Hc n c x w fr)(hd:x.c.Do=3):pX (c+60) x.c fr w (yf mT n x) (dY n w x.aE (ri x.c)):=akm H (what:=0) (by rw[aoV (by omega)]) (.inl hd) rfl
theorem acP(H:Hc n c x w fr)(hd:x.c.Do=4):pX (c+60) x.c fr w (yf l9 n x) (dY n w x.aE (ri x.c)):=akm H (what:=1) (by rw[aoU hd]) (.inr hd) rfl
end
end Go.Proofs.Z
namespace Go.Proofs.Z
open Go Go.Bw
theorem ZQ(A B:Int):vq (if 129<A then 129 else A) (if 9<B then 9 else B)=vq A B:=by rw[Bool.eq_iff_iff,qF,qF];unfold al4;split<;>split<;>omega
theorem WR{A B:Int}(h:vq A B=true):(if 129<A then 129 else A)=A/\(if 9<B then 9 else B)=B:=by have:=qF.1 h;unfold al4 at this;exact⟨aoV (by omega),aoV (by omega)⟩
def sK(w:aj)(h:Int):aT:=⟨(w.aC.T.R (aY h)).E.aU.map jM,(w.aC.T.R (aY h)).E.jW⟩
def yE(A:Int):Int:=(A+31)/32
def NA(w:aj)(h:Int)(l:List (Nat->Int))(k:Int):ai:=AU w.aC.T h {w.aC.T.R (aY h)with E:=⟨l,k⟩}
section
variable {n c:Nat} {x:aq} {w:aj} {fr:List Rn}
theorem ajH(H:Hc n c x w fr):wr .i64 (if 129<x.c.A then 129 else x.c.A)=(if 129<x.c.A then 129 else x.c.A)/\wr .i64 (if 9<x.c.B then 9 else x.c.B)=(if 9<x.c.B then 9 else x.c.B):=by have h1:=H.cc.ca;have h2:=H.cc.cb;exact⟨aL (by split<;>omega) (by split<;>omega),aL (by split<;>omega) (by split<;>omega)⟩
theorem af2(H:Hc n c x w fr){h:Int}(hg:aQ w.aC.T.B h):(p8 x.av.aC.T w.aC.T h).E=sK w h:=(FF H.j.rt hg).e
theorem alx(H:Hc n c x w fr){h:Int}(hg:aQ w.aC.T.B h){l:List (Nat->Int)}{k:Int}(h4:GD ⟨l.map jM,k⟩)(hr:∀y∈l.map jM,A0 y.At/\A0 y.N):
  ∃t',gF n x.av.aC.T h {p8 x.av.aC.T w.aC.T h with E:=⟨l.map jM,k⟩}=some (t',0)/\gI t' (NA w h l k)/\jV (NA w h l k)/\zn (NA w h l k):=by
 have hn:=H.nn;have j:=H.j;have hR:=FF j.rt hg;have hl:l.length<=80:=by have:=h4.gx.len;rw[List.length_map]at this;omega
 have hp:JG {p8 x.av.aC.T w.aC.T h with E:=⟨l.map jM,k⟩} {w.aC.T.R (aY h)with E:=⟨l,k⟩}:=⟨hR.q,rfl,hl,hr,hR.c,hR.c0⟩;have hm:∀m,110<=m->dP m ⟨l,k⟩=some true:=λm hm=>by obtain⟨b,b1,b2⟩:=wz (n:=m) hm (x:=⟨l,k⟩) hl hr;rw[b1,b2.2 ⟨h4.gx.gd,h4.lo,h4.hi⟩]
 obtain⟨t',s1,s2,s3⟩:=acV (n:=n) (by omega) j.rt j.tt hg hp (j.i6 _ hg).1 (hm n (by omega));refine⟨t',s1,s2,s3,λg P1=>?_⟩;have h1:=j.i6 g P1;unfold NA AU;dsimp only;rw[bI];split
 ·rename_i e;rw[← e];exact⟨h1.1,hm⟩
 ·exact h1
theorem alw(w:aj)(h:Int)(l:List (Nat->Int))(k y:Int):dM (NA w h l k) y=dM w.aC.T y:=Sw _ _ _
theorem afD(w:aj)(h:Int)(l:List (Nat->Int))(k:Int):((NA w h l k).R (aY h)).E=⟨l,k⟩:=by unfold NA AU;dsimp only;rw[pq]
theorem afC(w:aj){h y:Int}(l:List (Nat->Int))(k:Int)(hn:aY y≠aY h):(NA w h l k).R (aY y)=w.aC.T.R (aY y):=by unfold NA AU;dsimp only;rw[jo _ _ hn]
theorem sV.ext{s:bB}{bk:List Rn}(j:sV c s w bk fr){h:Int}(hg:aQ w.aC.T.B h){l:List (Nat->Int)}{k:Int}{t':au}(r:gI t' (NA w h l k))(tt:jV (NA w h l k))(i:zn (NA w h l k)){b:List Int}(hb:k<=b.length)(Mh:b.length<=3000)
  (hp:∀p,dL (l.map jM) p->IS w.aC.T h p\/((¬dL fr p/\¬dL bk p)/\∀y,aQ w.aC.T.B y->¬IS w.aC.T y p)):
  sV c {s with aC:={s.aC with T:=t'}} {w with aC:={w.aC with T:=NA w h l k},fz:=dm w.fz (aY h) b} bk fr:=by
 have pg:∀{y p},aQ w.aC.T.B y->IS (NA w h l k) y p->IS w.aC.T y p\/(y=h/\(¬dL fr p/\¬dL bk p)/\∀y,aQ w.aC.T.B y->¬IS w.aC.T y p):=λ{y p} hy hpp=>by
  by_cases e:y=h
  ·subst e
   unfold IS at hpp;rw[afD]at hpp;rcases hp p hpp with h|h
   ·exact .inl h
   ·exact .inr ⟨rfl,h⟩
  ·refine .inl ?_
   unfold IS at hpp ⊢;rw[afC w l k λq=>e (z6 hy hg q)]at hpp;exact hpp
 exact{j with
  rt:=r,tt:=tt,i6:=i,op:=j.op.mv (mvB rfl)
  ly:=λy hy=>by
   show((NA w h l k).R (aY y)).E.jW<=(dm w.fz (aY h) b (aY y)).length;by_cases e:aY y=aY h
   ·rw[e,afD,pq];exact hb
   ·rw[afC w l k e,jo _ _ e];exact j.ly y hy
  b2:=λi=>by
   show(dm w.fz (aY h) b i).length<=3000;rw[bI];split
   ·exact Mh
   ·exact j.b2 i
  fl:=⟨λa b m hm=>by
   obtain⟨f1,f2,f3⟩:=j.fl.k a b m hm;have hu:dM (NA w h l k) m.Region=0:=(alw _ _ _ _ _).trans f2;exact⟨f1,hu,(congrArg cF.dx ((yc r tt f1 hu).trans (yc j.rt j.tt f1 f2).symm)).trans f3⟩,j.fl.u⟩
  pg:=⟨j.pg.can,λy p hy hq=>by
    rcases pg hy hq with h|h
    ·exact j.pg.f y p hy h
    ·exact h.2.1.1,λy z p hy hz a b=>by
    rcases pg hy a with h1|h1<;>rcases pg hz b with h2|h2
    ·exact j.pg.d y z p hy hz h1 h2
    ·exact absurd h1 (h2.2.2 y hy)
    ·exact absurd h2 (h1.2.2 z hz)
    ·exact h1.1.trans h2.1.symm,j.pg.b,j.pg.bf,λy p hy hq a=>by
    rcases pg hy a with h|h
    ·exact j.pg.bd y p hy hq h
    ·exact h.2.1.2 hq⟩}
theorem afJ(H:Hc n c x w fr){y:aq}(hy:y.av=x.av)(hc:y.c=x.c)(hg:aQ w.aC.T.B x.c.R){l:List (Nat->Int)}{k:Int}(h4:GD ⟨l.map jM,k⟩)(hf:vW ⟨l.map jM,k⟩ x.c.A x.c.B=true)(ho:vq x.c.A x.c.B=true)(hr:∀y∈l.map jM,A0 y.At/\A0 y.N):
  ∃t',(bd (nf n ({p8 x.av.aC.T w.aC.T x.c.R with E:=⟨l.map jM,k⟩}:aR).E x.c.A x.c.B) λMs=>lt ({({p8 x.av.aC.T w.aC.T x.c.R with E:=⟨l.map jM,k⟩}:aR)with E:=Ms.1}:aR) λUl=>tr (lP n y y.c.R Ul) (λahW=>(.error ahW)) λx88=>lt ({E:=0,V:=wr .u64 Ms.2.1,W:=0}:aA) λx99=>some (Except.ok (ε:=Int) (x99,x88)))=some (.ok (⟨0,wr .u64 (G8 k x.c.B),0⟩,{y with av:={x.av with aC:={x.av.aC with T:=t'}}}))/\gI t' (NA w x.c.R l (G8 k x.c.B+x.c.A))/\jV (NA w x.c.R l (G8 k x.c.B+x.c.A))/\zn (NA w x.c.R l (G8 k x.c.B+x.c.A)):=by
 have hn:=H.nn;have h5:GD ⟨l.map jM,G8 k x.c.B+x.c.A⟩:=by have hb:=(qF.1 ho);have hu:=(CO (x:=k) hb.2).1;have hk:=h4.lo;unfold vW at hf;rw[aoX,decide_eq_true_eq]at hf;refine⟨h4.gx,?_,hf.2⟩;show 0<=G8 k x.c.B+x.c.A;dsimp only at hk;omega
 obtain⟨t',s1,s2,s3,s4⟩:=alx H hg h5 hr;refine⟨t',?_,s2,s3,s4⟩;rw[ah (adh (n:=n) (by omega) h4 x.c.A x.c.B),aoU hf,aJ];unfold lP;rw[hc,hy];dsimp only;rw[ah s1,rG,aoU rfl];rfl
end
end Go.Proofs.Z
namespace Go.Proofs.Z
open Go Go.Bw
section
variable {n c:Nat} {x:aq} {w:aj} {fr:List Rn}
theorem Zg(H:Hc n c x w fr)(hg:aQ w.aC.T.B x.c.R)(a3:Nat->Int)(np at_ pages:Int)(E:bP)(hE:Gx (E.aU.map jM))(hrr:E.aU.length<=80)(hr:∀y∈E.aU.map jM,A0 y.At/\A0 y.N)(hat:0<=at_/\at_+x.c.A<=32*dV (E.aU.map jM))(hp:pages=0\/(0<pages/\a3 1=np)):
  ∃b:List Int,(b.length:Int)=32*dV (E.aU.map jM)/\(lt ({E with jW:=0}:bP) λPO=>
 cl (((decide (0<pages))==true)&&(((a3 1)!=np)==false)) (dP n PO) default λGO=>
 cn ((decide (0<pages)&&(((a3 1)!=np)||(!GO)))) (
 lt ({E:=2,V:=0,W:=0}:aH) λA1=>
 some (w,A1,pages)) (
 lt ({PO with jW:=wr .i64 (at_+x.c.A)}:bP) λx86=>
 gu (bQ (mz x.c.R) 32)<|
 lt ({w with aC:={w.aC with T:={w.aC.T with R:=(dm w.aC.T.R (Int.toNat (mz x.c.R)) ({(w.aC.T.R (Int.toNat (mz x.c.R)))with E:=x86}))}}}:aj) λNW=>
 bd (eH n x86) λMZ=>
 gu (decide (0<=(MZ.length:Int)))<|
 gu (gw 0 (Int.toNat (MZ.length:Int)) 1)<|
 lt (List.replicate (Int.toNat (MZ.length:Int)) 0:List Int) λx99=>
 gu (bQ (mz x.c.R) 32)<|
 lt ((NW.fz (Int.toNat (mz x.c.R))).take x99.length++x99.drop (NW.fz (Int.toNat (mz x.c.R))).length:List Int) λYi=>
 gu (bQ (mz x.c.R) 32)<|
 lt ({NW with fz:=(dm NW.fz (Int.toNat (mz x.c.R)) Yi)}:aj) λN4=>
 lt ({E:=0,V:=wr .u64 at_,W:=0}:aH) λKk=>
 some (N4,Kk,pages)))=some ({w with aC:={w.aC with T:=NA w x.c.R E.aU (at_+x.c.A)},fz:=dm w.fz (aY x.c.R) b},⟨0,wr .u64 at_,0⟩,pages):=by
 have hn:=H.nn;have hca:=H.cc.ca;have hsu:=hE.sum;have GK:=gR x.c.R;have hm:dP n {E with jW:=0}=some true:=by obtain⟨b,b1,b2⟩:=wz (n:=n) (by omega) (x:={E with jW:=0}) hrr hr;rw[b1,b2.2 ⟨hE.gd,Int.le_refl _,by have:=hE.pos;dsimp only;omega⟩]
 have hc:∀y:Bool,y=true\/y=default->(pages=0\/y=true)->(decide (0<pages)&&(((a3 1)!=np)||(!y)))=false:=λy _ h2=>by
  rcases hp with h|⟨h,h1⟩
  ·rw[ao5 (by omega)];rfl
  ·rcases h2 with e|e
   ·omega
   ·rw[h1,e];simp
 have hbl:=tT hE.gd.UU;refine⟨(w.fz (aY x.c.R)).take (ny (E.aU.map jM)).length++(List.replicate (ny (E.aU.map jM)).length 0).drop (w.fz (aY x.c.R)).length,?_,?_⟩
 ·rw[List.length_append,List.length_take,List.length_drop,List.length_replicate, ← hbl];omega
 rw[aJ,cK hm,hc _ (by cases(((decide (0<pages))==true)&&(((a3 1)!=np)==false))<;>simp) (by
  rcases hp with h|⟨h,h1⟩
  ·exact .inl h
  ·refine .inr ?_
   rw[aoY h,h1];simp),ae rfl,aJ,ax GK,aJ,aL (x:=at_+x.c.A) (by omega) (by omega)]
 have hb:=Aj (n:=n) (by omega) (x:=⟨E.aU,at_+x.c.A⟩) hE;dsimp only at hb ⊢;rw[ah hb,ax (aoY (Int.natCast_nonneg _)),aoZ,ax (eM (by omega) (by omega)),aJ,ax GK,aJ,ax GK,aJ,aJ,List.length_replicate];rfl
theorem UK(H:Hc n c x w fr)(a3:Nat->Int)(np pages:Int)(E:bP)(hrr:E.aU.length<=80)(hr:∀y∈E.aU.map jM,A0 y.At/\A0 y.N)(hp:0<pages/\¬(a3 1=np/\CL (E.aU.map jM)))(K:bP->Option (aj×aH×Int)):
  (lt ({E with jW:=0}:bP) λPO=>
 cl (((decide (0<pages))==true)&&(((a3 1)!=np)==false)) (dP n PO) default λGO=>
 cn ((decide (0<pages)&&(((a3 1)!=np)||(!GO)))) (
 lt ({E:=2,V:=0,W:=0}:aH) λA1=>
 some (w,A1,pages)) (K PO))=some (w,⟨2,0,0⟩,pages):=by
 have hn:=H.nn;obtain⟨b,b1,b2⟩:=wz (n:=n) (by omega) (x:={E with jW:=0}) hrr hr;rw[aJ,cK b1,aoY hp.1];have:((true)&&(((a3 1)!=np)||(!(bif (((true)==true)&&(((a3 1)!=np)==false))then b else default))))=true:=by
  by_cases e:a3 1=np
  ·rw[e]
   have hb:b=false:=by
    rw[← Bool.not_eq_true]
    exactλh=>hp.2 ⟨e,(b2.1 h).1⟩
   rw[hb];simp
  ·have e2:(a3 1!=np)=true:=by simpa using e
   rw[e2];rfl
 rw[this,ak rfl];rfl
theorem ZR{A B:Int}(h:vq A B=true):1<=yE A/\A<=32*yE A/\yE A<=4:=by have:=(qF.1 h).1;unfold yE;omega
theorem aj6(A B e:Int):(bif ((if vq A B=true then yE A else 0)==0)then(2:Int)else e)=if vq A B=true then e else 2:=by
 by_cases h:vq A B=true
 ·have:=ZR h
  rw[aoU h,aoU h,ju (by omega)];rfl
 ·rw[aoV h,aoV h];rfl
theorem VW(H:Hc n c x w fr)(aaD:x.pJ=0)(hrun:A0 x.run.At/\A0 x.run.N)(hpg:∀p,x.run.At<=p->p<x.run.At+x.run.N->(¬dL fr p/\¬dL x.gO p)/\∀y,aQ w.aC.T.B y->¬IS w.aC.T y p){a3:Nat->Int}(ha3:jM a3=x.run):
  (x.Gf=false->pX (c+60) x.c fr w (fI n x) (bd (iP n w x.aE (ri x.c) a3) λy=>some (y.1,y.2.1)))/\
  (x.Gf=true->x.run.N=0->∃w' v pages,iP n w x.aE (ri x.c) a3=some (w',v,pages)/\((∃e,e≠0/\fI n x=some (.error e)/\pages=0)\/∃x':Int×aq,fI n x=some (.ok (⟨0,x'.1,0⟩,x'.2))/\x'.2.pJ=pages)):=by
 have hn:=H.nn;have nc:=H.cc.cr;have hca:=H.cc.ca;have hcb:=H.cc.cb;have j:=H.j;have ha1:a3 1=x.run.N:=congrArg aB.N ha3;unfold fI iP;rw[(ajH H).1,(ajH H).2,ah (Z0 (n:=n) (by omega) _ _),ah (Qr (n:=n) (by omega) _ _)];rw[show(ri x.c).R=x.c.R from rfl,show(ri x.c).A=x.c.A from rfl,show(ri x.c).B=x.c.B from rfl,ah (Hx H nc.1 1),akk];rw[show(if vq x.c.A x.c.B=true then(x.c.A+31)/32 else 0)=if vq x.c.A x.c.B=true then yE x.c.A else 0 from rfl,aj6,ZQ,PT];by_cases ho:vq x.c.A x.c.B=true;rotate_left
 ·rw[aoV ho,aoV (by simp),aoV ho,ak (b:=((2:Int)!=0)) rfl]
  exact⟨λ_ => .er (e:=2) (by decide) rfl rfl,λ_ _ =>⟨w,_,0,rfl, .inl ⟨2,by decide,rfl,rfl⟩⟩⟩
 obtain⟨hs1,Q5⟩:=WR ho;obtain⟨np0,np1,np2⟩:=ZR ho;rw[aoU ho,aoU ho,aoU ho,aoU (by simp),Hz H nc,hs1,Q5];by_cases he:Dw x w x.c.R 1=0;rotate_left
 ·rw[aoV he,ak (rj he)]
  exact⟨λ_ => .er he rfl rfl,λ_ _ =>⟨w,_,0,rfl, .inl ⟨_,he,rfl,rfl⟩⟩⟩
 have hg:=oG nc.1 he;have h4:=Ls j.rt j.i6 hg;have hR:=FF j.rt hg;have hq:=(j.i6 _ hg).1;have hsu:=h4.gx.sum;have hpos:=h4.gx.pos;have hln:=h4.gx.len;have hlo:=h4.lo;have hhi:=h4.hi;dsimp only at hsu hpos hln;have hnp:yE x.c.A=(x.c.A+31)/32:=rfl;have hex:=af2 H hg;have hqv:(p8 x.av.aC.T w.aC.T x.c.R).cE=(w.aC.T.R (aY x.c.R)).cE:=hR.q;rw[aoU he,he,ae (b:=((0:Int)!=0)) rfl,agv H hg,ah (ahU H hg),aJ (α:=aR->aq->Option (Except Int (aA×aq))),hex];rw[ah (Vt (n:=n) (by omega) (e:=sK w x.c.R) h4 x.c.A x.c.B)];dsimp only;rw[ah (SM (n:=n) (by omega) (x:=(w.aC.T.R (aY x.c.R)).E) (e:=sK w x.c.R) h4 rfl rfl x.c.A x.c.B),aJ (α:=Int->Int->bP->Option (aj×aH×Int))];unfold Vu;by_cases hf:vW (sK w x.c.R) x.c.A x.c.B=true
 ·have hu:=CO (x:=(sK w x.c.R).jW) (qF.1 ho).2
  have hf2:=hf;unfold vW at hf2;rw[aoX,decide_eq_true_eq]at hf2;dsimp only[sK]at hlo hhi hu hf2;obtain⟨t',p1,p2,p3,p4⟩:=afJ H (y:=x) rfl rfl hg (l:=(w.aC.T.R (aY x.c.R)).E.aU) (k:=(w.aC.T.R (aY x.c.R)).E.jW) h4 hf ho hR.r;obtain⟨b,b1,b2⟩:=Zg H hg a3 (yE x.c.A) (G8 (w.aC.T.R (aY x.c.R)).E.jW x.c.B) 0 (w.aC.T.R (aY x.c.R)).E h4.gx hR.n hR.r ⟨by omega,hf2.2⟩ (.inl rfl);rw[aoU hf,aoU hf,ae (b:= !true) rfl,ae (b:=decide _) (ao5 (by show¬G8 (w.aC.T.R (aY x.c.R)).E.jW x.c.B<0;omega))];have hv:p8 x.av.aC.T w.aC.T x.c.R={p8 x.av.aC.T w.aC.T x.c.R with E:=⟨(w.aC.T.R (aY x.c.R)).E.aU.map jM,(w.aC.T.R (aY x.c.R)).E.jW⟩}:=by rw[show(⟨(w.aC.T.R (aY x.c.R)).E.aU.map jM,(w.aC.T.R (aY x.c.R)).E.jW⟩:aT)=sK w x.c.R from rfl, ← hex]
  rw[hv];have hj:=j.ext hg p2 p3 p4 (b:=b) (by omega) (by omega) (λp hp=> .inl hp);refine⟨λ_ => .ok p1 ((ah b2).trans rfl) rfl rfl rfl (by dsimp only;decide) (λ_ =>rfl) (hj.fE (by omega)),λ_ _ =>⟨_,_,0,b2, .inr ⟨(_,_),p1,aaD⟩⟩⟩
 ·have hrq:∀y∈(w.aC.T.R (aY x.c.R)).E.aU.map jM,A0 y.At/\A0 y.N:=hR.r
  have hb5:=Aj (n:=n) (by omega) (x:=(w.aC.T.R (aY x.c.R)).E) h4.gx;have hbl:=tT h4.gx.gd.UU;dsimp only at hbl;have hmap:((w.aC.T.R (aY x.c.R)).E.aU++[a3]).map jM=(w.aC.T.R (aY x.c.R)).E.aU.map jM++[x.run]:=by rw[List.map_append,List.map_cons,List.map_nil,ha3]
  have R4:∀y∈((w.aC.T.R (aY x.c.R)).E.aU++[a3]).map jM,A0 y.At/\A0 y.N:=λy hy=>by
   rw[hmap]at hy;rcases List.mem_append.1 hy with h|h
   ·exact hrq y h
   ·rw[List.mem_singleton.1 h];exact hrun
  have P0:((w.aC.T.R (aY x.c.R)).E.aU++[a3]).length<=80:=by rw[List.length_append];rw[List.length_map]at hln;simp;omega
  have aoG:dV (sK w x.c.R).aU<=64:=hsu;have aot:0<=dV (sK w x.c.R).aU:=hpos;have ht:Int.tdiv ((ny ((w.aC.T.R (aY x.c.R)).E.aU.map jM)).length:Int) 32=dV ((w.aC.T.R (aY x.c.R)).E.aU.map jM):=by rw[hbl,Qg (by omega)];omega
  rw[aoV hf,aoV hf,ak (b:= !false) rfl,ak (b:=decide ((-1:Int)<0)) rfl,ah (SV (n:=n) (by omega) (e:=sK w x.c.R) h4),PT,ah hb5,ax (gR x.c.R),ht];rw[show(w.aC.T.R (mz x.c.R).toNat).cE=(w.aC.T.R (aY x.c.R)).cE from rfl,aL (x:=dV ((w.aC.T.R (aY x.c.R)).E.aU.map jM)) (by omega) (by omega),aL (x:=dV (sK w x.c.R).aU+(x.c.A+31)/32) (by omega) (by omega),aL (x:=dV ((w.aC.T.R (aY x.c.R)).E.aU.map jM)+yE x.c.A) (by omega) (by omega)];by_cases hQ:dV ((w.aC.T.R (aY x.c.R)).E.aU.map jM)+yE x.c.A<=(w.aC.T.R (aY x.c.R)).cE;rotate_left
  ·rw[aoV (by rw[decide_eq_true_eq,hqv];exact hQ),ak (aoY (by omega))]
   exact⟨λ_ => .er (e:=6) (by decide) rfl rfl,λ_ _ =>⟨w,_,0,rfl, .inl ⟨6,by decide,rfl,rfl⟩⟩⟩
  rw[aoU (by rw[decide_eq_true_eq,hqv];exact hQ),ae (b:=decide _) (ao5 (by omega)),ah hb5];rw[List.length_append]at P0;have hl3:(w.aC.T.R (aY x.c.R)).E.aU.length+1<=80:=P0;rw[← List.length_append]at P0;rw[List.nil_append,ax (eM (by simp;omega) (by simp;omega)),aJ (α:=List (Nat->Int)),ax (eM (by omega) (by omega)),aJ (α:=List (Nat->Int)),aJ (α:=bP)];refine⟨λha=>?_,λha hz=>?_⟩
  ·rw[ae ha]
   rw[ah (ad6 (n:=n) (by omega) (e:=sK w x.c.R) h4 x.run),aJ];have e1:(⟨(sK w x.c.R).aU++[x.run],32*dV (sK w x.c.R).aU⟩:aT)=⟨((w.aC.T.R (aY x.c.R)).E.aU++[a3]).map jM,32*dV ((w.aC.T.R (aY x.c.R)).E.aU.map jM)⟩:=by rw[hmap];rfl
   rw[e1];dsimp only;obtain⟨b,b1,b2⟩:=QL (n:=n) (by omega) (e:=⟨((w.aC.T.R (aY x.c.R)).E.aU++[a3]).map jM,32*dV ((w.aC.T.R (aY x.c.R)).E.aU.map jM)⟩) (by dsimp only;rw[List.length_map];exact P0) R4;dsimp only at b2;have hN:x.run.N=(x.c.A+31)/32↔a3 1=yE x.c.A:=by rw[ha1];rfl
   rw[cK b1,PT];by_cases hok:a3 1=yE x.c.A/\CL (((w.aC.T.R (aY x.c.R)).E.aU++[a3]).map jM)
   ·have hsn:dV (((w.aC.T.R (aY x.c.R)).E.aU++[a3]).map jM)=dV ((w.aC.T.R (aY x.c.R)).E.aU.map jM)+yE x.c.A:=by
     rw[hmap,w9, ← hok.1,ha1];simp[dV]
    have hgx:=Vj hok.2;have GK:=hgx.sum;have hbt:b=true:=b2.2 ⟨hok.2,GK,by omega,by omega⟩;have h4':GD ⟨((w.aC.T.R (aY x.c.R)).E.aU++[a3]).map jM,32*dV ((w.aC.T.R (aY x.c.R)).E.aU.map jM)⟩:=⟨hgx,by dsimp only;omega,by dsimp only;omega⟩;have hal:=(qF.1 ho).2;have PY:G8 (32*dV ((w.aC.T.R (aY x.c.R)).E.aU.map jM)) x.c.B=32*dV ((w.aC.T.R (aY x.c.R)).E.aU.map jM):=by obtain⟨u1,u2,u3,u4⟩:=CO (x:=32*dV ((w.aC.T.R (aY x.c.R)).E.aU.map jM)) hal;refine(u4 _ (Int.le_refl _) u1 ?_).symm;rcases hal with h|h|h|h<;>rw[h]<;>omega
    have hf':vW ⟨((w.aC.T.R (aY x.c.R)).E.aU++[a3]).map jM,32*dV ((w.aC.T.R (aY x.c.R)).E.aU.map jM)⟩ x.c.A x.c.B=true:=by unfold vW;rw[ho,PY,hsn,Bool.true_and,decide_eq_true_eq];omega
    obtain⟨t',p1,p2,p3,p4⟩:=afJ H (y:={x with pJ:=(x.c.A+31)/32}) rfl rfl hg (l:=(w.aC.T.R (aY x.c.R)).E.aU++[a3]) (k:=32*dV ((w.aC.T.R (aY x.c.R)).E.aU.map jM)) h4' hf' ho R4;obtain⟨bb,c1,c2⟩:=Zg H hg a3 (yE x.c.A) (32*dV ((w.aC.T.R (aY x.c.R)).E.aU.map jM)) (yE x.c.A) ⟨(w.aC.T.R (aY x.c.R)).E.aU++[a3],(w.aC.T.R (aY x.c.R)).E.jW⟩ hgx P0 R4 ⟨by omega,by dsimp only;omega⟩ (.inr ⟨by omega,hok.1⟩);rw[PY]at p1 p2 p3 p4;have hb3:(x.run.N==(x.c.A+31)/32)=true:=by simpa using hN.2 hok.1
    rw[aoU (by rw[hb3,hbt];rfl)];dsimp only at c1;have hj:=j.ext hg p2 p3 p4 (b:=bb) (by omega) (by omega) (λp hp=>by
     rw[hmap]at hp;rcases CS.1 hp with h|h
     ·exact .inl h
     ·exact .inr (hpg p h.1 h.2))
    rw[hbl];exact .ok p1 ((ah c2).trans rfl) rfl rfl rfl (by dsimp only;decide) (λ_ =>rfl) (hj.fE (by omega))
   ·have r2:=UK H a3 (yE x.c.A) (yE x.c.A) ⟨(w.aC.T.R (aY x.c.R)).E.aU++[a3],(w.aC.T.R (aY x.c.R)).E.jW⟩ P0 R4 ⟨by omega,hok⟩
    have hz:((x.run.N==(x.c.A+31)/32)&&(bif ((x.run.N==(x.c.A+31)/32)==true)then b else default))=false:=by
     by_cases hx:a3 1=yE x.c.A
     ·have hb:b=false:=by
       rw[← Bool.not_eq_true]
       exactλh=>hok ⟨hx,(b2.1 h).1⟩
      rw[hb];cases(x.run.N==(x.c.A+31)/32)<;>rfl
     ·rw[ju λh=>hx (hN.1 h)];rfl
    rw[hz,aoV (by simp)];exact .er (e:=2) (by decide) rfl ((ah (r2 _)).trans rfl)
  ·rw[ak ha]
   refine⟨w,_,yE x.c.A,UK H a3 (yE x.c.A) (yE x.c.A) ⟨(w.aC.T.R (aY x.c.R)).E.aU++[a3],(w.aC.T.R (aY x.c.R)).E.jW⟩ P0 R4 ⟨by omega,λh=>?_⟩ _, .inr ⟨(_,_),rfl,rfl⟩⟩;have:=h.1;omega
end
end Go.Proofs.Z
namespace Go.Proofs.Z
open Go Go.Bw
section
variable {n c:Nat} {x:aq} {w:aj} {fr:List Rn}
theorem OY(H:Hc n c x w fr){a:Int}(h0:0<=a){γ:Type}(k:Unit->Option (Except Int γ)):tr (iy n x a) (λex=>(.error ex)) k=if(decide (a<8)&&x.av.di a.toNat)=true then k ()else some (.error 2):=by
 unfold iy;rw[ax (by
  by_cases h:a<8
  ·rw[bK h0 h,Bool.or_true]
  ·rw[ao5 h];rfl),PT]
 split<;>rfl
theorem OX(H:Hc n c x w fr){a:Int}(h0:0<=a):dN n w a=some (decide (a<8)&&x.av.di a.toNat):=by
 have a7:=T5 a;unfold dN;rw[bK a7.1 (by omega),Bool.or_true,ax rfl,aoY h0,Bool.true_and];by_cases h:a<8
 ·rw[aoY h,Bool.true_and,Bool.true_and,LL ⟨h0,h⟩,H.j.al _ (by omega)]
 ·rw[ao5 h];rfl
def JB(x:aq)(w:aj)(h:Int):Int:=if aM w.aC.T.B h=true then(if dc w.aC.T h=h/\(lK w.aC.T x.av.aC.O h).dx=3 then(if AR (lK w.aC.T x.av.aC.O h).dR x.aE.toNat=true then 0 else 5)else 12)else 4
theorem Tq(H:Hc n c x w fr){h:Int}(hr:0<=h/\h<4294967296){γ:Type}(k:Unit->Option (Except Int γ)):tr (iz n x h) (λex=>(.error ex)) k=if JB x w h=0 then k ()else some (.error (JB x w h)):=by
 have hn:=H.nn;have j:=H.j;have ht:=H.tk;have e:iz n x h=if JB x w h=0 then some (.ok ())else some (.error (JB x w h)):=by
  unfold iz JB;rw[ah (nZ j.rt.bj hr.1 hr.2),PT];cases hg:aM w.aC.T.B h with
  |false=>rfl
  |true=>
   have hG:=(sC j.op.q h).hr;rw[aoU rfl,ah (Hp (by omega) j.rt j.tt hr.1 hr.2),ah (Ew (by omega) j.rt j.tt hr.1 hr.2),PT,ax (aoY ht.1),PT,ajW hG ht];by_cases h1:dc w.aC.T h=h/\(lK w.aC.T x.av.aC.O h).dx=3
   ·rw[aoU rfl,aoU h1,aoU (by simpa using h1)]
    split<;>rfl
   ·rw[aoU rfl,aoV h1,aoV (by simpa using h1)];rfl
 rw[e];split<;>rfl
theorem Tp(H:Hc n c x w fr){h:Int}(hr:0<=h):mS n w x.aE h=some (JB x w h):=by
 have hn:=H.nn;have j:=H.j;have ht:=H.tk;have hl:=j.rl;unfold mS JB;rw[ah (Hi (n:=n) (by omega) j.rt j.tt j.op.l (by omega) hr),ah (cj (by omega) j.rt hr)];cases hg:aM w.aC.T.B h with
 |false=>rfl
 |true=>
  have hR:=zI j.rt j.tt j.op hr;rw[ae (b:= !true) rfl,ah (BT (n:=n) (by omega) j.rt j.tt hr),ax (bK ht.1 ht.2), ← hR.k,hR.h _ (by omega),aoU rfl];by_cases h1:dc w.aC.T h=h/\(lK w.aC.T x.av.aC.O h).dx=3
  ·rw[aoU h1,ae (by rw[h1.1,h1.2];simp)]
   cases AR (lK w.aC.T x.av.aC.O h).dR x.aE.toNat<;>rfl
  ·rw[aoV h1,ak (by rw[Bool.or_eq_true,bne_iff_ne,bne_iff_ne];exact(Classical.em (dc w.aC.T h=h)).elim (λq=> .inr λk=>h1 ⟨q,k⟩) .inl)]
theorem ahK(H:Hc n c x w fr){h:Int}(h0:0<=h)(e:JB x w h=0):aQ w.aC.T.B h/\dM w.aC.T h=0/\(lK w.aC.T x.av.aC.O h).dx=3/\AR (lK w.aC.T x.av.aC.O h).dR x.aE.toNat=true:=by
 unfold JB at e;split at e
 ·rename_i hg
  split at e
  ·rename_i h1
   split at e
   ·rename_i h2
    exact⟨⟨h0,hg⟩,(Ey H.j.rt H.j.tt ⟨h0,hg⟩).1 h1.1,h1.2,h2⟩
   ·exact absurd e (by decide)
  ·exact absurd e (by decide)
 ·exact absurd e (by decide)
end
section
variable {n:Nat} {t:au} {w:ai} {o:bM} {v:aS}
theorem Ts(hn:200<=n)(r:gI t w)(tt:jV w)(p:DK w o v)(hr:v.cR.length+100<=n/\v.cR.length<=100000){h aE:Int}(h0:0<=h)(h1:h<4294967296)(hold:Bool):
  ∃o' m v' e,jR n o t h aE hold=some (o',m,e)/\jf n v w h aE hold=some (v',tS (AR m) 8,e)/\(0<=m/\m<=255)/\DK w o' v'/\v'.cR.length<=v.cR.length+1/\
   (∀g,aQ w.B g->dM w g=0->g≠h->lK w o' g=lK w o g)/\e=mB (pD w h) (D1 w v h) aE hold/\(e≠0->o'=o/\v'=v):=by
 obtain⟨o',m,v',e,q1,q2,q3,q4,q5⟩:=alf (n:=n) hn r tt p hr (aE:=aE) h0 h1 hold;have k1:=QA (n:=n) hn r tt p (aE:=aE) h0 h1 hold;have k2:=Qs (n:=n) hn r tt p.l hr (aE:=aE) h0 hold;refine⟨o',m,v',e,q1,q2,q3,q4,q5,?_⟩;rw[k1]at q1;rw[k2]at q2;have q1:=Option.some.inj q1;have q2:=Option.some.inj q2;by_cases hz:mB (pD w h) (D1 w v h) aE hold=0
 ·rw[aoU hz]at q1 q2
  obtain⟨rfl,q⟩:=Prod.mk.inj q1;obtain⟨_,rfl⟩:=Prod.mk.inj q;have hh:=(Ot h0 (O6 hz).1).1;refine⟨λg g1 g2 g3=>?_,hz.symm,λh=>absurd rfl h⟩;rw[qc r tt hh g1 g2 g3,qc r tt hh g1 g2 g3]
 ·rw[aoV hz]at q1 q2
  obtain⟨rfl,q⟩:=Prod.mk.inj q1;obtain⟨_,rfl⟩:=Prod.mk.inj q;exact⟨λ_ _ _ _ =>rfl,rfl,λ_ =>⟨rfl,(Prod.mk.inj q2).1.symm⟩⟩
theorem afi(hn:200<=n){h aE:Int}{o':bM}{m e:Int}(q:jR n o t h aE true=some (o',m,e)):qD n o t h aE=some (o',e):=by unfold qD;rw[ah q]
theorem ake(hn:200<=n){h aE:Int}{o':bM}{m e:Int}(q:jR n o t h aE false=some (o',m,e))(hm:0<=m/\m<=255):uf n o t h aE=some (o',tS (AR m) 8,e):=by unfold uf;rw[ah q,ah (agF hm.1 hm.2),adl hm]
end
section
variable {n c:Nat} {x:aq} {w:aj} {fr:List Rn}
theorem acU(H:Hc n c x w fr)(hd:x.c.Do=10):pX (c+60) x.c fr w (jD n x) (gC n w x.aE (ri x.c)):=by
 have nc:=H.cc.cr;have hca:=H.cc.ca;have hn:=H.nn;have j:=H.j;have hl:=j.rl;unfold jD gC;simp only[ri,hd,Int.reduceBEq,Bool.true_and,alN (OX H hca.1),cnF];rw[OY H hca.1];by_cases ha:(decide (x.c.A<8)&&x.av.di x.c.A.toNat)=true
 ·rw[aoU ha,ha,ae (b:= !true) rfl,Tq H nc,ah (Tp H nc.1)]
  by_cases hh:JB x w x.c.R=0
  ·obtain⟨g1,g2,g3,g4⟩:=ahK H nc.1 hh
   obtain⟨o',m,v',e,q1,q2,q3,q4,q5,q6,q7,q8⟩:=Ts (n:=n) (by omega) j.rt j.tt j.op (by omega) (aE:=x.c.A) nc.1 nc.2 true;rw[aoU hh,hh,ae (b:=((0:Int)!=0)) rfl,aL (x:=x.c.A) (by omega) (by omega),ah (afi (by omega) q1),ah q2];dsimp only;rw[rG];by_cases he:e=0
   ·rw[aoU he,ae (b:=(e !=0)) (by rw[he];rfl)]
    refine .ok rfl rfl rfl rfl rfl (by decide) (λ_ =>rfl) (j.own q4 (by omega) λa b m hm=>?_);obtain⟨f1,f2,f3⟩:=j.fl.k a b m hm;rw[q6 _ f1 f2 λq=>by rw[q,g3]at f3;exact absurd f3 (by decide)];exact f3
   ·rw[aoV he,ak (rj he)]
    exact .er he rfl rfl
  ·rw[aoV hh,ak (rj hh)]
   exact .er hh rfl rfl
 ·have ha:(decide (x.c.A<8)&&x.av.di x.c.A.toNat)=false:=by simpa using ha
  rw[aoV (by rw[ha];decide),ha];exact .er (e:=2) (by decide) rfl rfl
structure aor(x x':aq)(w w':aj)(h:Int):Prop where
 b:x'.av.fO=x.av.fO
 a:x'.av.di=x.av.di
 t:x'.aE=x.aE
 rb:w'.tB=w.tB
 ra:w'.di=w.di
 s:∀g,aQ w.aC.T.B g->dM w.aC.T g=0->g≠h->aQ w'.aC.T.B g/\dM w'.aC.T g=0/\lK w'.aC.T x'.av.aC.O g=lK w.aC.T x.av.aC.O g
theorem VE(hn:c+300<=n/\3000<=n/\c<=60000)(j:sV c x.av w x.gO fr){h aE:Int}(hg:aQ w.aC.T.B h)(hu:dM w.aC.T h=0)(hk:(lK w.aC.T x.av.aC.O h).dx=3)(ht:0<=aE/\aE<8)(hh:AR (lK w.aC.T x.av.aC.O h).dR aE.toNat=true):
  ∃x' w',jG n x h aE=some (.ok x')/\kD n w h aE=some w'/\sV (c+1) x'.av w' x'.gO fr/\aor x x' w w' h:=by
 have hl:=j.rl;have hlt:=gh hg.2;obtain⟨o',m,v',e,q1,q2,q3,q4,q5,q6,q7,q8⟩:=Ts (n:=n) (by omega) j.rt j.tt j.op (by omega) (aE:=aE) hg.1 hlt false;have he:e=0:=by have hR:=zI j.rt j.tt j.op hg.1;rw[q7];unfold mB pD;rw[hg.2,(Ey j.rt j.tt hg).2 hu, ← hR.k,hk,hR.h _ (by omega),hh];simp;omega
 subst he;have j1:=j.own (c':=c+1) q4 (by omega) λa b m hm=>by obtain⟨f1,f2,f3⟩:=j.fl.k a b m hm;rw[q6 _ f1 f2 λq=>by rw[q,hk]at f3;exact absurd f3 (by decide)];exact f3
 unfold jG kD;rw[ah (ake (by omega) q1 q3),ah q2,rG,aoU rfl,aJ];dsimp only;by_cases hz:tS (AR m) 8=0
 ·obtain⟨k',t',g1,g2,g3⟩:=Pa (n:=n) (by omega) j1 hg.1 hlt (λa b m hm hu2=>by
   obtain⟨f1,f2,f3⟩:=j.fl.k a b m hm;have:=yV j.rt j.tt f2 hu2 hg.1;rw[this,hk]at f3;exact absurd f3 (by decide)) {x with av:={x.av with aC:={x.av.aC with O:=o'}}} rfl rfl
  rw[ak (b:=(tS (AR m) 8==0)) (by rw[hz];rfl),ak (b:=(tS (AR m) 8==0)) (by rw[hz];rfl),ah g1,ah g2];refine⟨_,_,rfl,rfl,g3,rfl,rfl,rfl,rfl,rfl,λg a b d=>?_⟩;obtain⟨s1,s2,s3⟩:=Ok j.rt j.tt j.i6 (h:=h) a b λhm=>d (yV j.rt j.tt b hm hg.1);exact⟨s1,s2,(s3 _).trans (q6 g a b d)⟩
 ·rw[ae (b:=(tS (AR m) 8==0)) (ju hz),ae (b:=(tS (AR m) 8==0)) (ju hz)]
  exact⟨_,_,rfl,rfl,j1,rfl,rfl,rfl,rfl,rfl,λg a b d=>⟨a,b,q6 g a b d⟩⟩
theorem ah8(H:Hc n c x w fr)(hd:x.c.Do=11):pX (c+60) x.c fr w (kK n x) (gC n w x.aE (ri x.c)):=by
 have nc:=H.cc.cr;unfold kK gC;simp only[ri,hd,Int.reduceBEq,Bool.false_and,NF,cnF];rw[Tq H nc,ah (Tp H nc.1)];by_cases hh:JB x w x.c.R=0
 ·obtain⟨g1,g2,g3,g4⟩:=ahK H nc.1 hh
  obtain⟨x',w',d1,d2,d3,_⟩:=VE (n:=n) (by have:=H.nn;omega) H.j g1 g2 g3 H.tk g4;rw[aoU hh,hh,ae (b:=((0:Int)!=0)) rfl,d1,ak rfl,ah d2];exact .ok rfl rfl rfl rfl rfl (by decide) (λ_ =>rfl) (d3.fE (by omega))
 ·rw[aoV hh,ak (rj hh)]
  exact .er hh rfl rfl
end
end Go.Proofs.Z
namespace Go.Proofs.Z
open Go Go.Bw
section
variable {n c:Nat} {x:aq} {w:aj} {fr:List Rn}
theorem Tz(H:Hc n c x w fr)(hd:x.c.Do=13):pX (c+60) x.c fr w (g9 n x) (gV n w x.aE (ri x.c)):=by
 have hcs:=H.cc.cs;have hn:=H.nn;have j:=H.j;have hto:=(Qf j.rk x.c.S).to;unfold g9 gV;simp only[ri,hd,Int.reduceBEq,cnT,aJ];rw[ah (ahN (n:=n) j.rk hcs.1 hcs.2),ah (Oz (n:=n) (by omega) j.rk hcs.1)];dsimp only;rw[rG];by_cases hg:aM w.aC.K.B x.c.S=true
 ·rw[hg,aoU (by rfl),ae (b:=((bif true then(0:Int)else 4)!=0)) rfl,PT,aL (by omega) (by omega)]
  show pX _ _ _ _ _ (cn ((A4 x.av.aC.K w.aC.K x.c.S).To !=x.aE) _ _);by_cases ht:(A4 x.av.aC.K w.aC.K x.c.S).To=x.aE
  ·obtain⟨k',z',l,e,r1,r2,r3⟩:=Za (n:=n) (by omega) j.rk j.tk hcs.1 hcs.2
   obtain⟨p1,p2⟩:=r3.next j.rk j.tk
   rw[aoU (by simpa using ht),ae (by simpa using ht),ah r1,ah r2];exact .ok rfl rfl rfl rfl rfl (by decide) (λ_ =>rfl) ((j.RY p1 p2).fE (by omega))
  ·rw[aoV (by simpa using ht),ak (by simpa using ht)]
   exact .er (e:=5) (by decide) rfl rfl
 ·have hg:aM w.aC.K.B x.c.S=false:=by simpa using hg
  rw[hg];exact .er (e:=4) (by decide) rfl rfl
theorem ag2(H:Hc n c x w fr)(hd:x.c.Do=12):pX (c+60) x.c fr w (kH n x) (gV n w x.aE (ri x.c)):=by
 have nc:=H.cc.cr;have hcs:=H.cc.cs;have hca:=H.cc.ca;have hn:=H.nn;have IW:=H.tk;have j:=H.j;have hl:=j.rl;have hto:=(Qf j.rk x.c.S).to;have hR:=zI j.rt j.tt j.op nc.1;have htr:=(sC j.op.q x.c.R).tr;unfold kH gV;simp only[ri,hd,Int.reduceBEq,cnF,aJ];rw[OY H hca.1,ah (Oz (n:=n) (by omega) j.rk hcs.1),ah (OX H hca.1)];by_cases ha:(decide (x.c.A<8)&&x.av.di x.c.A.toNat)=true;rotate_left
 ·have ha:(decide (x.c.A<8)&&x.av.di x.c.A.toNat)=false:=by simpa using ha
  rw[aoV (by rw[ha];decide),ha];exact .er (e:=2) (by decide) rfl rfl
 have hA8:x.c.A<8:=by rw[aoX,decide_eq_true_eq]at ha;exact ha.1
 rw[aoU ha,ha,PT];by_cases hb:x.c.B<=1;rotate_left
 ·rw[aoV (by simpa using hb),ak (b:=(!true||decide (1<x.c.B))) (by rw[aoY (by omega)];rfl)]
  exact .er (e:=2) (by decide) rfl rfl
 rw[aoU (by simpa using hb),ae (b:=(!true||decide (1<x.c.B))) (by rw[ao5 (by omega)];rfl),ah (nZ j.rt.bj nc.1 nc.2),ah (cj (n:=n) (by omega) j.rt nc.1),PT];have hX:RK {Region:=x.c.R,By:=wr .u8 x.aE,To:=wr .u8 x.c.A,bF:=x.c.B==1,bh:=x.c.S}:=by
  refine⟨nc,?_,?_,hcs⟩
  ·dsimp only;rw[Wd IW.1 (by omega)];omega
  ·dsimp only;rw[Wd hca.1 (by omega)];omega
 have hof:D2 {Region:=x.c.R,By:=wr .u8 x.aE,To:=wr .u8 x.c.A,bF:=x.c.B==1,bh:=x.c.S}=⟨x.c.R,x.aE,x.c.A,x.c.B==1,x.c.S⟩:=by unfold D2;dsimp only;rw[Wd IW.1 (by omega),Wd hca.1 (by omega)]
 obtain⟨k',z',m,e,l1,l2,l3⟩:=adO (n:=n) (by omega) j.rk hX;rw[hof]at l2;by_cases hg:aM w.aC.T.B x.c.R=true;rotate_left
 ·have hg:aM w.aC.T.B x.c.R=false:=by simpa using hg
  rw[hg,aoV (by decide)];exact .er (e:=4) (by decide) rfl rfl
 rw[hg,aoU rfl,ah (Hi (n:=n) (by omega) j.rt j.tt j.op.l (by omega) nc.1)];have fin:pX (c+60) x.c fr w
   (bd (kz n x.av.aC.K {Region:=x.c.R,By:=wr .u8 x.aE,To:=wr .u8 x.c.A,bF:=x.c.B==1,bh:=x.c.S}) λjN=>tr (dJ n jN.2.2) (λaa7=>(.error aa7)) λnt=>some (.ok (({E:=0,V:=0,W:=jN.2.1}:aA),{x with av:={x.av with aC:={x.av.aC with K:=jN.1}}})))
   (bd (kE n w.aC.K {Region:=x.c.R,By:=x.aE,To:=x.c.A,bF:=x.c.B==1,bh:=x.c.S}) λMr=>cn ((Mr.2.2!=0)) (bd (aP n w Mr.2.2) λx97=>some (x97.1,x97.2)) (some (({w with aC:={w.aC with K:=Mr.1}}:aj),({E:=0,V:=0,W:=Mr.2.1}:aH)))):=by
  rw[ah l1,ah l2];dsimp only;rw[rG];by_cases he:e=0
  ·rw[aoU he,ae (b:=(e !=0)) (by rw[he];rfl)]
   obtain⟨f,f1,f2,_,_,_,f3,_⟩:=l3.ahM he;have hgr:=j.rk.bj.nW f (by omega);obtain⟨_,_,_,s4,s5⟩:=pB (i:=f) (g:=w.aC.K.B.gA f) (by omega) (by omega) hgr.1 hgr.2;exact .ok rfl rfl rfl rfl rfl (by dsimp only;rw[f3];omega) (λ_ =>rfl) ((j.RY (l3.rt j.rk hX) (j.tk.ann j.rk hX l3)).fE (by omega))
  ·rw[aoV he,ak (rj he)]
   exact .er he rfl rfl
 dsimp only;by_cases hs:x.c.S=0
 ·rw[ak (b:=(x.c.S==0)) (by rw[hs];rfl),ah (Hp (n:=n) (by omega) j.rt j.tt nc.1 nc.2),PT,aL (x:=(lK w.aC.T x.av.aC.O x.c.R).gT) (by omega) (by omega), ← hR.k, ← hR.t,hs]
  rw[hs]at fin;rw[ae (b:=(!true||((0:Int)!=0&&(bif aM w.aC.K.B 0 then(0:Int)else 4)!=0))) (by rfl)];by_cases hk:(lK w.aC.T x.av.aC.O x.c.R).dx=1/\(lK w.aC.T x.av.aC.O x.c.R).gT=x.aE
  ·rw[aoU (by simpa using hk),ae (by rw[hk.1,hk.2];simp)]
   exact fin
  ·rw[aoV (by simpa using hk),ak (by
    simp only[beq_self_eq_true,Bool.true_and,bne_self_eq_false,Bool.false_and,Bool.or_false,Bool.or_eq_true,bne_iff_ne];exact(Classical.em ((lK w.aC.T x.av.aC.O x.c.R).dx=1)).elim (λq=> .inr λk=>hk ⟨q,k⟩) .inl)]
   exact .er (e:=5) (by decide) rfl rfl
 ·have e0:(x.c.S==0)=false:=ju hs
  have e1:(x.c.S !=0)=true:=rj hs;rw[ae (b:=(x.c.S==0)) e0,ah (ahN (n:=n) j.rk hcs.1 hcs.2),e0,e1];dsimp only;rw[rG];by_cases hk:aM w.aC.K.B x.c.S=true;rotate_left
  ·have hk:aM w.aC.K.B x.c.S=false:=by simpa using hk
   rw[hk];exact .er (e:=4) (by decide) rfl rfl
  rw[hk,aoU (by rfl),PT,aL (x:=(A4 x.av.aC.K w.aC.K x.c.S).To) (by omega) (by omega),ae (b:=(!true||true&&(bif true then(0:Int)else 4)!=0)) (by rfl)];show pX _ _ _ _ _ (cn (false&&_ ||true&&((A4 x.av.aC.K w.aC.K x.c.S).To !=x.aE||(A4 x.av.aC.K w.aC.K x.c.S).Region !=x.c.R)) _ _);by_cases hq:(A4 x.av.aC.K w.aC.K x.c.S).To=x.aE/\(A4 x.av.aC.K w.aC.K x.c.S).Region=x.c.R
  ·rw[aoU (by simpa using hq),ae (by rw[hq.1,hq.2];simp)]
   exact fin
  ·rw[aoV (by simpa using hq),ak (by
    simp only[Bool.true_and,Bool.false_and,Bool.false_or,Bool.or_eq_true,bne_iff_ne];exact(Classical.em ((A4 x.av.aC.K w.aC.K x.c.S).To=x.aE)).elim (λq=> .inr λk=>hq ⟨q,k⟩) .inl)]
   exact .er (e:=5) (by decide) rfl rfl
theorem agw(H:Hc n c x w fr)(hd:x.c.Do=18):pX (c+60) x.c fr w (lQ n x) (gW n w x.aE (ri x.c)):=by
 have nc:=H.cc.cr;have hcs:=H.cc.cs;have hca:=H.cc.ca;have hn:=H.nn;have j:=H.j;have hl:=j.rl;have hR:=zI j.rt j.tt j.op hcs.1;have fin:Dw x w x.c.R 1=0->pX (c+60) x.c fr w
   (bd (jh n x.av.aC.O x.av.aC.T x.c.S) λjl=>bd (Cg n x.av.aC.T x.c.R (wr .i64 (if 8<x.c.A then 8 else x.c.A)) x.c.S (jl.dx==3)) λdZ=>tr (dJ n dZ.2) (λTJ=>(.error TJ)) λrL=>some (.ok (({E:=0,V:=0,W:=0}:aA),{x with av:={x.av with aC:={x.av.aC with T:=dZ.1}}})))
   (bd (iK n w.aC.O w.aC.T x.c.S) λx65=>bd (y5 n w.aC.T x.c.R x.c.A x.c.S (x65.dx==3)) λRS=>cn ((RS.2!=0)) (bd (aP n w RS.2) λX4=>some (X4.1,X4.2)) (some (({w with aC:={w.aC with T:=RS.1}}:aj),({E:=0,V:=0,W:=0}:aH)))):=λhe=>by
  have hg:=oG nc.1 he;rw[ah (Hp (n:=n) (by omega) j.rt j.tt hcs.1 hcs.2),ah (Hi (n:=n) (by omega) j.rt j.tt j.op.l (by omega) hcs.1),aL (x:=if 8<x.c.A then 8 else x.c.A) (by split<;>omega) (by split<;>omega), ← hR.k];have hE:∀f,E7 w.aC.T x.c.R (if 8<x.c.A then 8 else x.c.A) x.c.S f=E7 w.aC.T x.c.R x.c.A x.c.S f:=λf=>by
   unfold E7;have:(0<=(if 8<x.c.A then 8 else x.c.A)/\(if 8<x.c.A then 8 else x.c.A)<8)↔(0<=x.c.A/\x.c.A<8):=by split<;>omega
   simp only[this]
  obtain⟨t',p1,p2,p3,p4⟩:=ane (n:=n) (by omega) j.rt j.tt j.i6 nc.1 nc.2 hcs.1 hcs.2 (if 8<x.c.A then 8 else x.c.A) ((lK w.aC.T x.av.aC.O x.c.S).dx==3);have r1:=ac9 (n:=n) (by omega) j.rt j.tt nc.1 hcs.1 x.c.A ((lK w.aC.T x.av.aC.O x.c.S).dx==3);rw[hE]at p1 p2 p3 p4;rw[ah p1,ah r1];dsimp only;rw[rG];by_cases hz:E7 w.aC.T x.c.R x.c.A x.c.S ((lK w.aC.T x.av.aC.O x.c.S).dx==3)=0
  ·have h8:x.c.A<8:=by
    unfold E7 at hz;split at hz
    ·split at hz
     ·rename_i q;exact q.2
     ·exact absurd hz (by decide)
    ·exact absurd hz (by decide)
   rw[aoV (show¬8<x.c.A by omega)]at p2 p3 p4;rw[aoU hz]at p2 p3 p4;rw[aoU hz,aoU hz,ae (by rw[hz];rfl)];refine .ok rfl rfl rfl rfl rfl (by decide) (λ_ =>rfl) ((j.tab p2 p3 p4 (mvB rfl) (.cQ rfl λy=>?_) λy hy hu _ =>⟨hy,(Sw _ _ _).trans hu⟩).fE (by omega));unfold C7 AU;dsimp only;rw[bI];split
   ·rename_i q;rw[q]
   ·rfl
  ·rw[aoV hz,aoV hz,ak (rj hz)]
   exact .er hz rfl rfl
 unfold lQ gW;simp only[ri,hd,Int.reduceBEq,cnF,aJ];rw[Hz H nc,ah (Hx H nc.1 1)];by_cases he:Dw x w x.c.R 1=0
 ·rw[aoU he,he]
  by_cases hs:x.c.S=0
  ·rw[ae (b:=(x.c.S !=0)) (by rw[hs];rfl),ae (b:=((0:Int)==0&&x.c.S !=0)) (by rw[hs];rfl)]
   exact fin he
  ·rw[ak (b:=(x.c.S !=0)) (rj hs),ak (b:=((0:Int)==0&&x.c.S !=0)) (by rw[rj hs];rfl),Hz H hcs,ah (Hx H hcs.1 0)]
   by_cases h2:Dw x w x.c.S 0=0
   ·rw[aoU h2,h2]
    exact fin he
   ·rw[aoV h2,ak (rj h2)]
    exact .er h2 rfl rfl
 ·rw[aoV he,ae (by rw[ju he];rfl),ak (rj he)]
  exact .er he rfl rfl
theorem aeo(H:Hc n c x w fr)(hd:x.c.Do=19):pX (c+60) x.c fr w (yf jH n x) (gW n w x.aE (ri x.c)):=by
 have nc:=H.cc.cr;have hca:=H.cc.ca;have hn:=H.nn;have j:=H.j;unfold yf jH gW;simp only[ri,hd,Int.reduceBEq,cnT,aJ];rw[Hz H nc,ah (Hx H nc.1 0)];by_cases he:Dw x w x.c.R 0=0
 ·have hg:=oG nc.1 he
  have hc0:=(FF j.rt hg).c0;have hD:D7 w.aC.T x.c.R (if 8<x.c.A then 8 else x.c.A)=D7 w.aC.T x.c.R x.c.A:=by
   by_cases h:8<x.c.A
   ·rw[aoU h]
    unfold D7;rw[aoU hg.2,aoU hg.2,aoV (by omega),aoV (by omega)]
   ·rw[aoV h]
  rw[aoU he,he,ae (b:=((0:Int)!=0)) rfl,aL (x:=if 8<x.c.A then 8 else x.c.A) (by split<;>omega) (by split<;>omega),ah (aic (n:=n) j.rt nc.1 nc.2 _),ah (WD (n:=n) (by omega) j.rt nc.1 x.c.A),hD,rG];have h0:(D7 w.aC.T x.c.R x.c.A).2≠0->(D7 w.aC.T x.c.R x.c.A).1=0:=λh=>by
   unfold D7 at h ⊢;split
   ·split
    ·split
     ·rfl
     ·split
      ·rename_i h1 h2 h3 h4
       rw[aoU h1,aoU h2,aoV h3,aoU h4]at h;exact absurd rfl h
      ·rfl
    ·rfl
   ·rfl
  have h1:0<=(D7 w.aC.T x.c.R x.c.A).1/\(D7 w.aC.T x.c.R x.c.A).1<4294967296:=by
   unfold D7;split
   ·split
    ·rename_i q
     have:=hc0 x.c.A.toNat (by omega);split
     ·decide
     ·split
      ·dsimp only;omega
      ·decide
    ·decide
   ·decide
  generalize D7 w.aC.T x.c.R x.c.A=d at h0 h1;by_cases hz:d.2=0
  ·rw[aoU hz]
   exact .ok rfl rfl rfl hz rfl h1 (λ_ =>rfl) (j.fE (by omega))
  ·rw[aoV hz]
   exact .er hz rfl (by rw[h0 hz])
 ·rw[aoV he,ak (rj he)]
  exact .er he rfl rfl
theorem sV.akx{s:bB}{bk:List Rn}(j:sV c s w bk fr){a a' b b':Nat->Bool}(h:∀i,i<8->a i=a' i)(k:∀i,i<8->b i=b' i):sV c {s with di:=a,qm:=b} {w with di:=a',qm:=b'} bk fr:={j with al:=h,bo:=k}
theorem acR(H:Hc n c x w fr)(hd:x.c.Do=22):pX (c+60) x.c fr w (jC n x) (fj n w x.aE (ri x.c)):=by
 have hca:=H.cc.ca;have j:=H.j;have a7:=T5 x.c.A;unfold jC fj;simp only[ri,hd,Int.reduceBEq,cnF,aJ];rw[bK a7.1 (by omega),Bool.or_true,ax rfl,KF hca.1];rw[ax (by rw[bK (by omega) (by omega),Bool.or_true]),PT];by_cases h8:x.c.A<8
 ·have e1:x.c.A%8=x.c.A:=by omega
  rw[e1,LL ⟨hca.1,h8⟩,aoY h8,ao5 (show¬7<x.c.A by omega),Bool.true_and,Bool.false_or, ← j.bo _ (show x.c.A.toNat<8 by omega)];have hin:bQ x.c.A 8=true:=bK hca.1 (by omega);rw[ax hin,ax hin,ax hin,ax hin];cases hb:x.av.qm x.c.A.toNat with
  |true=>exact .er (e:=2) (by decide) rfl rfl
  |false=>exact .ok rfl rfl rfl rfl rfl (by decide) (λ_ =>rfl) ((j.akx (λi hi=>by rw[bI,bI,j.al i hi]) λi hi=>by rw[bI,bI,j.bo i hi]).fE (Nat.le_add_right c 60))
 ·rw[ao5 h8,aoY (show 7<x.c.A by omega)]
  exact .er (e:=2) (by decide) rfl rfl
end
end Go.Proofs.Z
namespace Go.Proofs.Z
open Go Go.Bw
theorem E0.sub{w:ai}{o:bM}{X X':Nat->cP}(h:E0 w o X)(f:Nat->Nat->Nat)(hi:∀i k k',f i k=f i k'->k=k')(hf:∀i k m,RR X' i k m->RR X i (f i k) m):E0 w o X':=
 ⟨λi k m hm=>h.k i _ m (hf i k m hm),λi k m i' k' m' a b e=>by
  obtain⟨rfl,e2⟩:=h.u _ _ _ _ _ _ (hf i k m a) (hf i' k' m' b) e;exact⟨rfl,hi _ _ _ e2⟩⟩
theorem E0.tail{w:ai}{o:bM}{X:Nat->cP}(h:E0 w o X){a:Nat}{m:bD}{v:cP}(e:(X a).L=m::v.L):E0 w o (dm X a v):=
 h.sub (λi k=>if i=a then k+1 else k) (λi k k' h=>by split at h<;>omega) λi k m' ⟨h1,h2,h3⟩=>by
  rw[bI]at h2;refine⟨h1,?_,h3⟩;by_cases q:i=a
  ·subst q
   rw[aoU rfl]at h2 ⊢;rw[e];exact h2
  ·rw[aoV q]at h2 ⊢;exact h2
theorem E0.none{w:ai}{o:bM}{X:Nat->cP}(h:E0 w o X)(a:Nat)(v:cP)(e:v.L=[]):E0 w o (dm X a v):=
 h.sub (λ_ k=>k) (λ_ _ _ q=>q) λi k m' ⟨h1,h2,h3⟩=>by
  rw[bI]at h2;by_cases q:i=a
  ·rw[aoU q,e]at h2;simp at h2
  ·rw[aoV q]at h2;exact⟨h1,h2,h3⟩
theorem E0.put{w:ai}{o:bM}{X:Nat->cP}(h:E0 w o X){a:Nat}{m:bD}{v:cP}(e:v.L=(X a).L++[m])
  (hm:m.Region≠0->m.iI=false->(aQ w.B m.Region/\dM w m.Region=0/\(lK w o m.Region).dx=2)/\∀i k m',RR X i k m'->m'.Region≠m.Region):E0 w o (dm X a v):=by
 have key:∀i k m',RR (dm X a v) i k m'->RR X i k m'\/(i=a/\k=(X a).L.length/\m'=m):=λi k m' ⟨h1,h2,h3⟩=>by
  rw[bI]at h2;by_cases q:i=a
  ·subst q
   rw[aoU rfl,e]at h2;rcases Nat.lt_or_ge k (X i).L.length with c|c
   ·rw[List.getElem?_append_left c]at h2
    exact .inl ⟨h1,h2,h3⟩
   ·rw[List.getElem?_append_right c]at h2
    obtain⟨c2,c3⟩:=List.getElem?_eq_some_iff.1 h2;have c4:k-(X i).L.length=0:=by simpa using c2
    refine .inr ⟨rfl,by omega,?_⟩;simp only[c4,List.getElem_cons_zero]at c3;exact c3.symm
  ·rw[aoV q]at h2;exact .inl ⟨h1,h2,h3⟩
 refine⟨λi k m' hf=>?_,λi k m' i' k' m'' hf hg eq=>?_⟩
 ·rcases key i k m' hf with q|⟨_,_,rfl⟩
  ·exact h.k i k m' q
  ·exact(hm hf.2.2.1 hf.2.2.2).1
 ·rcases key i k m' hf with q|⟨p1,p2,rfl⟩<;>rcases key i' k' m'' hg with q'|⟨p1',p2',rfl⟩
  ·exact h.u _ _ _ _ _ _ q q' eq
  ·exact absurd eq ((hm hg.2.2.1 hg.2.2.2).2 _ _ _ q)
  ·exact absurd eq.symm ((hm hf.2.2.1 hf.2.2.2).2 _ _ _ q')
  ·exact⟨p1.trans p1'.symm,p2.trans p2'.symm⟩
section
variable {n c:Nat} {x:aq} {w:aj} {fr:List Rn}
theorem sV.box{s:bB}{bk:List Rn}(j:sV c s w bk fr){a:Nat}{b:bX}{v:cP}(r:GH b v)(hf:E0 w.aC.T s.aC.O (dm w.tB a v)):sV c {s with fO:=dm s.fO a b} {w with tB:=dm w.tB a v} bk fr:=
 {j with
  bx:=λi hi=>by
   show GH (dm s.fO a b i) (dm w.tB a v i);rw[bI,bI];split
   ·exact r
   ·exact j.bx i hi
  fl:=hf}
theorem aeq(H:Hc n c x w fr)(hd:x.c.Do=17):pX (c+60) x.c fr w (jI n x) (fD n w x.aE (ri x.c)):=by
 have j:=H.j;have hin:bQ x.aE 8=true:=bK H.tk.1 H.tk.2;have hb:=j.bx x.aE.toNat (by have:=H.tk;omega);unfold jI fD xo;simp only[ri,hd,Int.reduceBEq,cnT,aJ,hin,guT];rw[hb.c];cases hc:(w.tB x.aE.toNat).nV with
 |true=>exact .er (e:=11) (by decide) rfl rfl
 |false=>
  have hf:E0 w.aC.T x.av.aC.O (dm w.tB x.aE.toNat {w.tB x.aE.toNat with nV:=true}):=j.fl.sub (λ_ k=>k) (λ_ _ _ q=>q) λi k m ⟨h1,h2,h3⟩=>by
   rw[bI]at h2;split at h2
   ·rename_i q;subst q;exact⟨h1,h2,h3⟩
   ·exact⟨h1,h2,h3⟩
  have r:=Z8 hb;have e:({x.av.fO x.aE.toNat with closed:=true}:bX)=⟨(x.av.fO x.aE.toNat).ring,(x.av.fO x.aE.toNat).iH,(x.av.fO x.aE.toNat).n,true⟩:=rfl;exact .ok rfl rfl rfl rfl rfl (by decide) (λ_ =>rfl) ((j.box r hf).fE (Nat.le_add_right c 60))
theorem Zi(H:Hc n c x w fr)(hd:x.c.Do=15\/x.c.Do=16):pX (c+60) x.c fr w (fZ n x) (fD n w x.aE (ri x.c)):=by
 have hn:=H.nn;have j:=H.j;have hl:=j.rl;have ht:=H.tk;have hin:bQ x.aE 8=true:=bK ht.1 ht.2;obtain⟨b',v',m,e,q1,q2,q3,q4,q5,q6⟩:=Z2 (n:=n) (j.bx x.aE.toNat (by omega));unfold fZ fD;rw[ae (b:=((ri x.c).Do==17)) (by rcases hd with h|h<;>(show(x.c.Do==17)=false)<;>rw[h]<;>rfl)];simp only[hin,guT,aJ];rw[ah q1,ah q2];dsimp only;rw[rG];by_cases he:e=0
 ·obtain⟨r1,r2⟩:=q5 he
  have hfl:=j.fl.tail r2;have j1:=j.box r1 hfl;have hr:=q3.r;rw[aoU he,ae (b:=(e !=0)) (by rw[he];rfl)];show pX _ _ _ _ _ (cn (m.Region !=0&& !m.iI) _ _);by_cases hm:(m.Region !=0&& !m.iI)=true
  ·have hm2:=hm
   rw[aoX,bne_iff_ne,Bool.not_eq_true']at hm2;have ald:RR w.tB x.aE.toNat 0 (BZ m):=⟨by omega,by rw[r2];rfl,hm2.1,hm2.2⟩;obtain⟨f1,f2,f3⟩:=j.fl.k _ _ _ ald;obtain⟨o',g1,g2,g3,g4⟩:=Pc (n:=n) (aE:=x.aE) (by omega) j1.rt j1.tt j1.op (by dsimp only;omega) f1 f2 ht;rw[ak hm,ak hm];dsimp only at g1 g2 ⊢;have g1':oI n x.av.aC.O x.av.aC.T m.Region x.aE=some (sX x.av.aC.O m.Region ⟨1,x.aE,0⟩,0):=g1;have g2':dI n w.aC.O w.aC.T (BZ m).Region x.aE 1=some (o',0):=g2;rw[ZG (x:={x with av:={x.av with fO:=dm x.av.fO x.aE.toNat b'}}) g1',ah g2'];refine .ok rfl rfl rfl rfl rfl hr (λ_ =>rfl) (j1.own g3 (by dsimp only at g4 ⊢;omega) λa k m' hm'=>?_);obtain⟨p1,p2,p3⟩:=j1.fl.k a k m' hm';have hne:m'.Region≠m.Region:=λq=>by
    have hold:RR w.tB a (if a=x.aE.toNat then k+1 else k) m':=by
     obtain⟨h1,h2,h3⟩:=hm';refine⟨h1,?_,h3⟩;have h2:(dm w.tB x.aE.toNat v' a).L[k]? =some m':=h2;rw[bI]at h2;by_cases qa:a=x.aE.toNat
     ·subst qa
      rw[aoU rfl]at h2 ⊢;rw[r2];exact h2
     ·rw[aoV qa]at h2 ⊢;exact h2
    obtain⟨u1,u2⟩:=j.fl.u _ _ _ _ _ _ hold ald q;rw[aoU u1]at u2;omega
   exact(congrArg cF.dx (qc j.rt j.tt f1 p1 p2 hne)).trans p3
  ·have hm:(m.Region !=0&& !m.iI)=false:=by simpa using hm
   rw[ae hm,ae hm];exact .ok rfl rfl rfl rfl rfl hr (λ_ =>rfl) (j1.fE (Nat.le_add_right c 60))
 ·rw[aoV he,ak (rj he)]
  exact .er he rfl rfl
theorem JR(H:Hc n c x w fr){c':Nat}{y:aq}{v:aj}(hc:y.c=x.c)(hA:x.c.A<8)(j:sV c' y.av v y.gO fr)(hc':c'<=c+60){m:aZ}(hm:XE m)(hf:m.Region≠0->m.iI=false->(aQ v.aC.T.B m.Region/\dM v.aC.T m.Region=0/\(lK v.aC.T y.av.aC.O m.Region).dx=2)/\∀i k m',RR v.tB i k m'->m'.Region≠m.Region):pX (c+60) x.c fr w
  (gu (bQ y.c.A 8)<|bd (sD n (y.av.fO (Int.toNat y.c.A)) m) λEc=>tr (dJ n Ec.2) (λahY=>(.error ahY)) λx61=>gu (bQ y.c.A 8)<|lt ({E:=0,V:=0,W:=0}:aA) λRS=>some (.ok (RS,{y with av:={y.av with fO:=(dm y.av.fO (Int.toNat y.c.A) Ec.1)}})))
  (gu (bQ x.c.A 8)<|lt (BZ m:bD) λN4=>bd (qC n (v.tB (Int.toNat x.c.A)) N4) λN3=>cn ((N3.2!=0)) (bd (aP n w N3.2) λKj=>some (Kj.1,Kj.2)) (gu (bQ x.c.A 8)<|lt ({v with tB:=(dm v.tB (Int.toNat x.c.A) N3.1)}:aj) λYf=>lt ({E:=0,V:=0,W:=0}:aH) λSd=>some (Yf,Sd))):=by
 have hca:=H.cc.ca;have hin:bQ x.c.A 8=true:=bK hca.1 hA;obtain⟨b',v',e,q1,q2,q3,q4,q5⟩:=adC (n:=n) (j.bx x.c.A.toNat (by omega)) hm;simp only[hc,hin,guT,aJ];rw[ah q1,ah q2];dsimp only;rw[rG];by_cases he:e=0
 ·obtain⟨r1,r2⟩:=q4 he
  rw[aoU he,ae (b:=(e !=0)) (by rw[he];rfl)];exact .ok rfl rfl rfl rfl rfl (by decide) (λ_ =>rfl) ((j.box r1 (j.fl.put r2 hf)).fE hc')
 ·rw[aoV he,ak (rj he)]
  exact .er he rfl rfl
theorem agn(H:Hc n c x w fr)(hd:x.c.Do=14):pX (c+60) x.c fr w (kG n x) (kB n w x.aE (ri x.c)):=by
 have nc:=H.cc.cr;have hca:=H.cc.ca;have hcb:=H.cc.cb;have hn:=H.nn;have ht:=H.tk;have j:=H.j;have hl:=j.rl;unfold kG kB;rw[OY H hca.1];rw[show(ri x.c).A=x.c.A from rfl,show(ri x.c).B=x.c.B from rfl,show(ri x.c).R=x.c.R from rfl,show(ri x.c).V=x.c.V from rfl,ah (OX H hca.1)];by_cases ha:(decide (x.c.A<8)&&x.av.di x.c.A.toNat)=true;rotate_left
 ·have ha:(decide (x.c.A<8)&&x.av.di x.c.A.toNat)=false:=by simpa using ha
  rw[aoV (by rw[ha];decide),ha];exact .er (e:=2) (by decide) rfl rfl
 have hA8:x.c.A<8:=by rw[aoX,decide_eq_true_eq]at ha;exact ha.1
 rw[aoU ha,ha,PT];by_cases hb:x.c.B<=1;rotate_left
 ·rw[aoV (by simpa using hb),ak (b:=(!true||decide (1<x.c.B))) (by rw[aoY (by omega)];rfl)]
  exact .er (e:=2) (by decide) rfl rfl
 rw[aoU (by simpa using hb),ae (b:=(!true||decide (1<x.c.B))) (by rw[ao5 (by omega)];rfl),aJ (α:=aZ),aJ (α:=aq->Option (Except Int (aA×aq))),aJ (α:=aj->Option (aj×aH)),Wd ht.1 (by omega)];have hm:XE ⟨x.aE,x.c.V,x.c.R,(x.c.R !=0)&&(x.c.B==1)⟩:=⟨ht,nc⟩;by_cases hs:((x.c.R !=0)&&(x.c.B==1))=true
 ·rw[ak (b:=((x.c.R !=0)&&(x.c.B==1))) hs,ak (b:=((x.c.R !=0)&&(x.c.B==1))) hs,Tq H nc,ah (Tp H nc.1)]
  by_cases hh:JB x w x.c.R=0;rotate_left
  ·rw[aoV hh,ak (rj hh)]
   exact .er hh rfl rfl
  obtain⟨g1,g2,g3,g4⟩:=ahK H nc.1 hh;obtain⟨o',m,v',e,q1,q2,q3,q4,q5,q6,q7,q8⟩:=Ts (n:=n) (by omega) j.rt j.tt j.op (by omega) (aE:=x.c.A) nc.1 nc.2 true;rw[aoU hh,hh,ae (b:=((0:Int)!=0)) rfl,aL (x:=x.c.A) (by omega) (by omega),ah (afi (by omega) q1),ah q2];have hno:∀{P:Prop},x.c.R≠0->((x.c.R !=0)&&(x.c.B==1))=false->P:=λ_ h=>by rw[hs]at h;exact absurd h (by decide)
  by_cases he:e=0
  ·rw[ak (b:=(e==0)) (by rw[he];rfl),ak (b:=(e==0)) (by rw[he];rfl),aJ]
   have j1:=j.own (c':=c+1) q4 (by omega) λa b m hm=>by obtain⟨f1,f2,f3⟩:=j.fl.k a b m hm;rw[q6 _ f1 f2 λq=>by rw[q,g3]at f3;exact absurd f3 (by decide)];exact f3
   exact JR H (y:={x with av:={x.av with aC:={x.av.aC with O:=o'}}}) rfl hA8 j1 (by omega) hm λh1 h2=>hno h1 h2
  ·rw[ae (b:=(e==0)) (ju he),ae (b:=(e==0)) (ju he)]
   exact JR H (y:=x) rfl hA8 j (by omega) hm λh1 h2=>hno h1 h2
 ·have hs:((x.c.R !=0)&&(x.c.B==1))=false:=by simpa using hs
  rw[ae (b:=((x.c.R !=0)&&(x.c.B==1))) hs,ae (b:=((x.c.R !=0)&&(x.c.B==1))) hs];by_cases hz:x.c.R=0
  ·rw[ae (b:=(x.c.R !=0)) (by rw[hz];rfl),ae (b:=(x.c.R !=0)) (by rw[hz];rfl)]
   exact JR H (y:=x) rfl hA8 j (by omega) hm λh1 _ =>absurd hz h1
  ·rw[ak (b:=(x.c.R !=0)) (rj hz),ak (b:=(x.c.R !=0)) (rj hz),Hz H nc,ah (Hx H nc.1 2)]
   by_cases he:Dw x w x.c.R 2=0;rotate_left
   ·rw[aoV he,ak (rj he)]
    exact .er he rfl rfl
   have hg:=oG nc.1 he;obtain⟨t',c1,c2,c3,c4,c5⟩:=j.cut (n:=n) (by omega) hg;obtain⟨v',g1,g2,g3,g4⟩:=als (n:=n) (by omega) c3.rt c3.tt c3.op (by dsimp only;omega) c4 c5 0;have hne:=TG H nc.1 (by decide) he;have j1:=c3.own (c':=c+1) g3 (by dsimp only at g4 ⊢;omega) λa b m hm=>by obtain⟨f1,f2,f3⟩:=c3.fl.k a b m hm;exact(congrArg cF.dx (qc c3.rt c3.tt c4 f1 f2 (hne a b m hm))).trans f3
   rw[aoU he,he,ae (b:=((0:Int)!=0)) rfl,Y8 c1,ah c2,aJ];dsimp only at g1 g2 ⊢;rw[ah g1,ah g2,rG,aoU rfl,aJ];refine JR H (y:={x with av:={x.av with aC:={x.av.aC with T:=t',O:=_ }}}) rfl hA8 j1 (by omega) hm λ_ _ =>⟨⟨c4,c5,congrArg cF.dx (adx c4 ((Ey c3.rt c3.tt c4).2 c5) _)⟩,hne⟩
end
end Go.Proofs.Z
namespace Go.Proofs.Z
open Go Go.Bw
theorem duo{σ τ ρ π:Type}(l:Nat)(BP:(Int->σ->Option ρ)->Int->σ->Option ρ)(BR:(Int->τ->Option π)->Int->τ->Option π)(KP:σ->Option ρ)(KR:τ->Option π)(I:Nat->σ->τ->Prop)
  (step:∀(k:Nat) kp kr y v,k<l->I k y v->∃y' v',BP kp (k:Int) y=kp ((k+1:Nat):Int) y'/\BR kr (k:Int) v=kr ((k+1:Nat):Int) v'/\I (k+1) y' v')
  (stop:∀kp kr y v,I l y v->BP kp (l:Int) y=KP y/\BR kr (l:Int) v=KR v):
  ∀(d k:Nat),l=k+d->∀n,d<n->∀y v,I k y v->∃y' v',cH BP n (k:Int) y=KP y'/\cH BR n (k:Int) v=KR v'/\I l y' v'
 |0,k,hk,n+1,_,y,v,h=>by obtain rfl:l=k:=hk;obtain⟨a,b⟩:=stop (cH BP n) (cH BR n) y v h;exact⟨y,v,a,b,h⟩
 |d+1,k,hk,n+1,hn,y,v,h=>by obtain⟨y',v',a,b,h'⟩:=step k (cH BP n) (cH BR n) y v (by omega) h;obtain⟨y2,v2,a2,b2,h2⟩:=duo l BP BR KP KR I step stop d (k+1) (by omega) n (by omega) y' v' h';exact⟨y2,v2,a.trans a2,b.trans b2,h2⟩
theorem aen{σ τ ρ π:Type}(l:Nat){BP:(Int->σ->Option ρ)->Int->σ->Option ρ}{BR:(Int->τ->Option π)->Int->τ->Option π}(KP:σ->Option ρ)(KR:τ->Option π)(I:Nat->σ->τ->Prop){Q:σ->τ->Prop}
  {n:Nat}(hn:l<n){y:σ}{v:τ}(h0:I 0 y v)(fin:∀y v,I l y v->Q y v)
  (step:∀(k:Nat) kp kr y v,k<l->I k y v->∃y' v',BP kp (k:Int) y=kp ((k+1:Nat):Int) y'/\BR kr (k:Int) v=kr ((k+1:Nat):Int) v'/\I (k+1) y' v')
  (stop:∀kp kr y v,I l y v->BP kp (l:Int) y=KP y/\BR kr (l:Int) v=KR v):∃y' v',cH BP n 0 y=KP y'/\cH BR n 0 v=KR v'/\Q y' v':=by
 obtain⟨y',v',a,b,h⟩:=duo l BP BR KP KR I step stop l 0 (by omega) n hn y v h0;exact⟨y',v',a,b,fin _ _ h⟩
theorem afj{L:List Int}(h:L.Nodup){k i:Nat}(hk:k<i)(hi:i<L.length):L.getD i default≠L.getD k default:=λe=>by rw[fq hi,fq (Nat.lt_trans hk hi)]at e;exact List.pairwise_iff_getElem.1 h k i (Nat.lt_trans hk hi) hi hk e.symm
section
variable {n c:Nat} {fr:List Rn}
theorem alE(hn:c+360<=n/\3000<=n/\c<=51000){x:aq}{w:aj}(j:sV c x.av w x.gO fr){a:Int}(ha:0<=a/\a<8):
  ∃y v,(bd (qE n x.av.aC.O x.av.aC.T a) λSc=>
 cH (λag9 (N0:Int) (X5:aq)=>
 cn (decide (N0<(Sc.length:Int))) (
 gu (bQ N0 Sc.length)<|
 tr (jG n X5 (Sc.getD (Int.toNat N0) default) a) (λaa9=>(.error aa9)) λafQ=>
 ag9 (wr .i64 (N0+1)) afQ) (
 some (Except.ok (ε:=Int) X5))) n 0 x)=some (.ok y)/\(bd (jB n w.aC.O w.aC.T a true) λEd=>
 cH (λaha (N1:Int) (X6:aj)=>
 cn (decide (N1<(Ed.length:Int))) (
 gu (bQ N1 Ed.length)<|
 bd (kD n X6 (Ed.getD (Int.toNat N1) default) a) λafR=>
 aha (wr .i64 (N1+1)) afR) (
 some X6)) n 0 w)=some v/\sV (c+32) y.av v y.gO fr:=by
 have hl:=j.rl;rw[ah (ahx (n:=n) (by omega) j.rt j.tt a),ah ((YK (n:=n) (by omega) j.rt j.tt j.op (by omega) a true).trans (congrArg some (ahy j.rt j.tt j.op a)))];have vt:((Gw w.aC.T).filter λh=>(dc w.aC.T h==h)&&D5 a (s6 a) (lK w.aC.T x.av.aC.O h)).Nodup:=(zY j.rt.bj 32 (Nat.le_refl _)).filter _;have hlen:((Gw w.aC.T).filter λh=>(dc w.aC.T h==h)&&D5 a (s6 a) (lK w.aC.T x.av.aC.O h)).length<=32:=Nat.le_trans (List.length_filter_le _ _) (gZ _ _);have hmem:∀h∈(Gw w.aC.T).filter λh=>(dc w.aC.T h==h)&&D5 a (s6 a) (lK w.aC.T x.av.aC.O h),aQ w.aC.T.B h/\dM w.aC.T h=0/\(lK w.aC.T x.av.aC.O h).dx=3/\AR (lK w.aC.T x.av.aC.O h).dR a.toNat=true:=λh hh=>by obtain⟨h1,h2⟩:=List.mem_filter.1 hh;have hg:=(bY j.rt.bj h).1 h1;rw[aoX,beq_iff_eq]at h2;have h3:=h2.2;unfold D5 at h3;rw[aoX,aoX,aoX,beq_iff_eq]at h3;obtain⟨⟨⟨h4,h5⟩,h6⟩,h7⟩:=h3;rw[h4,h5,h6]at h7;rw[← ahF (sC j.op.q h).hr ha];exact⟨hg,(Ey j.rt j.tt hg).1 h2.1,h4,h7⟩
 generalize((Gw w.aC.T).filter λh=>(dc w.aC.T h==h)&&D5 a (s6 a) (lK w.aC.T x.av.aC.O h))=L at vt hlen hmem;refine aen L.length (λy=>some (Except.ok (ε:=Int) y)) (λv=>some v) (λk y v=>sV (c+k) y.av v y.gO fr/\∀i,k<=i->i<L.length->aQ v.aC.T.B (L.getD i default)/\dM v.aC.T (L.getD i default)=0/\(lK v.aC.T y.av.aC.O (L.getD i default)).dx=3/\AR (lK v.aC.T y.av.aC.O (L.getD i default)).dR a.toNat=true)
  (by omega) ⟨j,λi _ h=>hmem _ (gP h)⟩ (λy v h=>h.1.fE (by omega)) (λk kp kr y v hk ⟨hj,hi⟩=>?_) (λkp kr y v _ =>⟨ae (ao5 (by omega)),ae (ao5 (by omega))⟩)
 obtain⟨g1,g2,g3,g4⟩:=hi k (Nat.le_refl _) hk;obtain⟨y',v',d1,d2,d3,d4⟩:=VE (n:=n) (aE:=a) (by omega) hj g1 g2 g3 ha g4;refine⟨y',v',?_,?_,d3,λi h1 h2=>?_⟩
 ·rw[ak (aoY (by omega)),ax (bK (by omega) (by omega)),aoZ,d1,aL (by omega) (by omega)];rfl
 ·rw[ak (aoY (by omega)),ax (bK (by omega) (by omega)),aoZ,ah d2,aL (by omega) (by omega)];rfl
 ·obtain⟨p1,p2,p3,p4⟩:=hi i (by omega) h2
  obtain⟨s1,s2,s3⟩:=d4.s _ p1 p2 (afj vt (by omega) h2);rw[s3];exact⟨s1,s2,p3,p4⟩
end
end Go.Proofs.Z
namespace Go.Proofs.Z
open Go Go.Bw
section
variable {n c:Nat} {fr:List Rn}
theorem alF{ρ π:Type}(hn:c+360<=n/\3000<=n/\c<=51000){x:aq}{w:aj}(j:sV c x.av w x.gO fr)(a:Int)(KP:aq->Option ρ)(KR:aj->Option π):
  ∃y v,(bd (pH n x.av.aC.O x.av.aC.T a) λtD=>
 cH (λahc (E8:Int) (Ed:aq)=>
 cn (decide (E8<(tD.length:Int))) (
 gu (bQ E8 tD.length)<|
 bd (fm n Ed (tD.getD (Int.toNat E8) default)) λafT=>
 ahc (wr .i64 (E8+1)) afT) (
 KP Ed)) n 0 x)=KP y/\(bd (jB n w.aC.O w.aC.T a false) λKk=>
 cH (λahd (N2:Int) (tD:aj)=>
 cn (decide (N2<(Kk.length:Int))) (
 gu (bQ N2 Kk.length)<|
 bd (fb n tD (Kk.getD (Int.toNat N2) default)) λSd=>
 ahd (wr .i64 (N2+1)) Sd) (
 KR tD)) n 0 w)=KR v/\sV c y.av v y.gO fr:=by
 have hl:=j.rl;rw[ah (Y7 (n:=n) (by omega) j.rt j.tt a),ah ((YK (n:=n) (by omega) j.rt j.tt j.op (by omega) a false).trans (congrArg some (agr j.rt j.tt j.op a)))];have vt:((Gw w.aC.T).filter λh=>(dc w.aC.T h==h)&&(((lK w.aC.T x.av.aC.O h).dx==1)&&((wr .i64 (lK w.aC.T x.av.aC.O h).gT)==a))).Nodup:=(zY j.rt.bj 32 (Nat.le_refl _)).filter _;have hlen:((Gw w.aC.T).filter λh=>(dc w.aC.T h==h)&&(((lK w.aC.T x.av.aC.O h).dx==1)&&((wr .i64 (lK w.aC.T x.av.aC.O h).gT)==a))).length<=32:=Nat.le_trans (List.length_filter_le _ _) (gZ _ _);have hmem:∀h∈(Gw w.aC.T).filter λh=>(dc w.aC.T h==h)&&(((lK w.aC.T x.av.aC.O h).dx==1)&&((wr .i64 (lK w.aC.T x.av.aC.O h).gT)==a)),aQ w.aC.T.B h/\dM w.aC.T h=0/\(lK w.aC.T x.av.aC.O h).dx=1:=λh hh=>by obtain⟨h1,h2⟩:=List.mem_filter.1 hh;have hg:=(bY j.rt.bj h).1 h1;rw[aoX,aoX,beq_iff_eq,beq_iff_eq]at h2;exact⟨hg,(Ey j.rt j.tt hg).1 h2.1,h2.2.1⟩
 generalize((Gw w.aC.T).filter λh=>(dc w.aC.T h==h)&&(((lK w.aC.T x.av.aC.O h).dx==1)&&((wr .i64 (lK w.aC.T x.av.aC.O h).gT)==a)))=L at vt hlen hmem;refine aen L.length KP KR (λk y v=>sV c y.av v y.gO fr/\∀i,k<=i->i<L.length->aQ v.aC.T.B (L.getD i default)/\dM v.aC.T (L.getD i default)=0/\(lK v.aC.T y.av.aC.O (L.getD i default)).dx=1)
  (by omega) ⟨j,λi _ h=>hmem _ (gP h)⟩ (λy v h=>h.1) (λk kp kr y v hk ⟨hj,hi⟩=>?_) (λkp kr y v _ =>⟨ae (ao5 (by omega)),ae (ao5 (by omega))⟩)
 obtain⟨g1,g2,g3⟩:=hi k (Nat.le_refl _) hk;obtain⟨k',t',d1,d2,d3⟩:=Pa (n:=n) (by omega) hj g1.1 (gh g1.2) (λp q m hm hu=>by
  obtain⟨f1,f2,f3⟩:=hj.fl.k p q m hm;rw[yV hj.rt hj.tt f2 hu g1.1,g3]at f3;exact absurd f3 (by decide)) y rfl rfl
 refine⟨_,_,?_,?_,d3,λi h1 h2=>?_⟩
 ·rw[ak (aoY (by omega)),ax (bK (by omega) (by omega)),aoZ,ah d1,aL (by omega) (by omega)];rfl
 ·rw[ak (aoY (by omega)),ax (bK (by omega) (by omega)),aoZ,ah d2,aL (by omega) (by omega)];rfl
 ·obtain⟨p1,p2,p3⟩:=hi i (by omega) h2
  obtain⟨s1,s2,s3⟩:=Ok hj.rt hj.tt hj.i6 (h:=L.getD k default) p1 p2 λhm=>afj vt (by omega) h2 (yV hj.rt hj.tt p2 hm g1.1);exact⟨s1,s2,(congrArg cF.dx (s3 _)).trans p3⟩
theorem alG{ρ π:Type}(hn:c+360<=n/\3000<=n/\c<=51000){x:aq}{w:aj}(j:sV c x.av w x.gO fr){a:Int}(ha:0<=a)(KP:aq->Option ρ)(KR:aj->Option π):
  ∃y v,(bd (oC n x.av.aC.K a) λKg=>
 cH (λahe (Kl:Int) (GQ:aq)=>
 cn (decide (Kl<(Kg.length:Int))) (
 gu (bQ Kl Kg.length)<|
 bd (eU n GQ.av.aC.K (Kg.getD (Int.toNat Kl) default)) λafX=>
 ahe (wr .i64 (Kl+1)) ({GQ with av:={GQ.av with aC:={GQ.av.aC with K:=afX.1}}})) (
 KP GQ)) n 0 x)=KP y/\(bd (dA n w.aC.K (-1) a) λNY=>
 cH (λk96 (NW:Int) (NU:aj)=>
 cn (decide (NW<(NY.length:Int))) (
 gu (bQ NW NY.length)<|
 bd (fS n NU.aC.K (NY.getD (Int.toNat NW) default)) λx98=>
 lt ({NU with aC:={NU.aC with K:=x98.1}}:aj) λSe=>
 k96 (wr .i64 (NW+1)) Se) (
 KR NU)) n 0 w)=KR v/\sV c y.av v y.gO fr:=by
 have hth:dA n w.aC.K (-1) a=some (dk w.aC.K.B (λi=>(x.av.aC.K.aI i).To==a) 32):=by refine(BS (n:=n) (by omega) j.rk (-1) a).trans (congrArg some (v5 (λi _ _ =>?_) 32 (Nat.le_refl _)));rw[aoY (show(-1:Int)<0 by decide),ao5 (show¬a<0 by omega)];simp
 rw[ah (agK (n:=n) (by omega) j.rk a),ah hth];have hlen:=pz w.aC.K.B (λi=>(x.av.aC.K.aI i).To==a) 32;have Dt:=He j.rk.bj (p:=λi=>(x.av.aC.K.aI i).To==a);generalize dk w.aC.K.B (λi=>(x.av.aC.K.aI i).To==a) 32=L at hlen Dt;refine aen L.length KP KR (λk y v=>sV c y.av v y.gO fr) (by omega) j (λy v h=>h) (λk kp kr y v hk hj=>?_) (λkp kr y v _ =>⟨ae (ao5 (by omega)),ae (ao5 (by omega))⟩);obtain⟨g1,g2⟩:=Dt _ (gP (l:=L) (i:=k) hk);obtain⟨k',z',l',e,r1,r2,r3⟩:=Za (n:=n) (by omega) hj.rk hj.tk g1 g2;obtain⟨p1,p2⟩:=r3.next hj.rk hj.tk
 refine⟨{y with av:={y.av with aC:={y.av.aC with K:=k'}}},{v with aC:={v.aC with K:=z'}},?_,?_,hj.RY p1 p2⟩
 ·rw[ak (aoY (by omega)),ax (bK (by omega) (by omega)),aoZ,ah r1,aL (by omega) (by omega)];rfl
 ·rw[ak (aoY (by omega)),ax (bK (by omega) (by omega)),aoZ,ah r2,aL (by omega) (by omega)];rfl
structure ai6(L:List aZ)(k:Nat)(o:bM)(w:ai)(X:Nat->cP):Prop where
 k:∀i,k<=i->i<L.length->(L.getD i default).Region≠0->(L.getD i default).iI=false->(aQ w.B (L.getD i default).Region/\dM w (L.getD i default).Region=0/\(lK w o (L.getD i default).Region).dx=2)/\∀p q m,RR X p q m->m.Region≠(L.getD i default).Region
 u:∀i i',i<i'->i'<L.length->(L.getD i default).Region≠0->(L.getD i default).iI=false->(L.getD i' default).Region≠0->(L.getD i' default).iI=false->(L.getD i' default).Region≠(L.getD i default).Region
theorem alH{ρ π:Type}(hn:c+360<=n/\3000<=n/\c<=50000){x:aq}{w:aj}(j:sV c x.av w x.gO fr){L:List aZ}{M:List bD}(hM:M=L.map BZ)(hL:L.length<=4)(hr:∀m∈L,XE m)(h0:ai6 L 0 x.av.aC.O w.aC.T w.tB)(KP:aq->Option (Except Int ρ))(KR:aj->Option π):
  ∃y v,(cH (λk58 (Bh:Int) (tC:aq)=>
 cn (decide (Bh<(L.length:Int))) (
 gu (bQ Bh L.length)<|
 lt ((L.getD (Int.toNat Bh) default):aZ) λEc=>
 cn (((Ec.Region==0)||Ec.iI)) (
 k58 (wr .i64 (Bh+1)) tC) (
 gu (bQ Ec.nB 8)<|
 cn ((tC.av.di (Int.toNat Ec.nB))) (
 tr (eB n tC Ec.Region (wr .i64 Ec.nB)) (λahX=>(.error ahX)) λSb=>
 k58 (wr .i64 (Bh+1)) Sb) (
 bd (fm n tC Ec.Region) λJh=>
 k58 (wr .i64 (Bh+1)) Jh))) (KP tC)) n 0 x)=KP y/\(cH (λk50 (xN:Int) (my:aj)=>
 cn (decide (xN<(M.length:Int))) (
 gu (bQ xN M.length)<|
 lt ((M.getD (Int.toNat xN) default):bD) λyN=>
 cn (((yN.Region==0)||yN.iI)) (
 k50 (wr .i64 (xN+1)) my) (
 gu (bQ yN.nB 8)<|
 cn ((my.di (Int.toNat yN.nB))) (
 bd (dI n my.aC.O my.aC.T yN.Region yN.nB 1) λzv=>
 lt ({my with aC:={my.aC with O:=zv.1}}:aj) λx65=>
 k50 (wr .i64 (xN+1)) x65) (
 bd (fb n my yN.Region) λxS=>
 k50 (wr .i64 (xN+1)) xS))) (KR my)) n 0 w)=KR v/\sV (c+4) y.av v y.gO fr:=by
 have hML:M.length=L.length:=by rw[hM,List.length_map]
 have hMk:∀k,k<L.length->M.getD k default=BZ (L.getD k default):=λk hk=>by subst hM;rw[fq (by rw[List.length_map];exact hk),fq hk,List.getElem_map]
 rw[hML];refine aen L.length KP KR (λk y v=>sV (c+k) y.av v y.gO fr/\ai6 L k y.av.aC.O v.aC.T v.tB) (by omega) ⟨j,h0⟩ (λy v h=>h.1.fE (by omega)) (λk kp kr y v hk ⟨hj,hi⟩=>?_) (λkp kr y v _ =>⟨ae (ao5 (by omega)),ae (ao5 (by omega))⟩);have hm:=hr _ (gP (l:=L) (i:=k) hk);have hc:=hi.k k (Nat.le_refl _) hk;have hu:=hi.u k;have hrl:=hj.rl;rw[aoZ,hMk k hk];have e1:(L.getD k default).Region=(BZ (L.getD k default)).Region:=rfl;by_cases hs:((L.getD k default).Region==0||(L.getD k default).iI)=true
 ·refine⟨y,v,?_,?_,hj.fE (by omega),λi h1 h2=>hi.k i (by omega) h2,hi.u⟩
  ·rw[ak (aoY (by omega)),ax (bK (by omega) (by omega)),aJ,ak hs,aL (by omega) (by omega)];rfl
  ·rw[ak (aoY (by omega)),ax (bK (by omega) (by omega)),aJ,ak (b:=((BZ (L.getD k default)).Region==0||(BZ (L.getD k default)).iI)) hs,aL (by omega) (by omega)];rfl
 ·have hs:((L.getD k default).Region==0||(L.getD k default).iI)=false:=by simpa using hs
  have Q5:=hs;rw[Bool.or_eq_false_iff,beq_eq_false_iff_ne]at Q5;obtain⟨⟨g1,g2,g3⟩,g4⟩:=hc Q5.1 Q5.2;have hf:=hm.f;have hin:bQ (L.getD k default).nB 8=true:=bK hf.1 hf.2;have hal:=hj.al (L.getD k default).nB.toNat (by omega);cases ha:y.av.di (L.getD k default).nB.toNat with
  |true=>
   obtain⟨o',q1,q2,q3,q4⟩:=Pc (n:=n) (aE:=(L.getD k default).nB) (by omega) hj.rt hj.tt hj.op (by omega) g1 g2 hf;have j1:=hj.own (c':=c+(k+1)) q3 (by omega) λp q m hm=>by obtain⟨f1,f2,f3⟩:=hj.fl.k p q m hm;exact(congrArg cF.dx (qc hj.rt hj.tt g1 f1 f2 (g4 p q m hm))).trans f3
   refine⟨{y with av:={y.av with aC:={y.av.aC with O:=sX y.av.aC.O (L.getD k default).Region ⟨1,(L.getD k default).nB,0⟩}}},{v with aC:={v.aC with O:=o'}},?_,?_,j1,λi h1 h2 h3 h4=>?_,hi.u⟩
   ·rw[ak (aoY (by omega)),ax (bK (by omega) (by omega)),aJ,ae hs,ax hin,ak ha,aL (x:=(L.getD k default).nB) (by omega) (by omega),ZG (x:=y) q1,aL (by omega) (by omega)];rfl
   ·rw[ak (aoY (by omega)),ax (bK (by omega) (by omega)),aJ,ae (b:=((BZ (L.getD k default)).Region==0||(BZ (L.getD k default)).iI)) hs,ax (b:=bQ (BZ (L.getD k default)).nB 8) hin,ak (b:=v.di (BZ (L.getD k default)).nB.toNat) (hal▸ha)]
    have q2':dI n v.aC.O v.aC.T (BZ (L.getD k default)).Region (BZ (L.getD k default)).nB 1=some (o',0):=q2;rw[ah q2',aJ,aL (by omega) (by omega)];rfl
   ·obtain⟨⟨p1,p2,p3⟩,p4⟩:=hi.k i (by omega) h2 h3 h4
    exact⟨⟨p1,p2,(congrArg cF.dx (qc hj.rt hj.tt g1 p1 p2 (hu i (by omega) h2 Q5.1 Q5.2 h3 h4))).trans p3⟩,p4⟩
  |false=>
   obtain⟨k',t',d1,d2,d3⟩:=Pa (n:=n) (by omega) hj g1.1 (gh g1.2) (λp q m hm hun=>g4 p q m hm (yV hj.rt hj.tt (hj.fl.k p q m hm).2.1 hun g1.1)) y rfl rfl;refine⟨_,_,?_,?_,d3.fE (by omega),λi h1 h2 h3 h4=>?_,hi.u⟩
   ·rw[ak (aoY (by omega)),ax (bK (by omega) (by omega)),aJ,ae hs,ax hin,ae ha,ah d1,aL (by omega) (by omega)];rfl
   ·rw[ak (aoY (by omega)),ax (bK (by omega) (by omega)),aJ,ae (b:=((BZ (L.getD k default)).Region==0||(BZ (L.getD k default)).iI)) hs,ax (b:=bQ (BZ (L.getD k default)).nB 8) hin,ae (b:=v.di (BZ (L.getD k default)).nB.toNat) (hal▸ha)]
    have d2':fb n v (BZ (L.getD k default)).Region=_ :=d2;rw[ah d2',aL (by omega) (by omega)];rfl
   ·obtain⟨⟨p1,p2,p3⟩,p4⟩:=hi.k i (by omega) h2 h3 h4
    obtain⟨s1,s2,s3⟩:=Ok hj.rt hj.tt hj.i6 (h:=(L.getD k default).Region) p1 p2 λhmu=>hu i (by omega) h2 Q5.1 Q5.2 h3 h4 (yV hj.rt hj.tt p2 hmu g1.1);exact⟨⟨s1,s2,(congrArg cF.dx (s3 _)).trans p3⟩,p4⟩
end
end Go.Proofs.Z
namespace Go.Proofs.Z
open Go Go.Bw
section
variable {n c:Nat} {x:aq} {w:aj} {fr:List Rn}
theorem abh(hn:c+400<=n/\3000<=n/\c<=50000)(j:sV c x.av w x.gO fr){a:Int}(ha:0<=a/\a<8):∃y v,mU n x a=some (.ok y)/\nJ n w a=some v/\sV (c+60) y.av v y.gO fr:=by
 have hin:bQ a 8=true:=bK ha.1 ha.2;have hb:=j.bx a.toNat (by omega);have hl4:=hb.l;have hlen:=FE (x.av.fO a.toNat) (w.tB a.toNat).L.length;have j0:sV c ({x with av:={x.av with fO:=dm x.av.fO a.toNat ⟨λ_ =>fN,0,0,true⟩,di:=dm x.av.di a.toNat false}}:aq).av {w with tB:=dm w.tB a.toNat ⟨[],true⟩,di:=dm w.di a.toNat false} x.gO fr:=
  (j.box Z7 (j.fl.none a.toNat ⟨[],true⟩ rfl)).akx (λi hi=>by rw[bI,bI,j.al i hi]) j.bo
 have fly:∀i,i<(kA (x.av.fO a.toNat) (w.tB a.toNat).L.length).length->((kA (x.av.fO a.toNat) (w.tB a.toNat).L.length).getD i default).Region≠0->((kA (x.av.fO a.toNat) (w.tB a.toNat).L.length).getD i default).iI=false->RR w.tB a.toNat i (BZ ((kA (x.av.fO a.toNat) (w.tB a.toNat).L.length).getD i default)):=λi hi h1 h2=>by refine⟨by omega,?_,h1,h2⟩;have:(w.tB a.toNat).L[i]? =((kA (x.av.fO a.toNat) (w.tB a.toNat).L.length).map BZ)[i]? :=congrArg (λl:List bD=>l[i]?) hb.m;rw[this,List.getElem?_map,ao3 hi,fq hi];rfl
 have h0:ai6 (kA (x.av.fO a.toNat) (w.tB a.toNat).L.length) 0 x.av.aC.O w.aC.T (dm w.tB a.toNat ⟨[],true⟩):=by
  refine⟨λi _ hi h1 h2=>⟨j.fl.k _ _ _ (fly i hi h1 h2),λp q m hm e=>?_⟩,λi i' h1 h2 a1 a2 b1 b2 e=>?_⟩
  ·obtain⟨m1,m2,m3⟩:=hm
   rw[bI]at m2;by_cases hp:p=a.toNat
   ·rw[aoU hp]at m2;simp at m2
   ·rw[aoV hp]at m2
    exact hp (j.fl.u _ _ _ _ _ _ ⟨m1,m2,m3⟩ (fly i hi h1 h2) e).1
  ·have:=(j.fl.u _ _ _ _ _ _ (fly i' h2 b1 b2) (fly i (by omega) a1 a2) e).2
   omega
 unfold mU nJ;rw[ax hin,ah (WV (n:=n) (by omega) hb),ax hin,ax hin,ax hin,aJ,ax hin,aJ,ax hin,aJ];dsimp only;obtain⟨y1,v1,p1,q1,j1⟩:=alH (n:=n) (c:=c) (by omega) (x:={x with av:={x.av with fO:=dm x.av.fO a.toNat ⟨λ_ =>fN,0,0,true⟩,di:=dm x.av.di a.toNat false}}) j0 hb.m (by rw[hlen];exact hl4) hb.r h0 _ _;obtain⟨y2,v2,p2,q2,j2⟩:=alG (n:=n) (c:=c+4) (by omega) j1 ha.1 _ _;obtain⟨y3,v3,p3,q3,j3⟩:=alF (n:=n) (c:=c+4) (by omega) j2 a _ _;obtain⟨y4,v4,p4,q4,j4⟩:=alE (n:=n) (c:=c+4) (by omega) j3 ha;exact⟨y4,v4,p1.trans (p2.trans (p3.trans p4)),q1.trans (q2.trans (q3.trans q4)),j4.fE (by omega)⟩
theorem ahV(H:Hc n c x w fr)(hd:x.c.Do=20):pX (c+60) x.c fr w (kJ n x) (fj n w x.aE (ri x.c)):=by obtain⟨y,v,p,q,j⟩:=abh (n:=n) H.nn H.j H.tk;unfold kJ fj;rw[p,ak (b:=((ri x.c).Do==20)) (by show(x.c.Do==20)=true;rw[hd];rfl),ah q];exact .ok rfl rfl rfl rfl rfl (by decide) (λ_ =>rfl) j
theorem ag8(H:Hc n c x w fr)(hd:x.c.Do=21):pX (c+60) x.c fr w (kI n x) (fj n w x.aE (ri x.c)):=by
 have hca:=H.cc.ca;unfold kI fj;rw[ae (b:=((ri x.c).Do==20)) (by show(x.c.Do==20)=false;rw[hd];rfl),ak (b:=((ri x.c).Do==21)) (by show(x.c.Do==21)=true;rw[hd];rfl),OY H hca.1];rw[show(ri x.c).A=x.c.A from rfl,ah (OX H hca.1)];by_cases ha:(decide (x.c.A<8)&&x.av.di x.c.A.toNat)=true
 ·have hA8:x.c.A<8:=by rw[aoX,decide_eq_true_eq]at ha;exact ha.1
  obtain⟨y,v,p,q,j⟩:=abh (n:=n) H.nn H.j ⟨hca.1,hA8⟩;rw[aoU ha,ha,ae (b:= !true) rfl,aL (by omega) (by omega),p,ah q];exact .ok rfl rfl rfl rfl rfl (by decide) (λ_ =>rfl) j
 ·have ha:(decide (x.c.A<8)&&x.av.di x.c.A.toNat)=false:=by simpa using ha
  rw[aoV (by rw[ha];decide),ha];exact .er (e:=2) (by decide) rfl rfl
end
def mW(k:Int):Option aco:=(NB k).map (·.2.2)
theorem Z5:mW 1=some lR/\mW 2=some fI/\mW 3=some (yf mT)/\mW 4=some (yf l9)/\mW 5=some jE/\mW 6=some jd/\mW 7=some lT/\mW 8=some jF/\mW 9=some jc/\mW 10=some jD/\mW 11=some kK/\mW 12=some kH/\mW 13=some g9/\mW 14=some kG/\mW 15=some fZ/\mW 16=some fZ/\mW 17=some jI/\mW 18=some lQ/\mW 19=some (yf jH)/\mW 20=some kJ/\mW 21=some kI/\mW 22=some jC:=
 ⟨rfl,rfl,rfl,rfl,rfl,rfl,rfl,rfl,rfl,rfl,rfl,rfl,rfl,rfl,rfl,rfl,rfl,rfl,rfl,rfl,rfl,rfl⟩
theorem agQ{k:Int}(h:k<1\/22<k):mW k=none:=by
 unfold mW NB;have:F4.find? (λx=>k==x.1)=none:=by
  rw[List.find?_eq_none];intro x hx;have:(F4.map (·.1)).all (λi=>decide (1<=i)&&decide (i<=22))=true:=by rfl
  have:=List.all_eq_true.1 this x.1 (List.mem_map_of_mem hx);rw[aoX,decide_eq_true_eq,decide_eq_true_eq]at this;simp;omega
 rw[this];rfl
end Go.Proofs.Z
namespace Go.Proofs.Z
open Go Go.Bw
theorem alR{α β:Type}(m:Option (α×β)):(bd m λy=>some (y.1,y.2))=m:=by cases m<;>rfl
def IQ(n:Nat)(w:aj)(t:Int)(a:bU)(a3:Nat->Int):Option (aj×aH):=if a.Do=2 then bd (iP n w t a a3) λy=>some (y.1,y.2.1) else if a.Do=3\/a.Do=4 then dY n w t a else if a.Do=1\/(5<=a.Do/\a.Do<=9)then cI n w t a else if a.Do=10\/a.Do=11 then gC n w t a else if a.Do=12\/a.Do=13 then gV n w t a else if a.Do=14 then kB n w t a else if 15<=a.Do/\a.Do<=17 then fD n w t a else if a.Do=18\/a.Do=19 then gW n w t a else if 20<=a.Do/\a.Do<=22 then fj n w t a else some (w,⟨2,0,0⟩)
theorem Zh{n:Nat}{w:aj}{t:Int}{a:bU}{a3:Nat->Int}{b:Bool}(hl:dN n {w with o7:=[]} t=some b):l6 n w t a a3=if b=true then IQ n {w with o7:=[]} t a a3 else some ({w with o7:=[]},⟨12,0,0⟩):=by
 unfold l6;rw[aJ,ah hl];cases b with
 |false=>rfl
 |true=>
  rw[ae (b:= !true) rfl,aoU rfl];unfold IQ;simp only[aJ,alR];by_cases h2:a.Do=2
  ·rw[aoU h2,ak (by rw[h2];rfl)]
  rw[aoV h2,ae (b:=(a.Do==2)) (ju h2)];by_cases h3:a.Do=3
  ·rw[aoU (.inl h3),ak (b:=(a.Do==3)) (by rw[h3];rfl),ak (b:=(a.Do==3)) (by rw[h3];rfl)]
  rw[ae (b:=(a.Do==3)) (ju h3)];by_cases h4:a.Do=4
  ·rw[aoU (.inr h4),ak (b:=(a.Do==4)) (by rw[h4];rfl)]
  rw[aoV (by omega),ae (b:=(a.Do==4)) (ju h4)];by_cases h1:a.Do=1
  ·rw[aoU (.inl h1),ak (b:=(a.Do==1)) (by rw[h1];rfl),ak (b:=(a.Do==1)) (by rw[h1];rfl)]
  rw[ae (b:=(a.Do==1)) (ju h1)];by_cases h5:a.Do=5
  ·rw[aoU (by omega),ak (b:=(a.Do==5)) (by rw[h5];rfl),ak (b:=(a.Do==5)) (by rw[h5];rfl)]
  rw[ae (b:=(a.Do==5)) (ju h5)];by_cases h6:a.Do=6
  ·rw[aoU (by omega),ak (b:=(a.Do==6)) (by rw[h6];rfl),ak (b:=(a.Do==6)) (by rw[h6];rfl)]
  rw[ae (b:=(a.Do==6)) (ju h6)];by_cases h7:a.Do=7
  ·rw[aoU (by omega),ak (b:=(a.Do==7)) (by rw[h7];rfl),ak (b:=(a.Do==7)) (by rw[h7];rfl)]
  rw[ae (b:=(a.Do==7)) (ju h7)];by_cases h8:a.Do=8
  ·rw[aoU (by omega),ak (b:=(a.Do==8)) (by rw[h8];rfl),ak (b:=(a.Do==8)) (by rw[h8];rfl)]
  rw[ae (b:=(a.Do==8)) (ju h8)];by_cases h9:a.Do=9
  ·rw[aoU (by omega),ak (b:=(a.Do==9)) (by rw[h9];rfl)]
  rw[aoV (by omega),ae (b:=(a.Do==9)) (ju h9)];by_cases h10:a.Do=10
  ·rw[aoU (by omega),ak (b:=(a.Do==10)) (by rw[h10];rfl),ak (b:=(a.Do==10)) (by rw[h10];rfl)]
  rw[ae (b:=(a.Do==10)) (ju h10)];by_cases h11:a.Do=11
  ·rw[aoU (by omega),ak (b:=(a.Do==11)) (by rw[h11];rfl)]
  rw[aoV (by omega),ae (b:=(a.Do==11)) (ju h11)];by_cases h12:a.Do=12
  ·rw[aoU (by omega),ak (b:=(a.Do==12)) (by rw[h12];rfl),ak (b:=(a.Do==12)) (by rw[h12];rfl)]
  rw[ae (b:=(a.Do==12)) (ju h12)];by_cases h13:a.Do=13
  ·rw[aoU (by omega),ak (b:=(a.Do==13)) (by rw[h13];rfl)]
  rw[aoV (by omega),ae (b:=(a.Do==13)) (ju h13)];by_cases h14:a.Do=14
  ·rw[aoU h14,ak (b:=(a.Do==14)) (by rw[h14];rfl)]
  rw[aoV h14,ae (b:=(a.Do==14)) (ju h14)];by_cases h15:a.Do=15
  ·rw[aoU (by omega),ak (b:=(a.Do==15)) (by rw[h15];rfl),ak (b:=(a.Do==15)) (by rw[h15];rfl)]
  rw[ae (b:=(a.Do==15)) (ju h15)];by_cases Ra:a.Do=16
  ·rw[aoU (by omega),ak (b:=(a.Do==16)) (by rw[Ra];rfl),ak (b:=(a.Do==16)) (by rw[Ra];rfl)]
  rw[ae (b:=(a.Do==16)) (ju Ra)];by_cases h17:a.Do=17
  ·rw[aoU (by omega),ak (b:=(a.Do==17)) (by rw[h17];rfl)]
  rw[aoV (by omega),ae (b:=(a.Do==17)) (ju h17)];by_cases h18:a.Do=18
  ·rw[aoU (by omega),ak (b:=(a.Do==18)) (by rw[h18];rfl),ak (b:=(a.Do==18)) (by rw[h18];rfl)]
  rw[ae (b:=(a.Do==18)) (ju h18)];by_cases h19:a.Do=19
  ·rw[aoU (by omega),ak (b:=(a.Do==19)) (by rw[h19];rfl)]
  rw[aoV (by omega),ae (b:=(a.Do==19)) (ju h19)];by_cases h20:a.Do=20
  ·rw[aoU (by omega),ak (b:=(a.Do==20)) (by rw[h20];rfl),ak (b:=(a.Do==20)) (by rw[h20];rfl)]
  rw[ae (b:=(a.Do==20)) (ju h20)];by_cases h21:a.Do=21
  ·rw[aoU (by omega),ak (b:=(a.Do==21)) (by rw[h21];rfl),ak (b:=(a.Do==21)) (by rw[h21];rfl)]
  rw[ae (b:=(a.Do==21)) (ju h21)];by_cases h22:a.Do=22
  ·rw[aoU (by omega),ak (b:=(a.Do==22)) (by rw[h22];rfl)]
  rw[aoV (by omega),ae (b:=(a.Do==22)) (ju h22)];rfl
section
variable {n c:Nat} {x:aq} {w:aj} {fr:List Rn}
theorem al0(H:Hc n c x w fr){g:aco}(hg:mW x.c.Do=some g)(aaD:x.pJ=0)(an1:x.Gf=false)(hrun:A0 x.run.At/\A0 x.run.N)(hpg:∀p,x.run.At<=p->p<x.run.At+x.run.N->(¬dL fr p/\¬dL x.gO p)/\∀y,aQ w.aC.T.B y->¬IS w.aC.T y p){a3:Nat->Int}(ha3:jM a3=x.run):
  pX (c+60) x.c fr w (g n x) (IQ n w x.aE (ri x.c) a3):=by
 have hk:1<=x.c.Do/\x.c.Do<=22:=by
  by_cases h:x.c.Do<1\/22<x.c.Do
  ·rw[agQ h]at hg;cases hg
  ·omega
 obtain⟨m1,m2,m3,m4,m5,m6,m7,m8,m9,m10,m11,m12,m13,m14,m15,m16,m17,m18,m19,m20,m21,m22⟩:=Z5;have hd:x.c.Do=1\/x.c.Do=2\/x.c.Do=3\/x.c.Do=4\/x.c.Do=5\/x.c.Do=6\/x.c.Do=7\/x.c.Do=8\/x.c.Do=9\/x.c.Do=10\/x.c.Do=11\/x.c.Do=12\/x.c.Do=13\/x.c.Do=14\/x.c.Do=15\/x.c.Do=16\/x.c.Do=17\/x.c.Do=18\/x.c.Do=19\/x.c.Do=20\/x.c.Do=21\/x.c.Do=22:=by omega
 have e0:(ri x.c).Do=x.c.Do:=rfl;unfold IQ;rw[e0];rcases hd with h|h|h|h|h|h|h|h|h|h|h|h|h|h|h|h|h|h|h|h|h|h<;>(have hg:=hg;rw[h]at hg)
 ·rw[aoV (by omega),aoV (by omega),aoU (by omega)];rw[m1]at hg;cases hg;exact akh H h
 ·rw[aoU h];rw[m2]at hg;cases hg;exact(VW H aaD hrun hpg ha3).1 an1
 ·rw[aoV (by omega),aoU (by omega)];rw[m3]at hg;cases hg;exact agV H h
 ·rw[aoV (by omega),aoU (by omega)];rw[m4]at hg;cases hg;exact acP H h
 ·rw[aoV (by omega),aoV (by omega),aoU (by omega)];rw[m5]at hg;cases hg;exact ac4 H h
 ·rw[aoV (by omega),aoV (by omega),aoU (by omega)];rw[m6]at hg;cases hg;exact abi H h
 ·rw[aoV (by omega),aoV (by omega),aoU (by omega)];rw[m7]at hg;cases hg;exact alM H h
 ·rw[aoV (by omega),aoV (by omega),aoU (by omega)];rw[m8]at hg;cases hg;exact ad7 H h
 ·rw[aoV (by omega),aoV (by omega),aoU (by omega)];rw[m9]at hg;cases hg;exact Xg H h
 ·rw[aoV (by omega),aoV (by omega),aoV (by omega),aoU (by omega)];rw[m10]at hg;cases hg;exact acU H h
 ·rw[aoV (by omega),aoV (by omega),aoV (by omega),aoU (by omega)];rw[m11]at hg;cases hg;exact ah8 H h
 ·rw[aoV (by omega),aoV (by omega),aoV (by omega),aoV (by omega),aoU (by omega)];rw[m12]at hg;cases hg;exact ag2 H h
 ·rw[aoV (by omega),aoV (by omega),aoV (by omega),aoV (by omega),aoU (by omega)];rw[m13]at hg;cases hg;exact Tz H h
 ·rw[aoV (by omega),aoV (by omega),aoV (by omega),aoV (by omega),aoV (by omega),aoU h];rw[m14]at hg;cases hg;exact agn H h
 ·rw[aoV (by omega),aoV (by omega),aoV (by omega),aoV (by omega),aoV (by omega),aoV (by omega),aoU (by omega)];rw[m15]at hg;cases hg;exact Zi H (.inl h)
 ·rw[aoV (by omega),aoV (by omega),aoV (by omega),aoV (by omega),aoV (by omega),aoV (by omega),aoU (by omega)];rw[m16]at hg;cases hg;exact Zi H (.inr h)
 ·rw[aoV (by omega),aoV (by omega),aoV (by omega),aoV (by omega),aoV (by omega),aoV (by omega),aoU (by omega)];rw[m17]at hg;cases hg;exact aeq H h
 ·rw[aoV (by omega),aoV (by omega),aoV (by omega),aoV (by omega),aoV (by omega),aoV (by omega),aoV (by omega),aoU (by omega)];rw[m18]at hg;cases hg;exact agw H h
 ·rw[aoV (by omega),aoV (by omega),aoV (by omega),aoV (by omega),aoV (by omega),aoV (by omega),aoV (by omega),aoU (by omega)];rw[m19]at hg;cases hg;exact aeo H h
 ·rw[aoV (by omega),aoV (by omega),aoV (by omega),aoV (by omega),aoV (by omega),aoV (by omega),aoV (by omega),aoV (by omega),aoU (by omega)];rw[m20]at hg;cases hg;exact ahV H h
 ·rw[aoV (by omega),aoV (by omega),aoV (by omega),aoV (by omega),aoV (by omega),aoV (by omega),aoV (by omega),aoV (by omega),aoU (by omega)];rw[m21]at hg;cases hg;exact ag8 H h
 ·rw[aoV (by omega),aoV (by omega),aoV (by omega),aoV (by omega),aoV (by omega),aoV (by omega),aoV (by omega),aoV (by omega),aoU (by omega)];rw[m22]at hg;cases hg;exact acR H h
end
end Go.Proofs.Z
namespace Go.Proofs.Z
open Go Go.Bw
def XX(c:Nat)(s:bB)(w:aj)(fr:List Rn):Prop:=sV c s {w with o7:=[]} [] fr
section
variable {n c:Nat} {s:bB} {w:aj} {fr:List Rn}
def Pw(s:bB)(t:Int):Bool:=(decide (0<=t)&&decide (t<8))&&s.di (lV .i64 t 7).toNat
theorem abK{t:Int}(h:Pw s t=true):(0<=t/\t<8)/\s.di t.toNat=true:=by unfold Pw at h;rw[aoX,aoX,decide_eq_true_eq,decide_eq_true_eq]at h;exact⟨h.1,by rw[← LL h.1];exact h.2⟩
theorem adN(k:XX c s w fr)(t:Int):dN n {w with o7:=[]} t=some (Pw s t)/\dN n w t=some (Pw s t):=by have a7:=T5 t;have e:w.di (lV .i64 t 7).toNat=s.di (lV .i64 t 7).toNat:=(k.al _ (by omega)).symm;unfold dN Pw;rw[bK a7.1 (by omega),Bool.or_true,ax rfl];exact⟨by rw[← e],by rw[← e]⟩
theorem Ry(x:aq):jJ n x=if Pw x.av x.aE=true then(match mW x.c.Do with
  |none=>some (⟨2,0,0⟩,none)
  |some g=>tr (g n x) (λe=>(⟨e,0,0⟩,none)) λy=>some (y.1,some y.2))else some (⟨12,0,0⟩,none):=by
 have a7:=T5 x.aE;unfold jJ;rw[ax (by rw[bK a7.1 (by omega),Bool.or_true]),PT];unfold Pw mW;split
 ·cases NB x.c.Do<;>rfl
 ·rfl
theorem aoh(hn:c+400<=n/\3000<=n/\c<=50000)(k:XX c s w fr)(t:Int){a:aN}(ha:yu a){run:Rn}(hrun:A0 run.At/\A0 run.N)(hpg:∀p,run.At<=p->p<run.At+run.N->¬dL fr p/\∀y,aQ w.aC.T.B y->¬IS w.aC.T y p){a3:Nat->Int}(ha3:jM a3=run):
  ∃s' r bk w' v,ig n s t a run=some (s',r,bk)/\l6 n w t (ri a) a3=some (w',v)/\r.E=v.E/\v.W=r.W/\(0<=r.W/\r.W<4294967296)/\(a.Do≠3->v.V=r.V)/\sV (c+60) s' w' bk fr:=by
 unfold ig;rw[aJ,Ry,Zh (adN k t).1];dsimp only;have err:∀e,e≠0->∃s' r bk w' v,(bd (some ((⟨e,0,0⟩:aA),(none:Option aq))) λeP=>oc eP.2 (cn (eP.1.E !=0) (some (s,eP.1,([]:List aB))) none) λSP=>cn (eP.1.E !=0) (some (s,eP.1,([]:List aB))) (some (SP.av,eP.1,SP.gO)))=some (s',r,bk)/\(some (({w with o7:=[]}:aj),(⟨e,0,0⟩:aH)))=some (w',v)/\r.E=v.E/\v.W=r.W/\(0<=r.W/\r.W<4294967296)/\(a.Do≠3->v.V=r.V)/\sV (c+60) s' w' bk fr:=λe he=>by refine⟨s,⟨e,0,0⟩,[],{w with o7:=[]},⟨e,0,0⟩,?_,rfl,rfl,rfl,⟨Int.le_refl _,by dsimp only;decide⟩,λ_ =>rfl,sV.fE k (by omega)⟩;show cn (e !=0) _ _ =_;rw[ak (rj he)]
 by_cases hal:Pw s t=true
 ·obtain⟨ht,ahH⟩:=abK hal
  rw[aoU hal,aoU hal];cases hg:mW a.Do with
  |none=>
   have:IQ n {w with o7:=[]} t (ri a) a3=some ({w with o7:=[]},⟨2,0,0⟩):=by
    have hd:a.Do<1\/22<a.Do:=by
     refine Classical.byContradiction λh=>?_;have hd:a.Do=1\/a.Do=2\/a.Do=3\/a.Do=4\/a.Do=5\/a.Do=6\/a.Do=7\/a.Do=8\/a.Do=9\/a.Do=10\/a.Do=11\/a.Do=12\/a.Do=13\/a.Do=14\/a.Do=15\/a.Do=16\/a.Do=17\/a.Do=18\/a.Do=19\/a.Do=20\/a.Do=21\/a.Do=22:=by omega
     obtain⟨m1,m2,m3,m4,m5,m6,m7,m8,m9,m10,m11,m12,m13,m14,m15,m16,m17,m18,m19,m20,m21,m22⟩:=Z5;rcases hd with h|h|h|h|h|h|h|h|h|h|h|h|h|h|h|h|h|h|h|h|h|h<;>rw[h]at hg<;>first|(rw[m1]at hg;cases hg)|(rw[m2]at hg;cases hg)|(rw[m3]at hg;cases hg)|(rw[m4]at hg;cases hg)|(rw[m5]at hg;cases hg)|(rw[m6]at hg;cases hg)|(rw[m7]at hg;cases hg)|(rw[m8]at hg;cases hg)|(rw[m9]at hg;cases hg)|(rw[m10]at hg;cases hg)|(rw[m11]at hg;cases hg)|(rw[m12]at hg;cases hg)|(rw[m13]at hg;cases hg)|(rw[m14]at hg;cases hg)|(rw[m15]at hg;cases hg)|(rw[m16]at hg;cases hg)|(rw[m17]at hg;cases hg)|(rw[m18]at hg;cases hg)|(rw[m19]at hg;cases hg)|(rw[m20]at hg;cases hg)|(rw[m21]at hg;cases hg)|(rw[m22]at hg;cases hg)
    have e0:(ri a).Do=a.Do:=rfl;unfold IQ;rw[e0,aoV (by omega),aoV (by omega),aoV (by omega),aoV (by omega),aoV (by omega),aoV (by omega),aoV (by omega),aoV (by omega),aoV (by omega)]
   rw[this];exact err 2 (by decide)
  |some g=>
   have H:Hc n c (⟨s,t,a,run,0,false,[]⟩:aq) {w with o7:=[]} fr:=⟨k,rfl,rfl,ht,ahH,ha,hn⟩;rcases al0 H hg rfl rfl hrun (λp h1 h2=>⟨⟨(hpg p h1 h2).1,jY p⟩,(hpg p h1 h2).2⟩) ha3 with⟨e,he,p,q⟩|⟨r,x',w',v,p,q,h1,h2,h3,h4,h5,h6⟩
   ·have q:IQ n {w with o7:=[]} t (ri a) a3=_ :=q
    dsimp only;rw[p,q];exact err e he
   ·have q:IQ n {w with o7:=[]} t (ri a) a3=_ :=q
    dsimp only;rw[p,q];refine⟨x'.av,r,x'.gO,w',v,?_,rfl,h1.trans h2.symm,h3,h4,h5,h6⟩;show cn (r.E !=0) _ _ =_;rw[ae (by rw[h1];rfl)]
 ·rw[aoV hal,aoV hal]
  exact err 12 (by decide)
end
end Go.Proofs.Z
namespace Go.Proofs.Z
open Go Go.Bw
section
variable {n c:Nat} {s:bB} {w:aj} {fr:List Rn}
theorem UW(k:XX c s w fr){a:aN}(ha:yu a):∃a',uM n w a=some a'/\yu a':=by
 have hr:=ha.cr;have hs:=ha.cs;have tail:∀(b:aN),yu b->b.S=a.S->∀B:aD,(∀i,i<32->0<=B.gA i/\B.gA i<=8388607)->∃a',(gu (!((decide (1<=(wr .i64 a.S))&&decide ((wr .i64 a.S)<=32))==true)||bQ (wr .i64 ((wr .i64 a.S)-1)) 32)<|cn (((decide (1<=(wr .i64 a.S))&&decide ((wr .i64 a.S)<=32))&&((B.Is (Int.toNat (wr .i64 ((wr .i64 a.S)-1))))==1))) (bd (fk n B (wr .i64 ((wr .i64 a.S)-1))) λjl=>lt ({b with S:=wr .u32 jl}:aN) λdZ=>some dZ) (some b))=some a'/\yu a':=λb hb _ B hB=>by
  rw[aL (x:=a.S) (by omega) (by omega),aL (x:=a.S-1) (by omega) (by omega)];by_cases hc:1<=a.S/\a.S<=32
  ·have e:(decide (1<=a.S)&&decide (a.S<=32))=true:=by simpa using hc
   have hg:=hB (a.S-1).toNat (by omega);rw[e,ax (by rw[bK (by omega) (by omega)];rfl),Bool.true_and];by_cases h2:B.Is (a.S-1).toNat=1
   ·obtain⟨_,_,_,q4,q5⟩:=pB (i:=a.S-1) (g:=B.gA (a.S-1).toNat) (by omega) (by omega) hg.1 hg.2
    rw[ak (by simpa using h2),ah (tH (by omega) (by omega) hg.1 hg.2),aJ,Kq (by omega) (by omega)];exact⟨_,rfl,hb.cd,hb.cr,⟨by dsimp only;omega,q5⟩,hb.ca,hb.cb,hb.cv⟩
   ·rw[ae (by simpa using h2)]
    exact⟨_,rfl,hb⟩
  ·have e:(decide (1<=a.S)&&decide (a.S<=32))=false:=by rw[Bool.and_eq_false_iff,decide_eq_false_iff_not,decide_eq_false_iff_not];omega
   rw[e,ax (by rfl),ae (by rfl)];exact⟨_,rfl,hb⟩
 have mid:∀(b:aN),yu b->b.S=a.S->∃a',(lt (λ(iB:aD)=>gu (!((decide (1<=(wr .i64 a.S))&&decide ((wr .i64 a.S)<=32))==true)||bQ (wr .i64 ((wr .i64 a.S)-1)) 32)<|cn (((decide (1<=(wr .i64 a.S))&&decide ((wr .i64 a.S)<=32))&&((iB.Is (Int.toNat (wr .i64 ((wr .i64 a.S)-1))))==1))) (bd (fk n iB (wr .i64 ((wr .i64 a.S)-1))) λjl=>lt ({b with S:=wr .u32 jl}:aN) λdZ=>some dZ) (some b)) λj27=>cn (((b.Do==12)||(b.Do==13))) (j27 w.aC.K.B) (j27 w.aC.T.B))=some a'/\yu a':=λb hb he=>by
  rw[aJ];cases(b.Do==12)||(b.Do==13)with
  |true=>exact tail b hb he _ k.rk.bj.nW
  |false=>exact tail b hb he _ k.rt.bj.nW
 unfold uM;rw[aJ (α:=aN->Option aN),aL (x:=a.R) (by omega) (by omega),aL (x:=a.R-1) (by omega) (by omega)];by_cases hc:1<=a.R/\a.R<=32
 ·have e:(decide (1<=a.R)&&decide (a.R<=32))=true:=by simpa using hc
  have hg:=k.rt.bj.nW (a.R-1).toNat (by omega);have hg:0<=w.aC.T.B.gA (a.R-1).toNat/\w.aC.T.B.gA (a.R-1).toNat<=8388607:=hg;rw[e,ax (by rw[bK (by omega) (by omega)];rfl),Bool.true_and];by_cases h2:w.aC.T.B.Is (a.R-1).toNat=1
  ·obtain⟨_,_,_,q4,q5⟩:=pB (i:=a.R-1) (g:=w.aC.T.B.gA (a.R-1).toNat) (by omega) (by omega) hg.1 hg.2
   rw[ak (by simpa using h2),ah (tH (by omega) (by omega) hg.1 hg.2),aJ,Kq (by omega) (by omega)];exact mid _ ⟨ha.cd,⟨by dsimp only;omega,q5⟩,ha.cs,ha.ca,ha.cb,ha.cv⟩ rfl
  ·rw[ae (by simpa using h2)]
   exact mid a ha rfl
 ·have e:(decide (1<=a.R)&&decide (a.R<=32))=false:=by rw[Bool.and_eq_false_iff,decide_eq_false_iff_not,decide_eq_false_iff_not];omega
  rw[e,ax (by rfl),ae (by rfl)];exact mid a ha rfl
theorem anh{a:aN}(ha:yu a):FR n a=some (ri a):=by have h1:=ha.cd;have h2:=ha.cr;have h3:=ha.cs;have h4:=ha.ca;have h5:=ha.cb;unfold FR;rw[aJ,aL (x:=a.Do) (by omega) (by omega),aL (x:=a.R) (by omega) (by omega),aL (x:=a.S) (by omega) (by omega),aL (x:=a.A) (by omega) (by omega),aL (x:=a.B) (by omega) (by omega)];rfl
theorem XX.sub(k:XX c s w fr){fr':List Rn}(hc:rP fr')(h:∀p,dL fr' p->dL fr p):XX c s w fr':=
 {k with pg:=⟨hc,λy p hy hp a=>k.pg.f y p hy hp (h p a),k.pg.d,k.pg.b,λp hp=>absurd hp (jY p),k.pg.bd⟩}
theorem aj3(hn:110<=n){P:dK}(hP:rP P.qx.l)(m:Int):∃(run:Rn) (is:Bool) (P':dK),qW n P m=some (run,is,P')/\rP P'.qx.l/\(∀p,dL P'.qx.l p->dL P.qx.l p)/\(is=true->(A0 run.At/\A0 run.N)/\∀p,run.At<=p->p<run.At+run.N->dL P.qx.l p/\¬dL P'.qx.l p):=by
 unfold qW;by_cases h1:m<1
 ·rw[ak (aoY h1)]
  refine⟨_,_,_,rfl,hP,λp h=>h,λ_ =>⟨⟨by constructor<;>(dsimp only;decide),by constructor<;>(dsimp only;decide)⟩,λp h2 h3=>?_⟩⟩;dsimp only at h2 h3;omega
 ·rw[ae (ao5 h1),ah (aej hn hP m)]
  rcases aek hP (k:=m)with⟨e,_⟩|⟨v,e,v0,hv,_⟩
  ·rw[e,ae rfl]
   exact⟨_,_,_,rfl,hP,λp h=>h,λh=>absurd h (by decide)⟩
  ·have hok:=hv.1
   have akR:A0 v:=by unfold Jt at hok;exact⟨by omega,by omega⟩
   have hm:A0 m:=by unfold Jt at hok;exact⟨by omega,by omega⟩
   obtain⟨r',g,t1,t2,t3,t4⟩:=acM hn hP akR hm;have hg:=t2.2 hv;obtain⟨q1,q2⟩:=t4 hg;rw[e,ak rfl,ah t1];refine⟨_,_,_,rfl,q1,λp h=>((q2 p).1 h).1,λ_ =>⟨⟨akR,hm⟩,λp h2 h3=>⟨hv.2 p h2 h3,λh=>((q2 p).1 h).2 ⟨h2,h3⟩⟩⟩⟩
theorem Wk{l:List Rn}{k:Nat}(hk:k<l.length):l.take (k+1)=l.take k++[l.getD k default]:=by rw[ao4 hk,fq hk]
theorem aea(hn:200<=n){P:dK}(hP:rP P.qx.l){bk:List Rn}(hb:CL bk)(hf:∀p,dL bk p->¬dL P.qx.l p):∃P':dK,qg n P bk=some (true,P')/\rP P'.qx.l/\∀p,dL P'.qx.l p↔dL P.qx.l p\/dL bk p:=by
 have hlen:=(Vj hb).len;unfold qg;refine dU (λ(i:Int) (Q:dK)=>∃k:Nat,i=k/\k<=bk.length/\rP Q.qx.l/\∀p,dL Q.qx.l p↔dL P.qx.l p\/dL (bk.take k) p) (λi _ =>bk.length-i.toNat) (λo=>∃P':dK,o=some (true,P')/\rP P'.qx.l/\∀p,dL P'.qx.l p↔dL P.qx.l p\/dL bk p) ?_ n 0 P ⟨0,rfl,by omega,hP,λp=>⟨.inl,λh=>h.elim id λh=>absurd h (jY p)⟩⟩ (by omega);rintro kk i Q ⟨k,rfl,hk,hQ,hm⟩ ih;by_cases c:k<bk.length
 ·have g:bQ (k:Int) bk.length=true:=bK (by omega) (by omega)
  have hy:bk.getD k default∈bk:=gP c;have hok:=hb.nW _ hy;have h64:A0 (bk.getD k default).At/\A0 (bk.getD k default).N:=by unfold Jt at hok;exact⟨⟨by omega,by omega⟩,⟨by omega,by omega⟩⟩
  have hsn:=Wk c;have hg4:CL (bk.take k++[bk.getD k default]):=by rw[← hsn];have:bk=bk.take (k+1)++bk.drop (k+1):=(List.take_append_drop _ _).symm;rw[this]at hb;exact(JZ.1 hb).1
  obtain⟨_,_,anW⟩:=ze.1 hg4;rw[ak (aoY (by omega)),ax g,ax g,aoZ];obtain⟨r',gg,t1,t2,t3,t4⟩:=Vm (n:=n) (by omega) hQ h64.1 h64.2;have P1:gg=true:=t2.2 ⟨hok,λp h1 h2 h3=>by
   rcases(hm p).1 h3 with h|h
   ·exact hf p ⟨_,hy,h1,h2⟩ h
   ·exact anW p h1 h2 h⟩
  subst P1;obtain⟨q1,q2⟩:=t4 rfl;rw[ah t1,ae (b:= !true) rfl,aJ,aL (by omega) (by omega)];refine ih _ _ ⟨k+1,by omega,by omega,q1,λp=>?_⟩ (by omega);show dL r'.l p↔_;rw[q2 p,hm p,hsn,CS,or_assoc]
 ·rw[ae (ao5 (by omega))]
  rw[List.take_of_length_le (by omega)]at hm;exact⟨Q,rfl,hQ,hm⟩
theorem sV.gO{bk:List Rn}(j:sV c s w bk fr){fr':List Rn}(hc:rP fr')(h:∀p,dL fr' p↔dL fr p\/dL bk p):XX c s w fr':=
 {j with
  pg:=⟨hc,λy p hy hp a=>((h p).1 a).elim (j.pg.f y p hy hp) λb=>j.pg.bd y p hy b hp,j.pg.d,⟨λy hy=>(by cases hy),List.Pairwise.nil⟩,λp hp=>absurd hp (jY p),λy p _ hp=>absurd hp (jY p)⟩
  bl:=rfl}
end
end Go.Proofs.Z
namespace Go.Proofs.Z
open Go Go.Bw
theorem N5:nX 20000=some true:=by kernel_rfl
theorem OI{x:Int}(h:aQ gG.B x):False:=Nm (fg h).2
theorem ahh{fr:List Rn}(hc:rP fr):XX 0 {dX with di:=dm dX.di 0 true,qm:=dm dX.qm 0 true} {fR with di:=dm fR.di 0 true,qm:=dm fR.qm 0 true} fr:=by
 refine⟨ae3.1,ae3.2,aas,ZF,Nat.le_refl _,afr.1,afr.2,λi _ =>abu,λi _ =>rfl,λi _ =>rfl,λh hg=>(OI hg).elim,λi=>Nat.zero_le _,⟨λi k m hm=>?_,λi k m i' k' m' hm=>?_⟩,⟨hc,λh p hg=>(OI hg).elim,λh k p hg=>(OI hg).elim,⟨λy hy=>(by cases hy),List.Pairwise.nil⟩,λp hp=>absurd hp (jY p),λh p hg=>(OI hg).elim⟩,rfl⟩
 ·have:=hm.2.1
  simp at this
 ·have:=hm.2.1
  simp at this
def acv(z:kL):Prop:=((0<=z.gT/\z.gT<=255)/\((0<=z.C.Do/\z.C.Do<=255)/\(0<=z.C.R/\z.C.R<=4294967295)/\(0<=z.C.S/\z.C.S<=4294967295)/\(0<=z.C.A/\z.C.A<=4294967295)/\(0<=z.C.B/\z.C.B<=4294967295)/\(0<=z.C.V/\z.C.V<=18446744073709551615)))
theorem acv.call{z:kL}(h:acv z):yu z.C:=by obtain⟨_,h1,h2,h3,h4,h5,h6⟩:=h;exact⟨h1,⟨h2.1,by omega⟩,⟨h3.1,by omega⟩,⟨h4.1,by omega⟩,⟨h5.1,by omega⟩,h6⟩
end Go.Proofs.Z
namespace Go.Proofs.Z
open Go Go.Bw
section
variable {n c:Nat} {s:bB} {w:aj} {fr:List Rn}
theorem Z1(hn:c+400<=n/\3000<=n/\c<=50000)(k:XX c s w fr)(t:Int){a:aN}(ha:yu a):∃m,iT n s t a=some m:=by
 unfold iT;by_cases hd:a.Do=2;rotate_left
 ·exact⟨0,by rw[aJ,ae (by simp[hd]),ak (by simp[hd])]⟩
 rw[aJ,ak (b:=(a.Do !=2)==false) (by rw[hd];rfl),Ry];dsimp only;by_cases hal:Pw s t=true;rotate_left
 ·refine⟨0,?_⟩
  rw[aoV hal];show cn (a.Do !=2||(12:Int)!=0) _ _ =_;rw[ak (by simp)]
 obtain⟨ht,ahH⟩:=abK hal;have H:Hc n c (⟨s,t,a,fV,0,true,[]⟩:aq) {w with o7:=[]} fr:=⟨k,rfl,rfl,ht,ahH,ha,hn⟩;obtain⟨w',v,pages,q,hp⟩:=(VW H rfl ⟨⟨by show _ <=(0:Int);decide,by show(0:Int)<=_;decide⟩,⟨by show _ <=(0:Int);decide,by show(0:Int)<=_;decide⟩⟩ (λp h1 h2=>by
  have h1:(0:Int)<=p:=h1;have h2:p<(0:Int)+0:=h2;omega) (a3:=λ_ =>0) rfl).2 rfl rfl
 rw[aoU hal,show mW a.Do=some fI from hd▸rfl];dsimp only;rcases hp with⟨e,he,p,rfl⟩|⟨x',p,h1⟩
 ·refine⟨0,?_⟩
  rw[p];show cn (a.Do !=2||e !=0) _ _ =_;rw[ak (by rw[Bool.or_eq_true];exact .inr (rj he))]
 ·refine⟨pages,?_⟩
  rw[p];show cn (a.Do !=2||(0:Int)!=0) _ _ =_;rw[ae (by rw[hd];rfl)];exact congrArg some h1
def MG(e:aT)(A:Int)(m:Nat):List Int:=(List.range m).map λ(i:Nat)=>(plV e.aU 0 (A+(i:Int))).1
theorem KU(e:aT)(A:Int)(m:Nat):(MG e A m).length=m:=by simp[MG]
theorem adn(hn:110<=n){e:aT}(h4:GD e){A B:Int}(hA:0<=A/\A<4294967296)(hB:1<=B/\B<=8):
  cH (λk47 (gy:(List Int)) (xN:Int)=>cn (decide (xN<(wr .i64 B))) (bd (ld n e (wr .i64 ((wr .i64 A)+xN))) λtC=>gu (gw gy.length 1 8)<|lt (gy++([tC.1]):List Int) λyN=>k47 yN (wr .i64 (xN+1))) (some (gy,(0:Int)))) n ([]) 0=some (MG e A B.toNat,0):=by
 refine dU (λ(l:List Int) (i:Int)=>∃k:Nat,i=k/\(k:Int)<=B/\l=MG e A k) (λ_ i=>(B-i).toNat) (λo=>o=some (MG e A B.toNat,0)) ?_ n [] 0 ⟨0,rfl,by omega,rfl⟩ (by omega);rintro kk l i ⟨k,rfl,hk,rfl⟩ ih;rw[aL (x:=B) (by omega) (by omega),aL (x:=A) (by omega) (by omega)];by_cases hx:(k:Int)<B
 ·rw[ak (aoY hx),aL (x:=A+k) (by omega) (by omega),ah (ZE hn h4 ⟨by omega,by omega⟩),ax (eM (by rw[KU];omega) (by rw[KU];omega)),aJ,aL (by omega) (by omega)]
  exact ih _ _ ⟨k+1,by omega,by omega,(KS k λi=>(plV e.aU 0 (A+(i:Int))).1).symm⟩ (by omega)
 ·rw[ae (ao5 hx),show B.toNat=k by omega]
def LK(a:aN):Bool:=((((a.Do !=3)&&(a.Do !=4))||decide (a.B<1))||decide (8<a.B))
theorem ado(hn:110<=n)(k:XX c s w fr){a:aN}(ha:yu a):
  mV n s a=some (if aM w.aC.T.B a.R=true then(if LK a=true then([],2)else if(sK w a.R).jW<a.A+a.B then([],9)else(MG (sK w a.R) a.A a.B.toNat,0))else([],4)):=by
 have rt:gI s.aC.T w.aC.T:=k.rt;have hA:=ha.ca;have hB:=ha.cb;unfold mV;rw[ah (z8 rt ha.cr.1 ha.cr.2)];cases hg:aM w.aC.T.B a.R with
 |false=>rfl
 |true=>
  have GK:aQ w.aC.T.B a.R:=⟨ha.cr.1,hg⟩;have h4:GD (sK w a.R):=Ls rt k.i6 GK;have he:(p8 s.aC.T w.aC.T a.R).E=sK w a.R:=(FF rt GK).e;have hlo:=h4.lo;have hhi:=h4.hi;have hsu:=h4.gx.sum;rw[aoU rfl,aoU rfl,ae (by rfl)];cases hb:LK a with
  |true=>exact ak hb
  |false=>
   have hb':=hb;unfold LK at hb';simp only[Bool.or_eq_false_iff,decide_eq_false_iff_not]at hb';obtain⟨⟨_,b1⟩,b2⟩:=hb';refine(ae hb).trans ?_;rw[aoV (by decide),he,aL (x:=a.B) (by omega) (by omega),aL (x:=a.A) (by omega) (by omega),aL (x:=(sK w a.R).jW-a.B) (by omega) (by omega)];by_cases hl:(sK w a.R).jW<a.A+a.B
   ·rw[ak (aoY (by omega)),aoU hl]
   ·rw[ae (ao5 (by omega)),aoV hl]
    have:=adn (n:=n) hn h4 (A:=a.A) (B:=a.B) hA ⟨by omega,by omega⟩;rw[aL (x:=a.B) (by omega) (by omega),aL (x:=a.A) (by omega) (by omega)]at this;exact this
theorem age(k:XX c s w fr){a:aN}(ha:yu a){j:Int->List Int×Int->Option Bool}
  (hj:∀e (p:List Int×Int),j e p=cn ((p.2!=e)||(e !=0)) (cl (((p.2==e)&&((p.1.length:Int)==0))==true) (nX 20000) default λX8=>some (((p.2==e)&&((p.1.length:Int)==0))&&X8)) (lt ({aU:=(w.aC.T.R (aY a.R)).E.aU,jW:=(w.aC.T.R (aY a.R)).E.jW}:bP) λafU=>bd (eH 20000 afU) λX7=>cn (((p.1.length:Int)!=(wr .i64 a.B))) (some false) (fK (λahb (C8:Int)=>cn (decide (C8<(p.1.length:Int))) (gu (bQ C8 p.1.length)<|gu (bQ (wr .i64 ((wr .i64 a.A)+C8)) X7.length)<|cn (((p.1.getD (Int.toNat C8) default)!=(X7.getD (Int.toNat (wr .i64 ((wr .i64 a.A)+C8))) default))) (some false) (ahb (wr .i64 (C8+1)))) (bd (nX 20000) λafS=>some afS)) 20000 0)))(hg:aQ w.aC.T.B a.R)(hb:LK a=false)(hl:¬(sK w a.R).jW<a.A+a.B):j 0 (MG (sK w a.R) a.A a.B.toNat,0)=some true:=by
 have rt:gI s.aC.T w.aC.T:=k.rt;have hA:=ha.ca;have hB:=ha.cb;have h4:GD (sK w a.R):=Ls rt k.i6 hg;have hlo:=h4.lo;have hhi:=h4.hi;have hsu:=h4.gx.sum;unfold LK at hb;simp only[Bool.or_eq_false_iff,decide_eq_false_iff_not]at hb;obtain⟨⟨_,b1⟩,b2⟩:=hb;have hlen:=tT h4.gx.gd.UU;have hby:=Aj (n:=20000) (by omega) (x:=({aU:=(w.aC.T.R (aY a.R)).E.aU,jW:=(w.aC.T.R (aY a.R)).E.jW}:bP)) h4.gx;rw[hj,ae (by rfl),aJ,ah hby];dsimp only;rw[KU,aL (x:=a.B) (by omega) (by omega),ae (by simp;omega),aL (x:=a.A) (by omega) (by omega)];have e1:(w.aC.T.R (aY a.R)).E.aU.map jM=(sK w a.R).aU:=rfl;rw[e1];refine je (λ(i:Int)=>∃k:Nat,i=k/\(k:Int)<=a.B) (λi=>(a.B-i).toNat) (λo=>o=some true) ?_ 20000 0 ⟨0,rfl,by omega⟩ (by omega);rintro kk i ⟨i,rfl,hi⟩ ih;by_cases hx:(i:Int)<a.B
 ·rw[ak (aoY (by omega)),ax (bK (by omega) (by omega)),aL (x:=a.A+i) (by omega) (by omega),ax (bK (by omega) (by omega)),aoZ]
  have e2:(MG (sK w a.R) a.A a.B.toNat).getD i default=(ny (sK w a.R).aU).getD (a.A+(i:Int)).toNat default:=by
   have e3:(MG (sK w a.R) a.A a.B.toNat).getD i default=(plV (sK w a.R).aU 0 (a.A+(i:Int))).1:=by unfold MG;rw[List.getD,List.getElem?_map,List.getElem?_range (by omega)];rfl
   rw[e3];unfold plV;rw[aoU ⟨by omega,by omega⟩,Int.sub_zero];rfl
  rw[e2,ae (by simp),aL (by omega) (by omega)];exact ih _ ⟨i+1,by omega,by omega⟩ (by omega)
 ·rw[ae (ao5 (by omega))]
  exact(ah N5).trans rfl
end
theorem MH{l:List kL}(hl:∀a∈l,acv a){b:aN}(hb:(0<=b.Do/\b.Do<=255)/\(0<=b.R/\b.R<=4294967295)/\(0<=b.S/\b.S<=4294967295)/\(0<=b.A/\b.A<=4294967295)/\(0<=b.B/\b.B<=4294967295)/\(0<=b.V/\b.V<=18446744073709551615)):sG 20000 l b=some true:=by
 have hb:yu b:=by obtain⟨h1,h2,h3,h4,h5,h6⟩:=hb;exact⟨h1,⟨h2.1,by omega⟩,⟨h3.1,by omega⟩,⟨h4.1,by omega⟩,⟨h5.1,by omega⟩,h6⟩
 unfold sG;by_cases hc:60<l.length
 ·rw[ak (aoY (by omega)),ah N5]
 rw[ae (ao5 (by omega))];obtain⟨r0,o1,o2,_⟩:=akd (n:=20000) 64;have b1:ye 20000=some {dX with di:=dm dX.di 0 true,qm:=dm dX.qm 0 true}:=rfl;have b2:BW 20000=some {fR with di:=dm fR.di 0 true,qm:=dm fR.qm 0 true}:=rfl;rw[ah b1,ah b2,ah o1,aJ];have k0:=ahh o2;refine WX (λ(i:Int) (P:dK) (w:aj) (s:bB)=>∃(k:Nat),i=k/\k<=l.length/\rP P.qx.l/\XX (60*k) s w P.qx.l) (λi _ _ _ =>l.length-i.toNat) (λo=>o=some true) ?_ 20000 0 ⟨r0⟩ _ _ ⟨0,rfl,by omega,o2,k0⟩ (by omega);rintro kk i P w s ⟨k,rfl,hk,hP,hK⟩ ih;by_cases hx:k<l.length
 ·have hm:=hl _ (gP (l:=l) (i:=k) hx)
  have g1:bQ (k:Int) l.length=true:=bK (by omega) (by omega);rw[ak (aoY (by omega)),ax g1,aoZ];generalize l.getD k default=a at hm;have ht:=hm.1;obtain⟨a',n1,n2⟩:=UW (n:=20000) hK hm.call;obtain⟨m,d1⟩:=Z1 (n:=20000) (by omega) hK a.gT n2;have ho:=anh (n:=20000) n2;obtain⟨run,is,P',p1,p2,p3,p4⟩:=aj3 (n:=20000) (by omega) hP m;rw[ah n1,ax g1,aL (x:=a.gT) (by omega) (by omega),ah d1,ah p1];have hK':=hK.sub p2 p3;cases his:is with
  |false=>rw[ak (by rfl),aL (by omega) (by omega)];exact ih _ _ _ _ ⟨k+1,by omega,by omega,p2,sV.fE hK' (by omega)⟩ (by omega)
  |true=>
   obtain⟨q1,q2⟩:=p4 his;obtain⟨s',r,bk,w',v,x1,x2,x3,x4,x5,x6,x7⟩:=aoh (n:=20000) (c:=60*k) (by omega) hK' a.gT n2 q1 (λp h1 h2=>⟨(q2 p h1 h2).2,λy hy hp=>hK.pg.f y p hy hp (q2 p h1 h2).1⟩) (a3:=dm (dm (λ_ =>0) 0 run.At) 1 run.N) (acK _ _);obtain⟨P2,y1,y2,y3⟩:=aea (n:=20000) (by omega) p2 x7.pg.b x7.pg.bf;have hK2:=x7.gO y2 y3;rw[ae (b:= !true) rfl,ax g1,ah x1,ax g1,ah ho,aJ,ah x2];dsimp only;rw[ah y1,ae (b:= !true) rfl,aL (x:=(k:Int)+1) (by omega) (by omega)];have e5:60*(k+1)=60*k+60:=by omega
   exact ih _ _ _ _ ⟨k+1,by omega,by omega,y2,by rw[e5];exact hK2⟩ (by omega)
 ·rw[ae (ao5 (by omega))]
  have rt:gI s.aC.T w.aC.T:=hK.rt;obtain⟨a,n1,n2⟩:=UW (n:=20000) hK hb;have hp:=ado (n:=20000) (by omega) hK n2;have hr:=n2.cr;have hA:=n2.ca;have hB:=n2.cb;rw[ah n1,ah hp,aL (x:=a.R) (by omega) (by omega)];have uP:(cl (((true:Bool)&&true)==true) (nX 20000) default λX8=>some ((true&&true)&&X8))=some true:=(uj (by rfl) N5).trans rfl;cases hg:aM w.aC.T.B a.R with
  |false=>obtain⟨x,e⟩:=Zf (n:=20000) (by omega) rt hr.1 hg;rw[ah e,aJ,ak (by rfl)];exact(ak (by rfl)).trans uP
  |true=>
   have GK:aQ w.aC.T.B a.R:=⟨hr.1,hg⟩;rw[ah (KQ (n:=20000) (by omega) rt GK),aoU rfl,aJ,ae (b:=((0:Int)!=0)) (by rfl)];cases hbd:LK a with
   |true=>refine(ak hbd).trans ?_;rw[aoU rfl];exact(ak (by rfl)).trans uP
   |false=>
    refine(ae hbd).trans ?_;have ahE:=hbd;unfold LK at ahE;simp only[Bool.or_eq_false_iff,decide_eq_false_iff_not]at ahE;obtain⟨⟨_,b1⟩,b2⟩:=ahE;rw[aoV (by decide),aL (x:=a.A) (by omega) (by omega),aL (x:=a.B) (by omega) (by omega),aL (x:=a.A+a.B) (by omega) (by omega)];by_cases P0:(sK w a.R).jW<a.A+a.B
    ·rw[aoU P0]
     exact(ak (aoY P0)).trans ((ak (by rfl)).trans uP)
    ·rw[aoV P0]
     refine(ae (ao5 P0)).trans ?_;have:=age hK n2 (j:=λe p=>_) (λ_ _ =>rfl) GK hbd P0;rw[aL (x:=a.A) (by omega) (by omega),aL (x:=a.B) (by omega) (by omega)]at this;exact this
end Go.Proofs.Z
namespace Go.Rw
open Go Go.Bw Go.RowKit
variable {G:Sg} {P:Program}
def Hsn(W w:World):Prop:=W.heap.size<=w.heap.size/\∀b,b<W.heap.size->w.heap[b]? =W.heap[b]?
theorem ad8{g:IntKind×List (Int×Nat)}{mb:Nat}{W w:World}(h:GlX g mb W)(hs:Hsn W w):GlX g mb w:=by
 obtain⟨h1,l,⟨es,clock,h2,h3⟩,h4⟩:=h;have keep:∀{b:Nat} {o:Obj},W.heap[b]? =some o->w.heap[b]? =some o:=λ{b o} hb=>(hs.2 b (ao2.1 hb).1).trans hb;refine⟨?_,l,⟨es,clock,keep h2,h3⟩,h4⟩;unfold World.cell? at h1 ⊢;cases e:W.heap[0]? with
 |none=>rw[e]at h1;cases h1
 |some o=>rw[e]at h1;rw[keep e];exact h1
theorem ahO{α:Type}{W:World}{v:Value}{L:dB α}[bR L]{xs:List α}(h:Fz (λw=>bG [] W w) v L xs):Fz (Hsn W) v L xs:=
 ⟨h.sl,λw hw=>Ro.cQ (h.ro {w with os:=W.os,tape:=W.tape,output:=W.output} ⟨rfl,rfl,rfl,hw.1,λk hk _ =>hw.2 k hk⟩) (Nat.le_refl _) λ_ _ =>rfl⟩
theorem Rx{ct:Ct P G}{W:World}{x:HI G ct.s}{y:HL G (br ct.s.dW)}{v:Value}{vs:List Value}(hz:ct.R x y)(hgl:∀g,G.gt=some g->∃mb,GlX g mb W)(hv:∀J:World->Prop,(∀w,J w->Hsn W w)->rl J (λ_ =>none) (ct.s.bl x).1 vs)(h0:(ct.s.bl x).2.1=[])(h1:(iA (λm=>m) ct.s.dW y 0).2.1=[])
  (hro:ct.s.ro x=[])(hout:∀(J:World->Prop) (σ:bT) u us,rl J σ (iA (λm=>m) ct.s.dW y 0).1 (u::us)->u=v):
  Calls P ct.s.k vs.toArray W λe W'=>e= .returned v/\bG [] W W':=by
 have qJ:∀b,b∈List.range W.heap.size↔b<W.heap.size:=λb=>List.mem_range;generalize List.range W.heap.size=bs at qJ;have hR:∀w,Hs [.ext bs (Hsn W)] w->Hsn W w:=λw h=>(h _ List.mem_cons_self).1 w (Nat.le_refl _) λ_ _ =>rfl;have hS:∀w,bG [] W w->Hs [.ext bs (Hsn W)] w:=λw h r hr=>by obtain rfl:=List.mem_singleton.1 hr;exact⟨λw' k1 k2=>⟨Nat.le_trans h.size k1,λb hb=>(k2 b ((qJ b).2 hb)).trans (h.block b hb (by simp))⟩,λb hb=>Nat.lt_of_lt_of_le ((qJ b).1 hb) h.size⟩
 have:=(zf (ct:=ct) (R:=[.ext bs (Hsn W)]) (pW:=[]) (ρ:=λ_ =>none) hz (λg hg=>by
  obtain⟨mb,h⟩:=hgl g hg;exact⟨mb,λw hw=>ad8 h (hR w hw)⟩) (λJ hJ=>hv J λw hw=>hR w (hJ w hw)) h0 h1 (λJ _ r o e=>by rw[hro]at e;cases e) (λ_ _ =>rfl) hout).calls W (λw hw=>hS w (by simpa[cm]using hw)) (cC.nil _ _ _)
 exact this.mono λe W' ⟨_,_,he,hs,_⟩=>⟨he,by simpa[cm]using hs⟩
end Go.Rw
namespace Go.Bw
open Go Go.RowKit
theorem QM{α β:Type}{f:α->Option β}:∀{l:List α} {m:List β},l.mapM f=some m->(∀x∈l,∃y∈m,f x=some y)/\∀y∈m,∃x∈l,f x=some y
 |[],m,h=>by rw[List.mapM_nil]at h;cases h;exact⟨λx h=>(nomatch h),λx h=>(nomatch h)⟩
 |x::l,m,h=>by
  rw[List.mapM_cons]at h;cases hx:f x with
  |none=>rw[hx]at h;cases h
  |some y=>
   rw[hx]at h;cases hl:l.mapM f with
   |none=>rw[hl]at h;cases h
   |some m'=>
    rw[hl]at h;cases h;obtain⟨h1,h2⟩:=QM hl;refine⟨λz hz=>?_,λz hz=>?_⟩
    ·rcases List.mem_cons.1 hz with rfl|hz
     ·exact⟨y,by simp,hx⟩
     ·obtain⟨w,hw,he⟩:=h1 z hz;exact⟨w,by simp[hw],he⟩
    ·rcases List.mem_cons.1 hz with rfl|hz
     ·exact⟨x,by simp,hx⟩
     ·obtain⟨w,hw,he⟩:=h2 z hz;exact⟨w,by simp[hw],he⟩
theorem Vc{H:Type}{x y:Lit×DataW H}:∀{l:List (Lit×DataW H)},y∈DataW.insert x l↔y=x\/y∈l
 |[]=>by simp[DataW.insert]
 |z::l=>by
  unfold DataW.insert;split
  ·simp
  ·rw[List.mem_cons,Vc,List.mem_cons]
   constructor
   ·rintro(h|h|h)
    ·exact .inr (.inl h)
    ·exact .inl h
    ·exact .inr (.inr h)
   ·rintro(h|h|h)
    ·exact .inr (.inl h)
    ·exact .inl h
    ·exact .inr (.inr h)
theorem Ql{H:Type}{y:Lit×DataW H}:∀{l:List (Lit×DataW H)},y∈l.foldr DataW.insert []↔y∈l
 |[]=>Iff.rfl
 |x::l=>by rw[List.foldr_cons,Vc,Ql,List.mem_cons]
theorem zU{β:Type}:∀{l:List (Int×β)} {k:Int},ji l k=none↔∀x∈l,x.1≠k
 |[],k=>⟨λ_ x h=>(nomatch h),λ_ =>rfl⟩
 |p::l,k=>by
  unfold ji;cases h:k==p.1 with
  |true=>
   have:k=p.1:=by simpa using h
   exact⟨λh=>by simp at h,λh2=>absurd this.symm (h2 p (by simp))⟩
  |false=>
   have hn:¬k=p.1:=by simpa using h
   simp only[cond_false,Option.map_eq_none_iff];rw[zU];exact⟨λh2 x hx=>by
    rcases List.mem_cons.1 hx with rfl|hx
    ·exactλe=>hn e.symm
    ·exact h2 x hx,λh2 x hx=>h2 x (by simp[hx])⟩
theorem EA{β:Type}:∀{l:List (Int×β)} {k:Int} {q:Nat×β},ji l k=some q->(k,q.2)∈l
 |[],k,q,h=>by cases h
 |p::l,k,q,h=>by
  unfold ji at h;cases e:k==p.1 with
  |true=>
   have:k=p.1:=by simpa using e
   rw[e]at h;simp only[cond_true,Option.some.injEq]at h;subst h;subst this;simp
  |false=>rw[e]at h;simp only[cond_false,Option.map_eq_some_iff]at h;obtain⟨a,ha,rfl⟩:=h;have:=EA ha;exact ao6 _ this
theorem Te{β:Type}{l l':List (Int×β)}(h:∀x,x∈l↔x∈l')(hf:∀x∈l',∀y∈l',x.1=y.1->x=y)(k:Int)(z:β):qG l k z=qG l' k z/\y7 l k=y7 l' k:=by
 unfold qG y7;cases e:ji l k with
 |none=>have:ji l' k=none:=zU.2 λx hx=>zU.1 e x ((h x).2 hx);rw[this];exact⟨rfl,rfl⟩
 |some q=>
  have m1:=EA e;cases e':ji l' k with
  |none=>exact absurd rfl (zU.1 e' _ ((h _).1 m1))
  |some q'=>have m2:=EA e';have:=hf _ ((h _).1 m1) _ m2 rfl;have:q.2=q'.2:=(Prod.mk.inj this).2;simp[this]
theorem YE{H:Type}{enc:TypeId×Value->H}{P:Program}{w:World}{base:Nat}{sp:Nat->Bool}{t k e:TypeId}(ht:P.underlying t=some (.map k e)){fuel:Nat}{cs:List Value}{S:List (Lit×DataW H)}{ps:List MemPlace}(h:DataW.trod enc P w base sp true fuel t cs=some (.map S,ps)):
  ∃b es clock n entries,cs=[.map (some b)]/\w.heap[b]? =some (.map es clock)/\es.all (·.born<clock)=true/\(es.toList.map (·.born)).eraseDups.length=es.size/\
   es.toList.mapM (λx=>(keyOf P k x.key).bind λkey=>if x.val.formed P e=true then(DataW.trod enc P w base sp true n e x.val.cells.toList).map λy=>((key,y.1),y.2)else none)=some entries/\(entries.map (·.1)).foldr DataW.insert []=S:=by
 cases fuel with
 |zero=>simp[DataW.trod]at h
 |succ n=>
  have h0:=h;rw[DataW.trod_step]at h;unfold DataW.trodStep at h;rw[ht]at h;split at h<;>try (simp_all;done)
  rename_i k' e' b hkk;have hke:k=k'/\e=e':=by simpa using hkk
  obtain⟨rfl,rfl⟩:=hke;clear h;rw[DataW.trod_step]at h0;unfold DataW.trodStep at h0;cases hb:w.heap[b]? with
  |none=>simp[ht,hb]at h0
  |some o=>
   cases o
   case map es clock=>
    simp only[ht,hb]at h0;split at h0
    ·rename_i hc
     obtain⟨_,_,aaK,vt⟩:=hc;simp only[Option.bind_eq_some_iff]at h0;obtain⟨entries,hm,h3⟩:=h0;split at h3
     ·simp only[Option.some.injEq,Prod.mk.injEq,DataW.map.injEq]at h3
      exact⟨b,es,clock,n,entries,rfl,hb,aaK,vt,hm,h3.1⟩
     ·cases h3
    ·cases h0
   all_goals (simp[ht,hb]at h0;done)
theorem Tg{P:Program}{w:World}{base:Nat}{sp:Nat->Bool}{t k e:TypeId}{kd:IntKind}{fs rs:Array TypeId}{va:Bool}(ht:P.underlying t=some (.map k e))(hk:P.underlying k=some (.int kd))(he:P.underlying e=some (.func fs rs va))
  {fuel:Nat}{cs:List Value}{ps:List MemPlace}(T:List (Int×FuncId))(nm:FuncId->UInt8×List UInt8)
  (h:DataW.trod (funcToken P) P w base sp true fuel t cs=some (.map (T.map λx=>(.int kd x.1, .held ((nm x.2).1::(nm x.2).2))),ps))
  (hone:∀x∈T,((List.range P.funcs.size).filter λf=>(P.funcs[f]?).any (·.name.toUTF8.data.toList==(nm x.2).1::(nm x.2).2))=[x.2]):
  ∃b l,cs=[.map (some b)]/\MpJ b kd (λv:Value=>v) l w/\∀x,x∈l↔x∈T.map λy=>(y.1,Value.func (.func y.2) #[] #[]):=by
 obtain⟨b,es,clock,n,entries,rfl,hb,aaK,vt,hm,hs⟩:=YE ht h;obtain⟨m1,m2⟩:=QM hm;have hS:∀y,y∈entries.map (·.1)↔y∈T.map λx=>((Lit.int kd x.1:Lit),(DataW.held ((nm x.2).1::(nm x.2).2):DataW (List UInt8))):=λy=>by rw[← hs,Ql]
 have key:∀x∈es.toList,∀y,(keyOf P k x.key).bind (λkey=>if x.val.formed P e=true then(DataW.trod (funcToken P) P w base sp true n e x.val.cells.toList).map λy=>((key,y.1),y.2)else none)=some y->∀t∈T,y.1=((Lit.int kd t.1:Lit),(DataW.held ((nm t.2).1::(nm t.2).2):DataW (List UInt8)))->x.key= .int kd t.1/\x.val= .func (.func t.2) #[] #[]:=by
  intro x hx y hy t' ht' hyt;simp only[Option.bind_eq_some_iff]at hy;obtain⟨lit,Tt,h2⟩:=hy;split at h2
  ·rename_i hfm
   simp only[Option.map_eq_some_iff]at h2;obtain⟨z,hz,rfl⟩:=h2;obtain⟨e1,e2⟩:=Prod.mk.inj hyt;subst e1;refine⟨?_,?_⟩
   ·unfold keyOf at Tt
    rw[hk]at Tt;unfold mapKey at Tt;rw[hk]at Tt;cases hxk:x.key<;>rw[hxk]at Tt<;>simp at Tt;obtain⟨⟨rfl,_⟩,rfl⟩:=Tt;rfl
   ·obtain⟨z1,z2⟩:=z
    dsimp only at e2;subst e2;have hv:x.val.cells.toList=[x.val]:=by cases hxv:x.val<;>first|rfl|(rw[hxv]at hfm;simp[Value.formed,he]at hfm)
    rw[hv]at hz;exact func_of_trod he (hone t' ht') hz
  ·cases h2
 let l:List (Int×Value):=es.toList.map λx=>(match x.key with| .int _ i=>i|_ =>0,x.val);have hx:∀x∈es.toList,∃t∈T,x.key= .int kd t.1/\x.val= .func (.func t.2) #[] #[]:=λx hx=>by obtain⟨y,hy,hxy⟩:=m1 x hx;have:=(hS y.1).1 (List.mem_map_of_mem hy);obtain⟨t',ht',e1⟩:=List.mem_map.1 this;exact⟨t',ht',key x hx y hxy t' ht' e1.symm⟩
 refine⟨b,l,rfl,⟨es,clock,hb,⟨?_,?_,?_⟩⟩,λp=>?_⟩
 ·rw[List.map_map]
  refine List.map_congr_left λx hx'=>?_;obtain⟨t',_,e1,_⟩:=hx x hx';simp[e1]
 ·intro x hx'
  have:=Array.all_eq_true_iff_forall_mem.1 aaK x (by simpa using hx');simpa using this
 ·exact Go.ChangeMaps.nodup_of_eraseDups _ (by rw[vt];simp)
 ·constructor
  ·intro hp
   obtain⟨x,hx',rfl⟩:=List.mem_map.1 hp;obtain⟨t',ht',e1,e2⟩:=hx x hx';exact List.mem_map.2 ⟨t',ht',by simp[e1,e2]⟩
  ·intro hp
   obtain⟨t',ht',rfl⟩:=List.mem_map.1 hp;have:=(hS _).2 (List.mem_map_of_mem (f:=λx=>((Lit.int kd x.1:Lit),(DataW.held ((nm x.2).1::(nm x.2).2):DataW (List UInt8)))) ht');obtain⟨y,hy,e1⟩:=List.mem_map.1 this;obtain⟨x,hx',hxy⟩:=m2 y hy;obtain⟨e2,e3⟩:=key x hx' y hxy t' ht' e1;exact List.mem_map.2 ⟨x,hx',by simp[e2,e3]⟩
end Go.Bw
