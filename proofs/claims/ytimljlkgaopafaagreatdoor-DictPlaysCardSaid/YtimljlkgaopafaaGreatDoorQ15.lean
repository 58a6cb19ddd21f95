/- Part 15 of what a proof leans on; pruned and shortened by a program out of longer texts. -/
import Derived.Test.YtimljlkgaopafaaGreatDoorQ14
namespace Go.Proofs.Z
open Go Go.Bw
abbrev Rn:=av
structure qz(l:List Rn):Prop where
 wC:∀y∈l,0<=y.At/\1<=y.N/\y.At+y.N<=64
 pw:l.Pairwise λy z=>y.At+y.N<z.At
def cB(l:List Rn)(p:Int):Prop:=∃y∈l,y.At<=p/\p<y.At+y.N
def JR(at_ k:Int):Prop:=1<=k/\0<=at_/\at_+k<=64
def Ui(x:Int):Prop:= -9223372036854775808<=x/\x<=9223372036854775807
theorem qz.nil:qz []:=⟨by simp, .nil⟩
theorem N5:∀{l:List Rn} {lo:Int},qz l->(∀y∈l,lo<=y.At)->lo<=65->(l.length:Int)*2<=65-lo
 |[],lo,_,_,h=>by simp;omega
 |y::r,lo,h,hl,_ =>by obtain⟨h1,h2⟩:=List.pairwise_cons.1 h.pw;have hy:=h.wC y (by simp);have hy':=hl y (by simp);have:=N5 (l:=r) (lo:=y.At+y.N+1) ⟨λz hz=>h.wC z (by simp[hz]),h2⟩ (λz hz=>by have:=h1 z hz;omega) (by omega);simp only[List.length_cons];omega
theorem qz.len{l:List Rn}(h:qz l):l.length<=32:=by have:=N5 (lo:=0) h (λy hy=>(h.wC y hy).1) (by omega);omega
theorem qz.two{l:List Rn}(h:qz l){y z:Rn}(hy:y∈l)(hz:z∈l):y=z\/y.At+y.N<z.At\/z.At+z.N<y.At:=by
 have:=h.pw;clear h
 induction l with
 |nil=>simp at hy
 |cons x r ih=>
  obtain⟨h1,h2⟩:=List.pairwise_cons.1 this;rcases List.mem_cons.1 hy with rfl|hy'<;>rcases List.mem_cons.1 hz with rfl|T9
  ·exact .inl rfl
  ·exact .inr (.inl (h1 z T9))
  ·exact .inr (.inr (h1 y hy'))
  ·exact ih hy' T9 h2
theorem jA(p:Int):¬cB [] p:=by simp[cB]
theorem eZ{y:Rn}{r:List Rn}{p:Int}:cB (y::r) p↔(y.At<=p/\p<y.At+y.N)\/cB r p:=by simp[cB]
theorem ke{l r:List Rn}{p:Int}:cB (l++r) p↔cB l p\/cB r p:=by simp[cB,or_and_right,exists_or]
theorem Wb{l:List Rn}(h:qz l){p:Int}(hp:cB l p):0<=p/\p<64:=by obtain⟨y,hy,h1,h2⟩:=hp;have:=h.wC y hy;omega
theorem qz.Uw{l:List Rn}(h:qz l){at_ k:Int}(hk:1<=k)(hm:∀p,at_<=p->p<at_+k->cB l p):∃y∈l,y.At<=at_/\at_+k<=y.At+y.N:=by
 obtain⟨y,hy,h1,h2⟩:=hm at_ (by omega) (by omega);refine⟨y,hy,h1,?_⟩;refine Int.not_lt.1 λ_=>?_;obtain⟨z,hz,h3,h4⟩:=hm (y.At+y.N) (by omega) (by omega);rcases h.two hy hz with rfl|h5|h5
 ·omega
 ·omega
 ·have:=h.wC z hz;omega
theorem Mu:∀{l m:List Rn},qz l->qz m->(∀p,cB l p↔cB m p)->l=m
 |[],[],_,_,_ =>rfl
 |[],z::m,_,hm,h=>by have:=hm.wC z (by simp);exact absurd ((h z.At).2 (eZ.2 (.inl ⟨by omega,by omega⟩))) (jA _)
 |y::l,[],hl,_,h=>by have:=hl.wC y (by simp);exact absurd ((h y.At).1 (eZ.2 (.inl ⟨by omega,by omega⟩))) (jA _)
 |y::l,z::m,hl,hm,h=>by
  obtain⟨a1,a2⟩:=List.pairwise_cons.1 hl.pw;obtain⟨b1,b2⟩:=List.pairwise_cons.1 hm.pw;have hy:=hl.wC y (by simp);have hz:=hm.wC z (by simp);have f1:∀p,cB l p->y.At+y.N<p:=λp ⟨q,hq,h1,h2⟩=>by have:=a1 q hq;omega
  have f2:∀p,cB m p->z.At+z.N<p:=λp ⟨q,hq,h1,h2⟩=>by have:=b1 q hq;omega
  have g1:∀p,y.At<=p->p<y.At+y.N->(z.At<=p/\p<z.At+z.N)\/cB m p:=λp h1 h2=>eZ.1 ((h p).1 (eZ.2 (.inl ⟨h1,h2⟩)));have g2:∀p,z.At<=p->p<z.At+z.N->(y.At<=p/\p<y.At+y.N)\/cB l p:=λp h1 h2=>eZ.1 ((h p).2 (eZ.2 (.inl ⟨h1,h2⟩)));have e1:y.At=z.At:=by
   rcases g1 y.At (by omega) (by omega)with c|c<;>rcases g2 z.At (by omega) (by omega)with d|d
   ·omega
   ·have:=f1 _ d;omega
   ·have:=f2 _ c;omega
   ·have:=f1 _ d;have:=f2 _ c;omega
  have e2:y.N=z.N:=by
   refine Int.le_antisymm (Int.not_lt.1 λhlt=>?_) (Int.not_lt.1 λhlt=>?_)
   ·rcases g1 (z.At+z.N) (by omega) (by omega)with c|c
    ·omega
    ·have:=f2 _ c;omega
   ·rcases g2 (y.At+y.N) (by omega) (by omega)with c|c
    ·omega
    ·have:=f1 _ c;omega
  have e:y=z:=by cases y;cases z;simp_all
  subst e;congr 1;refine Mu ⟨λq hq=>hl.wC q (by simp[hq]),a2⟩ ⟨λq hq=>hm.wC q (by simp[hq]),b2⟩ λp=>⟨λhp=>?_,λhp=>?_⟩
  ·rcases eZ.1 ((h p).1 (eZ.2 (.inr hp)))with c|c
   ·have:=f1 _ hp;omega
   ·exact c
  ·rcases eZ.1 ((h p).2 (eZ.2 (.inr hp)))with c|c
   ·have:=f2 _ hp;omega
   ·exact c
theorem XS{n:Nat}{l:List Rn}(hl:l.length<=100)(hn:110<=n):∃xs,jt n l=some xs/\xs.map Prod.snd=l:=by
 unfold jt;have key:∀(m x:Nat),x<=l.length->l.length-x<m->∃xs,iv (λJv (eF:Int)=>cn (decide (eF<(l.length:Int))) (gu (dH eF l.length)<|lt ((l.getD (Int.toNat eF) default):av) λgN=>yl (eF,gN)<|Jv (wr .i64 (eF+1))) (some [])) m (x:Int)=some xs/\xs.map Prod.snd=l.drop x:=by
  intro m
  induction m with
  |zero=>intro x _ h;omega
  |succ m ih=>
   intro x hx hm;simp only[iv];by_cases hc:x<l.length
   ·rw[aR (by simpa using hc),bf (eP (by omega) (by omega)),aU,bx (by omega) (by omega)]
    obtain⟨xs,h1,h2⟩:=ih (x+1) (by omega) (by omega);have e:((x:Int)+1)=((x+1:Nat):Int):=by omega
    rw[e,h1];refine⟨_,rfl,?_⟩;rw[List.map_cons,h2,List.drop_eq_getElem_cons hc,aki,List.getD,akm hc];rfl
   ·rw[au (by simpa using hc)]
    exact⟨[],rfl,by rw[List.drop_eq_nil_of_le (by omega)];rfl⟩
 obtain⟨xs,h1,h2⟩:=key n 0 (by omega) (by omega);exact⟨xs,h1,by simpa using h2⟩
theorem RA(n:Nat)(r:br):pJ n r=some r.l:=rfl
theorem Pm{n:Nat}{at_ k:Int}(ha:Ui at_)(hk:Ui k):∃b,nj n ⟨at_,k⟩=some b/\(b=true↔JR at_ k):=by
 obtain⟨a1,a2⟩:=ha;obtain⟨k1,k2⟩:=hk;refine⟨_,rfl,?_⟩;show((decide (1<=k)&&decide (0<=at_))&&decide (at_<=wr .i64 (64-k)))=true↔_;unfold JR;by_cases h:1<=k
 ·rw[bx (by omega) (by omega)];simp;omega
 ·simp[h]
theorem EX{n:Nat}{y:Rn}(h:0<=y.At/\1<=y.N/\y.At+y.N<=64):bL n y=some (y.At+y.N):=by unfold bL;rw[bx (by omega) (by omega)]
def Q8(y x:Rn):Prop:=y.At<=x.At/\x.At+x.N<=y.At+y.N
instance(y x:Rn):Decidable (Q8 y x):=by unfold Q8;infer_instance
theorem WJ{n:Nat}{y x:Rn}(hy:0<=y.At/\1<=y.N/\y.At+y.N<=64)(hx:JR x.At x.N):mI n y x=some (decide (Q8 y x)):=by
 unfold mI JR at *;rw[AA (EX (by omega)),AA (EX hy)];congr 1;unfold Q8;by_cases he:rU x y=true
 ·have:x.At=y.At/\x.N=y.N:=by simpa[rU]using he
  simp[he,this.1,this.2]
 ·by_cases h1:y.At<=x.At
  ·simp[he,h1]
  ·simp[he,h1]
theorem Ny{n:Nat}(hn:110<=n){l:List Rn}(hl:qz l){x:Rn}(hx:JR x.At x.N):∃v,bW n l x=some v/\((v= -1/\∀y∈l,¬Q8 y x)\/∃i,∃h:i<l.length,v=(i:Int)/\Q8 l[i] x):=by
 unfold bW;have hlen:=hl.len;refine wK (λ(v:Int)=>0<=v/\v<=l.length/\∀y∈l.take v.toNat,¬Q8 y x) (λv=>((l.length:Int)-v).toNat) (λo=>∃v,o=some v/\((v= -1/\∀y∈l,¬Q8 y x)\/∃i,∃h:i<l.length,v=(i:Int)/\Q8 l[i] x)) ?_ n 0 ⟨by omega,by omega,by simp⟩ (by omega);rintro kk v ⟨v0,v1,hv⟩ ih;obtain⟨i,rfl⟩:=Int.eq_ofNat_of_zero_le v0;by_cases hc:i<l.length
 ·have hg:l.getD (Int.toNat (i:Int)) default=l[i]:=by rw[aki,List.getD,akm hc];rfl
  rw[aR (by simpa using hc),bf (eP (by omega) (by omega)),hg,bx (by omega) (by omega)];rw[ak (show ni n l[i] x=some (decide (Q8 l[i] x))by unfold ni;rw[ak (WJ (hl.wC _ (List.getElem_mem hc)) hx)])];by_cases he:Q8 l[i] x
  ·rw[aR (by simpa using he)]
   exact⟨_,rfl, .inr ⟨i,hc,rfl,he⟩⟩
  ·rw[au (by simpa using he)]
   refine ih _ ⟨by omega,by omega,λy hy=>?_⟩ (by omega);have e:((i:Int)+1).toNat=i+1:=by omega
   rw[e,akn hc]at hy;rcases List.mem_append.1 hy with h|h
   ·exact hv y (by simpa using h)
   ·rw[List.mem_singleton.1 h];exact he
 ·rw[au (by simpa using hc)]
  refine⟨-1,rfl, .inl ⟨rfl,λy hy=>hv y ?_⟩⟩;rw[List.take_of_length_le (by omega)];exact hy
theorem S6{n:Nat}{l:List Rn}{x:Rn}:eL n l x=bW n l x:=rfl
theorem Q7{y x:Rn}(h:Q8 y x)(hx:JR x.At x.N){l:List Rn}(hy:y∈l):∀p,x.At<=p->p<x.At+x.N->cB l p:=λp h1 h2=>⟨y,hy,by unfold Q8 at h;omega,by unfold Q8 at h;omega⟩
theorem adQ{n:Nat}(hn:110<=n){r:br}(hr:qz r.l){p:Int}(hp:Ui p):∃b,iC n r p=some b/\(b=true↔cB r.l p):=by
 unfold iC;rw[aU];obtain⟨b,hb,hb'⟩:=Pm (n:=n) hp (show Ui 1 from⟨by omega,by omega⟩);rw[ak hb];cases b with
 |false=>refine⟨false,rfl,⟨λh=>(by cases h),λhm=>?_⟩⟩;have:=Wb hr hm;exact hb'.2 ⟨by omega,by omega,by omega⟩
 |true=>
  have ho:=hb'.1 rfl;obtain⟨v,h1,h2⟩:=Ny hn hr (x:=⟨p,1⟩) ho;have h3:cY n r.l ⟨p,1⟩=some (decide (0<=v)):=by unfold cY;rw[S6,ak h1]
  rw[kW (g:=(true==true)) rfl h3];refine⟨_,rfl,?_⟩;rcases h2 with⟨rfl,h2⟩|⟨i,hi,rfl,h2⟩
  ·simp
   rintro⟨y,hy,h4,h5⟩;exact h2 y hy ⟨h4,by show p+1<=_;omega⟩
  ·simp
   exact Q7 h2 ho (List.getElem_mem hi) p (by show p<=p;omega) (by show p<p+1;omega)
def PN(k:Int)(y:Rn):Bool:=decide (1<=k)&&decide (k<=y.N)
def IF(k:Int)(l:List Rn):Int×Bool:=match l.find? (PN k)with|some y=>(y.At,true)|none=>(0,false)
theorem Rs{n:Nat}(hn:110<=n){r:br}(hr:qz r.l)(k:Int):pK n r k=some (IF k r.l):=by
 unfold pK;rw[ak (RA n r)];obtain⟨xs,h1,h2⟩:=XS (n:=n) (l:=r.l) (by have:=hr.len;omega) hn;rw[ak h1, ← h2];clear h1 h2 hr
 induction xs with
 |nil=>rfl
 |cons e xs ih=>
  show cn (PN k e.2) (some (e.2.At,true)) _ =_;unfold IF;rw[List.map_cons,List.find?_cons];cases hf:PN k e.2 with
  |true=>rfl
  |false=>exact ih
def KS(l:List Rn)(a k:Int):Prop:=JR a k/\∀p,a<=p->p<a+k->cB l p
theorem aaG{l:List Rn}(hl:qz l){k:Int}:(IF k l=(0,false)/\∀a,¬KS l a k)\/∃v,IF k l=(v,true)/\0<=v/\KS l v k/\∀a,a<v->¬KS l a k:=by
 unfold IF;cases hf:l.find? (PN k)with
 |none=>refine .inl ⟨rfl,λa ⟨⟨o1,o2,o3⟩,h⟩=>?_⟩;obtain⟨y,hy,h1,h2⟩:=hl.Uw o1 h;have:=List.find?_eq_none.1 hf y hy;refine this ?_;simp only[PN,akg,decide_eq_true_eq];omega
 |some y=>
  obtain⟨hp,us,bs,e,hno⟩:=List.find?_eq_some_iff_append.1 hf;have hy:y∈l:=by rw[e];simp
  have hyr:=hl.wC y hy;simp only[PN,akg,decide_eq_true_eq]at hp;refine .inr ⟨y.At,rfl,by omega,⟨⟨by omega,by omega,by omega⟩,λp h1 h2=>⟨y,hy,h1,by omega⟩⟩,λa ha ⟨⟨o1,o2,o3⟩,h⟩=>?_⟩;obtain⟨z,hz,h1,h2⟩:=hl.Uw o1 h;have hzy:z∈us:=by
   rw[e]at hz;rcases List.mem_append.1 hz with hz|hz
   ·exact hz
   ·rcases List.mem_cons.1 hz with rfl|hz
    ·omega
    ·have s9:=hl.pw
     rw[e]at s9;have:=(List.pairwise_cons.1 (List.pairwise_append.1 s9).2.1).1 z hz;omega
  have:=hno z hzy;simp only[PN,Bool.not_eq_true',Bool.and_eq_false_iff,decide_eq_false_iff_not]at this;omega
theorem TD{n:Nat}{a b c:List Rn}(ha:a.length<=100)(hb:b.length<=100)(hc:c.length<=100):fF n a b c=some (a++b++c):=by
 unfold fF;have e1:wr .i64 (0+(a.length:Int))=a.length:=by rw[bx (by omega) (by omega)];omega
 have e2:wr .i64 ((a.length:Int)+b.length)=(a.length:Int)+b.length:=bx (by omega) (by omega);have e3:wr .i64 ((a.length:Int)+b.length+c.length)=(a.length:Int)+b.length+c.length:=bx (by omega) (by omega);rw[e1,e2,e3,au (by simp),au (by simp;omega),au (by simp;omega)];have hg:eu n ((a.length:Int)+b.length+c.length)=some ():=by
  unfold eu;simp only[aU];rw[au (by simp;omega),bx (by omega) (by omega)];by_cases h0:0<(a.length:Int)+b.length+c.length
  ·rw[aR (by simp;omega),bf]
   simp only[Mg,decide_eq_true_eq];omega
  ·rw[au (by simp;omega)]
 rw[ak hg,bf (jg (by simp;omega) (by simp;omega)),aU,bf (jg (by simp;omega) (by simp;omega)),aU,bf (jg (by simp;omega) (by simp;omega)),aU];rfl
theorem qz.cut{l:List Rn}(h:qz l){i:Nat}(hi:i<l.length){left:List Rn}{at_ k:Int}(hk:1<=k)(hin:l[i].At<=at_/\at_+k<=l[i].At+l[i].N)
  (hl:qz left)(hm:∀p,cB left p↔(l[i].At<=p/\p<l[i].At+l[i].N)/\¬(at_<=p/\p<at_+k))(hb:∀y∈left,l[i].At<=y.At/\y.At+y.N<=l[i].At+l[i].N):
  qz (l.take i++left++l.drop (i+1))/\∀p,cB (l.take i++left++l.drop (i+1)) p↔cB l p/\¬(at_<=p/\p<at_+k):=by
 have e:l=l.take i++l[i]::l.drop (i+1):=by rw[← List.drop_eq_getElem_cons hi,List.take_append_drop]
 generalize hy:l[i]=y at *;have s9:=h.pw;rw[e]at s9;obtain⟨q1,q2,q3⟩:=List.pairwise_append.1 s9;obtain⟨q4,q5⟩:=List.pairwise_cons.1 q2;have hyl:y∈l:=by rw[e];simp
 have hyr:=h.wC y hyl;refine⟨⟨?_,?_⟩,λp=>?_⟩
 ·intro z hz
  rcases List.mem_append.1 hz with hz|hz
  ·rcases List.mem_append.1 hz with hz|hz
   ·exact h.wC z (List.mem_of_mem_take hz)
   ·exact hl.wC z hz
  ·exact h.wC z (List.mem_of_mem_drop hz)
 ·refine List.pairwise_append.2 ⟨List.pairwise_append.2 ⟨q1,hl.pw,λa ha b hb'=>?_⟩,q5,λa ha b hb'=>?_⟩
  ·have:=q3 a ha y (by simp);have:=hb b hb';omega
  ·rcases List.mem_append.1 ha with ha|ha
   ·exact q3 a ha b (by simp[hb'])
   ·have:=q4 b hb';have:=hb a ha;omega
 ·have hp:cB l p↔cB (l.take i) p\/(y.At<=p/\p<y.At+y.N)\/cB (l.drop (i+1)) p:=by
   conv=>lhs;rw[e,ke,eZ]
  rw[ke,ke,hm p,hp];have t1:cB (l.take i) p->p<y.At:=λ⟨z,hz,h1,h2⟩=>by have:=q3 z hz y (by simp);omega
  have t2:cB (l.drop (i+1)) p->y.At+y.N<p:=λ⟨z,hz,h1,h2⟩=>by have:=q4 z hz;omega
  constructor
  ·rintro((c|⟨c1,c2⟩)|c)
   ·have:=t1 c;exact⟨.inl c,by omega⟩
   ·exact⟨.inr (.inl c1),c2⟩
   ·have:=t2 c;exact⟨.inr (.inr c),by omega⟩
  ·rintro⟨c|c|c,d⟩
   ·exact .inl (.inl c)
   ·exact .inl (.inr ⟨c,d⟩)
   ·exact .inr c
theorem Zj{n:Nat}(hn:110<=n){r:br}(hr:qz r.l){at_ k:Int}(ha:Ui at_)(hk:Ui k):
  ∃r' g,jY n r at_ k=some (r',g)/\(g=true↔KS r.l at_ k)/\(g=false->r'=r)/\(g=true->qz r'.l/\∀p,cB r'.l p↔cB r.l p/\¬(at_<=p/\p<at_+k)):=by
 unfold jY;rw[aU];obtain⟨b,hb,hb'⟩:=Pm (n:=n) ha hk;rw[ak hb];cases b with
 |false=>refine⟨r,false,rfl,⟨λh=>(by cases h),λh=>hb'.2 h.1⟩,λ_ =>rfl,λh=>(by cases h)⟩
 |true=>
  have ho:=hb'.1 rfl;obtain⟨o1,o2,o3⟩:=ho;obtain⟨v,h1,h2⟩:=Ny hn hr (x:=⟨at_,k⟩) ⟨o1,o2,o3⟩;rw[au (b:= !true) rfl,ak h1];rcases h2 with⟨rfl,h2⟩|⟨i,hi,rfl,h2⟩
  ·refine⟨r,false,rfl,⟨λh=>(by cases h),λh=>?_⟩,λ_ =>rfl,λh=>(by cases h)⟩
   obtain⟨y,hy,h3,h4⟩:=hr.Uw o1 h.2;exact absurd ⟨h3,h4⟩ (h2 y hy)
  ·have hlen:=hr.len
   have hyr:=hr.wC _ (List.getElem_mem hi);have hg:r.l.getD (Int.toNat (i:Int)) default=r.l[i]:=by rw[aki,List.getD,akm hi];rfl
   have hin:r.l[i].At<=at_/\at_+k<=r.l[i].At+r.l[i].N:=h2;have e1:wr .i64 ((i:Int)+1)=((i+1:Nat):Int):=by rw[bx (by omega) (by omega)];omega
   rw[au (by simp),bf (eP (by omega) (by omega)),aU,hg];have fin:∀left:List Rn,left.length<=2->qz left->(∀p,cB left p↔(r.l[i].At<=p/\p<r.l[i].At+r.l[i].N)/\¬(at_<=p/\p<at_+k))->(∀y∈left,r.l[i].At<=y.At/\y.At+y.N<=r.l[i].At+r.l[i].N)->
     ∃r' g,(gu (dH (i:Int) (r.l.length+1))<|gu (dH (wr .i64 ((i:Int)+1)) (r.l.length+1))<|bd (fF n (r.l.take (Int.toNat (i:Int))) left (r.l.drop (Int.toNat (wr .i64 ((i:Int)+1))))) λMS=>lt ({l:=MS}:br) λKc=>some (Kc,true))=some (r',g)/\
      (g=true↔KS r.l at_ k)/\(g=false->r'=r)/\(g=true->qz r'.l/\∀p,cB r'.l p↔cB r.l p/\¬(at_<=p/\p<at_+k)):=λleft c1 c2 c3 c4=>by
    rw[e1,bf (eP (by omega) (by omega)),bf (eP (by omega) (by omega)),aki,aki,ak (TD (by rw[List.length_take];omega) (by omega) (by rw[List.length_drop];omega))];exact⟨_,true,rfl,⟨λ_ =>⟨⟨o1,o2,o3⟩,Q7 (x:=⟨at_,k⟩) h2 ⟨o1,o2,o3⟩ (List.getElem_mem hi)⟩,λ_ =>rfl⟩,λh=>(by cases h),λ_ =>hr.cut hi o1 hin c2 c3 c4⟩
   generalize hy:r.l[i]=y at *;dsimp only[lt];have ex:bL n (⟨at_,k⟩:Rn)=some (at_+k):=EX (y:=⟨at_,k⟩) ⟨o2,o1,o3⟩;have ey:bL n y=some (y.At+y.N):=EX hyr;by_cases c1:y.At<at_
   ·rw[aR (by simpa using c1),bx (x:=at_-y.At) (by omega) (by omega),bf (jg (by simp) (by simp)),ak ex,ak ey]
    by_cases c2:at_+k<y.At+y.N
    ·rw[aR (by simpa using c2),ak ex,ak ey,ak ex,bx (x:=y.At+y.N-(at_+k)) (by omega) (by omega),bf (jg (by simp) (by simp))]
     refine fin [⟨y.At,at_-y.At⟩,⟨at_+k,y.At+y.N-(at_+k)⟩] (by simp) ⟨?_,?_⟩ (λp=>?_) ?_
     ·intro z hz
      simp only[List.nil_append,List.cons_append,List.mem_cons,List.not_mem_nil,or_false]at hz;rcases hz with rfl|rfl<;>dsimp only<;>omega
     ·refine List.pairwise_cons.2 ⟨λz hz=>?_,List.pairwise_singleton _ _⟩
      obtain rfl:=List.mem_singleton.1 hz;dsimp only;omega
     ·simp only[List.nil_append,List.cons_append,eZ,jA,or_false];omega
     ·intro z hz
      simp only[List.nil_append,List.cons_append,List.mem_cons,List.not_mem_nil,or_false]at hz;rcases hz with rfl|rfl<;>dsimp only<;>omega
    ·rw[au (by simpa using c2)]
     refine fin [⟨y.At,at_-y.At⟩] (by simp) ⟨?_,List.pairwise_singleton _ _⟩ (λp=>?_) ?_
     ·intro z hz
      obtain rfl:=List.mem_singleton.1 hz;dsimp only;omega
     ·simp only[List.nil_append,eZ,jA,or_false];omega
     ·intro z hz
      obtain rfl:=List.mem_singleton.1 hz;dsimp only;omega
   ·rw[au (by simpa using c1),ak ex,ak ey]
    by_cases c2:at_+k<y.At+y.N
    ·rw[aR (by simpa using c2),ak ex,ak ey,ak ex,bx (x:=y.At+y.N-(at_+k)) (by omega) (by omega),bf (jg (by simp) (by simp))]
     refine fin [⟨at_+k,y.At+y.N-(at_+k)⟩] (by simp) ⟨?_,List.pairwise_singleton _ _⟩ (λp=>?_) ?_
     ·intro z hz
      obtain rfl:=List.mem_singleton.1 hz;dsimp only;omega
     ·simp only[List.nil_append,eZ,jA,or_false];omega
     ·intro z hz
      obtain rfl:=List.mem_singleton.1 hz;dsimp only;omega
    ·rw[au (by simpa using c2)]
     refine fin _ (by simp) qz.nil (λp=>?_) (by simp);simp only[jA,false_iff];omega
end Go.Proofs.Z
namespace Go.Proofs.Z
open Go Go.Bw
structure GI(l:List Rn)(at_ k:Int)(pre rest:List Rn)(put:Bool)(out:List Rn)(x:Rn):Prop where
 e:l=pre++rest
 eo:∀p,cB pre p->¬(at_<=p/\p<at_+k)
 lo:x.At<=at_/\(x.At=at_\/∃z∈pre,z.At+z.N=at_)
 hi:at_+k<=x.At+x.N/\(x.At+x.N=at_+k\/∃z∈pre,z.At+z.N=x.At+x.N)
 wC:0<=x.At/\1<=x.N/\x.At+x.N<=64
 off:put=false->qz (out++[x])/\(∀z∈out,z∈pre)/\∀p,cB (out++[x]) p↔cB pre p\/(at_<=p/\p<at_+k)
 on:put=true->qz out/\(∀z∈out,z∈pre\/z=x)/\(∃z∈pre,x.At+x.N<z.At)/\∀p,cB out p↔cB pre p\/(at_<=p/\p<at_+k)
theorem rK{l:List Rn}{y:Rn}(h:qz l)(hy:0<=y.At/\1<=y.N/\y.At+y.N<=64)(ha:∀z∈l,z.At+z.N<y.At):qz (l++[y]):=
 ⟨λz hz=>by
  rcases List.mem_append.1 hz with hz|hz
  ·exact h.wC z hz
  ·rw[List.mem_singleton.1 hz];exact hy,
  List.pairwise_append.2 ⟨h.pw,List.pairwise_singleton _ _,λa ha' b hb=>by rw[List.mem_singleton.1 hb];exact ha a ha'⟩⟩
theorem qz.init{l:List Rn}{y:Rn}(h:qz (l++[y])):qz l:=⟨λz hz=>h.wC z (by simp[hz]),(List.pairwise_append.1 h.pw).1⟩
theorem qz.ado{l:List Rn}{y:Rn}(h:qz (l++[y])):∀z∈l,z.At+z.N<y.At:=λz hz=>(List.pairwise_append.1 h.pw).2.2 z hz y (by simp)
theorem fI{y:Rn}{p:Int}:cB [y] p↔y.At<=p/\p<y.At+y.N:=by rw[eZ];simp[cB]
def ahr(r':br)(g:Bool)(l:List Rn)(r:br)(at_ k:Int):Prop:=(g=true↔∀p,at_<=p->p<at_+k->¬cB l p)/\(g=false->r'=r)/\(g=true->qz r'.l/\∀p,cB r'.l p↔cB l p\/(at_<=p/\p<at_+k))
theorem aav{n:Nat}{r:br}{l:List Rn}(hl:qz l){at_ k:Int}(ho:JR at_ k):∀(xs:List (Int×Rn)) (pre:List Rn) (put:Bool) (out:List Rn) (x:Rn),GI l at_ k pre (xs.map Prod.snd) put out x->
  ∃r' g,Wt (λ(e56:Int×av) k42 (dI:Bool) (nQ:(List av)) (iw:av)=>lt (e56.1:Int) λ_=>lt (e56.2:av) λuW=>bd (bL n uW) λMT=>cn (decide (MT<iw.At)) (gu (ig nQ.length 1 16)<|lt (nQ++([uW]):List av) λOC=>k42 dI OC iw) (bd (bL n iw) λSk=>cn (decide (Sk<uW.At)) (lt (λ(x63:Bool) (Uq:(List av))=>gu (ig Uq.length 1 16)<|lt (Uq++([uW]):List av) λx73=>k42 x63 x73 iw) λj67=>cn ((!dI)) (gu (ig nQ.length 1 16)<|lt (nQ++([iw]):List av) λT5=>j67 true T5) (j67 dI nQ)) (bd (bL n uW) λKc=>cn ((Kc==iw.At)) (lt ({At:=uW.At,N:=wr .i64 (uW.N+iw.N)}:av) λx77=>k42 dI nQ x77) (bd (bL n iw) λx78=>cn ((uW.At==x78)) (lt ({iw with N:=wr .i64 (iw.N+uW.N)}:av) λx79=>k42 dI nQ x79) (some (r,false)))))) (λ(dI:Bool) (nQ:(List av)) (iw:av)=>cn ((!dI)) (gu (ig nQ.length 1 16)<|lt (nQ++([iw]):List av) λx84=>lt ({l:=x84}:br) λx87=>some (x87,true)) (lt ({l:=nQ}:br) λx93=>some (x93,true))) xs put out x=some (r',g)/\ahr r' g l r at_ k:=by
 intro xs
 induction xs with
 |nil=>
  intro pre put out x h;have e:l=pre:=by have:=h.e;simpa using this
  subst e;show∃r' g,cn (!put) (gu (ig out.length 1 16)<|some ((⟨out++[x]⟩:br),true)) (some ((⟨out⟩:br),true))=some (r',g)/\_;have hfree:∀p,at_<=p->p<at_+k->¬cB l p:=λp h1 h2 hm=>h.eo p hm ⟨h1,h2⟩;cases put with
  |false=>obtain⟨c1,c2,c3⟩:=h.off rfl;have:=c1.init.len;rw[aR (b:= !false) rfl,bf (jg (by omega) (by omega))];exact⟨_,true,rfl,⟨λ_ =>hfree,λ_ =>rfl⟩,λh=>(by cases h),λ_ =>⟨c1,c3⟩⟩
  |true=>obtain⟨c1,c2,c3,c4⟩:=h.on rfl;rw[au (b:= !true) rfl];exact⟨_,true,rfl,⟨λ_ =>hfree,λ_ =>rfl⟩,λh=>(by cases h),λ_ =>⟨c1,c4⟩⟩
 |cons q xs ih=>
  obtain⟨qi,y⟩:=q;intro pre put out x h;have he:l=(pre++[y])++xs.map Prod.snd:=by rw[h.e];simp
  have hyl:y∈l:=by rw[h.e];simp
  have hyr:=hl.wC y hyl;have hpre:∀z∈pre,z.At+z.N<y.At:=λz hz=>by have s9:=hl.pw;rw[he]at s9;exact(List.pairwise_append.1 (List.pairwise_append.1 s9).1).2.2 z hz y (by simp)
  have hzr:∀z∈pre,0<=z.At/\1<=z.N/\z.At+z.N<=64:=λz hz=>hl.wC z (by rw[h.e];simp[hz]);obtain⟨o1,o2,o3⟩:=ho;obtain⟨lo1,lo2⟩:=h.lo;obtain⟨hi1,hi2⟩:=h.hi;have hxr:=h.wC;have ey:bL n y=some (y.At+y.N):=EX hyr;have ex:bL n x=some (x.At+x.N):=EX hxr;have hfree:(∀p,y.At<=p->p<y.At+y.N->¬(at_<=p/\p<at_+k))->∀p,cB (pre++[y]) p->¬(at_<=p/\p<at_+k):=λhy p hp=>by
   rcases ke.1 hp with hp|hp
   ·exact h.eo p hp
   ·obtain⟨h1,h2⟩:=fI.1 hp;exact hy p h1 h2
  have Iq:∀{z},z∈pre->z∈pre++[y]:=λhz=>by simp[hz]
  have hlo:x.At=at_\/∃z∈pre++[y],z.At+z.N=at_:=lo2.imp id λ⟨z,hz,e⟩=>⟨z,Iq hz,e⟩;have hhi:x.At+x.N=at_+k\/∃z∈pre++[y],z.At+z.N=x.At+x.N:=hi2.imp id λ⟨z,hz,e⟩=>⟨z,Iq hz,e⟩;have hmy:∀p,cB (pre++[y]) p↔cB pre p\/(y.At<=p/\p<y.At+y.N):=λp=>by rw[ke,fI]
  have hput:put=true->x.At+x.N<y.At:=λhp=>by obtain⟨z,hz,h1⟩:=(h.on hp).2.2.1;have:=hpre z hz;have:=hzr z hz;omega
  simp only[Wt];dsimp only[lt];rw[ak ey];by_cases c1:y.At+y.N<x.At
  ·have hf:put=false:=by
    cases put with
    |false=>rfl
    |true=>have:=hput rfl;omega
   subst hf;obtain⟨d1,d2,d3⟩:=h.off rfl;have hlen:=d1.init.len;rw[aR (by simpa using c1),bf (jg (by omega) (by omega))];refine ih (pre++[y]) false (out++[y]) x ⟨he,hfree λp h1 h2=>by omega,⟨lo1,hlo⟩,⟨hi1,hhi⟩,hxr,λ_ =>⟨?_,?_,λp=>?_⟩,λh=>by cases h⟩
   ·refine rK (rK d1.init hyr λz hz=>hpre z (d2 z hz)) hxr λz hz=>?_
    rcases List.mem_append.1 hz with hz|hz
    ·exact d1.ado z hz
    ·rw[List.mem_singleton.1 hz];exact c1
   ·intro z hz
    rcases List.mem_append.1 hz with hz|hz
    ·exact Iq (d2 z hz)
    ·rw[List.mem_singleton.1 hz];simp
   ·have:=d3 p
    rw[ke,fI]at this ⊢;rw[ke,fI,hmy];constructor
    ·rintro((c|c)|c)
     ·rcases this.1 (.inl c)with c|c
      ·exact .inl (.inl c)
      ·exact .inr c
     ·exact .inl (.inr c)
     ·rcases this.1 (.inr c)with c|c
      ·exact .inl (.inl c)
      ·exact .inr c
    ·rintro((c|c)|c)
     ·rcases this.2 (.inl c)with c|c
      ·exact .inl (.inl c)
      ·exact .inr c
     ·exact .inl (.inr c)
     ·rcases this.2 (.inr c)with c|c
      ·exact .inl (.inl c)
      ·exact .inr c
  rw[au (by simpa using c1),ak ex];by_cases c2:x.At+x.N<y.At
  ·rw[aR (by simpa using c2)]
   have hfr:=hfree λp h1 h2=>by omega
   cases put with
   |false=>
    obtain⟨d1,d2,d3⟩:=h.off rfl;have hlen:=d1.init.len;have WM:=d1.len;rw[aR (b:= !false) rfl,bf (jg (by omega) (by omega)),bf (jg (by omega) (by omega))];refine ih (pre++[y]) true (out++[x]++[y]) x ⟨he,hfr,⟨lo1,hlo⟩,⟨hi1,hhi⟩,hxr,λh=>(by cases h),λ_ =>⟨?_,?_,⟨y,by simp,c2⟩,λp=>?_⟩⟩
    ·refine rK d1 hyr λz hz=>?_
     rcases List.mem_append.1 hz with hz|hz
     ·exact hpre z (d2 z hz)
     ·rw[List.mem_singleton.1 hz];exact c2
    ·intro z hz
     simp only[List.mem_append,List.mem_singleton]at hz;rcases hz with(hz|hz)|hz
     ·exact .inl (Iq (d2 z hz))
     ·exact .inr hz
     ·exact .inl (by simp[hz])
    ·rw[ke,fI,d3 p,hmy]
     constructor
     ·rintro((c|c)|c)
      ·exact .inl (.inl c)
      ·exact .inr c
      ·exact .inl (.inr c)
     ·rintro((c|c)|c)
      ·exact .inl (.inl c)
      ·exact .inr c
      ·exact .inl (.inr c)
   |true=>
    obtain⟨d1,d2,d3,d4⟩:=h.on rfl;have hlen:=d1.len;rw[au (b:= !true) rfl,bf (jg (by omega) (by omega))];refine ih (pre++[y]) true (out++[y]) x ⟨he,hfr,⟨lo1,hlo⟩,⟨hi1,hhi⟩,hxr,λh=>(by cases h),λ_ =>⟨?_,?_,⟨y,by simp,c2⟩,λp=>?_⟩⟩
    ·refine rK d1 hyr λz hz=>?_
     rcases d2 z hz with hz|rfl
     ·exact hpre z hz
     ·exact c2
    ·intro z hz
     rcases List.mem_append.1 hz with hz|hz
     ·exact(d2 z hz).imp Iq id
     ·exact .inl (by simp[List.mem_singleton.1 hz])
    ·rw[ke,fI,d4 p,hmy]
     constructor
     ·rintro((c|c)|c)
      ·exact .inl (.inl c)
      ·exact .inr c
      ·exact .inl (.inr c)
     ·rintro((c|c)|c)
      ·exact .inl (.inl c)
      ·exact .inr c
      ·exact .inl (.inr c)
  have hf:put=false:=by
   cases put with
   |false=>rfl
   |true=>have:=hput rfl;omega
  subst hf;obtain⟨d1,d2,d3⟩:=h.off rfl;rw[au (by simpa using c2),ak ey];by_cases c3:y.At+y.N=x.At
  ·rw[aR (by simpa using c3),bx (by omega) (by omega)]
   have hat:x.At=at_:=by
    rcases lo2 with e|⟨z,hz,e⟩
    ·exact e
    ·have:=hpre z hz;omega
   refine ih (pre++[y]) false out ⟨y.At,y.N+x.N⟩ ⟨he,hfree λp h1 h2=>by omega,⟨by dsimp only;omega, .inr ⟨y,by simp,by omega⟩⟩,⟨by dsimp only;omega,?_⟩,by dsimp only;omega,λ_ =>⟨?_,λz hz=>Iq (d2 z hz),λp=>?_⟩,λh=>by cases h⟩
   ·rcases hhi with e|⟨z,hz,e⟩
    ·exact .inl (by dsimp only;omega)
    ·exact .inr ⟨z,hz,by dsimp only;omega⟩
   ·exact rK d1.init (by dsimp only;omega) λz hz=>hpre z (d2 z hz)
   ·have:=d3 p
    rw[ke,fI]at this ⊢;rw[hmy];dsimp only;constructor
    ·rintro(c|c)
     ·rcases this.1 (.inl c)with c|c
      ·exact .inl (.inl c)
      ·exact .inr c
     ·by_cases hp:p<x.At
      ·exact .inl (.inr (by omega))
      ·rcases this.1 (.inr (by omega))with c|c
       ·exact .inl (.inl c)
       ·exact .inr c
    ·rintro((c|c)|c)
     ·rcases this.2 (.inl c)with c|c
      ·exact .inl c
      ·exact .inr (by omega)
     ·exact .inr (by omega)
     ·exact .inr (by omega)
  rw[au (by simpa using c3),ak ex];by_cases c4:y.At=x.At+x.N
  ·rw[aR (by simpa using c4),bx (by omega) (by omega)]
   refine ih (pre++[y]) false out ⟨x.At,x.N+y.N⟩ ⟨he,hfree λp h1 h2=>by omega,⟨lo1,hlo⟩,⟨by dsimp only;omega, .inr ⟨y,by simp,by dsimp only;omega⟩⟩,by dsimp only;omega,λ_ =>⟨?_,λz hz=>Iq (d2 z hz),λp=>?_⟩,λh=>by cases h⟩
   ·exact rK d1.init (by dsimp only;omega) λz hz=>d1.ado z hz
   ·have:=d3 p
    rw[ke,fI]at this ⊢;rw[hmy];dsimp only;constructor
    ·rintro(c|c)
     ·rcases this.1 (.inl c)with c|c
      ·exact .inl (.inl c)
      ·exact .inr c
     ·by_cases hp:p<x.At+x.N
      ·rcases this.1 (.inr (by omega))with c|c
       ·exact .inl (.inl c)
       ·exact .inr c
      ·exact .inl (.inr (by omega))
    ·rintro((c|c)|c)
     ·rcases this.2 (.inl c)with c|c
      ·exact .inl c
      ·exact .inr (by omega)
     ·exact .inr (by omega)
     ·exact .inr (by omega)
  rw[au (by simpa using c4)];refine⟨r,false,rfl,⟨λh=>(by cases h),λhno=>?_⟩,λ_ =>rfl,λh=>(by cases h)⟩;have g1:y.At<at_+k:=by
   rcases hi2 with e|⟨z,hz,e⟩
   ·omega
   ·have:=hpre z hz;omega
  have g2:at_<y.At+y.N:=by
   rcases lo2 with e|⟨z,hz,e⟩
   ·omega
   ·have:=hpre z hz;omega
  by_cases g3:at_<=y.At
  ·exact absurd ⟨y,hyl,by omega,by omega⟩ (hno y.At g3 g1)
  ·exact absurd ⟨y,hyl,by omega,by omega⟩ (hno at_ (by omega) (by omega))
theorem Rg{n:Nat}(hn:110<=n){r:br}(hr:qz r.l){at_ k:Int}(ha:Ui at_)(hk:Ui k):
  ∃r' g,mH n r at_ k=some (r',g)/\(g=true↔JR at_ k/\∀p,at_<=p->p<at_+k->¬cB r.l p)/\(g=false->r'=r)/\(g=true->qz r'.l/\∀p,cB r'.l p↔cB r.l p\/(at_<=p/\p<at_+k)):=by
 unfold mH;rw[aU];obtain⟨b,hb,hb'⟩:=Pm (n:=n) ha hk;rw[ak hb];cases b with
 |false=>exact⟨r,false,rfl,⟨λh=>(by cases h),λh=>hb'.2 h.1⟩,λ_ =>rfl,λh=>(by cases h)⟩
 |true=>
  have ho:=hb'.1 rfl;obtain⟨o1,o2,o3⟩:=ho;rw[au (b:= !true) rfl,ak (RA n r)];obtain⟨xs,h1,h2⟩:=XS (n:=n) (l:=r.l) (by have:=hr.len;omega) hn;rw[ak h1];obtain⟨r',g,h3,h4,h5,h6⟩:=aav (n:=n) (r:=r) hr (at_:=at_) (k:=k) ⟨o1,o2,o3⟩ xs [] false [] ⟨at_,k⟩ ⟨by simpa using h2.symm,λp hp=>absurd hp (jA p),⟨Int.le_refl _, .inl rfl⟩,⟨Int.le_refl _, .inl rfl⟩,⟨o2,o1,o3⟩,
   λ_ =>⟨rK qz.nil ⟨o2,o1,o3⟩ (by simp),by simp,λp=>by rw[List.nil_append,fI];simp[jA]⟩,λh=>by cases h⟩
  exact⟨r',g,h3,⟨λhg=>⟨⟨o1,o2,o3⟩,h4.1 hg⟩,λhg=>h4.2 hg.2⟩,h5,h6⟩
end Go.Proofs.Z
namespace Go.Proofs.Z
open Go Go.Bw
theorem ZN{k:IntKind}{a b:Nat}(ha:a<2^IntKind.up k)(hb:b<2^IntKind.up k):orI k a b=((a|||b:Nat):Int):=by unfold orI;rw[BitVec.toNat_or,wR (Hh k ha),wR (Hh k hb)];exact Us (Nat.or_lt_two_pow ha hb)
def ov(y:Rn)(i:Int):Int:=if i<=y.At then 0 else if y.At+y.N<=i then y.N else i-y.At
def yc(l:List Rn)(i:Int):Int:=(l.map λy=>ov y i).sum
theorem xj(y:Rn)(l:List Rn)(i:Int):yc (y::l) i=ov y i+yc l i:=rfl
theorem uh:∀{l:List Rn},qz l->yc l 0=0
 |[],_ =>rfl
 |y::r,h=>by have hy:=h.wC y (by simp);rw[xj,uh ⟨λz hz=>h.wC z (by simp[hz]),(List.pairwise_cons.1 h.pw).2⟩];unfold ov;rw[akd hy.1];rfl
theorem uj:∀{l:List Rn},qz l->∀i:Int,(cB l i->yc l (i+1)=yc l i+1)/\(¬cB l i->yc l (i+1)=yc l i)
 |[],_,i=>⟨λh=>absurd h (jA i),λ_ =>rfl⟩
 |y::r,h,i=>by
  obtain⟨h1,h2⟩:=List.pairwise_cons.1 h.pw;have hy:=h.wC y (by simp);obtain⟨i1,i2⟩:=uj (l:=r) ⟨λz hz=>h.wC z (by simp[hz]),h2⟩ i;rw[xj,xj,eZ];by_cases c:y.At<=i/\i<y.At+y.N
  ·have hn:¬cB r i:=λ⟨z,hz,a,b⟩=>by have:=h1 z hz;omega
   rw[i2 hn];refine⟨λ_ =>?_,λhh=>absurd (.inl c) hh⟩;unfold ov;rw[ake (by omega)];split<;>split<;>omega
  ·have e:ov y (i+1)=ov y i:=by
    unfold ov
    (repeat' split)<;>omega
   rw[e];refine⟨λhh=>?_,λhh=>?_⟩
   ·rw[i1 (hh.resolve_left c)];omega
   ·rw[i2 λhm=>hh (.inr hm)]
def bD(l:List Rn):Int:=(l.map λy=>y.N).sum
theorem gY(y:Rn)(l:List Rn):bD (y::l)=y.N+bD l:=rfl
theorem wq:∀{l:List Rn},qz l->yc l 64=bD l
 |[],_ =>rfl
 |y::r,h=>by have hy:=h.wC y (by simp);rw[xj,gY,wq ⟨λz hz=>h.wC z (by simp[hz]),(List.pairwise_cons.1 h.pw).2⟩];unfold ov;rw[ake (by omega),akd hy.2.2]
theorem M3:∀{l:List Rn} {lo:Int},qz l->(∀y∈l,lo<=y.At)->lo<=65->0<=bD l/\bD l<=65-lo
 |[],lo,_,_,h=>by simp[bD];omega
 |y::r,lo,h,hl,_ =>by obtain⟨h1,h2⟩:=List.pairwise_cons.1 h.pw;have hy:=h.wC y (by simp);have hy':=hl y (by simp);have:=M3 (l:=r) (lo:=y.At+y.N+1) ⟨λz hz=>h.wC z (by simp[hz]),h2⟩ (λz hz=>by have:=h1 z hz;omega) (by omega);rw[gY];omega
theorem NW{n:Nat}:∀(xs:List (Int×Rn)) (s:Int),0<=s->s<=1000000-bD (xs.map Prod.snd)->(∀e∈xs,1<=e.2.N)->
  yD (λ(u7:Int×av) k29 (dP:Int)=>lt (u7.1:Int) λ_=>lt (u7.2:av) λcN=>lt (wr .i64 (dP+cN.N):Int) λnC=>k29 nC) (λ(dP:Int)=>some dP) xs s=some (s+bD (xs.map Prod.snd))
 |[],s,_,_,_ =>by show some s=_;simp[bD]
 |e::xs,s,h0,h1,h2=>by
  have:=h2 e (by simp);have hs:0<=bD (xs.map Prod.snd):=by
   clear h1 h0;have h3:∀e∈xs,1<=e.2.N:=λe he=>h2 e (by simp[he]);clear h2 this
   induction xs with
   |nil=>simp[bD]
   |cons a xs ih=>have:=h3 a (by simp);have:=ih λe he=>h3 e (by simp[he]);rw[List.map_cons,gY];omega
  rw[List.map_cons,gY]at h1 ⊢;show yD _ _ xs (wr .i64 (s+e.2.N))=_;rw[bx (by omega) (by omega),NW (n:=n) xs (s+e.2.N) (by omega) (by omega) (λe he=>h2 e (by simp[he]))];congr 1;omega
end Go.Proofs.Z
namespace Go.Proofs.Z
open Go Go.Bw
theorem Ez{l m x:List Rn}(hl:qz l)(hm:qz m)(hx:qz x)(h1:∀p,cB l p↔cB m p\/cB x p)(h2:∀p,cB m p->¬cB x p):bD l=bD m+bD x:=by
 have key:∀i:Nat,yc l i=yc m i+yc x i:=by
  intro i
  induction i with
  |zero=>rw[Int.natCast_zero,uh hl,uh hm,uh hx];rfl
  |succ i ih=>
   have e:((i+1:Nat):Int)=(i:Int)+1:=by omega
   rw[e];obtain⟨a1,a2⟩:=uj hl i;obtain⟨b1,b2⟩:=uj hm i;obtain⟨c1,c2⟩:=uj hx i;by_cases c:cB m i
   ·rw[a1 ((h1 _).2 (.inl c)),b1 c,c2 (h2 _ c),ih];omega
   ·by_cases d:cB x i
    ·rw[a1 ((h1 _).2 (.inr d)),b2 c,c1 d,ih];omega
    ·rw[a2 (λh=>((h1 _).1 h).elim c d),b2 c,c2 d,ih]
 have:=key 64;rw[show((64:Nat):Int)=64 from rfl,wq hl,wq hm,wq hx]at this;exact this
theorem DG{a k:Int}(h:JR a k):qz [(⟨a,k⟩:Rn)]:=rK (l:=[]) qz.nil (by unfold JR at h;exact⟨h.2.1,h.1,h.2.2⟩) (by simp)
theorem qW(a k:Int):bD [(⟨a,k⟩:Rn)]=k:=by simp[bD]
theorem wG:∀(k:Nat) {t:List Int},t.Nodup->(∀p∈t,0<=p/\p<(k:Int))->t.length<=k
 |0,[],_,_ =>Nat.le_refl _
 |0,x::t,_,h=>by have:=h x (by simp);omega
 |k+1,t,hn,h=>by
  by_cases hk:(k:Int)∈t
  ·have h1:=wG k (hn.erase (k:Int)) λx hx=>by
    have h2:=h x (List.mem_of_mem_erase hx);have h3:x≠k:=λe=>by subst e;exact(List.Nodup.not_mem_erase hn) hx
    omega
   rw[List.length_erase_of_mem hk]at h1;omega
  ·have h1:=wG k hn λx hx=>by
    have h2:=h x hx;have h3:x≠k:=λe=>hk (e▸hx);omega
   omega
end Go.Proofs.Z
namespace Go.Proofs.Z
open Go Go.Bw
def uB(s a:Int):Bool:=(decide (1<=s)&&decide (s<=128))&&((((a==1)||(a==2))||(a==4))||(a==8))
theorem NY{n:Nat}(hn:5<=n)(a:Int):gQ n ([1,2,4,8]:List Int) a=some ((((a==1)||(a==2))||(a==4))||(a==8)):=by
 obtain⟨m,rfl⟩:∃m,n=m+5:=⟨n-5,by omega⟩;unfold gQ pI;have e1:wr .i64 (0+1)=1:=by decide
 have e2:wr .i64 (1+1)=2:=by decide
 have e3:wr .i64 (2+1)=3:=by decide
 have e4:wr .i64 (3+1)=4:=by decide
 simp only[iv,e1,e2,e3,e4];by_cases h1:a=1
 ·subst h1;rfl
 by_cases h2:a=2
 ·subst h2;rfl
 by_cases h3:a=4
 ·subst h3;rfl
 by_cases h4:a=8
 ·subst h4;rfl
 have g1:(a==1)=false:=by simpa using h1
 have g2:(a==2)=false:=by simpa using h2
 have g3:(a==4)=false:=by simpa using h3
 have g4:(a==8)=false:=by simpa using h4
 simp[cn,gu,dH,bd,g1,g2,g3,g4]
theorem KB{n:Nat}(hn:5<=n)(s a:Int):lK n s a=some (uB s a):=by unfold lK;rw[AA (NY hn a)];unfold uB;cases h:(decide (1<=s)&&decide (s<=128))<;>simp
theorem AE{x:Nat}{m:Nat}(hm:m<=3)(hx:x<2^62):AF .i64 (x:Int) ((2^m-1:Nat):Int)=((x/2^m*2^m:Nat):Int):=by
 unfold AF;have e1:(BitVec.ofInt 64 (x:Int)&&& ~~~BitVec.ofInt 64 ((2^m-1:Nat):Int)).toNat=x/2^m*2^m:=by
  refine Nat.eq_of_testBit_eq λi=>?_;have hb:(BitVec.ofInt 64 (x:Int)).toNat=x:=wR (k:= .i64) (by show x<2^64;omega);have hc:(BitVec.ofInt 64 ((2^m-1:Nat):Int)).toNat=2^m-1:=wR (k:= .i64) (by show 2^m-1<2^64;have:2^m<=2^3:=Nat.pow_le_pow_right (by decide) hm;omega);rw[BitVec.toNat_and,Nat.testBit_and,hb,Nat.testBit_mul_two_pow,Nat.testBit_div_two_pow,BitVec.testBit_toNat,BitVec.getLsbD_not, ← BitVec.testBit_toNat,hc,Nat.testBit_two_pow_sub_one];by_cases h1:m<=i
  ·have h2:¬i<m:=by omega
   rw[show i-m+m=i by omega];by_cases h3:i<64
   ·simp[h1,h2,h3]
   ·have:x.testBit i=false:=Nat.testBit_lt_two_pow (Nat.lt_of_lt_of_le hx (Nat.pow_le_pow_right (by decide) (by omega)))
    simp[h1,h2,this]
  ·have h2:i<m:=by omega
   simp[h1,h2]
 show IntKind.i64.wrap ((BitVec.ofInt 64 (x:Int)&&& ~~~BitVec.ofInt 64 ((2^m-1:Nat):Int)).toNat:Int)=_;rw[e1];have:x/2^m*2^m<=x:=Nat.div_mul_le_self _ _;exact bx (by omega) (by omega)
def RM:Int->List Rn->List (Int×Rn)
 |_,[]=>[]
 |b,y::r=>(b,y)::RM (b+32*y.N) r
def BR(l:List Rn):Prop:=∀y∈l,1<=y.N
theorem wu:∀{l:List Rn},BR l->0<=bD l
 |[],_ =>by simp[bD]
 |y::r,h=>by have:=h y (by simp);have:=wu (l:=r) λz hz=>h z (by simp[hz]);rw[gY];omega
theorem KZ{n:Nat}{e:aC}(hn:e.aN.length<n)(hl:e.aN.length<=1000)(hp:BR e.aN)(hs:bD e.aN<=1000):gi n e=some (RM 0 e.aN):=by
 unfold gi;have key:∀(m i:Nat) (b:Int),i<=e.aN.length->e.aN.length-i<m->0<=b->b+32*bD (e.aN.drop i)<=100000->fe (λk39 (eB:Int) (cL:Int)=>cn (decide (cL<(e.aN.length:Int))) (gu (dH cL e.aN.length)<|lt ((e.aN.getD (Int.toNat cL) default):av) λiw=>yl (eB,iw)<|k39 (wr .i64 (eB+(wr .i64 (iw.N*32)))) (wr .i64 (cL+1))) (some [])) m b (i:Int)=some (RM b (e.aN.drop i)):=by
  intro m
  induction m with
  |zero=>intro i b _ h;omega
  |succ m ih=>
   intro i b hi hm hb hsum;simp only[fe];by_cases c:i<e.aN.length
   ·have hg:e.aN.getD (Int.toNat (i:Int)) default=e.aN[i]:=by rw[aki,List.getD,akm c];rfl
    have hy:=hp _ (List.getElem_mem c);have hd:e.aN.drop i=e.aN[i]::e.aN.drop (i+1):=List.drop_eq_getElem_cons c;rw[hd,gY]at hsum;have hr:0<=bD (e.aN.drop (i+1)):=wu λz hz=>hp z (List.mem_of_mem_drop hz);rw[aR (by simpa using c),bf (eP (by omega) (by omega)),aU,hg,hd];rw[bx (x:=e.aN[i].N*32) (by omega) (by omega),bx (x:=b+e.aN[i].N*32) (by omega) (by omega),bx (x:=(i:Int)+1) (by omega) (by omega)];have e1:((i:Int)+1)=((i+1:Nat):Int):=by omega
    rw[e1,ih (i+1) (b+e.aN[i].N*32) (by omega) (by omega) (by omega) (by omega)];show some ((b,e.aN[i])::RM (b+e.aN[i].N*32) (e.aN.drop (i+1)))=some ((b,e.aN[i])::RM (b+32*e.aN[i].N) (e.aN.drop (i+1)));rw[Int.mul_comm]
   ·rw[au (by simpa using c),List.drop_eq_nil_of_le (by omega)];rfl
 have:=key n 0 0 (by omega) (by omega) (by omega) (by rw[List.drop_zero];omega);simpa using this
theorem He:∀(l:List Rn) (b:Int),(RM b l).map Prod.snd=l
 |[],_ =>rfl
 |y::r,b=>by rw[RM,List.map_cons,He r]
theorem Ni{n:Nat}{e:aC}(hn:e.aN.length<n)(hl:e.aN.length<=1000)(hp:BR e.aN)(hs:bD e.aN<=1000):dw n e=some (bD e.aN):=by unfold dw;rw[ak (show gS n e=some e from rfl),ak (KZ hn hl hp hs)];have h0:=wu hp;refine(NW (n:=n) (RM 0 e.aN) 0 (by omega) (by rw[He];omega) λq hq=>hp q.2 (by rw[← He e.aN 0];exact List.mem_map_of_mem hq)).trans ?_;rw[He];congr 1;omega
theorem V8{n:Nat}(hn:5<=n)(s a:Int):p6 n s a=some (if uB s a then((s+31)/32,true)else(0,false)):=by
 unfold p6;rw[ak (KB hn s a)];cases h:uB s a with
 |false=>rfl
 |true=>
  have hs:1<=s/\s<=128:=by
   have h1:(decide (1<=s)&&decide (s<=128))=true:=by unfold uB at h;rw[akg]at h;exact h.1
   simpa using h1
  rw[au (b:= !true) rfl,bx (x:=s+32) (by omega) (by omega),bx (x:=s+32-1) (by omega) (by omega),HO (by omega),bx (by omega) (by omega),akd rfl];congr 3;omega
end Go.Proofs.Z
namespace Go.Proofs.Z
open Go Go.Bw
structure JB(l:List Rn):Prop where
 wC:∀y∈l,JR y.At y.N
 pw:l.Pairwise λy z=>∀p,y.At<=p->p<y.At+y.N->¬(z.At<=p/\p<z.At+z.N)
theorem JB.nil:JB []:=⟨by simp, .nil⟩
theorem zJ{l:List Rn}{y:Rn}:JB (l++[y])↔JB l/\JR y.At y.N/\∀p,y.At<=p->p<y.At+y.N->¬cB l p:=by
 constructor
 ·rintro⟨h1,h2⟩
  obtain⟨p1,p2,p3⟩:=List.pairwise_append.1 h2;exact⟨⟨λz hz=>h1 z (by simp[hz]),p1⟩,h1 y (by simp),λp q1 q2 ⟨z,hz,q3,q4⟩=>p3 z hz y (by simp) p q3 q4 ⟨q1,q2⟩⟩
 ·rintro⟨⟨h1,h2⟩,h3,h4⟩
  refine⟨λz hz=>?_,List.pairwise_append.2 ⟨h2,List.pairwise_singleton _ _,λa ha b hb p q1 q2 q3=>?_⟩⟩
  ·rcases List.mem_append.1 hz with hz|hz
   ·exact h1 z hz
   ·rw[List.mem_singleton.1 hz];exact h3
  ·rw[List.mem_singleton.1 hb]at q3
   exact h4 p q3.1 q3.2 ⟨a,ha,q1,q2⟩
theorem JB.YN{l:List Rn}(h:JB l):BR l:=λy hy=>(h.wC y hy).1
theorem nT:∀(l m:List Rn),bD (l++m)=bD l+bD m
 |[],m=>by simp[bD]
 |y::r,m=>by rw[List.cons_append,gY,gY,nT r m];omega
theorem M1{l:List Rn}(h:qz l):∀i:Nat,yc l i<=i
 |0=>by rw[Int.natCast_zero,uh h];exact Int.le_refl _
 |i+1=>by
  have:=M1 h i;obtain⟨a,b⟩:=uj h i;have e:((i+1:Nat):Int)=(i:Int)+1:=by omega
  rw[e];by_cases c:cB l i
  ·rw[a c];omega
  ·rw[b c];omega
theorem Wc{n:Nat}(hn:110<=n){e:aC}(hl:e.aN.length<=80)(hr:∀y∈e.aN,Ui y.At/\Ui y.N):∃b,gj n e=some b/\(b=true↔JB e.aN/\bD e.aN<=64/\0<=e.er/\e.er<=32*bD e.aN):=by
 unfold gj;refine tB (λ(i:Int) (r:br)=>0<=i/\i<=e.aN.length/\qz r.l/\JB (e.aN.take i.toNat)/\(∀p,cB r.l p↔cB (e.aN.take i.toNat) p)/\bD r.l=bD (e.aN.take i.toNat)) (λi _ =>((e.aN.length:Int)-i).toNat)
  (λo=>∃b,o=some b/\(b=true↔JB e.aN/\bD e.aN<=64/\0<=e.er/\e.er<=32*bD e.aN)) ?_ n 0 kD ⟨by omega,by omega,qz.nil,JB.nil,λp=>Iff.rfl,rfl⟩ (by omega)
 rintro kk i r ⟨i0,i1,hc,hg,hm,hs⟩ ih;obtain⟨i,rfl⟩:=Int.eq_ofNat_of_zero_le i0;rw[aki]at hg hm hs;by_cases c:i<e.aN.length
 ·have hgd:e.aN.getD (Int.toNat (i:Int)) default=e.aN[i]:=by rw[aki,List.getD,akm c];rfl
  have hy:=hr _ (List.getElem_mem c);have ht:e.aN.take (i+1)=e.aN.take i++[e.aN[i]]:=akn c;rw[aR (by simpa using c),bf (eP (by omega) (by omega)),aU,hgd];obtain⟨r',g,g1,g2,g3,g4⟩:=Rg (n:=n) hn hc (at_:=e.aN[i].At) (k:=e.aN[i].N) hy.1 hy.2;rw[ak g1];have ahi:g=true↔JB (e.aN.take (i+1)):=by rw[g2,ht,zJ];exact⟨λ⟨a,b⟩=>⟨hg,a,λp q1 q2 q3=>b p q1 q2 ((hm p).2 q3)⟩,λ⟨_,a,b⟩=>⟨a,λp q1 q2 q3=>b p q1 q2 ((hm p).1 q3)⟩⟩
  cases g with
  |false=>refine⟨false,rfl,λh=>(by cases h),λ⟨h,_⟩=>?_⟩;rw[← List.take_append_drop (i+1) e.aN]at h;exact ahi.2 ⟨λy hy=>h.wC y (akk _ hy),(List.pairwise_append.1 h.pw).1⟩
  |true=>
   obtain⟨c1,c2⟩:=g4 rfl;have ho:=(g2.1 rfl).1;rw[au (b:= !true) rfl,bx (by omega) (by omega)];have e1:((i:Int)+1).toNat=i+1:=by omega
   refine ih _ _ ⟨by omega,by omega,c1,by rw[e1];exact ahi.1 rfl,λp=>?_,?_⟩ (by omega)
   ·rw[e1,ht,ke,fI,c2 p,hm p]
   ·rw[e1,ht,nT, ← hs]
    rw[Ez c1 hc (DG ho) (λp=>by rw[c2 p,fI]) (λp hp hq=>(g2.1 rfl).2 p (fI.1 hq).1 (fI.1 hq).2 hp)]
 ·rw[au (by simpa using c)]
  obtain rfl:i=e.aN.length:=by omega
  rw[List.take_length]at hg hm hs;have hs2:=M3 (lo:=0) hc (λy hy=>(hc.wC y hy).1) (by omega);have h64:bD r.l<=64:=by rw[← wq hc];exact M1 hc 64
  rw[AA (Ni (n:=n) (by omega) (by omega) hg.YN (by rw[← hs];omega))];refine⟨_,rfl,?_⟩;by_cases c0:0<=e.er
  ·have e1:(bif decide (0<=e.er)==true then bD e.aN else default)=bD e.aN:=by simp[c0]
   rw[e1,bx (by omega) (by omega)];simp only[c0,decide_true,Bool.true_and,decide_eq_true_eq,true_and, ← hs];exact⟨λh=>⟨hg,h64,by omega⟩,λh=>by omega⟩
  ·simp[c0]
end Go.Proofs.Z
namespace Go.Proofs.Z
open Go Go.Bw
def v5(y:Rn):List Int:=(List.range (32*y.N).toNat).map λ(k:Nat)=>32*y.At+(k:Int)
def kr(l:List Rn):List Int:=l.flatMap v5
theorem uM(y:Rn):(v5 y).length=(32*y.N).toNat:=by simp[v5]
theorem zZ(y:Rn)(l:List Rn):kr (y::l)=v5 y++kr l:=by simp[kr]
theorem Cb(l m:List Rn):kr (l++m)=kr l++kr m:=by simp[kr]
theorem I1(y:Rn):kr [y]=v5 y:=by simp[kr]
theorem uN:∀{l:List Rn},BR l->((kr l).length:Int)=32*bD l
 |[],_ =>by simp[kr,bD]
 |y::r,h=>by have h1:=h y (by simp);have h2:=uN (l:=r) λz hz=>h z (by simp[hz]);rw[zZ,List.length_append,uM,gY];omega
theorem HV(k:Nat)(f:Nat->Int):(List.range (k+1)).map f=(List.range k).map f++[f k]:=by rw[List.range_succ,List.map_append];rfl
structure Gx(l:List Rn):Prop where
 gd:JB l
 sum:bD l<=64
theorem Wp:∀{l:List Rn},BR l->(l.length:Int)<=bD l
 |[],_ =>by simp[bD]
 |y::r,h=>by have h1:=h y (by simp);have h2:=Wp (l:=r) λz hz=>h z (by simp[hz]);rw[gY,List.length_cons];omega
theorem Gx.len{l:List Rn}(h:Gx l):l.length<=64:=by have:=Wp h.gd.YN;have:=h.sum;omega
theorem Gx.pos{l:List Rn}(h:Gx l):0<=bD l:=wu h.gd.YN
theorem KF{l:List Rn}{y:Rn}{p:Int}:cB (l++[y]) p↔cB l p\/(y.At<=p/\p<y.At+y.N):=by rw[ke,fI]
def Gj(y:Rn):List Int:=(List.range y.N.toNat).map λ(k:Nat)=>y.At+(k:Int)
theorem Nq{y:Rn}{p:Int}:p∈Gj y↔y.At<=p/\p<y.At+y.N:=by
 unfold Gj;rw[List.mem_map];constructor
 ·rintro⟨k,hk,rfl⟩
  rw[List.mem_range]at hk;omega
 ·intro h
  exact⟨(p-y.At).toNat,by rw[List.mem_range];omega,by omega⟩
theorem ZV(y:Rn):(Gj y).Nodup:=by unfold Gj;rw[List.Nodup,List.pairwise_map];exact List.nodup_range.imp λh e=>h (by omega)
theorem M6{α:Type}{P:List α->Prop}(h0:P [])(h1:∀l y,P l->P (l++[y]))(l:List α):P l:=by
 have key:∀(r:List α),P r.reverse:=by
  intro r
  induction r with
  |nil=>exact h0
  |cons y r ih=>rw[List.reverse_cons];exact h1 _ _ ih
 have:=key l.reverse;rwa[List.reverse_reverse]at this
theorem ZH:∀(l:List Rn),JB l->∃t:List Int,t.Nodup/\(∀p,p∈t↔cB l p)/\(t.length:Int)=bD l:=by
 intro l
 induction l using M6 with
 |h0=>intro _;exact⟨[],List.nodup_nil,by simp[cB],by simp[bD]⟩
 |h1 l y ih=>
  intro h;obtain⟨h1,h2,h3⟩:=zJ.1 h;obtain⟨t,t1,t2,t3⟩:=ih h1;refine⟨t++Gj y,List.nodup_append.2 ⟨t1,ZV y,λa ha b hb e=>?_⟩,λp=>?_,?_⟩
  ·subst e
   have:=Nq.1 hb;exact h3 _ this.1 this.2 ((t2 _).1 ha)
  ·rw[List.mem_append,t2,Nq,KF]
  ·have:=h2.1
   rw[List.length_append,nT];simp only[Gj,List.length_map,List.length_range,bD,List.map_cons,List.map_nil,List.sum_cons,List.sum_nil]at *;omega
theorem aax{l:List Rn}(h:JB l):bD l<=64:=by
 obtain⟨t,t1,t2,t3⟩:=ZH l h;have:=wG 64 t1 λp hp=>by obtain⟨y,hy,h1,h2⟩:=(t2 p).1 hp;obtain⟨a,b,c⟩:=h.wC y hy;exact⟨by omega,by omega⟩
 omega
theorem abX{l:List Rn}(h:JB l):Gx l:=⟨h,aax h⟩
end Go.Proofs.Z
namespace Go.Proofs.Z
open Go Go.Bw
def AT(x a:Int):Int:=(x+a-1)/a*a
def al4(a:Int):Prop:=a=1\/a=2\/a=4\/a=8
theorem mP{s a:Int}:uB s a=true↔(1<=s/\s<=128)/\al4 a:=by unfold uB al4;simp[or_assoc]
theorem CZ{x a:Int}(ha:al4 a):x<=AT x a/\AT x a<=x+a-1/\AT x a%a=0/\∀y,x<=y->y<=AT x a->y%a=0->y=AT x a:=by unfold AT;rcases ha with rfl|rfl|rfl|rfl<;>exact⟨by omega,by omega,by omega,λy _ _ _ =>by omega⟩
theorem afR{n:Nat}{x a:Int}(h0:0<=x)(h1:x<=100000)(ha:al4 a):jD n x a=some (AT x a):=by
 unfold jD AT;obtain⟨x,rfl⟩:=Int.eq_ofNat_of_zero_le h0;rcases ha with rfl|rfl|rfl|rfl
 ·have:=AE (x:=x) (m:=0) (by omega) (by omega)
  rw[bx (x:=(x:Int)+1) (by omega) (by omega),bx (x:=(x:Int)+1-1) (by omega) (by omega),show wr .i64 (1-1)=((2^0-1:Nat):Int)by decide,show(x:Int)+1-1=((x:Nat):Int)by omega,this];congr 1
 ·have:=AE (x:=x+1) (m:=1) (by omega) (by omega)
  rw[bx (x:=(x:Int)+2) (by omega) (by omega),bx (x:=(x:Int)+2-1) (by omega) (by omega),show wr .i64 (2-1)=((2^1-1:Nat):Int)by decide,show(x:Int)+2-1=((x+1:Nat):Int)by omega,this];congr 1
 ·have:=AE (x:=x+3) (m:=2) (by omega) (by omega)
  rw[bx (x:=(x:Int)+4) (by omega) (by omega),bx (x:=(x:Int)+4-1) (by omega) (by omega),show wr .i64 (4-1)=((2^2-1:Nat):Int)by decide,show(x:Int)+4-1=((x+3:Nat):Int)by omega,this];congr 1
 ·have:=AE (x:=x+7) (m:=3) (by omega) (by omega)
  rw[bx (x:=(x:Int)+8) (by omega) (by omega),bx (x:=(x:Int)+8-1) (by omega) (by omega),show wr .i64 (8-1)=((2^3-1:Nat):Int)by decide,show(x:Int)+8-1=((x+7:Nat):Int)by omega,this];congr 1
structure qg(e:aC):Prop where
 gx:Gx e.aN
 lo:0<=e.er
 hi:e.er<=32*bD e.aN
def gh(e:aC)(s a:Int):Bool:=uB s a&&decide (AT e.er a+s<=32*bD e.aN)
def FN(e:aC)(s a:Int):Int×Bool:=if gh e s a=true then(AT e.er a,true)else(0,false)
theorem Pa{n:Nat}(hn:110<=n){e:aC}(h:qg e):dw n e=some (bD e.aN):=by have:=h.gx.len;have:=h.gx.sum;exact Ni (by omega) (by omega) h.gx.gd.YN (by omega)
theorem Rq{n:Nat}(hn:110<=n){e:aC}(h:qg e)(s a:Int):gI n e s a=some (FN e s a):=by
 unfold gI;have h1:=h.lo;have h2:=h.hi;have h3:=h.gx.sum;have h4:=h.gx.pos;rw[ak (KB (by omega) s a)];unfold FN gh;cases ho:uB s a with
 |false=>rfl
 |true=>
  obtain⟨⟨o1,o2⟩,o3⟩:=mP.1 ho;obtain⟨u1,u2,_⟩:=CZ (x:=e.er) o3;have ha:a<=8:=by rcases o3 with rfl|rfl|rfl|rfl<;>omega
  rw[au (b:= !true) rfl,ak (afR h1 (by omega) o3),ak (Pa hn h),bx (by omega) (by omega),bx (by omega) (by omega)];by_cases c:bD e.aN*32<AT e.er a+s
  ·rw[aR (by simpa using c),ake (by simp;omega)]
  ·rw[au (by simpa using c),akd (by simp;omega)]
theorem ZG{n:Nat}(hn:110<=n){e:aC}(h:qg e)(s a:Int):ia n e s a=some (if gh e s a=true then(⟨e.aN,AT e.er a+s⟩,AT e.er a,true)else(e,0,false)):=by
 unfold ia;rw[ak (Rq hn h s a)];unfold FN;have h1:=h.lo;have h2:=h.hi;have h3:=h.gx.sum;have h4:=h.gx.pos;cases hf:gh e s a with
 |false=>rfl
 |true=>have WU:=hf;unfold gh at hf;rw[akg,decide_eq_true_iff,mP]at hf;obtain⟨⟨⟨o1,o2⟩,o3⟩,o4⟩:=hf;obtain⟨u1,u2,_⟩:=CZ (x:=e.er) o3;rw[akd rfl,akd rfl,aR rfl,aU];dsimp only;rw[bx (by omega) (by omega)]
def plV(l:List Rn)(b at_:Int):Int×Bool:=if b<=at_/\at_<b+32*bD l then((kr l).getD (at_-b).toNat 0,true)else(0,false)
theorem Iy{α:Type}(l m:List α)(i:Nat)(d:α)(h:i<l.length):(l++m).getD i d=l.getD i d:=by rw[List.getD,List.getD,List.getElem?_append_left h]
theorem Iw{α:Type}(l m:List α)(i:Nat)(d:α)(h:l.length<=i):(l++m).getD i d=m.getD (i-l.length) d:=by rw[List.getD,List.getD,List.getElem?_append_right h]
theorem IZ(y:Rn){i:Nat}(h:i<(32*y.N).toNat):(v5 y).getD i 0=32*y.At+i:=by unfold v5;rw[List.getD,List.getElem?_map,List.getElem?_range h];rfl
theorem VV{at_:Int}(ha:Ui at_):∀(l:List Rn) (b:Int),(∀y∈l,JR y.At y.N)->0<=b->b+32*bD l<=100000->
  yD (λ(mg:Int×av) k28 (u27:Unit)=>lt (mg.1:Int) λcN=>lt (mg.2:av) λdW=>cn ((decide (cN<=at_)&&decide (at_<(wr .i64 (cN+(wr .i64 (dW.N*32))))))) (lt (wr .i64 ((wr .i64 ((wr .i64 (dW.At*32))+at_))-cN):Int) λdI=>some (dI,true)) (k28 ())) (λ(u27:Unit)=>some (0,false)) (RM b l) ()=some (plV l b at_):=by
 intro l
 induction l with
 |nil=>intro b _ _ _;show some ((0:Int),false)=_;unfold plV;rw[ake];simp only[bD,List.map_nil,List.sum_nil];omega
 |cons y r ih=>
  intro b h0 h1 h2;have hy:=h0 y (by simp);have hr:BR r:=λz hz=>(h0 z (by simp[hz])).1;have hr0:=wu hr;have hbl:=uM y;rw[gY]at h2;obtain⟨y1,y2,y3⟩:=hy;rw[RM];simp only[yD,aU];rw[bx (x:=y.N*32) (by omega) (by omega),bx (x:=b+y.N*32) (by omega) (by omega)];by_cases c:b<=at_/\at_<b+y.N*32
  ·rw[aR (by simpa using c),bx (x:=y.At*32) (by omega) (by omega),bx (x:=y.At*32+at_) (by omega) (by omega),bx (by omega) (by omega)]
   unfold plV;rw[akd (by rw[gY];omega),zZ,Iy _ _ _ _ (by rw[uM];omega),IZ y (by omega)];congr 2;omega
  ·rw[au (by simpa using c)]
   refine(ih (b+32*y.N) (λz hz=>h0 z (by simp[hz])) (by omega) (by omega)).trans ?_;unfold plV;by_cases d:b+32*y.N<=at_/\at_<b+32*y.N+32*bD r
   ·rw[akd d,akd (by rw[gY];omega),zZ,Iw _ _ _ _ (by rw[uM];omega),uM]
    congr 3;omega
   ·rw[ake d,ake (by rw[gY];omega)]
theorem VW{n:Nat}(hn:110<=n){e:aC}(h:qg e){at_:Int}(ha:Ui at_):jW n e at_=some (plV e.aN 0 at_):=by unfold jW;have:=h.gx.len;have:=h.gx.sum;rw[ak (show gS n e=some e from rfl),ak (KZ (by omega) (by omega) h.gx.gd.YN (by omega))];exact VV ha e.aN 0 h.gx.gd.wC (by omega) (by omega)
theorem aas{n:Nat}(hn:110<=n){e:aC}(h:qg e)(r:Rn):fO n e r=some ⟨e.aN++[r],32*bD e.aN⟩:=by unfold fO;have:=h.gx.len;have:=h.gx.sum;have:=h.gx.pos;rw[bf (jg (by omega) (by omega)),aU,ak (Pa hn h),aU,bx (by omega) (by omega),Int.mul_comm]
end Go.Proofs.Z
namespace Go.Proofs.Z
open Go Go.Bw
theorem Ib{y:Rn}{q:Int}:q∈v5 y↔32*y.At<=q/\q<32*y.At+32*y.N:=by
 unfold v5;rw[List.mem_map];constructor
 ·rintro⟨k,hk,rfl⟩
  rw[List.mem_range]at hk;omega
 ·intro h
  exact⟨(q-32*y.At).toNat,by rw[List.mem_range];omega,by omega⟩
theorem Ic{l:List Rn}{q:Int}:q∈kr l↔cB l (q/32):=by unfold kr cB;rw[List.mem_flatMap];refine exists_congr λ_=>and_congr_right λ_ =>?_;rw[Ib];omega
theorem TJ:∀(l:List Rn),JB l->(kr l).Nodup:=by
 intro l
 induction l using M6 with
 |h0=>intro _;exact List.nodup_nil
 |h1 l y ih=>
  intro h;obtain⟨h1,h2,h3⟩:=zJ.1 h;rw[Cb,I1,List.nodup_append];refine⟨ih h1,?_,λa ha b hb e=>?_⟩
  ·unfold v5
   rw[List.Nodup,List.pairwise_map];exact List.nodup_range.imp λh e=>h (by omega)
  ·subst e
   have:=Ib.1 hb;exact h3 (a/32) (by omega) (by omega) (Ic.1 ha)
def ep(l:List Rn)(a:Int):Int:=(kr l).getD a.toNat 0
theorem Qd{l:List Rn}(h:JB l){a b:Int}(ha:0<=a/\a<32*bD l)(hb:0<=b/\b<32*bD l)(e:ep l a=ep l b):a=b:=by
 have hl:=uN h.YN;have h1:a.toNat<(kr l).length:=by omega
 have h2:b.toNat<(kr l).length:=by omega
 unfold ep at e;rw[List.getD,List.getD,akm h1,akm h2]at e;have:=(List.getElem_inj (TJ l h)).1 e;omega
theorem Qe{l m:List Rn}(h:JB l){a:Int}(ha:0<=a/\a<32*bD l):ep (l++m) a=ep l a:=by have hl:=uN h.YN;unfold ep;rw[Cb,Iy _ _ _ _ (by omega)]
theorem KG{n:Nat}(hn:110<=n){e:aC}(h:qg e):gj n e=some true:=by
 have:=h.gx.len;obtain⟨b,h1,h2⟩:=Wc (n:=n) hn (e:=e) (by omega) (λy hy=>by
  obtain⟨a,b,c⟩:=h.gx.gd.wC y hy;exact⟨⟨by omega,by omega⟩,⟨by omega,by omega⟩⟩)
 rw[h1,h2.2 ⟨h.gx.gd,h.gx.sum,h.lo,h.hi⟩]
theorem KH{e:aC}(h:qg e){a k:Int}(ho:JR a k)(hf:∀p,a<=p->p<a+k->¬cB e.aN p):qg ⟨e.aN++[⟨a,k⟩],32*bD e.aN⟩:=by have hg:JB (e.aN++[⟨a,k⟩]):=zJ.2 ⟨h.gx.gd,ho,hf⟩;have:=h.gx.pos;obtain⟨o1,o2,o3⟩:=ho;refine⟨abX hg,by dsimp only;omega,?_⟩;dsimp only;rw[nT,qW];omega
end Go.Proofs.Z
namespace Go.Proofs.Z
open Go Go.Bw
theorem Eu{α:Type}(f:Nat->α)(i:Nat):iW f i (f i)=f:=by
 funext j;unfold iW;split
 ·next h=>rw[h]
 ·rfl
def Qp(M:ai):Prop:=∀i:Nat,i<32->(M.bB i).Gq=0/\(M.bB i).n=0
theorem QM{n:Nat}(hn:1<=n){l:cC}(h:l.n=0)(t:Int):lE n l t=some (-1):=by obtain⟨m,rfl⟩:∃m,n=m+1:=⟨n-1,by omega⟩;unfold lE;rw[h];rfl
theorem Ki{n:Nat}(hn:1<=n){l:cC}(h:l.n=0)(t:Int):jB n l t=some l:=by unfold jB;rw[ak (QM hn h t)];rfl
theorem Pj{n:Nat}{i t:Int}(h0:0<=i)(h1:i<32)(t0:0<=t)(t1:t<8):wI n i t=some true:=by unfold wI;simp[h0,h1,t0,t1]
def vV(M:ai)(k:Nat)(t:Int):ai:=⟨iW M.bB k {(M.bB k)with Gq:=t+1}⟩
theorem afU{n:Nat}(hn:1<=n){M:ai}(hM:Qp M){k:Nat}(hk:k<32){t:Int}(t0:0<=t)(t1:t<8):
  pW n M k t=some (vV M k t,true):=by
 obtain⟨a,b⟩:=hM k hk;unfold pW;rw[ak (Pj (by omega) (by omega) t0 t1),au (b:= !true) rfl,bf (eP (by omega) (by omega)),aU,aki,ak (QM hn b t)];rw[au (by rw[a,bx (x:=0) (by omega) (by omega),bx (x:=t+1) (by omega) (by omega)];simp;omega),aR (by rw[a,b];rfl),ak (Ki hn b t),aU,aU,aU];refine congrArg (λm=>some (m,true)) ?_;unfold vV;refine congrArg ai.mk ?_;dsimp only;rw[ON,Eu,bx (x:=t+1) (by omega) (by omega),aiD (by omega) (by omega)]
def vt(M:ai)(t:Int)(c:Nat):ai:=⟨λj=>if j<c/\(M.bB j).Gq=t+1 then{(M.bB j)with Gq:=0}else M.bB j⟩
theorem W7(M:ai)(t:Int)(c:Nat):(vt M t c).bB c=M.bB c:=by unfold vt;dsimp only;rw[ake (by omega)]
theorem aat(M:ai)(t:Int)(c j:Nat):((vt M t c).bB j).n=(M.bB j).n:=by unfold vt;dsimp only;split<;>rfl
theorem adY{n:Nat}{M:ai}{c:Nat}(hc:c<32){t:Int}(t0:0<=t)(t1:t<8)(hb:0<=(M.bB c).Gq/\(M.bB c).Gq<=255):
  om n (vt M t c) c t=some (vt M t (c+1)):=by
 unfold om;rw[aU,ak (Pj (by omega) (by omega) t0 t1),aki,W7,bf (by rw[eP (by omega) (by omega)];rfl),bx (x:=(M.bB c).Gq) (by omega) (by omega),bx (x:=t+1) (by omega) (by omega)];by_cases h:(M.bB c).Gq=t+1
 ·rw[aR (by simpa using h),bf (eP (by omega) (by omega)),aU]
  show some _ =some _;refine congrArg some ?_;unfold vt;refine congrArg ai.mk ?_;funext j;unfold iW;dsimp only;by_cases hj:j=c
  ·subst hj
   rw[akd rfl,akd ⟨by omega,h⟩]
  ·rw[ake hj]
   by_cases hl:j<c
   ·by_cases hh:(M.bB j).Gq=t+1
    ·rw[akd ⟨hl,hh⟩,akd ⟨by omega,hh⟩]
    ·rw[ake (λq=>hh q.2),ake (λq=>hh q.2)]
   ·rw[ake (by omega),ake (by omega)]
 ·rw[au (by simpa using h)]
  show some _ =some _;refine congrArg some ?_;unfold vt;refine congrArg ai.mk ?_;funext j;by_cases hj:j=c
  ·subst hj
   rw[ake (by omega),ake (λq=>h q.2)]
  ·by_cases hl:j<c
   ·by_cases hh:(M.bB j).Gq=t+1
    ·rw[akd ⟨hl,hh⟩,akd ⟨by omega,hh⟩]
    ·rw[ake (λq=>hh q.2),ake (λq=>hh q.2)]
   ·rw[ake (by omega),ake (by omega)]
theorem W8{n:Nat}(hn:40<=n){M:ai}{t:Int}(t0:0<=t)(t1:t<8)(hb:∀j,j<32->(M.bB j).n=0/\0<=(M.bB j).Gq/\(M.bB j).Gq<=255):
  dG n M t=some (vt M t 32):=by
 unfold dG;refine tB (λ(i:Int) (m:ai)=>∃c:Nat,i=(c:Int)/\c<=32/\m=vt M t c) (λi _ =>(32-i).toNat) (λo=>o=some (vt M t 32)) ?_ n 0 M ⟨0,rfl,by omega,?_⟩ (by omega)
 ·rintro kk i m ⟨c,rfl,hc,rfl⟩ ih
  by_cases h:c<32
  ·obtain⟨h1,h2⟩:=hb c h
   rw[aR (by simp;omega),aU,ak (adY h t0 t1 h2),aU,ak (Pj (by omega) (by omega) t0 t1),aR (by rfl),bf (eP (by omega) (by omega)),aki,ak (Ki (by omega) (by rw[aat];exact h1) t),bf (eP (by omega) (by omega)),Eu,aU,bx (by omega) (by omega)];exact ih _ _ ⟨c+1,by omega,by omega,rfl⟩ (by omega)
  ·obtain rfl:c=32:=by omega
   rw[au (by simp),aU]
 ·unfold vt
  cases M;refine congrArg ai.mk ?_;funext j;rw[ake (by omega)]
theorem Rf{n:Nat}(hn:40<=n){M:ai}(hM:Qp M){t:Int}(t0:0<=t)(t1:t<8):dG n M t=some M:=by
 rw[W8 hn t0 t1 λj hj=>⟨(hM j hj).2,by rw[(hM j hj).1];omega⟩];refine congrArg some ?_;unfold vt;cases M with|mk s=>
 refine congrArg ai.mk ?_;funext j;rw[ake];rintro⟨h1,h2⟩;have:=(hM j h1).1;dsimp only at this h2;omega
theorem ES{n:Nat}(hn:40<=n){M:ai}(hM:Qp M){k:Nat}(hk:k<32){t:Int}(t0:0<=t)(t1:t<8):dG n (vV M k t) t=some M:=by
 rw[W8 hn t0 t1 λj hj=>by
  unfold vV iW;dsimp only;split
  ·next h=>subst h;exact⟨(hM j hj).2,by show 0<=t+1;omega,by show t+1<=255;omega⟩
  ·exact⟨(hM j hj).2,by rw[(hM j hj).1];omega⟩]
 refine congrArg some ?_;unfold vt vV;cases M with|mk s=>
 refine congrArg ai.mk ?_;funext j;dsimp only;by_cases h:j=k
 ·subst h
  have hz:=(hM j hk).1;dsimp only at hz;have e1:iW s j {s j with Gq:=t+1} j={s j with Gq:=t+1}:=ON _ _ _;simp only[e1];rw[akd (by simp[hk])];generalize s j=y at hz;cases y;dsimp only at hz;subst hz;rfl
 ·have e1:iW s k {s k with Gq:=t+1} j=s j:=UL _ _ h
  simp only[e1];rw[ake];rintro⟨h1,h2⟩;have:=(hM j h1).1;dsimp only at this;omega
theorem acU{n:Nat}(hn:1<=n)(S:ae)(P:aj)(M:ai)(Q:List Int){r:av}(h:r.N<=0):fM n S P M Q r=some (S,P,M,Q):=by obtain⟨m,rfl⟩:∃m,n=m+1:=⟨n-1,by omega⟩;unfold fM;simp only[yj];rw[au (by simp;omega)]
theorem ahF{n:Nat}(hn:40<=n)(S:ae)(P:aj)(M:ai)(Q:List Int){c:aF}(h:c.yR.N<=0){M':ai}(hg:dG n M c.kA=some M'):lT n S P M Q c=some (S,P,M',Q):=by unfold lT;rw[ak (acU (by omega) S P M Q h),ak hg,aU]
theorem PT{n:Nat}(hn:40<=n)(S:ae)(P:aj)(M:ai)(Q:List Int){c:aF}(r0:ah)(b0:Bool)(r:ah)(h:c.yR.N<=0){M':ai}(hg:dG n M c.kA=some M'):fB n S P M Q c r0 b0 r=some (S,P,M',Q,c,r,true):=by unfold fB;rw[aU,ak (ahF hn S P M Q h hg)]
end Go.Proofs.Z
namespace Go.Proofs.Z
open Go Go.Bw
abbrev F5(t:Int)(c:aD)(l:List Int)(r:av)(j:Int):aF:=⟨t,c,true,l,r,j⟩
noncomputable def nU(n:Nat)(a1:aD):(ah->ae->aj->ai->List Int->Int->aF->Option (ah×ae×aj×ai×(List Int)×Int))->ah->ae->aj->ai->List Int->Int->aF->Option (ah×ae×aj×ai×(List Int)×Int):=λk29 (bp:ah) (bA:ae) (cM:aj) (cU:ai) (dZ:(List Int)) (cJ:Int) (dP:aF)=>cl (((!dP.Checked)==true)) (qF n bA cJ a1) default λeB=>cn (((!dP.Checked)&&eB)) (cn ((a1.Do==15)) (lt (({az with E:=10}:ah):ah) λcL=>some (cL,bA,cM,cU,dZ,cJ)) (lt (({az with E:=12}:ah):ah) λgV=>some (gV,bA,cM,cU,dZ,cJ))) (bd (dc n bA cM cU dZ dP) λdh=>lt (dh.1:aF) λcN=>lt (dh.2.1:ah) λdW=>cn (dh.2.2.1) (lt (dW:ah) λnC=>some (nC,dh.2.2.2.1,dh.2.2.2.2.1,dh.2.2.2.2.2.1,dh.2.2.2.2.2.2,cJ)) (cn (((dP.Checked&&((cN.eJ.length:Int)==(dP.eJ.length:Int)))&&(decide (0<(dP.eJ.length:Int))))) (bd (lT n dh.2.2.2.1 dh.2.2.2.2.1 dh.2.2.2.2.2.1 dh.2.2.2.2.2.2 dP) λdI=>lt (({az with E:=12}:ah):ah) λnQ=>some (nQ,dI.1,dI.2.1,dI.2.2.1,dI.2.2.2,cJ)) (lt (cN:aF) λgN=>k29 bp dh.2.2.2.1 dh.2.2.2.2.1 dh.2.2.2.2.2.1 dh.2.2.2.2.2.2 cJ gN)))
theorem LJ(n:Nat)(S:ae)(P:aj)(M:ai)(Q:List Int)(t:Int)(c:aD):eG n S P M Q t c=wJ (nU n c) n az S P M Q t ⟨t,c,false,[],aB,0⟩:=rfl
section
variable {n:Nat} {S S':ae} {P P':aj} {M M':ai} {Q Q':List Int} {t:Int} {c:aD} {u u':aF} {r:ah}
theorem GU(hd:c.Do≠15):qF n S t c=some false:=by
 have hb:(c.Do==15)=false:=by simpa using hd
 unfold qF;rw[n5 (by rw[hb];rfl),hb];rfl
theorem Av(hd:c.Do≠15)(hs:dc n S P M Q u=some (u',r,true,S',P',M',Q')){kk}{x:ah}:nU n c kk x S P M Q t u=some (r,S',P',M',Q',t):=by unfold nU;rw[AA (GU hd),au (by cases u.Checked<;>rfl),ak hs];rfl
theorem uA(hd:c.Do≠15)(hs:dc n S P M Q u=some (u',r,false,S',P',M',Q'))(hl:u.Checked=true->u.eJ.length=0\/u'.eJ.length≠u.eJ.length){kk}{x:ah}:nU n c kk x S P M Q t u=kk x S' P' M' Q' t u':=by
 unfold nU;rw[AA (GU hd),au (by cases u.Checked<;>rfl),ak hs,aU,aU,au (by rfl),au]
 ·rfl
 ·cases hc:u.Checked with
  |false=>rfl
  |true=>
   dsimp only;rcases hl hc with h|h
   ·rw[h];simp
   ·rw[Bool.true_and,show((u'.eJ.length:Int)==(u.eJ.length:Int))=false by simp;omega];rfl
theorem UU{b:Bool}(h:eR n S P M Q u az false=some (true,S',P',M',Q',u',r,b)):dc n S P M Q u=some (u',r,b,S',P',M',Q'):=by unfold dc;rw[aU,ak h];rfl
theorem Hf(hu:u.Checked=true){x:ah}{b:Bool}:eR n S P M Q u x b=some (false,S,P,M,Q,u,x,b):=by unfold eR;rw[aR hu]
theorem afZ{b:Bool}(hu:u.Checked=true)(h:fP n S P M Q u az false=some (true,S',P',M',Q',u',r,b)):dc n S P M Q u=some (u',r,b,S',P',M',Q'):=by unfold dc;rw[aU,ak (Hf hu),au (by rfl),ak h];rfl
theorem Pn(hu:u.eJ=[]){x:ah}{b:Bool}:fP n S P M Q u x b=some (false,S,P,M,Q,u,x,b):=by unfold fP;rw[hu];rfl
theorem abz{b:Bool}(hu:u.Checked=true)(hr:u.eJ=[])(h:cy n S P M Q u az false=some (true,S',P',M',Q',u',r,b)):dc n S P M Q u=some (u',r,b,S',P',M',Q'):=by unfold dc;rw[aU,ak (Hf hu),au (by rfl),ak (Pn hr),au (by rfl),ak h];rfl
theorem afY{b:Bool}(hu:u.Checked=true)(hr:u.eJ=[])(hc:cy n S P M Q u az false=some (false,S,P,M,Q,u,az,false))(h:fq n S P M Q u az false=some (true,S',P',M',Q',u',r,b)):dc n S P M Q u=some (u',r,b,S',P',M',Q'):=by unfold dc;rw[aU,ak (Hf hu),au (by rfl),ak (Pn hr),au (by rfl),ak hc,au (by rfl),ak h];rfl
theorem aby{b:Bool}(hu:u.Checked=true)(hr:u.eJ=[])(hc:cy n S P M Q u az false=some (false,S,P,M,Q,u,az,false))(hl:u.yR.N<=u.q8)(h:cG n S P M Q u az false=some (true,S',P',M',Q',u',r,b)):dc n S P M Q u=some (u',r,b,S',P',M',Q'):=by unfold dc;rw[aU,ak (Hf hu),au (by rfl),ak (Pn hr),au (by rfl),ak hc,au (by rfl)];rw[ak (show fq n S P M Q u az false=some (false,S,P,M,Q,u,az,false)by unfold fq;rw[aR (by simpa using hl)]),au (by rfl),ak h];rfl
theorem H7(hn:40<=n)(hd:c.Do≠15)(hM:Qp M)(t0:0<=t)(t1:t<8){e:Int}(he:gE n S t c=some e)(h0:e≠0):eG n S P M Q t c=some (⟨e,0,0⟩,S,P,M,Q,t):=by obtain⟨m,rfl⟩:∃m,n=m+1:=⟨n-1,by omega⟩;rw[LJ];show nU (m+1) c _ _ _ _ _ _ _ _ =_;refine Av hd (u':=⟨t,c,false,[],aB,0⟩) (UU ?_);unfold eR;rw[au (by rfl),ak (GU hd),au (by rfl),ak he,aR (by simpa using h0),ak (PT hn S P M Q _ _ _ (by show(0:Int)<=0;omega) (Rf hn hM t0 t1))]
theorem N0(hd:c.Do≠15)(he:gE n S t c=some 0){l:List Int}(hr:kO n S c=some l):eR n S P M Q ⟨t,c,false,[],aB,0⟩ az false=some (true,S,P,M,Q,F5 t c l aB 0,az,false):=by unfold eR;rw[au (by rfl),ak (GU hd),au (by rfl),ak he,au (by rfl),ak hr];rfl
theorem VZ(hd:c.Do≠15)(he:gE (n+1) S t c=some 0)(hr:kO (n+1) S c=some []):eG (n+1) S P M Q t c=wJ (nU (n+1) c) n az S P M Q t (F5 t c [] aB 0):=by rw[LJ];show nU (n+1) c _ _ _ _ _ _ _ _ =_;rw[uA hd (UU (N0 hd he hr)) (λh=>by cases h)]
theorem zy(hd:c.Do≠15)(hM:Qp M)(t0:0<=t)(t1:t<8)(he:gE (n+2) S t c=some 0){h:Int}(hr:kO (n+2) S c=some [h]){k:Nat}(hk:k<32)(hs:bw (n+2) h=some ((k:Int),true)):eG (n+2) S P M Q t c=wJ (nU (n+2) c) n az S P (vV M k t) Q t (F5 t c [] aB 0):=by
 rw[LJ];show nU (n+2) c _ _ _ _ _ _ _ _ =_;rw[uA hd (UU (N0 hd he hr)) (λh=>by cases h)];show nU (n+2) c _ _ _ _ _ _ _ _ =_;have hm:fP (n+2) S P M Q (F5 t c [h] aB 0) az false=some (true,S,P,vV M k t,Q,F5 t c [] aB 0,az,false):=by unfold fP;rw[au (by rfl),bf (by rfl),ak (show bw (n+2) (List.getD (F5 t c [h] aB 0).eJ (Int.toNat 0) default)=some ((k:Int),true)from hs),ak (afU (by omega) hM hk t0 t1)];rfl
 rw[uA hd (afZ rfl hm) (λ_ => .inr (by simp))]
end
theorem Vu{n:Nat}(hn:110<=n)(S:ae)(P:aj)(M:ai)(Q:List Int)(hQ:Q.length<=10000){r:Rn}(ho:JR r.At r.N):fM n S P M Q r=some (S,P,M,Q++Gj r):=by
 obtain⟨o1,o2,o3⟩:=ho;unfold fM;refine KL (λ(i:Int) (s:ae) (p:aj) (m:ai) (q:List Int)=>∃j:Nat,i=(j:Int)/\(j:Int)<=r.N/\s=S/\p=P/\m=M/\q=Q++(List.range j).map λ(k:Nat)=>r.At+(k:Int)) (λi _ _ _ _ =>(r.N-i).toNat) (λo=>o=some (S,P,M,Q++Gj r)) ?_ n 0 S P M Q ⟨0,rfl,by omega,rfl,rfl,rfl,by simp⟩ (by omega);rintro kk i s p m q ⟨j,rfl,hj,rfl,rfl,rfl,rfl⟩ ih;by_cases h:(j:Int)<r.N
 ·rw[aR (by simpa using h),bf (jg (by simp;omega) (by simp;omega)),aU,bx (x:=r.At+j) (by omega) (by omega),bx (by omega) (by omega)]
  refine ih _ _ _ _ _ ⟨j+1,by omega,by omega,rfl,rfl,rfl,?_⟩ (by omega);rw[HV,List.append_assoc]
 ·rw[au (by simpa using h)]
  unfold Gj;rw[show r.N.toNat=j by omega]
end Go.Proofs.Z
namespace Go.Proofs.Z
open Go Go.Bw
theorem afT(x:Int):0<=wr .u8 x/\wr .u8 x<=255:=by
 have h:wr .u8 x=x%256:=by simp[wr,IntKind.wrap,IntKind.signed,IntKind.bits]
 rw[h];omega
structure JA(P:aj):Prop where
 Ox:qz P.eo.l
 n1:P.n<=64
 fr:∀p,cB P.eo.l p->p<P.n
 bt:∀i j,0<=P.bytes i j/\P.bytes i j<=255
def iy(P:aj)(p:Int):Prop:=0<=p/\p<P.n/\¬cB P.eo.l p
def Hg(P:aj)(a:Int):Int:=P.bytes (a/32).toNat (a%32).toNat
def wrP(P:aj)(a v:Int):aj:={P with bytes:=iW P.bytes (a/32).toNat (iW (P.bytes (a/32).toNat) (a%32).toNat v)}
theorem RR{P:aj}(h:JA P)(a:Int):0<=Hg P a/\Hg P a<=255:=h.bt _ _
theorem acn{P:aj}{a b v:Int}(ha:0<=a)(hb:0<=b):Hg (wrP P a v) b=if b=a then v else Hg P b:=by
 unfold Hg wrP iW;dsimp only;by_cases h:b=a
 ·subst h;rw[akd rfl,akd rfl,akd rfl]
 ·rw[ake h]
  by_cases h1:(b/32).toNat=(a/32).toNat
  ·rw[akd h1,ake (by omega),h1]
  ·rw[ake h1]
theorem acm{P:aj}(h:JA P)(a:Int){v:Int}(hv:0<=v/\v<=255):JA (wrP P a v):=
 ⟨h.Ox,h.n1,h.fr,λi j=>by
  unfold wrP iW;dsimp only;by_cases h1:i=(a/32).toNat
  ·rw[akd h1];by_cases h2:j=(a%32).toNat
   ·rw[akd h2];exact hv
   ·rw[ake h2];exact h.bt _ _
  ·rw[ake h1];exact h.bt _ _⟩
theorem Mf{n:Nat}(hn:110<=n){P:aj}(h:JA P){p:Int}(hp:iy P p):iC n P.eo p=some false:=by
 obtain⟨p0,p1,p2⟩:=hp;have:=h.n1;obtain⟨b,e,hb⟩:=adQ hn h.Ox (p:=p) ⟨by omega,by omega⟩;rw[e];cases b with
 |false=>rfl
 |true=>exact absurd (hb.1 rfl) p2
theorem acT{n:Nat}(hn:110<=n){P:aj}(h:JA P){a:Int}(ha:0<=a)(hl:iy P (a/32)):mM n P a=some (Hg P a,0):=by
 have:=h.n1;obtain⟨p0,p1,p2⟩:=hl;have e1:wr .i64 (Int.tdiv a 32)=a/32:=by rw[HO ha,bx (by omega) (by omega)]
 have e2:Int.tmod a 32=a%32:=M0 ha;unfold mM;rw[e1,e2,au (by simp;omega),au (by simp;omega),ak (Mf hn h ⟨p0,p1,p2⟩),au (by rfl),bf (eP (by omega) (by omega)),bf (eP (by omega) (by omega))];rfl
theorem Y7{n:Nat}(hn:110<=n){P:aj}(h:JA P){a:Int}(ha:0<=a)(hl:iy P (a/32))(v:Int):lA n P a v=some (0,wrP P a v):=by
 have:=h.n1;obtain⟨p0,p1,p2⟩:=hl;have e1:wr .i64 (Int.tdiv a 32)=a/32:=by rw[HO ha,bx (by omega) (by omega)]
 have e2:Int.tmod a 32=a%32:=M0 ha;unfold lA;rw[e1,e2,au (by simp;omega),au (by simp;omega),ak (Mf hn h ⟨p0,p1,p2⟩),au (by rfl),bf (eP (by omega) (by omega)),bf (eP (by omega) (by omega))];rfl
def JS(f:Nat->Int):Nat->Int
 |0=>0
 |k+1=>JS f k+f k*256^k
theorem L5{f:Nat->Int}{k:Nat}(hf:∀i,i<k->0<=f i/\f i<=255):0<=JS f k/\JS f k<256^k:=by
 induction k with
 |zero=>simp[JS]
 |succ k ih=>
  obtain⟨a,b⟩:=ih λi hi=>hf i (by omega);obtain⟨c,d⟩:=hf k (by omega);have hp:(0:Int)<256^k:=Int.pow_pos (by omega);have h1:f k*256^k<=255*256^k:=Int.mul_le_mul_of_nonneg_right d (by omega);have h2:0<=f k*256^k:=Int.mul_nonneg c (by omega);have h3:(256:Int)^(k+1)=256*256^k:=by rw[Int.pow_succ,Int.mul_comm]
  unfold JS;rw[h3];omega
theorem oV{f g:Nat->Int}{k:Nat}(h:∀i,i<k->f i=g i):JS f k=JS g k:=by
 induction k with
 |zero=>rfl
 |succ k ih=>unfold JS;rw[ih λi hi=>h i (by omega),h k (by omega)]
theorem Wq(f:Nat->Int)(k:Nat):JS f (k+1)=JS f k+f k*256^k:=rfl
theorem agl(k:Nat):(256:Int)^k=((2^(8*k):Nat):Int):=by rw[Nat.pow_mul,Int.natCast_pow];rfl
theorem ZM{k:Nat}(hk:k<=8):(256:Int)^k<=18446744073709551616:=by have h:(256:Nat)^k<=256^8:=Nat.pow_le_pow_right (by omega) hk;have e:(256:Int)^k=((256^k:Nat):Int):=(Int.natCast_pow 256 k).symm;rw[e];exact Int.ofNat_le.2 (Nat.le_trans h (by decide))
theorem adi{f:Nat->Int}{k:Nat}(hk:k<8)(hf:∀i,i<k+1->0<=f i/\f i<=255):orI .u64 (JS f k) (Lu .u64 (wr .u64 (f k)) (wr .i64 (8*(k:Int))))=JS f (k+1):=by
 obtain⟨a,b⟩:=L5 (f:=f) (k:=k) λi hi=>hf i (by omega);obtain⟨a',b'⟩:=L5 (f:=f) (k:=k+1) hf;obtain⟨c,d⟩:=hf k (by omega);have hp:=agl k;have hp1:=ZM (k:=k+1) (by omega);rw[Bj c (by omega),bx (by omega) (by omega),U9 (8*k) (by omega) (by show 8*k<=64;omega)];have h2:0<=f k*256^k:=Int.mul_nonneg c (by rw[hp];omega);rw[Wq]at a' b';rw[← hp,Bj h2 (by omega),Wq];obtain⟨x,hx⟩:=Int.eq_ofNat_of_zero_le a;obtain⟨y,hy⟩:=Int.eq_ofNat_of_zero_le c;have hz:f k*256^k=((2^(8*k)*y:Nat):Int):=by rw[hy,hp,Int.natCast_mul];exact Int.mul_comm _ _
 have tD:x<2^(8*k):=by rw[hx,hp]at b;exact Int.ofNat_lt.1 b
 rw[hz,hx]at b' ⊢;generalize hw:2^(8*k)*y=w at *;rw[ZN (k:= .u64) (by show x<2^64;omega) (by show w<2^64;omega),Nat.or_comm, ← hw, ← Nat.two_pow_add_eq_or_of_lt tD,hw];omega
theorem agf{n:Nat}(hn:110<=n){P:aj}(h:JA P){pl:List Int}(hl:pl.length<=8)(hp:∀i,i<pl.length->0<=pl.getD i default/\iy P (pl.getD i default/32)){ρ:Type}(F:ah->Option ρ):
  fe (λk67 (Sj:Int) (YY:ah)=>cn (decide (Sj<(pl.length:Int))) (gu (dH Sj pl.length)<|bd (mM n P (pl.getD (Int.toNat Sj) default)) λMS=>gu (decide (0<=wr .i64 (8*Sj)))<|lt (({YY with V:=orI .u64 YY.V (Lu .u64 (wr .u64 MS.1) (wr .i64 (8*Sj)))}:ah):ah) λT5=>k67 (wr .i64 (Sj+1)) T5) (F YY)) n 0 ⟨0,0,0⟩=F ⟨0,JS (λi=>Hg P (pl.getD i default)) pl.length,0⟩:=by
 refine tB (λ(i:Int) (r:ah)=>∃j:Nat,i=(j:Int)/\j<=pl.length/\r=⟨0,JS (λi=>Hg P (pl.getD i default)) j,0⟩) (λi _ =>((pl.length:Int)-i).toNat) (λo=>o=F ⟨0,JS (λi=>Hg P (pl.getD i default)) pl.length,0⟩) ?_ n 0 _ ⟨0,rfl,by omega,rfl⟩ (by omega);rintro kk i r ⟨j,rfl,hj,rfl⟩ ih;by_cases hc:j<pl.length
 ·obtain⟨p0,p1⟩:=hp j hc
  rw[aR (by simpa using hc),bf (eP (by omega) (by omega)),aki,ak (acT hn h p0 p1),bf (by rw[bx (by omega) (by omega)];simp;omega),aU,bx (x:=(j:Int)+1) (by omega) (by omega)];refine ih _ _ ⟨j+1,by omega,by omega,?_⟩ (by omega);dsimp only;rw[adi (f:=λi=>Hg P (pl.getD i default)) (by omega) λi _ =>RR h _]
 ·obtain rfl:j=pl.length:=by omega
  rw[au (by simp)]
def MW(P:aj)(f v:Nat->Int):Nat->aj
 |0=>P
 |k+1=>wrP (MW P f v k) (f k) (v k)
theorem Hu(P:aj)(f v:Nat->Int)(k:Nat):(MW P f v k).eo=P.eo/\(MW P f v k).n=P.n:=by
 induction k with
 |zero=>exact⟨rfl,rfl⟩
 |succ k ih=>exact ih
theorem Ut{P:aj}(h:JA P){f v:Nat->Int}{k:Nat}(hv:∀i,i<k->0<=v i/\v i<=255):JA (MW P f v k):=by
 induction k with
 |zero=>exact h
 |succ k ih=>exact acm (ih λi hi=>hv i (by omega)) _ (hv k (by omega))
theorem Uu{P:aj}{f v:Nat->Int}{k:Nat}{p:Int}(h:iy P p):iy (MW P f v k) p:=by unfold iy at h ⊢;rw[(Hu P f v k).1,(Hu P f v k).2];exact h
theorem aco{P:aj}{f v:Nat->Int}{k:Nat}(hf:∀i,i<k->0<=f i){b:Int}(hb:0<=b)(hi:∀i j,i<k->j<k->f i=f j->i=j):(∀i,i<k->f i=b->Hg (MW P f v k) b=v i)/\((∀i,i<k->f i≠b)->Hg (MW P f v k) b=Hg P b):=by
 induction k with
 |zero=>exact⟨λi h=>absurd h (by omega),λ_ =>rfl⟩
 |succ k ih=>
  obtain⟨a,c⟩:=ih (λi h=>hf i (by omega)) (λi j h1 h2=>hi i j (by omega) (by omega));unfold MW;rw[acn (hf k (by omega)) hb];refine⟨λi h1 h2=>?_,λh=>?_⟩
  ·by_cases h3:b=f k
   ·rw[akd h3]
    rw[hi i k h1 (by omega) (by rw[h2,h3])]
   ·rw[ake h3]
    refine a i ?_ h2;rcases Nat.lt_or_ge i k with h4|h4
    ·exact h4
    ·obtain rfl:i=k:=by omega
     exact absurd h2.symm h3
  ·rw[ake λh3=>h k (by omega) h3.symm]
   exact c λi hi'=>h i (by omega)
theorem ack{n:Nat}(hn:110<=n){P:aj}(h:JA P){pl:List Int}(hl:pl.length<=8)(hp:∀i,i<pl.length->0<=pl.getD i default/\iy P (pl.getD i default/32)){V:Int}{ρ:Type}(F:ae->aj->ai->List Int->aF->ah->Bool->Option ρ)(S:ae)(M:ai)(Q:List Int)(u:aF)(r:ah)(b:Bool):
  Ih (λk63 (uW:Int) (Ht:ae) (MT:aj) (On:ai) (OC:(List Int)) (wX:aF) (x61:ah) (Sk:Bool)=>cn (decide (uW<(pl.length:Int))) (gu (dH uW pl.length)<|gu (decide (0<=wr .i64 (8*uW)))<|bd (lA n MT (pl.getD (Int.toNat uW) default) (wr .u8 (vM .u64 V (wr .i64 (8*uW))))) λUq=>k63 (wr .i64 (uW+1)) Ht Uq.2 On OC wX x61 Sk) (F Ht MT On OC wX x61 Sk)) n 0 S P M Q u r b=
  F S (MW P (λi=>pl.getD i default) (λi=>wr .u8 (vM .u64 V (wr .i64 (8*(i:Int))))) pl.length) M Q u r b:=by
 refine SY (λ(i:Int) s p m q u' r' b'=>∃j:Nat,i=(j:Int)/\j<=pl.length/\s=S/\p=MW P (λi=>pl.getD i default) (λi=>wr .u8 (vM .u64 V (wr .i64 (8*(i:Int))))) j/\m=M/\q=Q/\u'=u/\r'=r/\b'=b) (λi _ _ _ _ _ _ _ =>((pl.length:Int)-i).toNat) (λo=>o=F S (MW P (λi=>pl.getD i default) (λi=>wr .u8 (vM .u64 V (wr .i64 (8*(i:Int))))) pl.length) M Q u r b) ?_ n 0 _ _ _ _ _ _ _ ⟨0,rfl,by omega,rfl,rfl,rfl,rfl,rfl,rfl,rfl⟩ (by omega);rintro kk i s p m q u' r' b' ⟨j,rfl,hj,rfl,rfl,rfl,rfl,rfl,rfl,rfl⟩ ih;by_cases hc:j<pl.length
 ·obtain⟨p0,p1⟩:=hp j hc
  rw[aR (by simpa using hc),bf (eP (by omega) (by omega)),bf (by rw[bx (by omega) (by omega)];simp;omega),aki,ak (Y7 hn (Ut h λi _ =>afT _) p0 (Uu p1) _),bx (x:=(j:Int)+1) (by omega) (by omega)];exact ih _ _ _ _ _ _ _ _ ⟨j+1,by omega,by omega,rfl,rfl,rfl,rfl,rfl,rfl,rfl⟩ (by omega)
 ·obtain rfl:j=pl.length:=by omega
  rw[au (by simp)]
end Go.Proofs.Z
namespace Go.Proofs.Z
open Go Go.Bw
def SO(S:ae)(e:Nat->aC):ae:={S with dR:={S.dR with T:={S.dR.T with aZ:=λj=>{S.dR.T.aZ j with E:=e j}}}}
def ja(S:ae)(k:Nat)(E:aC):ae:={S with dR:={S.dR with T:={S.dR.T with aZ:=iW S.dR.T.aZ k {S.dR.T.aZ k with E:=E}}}}
abbrev bC(S:ae)(k:Nat):aC:=(S.dR.T.aZ k).E
theorem Kx(S:ae):SO S (bC S)=S:=rfl
theorem Kw(S:ae)(k:Nat)(E:aC)(e:Nat->aC):SO (ja S k E) e=SO S e:=by
 have h:(λj=>{iW S.dR.T.aZ k {S.dR.T.aZ k with E:=E} j with E:=e j})=λj=>{S.dR.T.aZ j with E:=e j}:=by
  funext j;unfold iW;by_cases h:j=k
  ·subst h;rw[akd rfl]
  ·rw[ake h]
 unfold SO ja;dsimp only;rw[h]
theorem fL(S:ae)(k:Nat)(E:aC):bC (ja S k E) k=E:=by unfold bC ja;dsimp only;rw[ON]
theorem sZ(S:ae){k j:Nat}(E:aC)(h:j≠k):bC (ja S k E) j=bC S j:=by unfold bC ja;dsimp only;rw[UL _ _ h]
theorem OV(S:ae)(k j:Nat)(E:aC):((ja S k E).dR.T.aZ j).gq=(S.dR.T.aZ j).gq:=by
 unfold ja iW;dsimp only;by_cases h:j=k
 ·subst h;rw[akd rfl]
 ·rw[ake h]
structure wW(w:Bool)(n:Nat)(S:ae)(t h:Int)(k:Nat):Prop where
 kl:k<32
 dS:bw n h=some ((k:Int),true)
 W6:aJ n S.dR.T.fT.lI h=some true
 t0:0<=t
 t1:t<8
 adg:S.m9 t.toNat=true
 rd:∀e,qd n (SO S e).dR t h 0=some 0
 wt:w=true->∀e,qd n (SO S e).dR t h 1=some 0
 quo:0<=(S.dR.T.aZ k).gq/\(S.dR.T.aZ k).gq<=64
 up:∃u,aJ n S.dR.T.fT.lI ((S.dR.T.aZ k).Up)=some u
theorem wW.set{w:Bool}{n:Nat}{S:ae}{t h:Int}{k:Nat}(a:wW w n S t h k)(j:Nat)(E:aC):wW w n (ja S j E) t h k where
 kl:=a.kl
 dS:=a.dS
 W6:=a.W6
 t0:=a.t0
 t1:=a.t1
 adg:=a.adg
 rd e:=by rw[Kw];exact a.rd e
 wt hw e:=by rw[Kw];exact a.wt hw e
 quo:=by rw[OV];exact a.quo
 up:=by
  have:((ja S j E).dR.T.aZ k).Up=(S.dR.T.aZ k).Up:=by
   unfold ja iW;dsimp only;by_cases h:k=j
   ·subst h;rw[akd rfl]
   ·rw[ake h]
  rw[this];exact a.up
section
variable {w:Bool} {n:Nat} {S:ae} {t h:Int} {k:Nat}
theorem wW.get(a:wW w n S t h k):∃u,eU n S.dR.T h=some ({S.dR.T.aZ k with Up:=u},0):=by
 obtain⟨b,hb⟩:=a.up;have:=a.kl;obtain⟨u,hu⟩:∃u,mG n S.dR.T h=some u:=by
  unfold mG;rw[ak a.dS,bf (eP (by omega) (by omega)),aki,ak hb];cases b with
  |false=>exact⟨_,rfl⟩
  |true=>exact⟨_,rfl⟩
 refine⟨u,?_⟩;unfold eU;rw[ak a.W6,au (b:= !true) rfl,ak a.dS,bf (eP (by omega) (by omega)),aU,aki,ak hu];rfl
theorem wW.aiH(hn:110<=n)(a:wW w n S t h k){E:aC}(hE:qg E)(u:Int):jj n S.dR.T h {S.dR.T.aZ k with Up:=u,E:=E}=some ((ja S k E).dR.T,0):=by
 have:=a.kl;have hq:mE n (S.dR.T.aZ k).gq=some true:=by unfold mE;obtain⟨q0,q1⟩:=a.quo;simp[q0,q1]
 unfold jj;rw[ak a.W6,au (b:= !true) rfl,ak hq,kW (g:=(!true)==false) rfl (KG hn hE),au (by rfl),ak a.dS,bf (eP (by omega) (by omega)),aU,bf (eP (by omega) (by omega)),aU,aki];rfl
theorem wW.aiQ(a:wW w n S t h k){x:aq}(hs:x.aH=S)(ht:x.fZ=t):bM n x h 0=some (.ok ()):=by have:=a.rd (bC S);rw[Kx]at this;unfold bM;rw[hs,ht,ak this];rfl
theorem wW.agv(a:wW true n S t h k){x:aq}(hs:x.aH=S)(ht:x.fZ=t):bM n x h 1=some (.ok ()):=by have:=a.wt rfl (bC S);rw[Kx]at this;unfold bM;rw[hs,ht,ak this];rfl
theorem wW.region(a:wW w n S t h k){x:aq}(hs:x.aH=S):∃u,fk n x h=some (.ok {S.dR.T.aZ k with Up:=u}):=by obtain⟨u,hu⟩:=a.get;refine⟨u,?_⟩;unfold fk;rw[hs,ak hu];rfl
theorem C3{α β:Type}{x:Option (Except Int α)}{v:α}(h:x=some (.ok v)){f:Int->β}{k:α->Option β}:tr x f k=k v:=by subst h;rfl
theorem afV{α β:Type}{x:Option (Except Int α)}{e:Int}(h:x=some (.error e)){f:Int->β}{k:α->Option β}:tr x f k=some (f e):=by subst h;rfl
theorem tc1{α:Type}{b:Bool}(h:b=true){f:α}{k:Option α}:tc b f k=k:=by subst h;rfl
theorem tc0{α:Type}{b:Bool}(h:b=false){f:α}{k:Option α}:tc b f k=some f:=by subst h;rfl
theorem vA(a:wW w n S t h k){x:aq}(hs:x.aH=S)(ht:x.fZ=t){d:Int}(hd:x.c.Do=d){i:Nat}{m:abq}(hm:IQ d=some (d,i,m)):
  bY n x=tr (m n x) (λe=>(⟨e,0,0⟩,none)) λy=>some (y.1,some y.2):=by
 have h7:tj .i64 t 7=t:=by have:=XO (k:= .i64) (a:=t) 3 (b:=7) a.t0 (by have:=a.t1;show t<2^63;omega) (by decide) (by decide);rw[this];have:=a.t0;have:=a.t1;exact Int.emod_eq_of_lt (by omega) (by show t<8;omega)
 have hb:(decide (0<=t)&&decide (t<8))=true:=by have:=a.t0;have:=a.t1;simp;omega
 unfold bY;rw[hs,ht,hd,hm,h7,hb,bf (by rw[eP a.t0 a.t1];rfl),tc1 (by rw[a.adg];rfl)]
def jF(S:ae)(t:Int)(c:aD)(r:av)(z6:Bool):aq:={aH:=S,fZ:=t,c:=c,run:=r,lD:=0,z6:=z6,gk:=[]}
theorem Qx{x:aq}(hB:1<=x.c.B/\x.c.B<=8):rE n x.c=some (.ok ()):=by unfold rE;rw[tc1 (by simp;omega)]
theorem abC(h4:qg (bC S k))(u:Int){x:aq}(hA:0<=x.c.A/\x.c.A<4294967296)(hB:1<=x.c.B/\x.c.B<=8):rF n {S.dR.T.aZ k with Up:=u} x.c=if x.c.A+x.c.B<=(bC S k).er then some (.ok ())else some (.error 9):=by
 have hl:=h4.lo;have hh:=h4.hi;have hx:=h4.gx.sum;unfold rF;show tc (decide (wr .i64 x.c.A<=wr .i64 ((bC S k).er-wr .i64 x.c.B))) _ _ =_;rw[bx (x:=x.c.A) (by omega) (by omega),bx (x:=x.c.B) (by omega) (by omega),bx (by omega) (by omega)];by_cases hc:x.c.A+x.c.B<=(bC S k).er
 ·rw[tc1 (by simp;omega),akd hc]
 ·rw[tc0 (by simp;omega),ake hc]
theorem XF(a:wW w n S t h k)(h4:qg (bC S k)){x:aq}(hs:x.aH=S)(ht:x.fZ=t)(hR:x.c.R=h)(hA:0<=x.c.A/\x.c.A<4294967296)(hB:1<=x.c.B/\x.c.B<=8):
  gZ n x=(if x.c.A+x.c.B<=(bC S k).er then some (.ok ⟨0,0,0⟩)else some (.error 9)):=by
 obtain⟨u,hu⟩:=a.region hs;unfold gZ;rw[C3 (Qx hB),hR,C3 (a.aiQ hs ht),C3 hu,abC h4 u hA hB];by_cases hc:x.c.A+x.c.B<=(bC S k).er
 ·rw[akd hc,akd hc];rfl
 ·rw[ake hc,ake hc];rfl
theorem XE(a:wW true n S t h k)(h4:qg (bC S k)){x:aq}(hs:x.aH=S)(ht:x.fZ=t)(hR:x.c.R=h)(hA:0<=x.c.A/\x.c.A<4294967296)(hB:1<=x.c.B/\x.c.B<=8):
  gG n x=(if x.c.A+x.c.B<=(bC S k).er then some (.ok ⟨0,0,0⟩)else some (.error 9)):=by
 obtain⟨u,hu⟩:=a.region hs;unfold gG;rw[C3 (Qx hB),hR,C3 (a.agv hs ht),C3 hu,abC h4 u hA hB];by_cases hc:x.c.A+x.c.B<=(bC S k).er
 ·rw[akd hc,akd hc];rfl
 ·rw[ake hc,ake hc];rfl
theorem aei{c:aD}(a:wW w n S t h k)(h4:qg (bC S k))(hd:c.Do=3\/(c.Do=4/\w=true))(hR:c.R=h)(hA:0<=c.A/\c.A<4294967296)(hB:1<=c.B/\c.B<=8):
  cF n S t c aB=some (S,⟨if c.A+c.B<=(bC S k).er then 0 else 9,0,0⟩,[]):=by
 have hc:bY n (jF S t c aB false)=some (if c.A+c.B<=(bC S k).er then(⟨0,0,0⟩,some (jF S t c aB false))else(⟨9,0,0⟩,none)):=by
  rcases hd with hd|⟨hd,hw⟩
  ·have b1:gZ n (jF S t c aB false)=(if c.A+c.B<=(bC S k).er then some (.ok ⟨0,0,0⟩)else some (.error 9)):=XF a h4 (x:=jF S t c aB false) rfl rfl hR hA hB
   rw[vA a (x:=jF S t c aB false) rfl rfl (d:=3) hd rfl];unfold Ik;rw[b1];by_cases q:c.A+c.B<=(bC S k).er
   ·rw[akd q,akd q];rfl
   ·rw[ake q,ake q];rfl
  ·subst hw
   have b2:gG n (jF S t c aB false)=(if c.A+c.B<=(bC S k).er then some (.ok ⟨0,0,0⟩)else some (.error 9)):=XE a h4 (x:=jF S t c aB false) rfl rfl hR hA hB;rw[vA a (x:=jF S t c aB false) rfl rfl (d:=4) hd rfl];unfold Ik;rw[b2];by_cases q:c.A+c.B<=(bC S k).er
   ·rw[akd q,akd q];rfl
   ·rw[ake q,ake q];rfl
 unfold cF;rw[aU];show bd (bY n (jF S t c aB false)) _ =_;rw[ak hc];by_cases q:c.A+c.B<=(bC S k).er
 ·rw[akd q,akd q];rfl
 ·rw[ake q,ake q];rfl
theorem Dm{c:aD}(hd:c.Do≠2):bR n S t c=some 0:=by
 have:(c.Do !=2)=true:=by simpa using hd
 unfold bR;rw[aU,this];rfl
theorem wA{c:aD}(a:wW w n S t h k)(hd:c.Do=2\/c.Do=3\/c.Do=4)(hR:c.R=h):kO n S c=some [h]:=by
 have ho:ju n S c.R=some [h]:=by unfold ju;rw[hR,ak a.W6];rfl
 unfold kO;rcases hd with hd|hd|hd<;>rw[hd]<;>simp only[cn]<;>simp[ho,bd]
theorem UZ(hn:110<=n){c:aD}(a:wW w n S t h k)(h4:qg (bC S k))(hd:c.Do=3\/c.Do=4)(hR:c.R=h)(hA:0<=c.A)(hB:1<=c.B/\c.B<=8)(hl:c.A+c.B<=(bC S k).er):
  cK n S c=some ((List.range c.B.toNat).map λ(i:Nat)=>ep (bC S k).aN (c.A+(i:Int)),0):=by
 obtain⟨u,hu⟩:=a.get;have hh:=h4.hi;have hx:=h4.gx.sum;have hd':((c.Do !=3)&&(c.Do !=4))=false:=by rcases hd with hd|hd<;>rw[hd]<;>rfl
 unfold cK;rw[hR,ak hu,au (by rfl),hd',bx (x:=c.B) (by omega) (by omega),bx (x:=c.A) (by omega) (by omega),au (by simp;omega)];show cn (decide (wr .i64 ((bC S k).er-c.B)<c.A)) _ _ =_;rw[bx (by omega) (by omega),au (by simp;omega)];refine tB (λ(l:List Int) (i:Int)=>∃j:Nat,i=(j:Int)/\(j:Int)<=c.B/\l=(List.range j).map λ(i:Nat)=>ep (bC S k).aN (c.A+(i:Int))) (λ_ i=>(c.B-i).toNat) (λo=>o=some ((List.range c.B.toNat).map λ(i:Nat)=>ep (bC S k).aN (c.A+(i:Int)),0)) ?_ n [] 0 ⟨0,rfl,by omega,rfl⟩ (by omega);rintro kk l i ⟨j,rfl,hj,rfl⟩ ih;by_cases hc:(j:Int)<c.B
 ·rw[aR (by simpa using hc),bx (x:=c.A+j) (by omega) (by omega)]
  rw[ak (VW hn h4 (at_:=c.A+(j:Int)) ⟨by omega,by omega⟩),bf (jg (by simp;omega) (by simp;omega)),aU,bx (by omega) (by omega)];refine ih _ _ ⟨j+1,by omega,by omega,?_⟩ (by omega);rw[HV];unfold plV ep;rw[akd (by omega),Int.sub_zero]
 ·obtain rfl:c.B.toNat=j:=by omega
  rw[au (by simp;omega)]
end
end Go.Proofs.Z
namespace Go.Proofs.Z
open Go Go.Bw
def fG(s:Int):Int:=(s+31)/32
theorem Dj{s a:Int}(h:uB s a=true):1<=fG s/\s<=32*fG s/\fG s<=4:=by obtain⟨⟨h1,h2⟩,_⟩:=mP.1 h;unfold fG;omega
section
variable {w:Bool} {n:Nat} {S:ae} {t h:Int} {k:Nat}
theorem wW.aiG(hn:110<=n)(a:wW w n S t h k){y:aq}(hs:y.aH=S){E:aC}(hE:qg E)(u:Int):gH n y h {S.dR.T.aZ k with Up:=u,E:=E}=some (.ok {y with aH:=ja S k E}):=by unfold gH;rw[hs,ak (a.aiH hn hE u)];rfl
theorem LW{E:aC}(hE:qg E){s b:Int}(hf:gh E s b=true):qg ⟨E.aN,AT E.er b+s⟩:=by unfold gh at hf;rw[akg,decide_eq_true_iff,mP]at hf;obtain⟨⟨⟨o1,o2⟩,o3⟩,o4⟩:=hf;obtain⟨u1,u2,_⟩:=CZ (x:=E.er) o3;have:=hE.lo;exact⟨hE.gx,by dsimp only;omega,o4⟩
theorem Rr{E:aC}(hE:qg E){s b:Int}(hf:gh E s b=true):0<=AT E.er b/\E.er<=AT E.er b/\AT E.er b<=2048:=by have h:=LW hE hf;unfold gh at hf;rw[akg,decide_eq_true_iff,mP]at hf;obtain⟨⟨⟨o1,o2⟩,o3⟩,o4⟩:=hf;obtain⟨u1,u2,_⟩:=CZ (x:=E.er) o3;have:=hE.lo;have:=hE.gx.sum;omega
theorem RY(hn:110<=n)(a:wW w n S t h k){y:aq}(hs:y.aH=S)(hR:y.c.R=h){E:aC}(hE:qg E)(u:Int){s b:Int}(hf:gh E s b=true):
  (bd (ia n ({S.dR.T.aZ k with Up:=u,E:=E}:aP).E s b) λKc=>lt ({({S.dR.T.aZ k with Up:=u,E:=E}:aP)with E:=Kc.1}:aP) λx85=>tr (gH n y y.c.R x85) (λXr=>(.error Xr)) λx88=>lt ({E:=0,V:=wr .u64 Kc.2.1,W:=0}:ah) λx99=>some (.ok (x99,x88)):Option (Except Int (ah×aq)))=some (.ok (⟨0,AT E.er b,0⟩,{y with aH:=ja S k ⟨E.aN,AT E.er b+s⟩})):=by
 obtain⟨f0,f1,f2⟩:=Rr hE hf;rw[ak (ZG hn hE s b),akd hf,aU,hR,C3 (a.aiG hn hs (LW hE hf) u),aU];dsimp only;rw[Bj f0 (by omega)]
theorem acp{s b:Int}(ho:uB s b=true):wr .i64 (if 129<s then 129 else s)=s/\wr .i64 (if 9<b then 9 else b)=b:=by
 obtain⟨⟨o1,o2⟩,o3⟩:=mP.1 ho;have:1<=b/\b<=8:=by rcases o3 with rfl|rfl|rfl|rfl<;>omega
 rw[ake (by omega),ake (by omega)];exact⟨bx (by omega) (by omega),bx (by omega) (by omega)⟩
theorem Hl(hn:110<=n)(a:wW true n S t h k)(h4:qg (bC S k)){x:aq}(hs:x.aH=S)(ht:x.fZ=t)(hR:x.c.R=h){s b:Int}(hA:x.c.A=s)(hB:x.c.B=b)(ho:uB s b=true):
  (gh (bC S k) s b=true->dL n x=some (.ok (⟨0,AT (bC S k).er b,0⟩,{x with aH:=ja S k ⟨(bC S k).aN,AT (bC S k).er b+s⟩})))/\
  (gh (bC S k) s b=false->(S.dR.T.aZ k).gq<bD (bC S k).aN+fG s->dL n x=some (.error 6))/\
  (gh (bC S k) s b=false->bD (bC S k).aN+fG s<=(S.dR.T.aZ k).gq->x.z6=true->dL n x=some (.ok (⟨0,0,0⟩,{x with lD:=fG s})))/\
  (gh (bC S k) s b=false->bD (bC S k).aN+fG s<=(S.dR.T.aZ k).gq->x.z6=false->x.run.N=fG s->JR x.run.At x.run.N->(∀p,x.run.At<=p->p<x.run.At+x.run.N->¬cB (bC S k).aN p)->
   dL n x=some (.ok (⟨0,32*bD (bC S k).aN,0⟩,{x with lD:=fG s,aH:=ja S k ⟨(bC S k).aN++[x.run],32*bD (bC S k).aN+s⟩}))):=by
 obtain⟨u,hu⟩:=a.region hs;obtain⟨w1,w2⟩:=acp ho;obtain⟨n1,n2,n3⟩:=Dj ho;obtain⟨⟨o1,o2⟩,o3⟩:=mP.1 ho;have hq:=a.quo;have g0:=h4.gx.pos;have g1:=h4.gx.sum;have hne:p6 n s b=some (fG s,true):=by rw[V8 (by omega),akd ho];rfl
 have Ir:=Rq hn h4 s b;have hpg:=Pa hn h4;have pre:∀z,(∀F:aP->aq->Option (Except Int (ah×aq)),F=(λ(nC:aP) (gN:aq)=>bd (ia n nC.E s b) λKc=>lt ({nC with E:=Kc.1}:aP) λx85=>tr (gH n gN gN.c.R x85) (λXr=>(.error Xr)) λx88=>lt ({E:=0,V:=wr .u64 Kc.2.1,W:=0}:ah) λx99=>some (.ok (x99,x88)))->
   (cn ((!(FN (bC S k) s b).2)) (tc (decide ((wr .i64 (bD (bC S k).aN+fG s))<=(S.dR.T.aZ k).gq)) (.error 6)<|cn (x.z6) (some (.ok (⟨0,0,0⟩,{x with lD:=fG s}))) (bd (fO n (bC S k) x.run) λwX=>lt ({({S.dR.T.aZ k with Up:=u}:aP)with E:=wX}:aP) λYJ=>cl ((x.run.N==fG s)==true) (gj n YJ.E) default λx72=>tc ((x.run.N==fG s)&&x72) (.error 2)<|F YJ ({x with lD:=fG s}))) (F {S.dR.T.aZ k with Up:=u} x)=z))->dL n x=z:=by
  intro z hz;unfold dL;rw[hA,hB,w1,w2,ak hne,tc1 (by rfl),hR,C3 (a.agv hs ht),C3 hu,aU];refine Eq.trans ?_ (hz _ rfl);show bd (gI n (bC S k) s b) _ =_;rw[ak Ir];show cn _ (bd (dw n (bC S k)) _) _ =_;rw[ak hpg];rfl
 refine⟨λhf=>pre _ λF hF=>?_,λhf hl=>pre _ λF hF=>?_,λhf hl hk=>pre _ λF hF=>?_,λhf hl hk r1 r2 r3=>pre _ λF hF=>?_⟩
 ·unfold FN
  rw[hf,akd rfl,au (b:= !true) rfl,hF];exact RY hn a hs hR h4 u hf
 ·unfold FN
  rw[hf,ake (by simp),aR (b:= !false) rfl,bx (by omega) (by omega),tc0 (by simp;omega)]
 ·unfold FN
  rw[hf,ake (by simp),aR (b:= !false) rfl,bx (by omega) (by omega),tc1 (by simp;omega),aR hk]
 ·have hm:=KH h4 r2 r3
  have e:(⟨x.run.At,x.run.N⟩:Rn)=x.run:=rfl;rw[e]at hm;have hs2:bD ((bC S k).aN++[x.run])=bD (bC S k).aN+fG s:=by rw[nT, ← e,qW,r1]
  have hu4:AT (32*bD (bC S k).aN) b=32*bD (bC S k).aN:=by unfold AT;rcases o3 with rfl|rfl|rfl|rfl<;>omega
  have hf2:gh ⟨(bC S k).aN++[x.run],32*bD (bC S k).aN⟩ s b=true:=by unfold gh;rw[ho,hs2];dsimp only;rw[hu4];simp;omega
  unfold FN;rw[hf,ake (by simp),aR (b:= !false) rfl,bx (by omega) (by omega),tc1 (by simp;omega),au hk,ak (aas hn h4 x.run),aU,kW (by rw[r1];simp) (KG hn hm),tc1 (by rw[r1];simp),hF];have:=RY hn a (y:={x with lD:=fG s}) hs hR hm u hf2;dsimp only at this;rw[hu4]at this;exact this
def No(S:ae)(k:Nat)(s b:Int):Int:=if gh (bC S k) s b=true then 0 else if bD (bC S k).aN+fG s<=(S.dR.T.aZ k).gq then fG s else 0
theorem RC:∃i,IQ 2=some (2,i,dL):=⟨_,rfl⟩
theorem V9(hn:110<=n)(a:wW true n S t h k)(h4:qg (bC S k)){c:aD}(hd:c.Do=2)(hR:c.R=h){s b:Int}(hA:c.A=s)(hB:c.B=b)(ho:uB s b=true):
  bR n S t c=some (No S k s b):=by
 obtain⟨i,hi⟩:=RC;obtain⟨a1,a2,a3,_⟩:=Hl hn a h4 (x:=jF S t c aB true) rfl rfl hR hA hB ho;unfold bR;rw[aU,aR (by rw[hd];rfl)];show bd (bY n (jF S t c aB true)) _ =_;unfold No;cases hf:gh (bC S k) s b with
 |true=>rw[ak (by rw[vA a (x:=jF S t c aB true) rfl rfl hd hi,C3 (a1 hf)])];rw[hd,akd rfl];rfl
 |false=>
  rw[ake (by simp)];by_cases hq:bD (bC S k).aN+fG s<=(S.dR.T.aZ k).gq
  ·rw[ak (by rw[vA a (x:=jF S t c aB true) rfl rfl hd hi,C3 (a3 hf hq rfl)])]
   rw[hd,akd hq];rfl
  ·rw[ak (by rw[vA a (x:=jF S t c aB true) rfl rfl hd hi,afV (a2 hf (by omega))])]
   rw[hd,ake hq];rfl
theorem RD(hn:110<=n)(a:wW true n S t h k)(h4:qg (bC S k)){c:aD}(hd:c.Do=2)(hR:c.R=h){s b:Int}(hA:c.A=s)(hB:c.B=b)(ho:uB s b=true)(hf:gh (bC S k) s b=true):
  cF n S t c aB=some (ja S k ⟨(bC S k).aN,AT (bC S k).er b+s⟩,⟨0,AT (bC S k).er b,0⟩,[]):=by
 obtain⟨i,hi⟩:=RC;obtain⟨a1,_⟩:=Hl hn a h4 (x:=jF S t c aB false) rfl rfl hR hA hB ho;unfold cF;rw[aU];show bd (bY n (jF S t c aB false)) _ =_;rw[ak (by rw[vA a (x:=jF S t c aB false) rfl rfl hd hi,C3 (a1 hf)])];rfl
theorem aeh(hn:110<=n)(a:wW true n S t h k)(h4:qg (bC S k)){c:aD}(hd:c.Do=2)(hR:c.R=h){s b:Int}(hA:c.A=s)(hB:c.B=b)(ho:uB s b=true)(hf:gh (bC S k) s b=false)(hq:(S.dR.T.aZ k).gq<bD (bC S k).aN+fG s):
  cF n S t c aB=some (S,⟨6,0,0⟩,[]):=by
 obtain⟨i,hi⟩:=RC;obtain⟨_,a2,_⟩:=Hl hn a h4 (x:=jF S t c aB false) rfl rfl hR hA hB ho;unfold cF;rw[aU];show bd (bY n (jF S t c aB false)) _ =_;rw[ak (by rw[vA a (x:=jF S t c aB false) rfl rfl hd hi,afV (a2 hf hq)])];rfl
theorem Xz(hn:110<=n)(a:wW true n S t h k)(h4:qg (bC S k)){c:aD}(hd:c.Do=2)(hR:c.R=h){s b:Int}(hA:c.A=s)(hB:c.B=b)(ho:uB s b=true)(hf:gh (bC S k) s b=false)(hq:bD (bC S k).aN+fG s<=(S.dR.T.aZ k).gq){r:Rn}(r1:r.N=fG s)(r2:JR r.At r.N)(r3:∀p,r.At<=p->p<r.At+r.N->¬cB (bC S k).aN p):
  cF n S t c r=some (ja S k ⟨(bC S k).aN++[r],32*bD (bC S k).aN+s⟩,⟨0,32*bD (bC S k).aN,0⟩,[]):=by
 obtain⟨i,hi⟩:=RC;obtain⟨_,_,_,a4⟩:=Hl hn a h4 (x:=jF S t c r false) rfl rfl hR hA hB ho;unfold cF;rw[aU];show bd (bY n (jF S t c r false)) _ =_;rw[ak (by rw[vA a (x:=jF S t c r false) rfl rfl hd hi,C3 (a4 hf hq rfl r1 r2 r3)])];rfl
theorem VX{c:aD}(a:wW w n S t h k)(hd:c.Do=2)(hR:c.R=h):cK n S c=some ([],2):=by obtain⟨u,hu⟩:=a.get;unfold cK;rw[hR,ak hu,au (by rfl),aR (by rw[hd];rfl)]
theorem aer(hn:110<=n)(a:wW true n S t h k)(h4:qg (bC S k)){c:aD}(hd:c.Do=2)(hR:c.R=h){s b:Int}(hA:c.A=s)(hB:c.B=b)(ho:uB s b=true):
  gE n S t c=some (if gh (bC S k) s b=true then 0 else if bD (bC S k).aN+fG s<=(S.dR.T.aZ k).gq then 0 else 6):=by
 obtain⟨n1,n2,n3⟩:=Dj ho;unfold gE;rw[ak (V9 hn a h4 hd hR hA hB ho)];unfold No;cases hf:gh (bC S k) s b with
 |true=>rw[akd rfl,akd rfl,au (by simp),ak (RD hn a h4 hd hR hA hB ho hf)];rfl
 |false=>
  have hff:¬(false=true):=by simp
  rw[ake hff,ake hff];by_cases hq:bD (bC S k).aN+fG s<=(S.dR.T.aZ k).gq
  ·rw[akd hq,akd hq,aR (by simp;omega)]
  ·rw[ake hq,ake hq,au (by simp),ak (aeh hn a h4 hd hR hA hB ho hf (by omega))];rfl
theorem RN{c:aD}(a:wW w n S t h k)(h4:qg (bC S k))(hd:c.Do=3\/(c.Do=4/\w=true))(hR:c.R=h)(hA:0<=c.A/\c.A<4294967296)(hB:1<=c.B/\c.B<=8):
  gE n S t c=some (if c.A+c.B<=(bC S k).er then 0 else 9):=by
 unfold gE;rw[ak (Dm (by omega)),au (by simp),ak (aei a h4 hd hR hA hB)];rfl
end
end Go.Proofs.Z
