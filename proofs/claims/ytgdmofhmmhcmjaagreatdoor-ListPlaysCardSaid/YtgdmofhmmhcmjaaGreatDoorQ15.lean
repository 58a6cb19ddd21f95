/- Part 15 of what a proof leans on; pruned and shortened by a program out of longer texts. -/
import Derived.Test.YtgdmofhmmhcmjaaGreatDoorQ14
namespace Go.Proofs.Z
open Go Go.Bw
abbrev Rn:=av
structure qb(l:List Rn):Prop where
 vV:∀y∈l,0<=y.At/\1<=y.N/\y.At+y.N<=64
 pw:l.Pairwise λy z=>y.At+y.N<z.At
def bZ(l:List Rn)(p:Int):Prop:=∃y∈l,y.At<=p/\p<y.At+y.N
def Ir(at_ k:Int):Prop:=1<=k/\0<=at_/\at_+k<=64
def R6(x:Int):Prop:= -9223372036854775808<=x/\x<=9223372036854775807
theorem qb.nil:qb []:=⟨by simp, .nil⟩
theorem ME:∀{l:List Rn} {lo:Int},qb l->(∀y∈l,lo<=y.At)->lo<=65->(l.length:Int)*2<=65-lo
 |[],lo,_,_,h=>by simp;omega
 |y::r,lo,h,hl,_ =>by obtain⟨h1,h2⟩:=List.pairwise_cons.1 h.pw;have hy:=h.vV y (by simp);have hy':=hl y (by simp);have:=ME (l:=r) (lo:=y.At+y.N+1) ⟨λz hz=>h.vV z (by simp[hz]),h2⟩ (λz hz=>by have:=h1 z hz;omega) (by omega);simp only[List.length_cons];omega
theorem qb.len{l:List Rn}(h:qb l):l.length<=32:=by have:=ME (lo:=0) h (λy hy=>(h.vV y hy).1) (by omega);omega
theorem qb.two{l:List Rn}(h:qb l){y z:Rn}(hy:y∈l)(hz:z∈l):y=z\/y.At+y.N<z.At\/z.At+z.N<y.At:=by
 have:=h.pw;clear h
 induction l with
 |nil=>simp at hy
 |cons x r ih=>
  obtain⟨h1,h2⟩:=List.pairwise_cons.1 this;rcases List.mem_cons.1 hy with rfl|hy'<;>rcases List.mem_cons.1 hz with rfl|hz'
  ·exact .inl rfl
  ·exact .inr (.inl (h1 z hz'))
  ·exact .inr (.inr (h1 y hy'))
  ·exact ih hy' hz' h2
theorem kQ(p:Int):¬bZ [] p:=by simp[bZ]
theorem fO{y:Rn}{r:List Rn}{p:Int}:bZ (y::r) p↔(y.At<=p/\p<y.At+y.N)\/bZ r p:=by simp[bZ]
theorem jM{l r:List Rn}{p:Int}:bZ (l++r) p↔bZ l p\/bZ r p:=by simp[bZ,or_and_right,exists_or]
theorem Uh{l:List Rn}(h:qb l){p:Int}(hp:bZ l p):0<=p/\p<64:=by obtain⟨y,hy,h1,h2⟩:=hp;have:=h.vV y hy;omega
theorem qb.Ss{l:List Rn}(h:qb l){at_ k:Int}(hk:1<=k)(hm:∀p,at_<=p->p<at_+k->bZ l p):∃y∈l,y.At<=at_/\at_+k<=y.At+y.N:=by
 obtain⟨y,hy,h1,h2⟩:=hm at_ (by omega) (by omega);refine⟨y,hy,h1,?_⟩;refine Int.not_lt.1 λ_=>?_;obtain⟨z,hz,h3,h4⟩:=hm (y.At+y.N) (by omega) (by omega);rcases h.two hy hz with rfl|h5|h5
 ·omega
 ·omega
 ·have:=h.vV z hz;omega
theorem K0:∀{l m:List Rn},qb l->qb m->(∀p,bZ l p↔bZ m p)->l=m
 |[],[],_,_,_ =>rfl
 |[],z::m,_,hm,h=>by have:=hm.vV z (by simp);exact absurd ((h z.At).2 (fO.2 (.inl ⟨by omega,by omega⟩))) (kQ _)
 |y::l,[],hl,_,h=>by have:=hl.vV y (by simp);exact absurd ((h y.At).1 (fO.2 (.inl ⟨by omega,by omega⟩))) (kQ _)
 |y::l,z::m,hl,hm,h=>by
  obtain⟨a1,a2⟩:=List.pairwise_cons.1 hl.pw;obtain⟨b1,b2⟩:=List.pairwise_cons.1 hm.pw;have hy:=hl.vV y (by simp);have hz:=hm.vV z (by simp);have f1:∀p,bZ l p->y.At+y.N<p:=λp ⟨q,hq,h1,h2⟩=>by have:=a1 q hq;omega
  have f2:∀p,bZ m p->z.At+z.N<p:=λp ⟨q,hq,h1,h2⟩=>by have:=b1 q hq;omega
  have g1:∀p,y.At<=p->p<y.At+y.N->(z.At<=p/\p<z.At+z.N)\/bZ m p:=λp h1 h2=>fO.1 ((h p).1 (fO.2 (.inl ⟨h1,h2⟩)));have g2:∀p,z.At<=p->p<z.At+z.N->(y.At<=p/\p<y.At+y.N)\/bZ l p:=λp h1 h2=>fO.1 ((h p).2 (fO.2 (.inl ⟨h1,h2⟩)));have e1:y.At=z.At:=by
   rcases g1 y.At (by omega) (by omega)with c|c<;>rcases g2 z.At (by omega) (by omega)with d|d
   ·omega
   ·have:=f1 _ d;omega
   ·have:=f2 _ c;omega
   ·have:=f1 _ d;have:=f2 _ c;omega
  have e2:y.N=z.N:=by
   refine Int.le_antisymm (Int.not_lt.1 λhlt=>?_) (Int.not_lt.1 λhlt=>?_)
   ·rcases g1 (z.At+z.N) (by omega) (by omega)with c|c
    ·omega
    ·have:=f2 _ c;omega
   ·rcases g2 (y.At+y.N) (by omega) (by omega)with c|c
    ·omega
    ·have:=f1 _ c;omega
  have e:y=z:=by cases y;cases z;simp_all
  subst e;congr 1;refine K0 ⟨λq hq=>hl.vV q (by simp[hq]),a2⟩ ⟨λq hq=>hm.vV q (by simp[hq]),b2⟩ λp=>⟨λhp=>?_,λhp=>?_⟩
  ·rcases fO.1 ((h p).1 (fO.2 (.inr hp)))with c|c
   ·have:=f1 _ hp;omega
   ·exact c
  ·rcases fO.1 ((h p).2 (fO.2 (.inr hp)))with c|c
   ·have:=f2 _ hp;omega
   ·exact c
theorem VO{n:Nat}{l:List Rn}(hl:l.length<=100)(hn:110<=n):∃xs,iS n l=some xs/\xs.map Prod.snd=l:=by
 unfold iS;have key:∀(m x:Nat),x<=l.length->l.length-x<m->∃xs,iv (λJp (ic:Int)=>cn (decide (ic<(l.length:Int))) (gu (dk ic l.length)<|lt ((l.getD (Int.toNat ic) default):av) λgA=>yl (ic,gA)<|Jp (wr .i64 (ic+1))) (some [])) m (x:Int)=some xs/\xs.map Prod.snd=l.drop x:=by
  intro m
  induction m with
  |zero=>intro x _ h;omega
  |succ m ih=>
   intro x hx hm;simp only[iv];by_cases hc:x<l.length
   ·rw[aS (by simpa using hc),bj (fP (by omega) (by omega)),aK,bq (by omega) (by omega)]
    obtain⟨xs,h1,h2⟩:=ih (x+1) (by omega) (by omega);have e:((x:Int)+1)=((x+1:Nat):Int):=by omega
    rw[e,h1];refine⟨_,rfl,?_⟩;rw[List.map_cons,h2,List.drop_eq_getElem_cons hc,aiL,List.getD,aiP hc];rfl
   ·rw[au (by simpa using hc)]
    exact⟨[],rfl,by rw[List.drop_eq_nil_of_le (by omega)];rfl⟩
 obtain⟨xs,h1,h2⟩:=key n 0 (by omega) (by omega);exact⟨xs,h1,by simpa using h2⟩
theorem PK(n:Nat)(r:bn):oR n r=some r.l:=rfl
theorem NL{n:Nat}{at_ k:Int}(ha:R6 at_)(hk:R6 k):∃b,mM n ⟨at_,k⟩=some b/\(b=true↔Ir at_ k):=by
 obtain⟨a1,a2⟩:=ha;obtain⟨k1,k2⟩:=hk;refine⟨_,rfl,?_⟩;show((decide (1<=k)&&decide (0<=at_))&&decide (at_<=wr .i64 (64-k)))=true↔_;unfold Ir;by_cases h:1<=k
 ·rw[bq (by omega) (by omega)];simp;omega
 ·simp[h]
theorem DI{n:Nat}{y:Rn}(h:0<=y.At/\1<=y.N/\y.At+y.N<=64):bG n y=some (y.At+y.N):=by unfold bG;rw[bq (by omega) (by omega)]
def Pm(y x:Rn):Prop:=y.At<=x.At/\x.At+x.N<=y.At+y.N
instance(y x:Rn):Decidable (Pm y x):=by unfold Pm;infer_instance
theorem UG{n:Nat}{y x:Rn}(hy:0<=y.At/\1<=y.N/\y.At+y.N<=64)(hx:Ir x.At x.N):lY n y x=some (decide (Pm y x)):=by
 unfold lY Ir at *;rw[zK (DI (by omega)),zK (DI hy)];congr 1;unfold Pm;by_cases he:qP x y=true
 ·have:x.At=y.At/\x.N=y.N:=by simpa[qP]using he
  simp[he,this.1,this.2]
 ·by_cases h1:y.At<=x.At
  ·simp[he,h1]
  ·simp[he,h1]
theorem L8{n:Nat}(hn:110<=n){l:List Rn}(hl:qb l){x:Rn}(hx:Ir x.At x.N):∃v,bM n l x=some v/\((v= -1/\∀y∈l,¬Pm y x)\/∃i,∃h:i<l.length,v=(i:Int)/\Pm l[i] x):=by
 unfold bM;have hlen:=hl.len;refine Jl (λ(v:Int)=>0<=v/\v<=l.length/\∀y∈l.take v.toNat,¬Pm y x) (λv=>((l.length:Int)-v).toNat) (λo=>∃v,o=some v/\((v= -1/\∀y∈l,¬Pm y x)\/∃i,∃h:i<l.length,v=(i:Int)/\Pm l[i] x)) ?_ n 0 ⟨by omega,by omega,by simp⟩ (by omega);rintro kk v ⟨v0,v1,hv⟩ ih;obtain⟨i,rfl⟩:=Int.eq_ofNat_of_zero_le v0;by_cases hc:i<l.length
 ·have hg:l.getD (Int.toNat (i:Int)) default=l[i]:=by rw[aiL,List.getD,aiP hc];rfl
  rw[aS (by simpa using hc),bj (fP (by omega) (by omega)),hg,bq (by omega) (by omega)];rw[ak (show mL n l[i] x=some (decide (Pm l[i] x))by unfold mL;rw[ak (UG (hl.vV _ (List.getElem_mem hc)) hx)])];by_cases he:Pm l[i] x
  ·rw[aS (by simpa using he)]
   exact⟨_,rfl, .inr ⟨i,hc,rfl,he⟩⟩
  ·rw[au (by simpa using he)]
   refine ih _ ⟨by omega,by omega,λy hy=>?_⟩ (by omega);have e:((i:Int)+1).toNat=i+1:=by omega
   rw[e,aiQ hc]at hy;rcases List.mem_append.1 hy with h|h
   ·exact hv y (by simpa using h)
   ·rw[List.mem_singleton.1 h];exact he
 ·rw[au (by simpa using hc)]
  refine⟨-1,rfl, .inl ⟨rfl,λy hy=>hv y ?_⟩⟩;rw[List.take_of_length_le (by omega)];exact hy
theorem Q3{n:Nat}{l:List Rn}{x:Rn}:ez n l x=bM n l x:=rfl
theorem Pk{y x:Rn}(h:Pm y x)(hx:Ir x.At x.N){l:List Rn}(hy:y∈l):∀p,x.At<=p->p<x.At+x.N->bZ l p:=λp h1 h2=>⟨y,hy,by unfold Pm at h;omega,by unfold Pm at h;omega⟩
theorem acs{n:Nat}(hn:110<=n){r:bn}(hr:qb r.l){p:Int}(hp:R6 p):∃b,gX n r p=some b/\(b=true↔bZ r.l p):=by
 unfold gX;rw[aK];obtain⟨b,hb,hb'⟩:=NL (n:=n) hp (show R6 1 from⟨by omega,by omega⟩);rw[ak hb];cases b with
 |false=>refine⟨false,rfl,⟨λh=>(by cases h),λhm=>?_⟩⟩;have:=Uh hr hm;exact hb'.2 ⟨by omega,by omega,by omega⟩
 |true=>
  have ho:=hb'.1 rfl;obtain⟨v,h1,h2⟩:=L8 hn hr (x:=⟨p,1⟩) ho;have h3:cM n r.l ⟨p,1⟩=some (decide (0<=v)):=by unfold cM;rw[Q3,ak h1]
  rw[rZ (g:=(true==true)) rfl h3];refine⟨_,rfl,?_⟩;rcases h2 with⟨rfl,h2⟩|⟨i,hi,rfl,h2⟩
  ·simp
   rintro⟨y,hy,h4,h5⟩;exact h2 y hy ⟨h4,by show p+1<=_;omega⟩
  ·simp
   exact Pk h2 ho (List.getElem_mem hi) p (by show p<=p;omega) (by show p<p+1;omega)
def Oa(k:Int)(y:Rn):Bool:=decide (1<=k)&&decide (k<=y.N)
def G5(k:Int)(l:List Rn):Int×Bool:=match l.find? (Oa k)with|some y=>(y.At,true)|none=>(0,false)
theorem PC{n:Nat}(hn:110<=n){r:bn}(hr:qb r.l)(k:Int):oS n r k=some (G5 k r.l):=by
 unfold oS;rw[ak (PK n r)];obtain⟨xs,h1,h2⟩:=VO (n:=n) (l:=r.l) (by have:=hr.len;omega) hn;rw[ak h1, ← h2];clear h1 h2 hr
 induction xs with
 |nil=>rfl
 |cons e xs ih=>
  show cn (Oa k e.2) (some (e.2.At,true)) _ =_;unfold G5;rw[List.map_cons,List.find?_cons];cases hf:Oa k e.2 with
  |true=>rfl
  |false=>exact ih
def Jq(l:List Rn)(a k:Int):Prop:=Ir a k/\∀p,a<=p->p<a+k->bZ l p
theorem Zh{l:List Rn}(hl:qb l){k:Int}:(G5 k l=(0,false)/\∀a,¬Jq l a k)\/∃v,G5 k l=(v,true)/\0<=v/\Jq l v k/\∀a,a<v->¬Jq l a k:=by
 unfold G5;cases hf:l.find? (Oa k)with
 |none=>refine .inl ⟨rfl,λa ⟨⟨o1,o2,o3⟩,h⟩=>?_⟩;obtain⟨y,hy,h1,h2⟩:=hl.Ss o1 h;have:=List.find?_eq_none.1 hf y hy;refine this ?_;simp only[Oa,aiJ,decide_eq_true_eq];omega
 |some y=>
  obtain⟨hp,us,bs,e,hno⟩:=List.find?_eq_some_iff_append.1 hf;have hy:y∈l:=by rw[e];simp
  have WZ:=hl.vV y hy;simp only[Oa,aiJ,decide_eq_true_eq]at hp;refine .inr ⟨y.At,rfl,by omega,⟨⟨by omega,by omega,by omega⟩,λp h1 h2=>⟨y,hy,h1,by omega⟩⟩,λa ha ⟨⟨o1,o2,o3⟩,h⟩=>?_⟩;obtain⟨z,hz,h1,h2⟩:=hl.Ss o1 h;have hzy:z∈us:=by
   rw[e]at hz;rcases List.mem_append.1 hz with hz|hz
   ·exact hz
   ·rcases List.mem_cons.1 hz with rfl|hz
    ·omega
    ·have MY:=hl.pw
     rw[e]at MY;have:=(List.pairwise_cons.1 (List.pairwise_append.1 MY).2.1).1 z hz;omega
  have:=hno z hzy;simp only[Oa,Bool.not_eq_true',Bool.and_eq_false_iff,decide_eq_false_iff_not]at this;omega
theorem Rr{n:Nat}{a b c:List Rn}(ha:a.length<=100)(hb:b.length<=100)(hc:c.length<=100):eW n a b c=some (a++b++c):=by
 unfold eW;have e1:wr .i64 (0+(a.length:Int))=a.length:=by rw[bq (by omega) (by omega)];omega
 have e2:wr .i64 ((a.length:Int)+b.length)=(a.length:Int)+b.length:=bq (by omega) (by omega);have e3:wr .i64 ((a.length:Int)+b.length+c.length)=(a.length:Int)+b.length+c.length:=bq (by omega) (by omega);rw[e1,e2,e3,au (by simp),au (by simp;omega),au (by simp;omega)];have hg:dQ n ((a.length:Int)+b.length+c.length)=some ():=by
  unfold dQ;simp only[aK];rw[au (by simp;omega),bq (by omega) (by omega)];by_cases h0:0<(a.length:Int)+b.length+c.length
  ·rw[aS (by simp;omega),bj]
   simp only[KL,decide_eq_true_eq];omega
  ·rw[au (by simp;omega)]
 rw[ak hg,bj (jt (by simp;omega) (by simp;omega)),aK,bj (jt (by simp;omega) (by simp;omega)),aK,bj (jt (by simp;omega) (by simp;omega)),aK];rfl
theorem qb.cut{l:List Rn}(h:qb l){i:Nat}(hi:i<l.length){left:List Rn}{at_ k:Int}(hk:1<=k)(hin:l[i].At<=at_/\at_+k<=l[i].At+l[i].N)
  (hl:qb left)(hm:∀p,bZ left p↔(l[i].At<=p/\p<l[i].At+l[i].N)/\¬(at_<=p/\p<at_+k))(hb:∀y∈left,l[i].At<=y.At/\y.At+y.N<=l[i].At+l[i].N):
  qb (l.take i++left++l.drop (i+1))/\∀p,bZ (l.take i++left++l.drop (i+1)) p↔bZ l p/\¬(at_<=p/\p<at_+k):=by
 have e:l=l.take i++l[i]::l.drop (i+1):=by rw[← List.drop_eq_getElem_cons hi,List.take_append_drop]
 generalize hy:l[i]=y at *;have MY:=h.pw;rw[e]at MY;obtain⟨q1,q2,q3⟩:=List.pairwise_append.1 MY;obtain⟨q4,q5⟩:=List.pairwise_cons.1 q2;have hyl:y∈l:=by rw[e];simp
 have WZ:=h.vV y hyl;refine⟨⟨?_,?_⟩,λp=>?_⟩
 ·intro z hz
  rcases List.mem_append.1 hz with hz|hz
  ·rcases List.mem_append.1 hz with hz|hz
   ·exact h.vV z (List.mem_of_mem_take hz)
   ·exact hl.vV z hz
  ·exact h.vV z (List.mem_of_mem_drop hz)
 ·refine List.pairwise_append.2 ⟨List.pairwise_append.2 ⟨q1,hl.pw,λa ha b hb'=>?_⟩,q5,λa ha b hb'=>?_⟩
  ·have:=q3 a ha y (by simp);have:=hb b hb';omega
  ·rcases List.mem_append.1 ha with ha|ha
   ·exact q3 a ha b (by simp[hb'])
   ·have:=q4 b hb';have:=hb a ha;omega
 ·have hp:bZ l p↔bZ (l.take i) p\/(y.At<=p/\p<y.At+y.N)\/bZ (l.drop (i+1)) p:=by
   conv=>lhs;rw[e,jM,fO]
  rw[jM,jM,hm p,hp];have t1:bZ (l.take i) p->p<y.At:=λ⟨z,hz,h1,h2⟩=>by have:=q3 z hz y (by simp);omega
  have t2:bZ (l.drop (i+1)) p->y.At+y.N<p:=λ⟨z,hz,h1,h2⟩=>by have:=q4 z hz;omega
  constructor
  ·rintro((c|⟨c1,c2⟩)|c)
   ·have:=t1 c;exact⟨.inl c,by omega⟩
   ·exact⟨.inr (.inl c1),c2⟩
   ·have:=t2 c;exact⟨.inr (.inr c),by omega⟩
  ·rintro⟨c|c|c,d⟩
   ·exact .inl (.inl c)
   ·exact .inl (.inr ⟨c,d⟩)
   ·exact .inr c
theorem Xz{n:Nat}(hn:110<=n){r:bn}(hr:qb r.l){at_ k:Int}(ha:R6 at_)(hk:R6 k):
  ∃r' g,jI n r at_ k=some (r',g)/\(g=true↔Jq r.l at_ k)/\(g=false->r'=r)/\(g=true->qb r'.l/\∀p,bZ r'.l p↔bZ r.l p/\¬(at_<=p/\p<at_+k)):=by
 unfold jI;rw[aK];obtain⟨b,hb,hb'⟩:=NL (n:=n) ha hk;rw[ak hb];cases b with
 |false=>refine⟨r,false,rfl,⟨λh=>(by cases h),λh=>hb'.2 h.1⟩,λ_ =>rfl,λh=>(by cases h)⟩
 |true=>
  have ho:=hb'.1 rfl;obtain⟨o1,o2,o3⟩:=ho;obtain⟨v,h1,h2⟩:=L8 hn hr (x:=⟨at_,k⟩) ⟨o1,o2,o3⟩;rw[au (b:= !true) rfl,ak h1];rcases h2 with⟨rfl,h2⟩|⟨i,hi,rfl,h2⟩
  ·refine⟨r,false,rfl,⟨λh=>(by cases h),λh=>?_⟩,λ_ =>rfl,λh=>(by cases h)⟩
   obtain⟨y,hy,h3,h4⟩:=hr.Ss o1 h.2;exact absurd ⟨h3,h4⟩ (h2 y hy)
  ·have hlen:=hr.len
   have WZ:=hr.vV _ (List.getElem_mem hi);have hg:r.l.getD (Int.toNat (i:Int)) default=r.l[i]:=by rw[aiL,List.getD,aiP hi];rfl
   have hin:r.l[i].At<=at_/\at_+k<=r.l[i].At+r.l[i].N:=h2;have e1:wr .i64 ((i:Int)+1)=((i+1:Nat):Int):=by rw[bq (by omega) (by omega)];omega
   rw[au (by simp),bj (fP (by omega) (by omega)),aK,hg];have fin:∀left:List Rn,left.length<=2->qb left->(∀p,bZ left p↔(r.l[i].At<=p/\p<r.l[i].At+r.l[i].N)/\¬(at_<=p/\p<at_+k))->(∀y∈left,r.l[i].At<=y.At/\y.At+y.N<=r.l[i].At+r.l[i].N)->
     ∃r' g,(gu (dk (i:Int) (r.l.length+1))<|gu (dk (wr .i64 ((i:Int)+1)) (r.l.length+1))<|bd (eW n (r.l.take (Int.toNat (i:Int))) left (r.l.drop (Int.toNat (wr .i64 ((i:Int)+1))))) λJL=>lt ({l:=JL}:bn) λCW=>some (CW,true))=some (r',g)/\
      (g=true↔Jq r.l at_ k)/\(g=false->r'=r)/\(g=true->qb r'.l/\∀p,bZ r'.l p↔bZ r.l p/\¬(at_<=p/\p<at_+k)):=λleft c1 c2 c3 c4=>by
    rw[e1,bj (fP (by omega) (by omega)),bj (fP (by omega) (by omega)),aiL,aiL,ak (Rr (by rw[List.length_take];omega) (by omega) (by rw[List.length_drop];omega))];exact⟨_,true,rfl,⟨λ_ =>⟨⟨o1,o2,o3⟩,Pk (x:=⟨at_,k⟩) h2 ⟨o1,o2,o3⟩ (List.getElem_mem hi)⟩,λ_ =>rfl⟩,λh=>(by cases h),λ_ =>hr.cut hi o1 hin c2 c3 c4⟩
   generalize hy:r.l[i]=y at *;dsimp only[lt];have ex:bG n (⟨at_,k⟩:Rn)=some (at_+k):=DI (y:=⟨at_,k⟩) ⟨o2,o1,o3⟩;have ey:bG n y=some (y.At+y.N):=DI WZ;by_cases c1:y.At<at_
   ·rw[aS (by simpa using c1),bq (x:=at_-y.At) (by omega) (by omega),bj (jt (by simp) (by simp)),ak ex,ak ey]
    by_cases c2:at_+k<y.At+y.N
    ·rw[aS (by simpa using c2),ak ex,ak ey,ak ex,bq (x:=y.At+y.N-(at_+k)) (by omega) (by omega),bj (jt (by simp) (by simp))]
     refine fin [⟨y.At,at_-y.At⟩,⟨at_+k,y.At+y.N-(at_+k)⟩] (by simp) ⟨?_,?_⟩ (λp=>?_) ?_
     ·intro z hz
      simp only[List.nil_append,List.cons_append,List.mem_cons,List.not_mem_nil,or_false]at hz;rcases hz with rfl|rfl<;>dsimp only<;>omega
     ·refine List.pairwise_cons.2 ⟨λz hz=>?_,List.pairwise_singleton _ _⟩
      obtain rfl:=List.mem_singleton.1 hz;dsimp only;omega
     ·simp only[List.nil_append,List.cons_append,fO,kQ,or_false];omega
     ·intro z hz
      simp only[List.nil_append,List.cons_append,List.mem_cons,List.not_mem_nil,or_false]at hz;rcases hz with rfl|rfl<;>dsimp only<;>omega
    ·rw[au (by simpa using c2)]
     refine fin [⟨y.At,at_-y.At⟩] (by simp) ⟨?_,List.pairwise_singleton _ _⟩ (λp=>?_) ?_
     ·intro z hz
      obtain rfl:=List.mem_singleton.1 hz;dsimp only;omega
     ·simp only[List.nil_append,fO,kQ,or_false];omega
     ·intro z hz
      obtain rfl:=List.mem_singleton.1 hz;dsimp only;omega
   ·rw[au (by simpa using c1),ak ex,ak ey]
    by_cases c2:at_+k<y.At+y.N
    ·rw[aS (by simpa using c2),ak ex,ak ey,ak ex,bq (x:=y.At+y.N-(at_+k)) (by omega) (by omega),bj (jt (by simp) (by simp))]
     refine fin [⟨at_+k,y.At+y.N-(at_+k)⟩] (by simp) ⟨?_,List.pairwise_singleton _ _⟩ (λp=>?_) ?_
     ·intro z hz
      obtain rfl:=List.mem_singleton.1 hz;dsimp only;omega
     ·simp only[List.nil_append,fO,kQ,or_false];omega
     ·intro z hz
      obtain rfl:=List.mem_singleton.1 hz;dsimp only;omega
    ·rw[au (by simpa using c2)]
     refine fin _ (by simp) qb.nil (λp=>?_) (by simp);simp only[kQ,false_iff];omega
end Go.Proofs.Z
namespace Go.Proofs.Z
open Go Go.Bw
structure GI(l:List Rn)(at_ k:Int)(pre rest:List Rn)(put:Bool)(out:List Rn)(x:Rn):Prop where
 e:l=pre++rest
 dV:∀p,bZ pre p->¬(at_<=p/\p<at_+k)
 lo:x.At<=at_/\(x.At=at_\/∃z∈pre,z.At+z.N=at_)
 hi:at_+k<=x.At+x.N/\(x.At+x.N=at_+k\/∃z∈pre,z.At+z.N=x.At+x.N)
 vV:0<=x.At/\1<=x.N/\x.At+x.N<=64
 off:put=false->qb (out++[x])/\(∀z∈out,z∈pre)/\∀p,bZ (out++[x]) p↔bZ pre p\/(at_<=p/\p<at_+k)
 on:put=true->qb out/\(∀z∈out,z∈pre\/z=x)/\(∃z∈pre,x.At+x.N<z.At)/\∀p,bZ out p↔bZ pre p\/(at_<=p/\p<at_+k)
theorem qF{l:List Rn}{y:Rn}(h:qb l)(hy:0<=y.At/\1<=y.N/\y.At+y.N<=64)(ha:∀z∈l,z.At+z.N<y.At):qb (l++[y]):=
 ⟨λz hz=>by
  rcases List.mem_append.1 hz with hz|hz
  ·exact h.vV z hz
  ·rw[List.mem_singleton.1 hz];exact hy,
  List.pairwise_append.2 ⟨h.pw,List.pairwise_singleton _ _,λa ha' b hb=>by rw[List.mem_singleton.1 hb];exact ha a ha'⟩⟩
theorem qb.init{l:List Rn}{y:Rn}(h:qb (l++[y])):qb l:=⟨λz hz=>h.vV z (by simp[hz]),(List.pairwise_append.1 h.pw).1⟩
theorem qb.Iu{l:List Rn}{y:Rn}(h:qb (l++[y])):∀z∈l,z.At+z.N<y.At:=λz hz=>(List.pairwise_append.1 h.pw).2.2 z hz y (by simp)
theorem eY{y:Rn}{p:Int}:bZ [y] p↔y.At<=p/\p<y.At+y.N:=by rw[fO];simp[bZ]
def afV(r':bn)(g:Bool)(l:List Rn)(r:bn)(at_ k:Int):Prop:=(g=true↔∀p,at_<=p->p<at_+k->¬bZ l p)/\(g=false->r'=r)/\(g=true->qb r'.l/\∀p,bZ r'.l p↔bZ l p\/(at_<=p/\p<at_+k))
theorem Y4{n:Nat}{r:bn}{l:List Rn}(hl:qb l){at_ k:Int}(ho:Ir at_ k):∀(xs:List (Int×Rn)) (pre:List Rn) (put:Bool) (out:List Rn) (x:Rn),GI l at_ k pre (xs.map Prod.snd) put out x->
  ∃r' g,Uv (λ(e56:Int×av) YD (dL:Bool) (jU:(List av)) (gy:av)=>lt (e56.1:Int) λ_=>lt (e56.2:av) λqc=>bd (bG n qc) λyd=>cn (decide (yd<gy.At)) (gu (gN jU.length 1 16)<|lt (jU++([qc]):List av) λFU=>YD dL FU gy) (bd (bG n gy) λJN=>cn (decide (JN<qc.At)) (lt (λ(Si:Bool) (Qt:(List av))=>gu (gN Qt.length 1 16)<|lt (Qt++([qc]):List av) λJK=>YD Si JK gy) λj67=>cn ((!dL)) (gu (gN jU.length 1 16)<|lt (jU++([gy]):List av) λIg=>j67 true Ig) (j67 dL jU)) (bd (bG n qc) λCW=>cn ((CW==gy.At)) (lt ({At:=qc.At,N:=wr .i64 (qc.N+gy.N)}:av) λSd=>YD dL jU Sd) (bd (bG n gy) λQs=>cn ((qc.At==Qs)) (lt ({gy with N:=wr .i64 (gy.N+qc.N)}:av) λQr=>YD dL jU Qr) (some (r,false)))))) (λ(dL:Bool) (jU:(List av)) (gy:av)=>cn ((!dL)) (gu (gN jU.length 1 16)<|lt (jU++([gy]):List av) λEG=>lt ({l:=EG}:bn) λx87=>some (x87,true)) (lt ({l:=jU}:bn) λx93=>some (x93,true))) xs put out x=some (r',g)/\afV r' g l r at_ k:=by
 intro xs
 induction xs with
 |nil=>
  intro pre put out x h;have e:l=pre:=by have:=h.e;simpa using this
  subst e;show∃r' g,cn (!put) (gu (gN out.length 1 16)<|some ((⟨out++[x]⟩:bn),true)) (some ((⟨out⟩:bn),true))=some (r',g)/\_;have hfree:∀p,at_<=p->p<at_+k->¬bZ l p:=λp h1 h2 hm=>h.dV p hm ⟨h1,h2⟩;cases put with
  |false=>obtain⟨c1,c2,c3⟩:=h.off rfl;have:=c1.init.len;rw[aS (b:= !false) rfl,bj (jt (by omega) (by omega))];exact⟨_,true,rfl,⟨λ_ =>hfree,λ_ =>rfl⟩,λh=>(by cases h),λ_ =>⟨c1,c3⟩⟩
  |true=>obtain⟨c1,c2,c3,c4⟩:=h.on rfl;rw[au (b:= !true) rfl];exact⟨_,true,rfl,⟨λ_ =>hfree,λ_ =>rfl⟩,λh=>(by cases h),λ_ =>⟨c1,c4⟩⟩
 |cons q xs ih=>
  obtain⟨qi,y⟩:=q;intro pre put out x h;have he:l=(pre++[y])++xs.map Prod.snd:=by rw[h.e];simp
  have hyl:y∈l:=by rw[h.e];simp
  have WZ:=hl.vV y hyl;have hpre:∀z∈pre,z.At+z.N<y.At:=λz hz=>by have MY:=hl.pw;rw[he]at MY;exact(List.pairwise_append.1 (List.pairwise_append.1 MY).1).2.2 z hz y (by simp)
  have hzr:∀z∈pre,0<=z.At/\1<=z.N/\z.At+z.N<=64:=λz hz=>hl.vV z (by rw[h.e];simp[hz]);obtain⟨o1,o2,o3⟩:=ho;obtain⟨lo1,lo2⟩:=h.lo;obtain⟨hi1,hi2⟩:=h.hi;have hxr:=h.vV;have ey:bG n y=some (y.At+y.N):=DI WZ;have ex:bG n x=some (x.At+x.N):=DI hxr;have hfree:(∀p,y.At<=p->p<y.At+y.N->¬(at_<=p/\p<at_+k))->∀p,bZ (pre++[y]) p->¬(at_<=p/\p<at_+k):=λhy p hp=>by
   rcases jM.1 hp with hp|hp
   ·exact h.dV p hp
   ·obtain⟨h1,h2⟩:=eY.1 hp;exact hy p h1 h2
  have GL:∀{z},z∈pre->z∈pre++[y]:=λhz=>by simp[hz]
  have hlo:x.At=at_\/∃z∈pre++[y],z.At+z.N=at_:=lo2.imp id λ⟨z,hz,e⟩=>⟨z,GL hz,e⟩;have hhi:x.At+x.N=at_+k\/∃z∈pre++[y],z.At+z.N=x.At+x.N:=hi2.imp id λ⟨z,hz,e⟩=>⟨z,GL hz,e⟩;have hmy:∀p,bZ (pre++[y]) p↔bZ pre p\/(y.At<=p/\p<y.At+y.N):=λp=>by rw[jM,eY]
  have hput:put=true->x.At+x.N<y.At:=λhp=>by obtain⟨z,hz,h1⟩:=(h.on hp).2.2.1;have:=hpre z hz;have:=hzr z hz;omega
  simp only[Uv];dsimp only[lt];rw[ak ey];by_cases c1:y.At+y.N<x.At
  ·have hf:put=false:=by
    cases put with
    |false=>rfl
    |true=>have:=hput rfl;omega
   subst hf;obtain⟨d1,d2,d3⟩:=h.off rfl;have hlen:=d1.init.len;rw[aS (by simpa using c1),bj (jt (by omega) (by omega))];refine ih (pre++[y]) false (out++[y]) x ⟨he,hfree λp h1 h2=>by omega,⟨lo1,hlo⟩,⟨hi1,hhi⟩,hxr,λ_ =>⟨?_,?_,λp=>?_⟩,λh=>by cases h⟩
   ·refine qF (qF d1.init WZ λz hz=>hpre z (d2 z hz)) hxr λz hz=>?_
    rcases List.mem_append.1 hz with hz|hz
    ·exact d1.Iu z hz
    ·rw[List.mem_singleton.1 hz];exact c1
   ·intro z hz
    rcases List.mem_append.1 hz with hz|hz
    ·exact GL (d2 z hz)
    ·rw[List.mem_singleton.1 hz];simp
   ·have:=d3 p
    rw[jM,eY]at this ⊢;rw[jM,eY,hmy];constructor
    ·rintro((c|c)|c)
     ·rcases this.1 (.inl c)with c|c
      ·exact .inl (.inl c)
      ·exact .inr c
     ·exact .inl (.inr c)
     ·rcases this.1 (.inr c)with c|c
      ·exact .inl (.inl c)
      ·exact .inr c
    ·rintro((c|c)|c)
     ·rcases this.2 (.inl c)with c|c
      ·exact .inl (.inl c)
      ·exact .inr c
     ·exact .inl (.inr c)
     ·rcases this.2 (.inr c)with c|c
      ·exact .inl (.inl c)
      ·exact .inr c
  rw[au (by simpa using c1),ak ex];by_cases c2:x.At+x.N<y.At
  ·rw[aS (by simpa using c2)]
   have hfr:=hfree λp h1 h2=>by omega
   cases put with
   |false=>
    obtain⟨d1,d2,d3⟩:=h.off rfl;have hlen:=d1.init.len;have UK:=d1.len;rw[aS (b:= !false) rfl,bj (jt (by omega) (by omega)),bj (jt (by omega) (by omega))];refine ih (pre++[y]) true (out++[x]++[y]) x ⟨he,hfr,⟨lo1,hlo⟩,⟨hi1,hhi⟩,hxr,λh=>(by cases h),λ_ =>⟨?_,?_,⟨y,by simp,c2⟩,λp=>?_⟩⟩
    ·refine qF d1 WZ λz hz=>?_
     rcases List.mem_append.1 hz with hz|hz
     ·exact hpre z (d2 z hz)
     ·rw[List.mem_singleton.1 hz];exact c2
    ·intro z hz
     simp only[List.mem_append,List.mem_singleton]at hz;rcases hz with(hz|hz)|hz
     ·exact .inl (GL (d2 z hz))
     ·exact .inr hz
     ·exact .inl (by simp[hz])
    ·rw[jM,eY,d3 p,hmy]
     constructor
     ·rintro((c|c)|c)
      ·exact .inl (.inl c)
      ·exact .inr c
      ·exact .inl (.inr c)
     ·rintro((c|c)|c)
      ·exact .inl (.inl c)
      ·exact .inr c
      ·exact .inl (.inr c)
   |true=>
    obtain⟨d1,d2,d3,d4⟩:=h.on rfl;have hlen:=d1.len;rw[au (b:= !true) rfl,bj (jt (by omega) (by omega))];refine ih (pre++[y]) true (out++[y]) x ⟨he,hfr,⟨lo1,hlo⟩,⟨hi1,hhi⟩,hxr,λh=>(by cases h),λ_ =>⟨?_,?_,⟨y,by simp,c2⟩,λp=>?_⟩⟩
    ·refine qF d1 WZ λz hz=>?_
     rcases d2 z hz with hz|rfl
     ·exact hpre z hz
     ·exact c2
    ·intro z hz
     rcases List.mem_append.1 hz with hz|hz
     ·exact(d2 z hz).imp GL id
     ·exact .inl (by simp[List.mem_singleton.1 hz])
    ·rw[jM,eY,d4 p,hmy]
     constructor
     ·rintro((c|c)|c)
      ·exact .inl (.inl c)
      ·exact .inr c
      ·exact .inl (.inr c)
     ·rintro((c|c)|c)
      ·exact .inl (.inl c)
      ·exact .inr c
      ·exact .inl (.inr c)
  have hf:put=false:=by
   cases put with
   |false=>rfl
   |true=>have:=hput rfl;omega
  subst hf;obtain⟨d1,d2,d3⟩:=h.off rfl;rw[au (by simpa using c2),ak ey];by_cases c3:y.At+y.N=x.At
  ·rw[aS (by simpa using c3),bq (by omega) (by omega)]
   have hat:x.At=at_:=by
    rcases lo2 with e|⟨z,hz,e⟩
    ·exact e
    ·have:=hpre z hz;omega
   refine ih (pre++[y]) false out ⟨y.At,y.N+x.N⟩ ⟨he,hfree λp h1 h2=>by omega,⟨by dsimp only;omega, .inr ⟨y,by simp,by omega⟩⟩,⟨by dsimp only;omega,?_⟩,by dsimp only;omega,λ_ =>⟨?_,λz hz=>GL (d2 z hz),λp=>?_⟩,λh=>by cases h⟩
   ·rcases hhi with e|⟨z,hz,e⟩
    ·exact .inl (by dsimp only;omega)
    ·exact .inr ⟨z,hz,by dsimp only;omega⟩
   ·exact qF d1.init (by dsimp only;omega) λz hz=>hpre z (d2 z hz)
   ·have:=d3 p
    rw[jM,eY]at this ⊢;rw[hmy];dsimp only;constructor
    ·rintro(c|c)
     ·rcases this.1 (.inl c)with c|c
      ·exact .inl (.inl c)
      ·exact .inr c
     ·by_cases hp:p<x.At
      ·exact .inl (.inr (by omega))
      ·rcases this.1 (.inr (by omega))with c|c
       ·exact .inl (.inl c)
       ·exact .inr c
    ·rintro((c|c)|c)
     ·rcases this.2 (.inl c)with c|c
      ·exact .inl c
      ·exact .inr (by omega)
     ·exact .inr (by omega)
     ·exact .inr (by omega)
  rw[au (by simpa using c3),ak ex];by_cases c4:y.At=x.At+x.N
  ·rw[aS (by simpa using c4),bq (by omega) (by omega)]
   refine ih (pre++[y]) false out ⟨x.At,x.N+y.N⟩ ⟨he,hfree λp h1 h2=>by omega,⟨lo1,hlo⟩,⟨by dsimp only;omega, .inr ⟨y,by simp,by dsimp only;omega⟩⟩,by dsimp only;omega,λ_ =>⟨?_,λz hz=>GL (d2 z hz),λp=>?_⟩,λh=>by cases h⟩
   ·exact qF d1.init (by dsimp only;omega) λz hz=>d1.Iu z hz
   ·have:=d3 p
    rw[jM,eY]at this ⊢;rw[hmy];dsimp only;constructor
    ·rintro(c|c)
     ·rcases this.1 (.inl c)with c|c
      ·exact .inl (.inl c)
      ·exact .inr c
     ·by_cases hp:p<x.At+x.N
      ·rcases this.1 (.inr (by omega))with c|c
       ·exact .inl (.inl c)
       ·exact .inr c
      ·exact .inl (.inr (by omega))
    ·rintro((c|c)|c)
     ·rcases this.2 (.inl c)with c|c
      ·exact .inl c
      ·exact .inr (by omega)
     ·exact .inr (by omega)
     ·exact .inr (by omega)
  rw[au (by simpa using c4)];refine⟨r,false,rfl,⟨λh=>(by cases h),λhno=>?_⟩,λ_ =>rfl,λh=>(by cases h)⟩;have g1:y.At<at_+k:=by
   rcases hi2 with e|⟨z,hz,e⟩
   ·omega
   ·have:=hpre z hz;omega
  have g2:at_<y.At+y.N:=by
   rcases lo2 with e|⟨z,hz,e⟩
   ·omega
   ·have:=hpre z hz;omega
  by_cases g3:at_<=y.At
  ·exact absurd ⟨y,hyl,by omega,by omega⟩ (hno y.At g3 g1)
  ·exact absurd ⟨y,hyl,by omega,by omega⟩ (hno at_ (by omega) (by omega))
theorem Pv{n:Nat}(hn:110<=n){r:bn}(hr:qb r.l){at_ k:Int}(ha:R6 at_)(hk:R6 k):
  ∃r' g,lX n r at_ k=some (r',g)/\(g=true↔Ir at_ k/\∀p,at_<=p->p<at_+k->¬bZ r.l p)/\(g=false->r'=r)/\(g=true->qb r'.l/\∀p,bZ r'.l p↔bZ r.l p\/(at_<=p/\p<at_+k)):=by
 unfold lX;rw[aK];obtain⟨b,hb,hb'⟩:=NL (n:=n) ha hk;rw[ak hb];cases b with
 |false=>exact⟨r,false,rfl,⟨λh=>(by cases h),λh=>hb'.2 h.1⟩,λ_ =>rfl,λh=>(by cases h)⟩
 |true=>
  have ho:=hb'.1 rfl;obtain⟨o1,o2,o3⟩:=ho;rw[au (b:= !true) rfl,ak (PK n r)];obtain⟨xs,h1,h2⟩:=VO (n:=n) (l:=r.l) (by have:=hr.len;omega) hn;rw[ak h1];obtain⟨r',g,h3,h4,h5,h6⟩:=Y4 (n:=n) (r:=r) hr (at_:=at_) (k:=k) ⟨o1,o2,o3⟩ xs [] false [] ⟨at_,k⟩ ⟨by simpa using h2.symm,λp hp=>absurd hp (kQ p),⟨Int.le_refl _, .inl rfl⟩,⟨Int.le_refl _, .inl rfl⟩,⟨o2,o1,o3⟩,
   λ_ =>⟨qF qb.nil ⟨o2,o1,o3⟩ (by simp),by simp,λp=>by rw[List.nil_append,eY];simp[kQ]⟩,λh=>by cases h⟩
  exact⟨r',g,h3,⟨λhg=>⟨⟨o1,o2,o3⟩,h4.1 hg⟩,λhg=>h4.2 hg.2⟩,h5,h6⟩
end Go.Proofs.Z
namespace Go.Proofs.Z
open Go Go.Bw
theorem X9{k:IntKind}{a b:Nat}(ha:a<2^IntKind.up k)(hb:b<2^IntKind.up k):orI k a b=((a|||b:Nat):Int):=by unfold orI;rw[BitVec.toNat_or,vQ (FJ k ha),vQ (FJ k hb)];exact Sk (Nat.or_lt_two_pow ha hb)
def ov(y:Rn)(i:Int):Int:=if i<=y.At then 0 else if y.At+y.N<=i then y.N else i-y.At
def xe(l:List Rn)(i:Int):Int:=(l.map λy=>ov y i).sum
theorem wk(y:Rn)(l:List Rn)(i:Int):xe (y::l) i=ov y i+xe l i:=rfl
theorem s5:∀{l:List Rn},qb l->xe l 0=0
 |[],_ =>rfl
 |y::r,h=>by have hy:=h.vV y (by simp);rw[wk,s5 ⟨λz hz=>h.vV z (by simp[hz]),(List.pairwise_cons.1 h.pw).2⟩];unfold ov;rw[aiG hy.1];rfl
theorem s6:∀{l:List Rn},qb l->∀i:Int,(bZ l i->xe l (i+1)=xe l i+1)/\(¬bZ l i->xe l (i+1)=xe l i)
 |[],_,i=>⟨λh=>absurd h (kQ i),λ_ =>rfl⟩
 |y::r,h,i=>by
  obtain⟨h1,h2⟩:=List.pairwise_cons.1 h.pw;have hy:=h.vV y (by simp);obtain⟨i1,i2⟩:=s6 (l:=r) ⟨λz hz=>h.vV z (by simp[hz]),h2⟩ i;rw[wk,wk,fO];by_cases c:y.At<=i/\i<y.At+y.N
  ·have hn:¬bZ r i:=λ⟨z,hz,a,b⟩=>by have:=h1 z hz;omega
   rw[i2 hn];refine⟨λ_ =>?_,λhh=>absurd (.inl c) hh⟩;unfold ov;rw[aiH (by omega)];split<;>split<;>omega
  ·have e:ov y (i+1)=ov y i:=by
    unfold ov
    (repeat' split)<;>omega
   rw[e];refine⟨λhh=>?_,λhh=>?_⟩
   ·rw[i1 (hh.resolve_left c)];omega
   ·rw[i2 λhm=>hh (.inr hm)]
def bF(l:List Rn):Int:=(l.map λy=>y.N).sum
theorem gJ(y:Rn)(l:List Rn):bF (y::l)=y.N+bF l:=rfl
theorem vu:∀{l:List Rn},qb l->xe l 64=bF l
 |[],_ =>rfl
 |y::r,h=>by have hy:=h.vV y (by simp);rw[wk,gJ,vu ⟨λz hz=>h.vV z (by simp[hz]),(List.pairwise_cons.1 h.pw).2⟩];unfold ov;rw[aiH (by omega),aiG hy.2.2]
theorem Lu:∀{l:List Rn} {lo:Int},qb l->(∀y∈l,lo<=y.At)->lo<=65->0<=bF l/\bF l<=65-lo
 |[],lo,_,_,h=>by simp[bF];omega
 |y::r,lo,h,hl,_ =>by obtain⟨h1,h2⟩:=List.pairwise_cons.1 h.pw;have hy:=h.vV y (by simp);have hy':=hl y (by simp);have:=Lu (l:=r) (lo:=y.At+y.N+1) ⟨λz hz=>h.vV z (by simp[hz]),h2⟩ (λz hz=>by have:=h1 z hz;omega) (by omega);rw[gJ];omega
theorem Mw{n:Nat}:∀(xs:List (Int×Rn)) (s:Int),0<=s->s<=1000000-bF (xs.map Prod.snd)->(∀e∈xs,1<=e.2.N)->
  xF (λ(e35:Int×av) YE (eS:Int)=>lt (e35.1:Int) λ_=>lt (e35.2:av) λcI=>lt (wr .i64 (eS+cI.N):Int) λjS=>YE jS) (λ(eS:Int)=>some eS) xs s=some (s+bF (xs.map Prod.snd))
 |[],s,_,_,_ =>by show some s=_;simp[bF]
 |e::xs,s,h0,h1,h2=>by
  have:=h2 e (by simp);have hs:0<=bF (xs.map Prod.snd):=by
   clear h1 h0;have h3:∀e∈xs,1<=e.2.N:=λe he=>h2 e (by simp[he]);clear h2 this
   induction xs with
   |nil=>simp[bF]
   |cons a xs ih=>have:=h3 a (by simp);have:=ih λe he=>h3 e (by simp[he]);rw[List.map_cons,gJ];omega
  rw[List.map_cons,gJ]at h1 ⊢;show xF _ _ xs (wr .i64 (s+e.2.N))=_;rw[bq (by omega) (by omega),Mw (n:=n) xs (s+e.2.N) (by omega) (by omega) (λe he=>h2 e (by simp[he]))];congr 1;omega
end Go.Proofs.Z
namespace Go.Proofs.Z
open Go Go.Bw
theorem IT{l m x:List Rn}(hl:qb l)(hm:qb m)(hx:qb x)(h1:∀p,bZ l p↔bZ m p\/bZ x p)(h2:∀p,bZ m p->¬bZ x p):bF l=bF m+bF x:=by
 have key:∀i:Nat,xe l i=xe m i+xe x i:=by
  intro i
  induction i with
  |zero=>rw[Int.natCast_zero,s5 hl,s5 hm,s5 hx];rfl
  |succ i ih=>
   have e:((i+1:Nat):Int)=(i:Int)+1:=by omega
   rw[e];obtain⟨a1,a2⟩:=s6 hl i;obtain⟨b1,b2⟩:=s6 hm i;obtain⟨c1,c2⟩:=s6 hx i;by_cases c:bZ m i
   ·rw[a1 ((h1 _).2 (.inl c)),b1 c,c2 (h2 _ c),ih];omega
   ·by_cases d:bZ x i
    ·rw[a1 ((h1 _).2 (.inr d)),b2 c,c1 d,ih];omega
    ·rw[a2 (λh=>((h1 _).1 h).elim c d),b2 c,c2 d,ih]
 have:=key 64;rw[show((64:Nat):Int)=64 from rfl,vu hl,vu hm,vu hx]at this;exact this
theorem KZ{a k:Int}(h:Ir a k):qb [(⟨a,k⟩:Rn)]:=qF (l:=[]) qb.nil (by unfold Ir at h;exact⟨h.2.1,h.1,h.2.2⟩) (by simp)
theorem wm(a k:Int):bF [(⟨a,k⟩:Rn)]=k:=by simp[bF]
theorem vF:∀(k:Nat) {t:List Int},t.Nodup->(∀p∈t,0<=p/\p<(k:Int))->t.length<=k
 |0,[],_,_ =>Nat.le_refl _
 |0,x::t,_,h=>by have:=h x (by simp);omega
 |k+1,t,hn,h=>by
  by_cases hk:(k:Int)∈t
  ·have h1:=vF k (hn.erase (k:Int)) λx hx=>by
    have h2:=h x (List.mem_of_mem_erase hx);have h3:x≠k:=λe=>by subst e;exact(List.Nodup.not_mem_erase hn) hx
    omega
   rw[List.length_erase_of_mem hk]at h1;omega
  ·have h1:=vF k hn λx hx=>by
    have h2:=h x hx;have h3:x≠k:=λe=>hk (e▸hx);omega
   omega
end Go.Proofs.Z
namespace Go.Proofs.Z
open Go Go.Bw
def tj(s a:Int):Bool:=(decide (1<=s)&&decide (s<=128))&&((((a==1)||(a==2))||(a==4))||(a==8))
theorem Mx{n:Nat}(hn:5<=n)(a:Int):gC n ([1,2,4,8]:List Int) a=some ((((a==1)||(a==2))||(a==4))||(a==8)):=by
 obtain⟨m,rfl⟩:∃m,n=m+5:=⟨n-5,by omega⟩;unfold gC oQ;have e1:wr .i64 (0+1)=1:=by decide
 have e2:wr .i64 (1+1)=2:=by decide
 have e3:wr .i64 (2+1)=3:=by decide
 have e4:wr .i64 (3+1)=4:=by decide
 simp only[iv,e1,e2,e3,e4];by_cases h1:a=1
 ·subst h1;rfl
 by_cases h2:a=2
 ·subst h2;rfl
 by_cases h3:a=4
 ·subst h3;rfl
 by_cases h4:a=8
 ·subst h4;rfl
 have g1:(a==1)=false:=by simpa using h1
 have g2:(a==2)=false:=by simpa using h2
 have g3:(a==4)=false:=by simpa using h3
 have g4:(a==8)=false:=by simpa using h4
 simp[cn,gu,dk,bd,g1,g2,g3,g4]
theorem I9{n:Nat}(hn:5<=n)(s a:Int):kX n s a=some (tj s a):=by unfold kX;rw[zK (Mx hn a)];unfold tj;cases h:(decide (1<=s)&&decide (s<=128))<;>simp
theorem zM{x:Nat}{m:Nat}(hm:m<=3)(hx:x<2^62):zN .i64 (x:Int) ((2^m-1:Nat):Int)=((x/2^m*2^m:Nat):Int):=by
 unfold zN;have e1:(BitVec.ofInt 64 (x:Int)&&& ~~~BitVec.ofInt 64 ((2^m-1:Nat):Int)).toNat=x/2^m*2^m:=by
  refine Nat.eq_of_testBit_eq λi=>?_;have hb:(BitVec.ofInt 64 (x:Int)).toNat=x:=vQ (k:= .i64) (by show x<2^64;omega);have hc:(BitVec.ofInt 64 ((2^m-1:Nat):Int)).toNat=2^m-1:=vQ (k:= .i64) (by show 2^m-1<2^64;have:2^m<=2^3:=Nat.pow_le_pow_right (by decide) hm;omega);rw[BitVec.toNat_and,Nat.testBit_and,hb,Nat.testBit_mul_two_pow,Nat.testBit_div_two_pow,BitVec.testBit_toNat,BitVec.getLsbD_not, ← BitVec.testBit_toNat,hc,Nat.testBit_two_pow_sub_one];by_cases h1:m<=i
  ·have h2:¬i<m:=by omega
   rw[show i-m+m=i by omega];by_cases h3:i<64
   ·simp[h1,h2,h3]
   ·have:x.testBit i=false:=Nat.testBit_lt_two_pow (Nat.lt_of_lt_of_le hx (Nat.pow_le_pow_right (by decide) (by omega)))
    simp[h1,h2,this]
  ·have h2:i<m:=by omega
   simp[h1,h2]
 show IntKind.i64.wrap ((BitVec.ofInt 64 (x:Int)&&& ~~~BitVec.ofInt 64 ((2^m-1:Nat):Int)).toNat:Int)=_;rw[e1];have:x/2^m*2^m<=x:=Nat.div_mul_le_self _ _;exact bq (by omega) (by omega)
def PY:Int->List Rn->List (Int×Rn)
 |_,[]=>[]
 |b,y::r=>(b,y)::PY (b+32*y.N) r
def A2(l:List Rn):Prop:=∀y∈l,1<=y.N
theorem vx:∀{l:List Rn},A2 l->0<=bF l
 |[],_ =>by simp[bF]
 |y::r,h=>by have:=h y (by simp);have:=vx (l:=r) λz hz=>h z (by simp[hz]);rw[gJ];omega
theorem Jv{n:Nat}{e:aD}(hn:e.aL.length<n)(hl:e.aL.length<=1000)(hp:A2 e.aL)(hs:bF e.aL<=1000):fM n e=some (PY 0 e.aL):=by
 unfold fM;have key:∀(m i:Nat) (b:Int),i<=e.aL.length->e.aL.length-i<m->0<=b->b+32*bF (e.aL.drop i)<=100000->eP (λk39 (eo:Int) (dP:Int)=>cn (decide (dP<(e.aL.length:Int))) (gu (dk dP e.aL.length)<|lt ((e.aL.getD (Int.toNat dP) default):av) λgy=>yl (eo,gy)<|k39 (wr .i64 (eo+(wr .i64 (gy.N*32)))) (wr .i64 (dP+1))) (some [])) m b (i:Int)=some (PY b (e.aL.drop i)):=by
  intro m
  induction m with
  |zero=>intro i b _ h;omega
  |succ m ih=>
   intro i b hi hm hb hsum;simp only[eP];by_cases c:i<e.aL.length
   ·have hg:e.aL.getD (Int.toNat (i:Int)) default=e.aL[i]:=by rw[aiL,List.getD,aiP c];rfl
    have hy:=hp _ (List.getElem_mem c);have hd:e.aL.drop i=e.aL[i]::e.aL.drop (i+1):=List.drop_eq_getElem_cons c;rw[hd,gJ]at hsum;have hr:0<=bF (e.aL.drop (i+1)):=vx λz hz=>hp z (List.mem_of_mem_drop hz);rw[aS (by simpa using c),bj (fP (by omega) (by omega)),aK,hg,hd];rw[bq (x:=e.aL[i].N*32) (by omega) (by omega),bq (x:=b+e.aL[i].N*32) (by omega) (by omega),bq (x:=(i:Int)+1) (by omega) (by omega)];have e1:((i:Int)+1)=((i+1:Nat):Int):=by omega
    rw[e1,ih (i+1) (b+e.aL[i].N*32) (by omega) (by omega) (by omega) (by omega)];show some ((b,e.aL[i])::PY (b+e.aL[i].N*32) (e.aL.drop (i+1)))=some ((b,e.aL[i])::PY (b+32*e.aL[i].N) (e.aL.drop (i+1)));rw[Int.mul_comm]
   ·rw[au (by simpa using c),List.drop_eq_nil_of_le (by omega)];rfl
 have:=key n 0 0 (by omega) (by omega) (by omega) (by rw[List.drop_zero];omega);simpa using this
theorem FF:∀(l:List Rn) (b:Int),(PY b l).map Prod.snd=l
 |[],_ =>rfl
 |y::r,b=>by rw[PY,List.map_cons,FF r]
theorem LK{n:Nat}{e:aD}(hn:e.aL.length<n)(hl:e.aL.length<=1000)(hp:A2 e.aL)(hs:bF e.aL<=1000):cR n e=some (bF e.aL):=by unfold cR;rw[ak (show gD n e=some e from rfl),ak (Jv hn hl hp hs)];have h0:=vx hp;refine(Mw (n:=n) (PY 0 e.aL) 0 (by omega) (by rw[FF];omega) λq hq=>hp q.2 (by rw[← FF e.aL 0];exact List.mem_map_of_mem hq)).trans ?_;rw[FF];congr 1;omega
theorem Ue{n:Nat}(hn:5<=n)(s a:Int):pz n s a=some (if tj s a then((s+31)/32,true)else(0,false)):=by
 unfold pz;rw[ak (I9 hn s a)];cases h:tj s a with
 |false=>rfl
 |true=>
  have hs:1<=s/\s<=128:=by
   have h1:(decide (1<=s)&&decide (s<=128))=true:=by unfold tj at h;rw[aiJ]at h;exact h.1
   simpa using h1
  rw[au (b:= !true) rfl,bq (x:=s+32) (by omega) (by omega),bq (x:=s+32-1) (by omega) (by omega),Ge (by omega),bq (by omega) (by omega),aiG rfl];congr 3;omega
end Go.Proofs.Z
namespace Go.Proofs.Z
open Go Go.Bw
structure Ia(l:List Rn):Prop where
 vV:∀y∈l,Ir y.At y.N
 pw:l.Pairwise λy z=>∀p,y.At<=p->p<y.At+y.N->¬(z.At<=p/\p<z.At+z.N)
theorem Ia.nil:Ia []:=⟨by simp, .nil⟩
theorem yQ{l:List Rn}{y:Rn}:Ia (l++[y])↔Ia l/\Ir y.At y.N/\∀p,y.At<=p->p<y.At+y.N->¬bZ l p:=by
 constructor
 ·rintro⟨h1,h2⟩
  obtain⟨p1,p2,p3⟩:=List.pairwise_append.1 h2;exact⟨⟨λz hz=>h1 z (by simp[hz]),p1⟩,h1 y (by simp),λp q1 q2 ⟨z,hz,q3,q4⟩=>p3 z hz y (by simp) p q3 q4 ⟨q1,q2⟩⟩
 ·rintro⟨⟨h1,h2⟩,h3,h4⟩
  refine⟨λz hz=>?_,List.pairwise_append.2 ⟨h2,List.pairwise_singleton _ _,λa ha b hb p q1 q2 q3=>?_⟩⟩
  ·rcases List.mem_append.1 hz with hz|hz
   ·exact h1 z hz
   ·rw[List.mem_singleton.1 hz];exact h3
  ·rw[List.mem_singleton.1 hb]at q3
   exact h4 p q3.1 q3.2 ⟨a,ha,q1,q2⟩
theorem Ia.WV{l:List Rn}(h:Ia l):A2 l:=λy hy=>(h.vV y hy).1
theorem oP:∀(l m:List Rn),bF (l++m)=bF l+bF m
 |[],m=>by simp[bF]
 |y::r,m=>by rw[List.cons_append,gJ,gJ,oP r m];omega
theorem Lt{l:List Rn}(h:qb l):∀i:Nat,xe l i<=i
 |0=>by rw[Int.natCast_zero,s5 h];exact Int.le_refl _
 |i+1=>by
  have:=Lt h i;obtain⟨a,b⟩:=s6 h i;have e:((i+1:Nat):Int)=(i:Int)+1:=by omega
  rw[e];by_cases c:bZ l i
  ·rw[a c];omega
  ·rw[b c];omega
theorem Ui{n:Nat}(hn:110<=n){e:aD}(hl:e.aL.length<=80)(hr:∀y∈e.aL,R6 y.At/\R6 y.N):∃b,fN n e=some b/\(b=true↔Ia e.aL/\bF e.aL<=64/\0<=e.ep/\e.ep<=32*bF e.aL):=by
 unfold fN;refine vJ (λ(i:Int) (r:bn)=>0<=i/\i<=e.aL.length/\qb r.l/\Ia (e.aL.take i.toNat)/\(∀p,bZ r.l p↔bZ (e.aL.take i.toNat) p)/\bF r.l=bF (e.aL.take i.toNat)) (λi _ =>((e.aL.length:Int)-i).toNat)
  (λo=>∃b,o=some b/\(b=true↔Ia e.aL/\bF e.aL<=64/\0<=e.ep/\e.ep<=32*bF e.aL)) ?_ n 0 jY ⟨by omega,by omega,qb.nil,Ia.nil,λp=>Iff.rfl,rfl⟩ (by omega)
 rintro kk i r ⟨i0,i1,hc,hg,hm,hs⟩ ih;obtain⟨i,rfl⟩:=Int.eq_ofNat_of_zero_le i0;rw[aiL]at hg hm hs;by_cases c:i<e.aL.length
 ·have hgd:e.aL.getD (Int.toNat (i:Int)) default=e.aL[i]:=by rw[aiL,List.getD,aiP c];rfl
  have hy:=hr _ (List.getElem_mem c);have ht:e.aL.take (i+1)=e.aL.take i++[e.aL[i]]:=aiQ c;rw[aS (by simpa using c),bj (fP (by omega) (by omega)),aK,hgd];obtain⟨r',g,g1,g2,g3,g4⟩:=Pv (n:=n) hn hc (at_:=e.aL[i].At) (k:=e.aL[i].N) hy.1 hy.2;rw[ak g1];have afN:g=true↔Ia (e.aL.take (i+1)):=by rw[g2,ht,yQ];exact⟨λ⟨a,b⟩=>⟨hg,a,λp q1 q2 q3=>b p q1 q2 ((hm p).2 q3)⟩,λ⟨_,a,b⟩=>⟨a,λp q1 q2 q3=>b p q1 q2 ((hm p).1 q3)⟩⟩
  cases g with
  |false=>refine⟨false,rfl,λh=>(by cases h),λ⟨h,_⟩=>?_⟩;rw[← List.take_append_drop (i+1) e.aL]at h;exact afN.2 ⟨λy hy=>h.vV y (aiN _ hy),(List.pairwise_append.1 h.pw).1⟩
  |true=>
   obtain⟨c1,c2⟩:=g4 rfl;have ho:=(g2.1 rfl).1;rw[au (b:= !true) rfl,bq (by omega) (by omega)];have e1:((i:Int)+1).toNat=i+1:=by omega
   refine ih _ _ ⟨by omega,by omega,c1,by rw[e1];exact afN.1 rfl,λp=>?_,?_⟩ (by omega)
   ·rw[e1,ht,jM,eY,c2 p,hm p]
   ·rw[e1,ht,oP, ← hs]
    rw[IT c1 hc (KZ ho) (λp=>by rw[c2 p,eY]) (λp hp hq=>(g2.1 rfl).2 p (eY.1 hq).1 (eY.1 hq).2 hp)]
 ·rw[au (by simpa using c)]
  obtain rfl:i=e.aL.length:=by omega
  rw[List.take_length]at hg hm hs;have hs2:=Lu (lo:=0) hc (λy hy=>(hc.vV y hy).1) (by omega);have h64:bF r.l<=64:=by rw[← vu hc];exact Lt hc 64
  rw[zK (LK (n:=n) (by omega) (by omega) hg.WV (by rw[← hs];omega))];refine⟨_,rfl,?_⟩;by_cases c0:0<=e.ep
  ·have e1:(bif decide (0<=e.ep)==true then bF e.aL else default)=bF e.aL:=by simp[c0]
   rw[e1,bq (by omega) (by omega)];simp only[c0,decide_true,Bool.true_and,decide_eq_true_eq,true_and, ← hs];exact⟨λh=>⟨hg,h64,by omega⟩,λh=>by omega⟩
  ·simp[c0]
end Go.Proofs.Z
namespace Go.Proofs.Z
open Go Go.Bw
def u6(y:Rn):List Int:=(List.range (32*y.N).toNat).map λ(k:Nat)=>32*y.At+(k:Int)
def jQ(l:List Rn):List Int:=l.flatMap u6
theorem tG(y:Rn):(u6 y).length=(32*y.N).toNat:=by simp[u6]
theorem y8(y:Rn)(l:List Rn):jQ (y::l)=u6 y++jQ l:=by simp[jQ]
theorem Bi(l m:List Rn):jQ (l++m)=jQ l++jQ m:=by simp[jQ]
theorem Hu(y:Rn):jQ [y]=u6 y:=by simp[jQ]
theorem tH:∀{l:List Rn},A2 l->((jQ l).length:Int)=32*bF l
 |[],_ =>by simp[jQ,bF]
 |y::r,h=>by have h1:=h y (by simp);have h2:=tH (l:=r) λz hz=>h z (by simp[hz]);rw[y8,List.length_append,tG,gJ];omega
theorem Gi(k:Nat)(f:Nat->Int):(List.range (k+1)).map f=(List.range k).map f++[f k]:=by rw[List.range_succ,List.map_append];rfl
structure Gx(l:List Rn):Prop where
 gd:Ia l
 sum:bF l<=64
theorem Ur:∀{l:List Rn},A2 l->(l.length:Int)<=bF l
 |[],_ =>by simp[bF]
 |y::r,h=>by have h1:=h y (by simp);have h2:=Ur (l:=r) λz hz=>h z (by simp[hz]);rw[gJ,List.length_cons];omega
theorem Gx.len{l:List Rn}(h:Gx l):l.length<=64:=by have:=Ur h.gd.WV;have:=h.sum;omega
theorem Gx.pos{l:List Rn}(h:Gx l):0<=bF l:=vx h.gd.WV
theorem Jf{l:List Rn}{y:Rn}{p:Int}:bZ (l++[y]) p↔bZ l p\/(y.At<=p/\p<y.At+y.N):=by rw[jM,eY]
def ES(y:Rn):List Int:=(List.range y.N.toNat).map λ(k:Nat)=>y.At+(k:Int)
theorem LY{y:Rn}{p:Int}:p∈ES y↔y.At<=p/\p<y.At+y.N:=by
 unfold ES;rw[List.mem_map];constructor
 ·rintro⟨k,hk,rfl⟩
  rw[List.mem_range]at hk;omega
 ·intro h
  exact⟨(p-y.At).toNat,by rw[List.mem_range];omega,by omega⟩
theorem Yk(y:Rn):(ES y).Nodup:=by unfold ES;rw[List.Nodup,List.pairwise_map];exact List.nodup_range.imp λh e=>h (by omega)
theorem Lx{α:Type}{P:List α->Prop}(h0:P [])(h1:∀l y,P l->P (l++[y]))(l:List α):P l:=by
 have key:∀(r:List α),P r.reverse:=by
  intro r
  induction r with
  |nil=>exact h0
  |cons y r ih=>rw[List.reverse_cons];exact h1 _ _ ih
 have:=key l.reverse;rwa[List.reverse_reverse]at this
theorem XZ:∀(l:List Rn),Ia l->∃t:List Int,t.Nodup/\(∀p,p∈t↔bZ l p)/\(t.length:Int)=bF l:=by
 intro l
 induction l using Lx with
 |h0=>intro _;exact⟨[],List.nodup_nil,by simp[bZ],by simp[bF]⟩
 |h1 l y ih=>
  intro h;obtain⟨h1,h2,h3⟩:=yQ.1 h;obtain⟨t,t1,t2,t3⟩:=ih h1;refine⟨t++ES y,List.nodup_append.2 ⟨t1,Yk y,λa ha b hb e=>?_⟩,λp=>?_,?_⟩
  ·subst e
   have:=LY.1 hb;exact h3 _ this.1 this.2 ((t2 _).1 ha)
  ·rw[List.mem_append,t2,LY,Jf]
  ·have:=h2.1
   rw[List.length_append,oP];simp only[ES,List.length_map,List.length_range,bF,List.map_cons,List.map_nil,List.sum_cons,List.sum_nil]at *;omega
theorem Y8{l:List Rn}(h:Ia l):bF l<=64:=by
 obtain⟨t,t1,t2,t3⟩:=XZ l h;have:=vF 64 t1 λp hp=>by obtain⟨y,hy,h1,h2⟩:=(t2 p).1 hp;obtain⟨a,b,c⟩:=h.vV y hy;exact⟨by omega,by omega⟩
 omega
theorem aaH{l:List Rn}(h:Ia l):Gx l:=⟨h,Y8 h⟩
end Go.Proofs.Z
namespace Go.Proofs.Z
open Go Go.Bw
def zC(x a:Int):Int:=(x+a-1)/a*a
def al4(a:Int):Prop:=a=1\/a=2\/a=4\/a=8
theorem mh{s a:Int}:tj s a=true↔(1<=s/\s<=128)/\al4 a:=by unfold tj al4;simp[or_assoc]
theorem BX{x a:Int}(ha:al4 a):x<=zC x a/\zC x a<=x+a-1/\zC x a%a=0/\∀y,x<=y->y<=zC x a->y%a=0->y=zC x a:=by unfold zC;rcases ha with rfl|rfl|rfl|rfl<;>exact⟨by omega,by omega,by omega,λy _ _ _ =>by omega⟩
theorem aem{n:Nat}{x a:Int}(h0:0<=x)(h1:x<=100000)(ha:al4 a):jd n x a=some (zC x a):=by
 unfold jd zC;obtain⟨x,rfl⟩:=Int.eq_ofNat_of_zero_le h0;rcases ha with rfl|rfl|rfl|rfl
 ·have:=zM (x:=x) (m:=0) (by omega) (by omega)
  rw[bq (x:=(x:Int)+1) (by omega) (by omega),bq (x:=(x:Int)+1-1) (by omega) (by omega),show wr .i64 (1-1)=((2^0-1:Nat):Int)by decide,show(x:Int)+1-1=((x:Nat):Int)by omega,this];congr 1
 ·have:=zM (x:=x+1) (m:=1) (by omega) (by omega)
  rw[bq (x:=(x:Int)+2) (by omega) (by omega),bq (x:=(x:Int)+2-1) (by omega) (by omega),show wr .i64 (2-1)=((2^1-1:Nat):Int)by decide,show(x:Int)+2-1=((x+1:Nat):Int)by omega,this];congr 1
 ·have:=zM (x:=x+3) (m:=2) (by omega) (by omega)
  rw[bq (x:=(x:Int)+4) (by omega) (by omega),bq (x:=(x:Int)+4-1) (by omega) (by omega),show wr .i64 (4-1)=((2^2-1:Nat):Int)by decide,show(x:Int)+4-1=((x+3:Nat):Int)by omega,this];congr 1
 ·have:=zM (x:=x+7) (m:=3) (by omega) (by omega)
  rw[bq (x:=(x:Int)+8) (by omega) (by omega),bq (x:=(x:Int)+8-1) (by omega) (by omega),show wr .i64 (8-1)=((2^3-1:Nat):Int)by decide,show(x:Int)+8-1=((x+7:Nat):Int)by omega,this];congr 1
structure pE(e:aD):Prop where
 gx:Gx e.aL
 lo:0<=e.ep
 hi:e.ep<=32*bF e.aL
def eG(e:aD)(s a:Int):Bool:=tj s a&&decide (zC e.ep a+s<=32*bF e.aL)
def Et(e:aD)(s a:Int):Int×Bool:=if eG e s a=true then(zC e.ep a,true)else(0,false)
theorem NB{n:Nat}(hn:110<=n){e:aD}(h:pE e):cR n e=some (bF e.aL):=by have:=h.gx.len;have:=h.gx.sum;exact LK (by omega) (by omega) h.gx.gd.WV (by omega)
theorem Pz{n:Nat}(hn:110<=n){e:aD}(h:pE e)(s a:Int):gj n e s a=some (Et e s a):=by
 unfold gj;have h1:=h.lo;have h2:=h.hi;have h3:=h.gx.sum;have h4:=h.gx.pos;rw[ak (I9 (by omega) s a)];unfold Et eG;cases ho:tj s a with
 |false=>rfl
 |true=>
  obtain⟨⟨o1,o2⟩,o3⟩:=mh.1 ho;obtain⟨u1,u2,_⟩:=BX (x:=e.ep) o3;have ha:a<=8:=by rcases o3 with rfl|rfl|rfl|rfl<;>omega
  rw[au (b:= !true) rfl,ak (aem h1 (by omega) o3),ak (NB hn h),bq (by omega) (by omega),bq (by omega) (by omega)];by_cases c:bF e.aL*32<zC e.ep a+s
  ·rw[aS (by simpa using c),aiH (by simp;omega)]
  ·rw[au (by simpa using c),aiG (by simp;omega)]
theorem XY{n:Nat}(hn:110<=n){e:aD}(h:pE e)(s a:Int):gL n e s a=some (if eG e s a=true then(⟨e.aL,zC e.ep a+s⟩,zC e.ep a,true)else(e,0,false)):=by
 unfold gL;rw[ak (Pz hn h s a)];unfold Et;have h1:=h.lo;have h2:=h.hi;have h3:=h.gx.sum;have h4:=h.gx.pos;cases hf:eG e s a with
 |false=>rfl
 |true=>have UP:=hf;unfold eG at hf;rw[aiJ,decide_eq_true_iff,mh]at hf;obtain⟨⟨⟨o1,o2⟩,o3⟩,o4⟩:=hf;obtain⟨u1,u2,_⟩:=BX (x:=e.ep) o3;rw[aiG rfl,aiG rfl,aS rfl,aK];dsimp only;rw[bq (by omega) (by omega)]
def plV(l:List Rn)(b at_:Int):Int×Bool:=if b<=at_/\at_<b+32*bF l then((jQ l).getD (at_-b).toNat 0,true)else(0,false)
theorem GU{α:Type}(l m:List α)(i:Nat)(d:α)(h:i<l.length):(l++m).getD i d=l.getD i d:=by rw[List.getD,List.getD,List.getElem?_append_left h]
theorem GR{α:Type}(l m:List α)(i:Nat)(d:α)(h:l.length<=i):(l++m).getD i d=m.getD (i-l.length) d:=by rw[List.getD,List.getD,List.getElem?_append_right h]
theorem Ht(y:Rn){i:Nat}(h:i<(32*y.N).toNat):(u6 y).getD i 0=32*y.At+i:=by unfold u6;rw[List.getD,List.getElem?_map,List.getElem?_range h];rfl
theorem TX{at_:Int}(ha:R6 at_):∀(l:List Rn) (b:Int),(∀y∈l,Ir y.At y.N)->0<=b->b+32*bF l<=100000->
  xF (λ(PN:Int×av) k28 (u27:Unit)=>lt (PN.1:Int) λcI=>lt (PN.2:av) λfV=>cn ((decide (cI<=at_)&&decide (at_<(wr .i64 (cI+(wr .i64 (fV.N*32))))))) (lt (wr .i64 ((wr .i64 ((wr .i64 (fV.At*32))+at_))-cI):Int) λdL=>some (dL,true)) (k28 ())) (λ(u27:Unit)=>some (0,false)) (PY b l) ()=some (plV l b at_):=by
 intro l
 induction l with
 |nil=>intro b _ _ _;show some ((0:Int),false)=_;unfold plV;rw[aiH];simp only[bF,List.map_nil,List.sum_nil];omega
 |cons y r ih=>
  intro b h0 h1 h2;have hy:=h0 y (by simp);have hr:A2 r:=λz hz=>(h0 z (by simp[hz])).1;have hr0:=vx hr;have hbl:=tG y;rw[gJ]at h2;obtain⟨y1,y2,y3⟩:=hy;rw[PY];simp only[xF,aK];rw[bq (x:=y.N*32) (by omega) (by omega),bq (x:=b+y.N*32) (by omega) (by omega)];by_cases c:b<=at_/\at_<b+y.N*32
  ·rw[aS (by simpa using c),bq (x:=y.At*32) (by omega) (by omega),bq (x:=y.At*32+at_) (by omega) (by omega),bq (by omega) (by omega)]
   unfold plV;rw[aiG (by rw[gJ];omega),y8,GU _ _ _ _ (by rw[tG];omega),Ht y (by omega)];congr 2;omega
  ·rw[au (by simpa using c)]
   refine(ih (b+32*y.N) (λz hz=>h0 z (by simp[hz])) (by omega) (by omega)).trans ?_;unfold plV;by_cases d:b+32*y.N<=at_/\at_<b+32*y.N+32*bF r
   ·rw[aiG d,aiG (by rw[gJ];omega),y8,GR _ _ _ _ (by rw[tG];omega),tG]
    congr 3;omega
   ·rw[aiH d,aiH (by rw[gJ];omega)]
theorem TY{n:Nat}(hn:110<=n){e:aD}(h:pE e){at_:Int}(ha:R6 at_):jF n e at_=some (plV e.aL 0 at_):=by unfold jF;have:=h.gx.len;have:=h.gx.sum;rw[ak (show gD n e=some e from rfl),ak (Jv (by omega) (by omega) h.gx.gd.WV (by omega))];exact TX ha e.aL 0 h.gx.gd.vV (by omega) (by omega)
theorem YX{n:Nat}(hn:110<=n){e:aD}(h:pE e)(r:Rn):fj n e r=some ⟨e.aL++[r],32*bF e.aL⟩:=by unfold fj;have:=h.gx.len;have:=h.gx.sum;have:=h.gx.pos;rw[bj (jt (by omega) (by omega)),aK,ak (NB hn h),aK,bq (by omega) (by omega),Int.mul_comm]
end Go.Proofs.Z
namespace Go.Proofs.Z
open Go Go.Bw
theorem Gu{y:Rn}{q:Int}:q∈u6 y↔32*y.At<=q/\q<32*y.At+32*y.N:=by
 unfold u6;rw[List.mem_map];constructor
 ·rintro⟨k,hk,rfl⟩
  rw[List.mem_range]at hk;omega
 ·intro h
  exact⟨(q-32*y.At).toNat,by rw[List.mem_range];omega,by omega⟩
theorem Gv{l:List Rn}{q:Int}:q∈jQ l↔bZ l (q/32):=by unfold jQ bZ;rw[List.mem_flatMap];refine exists_congr λ_=>and_congr_right λ_ =>?_;rw[Gu];omega
theorem Ry:∀(l:List Rn),Ia l->(jQ l).Nodup:=by
 intro l
 induction l using Lx with
 |h0=>intro _;exact List.nodup_nil
 |h1 l y ih=>
  intro h;obtain⟨h1,h2,h3⟩:=yQ.1 h;rw[Bi,Hu,List.nodup_append];refine⟨ih h1,?_,λa ha b hb e=>?_⟩
  ·unfold u6
   rw[List.Nodup,List.pairwise_map];exact List.nodup_range.imp λh e=>h (by omega)
  ·subst e
   have:=Gu.1 hb;exact h3 (a/32) (by omega) (by omega) (Gv.1 ha)
def dO(l:List Rn)(a:Int):Int:=(jQ l).getD a.toNat 0
theorem Oo{l:List Rn}(h:Ia l){a b:Int}(ha:0<=a/\a<32*bF l)(hb:0<=b/\b<32*bF l)(e:dO l a=dO l b):a=b:=by
 have hl:=tH h.WV;have h1:a.toNat<(jQ l).length:=by omega
 have h2:b.toNat<(jQ l).length:=by omega
 unfold dO at e;rw[List.getD,List.getD,aiP h1,aiP h2]at e;have:=(List.getElem_inj (Ry l h)).1 e;omega
theorem Oq{l m:List Rn}(h:Ia l){a:Int}(ha:0<=a/\a<32*bF l):dO (l++m) a=dO l a:=by have hl:=tH h.WV;unfold dO;rw[Bi,GU _ _ _ _ (by omega)]
theorem Jg{n:Nat}(hn:110<=n){e:aD}(h:pE e):fN n e=some true:=by
 have:=h.gx.len;obtain⟨b,h1,h2⟩:=Ui (n:=n) hn (e:=e) (by omega) (λy hy=>by
  obtain⟨a,b,c⟩:=h.gx.gd.vV y hy;exact⟨⟨by omega,by omega⟩,⟨by omega,by omega⟩⟩)
 rw[h1,h2.2 ⟨h.gx.gd,h.gx.sum,h.lo,h.hi⟩]
theorem Jh{e:aD}(h:pE e){a k:Int}(ho:Ir a k)(hf:∀p,a<=p->p<a+k->¬bZ e.aL p):pE ⟨e.aL++[⟨a,k⟩],32*bF e.aL⟩:=by have hg:Ia (e.aL++[⟨a,k⟩]):=yQ.2 ⟨h.gx.gd,ho,hf⟩;have:=h.gx.pos;obtain⟨o1,o2,o3⟩:=ho;refine⟨aaH hg,by dsimp only;omega,?_⟩;dsimp only;rw[oP,wm];omega
end Go.Proofs.Z
namespace Go.Proofs.Z
open Go Go.Bw
theorem Dn{α:Type}(f:Nat->α)(i:Nat):iC f i (f i)=f:=by
 funext j;unfold iC;split
 ·next h=>rw[h]
 ·rfl
def OD(M:ai):Prop:=∀i:Nat,i<32->(M.bw i).EX=0/\(M.bw i).n=0
theorem O4{n:Nat}(hn:1<=n){l:cj}(h:l.n=0)(t:Int):kR n l t=some (-1):=by obtain⟨m,rfl⟩:∃m,n=m+1:=⟨n-1,by omega⟩;unfold kR;rw[h];rfl
theorem IP{n:Nat}(hn:1<=n){l:cj}(h:l.n=0)(t:Int):ja n l t=some l:=by unfold ja;rw[ak (O4 hn h t)];rfl
theorem NK{n:Nat}{i t:Int}(h0:0<=i)(h1:i<32)(t0:0<=t)(t1:t<8):vH n i t=some true:=by unfold vH;simp[h0,h1,t0,t1]
def uV(M:ai)(k:Nat)(t:Int):ai:=⟨iC M.bw k {(M.bw k)with EX:=t+1}⟩
theorem aeq{n:Nat}(hn:1<=n){M:ai}(hM:OD M){k:Nat}(hk:k<32){t:Int}(t0:0<=t)(t1:t<8):
  pb n M k t=some (uV M k t,true):=by
 obtain⟨a,b⟩:=hM k hk;unfold pb;rw[ak (NK (by omega) (by omega) t0 t1),au (b:= !true) rfl,bj (fP (by omega) (by omega)),aK,aiL,ak (O4 hn b t)];rw[au (by rw[a,bq (x:=0) (by omega) (by omega),bq (x:=t+1) (by omega) (by omega)];simp;omega),aS (by rw[a,b];rfl),ak (IP hn b t),aK,aK,aK];refine congrArg (λm=>some (m,true)) ?_;unfold uV;refine congrArg ai.mk ?_;dsimp only;rw[Nh,Dn,bq (x:=t+1) (by omega) (by omega),ag6 (by omega) (by omega)]
def uz(M:ai)(t:Int)(c:Nat):ai:=⟨λj=>if j<c/\(M.bw j).EX=t+1 then{(M.bw j)with EX:=0}else M.bw j⟩
theorem UZ(M:ai)(t:Int)(c:Nat):(uz M t c).bw c=M.bw c:=by unfold uz;dsimp only;rw[aiH (by omega)]
theorem YY(M:ai)(t:Int)(c j:Nat):((uz M t c).bw j).n=(M.bw j).n:=by unfold uz;dsimp only;split<;>rfl
theorem acz{n:Nat}{M:ai}{c:Nat}(hc:c<32){t:Int}(t0:0<=t)(t1:t<8)(hb:0<=(M.bw c).EX/\(M.bw c).EX<=255):
  nK n (uz M t c) c t=some (uz M t (c+1)):=by
 unfold nK;rw[aK,ak (NK (by omega) (by omega) t0 t1),aiL,UZ,bj (by rw[fP (by omega) (by omega)];rfl),bq (x:=(M.bw c).EX) (by omega) (by omega),bq (x:=t+1) (by omega) (by omega)];by_cases h:(M.bw c).EX=t+1
 ·rw[aS (by simpa using h),bj (fP (by omega) (by omega)),aK]
  show some _ =some _;refine congrArg some ?_;unfold uz;refine congrArg ai.mk ?_;funext j;unfold iC;dsimp only;by_cases hj:j=c
  ·subst hj
   rw[aiG rfl,aiG ⟨by omega,h⟩]
  ·rw[aiH hj]
   by_cases hl:j<c
   ·by_cases hh:(M.bw j).EX=t+1
    ·rw[aiG ⟨hl,hh⟩,aiG ⟨by omega,hh⟩]
    ·rw[aiH (λq=>hh q.2),aiH (λq=>hh q.2)]
   ·rw[aiH (by omega),aiH (by omega)]
 ·rw[au (by simpa using h)]
  show some _ =some _;refine congrArg some ?_;unfold uz;refine congrArg ai.mk ?_;funext j;by_cases hj:j=c
  ·subst hj
   rw[aiH (by omega),aiH (λq=>h q.2)]
  ·by_cases hl:j<c
   ·by_cases hh:(M.bw j).EX=t+1
    ·rw[aiG ⟨hl,hh⟩,aiG ⟨by omega,hh⟩]
    ·rw[aiH (λq=>hh q.2),aiH (λq=>hh q.2)]
   ·rw[aiH (by omega),aiH (by omega)]
theorem U0{n:Nat}(hn:40<=n){M:ai}{t:Int}(t0:0<=t)(t1:t<8)(hb:∀j,j<32->(M.bw j).n=0/\0<=(M.bw j).EX/\(M.bw j).EX<=255):
  cZ n M t=some (uz M t 32):=by
 unfold cZ;refine vJ (λ(i:Int) (m:ai)=>∃c:Nat,i=(c:Int)/\c<=32/\m=uz M t c) (λi _ =>(32-i).toNat) (λo=>o=some (uz M t 32)) ?_ n 0 M ⟨0,rfl,by omega,?_⟩ (by omega)
 ·rintro kk i m ⟨c,rfl,hc,rfl⟩ ih
  by_cases h:c<32
  ·obtain⟨h1,h2⟩:=hb c h
   rw[aS (by simp;omega),aK,ak (acz h t0 t1 h2),aK,ak (NK (by omega) (by omega) t0 t1),aS (by rfl),bj (fP (by omega) (by omega)),aiL,ak (IP (by omega) (by rw[YY];exact h1) t),bj (fP (by omega) (by omega)),Dn,aK,bq (by omega) (by omega)];exact ih _ _ ⟨c+1,by omega,by omega,rfl⟩ (by omega)
  ·obtain rfl:c=32:=by omega
   rw[au (by simp),aK]
 ·unfold uz
  cases M;refine congrArg ai.mk ?_;funext j;rw[aiH (by omega)]
theorem Pu{n:Nat}(hn:40<=n){M:ai}(hM:OD M){t:Int}(t0:0<=t)(t1:t<8):cZ n M t=some M:=by
 rw[U0 hn t0 t1 λj hj=>⟨(hM j hj).2,by rw[(hM j hj).1];omega⟩];refine congrArg some ?_;unfold uz;cases M with|mk s=>
 refine congrArg ai.mk ?_;funext j;rw[aiH];rintro⟨h1,h2⟩;have:=(hM j h1).1;dsimp only at this h2;omega
theorem DE{n:Nat}(hn:40<=n){M:ai}(hM:OD M){k:Nat}(hk:k<32){t:Int}(t0:0<=t)(t1:t<8):cZ n (uV M k t) t=some M:=by
 rw[U0 hn t0 t1 λj hj=>by
  unfold uV iC;dsimp only;split
  ·next h=>subst h;exact⟨(hM j hj).2,by show 0<=t+1;omega,by show t+1<=255;omega⟩
  ·exact⟨(hM j hj).2,by rw[(hM j hj).1];omega⟩]
 refine congrArg some ?_;unfold uz uV;cases M with|mk s=>
 refine congrArg ai.mk ?_;funext j;dsimp only;by_cases h:j=k
 ·subst h
  have hz:=(hM j hk).1;dsimp only at hz;have e1:iC s j {s j with EX:=t+1} j={s j with EX:=t+1}:=Nh _ _ _;simp only[e1];rw[aiG (by simp[hk])];generalize s j=y at hz;cases y;dsimp only at hz;subst hz;rfl
 ·have e1:iC s k {s k with EX:=t+1} j=s j:=SJ _ _ h
  simp only[e1];rw[aiH];rintro⟨h1,h2⟩;have:=(hM j h1).1;dsimp only at this;omega
theorem aby{n:Nat}(hn:1<=n)(S:ae)(P:aj)(M:ai)(Q:List Int){r:av}(h:r.N<=0):fe n S P M Q r=some (S,P,M,Q):=by obtain⟨m,rfl⟩:∃m,n=m+1:=⟨n-1,by omega⟩;unfold fe;simp only[xm];rw[au (by simp;omega)]
theorem af6{n:Nat}(hn:40<=n)(S:ae)(P:aj)(M:ai)(Q:List Int){c:aF}(h:c.xV.N<=0){M':ai}(hg:cZ n M c.jW=some M'):kY n S P M Q c=some (S,P,M',Q):=by unfold kY;rw[ak (aby (by omega) S P M Q h),ak hg,aK]
theorem Oe{n:Nat}(hn:40<=n)(S:ae)(P:aj)(M:ai)(Q:List Int){c:aF}(r0:ah)(b0:Bool)(r:ah)(h:c.xV.N<=0){M':ai}(hg:cZ n M c.jW=some M'):eR n S P M Q c r0 b0 r=some (S,P,M',Q,c,r,true):=by unfold eR;rw[aK,ak (af6 hn S P M Q h hg)]
end Go.Proofs.Z
namespace Go.Proofs.Z
open Go Go.Bw
abbrev EF(t:Int)(c:aC)(l:List Int)(r:av)(j:Int):aF:=⟨t,c,true,l,r,j⟩
def nq(n:Nat)(a1:aC):(ah->ae->aj->ai->List Int->Int->aF->Option (ah×ae×aj×ai×(List Int)×Int))->ah->ae->aj->ai->List Int->Int->aF->Option (ah×ae×aj×ai×(List Int)×Int):=λYE (aR:ah) (bS:ae) (cE:aj) (dU:ai) (eM:(List Int)) (dB:Int) (eS:aF)=>cl (((!eS.Checked)==true)) (pT n bS dB a1) default λeo=>cn (((!eS.Checked)&&eo)) (cn ((a1.Do==15)) (lt (({ay with E:=10}:ah):ah) λdP=>some (dP,bS,cE,dU,eM,dB)) (lt (({ay with E:=12}:ah):ah) λjk=>some (jk,bS,cE,dU,eM,dB))) (bd (cO n bS cE dU eM eS) λeU=>lt (eU.1:aF) λcI=>lt (eU.2.1:ah) λfV=>cn (eU.2.2.1) (lt (fV:ah) λjS=>some (jS,eU.2.2.2.1,eU.2.2.2.2.1,eU.2.2.2.2.2.1,eU.2.2.2.2.2.2,dB)) (cn (((eS.Checked&&((cI.eu.length:Int)==(eS.eu.length:Int)))&&(decide (0<(eS.eu.length:Int))))) (bd (kY n eU.2.2.2.1 eU.2.2.2.2.1 eU.2.2.2.2.2.1 eU.2.2.2.2.2.2 eS) λdL=>lt (({ay with E:=12}:ah):ah) λjU=>some (jU,dL.1,dL.2.1,dL.2.2.1,dL.2.2.2,dB)) (lt (cI:aF) λgA=>YE aR eU.2.2.2.1 eU.2.2.2.2.1 eU.2.2.2.2.2.1 eU.2.2.2.2.2.2 dB gA)))
theorem Kl(n:Nat)(S:ae)(P:aj)(M:ai)(Q:List Int)(t:Int)(c:aC):ef n S P M Q t c=vI (nq n c) n ay S P M Q t ⟨t,c,false,[],aB,0⟩:=rfl
section
variable {n:Nat} {S S':ae} {P P':aj} {M M':ai} {Q Q':List Int} {t:Int} {c:aC} {u u':aF} {r:ah}
theorem Fp(hd:c.Do≠15):pT n S t c=some false:=by
 have hb:(c.Do==15)=false:=by simpa using hd
 unfold pT;rw[tD (by rw[hb];rfl),hb];rfl
theorem zH(hd:c.Do≠15)(hs:cO n S P M Q u=some (u',r,true,S',P',M',Q')){kk}{x:ah}:nq n c kk x S P M Q t u=some (r,S',P',M',Q',t):=by unfold nq;rw[zK (Fp hd),au (by cases u.Checked<;>rfl),ak hs];rfl
theorem tg(hd:c.Do≠15)(hs:cO n S P M Q u=some (u',r,false,S',P',M',Q'))(hl:u.Checked=true->u.eu.length=0\/u'.eu.length≠u.eu.length){kk}{x:ah}:nq n c kk x S P M Q t u=kk x S' P' M' Q' t u':=by
 unfold nq;rw[zK (Fp hd),au (by cases u.Checked<;>rfl),ak hs,aK,aK,au (by rfl),au]
 ·rfl
 ·cases hc:u.Checked with
  |false=>rfl
  |true=>
   dsimp only;rcases hl hc with h|h
   ·rw[h];simp
   ·rw[Bool.true_and,show((u'.eu.length:Int)==(u.eu.length:Int))=false by simp;omega];rfl
theorem SW{b:Bool}(h:eC n S P M Q u ay false=some (true,S',P',M',Q',u',r,b)):cO n S P M Q u=some (u',r,b,S',P',M',Q'):=by unfold cO;rw[aK,ak h];rfl
theorem FG(hu:u.Checked=true){x:ah}{b:Bool}:eC n S P M Q u x b=some (false,S,P,M,Q,u,x,b):=by unfold eC;rw[aS hu]
theorem aev{b:Bool}(hu:u.Checked=true)(h:fk n S P M Q u ay false=some (true,S',P',M',Q',u',r,b)):cO n S P M Q u=some (u',r,b,S',P',M',Q'):=by unfold cO;rw[aK,ak (FG hu),au (by rfl),ak h];rfl
theorem NM(hu:u.eu=[]){x:ah}{b:Bool}:fk n S P M Q u x b=some (false,S,P,M,Q,u,x,b):=by unfold fk;rw[hu];rfl
theorem aak{b:Bool}(hu:u.Checked=true)(hr:u.eu=[])(h:bY n S P M Q u ay false=some (true,S',P',M',Q',u',r,b)):cO n S P M Q u=some (u',r,b,S',P',M',Q'):=by unfold cO;rw[aK,ak (FG hu),au (by rfl),ak (NM hr),au (by rfl),ak h];rfl
theorem aeu{b:Bool}(hu:u.Checked=true)(hr:u.eu=[])(hc:bY n S P M Q u ay false=some (false,S,P,M,Q,u,ay,false))(h:eK n S P M Q u ay false=some (true,S',P',M',Q',u',r,b)):cO n S P M Q u=some (u',r,b,S',P',M',Q'):=by unfold cO;rw[aK,ak (FG hu),au (by rfl),ak (NM hr),au (by rfl),ak hc,au (by rfl),ak h];rfl
theorem aaj{b:Bool}(hu:u.Checked=true)(hr:u.eu=[])(hc:bY n S P M Q u ay false=some (false,S,P,M,Q,u,ay,false))(hl:u.xV.N<=u.qj)(h:cu n S P M Q u ay false=some (true,S',P',M',Q',u',r,b)):cO n S P M Q u=some (u',r,b,S',P',M',Q'):=by unfold cO;rw[aK,ak (FG hu),au (by rfl),ak (NM hr),au (by rfl),ak hc,au (by rfl)];rw[ak (show eK n S P M Q u ay false=some (false,S,P,M,Q,u,ay,false)by unfold eK;rw[aS (by simpa using hl)]),au (by rfl),ak h];rfl
theorem Gp(hn:40<=n)(hd:c.Do≠15)(hM:OD M)(t0:0<=t)(t1:t<8){e:Int}(he:fY n S t c=some e)(h0:e≠0):ef n S P M Q t c=some (⟨e,0,0⟩,S,P,M,Q,t):=by obtain⟨m,rfl⟩:∃m,n=m+1:=⟨n-1,by omega⟩;rw[Kl];show nq (m+1) c _ _ _ _ _ _ _ _ =_;refine zH hd (u':=⟨t,c,false,[],aB,0⟩) (SW ?_);unfold eC;rw[au (by rfl),ak (Fp hd),au (by rfl),ak he,aS (by simpa using h0),ak (Oe hn S P M Q _ _ _ (by show(0:Int)<=0;omega) (Pu hn hM t0 t1))]
theorem MA(hd:c.Do≠15)(he:fY n S t c=some 0){l:List Int}(hr:kx n S c=some l):eC n S P M Q ⟨t,c,false,[],aB,0⟩ ay false=some (true,S,P,M,Q,EF t c l aB 0,ay,false):=by unfold eC;rw[au (by rfl),ak (Fp hd),au (by rfl),ak he,au (by rfl),ak hr];rfl
theorem T5(hd:c.Do≠15)(he:fY (n+1) S t c=some 0)(hr:kx (n+1) S c=some []):ef (n+1) S P M Q t c=vI (nq (n+1) c) n ay S P M Q t (EF t c [] aB 0):=by rw[Kl];show nq (n+1) c _ _ _ _ _ _ _ _ =_;rw[tg hd (SW (MA hd he hr)) (λh=>by cases h)]
theorem yG(hd:c.Do≠15)(hM:OD M)(t0:0<=t)(t1:t<8)(he:fY (n+2) S t c=some 0){h:Int}(hr:kx (n+2) S c=some [h]){k:Nat}(hk:k<32)(hs:bp (n+2) h=some ((k:Int),true)):ef (n+2) S P M Q t c=vI (nq (n+2) c) n ay S P (uV M k t) Q t (EF t c [] aB 0):=by
 rw[Kl];show nq (n+2) c _ _ _ _ _ _ _ _ =_;rw[tg hd (SW (MA hd he hr)) (λh=>by cases h)];show nq (n+2) c _ _ _ _ _ _ _ _ =_;have hm:fk (n+2) S P M Q (EF t c [h] aB 0) ay false=some (true,S,P,uV M k t,Q,EF t c [] aB 0,ay,false):=by unfold fk;rw[au (by rfl),bj (by rfl),ak (show bp (n+2) (List.getD (EF t c [h] aB 0).eu (Int.toNat 0) default)=some ((k:Int),true)from hs),ak (aeq (by omega) hM hk t0 t1)];rfl
 rw[tg hd (aev rfl hm) (λ_ => .inr (by simp))]
end
theorem Tz{n:Nat}(hn:110<=n)(S:ae)(P:aj)(M:ai)(Q:List Int)(hQ:Q.length<=10000){r:Rn}(ho:Ir r.At r.N):fe n S P M Q r=some (S,P,M,Q++ES r):=by
 obtain⟨o1,o2,o3⟩:=ho;unfold fe;refine Jk (λ(i:Int) (s:ae) (p:aj) (m:ai) (q:List Int)=>∃j:Nat,i=(j:Int)/\(j:Int)<=r.N/\s=S/\p=P/\m=M/\q=Q++(List.range j).map λ(k:Nat)=>r.At+(k:Int)) (λi _ _ _ _ =>(r.N-i).toNat) (λo=>o=some (S,P,M,Q++ES r)) ?_ n 0 S P M Q ⟨0,rfl,by omega,rfl,rfl,rfl,by simp⟩ (by omega);rintro kk i s p m q ⟨j,rfl,hj,rfl,rfl,rfl,rfl⟩ ih;by_cases h:(j:Int)<r.N
 ·rw[aS (by simpa using h),bj (jt (by simp;omega) (by simp;omega)),aK,bq (x:=r.At+j) (by omega) (by omega),bq (by omega) (by omega)]
  refine ih _ _ _ _ _ ⟨j+1,by omega,by omega,rfl,rfl,rfl,?_⟩ (by omega);rw[Gi,List.append_assoc]
 ·rw[au (by simpa using h)]
  unfold ES;rw[show r.N.toNat=j by omega]
end Go.Proofs.Z
namespace Go.Proofs.Z
open Go Go.Bw
theorem aeo(x:Int):0<=wr .u8 x/\wr .u8 x<=255:=by
 have h:wr .u8 x=x%256:=by simp[wr,IntKind.wrap,IntKind.signed,IntKind.bits]
 rw[h];omega
structure H9(P:aj):Prop where
 P9:qb P.dV.l
 n1:P.n<=64
 fr:∀p,bZ P.dV.l p->p<P.n
 bt:∀i j,0<=P.bytes i j/\P.bytes i j<=255
def gS(P:aj)(p:Int):Prop:=0<=p/\p<P.n/\¬bZ P.dV.l p
def FH(P:aj)(a:Int):Int:=P.bytes (a/32).toNat (a%32).toNat
def wrP(P:aj)(a v:Int):aj:={P with bytes:=iC P.bytes (a/32).toNat (iC (P.bytes (a/32).toNat) (a%32).toNat v)}
theorem Qa{P:aj}(h:H9 P)(a:Int):0<=FH P a/\FH P a<=255:=h.bt _ _
theorem aa1{P:aj}{a b v:Int}(ha:0<=a)(hb:0<=b):FH (wrP P a v) b=if b=a then v else FH P b:=by
 unfold FH wrP iC;dsimp only;by_cases h:b=a
 ·subst h;rw[aiG rfl,aiG rfl,aiG rfl]
 ·rw[aiH h]
  by_cases h1:(b/32).toNat=(a/32).toNat
  ·rw[aiG h1,aiH (by omega),h1]
  ·rw[aiH h1]
theorem aa0{P:aj}(h:H9 P)(a:Int){v:Int}(hv:0<=v/\v<=255):H9 (wrP P a v):=
 ⟨h.P9,h.n1,h.fr,λi j=>by
  unfold wrP iC;dsimp only;by_cases h1:i=(a/32).toNat
  ·rw[aiG h1];by_cases h2:j=(a%32).toNat
   ·rw[aiG h2];exact hv
   ·rw[aiH h2];exact h.bt _ _
  ·rw[aiH h1];exact h.bt _ _⟩
theorem KJ{n:Nat}(hn:110<=n){P:aj}(h:H9 P){p:Int}(hp:gS P p):gX n P.dV p=some false:=by
 obtain⟨p0,p1,p2⟩:=hp;have:=h.n1;obtain⟨b,e,hb⟩:=acs hn h.P9 (p:=p) ⟨by omega,by omega⟩;rw[e];cases b with
 |false=>rfl
 |true=>exact absurd (hb.1 rfl) p2
theorem abx{n:Nat}(hn:110<=n){P:aj}(h:H9 P){a:Int}(ha:0<=a)(hl:gS P (a/32)):l7 n P a=some (FH P a,0):=by
 have:=h.n1;obtain⟨p0,p1,p2⟩:=hl;have e1:wr .i64 (Int.tdiv a 32)=a/32:=by rw[Ge ha,bq (by omega) (by omega)]
 have e2:Int.tmod a 32=a%32:=Ls ha;unfold l7;rw[e1,e2,au (by simp;omega),au (by simp;omega),ak (KJ hn h ⟨p0,p1,p2⟩),au (by rfl),bj (fP (by omega) (by omega)),bj (fP (by omega) (by omega))];rfl
theorem Xo{n:Nat}(hn:110<=n){P:aj}(h:H9 P){a:Int}(ha:0<=a)(hl:gS P (a/32))(v:Int):kN n P a v=some (0,wrP P a v):=by
 have:=h.n1;obtain⟨p0,p1,p2⟩:=hl;have e1:wr .i64 (Int.tdiv a 32)=a/32:=by rw[Ge ha,bq (by omega) (by omega)]
 have e2:Int.tmod a 32=a%32:=Ls ha;unfold kN;rw[e1,e2,au (by simp;omega),au (by simp;omega),ak (KJ hn h ⟨p0,p1,p2⟩),au (by rfl),bj (fP (by omega) (by omega)),bj (fP (by omega) (by omega))];rfl
def Is(f:Nat->Int):Nat->Int
 |0=>0
 |k+1=>Is f k+f k*256^k
theorem KB{f:Nat->Int}{k:Nat}(hf:∀i,i<k->0<=f i/\f i<=255):0<=Is f k/\Is f k<256^k:=by
 induction k with
 |zero=>simp[Is]
 |succ k ih=>
  obtain⟨a,b⟩:=ih λi hi=>hf i (by omega);obtain⟨c,d⟩:=hf k (by omega);have hp:(0:Int)<256^k:=Int.pow_pos (by omega);have h1:f k*256^k<=255*256^k:=Int.mul_le_mul_of_nonneg_right d (by omega);have h2:0<=f k*256^k:=Int.mul_nonneg c (by omega);have h3:(256:Int)^(k+1)=256*256^k:=by rw[Int.pow_succ,Int.mul_comm]
  unfold Is;rw[h3];omega
theorem oq{f g:Nat->Int}{k:Nat}(h:∀i,i<k->f i=g i):Is f k=Is g k:=by
 induction k with
 |zero=>rfl
 |succ k ih=>unfold Is;rw[ih λi hi=>h i (by omega),h k (by omega)]
theorem Us(f:Nat->Int)(k:Nat):Is f (k+1)=Is f k+f k*256^k:=rfl
theorem aeQ(k:Nat):(256:Int)^k=((2^(8*k):Nat):Int):=by rw[Nat.pow_mul,Int.natCast_pow];rfl
theorem X8{k:Nat}(hk:k<=8):(256:Int)^k<=18446744073709551616:=by have h:(256:Nat)^k<=256^8:=Nat.pow_le_pow_right (by omega) hk;have e:(256:Int)^k=((256^k:Nat):Int):=(Int.natCast_pow 256 k).symm;rw[e];exact Int.ofNat_le.2 (Nat.le_trans h (by decide))
theorem abU{f:Nat->Int}{k:Nat}(hk:k<8)(hf:∀i,i<k+1->0<=f i/\f i<=255):orI .u64 (Is f k) (J9 .u64 (wr .u64 (f k)) (wr .i64 (8*(k:Int))))=Is f (k+1):=by
 obtain⟨a,b⟩:=KB (f:=f) (k:=k) λi hi=>hf i (by omega);obtain⟨a',b'⟩:=KB (f:=f) (k:=k+1) hf;obtain⟨c,d⟩:=hf k (by omega);have hp:=aeQ k;have hp1:=X8 (k:=k+1) (by omega);rw[ru c (by omega),bq (by omega) (by omega),Tj (8*k) (by omega) (by show 8*k<=64;omega)];have h2:0<=f k*256^k:=Int.mul_nonneg c (by rw[hp];omega);rw[Us]at a' b';rw[← hp,ru h2 (by omega),Us];obtain⟨x,hx⟩:=Int.eq_ofNat_of_zero_le a;obtain⟨y,hy⟩:=Int.eq_ofNat_of_zero_le c;have hz:f k*256^k=((2^(8*k)*y:Nat):Int):=by rw[hy,hp,Int.natCast_mul];exact Int.mul_comm _ _
 have sA:x<2^(8*k):=by rw[hx,hp]at b;exact Int.ofNat_lt.1 b
 rw[hz,hx]at b' ⊢;generalize hw:2^(8*k)*y=w at *;rw[X9 (k:= .u64) (by show x<2^64;omega) (by show w<2^64;omega),Nat.or_comm, ← hw, ← Nat.two_pow_add_eq_or_of_lt sA,hw];omega
theorem aeL{n:Nat}(hn:110<=n){P:aj}(h:H9 P){pl:List Int}(hl:pl.length<=8)(hp:∀i,i<pl.length->0<=pl.getD i default/\gS P (pl.getD i default/32)){ρ:Type}(F:ah->Option ρ):
  eP (λk67 (ve:Int) (Se:ah)=>cn (decide (ve<(pl.length:Int))) (gu (dk ve pl.length)<|bd (l7 n P (pl.getD (Int.toNat ve) default)) λJL=>gu (decide (0<=wr .i64 (8*ve)))<|lt (({Se with V:=orI .u64 Se.V (J9 .u64 (wr .u64 JL.1) (wr .i64 (8*ve)))}:ah):ah) λIg=>k67 (wr .i64 (ve+1)) Ig) (F Se)) n 0 ⟨0,0,0⟩=F ⟨0,Is (λi=>FH P (pl.getD i default)) pl.length,0⟩:=by
 refine vJ (λ(i:Int) (r:ah)=>∃j:Nat,i=(j:Int)/\j<=pl.length/\r=⟨0,Is (λi=>FH P (pl.getD i default)) j,0⟩) (λi _ =>((pl.length:Int)-i).toNat) (λo=>o=F ⟨0,Is (λi=>FH P (pl.getD i default)) pl.length,0⟩) ?_ n 0 _ ⟨0,rfl,by omega,rfl⟩ (by omega);rintro kk i r ⟨j,rfl,hj,rfl⟩ ih;by_cases hc:j<pl.length
 ·obtain⟨p0,p1⟩:=hp j hc
  rw[aS (by simpa using hc),bj (fP (by omega) (by omega)),aiL,ak (abx hn h p0 p1),bj (by rw[bq (by omega) (by omega)];simp;omega),aK,bq (x:=(j:Int)+1) (by omega) (by omega)];refine ih _ _ ⟨j+1,by omega,by omega,?_⟩ (by omega);dsimp only;rw[abU (f:=λi=>FH P (pl.getD i default)) (by omega) λi _ =>Qa h _]
 ·obtain rfl:j=pl.length:=by omega
  rw[au (by simp)]
def Lo(P:aj)(f v:Nat->Int):Nat->aj
 |0=>P
 |k+1=>wrP (Lo P f v k) (f k) (v k)
theorem FW(P:aj)(f v:Nat->Int)(k:Nat):(Lo P f v k).dV=P.dV/\(Lo P f v k).n=P.n:=by
 induction k with
 |zero=>exact⟨rfl,rfl⟩
 |succ k ih=>exact ih
theorem Sm{P:aj}(h:H9 P){f v:Nat->Int}{k:Nat}(hv:∀i,i<k->0<=v i/\v i<=255):H9 (Lo P f v k):=by
 induction k with
 |zero=>exact h
 |succ k ih=>exact aa0 (ih λi hi=>hv i (by omega)) _ (hv k (by omega))
theorem So{P:aj}{f v:Nat->Int}{k:Nat}{p:Int}(h:gS P p):gS (Lo P f v k) p:=by unfold gS at h ⊢;rw[(FW P f v k).1,(FW P f v k).2];exact h
theorem aa2{P:aj}{f v:Nat->Int}{k:Nat}(hf:∀i,i<k->0<=f i){b:Int}(hb:0<=b)(hi:∀i j,i<k->j<k->f i=f j->i=j):(∀i,i<k->f i=b->FH (Lo P f v k) b=v i)/\((∀i,i<k->f i≠b)->FH (Lo P f v k) b=FH P b):=by
 induction k with
 |zero=>exact⟨λi h=>absurd h (by omega),λ_ =>rfl⟩
 |succ k ih=>
  obtain⟨a,c⟩:=ih (λi h=>hf i (by omega)) (λi j h1 h2=>hi i j (by omega) (by omega));unfold Lo;rw[aa1 (hf k (by omega)) hb];refine⟨λi h1 h2=>?_,λh=>?_⟩
  ·by_cases h3:b=f k
   ·rw[aiG h3]
    rw[hi i k h1 (by omega) (by rw[h2,h3])]
   ·rw[aiH h3]
    refine a i ?_ h2;rcases Nat.lt_or_ge i k with h4|h4
    ·exact h4
    ·obtain rfl:i=k:=by omega
     exact absurd h2.symm h3
  ·rw[aiH λh3=>h k (by omega) h3.symm]
   exact c λi hi'=>h i (by omega)
theorem aaZ{n:Nat}(hn:110<=n){P:aj}(h:H9 P){pl:List Int}(hl:pl.length<=8)(hp:∀i,i<pl.length->0<=pl.getD i default/\gS P (pl.getD i default/32)){V:Int}{ρ:Type}(F:ae->aj->ai->List Int->aF->ah->Bool->Option ρ)(S:ae)(M:ai)(Q:List Int)(u:aF)(r:ah)(b:Bool):
  Gy (λk63 (qc:Int) (FV:ae) (yd:aj) (M7:ai) (FU:(List Int)) (zB:aF) (WN:ah) (JN:Bool)=>cn (decide (qc<(pl.length:Int))) (gu (dk qc pl.length)<|gu (decide (0<=wr .i64 (8*qc)))<|bd (kN n yd (pl.getD (Int.toNat qc) default) (wr .u8 (z6 .u64 V (wr .i64 (8*qc))))) λQt=>k63 (wr .i64 (qc+1)) FV Qt.2 M7 FU zB WN JN) (F FV yd M7 FU zB WN JN)) n 0 S P M Q u r b=
  F S (Lo P (λi=>pl.getD i default) (λi=>wr .u8 (z6 .u64 V (wr .i64 (8*(i:Int))))) pl.length) M Q u r b:=by
 refine QZ (λ(i:Int) s p m q u' r' b'=>∃j:Nat,i=(j:Int)/\j<=pl.length/\s=S/\p=Lo P (λi=>pl.getD i default) (λi=>wr .u8 (z6 .u64 V (wr .i64 (8*(i:Int))))) j/\m=M/\q=Q/\u'=u/\r'=r/\b'=b) (λi _ _ _ _ _ _ _ =>((pl.length:Int)-i).toNat) (λo=>o=F S (Lo P (λi=>pl.getD i default) (λi=>wr .u8 (z6 .u64 V (wr .i64 (8*(i:Int))))) pl.length) M Q u r b) ?_ n 0 _ _ _ _ _ _ _ ⟨0,rfl,by omega,rfl,rfl,rfl,rfl,rfl,rfl,rfl⟩ (by omega);rintro kk i s p m q u' r' b' ⟨j,rfl,hj,rfl,rfl,rfl,rfl,rfl,rfl,rfl⟩ ih;by_cases hc:j<pl.length
 ·obtain⟨p0,p1⟩:=hp j hc
  rw[aS (by simpa using hc),bj (fP (by omega) (by omega)),bj (by rw[bq (by omega) (by omega)];simp;omega),aiL,ak (Xo hn (Sm h λi _ =>aeo _) p0 (So p1) _),bq (x:=(j:Int)+1) (by omega) (by omega)];exact ih _ _ _ _ _ _ _ _ ⟨j+1,by omega,by omega,rfl,rfl,rfl,rfl,rfl,rfl,rfl⟩ (by omega)
 ·obtain rfl:j=pl.length:=by omega
  rw[au (by simp)]
end Go.Proofs.Z
namespace Go.Proofs.Z
open Go Go.Bw
def QM(S:ae)(e:Nat->aD):ae:={S with dK:={S.dK with T:={S.dK.T with aY:=λj=>{S.dK.T.aY j with E:=e j}}}}
def iI(S:ae)(k:Nat)(E:aD):ae:={S with dK:={S.dK with T:={S.dK.T with aY:=iC S.dK.T.aY k {S.dK.T.aY k with E:=E}}}}
abbrev bx(S:ae)(k:Nat):aD:=(S.dK.T.aY k).E
theorem I5(S:ae):QM S (bx S)=S:=rfl
theorem I4(S:ae)(k:Nat)(E:aD)(e:Nat->aD):QM (iI S k E) e=QM S e:=by
 have h:(λj=>{iC S.dK.T.aY k {S.dK.T.aY k with E:=E} j with E:=e j})=λj=>{S.dK.T.aY j with E:=e j}:=by
  funext j;unfold iC;by_cases h:j=k
  ·subst h;rw[aiG rfl]
  ·rw[aiH h]
 unfold QM iI;dsimp only;rw[h]
theorem fQ(S:ae)(k:Nat)(E:aD):bx (iI S k E) k=E:=by unfold bx iI;dsimp only;rw[Nh]
theorem rS(S:ae){k j:Nat}(E:aD)(h:j≠k):bx (iI S k E) j=bx S j:=by unfold bx iI;dsimp only;rw[SJ _ _ h]
theorem abm(S:ae)(k j:Nat)(E:aD):((iI S k E).dK.T.aY j).gF=(S.dK.T.aY j).gF:=by
 unfold iI iC;dsimp only;by_cases h:j=k
 ·subst h;rw[aiG rfl]
 ·rw[aiH h]
structure uI(w:Bool)(n:Nat)(S:ae)(t h:Int)(k:Nat):Prop where
 kl:k<32
 dh:bp n h=some ((k:Int),true)
 Ra:aJ n S.dK.T.fC.kU h=some true
 t0:0<=t
 t1:t<8
 Yw:S.mF t.toNat=true
 rd:∀e,pB n (QM S e).dK t h 0=some 0
 wt:w=true->∀e,pB n (QM S e).dK t h 1=some 0
 quo:0<=(S.dK.T.aY k).gF/\(S.dK.T.aY k).gF<=64
 up:∃u,aJ n S.dK.T.fC.kU ((S.dK.T.aY k).Up)=some u
theorem uI.set{w:Bool}{n:Nat}{S:ae}{t h:Int}{k:Nat}(a:uI w n S t h k)(j:Nat)(E:aD):uI w n (iI S j E) t h k where
 kl:=a.kl
 dh:=a.dh
 Ra:=a.Ra
 t0:=a.t0
 t1:=a.t1
 Yw:=a.Yw
 rd e:=by rw[I4];exact a.rd e
 wt hw e:=by rw[I4];exact a.wt hw e
 quo:=by rw[abm];exact a.quo
 up:=by
  have:((iI S j E).dK.T.aY k).Up=(S.dK.T.aY k).Up:=by
   unfold iI iC;dsimp only;by_cases h:k=j
   ·subst h;rw[aiG rfl]
   ·rw[aiH h]
  rw[this];exact a.up
theorem uI.ag5{n:Nat}{S:ae}{t h:Int}{k:Nat}(a:uI true n S t h k):uI false n S t h k:=⟨a.kl,a.dh,a.Ra,a.t0,a.t1,a.Yw,a.rd,λh=>(by cases h),a.quo,a.up⟩
section
variable {w:Bool} {n:Nat} {S:ae} {t h:Int} {k:Nat}
theorem uI.get(a:uI w n S t h k):∃u,eD n S.dK.T h=some ({S.dK.T.aY k with Up:=u},0):=by
 obtain⟨b,hb⟩:=a.up;have:=a.kl;obtain⟨u,hu⟩:∃u,lW n S.dK.T h=some u:=by
  unfold lW;rw[ak a.dh,bj (fP (by omega) (by omega)),aiL,ak hb];cases b with
  |false=>exact⟨_,rfl⟩
  |true=>exact⟨_,rfl⟩
 refine⟨u,?_⟩;unfold eD;rw[ak a.Ra,au (b:= !true) rfl,ak a.dh,bj (fP (by omega) (by omega)),aK,aiL,ak hu];rfl
theorem uI.aha(hn:110<=n)(a:uI w n S t h k){E:aD}(hE:pE E)(u:Int):iN n S.dK.T h {S.dK.T.aY k with Up:=u,E:=E}=some ((iI S k E).dK.T,0):=by
 have:=a.kl;have hq:lU n (S.dK.T.aY k).gF=some true:=by unfold lU;obtain⟨q0,q1⟩:=a.quo;simp[q0,q1]
 unfold iN;rw[ak a.Ra,au (b:= !true) rfl,ak hq,rZ (g:=(!true)==false) rfl (Jg hn hE),au (by rfl),ak a.dh,bj (fP (by omega) (by omega)),aK,bj (fP (by omega) (by omega)),aK,aiL];rfl
theorem uI.ahk(a:uI w n S t h k){x:aq}(hs:x.aG=S)(ht:x.fK=t):bH n x h 0=some (.ok ()):=by have:=a.rd (bx S);rw[I5]at this;unfold bH;rw[hs,ht,ak this];rfl
theorem uI.aeZ(a:uI true n S t h k){x:aq}(hs:x.aG=S)(ht:x.fK=t):bH n x h 1=some (.ok ()):=by have:=a.wt rfl (bx S);rw[I5]at this;unfold bH;rw[hs,ht,ak this];rfl
theorem uI.region(a:uI w n S t h k){x:aq}(hs:x.aG=S):∃u,eJ n x h=some (.ok {S.dK.T.aY k with Up:=u}):=by obtain⟨u,hu⟩:=a.get;refine⟨u,?_⟩;unfold eJ;rw[hs,ak hu];rfl
theorem BY{α β:Type}{x:Option (Except Int α)}{v:α}(h:x=some (.ok v)){f:Int->β}{k:α->Option β}:tr x f k=k v:=by subst h;rfl
theorem aer{α β:Type}{x:Option (Except Int α)}{e:Int}(h:x=some (.error e)){f:Int->β}{k:α->Option β}:tr x f k=some (f e):=by subst h;rfl
theorem tc1{α:Type}{b:Bool}(h:b=true){f:α}{k:Option α}:tc b f k=k:=by subst h;rfl
theorem tc0{α:Type}{b:Bool}(h:b=false){f:α}{k:Option α}:tc b f k=some f:=by subst h;rfl
theorem uD(a:uI w n S t h k){x:aq}(hs:x.aG=S)(ht:x.fK=t){d:Int}(hd:x.c.Do=d){i:Nat}{m:aac}(hm:Hg d=some (d,i,m)):
  bO n x=tr (m n x) (λe=>(⟨e,0,0⟩,none)) λy=>some (y.1,some y.2):=by
 have h7:r8 .i64 t 7=t:=by have:=VJ (k:= .i64) (a:=t) 3 (b:=7) a.t0 (by have:=a.t1;show t<2^63;omega) (by decide) (by decide);rw[this];have:=a.t0;have:=a.t1;exact Int.emod_eq_of_lt (by omega) (by show t<8;omega)
 have hb:(decide (0<=t)&&decide (t<8))=true:=by have:=a.t0;have:=a.t1;simp;omega
 unfold bO;rw[hs,ht,hd,hm,h7,hb,bj (by rw[fP a.t0 a.t1];rfl),tc1 (by rw[a.Yw];rfl)]
def jf(S:ae)(t:Int)(c:aC)(r:av)(y9:Bool):aq:={aG:=S,fK:=t,c:=c,run:=r,kP:=0,y9:=y9,fD:=[]}
theorem OM{x:aq}(hB:1<=x.c.B/\x.c.B<=8):qB n x.c=some (.ok ()):=by unfold qB;rw[tc1 (by simp;omega)]
theorem aam(h4:pE (bx S k))(u:Int){x:aq}(hA:0<=x.c.A/\x.c.A<4294967296)(hB:1<=x.c.B/\x.c.B<=8):qC n {S.dK.T.aY k with Up:=u} x.c=if x.c.A+x.c.B<=(bx S k).ep then some (.ok ())else some (.error 9):=by
 have hl:=h4.lo;have hh:=h4.hi;have hx:=h4.gx.sum;unfold qC;show tc (decide (wr .i64 x.c.A<=wr .i64 ((bx S k).ep-wr .i64 x.c.B))) _ _ =_;rw[bq (x:=x.c.A) (by omega) (by omega),bq (x:=x.c.B) (by omega) (by omega),bq (by omega) (by omega)];by_cases hc:x.c.A+x.c.B<=(bx S k).ep
 ·rw[tc1 (by simp;omega),aiG hc]
 ·rw[tc0 (by simp;omega),aiH hc]
theorem Vy(a:uI w n S t h k)(h4:pE (bx S k)){x:aq}(hs:x.aG=S)(ht:x.fK=t)(hR:x.c.R=h)(hA:0<=x.c.A/\x.c.A<4294967296)(hB:1<=x.c.B/\x.c.B<=8):
  gK n x=(if x.c.A+x.c.B<=(bx S k).ep then some (.ok ⟨0,0,0⟩)else some (.error 9)):=by
 obtain⟨u,hu⟩:=a.region hs;unfold gK;rw[BY (OM hB),hR,BY (a.ahk hs ht),BY hu,aam h4 u hA hB];by_cases hc:x.c.A+x.c.B<=(bx S k).ep
 ·rw[aiG hc,aiG hc];rfl
 ·rw[aiH hc,aiH hc];rfl
theorem Vx(a:uI true n S t h k)(h4:pE (bx S k)){x:aq}(hs:x.aG=S)(ht:x.fK=t)(hR:x.c.R=h)(hA:0<=x.c.A/\x.c.A<4294967296)(hB:1<=x.c.B/\x.c.B<=8):
  ga n x=(if x.c.A+x.c.B<=(bx S k).ep then some (.ok ⟨0,0,0⟩)else some (.error 9)):=by
 obtain⟨u,hu⟩:=a.region hs;unfold ga;rw[BY (OM hB),hR,BY (a.aeZ hs ht),BY hu,aam h4 u hA hB];by_cases hc:x.c.A+x.c.B<=(bx S k).ep
 ·rw[aiG hc,aiG hc];rfl
 ·rw[aiH hc,aiH hc];rfl
theorem acS{c:aC}(a:uI w n S t h k)(h4:pE (bx S k))(hd:c.Do=3\/(c.Do=4/\w=true))(hR:c.R=h)(hA:0<=c.A/\c.A<4294967296)(hB:1<=c.B/\c.B<=8):
  cq n S t c aB=some (S,⟨if c.A+c.B<=(bx S k).ep then 0 else 9,0,0⟩,[]):=by
 have hc:bO n (jf S t c aB false)=some (if c.A+c.B<=(bx S k).ep then(⟨0,0,0⟩,some (jf S t c aB false))else(⟨9,0,0⟩,none)):=by
  rcases hd with hd|⟨hd,hw⟩
  ·have b1:gK n (jf S t c aB false)=(if c.A+c.B<=(bx S k).ep then some (.ok ⟨0,0,0⟩)else some (.error 9)):=Vy a h4 (x:=jf S t c aB false) rfl rfl hR hA hB
   rw[uD a (x:=jf S t c aB false) rfl rfl (d:=3) hd rfl];unfold GC;rw[b1];by_cases q:c.A+c.B<=(bx S k).ep
   ·rw[aiG q,aiG q];rfl
   ·rw[aiH q,aiH q];rfl
  ·subst hw
   have b2:ga n (jf S t c aB false)=(if c.A+c.B<=(bx S k).ep then some (.ok ⟨0,0,0⟩)else some (.error 9)):=Vx a h4 (x:=jf S t c aB false) rfl rfl hR hA hB;rw[uD a (x:=jf S t c aB false) rfl rfl (d:=4) hd rfl];unfold GC;rw[b2];by_cases q:c.A+c.B<=(bx S k).ep
   ·rw[aiG q,aiG q];rfl
   ·rw[aiH q,aiH q];rfl
 unfold cq;rw[aK];show bd (bO n (jf S t c aB false)) _ =_;rw[ak hc];by_cases q:c.A+c.B<=(bx S k).ep
 ·rw[aiG q,aiG q];rfl
 ·rw[aiH q,aiH q];rfl
theorem Ch{c:aC}(hd:c.Do≠2):bJ n S t c=some 0:=by
 have:(c.Do !=2)=true:=by simpa using hd
 unfold bJ;rw[aK,this];rfl
theorem vB{c:aC}(a:uI w n S t h k)(hd:c.Do=2\/c.Do=3\/c.Do=4)(hR:c.R=h):kx n S c=some [h]:=by
 have ho:iT n S c.R=some [h]:=by unfold iT;rw[hR,ak a.Ra];rfl
 unfold kx;rcases hd with hd|hd|hd<;>rw[hd]<;>simp only[cn]<;>simp[ho,bd]
theorem S6(hn:110<=n){c:aC}(a:uI w n S t h k)(h4:pE (bx S k))(hd:c.Do=3\/c.Do=4)(hR:c.R=h)(hA:0<=c.A)(hB:1<=c.B/\c.B<=8)(hl:c.A+c.B<=(bx S k).ep):
  cv n S c=some ((List.range c.B.toNat).map λ(i:Nat)=>dO (bx S k).aL (c.A+(i:Int)),0):=by
 obtain⟨u,hu⟩:=a.get;have hh:=h4.hi;have hx:=h4.gx.sum;have hd':((c.Do !=3)&&(c.Do !=4))=false:=by rcases hd with hd|hd<;>rw[hd]<;>rfl
 unfold cv;rw[hR,ak hu,au (by rfl),hd',bq (x:=c.B) (by omega) (by omega),bq (x:=c.A) (by omega) (by omega),au (by simp;omega)];show cn (decide (wr .i64 ((bx S k).ep-c.B)<c.A)) _ _ =_;rw[bq (by omega) (by omega),au (by simp;omega)];refine vJ (λ(l:List Int) (i:Int)=>∃j:Nat,i=(j:Int)/\(j:Int)<=c.B/\l=(List.range j).map λ(i:Nat)=>dO (bx S k).aL (c.A+(i:Int))) (λ_ i=>(c.B-i).toNat) (λo=>o=some ((List.range c.B.toNat).map λ(i:Nat)=>dO (bx S k).aL (c.A+(i:Int)),0)) ?_ n [] 0 ⟨0,rfl,by omega,rfl⟩ (by omega);rintro kk l i ⟨j,rfl,hj,rfl⟩ ih;by_cases hc:(j:Int)<c.B
 ·rw[aS (by simpa using hc),bq (x:=c.A+j) (by omega) (by omega)]
  rw[ak (TY hn h4 (at_:=c.A+(j:Int)) ⟨by omega,by omega⟩),bj (jt (by simp;omega) (by simp;omega)),aK,bq (by omega) (by omega)];refine ih _ _ ⟨j+1,by omega,by omega,?_⟩ (by omega);rw[Gi];unfold plV dO;rw[aiG (by omega),Int.sub_zero]
 ·obtain rfl:c.B.toNat=j:=by omega
  rw[au (by simp;omega)]
end
end Go.Proofs.Z
namespace Go.Proofs.Z
open Go Go.Bw
def eX(s:Int):Int:=(s+31)/32
theorem Cc{s a:Int}(h:tj s a=true):1<=eX s/\s<=32*eX s/\eX s<=4:=by obtain⟨⟨h1,h2⟩,_⟩:=mh.1 h;unfold eX;omega
section
variable {w:Bool} {n:Nat} {S:ae} {t h:Int} {k:Nat}
theorem uI.ag9(hn:110<=n)(a:uI w n S t h k){y:aq}(hs:y.aG=S){E:aD}(hE:pE E)(u:Int):gh n y h {S.dK.T.aY k with Up:=u,E:=E}=some (.ok {y with aG:=iI S k E}):=by unfold gh;rw[hs,ak (a.aha hn hE u)];rfl
theorem Ku{E:aD}(hE:pE E){s b:Int}(hf:eG E s b=true):pE ⟨E.aL,zC E.ep b+s⟩:=by unfold eG at hf;rw[aiJ,decide_eq_true_iff,mh]at hf;obtain⟨⟨⟨o1,o2⟩,o3⟩,o4⟩:=hf;obtain⟨u1,u2,_⟩:=BX (x:=E.ep) o3;have:=hE.lo;exact⟨hE.gx,by dsimp only;omega,o4⟩
theorem PA{E:aD}(hE:pE E){s b:Int}(hf:eG E s b=true):0<=zC E.ep b/\E.ep<=zC E.ep b/\zC E.ep b<=2048:=by have h:=Ku hE hf;unfold eG at hf;rw[aiJ,decide_eq_true_iff,mh]at hf;obtain⟨⟨⟨o1,o2⟩,o3⟩,o4⟩:=hf;obtain⟨u1,u2,_⟩:=BX (x:=E.ep) o3;have:=hE.lo;have:=hE.gx.sum;omega
theorem Qe(hn:110<=n)(a:uI w n S t h k){y:aq}(hs:y.aG=S)(hR:y.c.R=h){E:aD}(hE:pE E)(u:Int){s b:Int}(hf:eG E s b=true):
  (bd (gL n ({S.dK.T.aY k with Up:=u,E:=E}:aP).E s b) λCW=>lt ({({S.dK.T.aY k with Up:=u,E:=E}:aP)with E:=CW.1}:aP) λXi=>tr (gh n y y.c.R Xi) (λVk=>(.error Vk)) λFT=>lt ({E:=0,V:=wr .u64 CW.2.1,W:=0}:ah) λx99=>some (.ok (x99,FT)):Option (Except Int (ah×aq)))=some (.ok (⟨0,zC E.ep b,0⟩,{y with aG:=iI S k ⟨E.aL,zC E.ep b+s⟩})):=by
 obtain⟨f0,f1,f2⟩:=PA hE hf;rw[ak (XY hn hE s b),aiG hf,aK,hR,BY (a.ag9 hn hs (Ku hE hf) u),aK];dsimp only;rw[ru f0 (by omega)]
theorem aa3{s b:Int}(ho:tj s b=true):wr .i64 (if 129<s then 129 else s)=s/\wr .i64 (if 9<b then 9 else b)=b:=by
 obtain⟨⟨o1,o2⟩,o3⟩:=mh.1 ho;have:1<=b/\b<=8:=by rcases o3 with rfl|rfl|rfl|rfl<;>omega
 rw[aiH (by omega),aiH (by omega)];exact⟨bq (by omega) (by omega),bq (by omega) (by omega)⟩
theorem FM(hn:110<=n)(a:uI true n S t h k)(h4:pE (bx S k)){x:aq}(hs:x.aG=S)(ht:x.fK=t)(hR:x.c.R=h){s b:Int}(hA:x.c.A=s)(hB:x.c.B=b)(ho:tj s b=true):
  (eG (bx S k) s b=true->dm n x=some (.ok (⟨0,zC (bx S k).ep b,0⟩,{x with aG:=iI S k ⟨(bx S k).aL,zC (bx S k).ep b+s⟩})))/\
  (eG (bx S k) s b=false->(S.dK.T.aY k).gF<bF (bx S k).aL+eX s->dm n x=some (.error 6))/\
  (eG (bx S k) s b=false->bF (bx S k).aL+eX s<=(S.dK.T.aY k).gF->x.y9=true->dm n x=some (.ok (⟨0,0,0⟩,{x with kP:=eX s})))/\
  (eG (bx S k) s b=false->bF (bx S k).aL+eX s<=(S.dK.T.aY k).gF->x.y9=false->x.run.N=eX s->Ir x.run.At x.run.N->(∀p,x.run.At<=p->p<x.run.At+x.run.N->¬bZ (bx S k).aL p)->
   dm n x=some (.ok (⟨0,32*bF (bx S k).aL,0⟩,{x with kP:=eX s,aG:=iI S k ⟨(bx S k).aL++[x.run],32*bF (bx S k).aL+s⟩}))):=by
 obtain⟨u,hu⟩:=a.region hs;obtain⟨w1,w2⟩:=aa3 ho;obtain⟨n1,n2,n3⟩:=Cc ho;obtain⟨⟨o1,o2⟩,o3⟩:=mh.1 ho;have hq:=a.quo;have g0:=h4.gx.pos;have g1:=h4.gx.sum;have hne:pz n s b=some (eX s,true):=by rw[Ue (by omega),aiG ho];rfl
 have GN:=Pz hn h4 s b;have hpg:=NB hn h4;have pre:∀z,(∀F:aP->aq->Option (Except Int (ah×aq)),F=(λ(jS:aP) (gA:aq)=>bd (gL n jS.E s b) λCW=>lt ({jS with E:=CW.1}:aP) λXi=>tr (gh n gA gA.c.R Xi) (λVk=>(.error Vk)) λFT=>lt ({E:=0,V:=wr .u64 CW.2.1,W:=0}:ah) λx99=>some (.ok (x99,FT)))->
   (cn ((!(Et (bx S k) s b).2)) (tc (decide ((wr .i64 (bF (bx S k).aL+eX s))<=(S.dK.T.aY k).gF)) (.error 6)<|cn (x.y9) (some (.ok (⟨0,0,0⟩,{x with kP:=eX s}))) (bd (fj n (bx S k) x.run) λzB=>lt ({({S.dK.T.aY k with Up:=u}:aP)with E:=zB}:aP) λJM=>cl ((x.run.N==eX s)==true) (fN n JM.E) default λM6=>tc ((x.run.N==eX s)&&M6) (.error 2)<|F JM ({x with kP:=eX s}))) (F {S.dK.T.aY k with Up:=u} x)=z))->dm n x=z:=by
  intro z hz;unfold dm;rw[hA,hB,w1,w2,ak hne,tc1 (by rfl),hR,BY (a.aeZ hs ht),BY hu,aK];refine Eq.trans ?_ (hz _ rfl);show bd (gj n (bx S k) s b) _ =_;rw[ak GN];show cn _ (bd (cR n (bx S k)) _) _ =_;rw[ak hpg];rfl
 refine⟨λhf=>pre _ λF hF=>?_,λhf hl=>pre _ λF hF=>?_,λhf hl hk=>pre _ λF hF=>?_,λhf hl hk r1 r2 r3=>pre _ λF hF=>?_⟩
 ·unfold Et
  rw[hf,aiG rfl,au (b:= !true) rfl,hF];exact Qe hn a hs hR h4 u hf
 ·unfold Et
  rw[hf,aiH (by simp),aS (b:= !false) rfl,bq (by omega) (by omega),tc0 (by simp;omega)]
 ·unfold Et
  rw[hf,aiH (by simp),aS (b:= !false) rfl,bq (by omega) (by omega),tc1 (by simp;omega),aS hk]
 ·have hm:=Jh h4 r2 r3
  have e:(⟨x.run.At,x.run.N⟩:Rn)=x.run:=rfl;rw[e]at hm;have hs2:bF ((bx S k).aL++[x.run])=bF (bx S k).aL+eX s:=by rw[oP, ← e,wm,r1]
  have hu4:zC (32*bF (bx S k).aL) b=32*bF (bx S k).aL:=by unfold zC;rcases o3 with rfl|rfl|rfl|rfl<;>omega
  have hf2:eG ⟨(bx S k).aL++[x.run],32*bF (bx S k).aL⟩ s b=true:=by unfold eG;rw[ho,hs2];dsimp only;rw[hu4];simp;omega
  unfold Et;rw[hf,aiH (by simp),aS (b:= !false) rfl,bq (by omega) (by omega),tc1 (by simp;omega),au hk,ak (YX hn h4 x.run),aK,rZ (by rw[r1];simp) (Jg hn hm),tc1 (by rw[r1];simp),hF];have:=Qe hn a (y:={x with kP:=eX s}) hs hR hm u hf2;dsimp only at this;rw[hu4]at this;exact this
def LW(S:ae)(k:Nat)(s b:Int):Int:=if eG (bx S k) s b=true then 0 else if bF (bx S k).aL+eX s<=(S.dK.T.aY k).gF then eX s else 0
theorem PO:∃i,Hg 2=some (2,i,dm):=⟨_,rfl⟩
theorem Uf(hn:110<=n)(a:uI true n S t h k)(h4:pE (bx S k)){c:aC}(hd:c.Do=2)(hR:c.R=h){s b:Int}(hA:c.A=s)(hB:c.B=b)(ho:tj s b=true):
  bJ n S t c=some (LW S k s b):=by
 obtain⟨i,hi⟩:=PO;obtain⟨a1,a2,a3,_⟩:=FM hn a h4 (x:=jf S t c aB true) rfl rfl hR hA hB ho;unfold bJ;rw[aK,aS (by rw[hd];rfl)];show bd (bO n (jf S t c aB true)) _ =_;unfold LW;cases hf:eG (bx S k) s b with
 |true=>rw[ak (by rw[uD a (x:=jf S t c aB true) rfl rfl hd hi,BY (a1 hf)])];rw[hd,aiG rfl];rfl
 |false=>
  rw[aiH (by simp)];by_cases hq:bF (bx S k).aL+eX s<=(S.dK.T.aY k).gF
  ·rw[ak (by rw[uD a (x:=jf S t c aB true) rfl rfl hd hi,BY (a3 hf hq rfl)])]
   rw[hd,aiG hq];rfl
  ·rw[ak (by rw[uD a (x:=jf S t c aB true) rfl rfl hd hi,aer (a2 hf (by omega))])]
   rw[hd,aiH hq];rfl
theorem PS(hn:110<=n)(a:uI true n S t h k)(h4:pE (bx S k)){c:aC}(hd:c.Do=2)(hR:c.R=h){s b:Int}(hA:c.A=s)(hB:c.B=b)(ho:tj s b=true)(hf:eG (bx S k) s b=true):
  cq n S t c aB=some (iI S k ⟨(bx S k).aL,zC (bx S k).ep b+s⟩,⟨0,zC (bx S k).ep b,0⟩,[]):=by
 obtain⟨i,hi⟩:=PO;obtain⟨a1,_⟩:=FM hn a h4 (x:=jf S t c aB false) rfl rfl hR hA hB ho;unfold cq;rw[aK];show bd (bO n (jf S t c aB false)) _ =_;rw[ak (by rw[uD a (x:=jf S t c aB false) rfl rfl hd hi,BY (a1 hf)])];rfl
theorem acR(hn:110<=n)(a:uI true n S t h k)(h4:pE (bx S k)){c:aC}(hd:c.Do=2)(hR:c.R=h){s b:Int}(hA:c.A=s)(hB:c.B=b)(ho:tj s b=true)(hf:eG (bx S k) s b=false)(hq:(S.dK.T.aY k).gF<bF (bx S k).aL+eX s):
  cq n S t c aB=some (S,⟨6,0,0⟩,[]):=by
 obtain⟨i,hi⟩:=PO;obtain⟨_,a2,_⟩:=FM hn a h4 (x:=jf S t c aB false) rfl rfl hR hA hB ho;unfold cq;rw[aK];show bd (bO n (jf S t c aB false)) _ =_;rw[ak (by rw[uD a (x:=jf S t c aB false) rfl rfl hd hi,aer (a2 hf hq)])];rfl
theorem Vq(hn:110<=n)(a:uI true n S t h k)(h4:pE (bx S k)){c:aC}(hd:c.Do=2)(hR:c.R=h){s b:Int}(hA:c.A=s)(hB:c.B=b)(ho:tj s b=true)(hf:eG (bx S k) s b=false)(hq:bF (bx S k).aL+eX s<=(S.dK.T.aY k).gF){r:Rn}(r1:r.N=eX s)(r2:Ir r.At r.N)(r3:∀p,r.At<=p->p<r.At+r.N->¬bZ (bx S k).aL p):
  cq n S t c r=some (iI S k ⟨(bx S k).aL++[r],32*bF (bx S k).aL+s⟩,⟨0,32*bF (bx S k).aL,0⟩,[]):=by
 obtain⟨i,hi⟩:=PO;obtain⟨_,_,_,a4⟩:=FM hn a h4 (x:=jf S t c r false) rfl rfl hR hA hB ho;unfold cq;rw[aK];show bd (bO n (jf S t c r false)) _ =_;rw[ak (by rw[uD a (x:=jf S t c r false) rfl rfl hd hi,BY (a4 hf hq rfl r1 r2 r3)])];rfl
theorem T3{c:aC}(a:uI w n S t h k)(hd:c.Do=2)(hR:c.R=h):cv n S c=some ([],2):=by obtain⟨u,hu⟩:=a.get;unfold cv;rw[hR,ak hu,au (by rfl),aS (by rw[hd];rfl)]
theorem acZ(hn:110<=n)(a:uI true n S t h k)(h4:pE (bx S k)){c:aC}(hd:c.Do=2)(hR:c.R=h){s b:Int}(hA:c.A=s)(hB:c.B=b)(ho:tj s b=true):
  fY n S t c=some (if eG (bx S k) s b=true then 0 else if bF (bx S k).aL+eX s<=(S.dK.T.aY k).gF then 0 else 6):=by
 obtain⟨n1,n2,n3⟩:=Cc ho;unfold fY;rw[ak (Uf hn a h4 hd hR hA hB ho)];unfold LW;cases hf:eG (bx S k) s b with
 |true=>rw[aiG rfl,aiG rfl,au (by simp),ak (PS hn a h4 hd hR hA hB ho hf)];rfl
 |false=>
  have hff:¬(false=true):=by simp
  rw[aiH hff,aiH hff];by_cases hq:bF (bx S k).aL+eX s<=(S.dK.T.aY k).gF
  ·rw[aiG hq,aiG hq,aS (by simp;omega)]
  ·rw[aiH hq,aiH hq,au (by simp),ak (acR hn a h4 hd hR hA hB ho hf (by omega))];rfl
theorem PZ{c:aC}(a:uI w n S t h k)(h4:pE (bx S k))(hd:c.Do=3\/(c.Do=4/\w=true))(hR:c.R=h)(hA:0<=c.A/\c.A<4294967296)(hB:1<=c.B/\c.B<=8):
  fY n S t c=some (if c.A+c.B<=(bx S k).ep then 0 else 9):=by
 unfold fY;rw[ak (Ch (by omega)),au (by simp),ak (acS a h4 hd hR hA hB)];rfl
end
end Go.Proofs.Z
