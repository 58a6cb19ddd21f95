/- Part 15 of what a proof leans on; pruned and shortened by a program out of longer texts. -/
import Derived.Test.YtgdmofhmmhcmjaaGreatDoorQ14
namespace Go.Proofs.Z
open Go Go.Bw
abbrev Rn:=av
structure qb(l:List Rn):Prop where
 vV:∀y∈l,0<=y.At/\1<=y.N/\y.At+y.N<=64
 pw:l.Pairwise λy z=>y.At+y.N<z.At
def bZ(l:List Rn)(p:Int):Prop:=∃y∈l,y.At<=p/\p<y.At+y.N
def Iy(at_ k:Int):Prop:=1<=k/\0<=at_/\at_+k<=64
def Si(x:Int):Prop:= -9223372036854775808<=x/\x<=9223372036854775807
theorem qb.nil:qb []:=⟨by simp, .nil⟩
theorem MK:∀{l:List Rn} {lo:Int},qb l->(∀y∈l,lo<=y.At)->lo<=65->(l.length:Int)*2<=65-lo
 |[],lo,_,_,h=>by simp;omega
 |y::r,lo,h,hl,_ =>by obtain⟨h1,h2⟩:=List.pairwise_cons.1 h.pw;have hy:=h.vV y (by simp);have hy':=hl y (by simp);have:=MK (l:=r) (lo:=y.At+y.N+1) ⟨λz hz=>h.vV z (by simp[hz]),h2⟩ (λz hz=>by have:=h1 z hz;omega) (by omega);simp only[List.length_cons];omega
theorem qb.len{l:List Rn}(h:qb l):l.length<=32:=by have:=MK (lo:=0) h (λy hy=>(h.vV y hy).1) (by omega);omega
theorem qb.two{l:List Rn}(h:qb l){y z:Rn}(hy:y∈l)(hz:z∈l):y=z\/y.At+y.N<z.At\/z.At+z.N<y.At:=by
 have:=h.pw;clear h
 induction l with
 |nil=>simp at hy
 |cons x r ih=>
  obtain⟨h1,h2⟩:=List.pairwise_cons.1 this;rcases List.mem_cons.1 hy with rfl|hy'<;>rcases List.mem_cons.1 hz with rfl|hz'
  ·exact .inl rfl
  ·exact .inr (.inl (h1 z hz'))
  ·exact .inr (.inr (h1 y hy'))
  ·exact ih hy' hz' h2
theorem kO(p:Int):¬bZ [] p:=by simp[bZ]
theorem fQ{y:Rn}{r:List Rn}{p:Int}:bZ (y::r) p↔(y.At<=p/\p<y.At+y.N)\/bZ r p:=by simp[bZ]
theorem jM{l r:List Rn}{p:Int}:bZ (l++r) p↔bZ l p\/bZ r p:=by simp[bZ,or_and_right,exists_or]
theorem Uo{l:List Rn}(h:qb l){p:Int}(hp:bZ l p):0<=p/\p<64:=by obtain⟨y,hy,h1,h2⟩:=hp;have:=h.vV y hy;omega
theorem qb.SF{l:List Rn}(h:qb l){at_ k:Int}(hk:1<=k)(hm:∀p,at_<=p->p<at_+k->bZ l p):∃y∈l,y.At<=at_/\at_+k<=y.At+y.N:=by
 obtain⟨y,hy,h1,h2⟩:=hm at_ (by omega) (by omega);refine⟨y,hy,h1,?_⟩;refine Int.not_lt.1 λ_=>?_;obtain⟨z,hz,h3,h4⟩:=hm (y.At+y.N) (by omega) (by omega);rcases h.two hy hz with rfl|h5|h5
 ·omega
 ·omega
 ·have:=h.vV z hz;omega
theorem K7:∀{l m:List Rn},qb l->qb m->(∀p,bZ l p↔bZ m p)->l=m
 |[],[],_,_,_ =>rfl
 |[],z::m,_,hm,h=>by have:=hm.vV z (by simp);exact absurd ((h z.At).2 (fQ.2 (.inl ⟨by omega,by omega⟩))) (kO _)
 |y::l,[],hl,_,h=>by have:=hl.vV y (by simp);exact absurd ((h y.At).1 (fQ.2 (.inl ⟨by omega,by omega⟩))) (kO _)
 |y::l,z::m,hl,hm,h=>by
  obtain⟨a1,a2⟩:=List.pairwise_cons.1 hl.pw;obtain⟨b1,b2⟩:=List.pairwise_cons.1 hm.pw;have hy:=hl.vV y (by simp);have hz:=hm.vV z (by simp);have f1:∀p,bZ l p->y.At+y.N<p:=λp ⟨q,hq,h1,h2⟩=>by have:=a1 q hq;omega
  have f2:∀p,bZ m p->z.At+z.N<p:=λp ⟨q,hq,h1,h2⟩=>by have:=b1 q hq;omega
  have g1:∀p,y.At<=p->p<y.At+y.N->(z.At<=p/\p<z.At+z.N)\/bZ m p:=λp h1 h2=>fQ.1 ((h p).1 (fQ.2 (.inl ⟨h1,h2⟩)));have g2:∀p,z.At<=p->p<z.At+z.N->(y.At<=p/\p<y.At+y.N)\/bZ l p:=λp h1 h2=>fQ.1 ((h p).2 (fQ.2 (.inl ⟨h1,h2⟩)));have e1:y.At=z.At:=by
   rcases g1 y.At (by omega) (by omega)with c|c<;>rcases g2 z.At (by omega) (by omega)with d|d
   ·omega
   ·have:=f1 _ d;omega
   ·have:=f2 _ c;omega
   ·have:=f1 _ d;have:=f2 _ c;omega
  have e2:y.N=z.N:=by
   refine Int.le_antisymm (Int.not_lt.1 λhlt=>?_) (Int.not_lt.1 λhlt=>?_)
   ·rcases g1 (z.At+z.N) (by omega) (by omega)with c|c
    ·omega
    ·have:=f2 _ c;omega
   ·rcases g2 (y.At+y.N) (by omega) (by omega)with c|c
    ·omega
    ·have:=f1 _ c;omega
  have e:y=z:=by cases y;cases z;simp_all
  subst e;congr 1;refine K7 ⟨λq hq=>hl.vV q (by simp[hq]),a2⟩ ⟨λq hq=>hm.vV q (by simp[hq]),b2⟩ λp=>⟨λhp=>?_,λhp=>?_⟩
  ·rcases fQ.1 ((h p).1 (fQ.2 (.inr hp)))with c|c
   ·have:=f1 _ hp;omega
   ·exact c
  ·rcases fQ.1 ((h p).2 (fQ.2 (.inr hp)))with c|c
   ·have:=f2 _ hp;omega
   ·exact c
theorem VW{n:Nat}{l:List Rn}(hl:l.length<=100)(hn:110<=n):∃xs,iT n l=some xs/\xs.map Prod.snd=l:=by
 unfold iT;have key:∀(m x:Nat),x<=l.length->l.length-x<m->∃xs,iw (λIa (gM:Int)=>cn (decide (gM<(l.length:Int))) (gu (dg gM l.length)<|lt ((l.getD (Int.toNat gM) default):av) λgR=>yl (gM,gR)<|Ia (wr .i64 (gM+1))) (some [])) m (x:Int)=some xs/\xs.map Prod.snd=l.drop x:=by
  intro m
  induction m with
  |zero=>intro x _ h;omega
  |succ m ih=>
   intro x hx hm;simp only[iw];by_cases hc:x<l.length
   ·rw[aU (by simpa using hc),bH (gU (by omega) (by omega)),aP,br (by omega) (by omega)]
    obtain⟨xs,h1,h2⟩:=ih (x+1) (by omega) (by omega);have e:((x:Int)+1)=((x+1:Nat):Int):=by omega
    rw[e,h1];refine⟨_,rfl,?_⟩;rw[List.map_cons,h2,List.drop_eq_getElem_cons hc,aiR,List.getD,aiV hc];rfl
   ·rw[au (by simpa using hc)]
    exact⟨[],rfl,by rw[List.drop_eq_nil_of_le (by omega)];rfl⟩
 obtain⟨xs,h1,h2⟩:=key n 0 (by omega) (by omega);exact⟨xs,h1,by simpa using h2⟩
theorem PW(n:Nat)(r:bj):oN n r=some r.l:=rfl
theorem NQ{n:Nat}{at_ k:Int}(ha:Si at_)(hk:Si k):∃b,mL n ⟨at_,k⟩=some b/\(b=true↔Iy at_ k):=by
 obtain⟨a1,a2⟩:=ha;obtain⟨k1,k2⟩:=hk;refine⟨_,rfl,?_⟩;show((decide (1<=k)&&decide (0<=at_))&&decide (at_<=wr .i64 (64-k)))=true↔_;unfold Iy;by_cases h:1<=k
 ·rw[br (by omega) (by omega)];simp;omega
 ·simp[h]
theorem DP{n:Nat}{y:Rn}(h:0<=y.At/\1<=y.N/\y.At+y.N<=64):bF n y=some (y.At+y.N):=by unfold bF;rw[br (by omega) (by omega)]
def Pu(y x:Rn):Prop:=y.At<=x.At/\x.At+x.N<=y.At+y.N
instance(y x:Rn):Decidable (Pu y x):=by unfold Pu;infer_instance
theorem UN{n:Nat}{y x:Rn}(hy:0<=y.At/\1<=y.N/\y.At+y.N<=64)(hx:Iy x.At x.N):lW n y x=some (decide (Pu y x)):=by
 unfold lW Iy at *;rw[zQ (DP (by omega)),zQ (DP hy)];congr 1;unfold Pu;by_cases he:qO x y=true
 ·have:x.At=y.At/\x.N=y.N:=by simpa[qO]using he
  simp[he,this.1,this.2]
 ·by_cases h1:y.At<=x.At
  ·simp[he,h1]
  ·simp[he,h1]
theorem Mg{n:Nat}(hn:110<=n){l:List Rn}(hl:qb l){x:Rn}(hx:Iy x.At x.N):∃v,bM n l x=some v/\((v= -1/\∀y∈l,¬Pu y x)\/∃i,∃h:i<l.length,v=(i:Int)/\Pu l[i] x):=by
 unfold bM;have hlen:=hl.len;refine Q8 (λ(v:Int)=>0<=v/\v<=l.length/\∀y∈l.take v.toNat,¬Pu y x) (λv=>((l.length:Int)-v).toNat) (λo=>∃v,o=some v/\((v= -1/\∀y∈l,¬Pu y x)\/∃i,∃h:i<l.length,v=(i:Int)/\Pu l[i] x)) ?_ n 0 ⟨by omega,by omega,by simp⟩ (by omega);rintro kk v ⟨v0,v1,hv⟩ ih;obtain⟨i,rfl⟩:=Int.eq_ofNat_of_zero_le v0;by_cases hc:i<l.length
 ·have hg:l.getD (Int.toNat (i:Int)) default=l[i]:=by rw[aiR,List.getD,aiV hc];rfl
  rw[aU (by simpa using hc),bH (gU (by omega) (by omega)),hg,br (by omega) (by omega)];rw[ak (show mK n l[i] x=some (decide (Pu l[i] x))by unfold mK;rw[ak (UN (hl.vV _ (List.getElem_mem hc)) hx)])];by_cases he:Pu l[i] x
  ·rw[aU (by simpa using he)]
   exact⟨_,rfl, .inr ⟨i,hc,rfl,he⟩⟩
  ·rw[au (by simpa using he)]
   refine ih _ ⟨by omega,by omega,λy hy=>?_⟩ (by omega);have e:((i:Int)+1).toNat=i+1:=by omega
   rw[e,aiW hc]at hy;rcases List.mem_append.1 hy with h|h
   ·exact hv y (by simpa using h)
   ·rw[List.mem_singleton.1 h];exact he
 ·rw[au (by simpa using hc)]
  refine⟨-1,rfl, .inl ⟨rfl,λy hy=>hv y ?_⟩⟩;rw[List.take_of_length_le (by omega)];exact hy
theorem Ra{n:Nat}{l:List Rn}{x:Rn}:eB n l x=bM n l x:=rfl
theorem Pt{y x:Rn}(h:Pu y x)(hx:Iy x.At x.N){l:List Rn}(hy:y∈l):∀p,x.At<=p->p<x.At+x.N->bZ l p:=λp h1 h2=>⟨y,hy,by unfold Pu at h;omega,by unfold Pu at h;omega⟩
theorem acz{n:Nat}(hn:110<=n){r:bj}(hr:qb r.l){p:Int}(hp:Si p):∃b,g8 n r p=some b/\(b=true↔bZ r.l p):=by
 unfold g8;rw[aP];obtain⟨b,hb,hb'⟩:=NQ (n:=n) hp (show Si 1 from⟨by omega,by omega⟩);rw[ak hb];cases b with
 |false=>refine⟨false,rfl,⟨λh=>(by cases h),λhm=>?_⟩⟩;have:=Uo hr hm;exact hb'.2 ⟨by omega,by omega,by omega⟩
 |true=>
  have ho:=hb'.1 rfl;obtain⟨v,h1,h2⟩:=Mg hn hr (x:=⟨p,1⟩) ho;have h3:cM n r.l ⟨p,1⟩=some (decide (0<=v)):=by unfold cM;rw[Ra,ak h1]
  rw[rX (g:=(true==true)) rfl h3];refine⟨_,rfl,?_⟩;rcases h2 with⟨rfl,h2⟩|⟨i,hi,rfl,h2⟩
  ·simp
   rintro⟨y,hy,h4,h5⟩;exact h2 y hy ⟨h4,by show p+1<=_;omega⟩
  ·simp
   exact Pt h2 ho (List.getElem_mem hi) p (by show p<=p;omega) (by show p<p+1;omega)
def Oj(k:Int)(y:Rn):Bool:=decide (1<=k)&&decide (k<=y.N)
def G9(k:Int)(l:List Rn):Int×Bool:=match l.find? (Oj k)with|some y=>(y.At,true)|none=>(0,false)
theorem PJ{n:Nat}(hn:110<=n){r:bj}(hr:qb r.l)(k:Int):oO n r k=some (G9 k r.l):=by
 unfold oO;rw[ak (PW n r)];obtain⟨xs,h1,h2⟩:=VW (n:=n) (l:=r.l) (by have:=hr.len;omega) hn;rw[ak h1, ← h2];clear h1 h2 hr
 induction xs with
 |nil=>rfl
 |cons e xs ih=>
  show cn (Oj k e.2) (some (e.2.At,true)) _ =_;unfold G9;rw[List.map_cons,List.find?_cons];cases hf:Oj k e.2 with
  |true=>rfl
  |false=>exact ih
def Js(l:List Rn)(a k:Int):Prop:=Iy a k/\∀p,a<=p->p<a+k->bZ l p
theorem Zn{l:List Rn}(hl:qb l){k:Int}:(G9 k l=(0,false)/\∀a,¬Js l a k)\/∃v,G9 k l=(v,true)/\0<=v/\Js l v k/\∀a,a<v->¬Js l a k:=by
 unfold G9;cases hf:l.find? (Oj k)with
 |none=>refine .inl ⟨rfl,λa ⟨⟨o1,o2,o3⟩,h⟩=>?_⟩;obtain⟨y,hy,h1,h2⟩:=hl.SF o1 h;have:=List.find?_eq_none.1 hf y hy;refine this ?_;simp only[Oj,aiP,decide_eq_true_eq];omega
 |some y=>
  obtain⟨hp,us,bs,e,hno⟩:=List.find?_eq_some_iff_append.1 hf;have hy:y∈l:=by rw[e];simp
  have Xf:=hl.vV y hy;simp only[Oj,aiP,decide_eq_true_eq]at hp;refine .inr ⟨y.At,rfl,by omega,⟨⟨by omega,by omega,by omega⟩,λp h1 h2=>⟨y,hy,h1,by omega⟩⟩,λa ha ⟨⟨o1,o2,o3⟩,h⟩=>?_⟩;obtain⟨z,hz,h1,h2⟩:=hl.SF o1 h;have hzy:z∈us:=by
   rw[e]at hz;rcases List.mem_append.1 hz with hz|hz
   ·exact hz
   ·rcases List.mem_cons.1 hz with rfl|hz
    ·omega
    ·have M5:=hl.pw
     rw[e]at M5;have:=(List.pairwise_cons.1 (List.pairwise_append.1 M5).2.1).1 z hz;omega
  have:=hno z hzy;simp only[Oj,Bool.not_eq_true',Bool.and_eq_false_iff,decide_eq_false_iff_not]at this;omega
theorem Rz{n:Nat}{a b c:List Rn}(ha:a.length<=100)(hb:b.length<=100)(hc:c.length<=100):eX n a b c=some (a++b++c):=by
 unfold eX;have e1:wr .i64 (0+(a.length:Int))=a.length:=by rw[br (by omega) (by omega)];omega
 have e2:wr .i64 ((a.length:Int)+b.length)=(a.length:Int)+b.length:=br (by omega) (by omega);have e3:wr .i64 ((a.length:Int)+b.length+c.length)=(a.length:Int)+b.length+c.length:=br (by omega) (by omega);rw[e1,e2,e3,au (by simp),au (by simp;omega),au (by simp;omega)];have hg:dQ n ((a.length:Int)+b.length+c.length)=some ():=by
  unfold dQ;simp only[aP];rw[au (by simp;omega),br (by omega) (by omega)];by_cases h0:0<(a.length:Int)+b.length+c.length
  ·rw[aU (by simp;omega),bH]
   simp only[KT,decide_eq_true_eq];omega
  ·rw[au (by simp;omega)]
 rw[ak hg,bH (ni (by simp;omega) (by simp;omega)),aP,bH (ni (by simp;omega) (by simp;omega)),aP,bH (ni (by simp;omega) (by simp;omega)),aP];rfl
theorem qb.cut{l:List Rn}(h:qb l){i:Nat}(hi:i<l.length){left:List Rn}{at_ k:Int}(hk:1<=k)(hin:l[i].At<=at_/\at_+k<=l[i].At+l[i].N)
  (hl:qb left)(hm:∀p,bZ left p↔(l[i].At<=p/\p<l[i].At+l[i].N)/\¬(at_<=p/\p<at_+k))(hb:∀y∈left,l[i].At<=y.At/\y.At+y.N<=l[i].At+l[i].N):
  qb (l.take i++left++l.drop (i+1))/\∀p,bZ (l.take i++left++l.drop (i+1)) p↔bZ l p/\¬(at_<=p/\p<at_+k):=by
 have e:l=l.take i++l[i]::l.drop (i+1):=by rw[← List.drop_eq_getElem_cons hi,List.take_append_drop]
 generalize hy:l[i]=y at *;have M5:=h.pw;rw[e]at M5;obtain⟨q1,q2,q3⟩:=List.pairwise_append.1 M5;obtain⟨q4,q5⟩:=List.pairwise_cons.1 q2;have hyl:y∈l:=by rw[e];simp
 have Xf:=h.vV y hyl;refine⟨⟨?_,?_⟩,λp=>?_⟩
 ·intro z hz
  rcases List.mem_append.1 hz with hz|hz
  ·rcases List.mem_append.1 hz with hz|hz
   ·exact h.vV z (List.mem_of_mem_take hz)
   ·exact hl.vV z hz
  ·exact h.vV z (List.mem_of_mem_drop hz)
 ·refine List.pairwise_append.2 ⟨List.pairwise_append.2 ⟨q1,hl.pw,λa ha b hb'=>?_⟩,q5,λa ha b hb'=>?_⟩
  ·have:=q3 a ha y (by simp);have:=hb b hb';omega
  ·rcases List.mem_append.1 ha with ha|ha
   ·exact q3 a ha b (by simp[hb'])
   ·have:=q4 b hb';have:=hb a ha;omega
 ·have hp:bZ l p↔bZ (l.take i) p\/(y.At<=p/\p<y.At+y.N)\/bZ (l.drop (i+1)) p:=by
   conv=>lhs;rw[e,jM,fQ]
  rw[jM,jM,hm p,hp];have t1:bZ (l.take i) p->p<y.At:=λ⟨z,hz,h1,h2⟩=>by have:=q3 z hz y (by simp);omega
  have t2:bZ (l.drop (i+1)) p->y.At+y.N<p:=λ⟨z,hz,h1,h2⟩=>by have:=q4 z hz;omega
  constructor
  ·rintro((c|⟨c1,c2⟩)|c)
   ·have:=t1 c;exact⟨.inl c,by omega⟩
   ·exact⟨.inr (.inl c1),c2⟩
   ·have:=t2 c;exact⟨.inr (.inr c),by omega⟩
  ·rintro⟨c|c|c,d⟩
   ·exact .inl (.inl c)
   ·exact .inl (.inr ⟨c,d⟩)
   ·exact .inr c
theorem XH{n:Nat}(hn:110<=n){r:bj}(hr:qb r.l){at_ k:Int}(ha:Si at_)(hk:Si k):
  ∃r' g,jK n r at_ k=some (r',g)/\(g=true↔Js r.l at_ k)/\(g=false->r'=r)/\(g=true->qb r'.l/\∀p,bZ r'.l p↔bZ r.l p/\¬(at_<=p/\p<at_+k)):=by
 unfold jK;rw[aP];obtain⟨b,hb,hb'⟩:=NQ (n:=n) ha hk;rw[ak hb];cases b with
 |false=>refine⟨r,false,rfl,⟨λh=>(by cases h),λh=>hb'.2 h.1⟩,λ_ =>rfl,λh=>(by cases h)⟩
 |true=>
  have ho:=hb'.1 rfl;obtain⟨o1,o2,o3⟩:=ho;obtain⟨v,h1,h2⟩:=Mg hn hr (x:=⟨at_,k⟩) ⟨o1,o2,o3⟩;rw[au (b:= !true) rfl,ak h1];rcases h2 with⟨rfl,h2⟩|⟨i,hi,rfl,h2⟩
  ·refine⟨r,false,rfl,⟨λh=>(by cases h),λh=>?_⟩,λ_ =>rfl,λh=>(by cases h)⟩
   obtain⟨y,hy,h3,h4⟩:=hr.SF o1 h.2;exact absurd ⟨h3,h4⟩ (h2 y hy)
  ·have hlen:=hr.len
   have Xf:=hr.vV _ (List.getElem_mem hi);have hg:r.l.getD (Int.toNat (i:Int)) default=r.l[i]:=by rw[aiR,List.getD,aiV hi];rfl
   have hin:r.l[i].At<=at_/\at_+k<=r.l[i].At+r.l[i].N:=h2;have e1:wr .i64 ((i:Int)+1)=((i+1:Nat):Int):=by rw[br (by omega) (by omega)];omega
   rw[au (by simp),bH (gU (by omega) (by omega)),aP,hg];have fin:∀left:List Rn,left.length<=2->qb left->(∀p,bZ left p↔(r.l[i].At<=p/\p<r.l[i].At+r.l[i].N)/\¬(at_<=p/\p<at_+k))->(∀y∈left,r.l[i].At<=y.At/\y.At+y.N<=r.l[i].At+r.l[i].N)->
     ∃r' g,(gu (dg (i:Int) (r.l.length+1))<|gu (dg (wr .i64 ((i:Int)+1)) (r.l.length+1))<|bd (eX n (r.l.take (Int.toNat (i:Int))) left (r.l.drop (Int.toNat (wr .i64 ((i:Int)+1))))) λJO=>lt ({l:=JO}:bj) λC3=>some (C3,true))=some (r',g)/\
      (g=true↔Js r.l at_ k)/\(g=false->r'=r)/\(g=true->qb r'.l/\∀p,bZ r'.l p↔bZ r.l p/\¬(at_<=p/\p<at_+k)):=λleft c1 c2 c3 c4=>by
    rw[e1,bH (gU (by omega) (by omega)),bH (gU (by omega) (by omega)),aiR,aiR,ak (Rz (by rw[List.length_take];omega) (by omega) (by rw[List.length_drop];omega))];exact⟨_,true,rfl,⟨λ_ =>⟨⟨o1,o2,o3⟩,Pt (x:=⟨at_,k⟩) h2 ⟨o1,o2,o3⟩ (List.getElem_mem hi)⟩,λ_ =>rfl⟩,λh=>(by cases h),λ_ =>hr.cut hi o1 hin c2 c3 c4⟩
   generalize hy:r.l[i]=y at *;dsimp only[lt];have ex:bF n (⟨at_,k⟩:Rn)=some (at_+k):=DP (y:=⟨at_,k⟩) ⟨o2,o1,o3⟩;have ey:bF n y=some (y.At+y.N):=DP Xf;by_cases c1:y.At<at_
   ·rw[aU (by simpa using c1),br (x:=at_-y.At) (by omega) (by omega),bH (ni (by simp) (by simp)),ak ex,ak ey]
    by_cases c2:at_+k<y.At+y.N
    ·rw[aU (by simpa using c2),ak ex,ak ey,ak ex,br (x:=y.At+y.N-(at_+k)) (by omega) (by omega),bH (ni (by simp) (by simp))]
     refine fin [⟨y.At,at_-y.At⟩,⟨at_+k,y.At+y.N-(at_+k)⟩] (by simp) ⟨?_,?_⟩ (λp=>?_) ?_
     ·intro z hz
      simp only[List.nil_append,List.cons_append,List.mem_cons,List.not_mem_nil,or_false]at hz;rcases hz with rfl|rfl<;>dsimp only<;>omega
     ·refine List.pairwise_cons.2 ⟨λz hz=>?_,List.pairwise_singleton _ _⟩
      obtain rfl:=List.mem_singleton.1 hz;dsimp only;omega
     ·simp only[List.nil_append,List.cons_append,fQ,kO,or_false];omega
     ·intro z hz
      simp only[List.nil_append,List.cons_append,List.mem_cons,List.not_mem_nil,or_false]at hz;rcases hz with rfl|rfl<;>dsimp only<;>omega
    ·rw[au (by simpa using c2)]
     refine fin [⟨y.At,at_-y.At⟩] (by simp) ⟨?_,List.pairwise_singleton _ _⟩ (λp=>?_) ?_
     ·intro z hz
      obtain rfl:=List.mem_singleton.1 hz;dsimp only;omega
     ·simp only[List.nil_append,fQ,kO,or_false];omega
     ·intro z hz
      obtain rfl:=List.mem_singleton.1 hz;dsimp only;omega
   ·rw[au (by simpa using c1),ak ex,ak ey]
    by_cases c2:at_+k<y.At+y.N
    ·rw[aU (by simpa using c2),ak ex,ak ey,ak ex,br (x:=y.At+y.N-(at_+k)) (by omega) (by omega),bH (ni (by simp) (by simp))]
     refine fin [⟨at_+k,y.At+y.N-(at_+k)⟩] (by simp) ⟨?_,List.pairwise_singleton _ _⟩ (λp=>?_) ?_
     ·intro z hz
      obtain rfl:=List.mem_singleton.1 hz;dsimp only;omega
     ·simp only[List.nil_append,fQ,kO,or_false];omega
     ·intro z hz
      obtain rfl:=List.mem_singleton.1 hz;dsimp only;omega
    ·rw[au (by simpa using c2)]
     refine fin _ (by simp) qb.nil (λp=>?_) (by simp);simp only[kO,false_iff];omega
end Go.Proofs.Z
namespace Go.Proofs.Z
open Go Go.Bw
structure GI(l:List Rn)(at_ k:Int)(pre rest:List Rn)(put:Bool)(out:List Rn)(x:Rn):Prop where
 e:l=pre++rest
 dX:∀p,bZ pre p->¬(at_<=p/\p<at_+k)
 lo:x.At<=at_/\(x.At=at_\/∃z∈pre,z.At+z.N=at_)
 hi:at_+k<=x.At+x.N/\(x.At+x.N=at_+k\/∃z∈pre,z.At+z.N=x.At+x.N)
 vV:0<=x.At/\1<=x.N/\x.At+x.N<=64
 off:put=false->qb (out++[x])/\(∀z∈out,z∈pre)/\∀p,bZ (out++[x]) p↔bZ pre p\/(at_<=p/\p<at_+k)
 on:put=true->qb out/\(∀z∈out,z∈pre\/z=x)/\(∃z∈pre,x.At+x.N<z.At)/\∀p,bZ out p↔bZ pre p\/(at_<=p/\p<at_+k)
theorem qE{l:List Rn}{y:Rn}(h:qb l)(hy:0<=y.At/\1<=y.N/\y.At+y.N<=64)(ha:∀z∈l,z.At+z.N<y.At):qb (l++[y]):=
 ⟨λz hz=>by
  rcases List.mem_append.1 hz with hz|hz
  ·exact h.vV z hz
  ·rw[List.mem_singleton.1 hz];exact hy,
  List.pairwise_append.2 ⟨h.pw,List.pairwise_singleton _ _,λa ha' b hb=>by rw[List.mem_singleton.1 hb];exact ha a ha'⟩⟩
theorem qb.init{l:List Rn}{y:Rn}(h:qb (l++[y])):qb l:=⟨λz hz=>h.vV z (by simp[hz]),(List.pairwise_append.1 h.pw).1⟩
theorem qb.IA{l:List Rn}{y:Rn}(h:qb (l++[y])):∀z∈l,z.At+z.N<y.At:=λz hz=>(List.pairwise_append.1 h.pw).2.2 z hz y (by simp)
theorem eZ{y:Rn}{p:Int}:bZ [y] p↔y.At<=p/\p<y.At+y.N:=by rw[fQ];simp[bZ]
def af1(r':bj)(g:Bool)(l:List Rn)(r:bj)(at_ k:Int):Prop:=(g=true↔∀p,at_<=p->p<at_+k->¬bZ l p)/\(g=false->r'=r)/\(g=true->qb r'.l/\∀p,bZ r'.l p↔bZ l p\/(at_<=p/\p<at_+k))
theorem Za{n:Nat}{r:bj}{l:List Rn}(hl:qb l){at_ k:Int}(ho:Iy at_ k):∀(xs:List (Int×Rn)) (pre:List Rn) (put:Bool) (out:List Rn) (x:Rn),GI l at_ k pre (xs.map Prod.snd) put out x->
  ∃r' g,UC (λ(e56:Int×av) YK (dV:Bool) (jk:(List av)) (gF:av)=>lt (e56.1:Int) λ_=>lt (e56.2:av) λqc=>bd (bF n qc) λyg=>cn (decide (yg<gF.At)) (gu (gC jk.length 1 16)<|lt (jk++([qc]):List av) λFX=>YK dV FX gF) (bd (bF n gF) λJQ=>cn (decide (JQ<qc.At)) (lt (λ(Sw:Bool) (QA:(List av))=>gu (gC QA.length 1 16)<|lt (QA++([qc]):List av) λJN=>YK Sw JN gF) λj67=>cn ((!dV)) (gu (gC jk.length 1 16)<|lt (jk++([gF]):List av) λIk=>j67 true Ik) (j67 dV jk)) (bd (bF n qc) λC3=>cn ((C3==gF.At)) (lt ({At:=qc.At,N:=wr .i64 (qc.N+gF.N)}:av) λSs=>YK dV jk Ss) (bd (bF n gF) λQz=>cn ((qc.At==Qz)) (lt ({gF with N:=wr .i64 (gF.N+qc.N)}:av) λQy=>YK dV jk Qy) (some (r,false)))))) (λ(dV:Bool) (jk:(List av)) (gF:av)=>cn ((!dV)) (gu (gC jk.length 1 16)<|lt (jk++([gF]):List av) λEL=>lt ({l:=EL}:bj) λx87=>some (x87,true)) (lt ({l:=jk}:bj) λx93=>some (x93,true))) xs put out x=some (r',g)/\af1 r' g l r at_ k:=by
 intro xs
 induction xs with
 |nil=>
  intro pre put out x h;have e:l=pre:=by have:=h.e;simpa using this
  subst e;show∃r' g,cn (!put) (gu (gC out.length 1 16)<|some ((⟨out++[x]⟩:bj),true)) (some ((⟨out⟩:bj),true))=some (r',g)/\_;have hfree:∀p,at_<=p->p<at_+k->¬bZ l p:=λp h1 h2 hm=>h.dX p hm ⟨h1,h2⟩;cases put with
  |false=>obtain⟨c1,c2,c3⟩:=h.off rfl;have:=c1.init.len;rw[aU (b:= !false) rfl,bH (ni (by omega) (by omega))];exact⟨_,true,rfl,⟨λ_ =>hfree,λ_ =>rfl⟩,λh=>(by cases h),λ_ =>⟨c1,c3⟩⟩
  |true=>obtain⟨c1,c2,c3,c4⟩:=h.on rfl;rw[au (b:= !true) rfl];exact⟨_,true,rfl,⟨λ_ =>hfree,λ_ =>rfl⟩,λh=>(by cases h),λ_ =>⟨c1,c4⟩⟩
 |cons q xs ih=>
  obtain⟨qi,y⟩:=q;intro pre put out x h;have he:l=(pre++[y])++xs.map Prod.snd:=by rw[h.e];simp
  have hyl:y∈l:=by rw[h.e];simp
  have Xf:=hl.vV y hyl;have hpre:∀z∈pre,z.At+z.N<y.At:=λz hz=>by have M5:=hl.pw;rw[he]at M5;exact(List.pairwise_append.1 (List.pairwise_append.1 M5).1).2.2 z hz y (by simp)
  have hzr:∀z∈pre,0<=z.At/\1<=z.N/\z.At+z.N<=64:=λz hz=>hl.vV z (by rw[h.e];simp[hz]);obtain⟨o1,o2,o3⟩:=ho;obtain⟨lo1,lo2⟩:=h.lo;obtain⟨hi1,hi2⟩:=h.hi;have hxr:=h.vV;have ey:bF n y=some (y.At+y.N):=DP Xf;have ex:bF n x=some (x.At+x.N):=DP hxr;have hfree:(∀p,y.At<=p->p<y.At+y.N->¬(at_<=p/\p<at_+k))->∀p,bZ (pre++[y]) p->¬(at_<=p/\p<at_+k):=λhy p hp=>by
   rcases jM.1 hp with hp|hp
   ·exact h.dX p hp
   ·obtain⟨h1,h2⟩:=eZ.1 hp;exact hy p h1 h2
  have GQ:∀{z},z∈pre->z∈pre++[y]:=λhz=>by simp[hz]
  have hlo:x.At=at_\/∃z∈pre++[y],z.At+z.N=at_:=lo2.imp id λ⟨z,hz,e⟩=>⟨z,GQ hz,e⟩;have hhi:x.At+x.N=at_+k\/∃z∈pre++[y],z.At+z.N=x.At+x.N:=hi2.imp id λ⟨z,hz,e⟩=>⟨z,GQ hz,e⟩;have hmy:∀p,bZ (pre++[y]) p↔bZ pre p\/(y.At<=p/\p<y.At+y.N):=λp=>by rw[jM,eZ]
  have hput:put=true->x.At+x.N<y.At:=λhp=>by obtain⟨z,hz,h1⟩:=(h.on hp).2.2.1;have:=hpre z hz;have:=hzr z hz;omega
  simp only[UC];dsimp only[lt];rw[ak ey];by_cases c1:y.At+y.N<x.At
  ·have hf:put=false:=by
    cases put with
    |false=>rfl
    |true=>have:=hput rfl;omega
   subst hf;obtain⟨d1,d2,d3⟩:=h.off rfl;have hlen:=d1.init.len;rw[aU (by simpa using c1),bH (ni (by omega) (by omega))];refine ih (pre++[y]) false (out++[y]) x ⟨he,hfree λp h1 h2=>by omega,⟨lo1,hlo⟩,⟨hi1,hhi⟩,hxr,λ_ =>⟨?_,?_,λp=>?_⟩,λh=>by cases h⟩
   ·refine qE (qE d1.init Xf λz hz=>hpre z (d2 z hz)) hxr λz hz=>?_
    rcases List.mem_append.1 hz with hz|hz
    ·exact d1.IA z hz
    ·rw[List.mem_singleton.1 hz];exact c1
   ·intro z hz
    rcases List.mem_append.1 hz with hz|hz
    ·exact GQ (d2 z hz)
    ·rw[List.mem_singleton.1 hz];simp
   ·have:=d3 p
    rw[jM,eZ]at this ⊢;rw[jM,eZ,hmy];constructor
    ·rintro((c|c)|c)
     ·rcases this.1 (.inl c)with c|c
      ·exact .inl (.inl c)
      ·exact .inr c
     ·exact .inl (.inr c)
     ·rcases this.1 (.inr c)with c|c
      ·exact .inl (.inl c)
      ·exact .inr c
    ·rintro((c|c)|c)
     ·rcases this.2 (.inl c)with c|c
      ·exact .inl (.inl c)
      ·exact .inr c
     ·exact .inl (.inr c)
     ·rcases this.2 (.inr c)with c|c
      ·exact .inl (.inl c)
      ·exact .inr c
  rw[au (by simpa using c1),ak ex];by_cases c2:x.At+x.N<y.At
  ·rw[aU (by simpa using c2)]
   have hfr:=hfree λp h1 h2=>by omega
   cases put with
   |false=>
    obtain⟨d1,d2,d3⟩:=h.off rfl;have hlen:=d1.init.len;have UQ:=d1.len;rw[aU (b:= !false) rfl,bH (ni (by omega) (by omega)),bH (ni (by omega) (by omega))];refine ih (pre++[y]) true (out++[x]++[y]) x ⟨he,hfr,⟨lo1,hlo⟩,⟨hi1,hhi⟩,hxr,λh=>(by cases h),λ_ =>⟨?_,?_,⟨y,by simp,c2⟩,λp=>?_⟩⟩
    ·refine qE d1 Xf λz hz=>?_
     rcases List.mem_append.1 hz with hz|hz
     ·exact hpre z (d2 z hz)
     ·rw[List.mem_singleton.1 hz];exact c2
    ·intro z hz
     simp only[List.mem_append,List.mem_singleton]at hz;rcases hz with(hz|hz)|hz
     ·exact .inl (GQ (d2 z hz))
     ·exact .inr hz
     ·exact .inl (by simp[hz])
    ·rw[jM,eZ,d3 p,hmy]
     constructor
     ·rintro((c|c)|c)
      ·exact .inl (.inl c)
      ·exact .inr c
      ·exact .inl (.inr c)
     ·rintro((c|c)|c)
      ·exact .inl (.inl c)
      ·exact .inr c
      ·exact .inl (.inr c)
   |true=>
    obtain⟨d1,d2,d3,d4⟩:=h.on rfl;have hlen:=d1.len;rw[au (b:= !true) rfl,bH (ni (by omega) (by omega))];refine ih (pre++[y]) true (out++[y]) x ⟨he,hfr,⟨lo1,hlo⟩,⟨hi1,hhi⟩,hxr,λh=>(by cases h),λ_ =>⟨?_,?_,⟨y,by simp,c2⟩,λp=>?_⟩⟩
    ·refine qE d1 Xf λz hz=>?_
     rcases d2 z hz with hz|rfl
     ·exact hpre z hz
     ·exact c2
    ·intro z hz
     rcases List.mem_append.1 hz with hz|hz
     ·exact(d2 z hz).imp GQ id
     ·exact .inl (by simp[List.mem_singleton.1 hz])
    ·rw[jM,eZ,d4 p,hmy]
     constructor
     ·rintro((c|c)|c)
      ·exact .inl (.inl c)
      ·exact .inr c
      ·exact .inl (.inr c)
     ·rintro((c|c)|c)
      ·exact .inl (.inl c)
      ·exact .inr c
      ·exact .inl (.inr c)
  have hf:put=false:=by
   cases put with
   |false=>rfl
   |true=>have:=hput rfl;omega
  subst hf;obtain⟨d1,d2,d3⟩:=h.off rfl;rw[au (by simpa using c2),ak ey];by_cases c3:y.At+y.N=x.At
  ·rw[aU (by simpa using c3),br (by omega) (by omega)]
   have hat:x.At=at_:=by
    rcases lo2 with e|⟨z,hz,e⟩
    ·exact e
    ·have:=hpre z hz;omega
   refine ih (pre++[y]) false out ⟨y.At,y.N+x.N⟩ ⟨he,hfree λp h1 h2=>by omega,⟨by dsimp only;omega, .inr ⟨y,by simp,by omega⟩⟩,⟨by dsimp only;omega,?_⟩,by dsimp only;omega,λ_ =>⟨?_,λz hz=>GQ (d2 z hz),λp=>?_⟩,λh=>by cases h⟩
   ·rcases hhi with e|⟨z,hz,e⟩
    ·exact .inl (by dsimp only;omega)
    ·exact .inr ⟨z,hz,by dsimp only;omega⟩
   ·exact qE d1.init (by dsimp only;omega) λz hz=>hpre z (d2 z hz)
   ·have:=d3 p
    rw[jM,eZ]at this ⊢;rw[hmy];dsimp only;constructor
    ·rintro(c|c)
     ·rcases this.1 (.inl c)with c|c
      ·exact .inl (.inl c)
      ·exact .inr c
     ·by_cases hp:p<x.At
      ·exact .inl (.inr (by omega))
      ·rcases this.1 (.inr (by omega))with c|c
       ·exact .inl (.inl c)
       ·exact .inr c
    ·rintro((c|c)|c)
     ·rcases this.2 (.inl c)with c|c
      ·exact .inl c
      ·exact .inr (by omega)
     ·exact .inr (by omega)
     ·exact .inr (by omega)
  rw[au (by simpa using c3),ak ex];by_cases c4:y.At=x.At+x.N
  ·rw[aU (by simpa using c4),br (by omega) (by omega)]
   refine ih (pre++[y]) false out ⟨x.At,x.N+y.N⟩ ⟨he,hfree λp h1 h2=>by omega,⟨lo1,hlo⟩,⟨by dsimp only;omega, .inr ⟨y,by simp,by dsimp only;omega⟩⟩,by dsimp only;omega,λ_ =>⟨?_,λz hz=>GQ (d2 z hz),λp=>?_⟩,λh=>by cases h⟩
   ·exact qE d1.init (by dsimp only;omega) λz hz=>d1.IA z hz
   ·have:=d3 p
    rw[jM,eZ]at this ⊢;rw[hmy];dsimp only;constructor
    ·rintro(c|c)
     ·rcases this.1 (.inl c)with c|c
      ·exact .inl (.inl c)
      ·exact .inr c
     ·by_cases hp:p<x.At+x.N
      ·rcases this.1 (.inr (by omega))with c|c
       ·exact .inl (.inl c)
       ·exact .inr c
      ·exact .inl (.inr (by omega))
    ·rintro((c|c)|c)
     ·rcases this.2 (.inl c)with c|c
      ·exact .inl c
      ·exact .inr (by omega)
     ·exact .inr (by omega)
     ·exact .inr (by omega)
  rw[au (by simpa using c4)];refine⟨r,false,rfl,⟨λh=>(by cases h),λhno=>?_⟩,λ_ =>rfl,λh=>(by cases h)⟩;have g1:y.At<at_+k:=by
   rcases hi2 with e|⟨z,hz,e⟩
   ·omega
   ·have:=hpre z hz;omega
  have g2:at_<y.At+y.N:=by
   rcases lo2 with e|⟨z,hz,e⟩
   ·omega
   ·have:=hpre z hz;omega
  by_cases g3:at_<=y.At
  ·exact absurd ⟨y,hyl,by omega,by omega⟩ (hno y.At g3 g1)
  ·exact absurd ⟨y,hyl,by omega,by omega⟩ (hno at_ (by omega) (by omega))
theorem PC{n:Nat}(hn:110<=n){r:bj}(hr:qb r.l){at_ k:Int}(ha:Si at_)(hk:Si k):
  ∃r' g,lV n r at_ k=some (r',g)/\(g=true↔Iy at_ k/\∀p,at_<=p->p<at_+k->¬bZ r.l p)/\(g=false->r'=r)/\(g=true->qb r'.l/\∀p,bZ r'.l p↔bZ r.l p\/(at_<=p/\p<at_+k)):=by
 unfold lV;rw[aP];obtain⟨b,hb,hb'⟩:=NQ (n:=n) ha hk;rw[ak hb];cases b with
 |false=>exact⟨r,false,rfl,⟨λh=>(by cases h),λh=>hb'.2 h.1⟩,λ_ =>rfl,λh=>(by cases h)⟩
 |true=>
  have ho:=hb'.1 rfl;obtain⟨o1,o2,o3⟩:=ho;rw[au (b:= !true) rfl,ak (PW n r)];obtain⟨xs,h1,h2⟩:=VW (n:=n) (l:=r.l) (by have:=hr.len;omega) hn;rw[ak h1];obtain⟨r',g,h3,h4,h5,h6⟩:=Za (n:=n) (r:=r) hr (at_:=at_) (k:=k) ⟨o1,o2,o3⟩ xs [] false [] ⟨at_,k⟩ ⟨by simpa using h2.symm,λp hp=>absurd hp (kO p),⟨Int.le_refl _, .inl rfl⟩,⟨Int.le_refl _, .inl rfl⟩,⟨o2,o1,o3⟩,
   λ_ =>⟨qE qb.nil ⟨o2,o1,o3⟩ (by simp),by simp,λp=>by rw[List.nil_append,eZ];simp[kO]⟩,λh=>by cases h⟩
  exact⟨r',g,h3,⟨λhg=>⟨⟨o1,o2,o3⟩,h4.1 hg⟩,λhg=>h4.2 hg.2⟩,h5,h6⟩
end Go.Proofs.Z
namespace Go.Proofs.Z
open Go Go.Bw
theorem Yj{k:IntKind}{a b:Nat}(ha:a<2^IntKind.up k)(hb:b<2^IntKind.up k):orI k a b=((a|||b:Nat):Int):=by unfold orI;rw[BitVec.toNat_or,vQ (FO k ha),vQ (FO k hb)];exact Sz (Nat.or_lt_two_pow ha hb)
def ov(y:Rn)(i:Int):Int:=if i<=y.At then 0 else if y.At+y.N<=i then y.N else i-y.At
def xk(l:List Rn)(i:Int):Int:=(l.map λy=>ov y i).sum
theorem wo(y:Rn)(l:List Rn)(i:Int):xk (y::l) i=ov y i+xk l i:=rfl
theorem s7:∀{l:List Rn},qb l->xk l 0=0
 |[],_ =>rfl
 |y::r,h=>by have hy:=h.vV y (by simp);rw[wo,s7 ⟨λz hz=>h.vV z (by simp[hz]),(List.pairwise_cons.1 h.pw).2⟩];unfold ov;rw[aiM hy.1];rfl
theorem s8:∀{l:List Rn},qb l->∀i:Int,(bZ l i->xk l (i+1)=xk l i+1)/\(¬bZ l i->xk l (i+1)=xk l i)
 |[],_,i=>⟨λh=>absurd h (kO i),λ_ =>rfl⟩
 |y::r,h,i=>by
  obtain⟨h1,h2⟩:=List.pairwise_cons.1 h.pw;have hy:=h.vV y (by simp);obtain⟨i1,i2⟩:=s8 (l:=r) ⟨λz hz=>h.vV z (by simp[hz]),h2⟩ i;rw[wo,wo,fQ];by_cases c:y.At<=i/\i<y.At+y.N
  ·have hn:¬bZ r i:=λ⟨z,hz,a,b⟩=>by have:=h1 z hz;omega
   rw[i2 hn];refine⟨λ_ =>?_,λhh=>absurd (.inl c) hh⟩;unfold ov;rw[aiN (by omega)];split<;>split<;>omega
  ·have e:ov y (i+1)=ov y i:=by
    unfold ov
    (repeat' split)<;>omega
   rw[e];refine⟨λhh=>?_,λhh=>?_⟩
   ·rw[i1 (hh.resolve_left c)];omega
   ·rw[i2 λhm=>hh (.inr hm)]
def bE(l:List Rn):Int:=(l.map λy=>y.N).sum
theorem gI(y:Rn)(l:List Rn):bE (y::l)=y.N+bE l:=rfl
theorem vz:∀{l:List Rn},qb l->xk l 64=bE l
 |[],_ =>rfl
 |y::r,h=>by have hy:=h.vV y (by simp);rw[wo,gI,vz ⟨λz hz=>h.vV z (by simp[hz]),(List.pairwise_cons.1 h.pw).2⟩];unfold ov;rw[aiN (by omega),aiM hy.2.2]
theorem LD:∀{l:List Rn} {lo:Int},qb l->(∀y∈l,lo<=y.At)->lo<=65->0<=bE l/\bE l<=65-lo
 |[],lo,_,_,h=>by simp[bE];omega
 |y::r,lo,h,hl,_ =>by obtain⟨h1,h2⟩:=List.pairwise_cons.1 h.pw;have hy:=h.vV y (by simp);have hy':=hl y (by simp);have:=LD (l:=r) (lo:=y.At+y.N+1) ⟨λz hz=>h.vV z (by simp[hz]),h2⟩ (λz hz=>by have:=h1 z hz;omega) (by omega);rw[gI];omega
theorem MC{n:Nat}:∀(xs:List (Int×Rn)) (s:Int),0<=s->s<=1000000-bE (xs.map Prod.snd)->(∀e∈xs,1<=e.2.N)->
  xJ (λ(e35:Int×av) YL (eH:Int)=>lt (e35.1:Int) λ_=>lt (e35.2:av) λcJ=>lt (wr .i64 (eH+cJ.N):Int) λjx=>YL jx) (λ(eH:Int)=>some eH) xs s=some (s+bE (xs.map Prod.snd))
 |[],s,_,_,_ =>by show some s=_;simp[bE]
 |e::xs,s,h0,h1,h2=>by
  have:=h2 e (by simp);have hs:0<=bE (xs.map Prod.snd):=by
   clear h1 h0;have h3:∀e∈xs,1<=e.2.N:=λe he=>h2 e (by simp[he]);clear h2 this
   induction xs with
   |nil=>simp[bE]
   |cons a xs ih=>have:=h3 a (by simp);have:=ih λe he=>h3 e (by simp[he]);rw[List.map_cons,gI];omega
  rw[List.map_cons,gI]at h1 ⊢;show xJ _ _ xs (wr .i64 (s+e.2.N))=_;rw[br (by omega) (by omega),MC (n:=n) xs (s+e.2.N) (by omega) (by omega) (λe he=>h2 e (by simp[he]))];congr 1;omega
end Go.Proofs.Z
namespace Go.Proofs.Z
open Go Go.Bw
theorem IY{l m x:List Rn}(hl:qb l)(hm:qb m)(hx:qb x)(h1:∀p,bZ l p↔bZ m p\/bZ x p)(h2:∀p,bZ m p->¬bZ x p):bE l=bE m+bE x:=by
 have key:∀i:Nat,xk l i=xk m i+xk x i:=by
  intro i
  induction i with
  |zero=>rw[Int.natCast_zero,s7 hl,s7 hm,s7 hx];rfl
  |succ i ih=>
   have e:((i+1:Nat):Int)=(i:Int)+1:=by omega
   rw[e];obtain⟨a1,a2⟩:=s8 hl i;obtain⟨b1,b2⟩:=s8 hm i;obtain⟨c1,c2⟩:=s8 hx i;by_cases c:bZ m i
   ·rw[a1 ((h1 _).2 (.inl c)),b1 c,c2 (h2 _ c),ih];omega
   ·by_cases d:bZ x i
    ·rw[a1 ((h1 _).2 (.inr d)),b2 c,c1 d,ih];omega
    ·rw[a2 (λh=>((h1 _).1 h).elim c d),b2 c,c2 d,ih]
 have:=key 64;rw[show((64:Nat):Int)=64 from rfl,vz hl,vz hm,vz hx]at this;exact this
theorem K6{a k:Int}(h:Iy a k):qb [(⟨a,k⟩:Rn)]:=qE (l:=[]) qb.nil (by unfold Iy at h;exact⟨h.2.1,h.1,h.2.2⟩) (by simp)
theorem wq(a k:Int):bE [(⟨a,k⟩:Rn)]=k:=by simp[bE]
theorem sA:∀(k:Nat) {t:List Int},t.Nodup->(∀p∈t,0<=p/\p<(k:Int))->t.length<=k
 |0,[],_,_ =>Nat.le_refl _
 |0,x::t,_,h=>by have:=h x (by simp);omega
 |k+1,t,hn,h=>by
  by_cases hk:(k:Int)∈t
  ·have h1:=sA k (hn.erase (k:Int)) λx hx=>by
    have h2:=h x (List.mem_of_mem_erase hx);have h3:x≠k:=λe=>by subst e;exact(List.Nodup.not_mem_erase hn) hx
    omega
   rw[List.length_erase_of_mem hk]at h1;omega
  ·have h1:=sA k hn λx hx=>by
    have h2:=h x hx;have h3:x≠k:=λe=>hk (e▸hx);omega
   omega
end Go.Proofs.Z
namespace Go.Proofs.Z
open Go Go.Bw
def tv(s a:Int):Bool:=(decide (1<=s)&&decide (s<=128))&&((((a==1)||(a==2))||(a==4))||(a==8))
theorem MD{n:Nat}(hn:5<=n)(a:Int):gy n ([1,2,4,8]:List Int) a=some ((((a==1)||(a==2))||(a==4))||(a==8)):=by
 obtain⟨m,rfl⟩:∃m,n=m+5:=⟨n-5,by omega⟩;unfold gy oM;have e1:wr .i64 (0+1)=1:=by decide
 have e2:wr .i64 (1+1)=2:=by decide
 have e3:wr .i64 (2+1)=3:=by decide
 have e4:wr .i64 (3+1)=4:=by decide
 simp only[iw,e1,e2,e3,e4];by_cases h1:a=1
 ·subst h1;rfl
 by_cases h2:a=2
 ·subst h2;rfl
 by_cases h3:a=4
 ·subst h3;rfl
 by_cases h4:a=8
 ·subst h4;rfl
 have g1:(a==1)=false:=by simpa using h1
 have g2:(a==2)=false:=by simpa using h2
 have g3:(a==4)=false:=by simpa using h3
 have g4:(a==8)=false:=by simpa using h4
 simp[cn,gu,dg,bd,g1,g2,g3,g4]
theorem Jh{n:Nat}(hn:5<=n)(s a:Int):kV n s a=some (tv s a):=by unfold kV;rw[zQ (MD hn a)];unfold tv;cases h:(decide (1<=s)&&decide (s<=128))<;>simp
theorem zS{x:Nat}{m:Nat}(hm:m<=3)(hx:x<2^62):zT .i64 (x:Int) ((2^m-1:Nat):Int)=((x/2^m*2^m:Nat):Int):=by
 unfold zT;have e1:(BitVec.ofInt 64 (x:Int)&&& ~~~BitVec.ofInt 64 ((2^m-1:Nat):Int)).toNat=x/2^m*2^m:=by
  refine Nat.eq_of_testBit_eq λi=>?_;have hb:(BitVec.ofInt 64 (x:Int)).toNat=x:=vQ (k:= .i64) (by show x<2^64;omega);have hc:(BitVec.ofInt 64 ((2^m-1:Nat):Int)).toNat=2^m-1:=vQ (k:= .i64) (by show 2^m-1<2^64;have:2^m<=2^3:=Nat.pow_le_pow_right (by decide) hm;omega);rw[BitVec.toNat_and,Nat.testBit_and,hb,Nat.testBit_mul_two_pow,Nat.testBit_div_two_pow,BitVec.testBit_toNat,BitVec.getLsbD_not, ← BitVec.testBit_toNat,hc,Nat.testBit_two_pow_sub_one];by_cases h1:m<=i
  ·have h2:¬i<m:=by omega
   rw[show i-m+m=i by omega];by_cases h3:i<64
   ·simp[h1,h2,h3]
   ·have:x.testBit i=false:=Nat.testBit_lt_two_pow (Nat.lt_of_lt_of_le hx (Nat.pow_le_pow_right (by decide) (by omega)))
    simp[h1,h2,this]
  ·have h2:i<m:=by omega
   simp[h1,h2]
 show IntKind.i64.wrap ((BitVec.ofInt 64 (x:Int)&&& ~~~BitVec.ofInt 64 ((2^m-1:Nat):Int)).toNat:Int)=_;rw[e1];have:x/2^m*2^m<=x:=Nat.div_mul_le_self _ _;exact br (by omega) (by omega)
def Qc:Int->List Rn->List (Int×Rn)
 |_,[]=>[]
 |b,y::r=>(b,y)::Qc (b+32*y.N) r
def A8(l:List Rn):Prop:=∀y∈l,1<=y.N
theorem vA:∀{l:List Rn},A8 l->0<=bE l
 |[],_ =>by simp[bE]
 |y::r,h=>by have:=h y (by simp);have:=vA (l:=r) λz hz=>h z (by simp[hz]);rw[gI];omega
theorem Jz{n:Nat}{e:aD}(hn:e.aK.length<n)(hl:e.aK.length<=1000)(hp:A8 e.aK)(hs:bE e.aK<=1000):fN n e=some (Qc 0 e.aK):=by
 unfold fN;have key:∀(m i:Nat) (b:Int),i<=e.aK.length->e.aK.length-i<m->0<=b->b+32*bE (e.aK.drop i)<=100000->eS (λk39 (ep:Int) (dP:Int)=>cn (decide (dP<(e.aK.length:Int))) (gu (dg dP e.aK.length)<|lt ((e.aK.getD (Int.toNat dP) default):av) λgF=>yl (ep,gF)<|k39 (wr .i64 (ep+(wr .i64 (gF.N*32)))) (wr .i64 (dP+1))) (some [])) m b (i:Int)=some (Qc b (e.aK.drop i)):=by
  intro m
  induction m with
  |zero=>intro i b _ h;omega
  |succ m ih=>
   intro i b hi hm hb hsum;simp only[eS];by_cases c:i<e.aK.length
   ·have hg:e.aK.getD (Int.toNat (i:Int)) default=e.aK[i]:=by rw[aiR,List.getD,aiV c];rfl
    have hy:=hp _ (List.getElem_mem c);have hd:e.aK.drop i=e.aK[i]::e.aK.drop (i+1):=List.drop_eq_getElem_cons c;rw[hd,gI]at hsum;have hr:0<=bE (e.aK.drop (i+1)):=vA λz hz=>hp z (List.mem_of_mem_drop hz);rw[aU (by simpa using c),bH (gU (by omega) (by omega)),aP,hg,hd];rw[br (x:=e.aK[i].N*32) (by omega) (by omega),br (x:=b+e.aK[i].N*32) (by omega) (by omega),br (x:=(i:Int)+1) (by omega) (by omega)];have e1:((i:Int)+1)=((i+1:Nat):Int):=by omega
    rw[e1,ih (i+1) (b+e.aK[i].N*32) (by omega) (by omega) (by omega) (by omega)];show some ((b,e.aK[i])::Qc (b+e.aK[i].N*32) (e.aK.drop (i+1)))=some ((b,e.aK[i])::Qc (b+32*e.aK[i].N) (e.aK.drop (i+1)));rw[Int.mul_comm]
   ·rw[au (by simpa using c),List.drop_eq_nil_of_le (by omega)];rfl
 have:=key n 0 0 (by omega) (by omega) (by omega) (by rw[List.drop_zero];omega);simpa using this
theorem FK:∀(l:List Rn) (b:Int),(Qc b l).map Prod.snd=l
 |[],_ =>rfl
 |y::r,b=>by rw[Qc,List.map_cons,FK r]
theorem LW{n:Nat}{e:aD}(hn:e.aK.length<n)(hl:e.aK.length<=1000)(hp:A8 e.aK)(hs:bE e.aK<=1000):cR n e=some (bE e.aK):=by unfold cR;rw[ak (show gA n e=some e from rfl),ak (Jz hn hl hp hs)];have h0:=vA hp;refine(MC (n:=n) (Qc 0 e.aK) 0 (by omega) (by rw[FK];omega) λq hq=>hp q.2 (by rw[← FK e.aK 0];exact List.mem_map_of_mem hq)).trans ?_;rw[FK];congr 1;omega
theorem Ul{n:Nat}(hn:5<=n)(s a:Int):pc n s a=some (if tv s a then((s+31)/32,true)else(0,false)):=by
 unfold pc;rw[ak (Jh hn s a)];cases h:tv s a with
 |false=>rfl
 |true=>
  have hs:1<=s/\s<=128:=by
   have h1:(decide (1<=s)&&decide (s<=128))=true:=by unfold tv at h;rw[aiP]at h;exact h.1
   simpa using h1
  rw[au (b:= !true) rfl,br (x:=s+32) (by omega) (by omega),br (x:=s+32-1) (by omega) (by omega),Gi (by omega),br (by omega) (by omega),aiM rfl];congr 3;omega
end Go.Proofs.Z
namespace Go.Proofs.Z
open Go Go.Bw
structure Ig(l:List Rn):Prop where
 vV:∀y∈l,Iy y.At y.N
 pw:l.Pairwise λy z=>∀p,y.At<=p->p<y.At+y.N->¬(z.At<=p/\p<z.At+z.N)
theorem Ig.nil:Ig []:=⟨by simp, .nil⟩
theorem yT{l:List Rn}{y:Rn}:Ig (l++[y])↔Ig l/\Iy y.At y.N/\∀p,y.At<=p->p<y.At+y.N->¬bZ l p:=by
 constructor
 ·rintro⟨h1,h2⟩
  obtain⟨p1,p2,p3⟩:=List.pairwise_append.1 h2;exact⟨⟨λz hz=>h1 z (by simp[hz]),p1⟩,h1 y (by simp),λp q1 q2 ⟨z,hz,q3,q4⟩=>p3 z hz y (by simp) p q3 q4 ⟨q1,q2⟩⟩
 ·rintro⟨⟨h1,h2⟩,h3,h4⟩
  refine⟨λz hz=>?_,List.pairwise_append.2 ⟨h2,List.pairwise_singleton _ _,λa ha b hb p q1 q2 q3=>?_⟩⟩
  ·rcases List.mem_append.1 hz with hz|hz
   ·exact h1 z hz
   ·rw[List.mem_singleton.1 hz];exact h3
  ·rw[List.mem_singleton.1 hb]at q3
   exact h4 p q3.1 q3.2 ⟨a,ha,q1,q2⟩
theorem Ig.Xc{l:List Rn}(h:Ig l):A8 l:=λy hy=>(h.vV y hy).1
theorem oL:∀(l m:List Rn),bE (l++m)=bE l+bE m
 |[],m=>by simp[bE]
 |y::r,m=>by rw[List.cons_append,gI,gI,oL r m];omega
theorem LC{l:List Rn}(h:qb l):∀i:Nat,xk l i<=i
 |0=>by rw[Int.natCast_zero,s7 h];exact Int.le_refl _
 |i+1=>by
  have:=LC h i;obtain⟨a,b⟩:=s8 h i;have e:((i+1:Nat):Int)=(i:Int)+1:=by omega
  rw[e];by_cases c:bZ l i
  ·rw[a c];omega
  ·rw[b c];omega
theorem Uq{n:Nat}(hn:110<=n){e:aD}(hl:e.aK.length<=80)(hr:∀y∈e.aK,Si y.At/\Si y.N):∃b,fO n e=some b/\(b=true↔Ig e.aK/\bE e.aK<=64/\0<=e.dZ/\e.dZ<=32*bE e.aK):=by
 unfold fO;refine zN (λ(i:Int) (r:bj)=>0<=i/\i<=e.aK.length/\qb r.l/\Ig (e.aK.take i.toNat)/\(∀p,bZ r.l p↔bZ (e.aK.take i.toNat) p)/\bE r.l=bE (e.aK.take i.toNat)) (λi _ =>((e.aK.length:Int)-i).toNat)
  (λo=>∃b,o=some b/\(b=true↔Ig e.aK/\bE e.aK<=64/\0<=e.dZ/\e.dZ<=32*bE e.aK)) ?_ n 0 jW ⟨by omega,by omega,qb.nil,Ig.nil,λp=>Iff.rfl,rfl⟩ (by omega)
 rintro kk i r ⟨i0,i1,hc,hg,hm,hs⟩ ih;obtain⟨i,rfl⟩:=Int.eq_ofNat_of_zero_le i0;rw[aiR]at hg hm hs;by_cases c:i<e.aK.length
 ·have hgd:e.aK.getD (Int.toNat (i:Int)) default=e.aK[i]:=by rw[aiR,List.getD,aiV c];rfl
  have hy:=hr _ (List.getElem_mem c);have ht:e.aK.take (i+1)=e.aK.take i++[e.aK[i]]:=aiW c;rw[aU (by simpa using c),bH (gU (by omega) (by omega)),aP,hgd];obtain⟨r',g,g1,g2,g3,g4⟩:=PC (n:=n) hn hc (at_:=e.aK[i].At) (k:=e.aK[i].N) hy.1 hy.2;rw[ak g1];have afT:g=true↔Ig (e.aK.take (i+1)):=by rw[g2,ht,yT];exact⟨λ⟨a,b⟩=>⟨hg,a,λp q1 q2 q3=>b p q1 q2 ((hm p).2 q3)⟩,λ⟨_,a,b⟩=>⟨a,λp q1 q2 q3=>b p q1 q2 ((hm p).1 q3)⟩⟩
  cases g with
  |false=>refine⟨false,rfl,λh=>(by cases h),λ⟨h,_⟩=>?_⟩;rw[← List.take_append_drop (i+1) e.aK]at h;exact afT.2 ⟨λy hy=>h.vV y (aiT _ hy),(List.pairwise_append.1 h.pw).1⟩
  |true=>
   obtain⟨c1,c2⟩:=g4 rfl;have ho:=(g2.1 rfl).1;rw[au (b:= !true) rfl,br (by omega) (by omega)];have e1:((i:Int)+1).toNat=i+1:=by omega
   refine ih _ _ ⟨by omega,by omega,c1,by rw[e1];exact afT.1 rfl,λp=>?_,?_⟩ (by omega)
   ·rw[e1,ht,jM,eZ,c2 p,hm p]
   ·rw[e1,ht,oL, ← hs]
    rw[IY c1 hc (K6 ho) (λp=>by rw[c2 p,eZ]) (λp hp hq=>(g2.1 rfl).2 p (eZ.1 hq).1 (eZ.1 hq).2 hp)]
 ·rw[au (by simpa using c)]
  obtain rfl:i=e.aK.length:=by omega
  rw[List.take_length]at hg hm hs;have hs2:=LD (lo:=0) hc (λy hy=>(hc.vV y hy).1) (by omega);have h64:bE r.l<=64:=by rw[← vz hc];exact LC hc 64
  rw[zQ (LW (n:=n) (by omega) (by omega) hg.Xc (by rw[← hs];omega))];refine⟨_,rfl,?_⟩;by_cases c0:0<=e.dZ
  ·have e1:(bif decide (0<=e.dZ)==true then bE e.aK else default)=bE e.aK:=by simp[c0]
   rw[e1,br (by omega) (by omega)];simp only[c0,decide_true,Bool.true_and,decide_eq_true_eq,true_and, ← hs];exact⟨λh=>⟨hg,h64,by omega⟩,λh=>by omega⟩
  ·simp[c0]
end Go.Proofs.Z
namespace Go.Proofs.Z
open Go Go.Bw
def u7(y:Rn):List Int:=(List.range (32*y.N).toNat).map λ(k:Nat)=>32*y.At+(k:Int)
def jQ(l:List Rn):List Int:=l.flatMap u7
theorem tK(y:Rn):(u7 y).length=(32*y.N).toNat:=by simp[u7]
theorem zc(y:Rn)(l:List Rn):jQ (y::l)=u7 y++jQ l:=by simp[jQ]
theorem Bq(l m:List Rn):jQ (l++m)=jQ l++jQ m:=by simp[jQ]
theorem Hx(y:Rn):jQ [y]=u7 y:=by simp[jQ]
theorem tL:∀{l:List Rn},A8 l->((jQ l).length:Int)=32*bE l
 |[],_ =>by simp[jQ,bE]
 |y::r,h=>by have h1:=h y (by simp);have h2:=tL (l:=r) λz hz=>h z (by simp[hz]);rw[zc,List.length_append,tK,gI];omega
theorem Gl(k:Nat)(f:Nat->Int):(List.range (k+1)).map f=(List.range k).map f++[f k]:=by rw[List.range_succ,List.map_append];rfl
structure Gx(l:List Rn):Prop where
 gd:Ig l
 sum:bE l<=64
theorem Uy:∀{l:List Rn},A8 l->(l.length:Int)<=bE l
 |[],_ =>by simp[bE]
 |y::r,h=>by have h1:=h y (by simp);have h2:=Uy (l:=r) λz hz=>h z (by simp[hz]);rw[gI,List.length_cons];omega
theorem Gx.len{l:List Rn}(h:Gx l):l.length<=64:=by have:=Uy h.gd.Xc;have:=h.sum;omega
theorem Gx.pos{l:List Rn}(h:Gx l):0<=bE l:=vA h.gd.Xc
theorem Jk{l:List Rn}{y:Rn}{p:Int}:bZ (l++[y]) p↔bZ l p\/(y.At<=p/\p<y.At+y.N):=by rw[jM,eZ]
def EW(y:Rn):List Int:=(List.range y.N.toNat).map λ(k:Nat)=>y.At+(k:Int)
theorem L6{y:Rn}{p:Int}:p∈EW y↔y.At<=p/\p<y.At+y.N:=by
 unfold EW;rw[List.mem_map];constructor
 ·rintro⟨k,hk,rfl⟩
  rw[List.mem_range]at hk;omega
 ·intro h
  exact⟨(p-y.At).toNat,by rw[List.mem_range];omega,by omega⟩
theorem Yr(y:Rn):(EW y).Nodup:=by unfold EW;rw[List.Nodup,List.pairwise_map];exact List.nodup_range.imp λh e=>h (by omega)
theorem LH{α:Type}{P:List α->Prop}(h0:P [])(h1:∀l y,P l->P (l++[y]))(l:List α):P l:=by
 have key:∀(r:List α),P r.reverse:=by
  intro r
  induction r with
  |nil=>exact h0
  |cons y r ih=>rw[List.reverse_cons];exact h1 _ _ ih
 have:=key l.reverse;rwa[List.reverse_reverse]at this
theorem X9:∀(l:List Rn),Ig l->∃t:List Int,t.Nodup/\(∀p,p∈t↔bZ l p)/\(t.length:Int)=bE l:=by
 intro l
 induction l using LH with
 |h0=>intro _;exact⟨[],List.nodup_nil,by simp[bZ],by simp[bE]⟩
 |h1 l y ih=>
  intro h;obtain⟨h1,h2,h3⟩:=yT.1 h;obtain⟨t,t1,t2,t3⟩:=ih h1;refine⟨t++EW y,List.nodup_append.2 ⟨t1,Yr y,λa ha b hb e=>?_⟩,λp=>?_,?_⟩
  ·subst e
   have:=L6.1 hb;exact h3 _ this.1 this.2 ((t2 _).1 ha)
  ·rw[List.mem_append,t2,L6,Jk]
  ·have:=h2.1
   rw[List.length_append,oL];simp only[EW,List.length_map,List.length_range,bE,List.map_cons,List.map_nil,List.sum_cons,List.sum_nil]at *;omega
theorem Ze{l:List Rn}(h:Ig l):bE l<=64:=by
 obtain⟨t,t1,t2,t3⟩:=X9 l h;have:=sA 64 t1 λp hp=>by obtain⟨y,hy,h1,h2⟩:=(t2 p).1 hp;obtain⟨a,b,c⟩:=h.vV y hy;exact⟨by omega,by omega⟩
 omega
theorem aaM{l:List Rn}(h:Ig l):Gx l:=⟨h,Ze h⟩
end Go.Proofs.Z
namespace Go.Proofs.Z
open Go Go.Bw
def zG(x a:Int):Int:=(x+a-1)/a*a
def al4(a:Int):Prop:=a=1\/a=2\/a=4\/a=8
theorem l9{s a:Int}:tv s a=true↔(1<=s/\s<=128)/\al4 a:=by unfold tv al4;simp[or_assoc]
theorem B4{x a:Int}(ha:al4 a):x<=zG x a/\zG x a<=x+a-1/\zG x a%a=0/\∀y,x<=y->y<=zG x a->y%a=0->y=zG x a:=by unfold zG;rcases ha with rfl|rfl|rfl|rfl<;>exact⟨by omega,by omega,by omega,λy _ _ _ =>by omega⟩
theorem aer{n:Nat}{x a:Int}(h0:0<=x)(h1:x<=100000)(ha:al4 a):je n x a=some (zG x a):=by
 unfold je zG;obtain⟨x,rfl⟩:=Int.eq_ofNat_of_zero_le h0;rcases ha with rfl|rfl|rfl|rfl
 ·have:=zS (x:=x) (m:=0) (by omega) (by omega)
  rw[br (x:=(x:Int)+1) (by omega) (by omega),br (x:=(x:Int)+1-1) (by omega) (by omega),show wr .i64 (1-1)=((2^0-1:Nat):Int)by decide,show(x:Int)+1-1=((x:Nat):Int)by omega,this];congr 1
 ·have:=zS (x:=x+1) (m:=1) (by omega) (by omega)
  rw[br (x:=(x:Int)+2) (by omega) (by omega),br (x:=(x:Int)+2-1) (by omega) (by omega),show wr .i64 (2-1)=((2^1-1:Nat):Int)by decide,show(x:Int)+2-1=((x+1:Nat):Int)by omega,this];congr 1
 ·have:=zS (x:=x+3) (m:=2) (by omega) (by omega)
  rw[br (x:=(x:Int)+4) (by omega) (by omega),br (x:=(x:Int)+4-1) (by omega) (by omega),show wr .i64 (4-1)=((2^2-1:Nat):Int)by decide,show(x:Int)+4-1=((x+3:Nat):Int)by omega,this];congr 1
 ·have:=zS (x:=x+7) (m:=3) (by omega) (by omega)
  rw[br (x:=(x:Int)+8) (by omega) (by omega),br (x:=(x:Int)+8-1) (by omega) (by omega),show wr .i64 (8-1)=((2^3-1:Nat):Int)by decide,show(x:Int)+8-1=((x+7:Nat):Int)by omega,this];congr 1
structure pB(e:aD):Prop where
 gx:Gx e.aK
 lo:0<=e.dZ
 hi:e.dZ<=32*bE e.aK
def eG(e:aD)(s a:Int):Bool:=tv s a&&decide (zG e.dZ a+s<=32*bE e.aK)
def EA(e:aD)(s a:Int):Int×Bool:=if eG e s a=true then(zG e.dZ a,true)else(0,false)
theorem NI{n:Nat}(hn:110<=n){e:aD}(h:pB e):cR n e=some (bE e.aK):=by have:=h.gx.len;have:=h.gx.sum;exact LW (by omega) (by omega) h.gx.gd.Xc (by omega)
theorem PG{n:Nat}(hn:110<=n){e:aD}(h:pB e)(s a:Int):gj n e s a=some (EA e s a):=by
 unfold gj;have h1:=h.lo;have h2:=h.hi;have h3:=h.gx.sum;have h4:=h.gx.pos;rw[ak (Jh (by omega) s a)];unfold EA eG;cases ho:tv s a with
 |false=>rfl
 |true=>
  obtain⟨⟨o1,o2⟩,o3⟩:=l9.1 ho;obtain⟨u1,u2,_⟩:=B4 (x:=e.dZ) o3;have ha:a<=8:=by rcases o3 with rfl|rfl|rfl|rfl<;>omega
  rw[au (b:= !true) rfl,ak (aer h1 (by omega) o3),ak (NI hn h),br (by omega) (by omega),br (by omega) (by omega)];by_cases c:bE e.aK*32<zG e.dZ a+s
  ·rw[aU (by simpa using c),aiN (by simp;omega)]
  ·rw[au (by simpa using c),aiM (by simp;omega)]
theorem X8{n:Nat}(hn:110<=n){e:aD}(h:pB e)(s a:Int):gL n e s a=some (if eG e s a=true then(⟨e.aK,zG e.dZ a+s⟩,zG e.dZ a,true)else(e,0,false)):=by
 unfold gL;rw[ak (PG hn h s a)];unfold EA;have h1:=h.lo;have h2:=h.hi;have h3:=h.gx.sum;have h4:=h.gx.pos;cases hf:eG e s a with
 |false=>rfl
 |true=>have UX:=hf;unfold eG at hf;rw[aiP,decide_eq_true_iff,l9]at hf;obtain⟨⟨⟨o1,o2⟩,o3⟩,o4⟩:=hf;obtain⟨u1,u2,_⟩:=B4 (x:=e.dZ) o3;rw[aiM rfl,aiM rfl,aU rfl,aP];dsimp only;rw[br (by omega) (by omega)]
def plV(l:List Rn)(b at_:Int):Int×Bool:=if b<=at_/\at_<b+32*bE l then((jQ l).getD (at_-b).toNat 0,true)else(0,false)
theorem GZ{α:Type}(l m:List α)(i:Nat)(d:α)(h:i<l.length):(l++m).getD i d=l.getD i d:=by rw[List.getD,List.getD,List.getElem?_append_left h]
theorem GY{α:Type}(l m:List α)(i:Nat)(d:α)(h:l.length<=i):(l++m).getD i d=m.getD (i-l.length) d:=by rw[List.getD,List.getD,List.getElem?_append_right h]
theorem Hw(y:Rn){i:Nat}(h:i<(32*y.N).toNat):(u7 y).getD i 0=32*y.At+i:=by unfold u7;rw[List.getD,List.getElem?_map,List.getElem?_range h];rfl
theorem T8{at_:Int}(ha:Si at_):∀(l:List Rn) (b:Int),(∀y∈l,Iy y.At y.N)->0<=b->b+32*bE l<=100000->
  xJ (λ(PX:Int×av) k28 (u27:Unit)=>lt (PX.1:Int) λcJ=>lt (PX.2:av) λfR=>cn ((decide (cJ<=at_)&&decide (at_<(wr .i64 (cJ+(wr .i64 (fR.N*32))))))) (lt (wr .i64 ((wr .i64 ((wr .i64 (fR.At*32))+at_))-cJ):Int) λdV=>some (dV,true)) (k28 ())) (λ(u27:Unit)=>some (0,false)) (Qc b l) ()=some (plV l b at_):=by
 intro l
 induction l with
 |nil=>intro b _ _ _;show some ((0:Int),false)=_;unfold plV;rw[aiN];simp only[bE,List.map_nil,List.sum_nil];omega
 |cons y r ih=>
  intro b h0 h1 h2;have hy:=h0 y (by simp);have hr:A8 r:=λz hz=>(h0 z (by simp[hz])).1;have hr0:=vA hr;have hbl:=tK y;rw[gI]at h2;obtain⟨y1,y2,y3⟩:=hy;rw[Qc];simp only[xJ,aP];rw[br (x:=y.N*32) (by omega) (by omega),br (x:=b+y.N*32) (by omega) (by omega)];by_cases c:b<=at_/\at_<b+y.N*32
  ·rw[aU (by simpa using c),br (x:=y.At*32) (by omega) (by omega),br (x:=y.At*32+at_) (by omega) (by omega),br (by omega) (by omega)]
   unfold plV;rw[aiM (by rw[gI];omega),zc,GZ _ _ _ _ (by rw[tK];omega),Hw y (by omega)];congr 2;omega
  ·rw[au (by simpa using c)]
   refine(ih (b+32*y.N) (λz hz=>h0 z (by simp[hz])) (by omega) (by omega)).trans ?_;unfold plV;by_cases d:b+32*y.N<=at_/\at_<b+32*y.N+32*bE r
   ·rw[aiM d,aiM (by rw[gI];omega),zc,GY _ _ _ _ (by rw[tK];omega),tK]
    congr 3;omega
   ·rw[aiN d,aiN (by rw[gI];omega)]
theorem T9{n:Nat}(hn:110<=n){e:aD}(h:pB e){at_:Int}(ha:Si at_):jH n e at_=some (plV e.aK 0 at_):=by unfold jH;have:=h.gx.len;have:=h.gx.sum;rw[ak (show gA n e=some e from rfl),ak (Jz (by omega) (by omega) h.gx.gd.Xc (by omega))];exact T8 ha e.aK 0 h.gx.gd.vV (by omega) (by omega)
theorem Y7{n:Nat}(hn:110<=n){e:aD}(h:pB e)(r:Rn):fk n e r=some ⟨e.aK++[r],32*bE e.aK⟩:=by unfold fk;have:=h.gx.len;have:=h.gx.sum;have:=h.gx.pos;rw[bH (ni (by omega) (by omega)),aP,ak (NI hn h),aP,br (by omega) (by omega),Int.mul_comm]
end Go.Proofs.Z
namespace Go.Proofs.Z
open Go Go.Bw
theorem Gw{y:Rn}{q:Int}:q∈u7 y↔32*y.At<=q/\q<32*y.At+32*y.N:=by
 unfold u7;rw[List.mem_map];constructor
 ·rintro⟨k,hk,rfl⟩
  rw[List.mem_range]at hk;omega
 ·intro h
  exact⟨(q-32*y.At).toNat,by rw[List.mem_range];omega,by omega⟩
theorem Gy{l:List Rn}{q:Int}:q∈jQ l↔bZ l (q/32):=by unfold jQ bZ;rw[List.mem_flatMap];refine exists_congr λ_=>and_congr_right λ_ =>?_;rw[Gw];omega
theorem RF:∀(l:List Rn),Ig l->(jQ l).Nodup:=by
 intro l
 induction l using LH with
 |h0=>intro _;exact List.nodup_nil
 |h1 l y ih=>
  intro h;obtain⟨h1,h2,h3⟩:=yT.1 h;rw[Bq,Hx,List.nodup_append];refine⟨ih h1,?_,λa ha b hb e=>?_⟩
  ·unfold u7
   rw[List.Nodup,List.pairwise_map];exact List.nodup_range.imp λh e=>h (by omega)
  ·subst e
   have:=Gw.1 hb;exact h3 (a/32) (by omega) (by omega) (Gy.1 ha)
def dO(l:List Rn)(a:Int):Int:=(jQ l).getD a.toNat 0
theorem Oy{l:List Rn}(h:Ig l){a b:Int}(ha:0<=a/\a<32*bE l)(hb:0<=b/\b<32*bE l)(e:dO l a=dO l b):a=b:=by
 have hl:=tL h.Xc;have h1:a.toNat<(jQ l).length:=by omega
 have h2:b.toNat<(jQ l).length:=by omega
 unfold dO at e;rw[List.getD,List.getD,aiV h1,aiV h2]at e;have:=(List.getElem_inj (RF l h)).1 e;omega
theorem Oz{l m:List Rn}(h:Ig l){a:Int}(ha:0<=a/\a<32*bE l):dO (l++m) a=dO l a:=by have hl:=tL h.Xc;unfold dO;rw[Bq,GZ _ _ _ _ (by omega)]
theorem Jl{n:Nat}(hn:110<=n){e:aD}(h:pB e):fO n e=some true:=by
 have:=h.gx.len;obtain⟨b,h1,h2⟩:=Uq (n:=n) hn (e:=e) (by omega) (λy hy=>by
  obtain⟨a,b,c⟩:=h.gx.gd.vV y hy;exact⟨⟨by omega,by omega⟩,⟨by omega,by omega⟩⟩)
 rw[h1,h2.2 ⟨h.gx.gd,h.gx.sum,h.lo,h.hi⟩]
theorem Jm{e:aD}(h:pB e){a k:Int}(ho:Iy a k)(hf:∀p,a<=p->p<a+k->¬bZ e.aK p):pB ⟨e.aK++[⟨a,k⟩],32*bE e.aK⟩:=by have hg:Ig (e.aK++[⟨a,k⟩]):=yT.2 ⟨h.gx.gd,ho,hf⟩;have:=h.gx.pos;obtain⟨o1,o2,o3⟩:=ho;refine⟨aaM hg,by dsimp only;omega,?_⟩;dsimp only;rw[oL,wq];omega
end Go.Proofs.Z
namespace Go.Proofs.Z
open Go Go.Bw
theorem Du{α:Type}(f:Nat->α)(i:Nat):iD f i (f i)=f:=by
 funext j;unfold iD;split
 ·next h=>rw[h]
 ·rfl
def OL(M:ai):Prop:=∀i:Nat,i<32->(M.bq i).E0=0/\(M.bq i).n=0
theorem Pb{n:Nat}(hn:1<=n){l:cj}(h:l.n=0)(t:Int):kP n l t=some (-1):=by obtain⟨m,rfl⟩:∃m,n=m+1:=⟨n-1,by omega⟩;unfold kP;rw[h];rfl
theorem IU{n:Nat}(hn:1<=n){l:cj}(h:l.n=0)(t:Int):jb n l t=some l:=by unfold jb;rw[ak (Pb hn h t)];rfl
theorem NP{n:Nat}{i t:Int}(h0:0<=i)(h1:i<32)(t0:0<=t)(t1:t<8):vI n i t=some true:=by unfold vI;simp[h0,h1,t0,t1]
def uW(M:ai)(k:Nat)(t:Int):ai:=⟨iD M.bq k {(M.bq k)with E0:=t+1}⟩
theorem aev{n:Nat}(hn:1<=n){M:ai}(hM:OL M){k:Nat}(hk:k<32){t:Int}(t0:0<=t)(t1:t<8):
  o5 n M k t=some (uW M k t,true):=by
 obtain⟨a,b⟩:=hM k hk;unfold o5;rw[ak (NP (by omega) (by omega) t0 t1),au (b:= !true) rfl,bH (gU (by omega) (by omega)),aP,aiR,ak (Pb hn b t)];rw[au (by rw[a,br (x:=0) (by omega) (by omega),br (x:=t+1) (by omega) (by omega)];simp;omega),aU (by rw[a,b];rfl),ak (IU hn b t),aP,aP,aP];refine congrArg (λm=>some (m,true)) ?_;unfold uW;refine congrArg ai.mk ?_;dsimp only;rw[Nm,Du,br (x:=t+1) (by omega) (by omega),ahd (by omega) (by omega)]
def uC(M:ai)(t:Int)(c:Nat):ai:=⟨λj=>if j<c/\(M.bq j).E0=t+1 then{(M.bq j)with E0:=0}else M.bq j⟩
theorem U5(M:ai)(t:Int)(c:Nat):(uC M t c).bq c=M.bq c:=by unfold uC;dsimp only;rw[aiN (by omega)]
theorem Y8(M:ai)(t:Int)(c j:Nat):((uC M t c).bq j).n=(M.bq j).n:=by unfold uC;dsimp only;split<;>rfl
theorem acE{n:Nat}{M:ai}{c:Nat}(hc:c<32){t:Int}(t0:0<=t)(t1:t<8)(hb:0<=(M.bq c).E0/\(M.bq c).E0<=255):
  nH n (uC M t c) c t=some (uC M t (c+1)):=by
 unfold nH;rw[aP,ak (NP (by omega) (by omega) t0 t1),aiR,U5,bH (by rw[gU (by omega) (by omega)];rfl),br (x:=(M.bq c).E0) (by omega) (by omega),br (x:=t+1) (by omega) (by omega)];by_cases h:(M.bq c).E0=t+1
 ·rw[aU (by simpa using h),bH (gU (by omega) (by omega)),aP]
  show some _ =some _;refine congrArg some ?_;unfold uC;refine congrArg ai.mk ?_;funext j;unfold iD;dsimp only;by_cases hj:j=c
  ·subst hj
   rw[aiM rfl,aiM ⟨by omega,h⟩]
  ·rw[aiN hj]
   by_cases hl:j<c
   ·by_cases hh:(M.bq j).E0=t+1
    ·rw[aiM ⟨hl,hh⟩,aiM ⟨by omega,hh⟩]
    ·rw[aiN (λq=>hh q.2),aiN (λq=>hh q.2)]
   ·rw[aiN (by omega),aiN (by omega)]
 ·rw[au (by simpa using h)]
  show some _ =some _;refine congrArg some ?_;unfold uC;refine congrArg ai.mk ?_;funext j;by_cases hj:j=c
  ·subst hj
   rw[aiN (by omega),aiN (λq=>h q.2)]
  ·by_cases hl:j<c
   ·by_cases hh:(M.bq j).E0=t+1
    ·rw[aiM ⟨hl,hh⟩,aiM ⟨by omega,hh⟩]
    ·rw[aiN (λq=>hh q.2),aiN (λq=>hh q.2)]
   ·rw[aiN (by omega),aiN (by omega)]
theorem U6{n:Nat}(hn:40<=n){M:ai}{t:Int}(t0:0<=t)(t1:t<8)(hb:∀j,j<32->(M.bq j).n=0/\0<=(M.bq j).E0/\(M.bq j).E0<=255):
  da n M t=some (uC M t 32):=by
 unfold da;refine zN (λ(i:Int) (m:ai)=>∃c:Nat,i=(c:Int)/\c<=32/\m=uC M t c) (λi _ =>(32-i).toNat) (λo=>o=some (uC M t 32)) ?_ n 0 M ⟨0,rfl,by omega,?_⟩ (by omega)
 ·rintro kk i m ⟨c,rfl,hc,rfl⟩ ih
  by_cases h:c<32
  ·obtain⟨h1,h2⟩:=hb c h
   rw[aU (by simp;omega),aP,ak (acE h t0 t1 h2),aP,ak (NP (by omega) (by omega) t0 t1),aU (by rfl),bH (gU (by omega) (by omega)),aiR,ak (IU (by omega) (by rw[Y8];exact h1) t),bH (gU (by omega) (by omega)),Du,aP,br (by omega) (by omega)];exact ih _ _ ⟨c+1,by omega,by omega,rfl⟩ (by omega)
  ·obtain rfl:c=32:=by omega
   rw[au (by simp),aP]
 ·unfold uC
  cases M;refine congrArg ai.mk ?_;funext j;rw[aiN (by omega)]
theorem PA{n:Nat}(hn:40<=n){M:ai}(hM:OL M){t:Int}(t0:0<=t)(t1:t<8):da n M t=some M:=by
 rw[U6 hn t0 t1 λj hj=>⟨(hM j hj).2,by rw[(hM j hj).1];omega⟩];refine congrArg some ?_;unfold uC;cases M with|mk s=>
 refine congrArg ai.mk ?_;funext j;rw[aiN];rintro⟨h1,h2⟩;have:=(hM j h1).1;dsimp only at this h2;omega
theorem DL{n:Nat}(hn:40<=n){M:ai}(hM:OL M){k:Nat}(hk:k<32){t:Int}(t0:0<=t)(t1:t<8):da n (uW M k t) t=some M:=by
 rw[U6 hn t0 t1 λj hj=>by
  unfold uW iD;dsimp only;split
  ·next h=>subst h;exact⟨(hM j hj).2,by show 0<=t+1;omega,by show t+1<=255;omega⟩
  ·exact⟨(hM j hj).2,by rw[(hM j hj).1];omega⟩]
 refine congrArg some ?_;unfold uC uW;cases M with|mk s=>
 refine congrArg ai.mk ?_;funext j;dsimp only;by_cases h:j=k
 ·subst h
  have hz:=(hM j hk).1;dsimp only at hz;have e1:iD s j {s j with E0:=t+1} j={s j with E0:=t+1}:=Nm _ _ _;simp only[e1];rw[aiM (by simp[hk])];generalize s j=y at hz;cases y;dsimp only at hz;subst hz;rfl
 ·have e1:iD s k {s k with E0:=t+1} j=s j:=SV _ _ h
  simp only[e1];rw[aiN];rintro⟨h1,h2⟩;have:=(hM j h1).1;dsimp only at this;omega
theorem abD{n:Nat}(hn:1<=n)(S:ae)(P:aj)(M:ai)(Q:List Int){r:av}(h:r.N<=0):fg n S P M Q r=some (S,P,M,Q):=by obtain⟨m,rfl⟩:∃m,n=m+1:=⟨n-1,by omega⟩;unfold fg;simp only[xq];rw[au (by simp;omega)]
theorem agc{n:Nat}(hn:40<=n)(S:ae)(P:aj)(M:ai)(Q:List Int){c:aF}(h:c.xY.N<=0){M':ai}(hg:da n M c.jU=some M'):kW n S P M Q c=some (S,P,M',Q):=by unfold kW;rw[ak (abD (by omega) S P M Q h),ak hg,aP]
theorem Om{n:Nat}(hn:40<=n)(S:ae)(P:aj)(M:ai)(Q:List Int){c:aF}(r0:ah)(b0:Bool)(r:ah)(h:c.xY.N<=0){M':ai}(hg:da n M c.jU=some M'):eU n S P M Q c r0 b0 r=some (S,P,M',Q,c,r,true):=by unfold eU;rw[aP,ak (agc hn S P M Q h hg)]
end Go.Proofs.Z
namespace Go.Proofs.Z
open Go Go.Bw
abbrev EK(t:Int)(c:aC)(l:List Int)(r:av)(j:Int):aF:=⟨t,c,true,l,r,j⟩
def nk(n:Nat)(a1:aC):(ah->ae->aj->ai->List Int->Int->aF->Option (ah×ae×aj×ai×(List Int)×Int))->ah->ae->aj->ai->List Int->Int->aF->Option (ah×ae×aj×ai×(List Int)×Int):=λYL (aQ:ah) (bS:ae) (cB:aj) (dS:ai) (eP:(List Int)) (dk:Int) (eH:aF)=>cl (((!eH.Checked)==true)) (pS n bS dk a1) default λep=>cn (((!eH.Checked)&&ep)) (cn ((a1.Do==15)) (lt (({ay with E:=10}:ah):ah) λdP=>some (dP,bS,cB,dS,eP,dk)) (lt (({ay with E:=12}:ah):ah) λjo=>some (jo,bS,cB,dS,eP,dk))) (bd (cO n bS cB dS eP eH) λeV=>lt (eV.1:aF) λcJ=>lt (eV.2.1:ah) λfR=>cn (eV.2.2.1) (lt (fR:ah) λjx=>some (jx,eV.2.2.2.1,eV.2.2.2.2.1,eV.2.2.2.2.2.1,eV.2.2.2.2.2.2,dk)) (cn (((eH.Checked&&((cJ.ew.length:Int)==(eH.ew.length:Int)))&&(decide (0<(eH.ew.length:Int))))) (bd (kW n eV.2.2.2.1 eV.2.2.2.2.1 eV.2.2.2.2.2.1 eV.2.2.2.2.2.2 eH) λdV=>lt (({ay with E:=12}:ah):ah) λjk=>some (jk,dV.1,dV.2.1,dV.2.2.1,dV.2.2.2,dk)) (lt (cJ:aF) λgR=>YL aQ eV.2.2.2.1 eV.2.2.2.2.1 eV.2.2.2.2.2.1 eV.2.2.2.2.2.2 dk gR)))
theorem Kr(n:Nat)(S:ae)(P:aj)(M:ai)(Q:List Int)(t:Int)(c:aC):er n S P M Q t c=vJ (nk n c) n ay S P M Q t ⟨t,c,false,[],aB,0⟩:=rfl
section
variable {n:Nat} {S S':ae} {P P':aj} {M M':ai} {Q Q':List Int} {t:Int} {c:aC} {u u':aF} {r:ah}
theorem Fv(hd:c.Do≠15):pS n S t c=some false:=by
 have hb:(c.Do==15)=false:=by simpa using hd
 unfold pS;rw[tH (by rw[hb];rfl),hb];rfl
theorem zM(hd:c.Do≠15)(hs:cO n S P M Q u=some (u',r,true,S',P',M',Q')){kk}{x:ah}:nk n c kk x S P M Q t u=some (r,S',P',M',Q',t):=by unfold nk;rw[zQ (Fv hd),au (by cases u.Checked<;>rfl),ak hs];rfl
theorem tu(hd:c.Do≠15)(hs:cO n S P M Q u=some (u',r,false,S',P',M',Q'))(hl:u.Checked=true->u.ew.length=0\/u'.ew.length≠u.ew.length){kk}{x:ah}:nk n c kk x S P M Q t u=kk x S' P' M' Q' t u':=by
 unfold nk;rw[zQ (Fv hd),au (by cases u.Checked<;>rfl),ak hs,aP,aP,au (by rfl),au]
 ·rfl
 ·cases hc:u.Checked with
  |false=>rfl
  |true=>
   dsimp only;rcases hl hc with h|h
   ·rw[h];simp
   ·rw[Bool.true_and,show((u'.ew.length:Int)==(u.ew.length:Int))=false by simp;omega];rfl
theorem Td{b:Bool}(h:eD n S P M Q u ay false=some (true,S',P',M',Q',u',r,b)):cO n S P M Q u=some (u',r,b,S',P',M',Q'):=by unfold cO;rw[aP,ak h];rfl
theorem FM(hu:u.Checked=true){x:ah}{b:Bool}:eD n S P M Q u x b=some (false,S,P,M,Q,u,x,b):=by unfold eD;rw[aU hu]
theorem aeA{b:Bool}(hu:u.Checked=true)(h:fq n S P M Q u ay false=some (true,S',P',M',Q',u',r,b)):cO n S P M Q u=some (u',r,b,S',P',M',Q'):=by unfold cO;rw[aP,ak (FM hu),au (by rfl),ak h];rfl
theorem NR(hu:u.ew=[]){x:ah}{b:Bool}:fq n S P M Q u x b=some (false,S,P,M,Q,u,x,b):=by unfold fq;rw[hu];rfl
theorem aap{b:Bool}(hu:u.Checked=true)(hr:u.ew=[])(h:bY n S P M Q u ay false=some (true,S',P',M',Q',u',r,b)):cO n S P M Q u=some (u',r,b,S',P',M',Q'):=by unfold cO;rw[aP,ak (FM hu),au (by rfl),ak (NR hr),au (by rfl),ak h];rfl
theorem aez{b:Bool}(hu:u.Checked=true)(hr:u.ew=[])(hc:bY n S P M Q u ay false=some (false,S,P,M,Q,u,ay,false))(h:eL n S P M Q u ay false=some (true,S',P',M',Q',u',r,b)):cO n S P M Q u=some (u',r,b,S',P',M',Q'):=by unfold cO;rw[aP,ak (FM hu),au (by rfl),ak (NR hr),au (by rfl),ak hc,au (by rfl),ak h];rfl
theorem aao{b:Bool}(hu:u.Checked=true)(hr:u.ew=[])(hc:bY n S P M Q u ay false=some (false,S,P,M,Q,u,ay,false))(hl:u.xY.N<=u.qg)(h:cu n S P M Q u ay false=some (true,S',P',M',Q',u',r,b)):cO n S P M Q u=some (u',r,b,S',P',M',Q'):=by unfold cO;rw[aP,ak (FM hu),au (by rfl),ak (NR hr),au (by rfl),ak hc,au (by rfl)];rw[ak (show eL n S P M Q u ay false=some (false,S,P,M,Q,u,ay,false)by unfold eL;rw[aU (by simpa using hl)]),au (by rfl),ak h];rfl
theorem Gs(hn:40<=n)(hd:c.Do≠15)(hM:OL M)(t0:0<=t)(t1:t<8){e:Int}(he:fY n S t c=some e)(h0:e≠0):er n S P M Q t c=some (⟨e,0,0⟩,S,P,M,Q,t):=by obtain⟨m,rfl⟩:∃m,n=m+1:=⟨n-1,by omega⟩;rw[Kr];show nk (m+1) c _ _ _ _ _ _ _ _ =_;refine zM hd (u':=⟨t,c,false,[],aB,0⟩) (Td ?_);unfold eD;rw[au (by rfl),ak (Fv hd),au (by rfl),ak he,aU (by simpa using h0),ak (Om hn S P M Q _ _ _ (by show(0:Int)<=0;omega) (PA hn hM t0 t1))]
theorem MG(hd:c.Do≠15)(he:fY n S t c=some 0){l:List Int}(hr:kr n S c=some l):eD n S P M Q ⟨t,c,false,[],aB,0⟩ ay false=some (true,S,P,M,Q,EK t c l aB 0,ay,false):=by unfold eD;rw[au (by rfl),ak (Fv hd),au (by rfl),ak he,au (by rfl),ak hr];rfl
theorem Uc(hd:c.Do≠15)(he:fY (n+1) S t c=some 0)(hr:kr (n+1) S c=some []):er (n+1) S P M Q t c=vJ (nk (n+1) c) n ay S P M Q t (EK t c [] aB 0):=by rw[Kr];show nk (n+1) c _ _ _ _ _ _ _ _ =_;rw[tu hd (Td (MG hd he hr)) (λh=>by cases h)]
theorem yJ(hd:c.Do≠15)(hM:OL M)(t0:0<=t)(t1:t<8)(he:fY (n+2) S t c=some 0){h:Int}(hr:kr (n+2) S c=some [h]){k:Nat}(hk:k<32)(hs:bn (n+2) h=some ((k:Int),true)):er (n+2) S P M Q t c=vJ (nk (n+2) c) n ay S P (uW M k t) Q t (EK t c [] aB 0):=by
 rw[Kr];show nk (n+2) c _ _ _ _ _ _ _ _ =_;rw[tu hd (Td (MG hd he hr)) (λh=>by cases h)];show nk (n+2) c _ _ _ _ _ _ _ _ =_;have hm:fq (n+2) S P M Q (EK t c [h] aB 0) ay false=some (true,S,P,uW M k t,Q,EK t c [] aB 0,ay,false):=by unfold fq;rw[au (by rfl),bH (by rfl),ak (show bn (n+2) (List.getD (EK t c [h] aB 0).ew (Int.toNat 0) default)=some ((k:Int),true)from hs),ak (aev (by omega) hM hk t0 t1)];rfl
 rw[tu hd (aeA rfl hm) (λ_ => .inr (by simp))]
end
theorem TI{n:Nat}(hn:110<=n)(S:ae)(P:aj)(M:ai)(Q:List Int)(hQ:Q.length<=10000){r:Rn}(ho:Iy r.At r.N):fg n S P M Q r=some (S,P,M,Q++EW r):=by
 obtain⟨o1,o2,o3⟩:=ho;unfold fg;refine Jo (λ(i:Int) (s:ae) (p:aj) (m:ai) (q:List Int)=>∃j:Nat,i=(j:Int)/\(j:Int)<=r.N/\s=S/\p=P/\m=M/\q=Q++(List.range j).map λ(k:Nat)=>r.At+(k:Int)) (λi _ _ _ _ =>(r.N-i).toNat) (λo=>o=some (S,P,M,Q++EW r)) ?_ n 0 S P M Q ⟨0,rfl,by omega,rfl,rfl,rfl,by simp⟩ (by omega);rintro kk i s p m q ⟨j,rfl,hj,rfl,rfl,rfl,rfl⟩ ih;by_cases h:(j:Int)<r.N
 ·rw[aU (by simpa using h),bH (ni (by simp;omega) (by simp;omega)),aP,br (x:=r.At+j) (by omega) (by omega),br (by omega) (by omega)]
  refine ih _ _ _ _ _ ⟨j+1,by omega,by omega,rfl,rfl,rfl,?_⟩ (by omega);rw[Gl,List.append_assoc]
 ·rw[au (by simpa using h)]
  unfold EW;rw[show r.N.toNat=j by omega]
end Go.Proofs.Z
namespace Go.Proofs.Z
open Go Go.Bw
theorem aet(x:Int):0<=wr .u8 x/\wr .u8 x<=255:=by
 have h:wr .u8 x=x%256:=by simp[wr,IntKind.wrap,IntKind.signed,IntKind.bits]
 rw[h];omega
structure Ie(P:aj):Prop where
 Qf:qb P.dX.l
 n1:P.n<=64
 fr:∀p,bZ P.dX.l p->p<P.n
 bt:∀i j,0<=P.bytes i j/\P.bytes i j<=255
def gW(P:aj)(p:Int):Prop:=0<=p/\p<P.n/\¬bZ P.dX.l p
def FN(P:aj)(a:Int):Int:=P.bytes (a/32).toNat (a%32).toNat
def wrP(P:aj)(a v:Int):aj:={P with bytes:=iD P.bytes (a/32).toNat (iD (P.bytes (a/32).toNat) (a%32).toNat v)}
theorem Qg{P:aj}(h:Ie P)(a:Int):0<=FN P a/\FN P a<=255:=h.bt _ _
theorem aa6{P:aj}{a b v:Int}(ha:0<=a)(hb:0<=b):FN (wrP P a v) b=if b=a then v else FN P b:=by
 unfold FN wrP iD;dsimp only;by_cases h:b=a
 ·subst h;rw[aiM rfl,aiM rfl,aiM rfl]
 ·rw[aiN h]
  by_cases h1:(b/32).toNat=(a/32).toNat
  ·rw[aiM h1,aiN (by omega),h1]
  ·rw[aiN h1]
theorem aa5{P:aj}(h:Ie P)(a:Int){v:Int}(hv:0<=v/\v<=255):Ie (wrP P a v):=
 ⟨h.Qf,h.n1,h.fr,λi j=>by
  unfold wrP iD;dsimp only;by_cases h1:i=(a/32).toNat
  ·rw[aiM h1];by_cases h2:j=(a%32).toNat
   ·rw[aiM h2];exact hv
   ·rw[aiN h2];exact h.bt _ _
  ·rw[aiN h1];exact h.bt _ _⟩
theorem KS{n:Nat}(hn:110<=n){P:aj}(h:Ie P){p:Int}(hp:gW P p):g8 n P.dX p=some false:=by
 obtain⟨p0,p1,p2⟩:=hp;have:=h.n1;obtain⟨b,e,hb⟩:=acz hn h.Qf (p:=p) ⟨by omega,by omega⟩;rw[e];cases b with
 |false=>rfl
 |true=>exact absurd (hb.1 rfl) p2
theorem abC{n:Nat}(hn:110<=n){P:aj}(h:Ie P){a:Int}(ha:0<=a)(hl:gW P (a/32)):lZ n P a=some (FN P a,0):=by
 have:=h.n1;obtain⟨p0,p1,p2⟩:=hl;have e1:wr .i64 (Int.tdiv a 32)=a/32:=by rw[Gi ha,br (by omega) (by omega)]
 have e2:Int.tmod a 32=a%32:=Lz ha;unfold lZ;rw[e1,e2,au (by simp;omega),au (by simp;omega),ak (KS hn h ⟨p0,p1,p2⟩),au (by rfl),bH (gU (by omega) (by omega)),bH (gU (by omega) (by omega))];rfl
theorem Xw{n:Nat}(hn:110<=n){P:aj}(h:Ie P){a:Int}(ha:0<=a)(hl:gW P (a/32))(v:Int):kL n P a v=some (0,wrP P a v):=by
 have:=h.n1;obtain⟨p0,p1,p2⟩:=hl;have e1:wr .i64 (Int.tdiv a 32)=a/32:=by rw[Gi ha,br (by omega) (by omega)]
 have e2:Int.tmod a 32=a%32:=Lz ha;unfold kL;rw[e1,e2,au (by simp;omega),au (by simp;omega),ak (KS hn h ⟨p0,p1,p2⟩),au (by rfl),bH (gU (by omega) (by omega)),bH (gU (by omega) (by omega))];rfl
def Iz(f:Nat->Int):Nat->Int
 |0=>0
 |k+1=>Iz f k+f k*256^k
theorem KG{f:Nat->Int}{k:Nat}(hf:∀i,i<k->0<=f i/\f i<=255):0<=Iz f k/\Iz f k<256^k:=by
 induction k with
 |zero=>simp[Iz]
 |succ k ih=>
  obtain⟨a,b⟩:=ih λi hi=>hf i (by omega);obtain⟨c,d⟩:=hf k (by omega);have hp:(0:Int)<256^k:=Int.pow_pos (by omega);have h1:f k*256^k<=255*256^k:=Int.mul_le_mul_of_nonneg_right d (by omega);have h2:0<=f k*256^k:=Int.mul_nonneg c (by omega);have h3:(256:Int)^(k+1)=256*256^k:=by rw[Int.pow_succ,Int.mul_comm]
  unfold Iz;rw[h3];omega
theorem og{f g:Nat->Int}{k:Nat}(h:∀i,i<k->f i=g i):Iz f k=Iz g k:=by
 induction k with
 |zero=>rfl
 |succ k ih=>unfold Iz;rw[ih λi hi=>h i (by omega),h k (by omega)]
theorem Uz(f:Nat->Int)(k:Nat):Iz f (k+1)=Iz f k+f k*256^k:=rfl
theorem aeV(k:Nat):(256:Int)^k=((2^(8*k):Nat):Int):=by rw[Nat.pow_mul,Int.natCast_pow];rfl
theorem Yi{k:Nat}(hk:k<=8):(256:Int)^k<=18446744073709551616:=by have h:(256:Nat)^k<=256^8:=Nat.pow_le_pow_right (by omega) hk;have e:(256:Int)^k=((256^k:Nat):Int):=(Int.natCast_pow 256 k).symm;rw[e];exact Int.ofNat_le.2 (Nat.le_trans h (by decide))
theorem abZ{f:Nat->Int}{k:Nat}(hk:k<8)(hf:∀i,i<k+1->0<=f i/\f i<=255):orI .u64 (Iz f k) (Ke .u64 (wr .u64 (f k)) (wr .i64 (8*(k:Int))))=Iz f (k+1):=by
 obtain⟨a,b⟩:=KG (f:=f) (k:=k) λi hi=>hf i (by omega);obtain⟨a',b'⟩:=KG (f:=f) (k:=k+1) hf;obtain⟨c,d⟩:=hf k (by omega);have hp:=aeV k;have hp1:=Yi (k:=k+1) (by omega);rw[sK c (by omega),br (by omega) (by omega),Tv (8*k) (by omega) (by show 8*k<=64;omega)];have h2:0<=f k*256^k:=Int.mul_nonneg c (by rw[hp];omega);rw[Uz]at a' b';rw[← hp,sK h2 (by omega),Uz];obtain⟨x,hx⟩:=Int.eq_ofNat_of_zero_le a;obtain⟨y,hy⟩:=Int.eq_ofNat_of_zero_le c;have hz:f k*256^k=((2^(8*k)*y:Nat):Int):=by rw[hy,hp,Int.natCast_mul];exact Int.mul_comm _ _
 have sB:x<2^(8*k):=by rw[hx,hp]at b;exact Int.ofNat_lt.1 b
 rw[hz,hx]at b' ⊢;generalize hw:2^(8*k)*y=w at *;rw[Yj (k:= .u64) (by show x<2^64;omega) (by show w<2^64;omega),Nat.or_comm, ← hw, ← Nat.two_pow_add_eq_or_of_lt sB,hw];omega
theorem aeQ{n:Nat}(hn:110<=n){P:aj}(h:Ie P){pl:List Int}(hl:pl.length<=8)(hp:∀i,i<pl.length->0<=pl.getD i default/\gW P (pl.getD i default/32)){ρ:Type}(F:ah->Option ρ):
  eS (λk67 (vh:Int) (Sv:ah)=>cn (decide (vh<(pl.length:Int))) (gu (dg vh pl.length)<|bd (lZ n P (pl.getD (Int.toNat vh) default)) λJO=>gu (decide (0<=wr .i64 (8*vh)))<|lt (({Sv with V:=orI .u64 Sv.V (Ke .u64 (wr .u64 JO.1) (wr .i64 (8*vh)))}:ah):ah) λIk=>k67 (wr .i64 (vh+1)) Ik) (F Sv)) n 0 ⟨0,0,0⟩=F ⟨0,Iz (λi=>FN P (pl.getD i default)) pl.length,0⟩:=by
 refine zN (λ(i:Int) (r:ah)=>∃j:Nat,i=(j:Int)/\j<=pl.length/\r=⟨0,Iz (λi=>FN P (pl.getD i default)) j,0⟩) (λi _ =>((pl.length:Int)-i).toNat) (λo=>o=F ⟨0,Iz (λi=>FN P (pl.getD i default)) pl.length,0⟩) ?_ n 0 _ ⟨0,rfl,by omega,rfl⟩ (by omega);rintro kk i r ⟨j,rfl,hj,rfl⟩ ih;by_cases hc:j<pl.length
 ·obtain⟨p0,p1⟩:=hp j hc
  rw[aU (by simpa using hc),bH (gU (by omega) (by omega)),aiR,ak (abC hn h p0 p1),bH (by rw[br (by omega) (by omega)];simp;omega),aP,br (x:=(j:Int)+1) (by omega) (by omega)];refine ih _ _ ⟨j+1,by omega,by omega,?_⟩ (by omega);dsimp only;rw[abZ (f:=λi=>FN P (pl.getD i default)) (by omega) λi _ =>Qg h _]
 ·obtain rfl:j=pl.length:=by omega
  rw[au (by simp)]
def Lv(P:aj)(f v:Nat->Int):Nat->aj
 |0=>P
 |k+1=>wrP (Lv P f v k) (f k) (v k)
theorem FZ(P:aj)(f v:Nat->Int)(k:Nat):(Lv P f v k).dX=P.dX/\(Lv P f v k).n=P.n:=by
 induction k with
 |zero=>exact⟨rfl,rfl⟩
 |succ k ih=>exact ih
theorem SA{P:aj}(h:Ie P){f v:Nat->Int}{k:Nat}(hv:∀i,i<k->0<=v i/\v i<=255):Ie (Lv P f v k):=by
 induction k with
 |zero=>exact h
 |succ k ih=>exact aa5 (ih λi hi=>hv i (by omega)) _ (hv k (by omega))
theorem SB{P:aj}{f v:Nat->Int}{k:Nat}{p:Int}(h:gW P p):gW (Lv P f v k) p:=by unfold gW at h ⊢;rw[(FZ P f v k).1,(FZ P f v k).2];exact h
theorem aa7{P:aj}{f v:Nat->Int}{k:Nat}(hf:∀i,i<k->0<=f i){b:Int}(hb:0<=b)(hi:∀i j,i<k->j<k->f i=f j->i=j):(∀i,i<k->f i=b->FN (Lv P f v k) b=v i)/\((∀i,i<k->f i≠b)->FN (Lv P f v k) b=FN P b):=by
 induction k with
 |zero=>exact⟨λi h=>absurd h (by omega),λ_ =>rfl⟩
 |succ k ih=>
  obtain⟨a,c⟩:=ih (λi h=>hf i (by omega)) (λi j h1 h2=>hi i j (by omega) (by omega));unfold Lv;rw[aa6 (hf k (by omega)) hb];refine⟨λi h1 h2=>?_,λh=>?_⟩
  ·by_cases h3:b=f k
   ·rw[aiM h3]
    rw[hi i k h1 (by omega) (by rw[h2,h3])]
   ·rw[aiN h3]
    refine a i ?_ h2;rcases Nat.lt_or_ge i k with h4|h4
    ·exact h4
    ·obtain rfl:i=k:=by omega
     exact absurd h2.symm h3
  ·rw[aiN λh3=>h k (by omega) h3.symm]
   exact c λi hi'=>h i (by omega)
theorem aa4{n:Nat}(hn:110<=n){P:aj}(h:Ie P){pl:List Int}(hl:pl.length<=8)(hp:∀i,i<pl.length->0<=pl.getD i default/\gW P (pl.getD i default/32)){V:Int}{ρ:Type}(F:ae->aj->ai->List Int->aF->ah->Bool->Option ρ)(S:ae)(M:ai)(Q:List Int)(u:aF)(r:ah)(b:Bool):
  GA (λk63 (qc:Int) (FY:ae) (yg:aj) (Nc:ai) (FX:(List Int)) (zF:aF) (WZ:ah) (JQ:Bool)=>cn (decide (qc<(pl.length:Int))) (gu (dg qc pl.length)<|gu (decide (0<=wr .i64 (8*qc)))<|bd (kL n yg (pl.getD (Int.toNat qc) default) (wr .u8 (Ae .u64 V (wr .i64 (8*qc))))) λQA=>k63 (wr .i64 (qc+1)) FY QA.2 Nc FX zF WZ JQ) (F FY yg Nc FX zF WZ JQ)) n 0 S P M Q u r b=
  F S (Lv P (λi=>pl.getD i default) (λi=>wr .u8 (Ae .u64 V (wr .i64 (8*(i:Int))))) pl.length) M Q u r b:=by
 refine Q7 (λ(i:Int) s p m q u' r' b'=>∃j:Nat,i=(j:Int)/\j<=pl.length/\s=S/\p=Lv P (λi=>pl.getD i default) (λi=>wr .u8 (Ae .u64 V (wr .i64 (8*(i:Int))))) j/\m=M/\q=Q/\u'=u/\r'=r/\b'=b) (λi _ _ _ _ _ _ _ =>((pl.length:Int)-i).toNat) (λo=>o=F S (Lv P (λi=>pl.getD i default) (λi=>wr .u8 (Ae .u64 V (wr .i64 (8*(i:Int))))) pl.length) M Q u r b) ?_ n 0 _ _ _ _ _ _ _ ⟨0,rfl,by omega,rfl,rfl,rfl,rfl,rfl,rfl,rfl⟩ (by omega);rintro kk i s p m q u' r' b' ⟨j,rfl,hj,rfl,rfl,rfl,rfl,rfl,rfl,rfl⟩ ih;by_cases hc:j<pl.length
 ·obtain⟨p0,p1⟩:=hp j hc
  rw[aU (by simpa using hc),bH (gU (by omega) (by omega)),bH (by rw[br (by omega) (by omega)];simp;omega),aiR,ak (Xw hn (SA h λi _ =>aet _) p0 (SB p1) _),br (x:=(j:Int)+1) (by omega) (by omega)];exact ih _ _ _ _ _ _ _ _ ⟨j+1,by omega,by omega,rfl,rfl,rfl,rfl,rfl,rfl,rfl⟩ (by omega)
 ·obtain rfl:j=pl.length:=by omega
  rw[au (by simp)]
end Go.Proofs.Z
namespace Go.Proofs.Z
open Go Go.Bw
def QW(S:ae)(e:Nat->aD):ae:={S with dH:={S.dH with T:={S.dH.T with aW:=λj=>{S.dH.T.aW j with E:=e j}}}}
def iK(S:ae)(k:Nat)(E:aD):ae:={S with dH:={S.dH with T:={S.dH.T with aW:=iD S.dH.T.aW k {S.dH.T.aW k with E:=E}}}}
abbrev bw(S:ae)(k:Nat):aD:=(S.dH.T.aW k).E
theorem Jd(S:ae):QW S (bw S)=S:=rfl
theorem I9(S:ae)(k:Nat)(E:aD)(e:Nat->aD):QW (iK S k E) e=QW S e:=by
 have h:(λj=>{iD S.dH.T.aW k {S.dH.T.aW k with E:=E} j with E:=e j})=λj=>{S.dH.T.aW j with E:=e j}:=by
  funext j;unfold iD;by_cases h:j=k
  ·subst h;rw[aiM rfl]
  ·rw[aiN h]
 unfold QW iK;dsimp only;rw[h]
theorem fS(S:ae)(k:Nat)(E:aD):bw (iK S k E) k=E:=by unfold bw iK;dsimp only;rw[Nm]
theorem rQ(S:ae){k j:Nat}(E:aD)(h:j≠k):bw (iK S k E) j=bw S j:=by unfold bw iK;dsimp only;rw[SV _ _ h]
theorem abr(S:ae)(k j:Nat)(E:aD):((iK S k E).dH.T.aW j).gD=(S.dH.T.aW j).gD:=by
 unfold iK iD;dsimp only;by_cases h:j=k
 ·subst h;rw[aiM rfl]
 ·rw[aiN h]
structure uJ(w:Bool)(n:Nat)(S:ae)(t h:Int)(k:Nat):Prop where
 kl:k<32
 cY:bn n h=some ((k:Int),true)
 Rh:aJ n S.dH.T.fE.kS h=some true
 t0:0<=t
 t1:t<8
 YE:S.mF t.toNat=true
 rd:∀e,pq n (QW S e).dH t h 0=some 0
 wt:w=true->∀e,pq n (QW S e).dH t h 1=some 0
 quo:0<=(S.dH.T.aW k).gD/\(S.dH.T.aW k).gD<=64
 up:∃u,aJ n S.dH.T.fE.kS ((S.dH.T.aW k).Up)=some u
theorem uJ.set{w:Bool}{n:Nat}{S:ae}{t h:Int}{k:Nat}(a:uJ w n S t h k)(j:Nat)(E:aD):uJ w n (iK S j E) t h k where
 kl:=a.kl
 cY:=a.cY
 Rh:=a.Rh
 t0:=a.t0
 t1:=a.t1
 YE:=a.YE
 rd e:=by rw[I9];exact a.rd e
 wt hw e:=by rw[I9];exact a.wt hw e
 quo:=by rw[abr];exact a.quo
 up:=by
  have:((iK S j E).dH.T.aW k).Up=(S.dH.T.aW k).Up:=by
   unfold iK iD;dsimp only;by_cases h:k=j
   ·subst h;rw[aiM rfl]
   ·rw[aiN h]
  rw[this];exact a.up
theorem uJ.ahc{n:Nat}{S:ae}{t h:Int}{k:Nat}(a:uJ true n S t h k):uJ false n S t h k:=⟨a.kl,a.cY,a.Rh,a.t0,a.t1,a.YE,a.rd,λh=>(by cases h),a.quo,a.up⟩
section
variable {w:Bool} {n:Nat} {S:ae} {t h:Int} {k:Nat}
theorem uJ.get(a:uJ w n S t h k):∃u,dW n S.dH.T h=some ({S.dH.T.aW k with Up:=u},0):=by
 obtain⟨b,hb⟩:=a.up;have:=a.kl;obtain⟨u,hu⟩:∃u,lU n S.dH.T h=some u:=by
  unfold lU;rw[ak a.cY,bH (gU (by omega) (by omega)),aiR,ak hb];cases b with
  |false=>exact⟨_,rfl⟩
  |true=>exact⟨_,rfl⟩
 refine⟨u,?_⟩;unfold dW;rw[ak a.Rh,au (b:= !true) rfl,ak a.cY,bH (gU (by omega) (by omega)),aP,aiR,ak hu];rfl
theorem uJ.ahh(hn:110<=n)(a:uJ w n S t h k){E:aD}(hE:pB E)(u:Int):iO n S.dH.T h {S.dH.T.aW k with Up:=u,E:=E}=some ((iK S k E).dH.T,0):=by
 have:=a.kl;have hq:lR n (S.dH.T.aW k).gD=some true:=by unfold lR;obtain⟨q0,q1⟩:=a.quo;simp[q0,q1]
 unfold iO;rw[ak a.Rh,au (b:= !true) rfl,ak hq,rX (g:=(!true)==false) rfl (Jl hn hE),au (by rfl),ak a.cY,bH (gU (by omega) (by omega)),aP,bH (gU (by omega) (by omega)),aP,aiR];rfl
theorem uJ.ahr(a:uJ w n S t h k){x:aq}(hs:x.aH=S)(ht:x.fL=t):bG n x h 0=some (.ok ()):=by have:=a.rd (bw S);rw[Jd]at this;unfold bG;rw[hs,ht,ak this];rfl
theorem uJ.ae4(a:uJ true n S t h k){x:aq}(hs:x.aH=S)(ht:x.fL=t):bG n x h 1=some (.ok ()):=by have:=a.wt rfl (bw S);rw[Jd]at this;unfold bG;rw[hs,ht,ak this];rfl
theorem uJ.region(a:uJ w n S t h k){x:aq}(hs:x.aH=S):∃u,eK n x h=some (.ok {S.dH.T.aW k with Up:=u}):=by obtain⟨u,hu⟩:=a.get;refine⟨u,?_⟩;unfold eK;rw[hs,ak hu];rfl
theorem B5{α β:Type}{x:Option (Except Int α)}{v:α}(h:x=some (.ok v)){f:Int->β}{k:α->Option β}:tr x f k=k v:=by subst h;rfl
theorem aew{α β:Type}{x:Option (Except Int α)}{e:Int}(h:x=some (.error e)){f:Int->β}{k:α->Option β}:tr x f k=some (f e):=by subst h;rfl
theorem tc1{α:Type}{b:Bool}(h:b=true){f:α}{k:Option α}:tc b f k=k:=by subst h;rfl
theorem tc0{α:Type}{b:Bool}(h:b=false){f:α}{k:Option α}:tc b f k=some f:=by subst h;rfl
theorem uG(a:uJ w n S t h k){x:aq}(hs:x.aH=S)(ht:x.fL=t){d:Int}(hd:x.c.Do=d){i:Nat}{m:aah}(hm:Hl d=some (d,i,m)):
  bO n x=tr (m n x) (λe=>(⟨e,0,0⟩,none)) λy=>some (y.1,some y.2):=by
 have h7:rZ .i64 t 7=t:=by have:=VR (k:= .i64) (a:=t) 3 (b:=7) a.t0 (by have:=a.t1;show t<2^63;omega) (by decide) (by decide);rw[this];have:=a.t0;have:=a.t1;exact Int.emod_eq_of_lt (by omega) (by show t<8;omega)
 have hb:(decide (0<=t)&&decide (t<8))=true:=by have:=a.t0;have:=a.t1;simp;omega
 unfold bO;rw[hs,ht,hd,hm,h7,hb,bH (by rw[gU a.t0 a.t1];rfl),tc1 (by rw[a.YE];rfl)]
def jg(S:ae)(t:Int)(c:aC)(r:av)(ze:Bool):aq:={aH:=S,fL:=t,c:=c,run:=r,kN:=0,ze:=ze,fF:=[]}
theorem OT{x:aq}(hB:1<=x.c.B/\x.c.B<=8):qA n x.c=some (.ok ()):=by unfold qA;rw[tc1 (by simp;omega)]
theorem aar(h4:pB (bw S k))(u:Int){x:aq}(hA:0<=x.c.A/\x.c.A<4294967296)(hB:1<=x.c.B/\x.c.B<=8):qB n {S.dH.T.aW k with Up:=u} x.c=if x.c.A+x.c.B<=(bw S k).dZ then some (.ok ())else some (.error 9):=by
 have hl:=h4.lo;have hh:=h4.hi;have hx:=h4.gx.sum;unfold qB;show tc (decide (wr .i64 x.c.A<=wr .i64 ((bw S k).dZ-wr .i64 x.c.B))) _ _ =_;rw[br (x:=x.c.A) (by omega) (by omega),br (x:=x.c.B) (by omega) (by omega),br (by omega) (by omega)];by_cases hc:x.c.A+x.c.B<=(bw S k).dZ
 ·rw[tc1 (by simp;omega),aiM hc]
 ·rw[tc0 (by simp;omega),aiN hc]
theorem VF(a:uJ w n S t h k)(h4:pB (bw S k)){x:aq}(hs:x.aH=S)(ht:x.fL=t)(hR:x.c.R=h)(hA:0<=x.c.A/\x.c.A<4294967296)(hB:1<=x.c.B/\x.c.B<=8):
  gK n x=(if x.c.A+x.c.B<=(bw S k).dZ then some (.ok ⟨0,0,0⟩)else some (.error 9)):=by
 obtain⟨u,hu⟩:=a.region hs;unfold gK;rw[B5 (OT hB),hR,B5 (a.ahr hs ht),B5 hu,aar h4 u hA hB];by_cases hc:x.c.A+x.c.B<=(bw S k).dZ
 ·rw[aiM hc,aiM hc];rfl
 ·rw[aiN hc,aiN hc];rfl
theorem VE(a:uJ true n S t h k)(h4:pB (bw S k)){x:aq}(hs:x.aH=S)(ht:x.fL=t)(hR:x.c.R=h)(hA:0<=x.c.A/\x.c.A<4294967296)(hB:1<=x.c.B/\x.c.B<=8):
  ga n x=(if x.c.A+x.c.B<=(bw S k).dZ then some (.ok ⟨0,0,0⟩)else some (.error 9)):=by
 obtain⟨u,hu⟩:=a.region hs;unfold ga;rw[B5 (OT hB),hR,B5 (a.ae4 hs ht),B5 hu,aar h4 u hA hB];by_cases hc:x.c.A+x.c.B<=(bw S k).dZ
 ·rw[aiM hc,aiM hc];rfl
 ·rw[aiN hc,aiN hc];rfl
theorem acW{c:aC}(a:uJ w n S t h k)(h4:pB (bw S k))(hd:c.Do=3\/(c.Do=4/\w=true))(hR:c.R=h)(hA:0<=c.A/\c.A<4294967296)(hB:1<=c.B/\c.B<=8):
  cq n S t c aB=some (S,⟨if c.A+c.B<=(bw S k).dZ then 0 else 9,0,0⟩,[]):=by
 have hc:bO n (jg S t c aB false)=some (if c.A+c.B<=(bw S k).dZ then(⟨0,0,0⟩,some (jg S t c aB false))else(⟨9,0,0⟩,none)):=by
  rcases hd with hd|⟨hd,hw⟩
  ·have b1:gK n (jg S t c aB false)=(if c.A+c.B<=(bw S k).dZ then some (.ok ⟨0,0,0⟩)else some (.error 9)):=VF a h4 (x:=jg S t c aB false) rfl rfl hR hA hB
   rw[uG a (x:=jg S t c aB false) rfl rfl (d:=3) hd rfl];unfold GJ;rw[b1];by_cases q:c.A+c.B<=(bw S k).dZ
   ·rw[aiM q,aiM q];rfl
   ·rw[aiN q,aiN q];rfl
  ·subst hw
   have b2:ga n (jg S t c aB false)=(if c.A+c.B<=(bw S k).dZ then some (.ok ⟨0,0,0⟩)else some (.error 9)):=VE a h4 (x:=jg S t c aB false) rfl rfl hR hA hB;rw[uG a (x:=jg S t c aB false) rfl rfl (d:=4) hd rfl];unfold GJ;rw[b2];by_cases q:c.A+c.B<=(bw S k).dZ
   ·rw[aiM q,aiM q];rfl
   ·rw[aiN q,aiN q];rfl
 unfold cq;rw[aP];show bd (bO n (jg S t c aB false)) _ =_;rw[ak hc];by_cases q:c.A+c.B<=(bw S k).dZ
 ·rw[aiM q,aiM q];rfl
 ·rw[aiN q,aiN q];rfl
theorem Cm{c:aC}(hd:c.Do≠2):bJ n S t c=some 0:=by
 have:(c.Do !=2)=true:=by simpa using hd
 unfold bJ;rw[aP,this];rfl
theorem vD{c:aC}(a:uJ w n S t h k)(hd:c.Do=2\/c.Do=3\/c.Do=4)(hR:c.R=h):kr n S c=some [h]:=by
 have ho:iU n S c.R=some [h]:=by unfold iU;rw[hR,ak a.Rh];rfl
 unfold kr;rcases hd with hd|hd|hd<;>rw[hd]<;>simp only[cn]<;>simp[ho,bd]
theorem Ti(hn:110<=n){c:aC}(a:uJ w n S t h k)(h4:pB (bw S k))(hd:c.Do=3\/c.Do=4)(hR:c.R=h)(hA:0<=c.A)(hB:1<=c.B/\c.B<=8)(hl:c.A+c.B<=(bw S k).dZ):
  cv n S c=some ((List.range c.B.toNat).map λ(i:Nat)=>dO (bw S k).aK (c.A+(i:Int)),0):=by
 obtain⟨u,hu⟩:=a.get;have hh:=h4.hi;have hx:=h4.gx.sum;have hd':((c.Do !=3)&&(c.Do !=4))=false:=by rcases hd with hd|hd<;>rw[hd]<;>rfl
 unfold cv;rw[hR,ak hu,au (by rfl),hd',br (x:=c.B) (by omega) (by omega),br (x:=c.A) (by omega) (by omega),au (by simp;omega)];show cn (decide (wr .i64 ((bw S k).dZ-c.B)<c.A)) _ _ =_;rw[br (by omega) (by omega),au (by simp;omega)];refine zN (λ(l:List Int) (i:Int)=>∃j:Nat,i=(j:Int)/\(j:Int)<=c.B/\l=(List.range j).map λ(i:Nat)=>dO (bw S k).aK (c.A+(i:Int))) (λ_ i=>(c.B-i).toNat) (λo=>o=some ((List.range c.B.toNat).map λ(i:Nat)=>dO (bw S k).aK (c.A+(i:Int)),0)) ?_ n [] 0 ⟨0,rfl,by omega,rfl⟩ (by omega);rintro kk l i ⟨j,rfl,hj,rfl⟩ ih;by_cases hc:(j:Int)<c.B
 ·rw[aU (by simpa using hc),br (x:=c.A+j) (by omega) (by omega)]
  rw[ak (T9 hn h4 (at_:=c.A+(j:Int)) ⟨by omega,by omega⟩),bH (ni (by simp;omega) (by simp;omega)),aP,br (by omega) (by omega)];refine ih _ _ ⟨j+1,by omega,by omega,?_⟩ (by omega);rw[Gl];unfold plV dO;rw[aiM (by omega),Int.sub_zero]
 ·obtain rfl:c.B.toNat=j:=by omega
  rw[au (by simp;omega)]
end
end Go.Proofs.Z
namespace Go.Proofs.Z
open Go Go.Bw
def eY(s:Int):Int:=(s+31)/32
theorem Ch{s a:Int}(h:tv s a=true):1<=eY s/\s<=32*eY s/\eY s<=4:=by obtain⟨⟨h1,h2⟩,_⟩:=l9.1 h;unfold eY;omega
section
variable {w:Bool} {n:Nat} {S:ae} {t h:Int} {k:Nat}
theorem uJ.ahg(hn:110<=n)(a:uJ w n S t h k){y:aq}(hs:y.aH=S){E:aD}(hE:pB E)(u:Int):gh n y h {S.dH.T.aW k with Up:=u,E:=E}=some (.ok {y with aH:=iK S k E}):=by unfold gh;rw[hs,ak (a.ahh hn hE u)];rfl
theorem Ky{E:aD}(hE:pB E){s b:Int}(hf:eG E s b=true):pB ⟨E.aK,zG E.dZ b+s⟩:=by unfold eG at hf;rw[aiP,decide_eq_true_iff,l9]at hf;obtain⟨⟨⟨o1,o2⟩,o3⟩,o4⟩:=hf;obtain⟨u1,u2,_⟩:=B4 (x:=E.dZ) o3;have:=hE.lo;exact⟨hE.gx,by dsimp only;omega,o4⟩
theorem PI{E:aD}(hE:pB E){s b:Int}(hf:eG E s b=true):0<=zG E.dZ b/\E.dZ<=zG E.dZ b/\zG E.dZ b<=2048:=by have h:=Ky hE hf;unfold eG at hf;rw[aiP,decide_eq_true_iff,l9]at hf;obtain⟨⟨⟨o1,o2⟩,o3⟩,o4⟩:=hf;obtain⟨u1,u2,_⟩:=B4 (x:=E.dZ) o3;have:=hE.lo;have:=hE.gx.sum;omega
theorem Qk(hn:110<=n)(a:uJ w n S t h k){y:aq}(hs:y.aH=S)(hR:y.c.R=h){E:aD}(hE:pB E)(u:Int){s b:Int}(hf:eG E s b=true):
  (bd (gL n ({S.dH.T.aW k with Up:=u,E:=E}:aL).E s b) λC3=>lt ({({S.dH.T.aW k with Up:=u,E:=E}:aL)with E:=C3.1}:aL) λXq=>tr (gh n y y.c.R Xq) (λVr=>(.error Vr)) λFW=>lt ({E:=0,V:=wr .u64 C3.2.1,W:=0}:ah) λx99=>some (.ok (x99,FW)):Option (Except Int (ah×aq)))=some (.ok (⟨0,zG E.dZ b,0⟩,{y with aH:=iK S k ⟨E.aK,zG E.dZ b+s⟩})):=by
 obtain⟨f0,f1,f2⟩:=PI hE hf;rw[ak (X8 hn hE s b),aiM hf,aP,hR,B5 (a.ahg hn hs (Ky hE hf) u),aP];dsimp only;rw[sK f0 (by omega)]
theorem aa8{s b:Int}(ho:tv s b=true):wr .i64 (if 129<s then 129 else s)=s/\wr .i64 (if 9<b then 9 else b)=b:=by
 obtain⟨⟨o1,o2⟩,o3⟩:=l9.1 ho;have:1<=b/\b<=8:=by rcases o3 with rfl|rfl|rfl|rfl<;>omega
 rw[aiN (by omega),aiN (by omega)];exact⟨br (by omega) (by omega),br (by omega) (by omega)⟩
theorem FQ(hn:110<=n)(a:uJ true n S t h k)(h4:pB (bw S k)){x:aq}(hs:x.aH=S)(ht:x.fL=t)(hR:x.c.R=h){s b:Int}(hA:x.c.A=s)(hB:x.c.B=b)(ho:tv s b=true):
  (eG (bw S k) s b=true->dw n x=some (.ok (⟨0,zG (bw S k).dZ b,0⟩,{x with aH:=iK S k ⟨(bw S k).aK,zG (bw S k).dZ b+s⟩})))/\
  (eG (bw S k) s b=false->(S.dH.T.aW k).gD<bE (bw S k).aK+eY s->dw n x=some (.error 6))/\
  (eG (bw S k) s b=false->bE (bw S k).aK+eY s<=(S.dH.T.aW k).gD->x.ze=true->dw n x=some (.ok (⟨0,0,0⟩,{x with kN:=eY s})))/\
  (eG (bw S k) s b=false->bE (bw S k).aK+eY s<=(S.dH.T.aW k).gD->x.ze=false->x.run.N=eY s->Iy x.run.At x.run.N->(∀p,x.run.At<=p->p<x.run.At+x.run.N->¬bZ (bw S k).aK p)->
   dw n x=some (.ok (⟨0,32*bE (bw S k).aK,0⟩,{x with kN:=eY s,aH:=iK S k ⟨(bw S k).aK++[x.run],32*bE (bw S k).aK+s⟩}))):=by
 obtain⟨u,hu⟩:=a.region hs;obtain⟨w1,w2⟩:=aa8 ho;obtain⟨n1,n2,n3⟩:=Ch ho;obtain⟨⟨o1,o2⟩,o3⟩:=l9.1 ho;have hq:=a.quo;have g0:=h4.gx.pos;have g1:=h4.gx.sum;have hne:pc n s b=some (eY s,true):=by rw[Ul (by omega),aiM ho];rfl
 have GU:=PG hn h4 s b;have hpg:=NI hn h4;have pre:∀z,(∀F:aL->aq->Option (Except Int (ah×aq)),F=(λ(jx:aL) (gR:aq)=>bd (gL n jx.E s b) λC3=>lt ({jx with E:=C3.1}:aL) λXq=>tr (gh n gR gR.c.R Xq) (λVr=>(.error Vr)) λFW=>lt ({E:=0,V:=wr .u64 C3.2.1,W:=0}:ah) λx99=>some (.ok (x99,FW)))->
   (cn ((!(EA (bw S k) s b).2)) (tc (decide ((wr .i64 (bE (bw S k).aK+eY s))<=(S.dH.T.aW k).gD)) (.error 6)<|cn (x.ze) (some (.ok (⟨0,0,0⟩,{x with kN:=eY s}))) (bd (fk n (bw S k) x.run) λzF=>lt ({({S.dH.T.aW k with Up:=u}:aL)with E:=zF}:aL) λJP=>cl ((x.run.N==eY s)==true) (fO n JP.E) default λNb=>tc ((x.run.N==eY s)&&Nb) (.error 2)<|F JP ({x with kN:=eY s}))) (F {S.dH.T.aW k with Up:=u} x)=z))->dw n x=z:=by
  intro z hz;unfold dw;rw[hA,hB,w1,w2,ak hne,tc1 (by rfl),hR,B5 (a.ae4 hs ht),B5 hu,aP];refine Eq.trans ?_ (hz _ rfl);show bd (gj n (bw S k) s b) _ =_;rw[ak GU];show cn _ (bd (cR n (bw S k)) _) _ =_;rw[ak hpg];rfl
 refine⟨λhf=>pre _ λF hF=>?_,λhf hl=>pre _ λF hF=>?_,λhf hl hk=>pre _ λF hF=>?_,λhf hl hk r1 r2 r3=>pre _ λF hF=>?_⟩
 ·unfold EA
  rw[hf,aiM rfl,au (b:= !true) rfl,hF];exact Qk hn a hs hR h4 u hf
 ·unfold EA
  rw[hf,aiN (by simp),aU (b:= !false) rfl,br (by omega) (by omega),tc0 (by simp;omega)]
 ·unfold EA
  rw[hf,aiN (by simp),aU (b:= !false) rfl,br (by omega) (by omega),tc1 (by simp;omega),aU hk]
 ·have hm:=Jm h4 r2 r3
  have e:(⟨x.run.At,x.run.N⟩:Rn)=x.run:=rfl;rw[e]at hm;have hs2:bE ((bw S k).aK++[x.run])=bE (bw S k).aK+eY s:=by rw[oL, ← e,wq,r1]
  have hu4:zG (32*bE (bw S k).aK) b=32*bE (bw S k).aK:=by unfold zG;rcases o3 with rfl|rfl|rfl|rfl<;>omega
  have hf2:eG ⟨(bw S k).aK++[x.run],32*bE (bw S k).aK⟩ s b=true:=by unfold eG;rw[ho,hs2];dsimp only;rw[hu4];simp;omega
  unfold EA;rw[hf,aiN (by simp),aU (b:= !false) rfl,br (by omega) (by omega),tc1 (by simp;omega),au hk,ak (Y7 hn h4 x.run),aP,rX (by rw[r1];simp) (Jl hn hm),tc1 (by rw[r1];simp),hF];have:=Qk hn a (y:={x with kN:=eY s}) hs hR hm u hf2;dsimp only at this;rw[hu4]at this;exact this
def L4(S:ae)(k:Nat)(s b:Int):Int:=if eG (bw S k) s b=true then 0 else if bE (bw S k).aK+eY s<=(S.dH.T.aW k).gD then eY s else 0
theorem PY:∃i,Hl 2=some (2,i,dw):=⟨_,rfl⟩
theorem Um(hn:110<=n)(a:uJ true n S t h k)(h4:pB (bw S k)){c:aC}(hd:c.Do=2)(hR:c.R=h){s b:Int}(hA:c.A=s)(hB:c.B=b)(ho:tv s b=true):
  bJ n S t c=some (L4 S k s b):=by
 obtain⟨i,hi⟩:=PY;obtain⟨a1,a2,a3,_⟩:=FQ hn a h4 (x:=jg S t c aB true) rfl rfl hR hA hB ho;unfold bJ;rw[aP,aU (by rw[hd];rfl)];show bd (bO n (jg S t c aB true)) _ =_;unfold L4;cases hf:eG (bw S k) s b with
 |true=>rw[ak (by rw[uG a (x:=jg S t c aB true) rfl rfl hd hi,B5 (a1 hf)])];rw[hd,aiM rfl];rfl
 |false=>
  rw[aiN (by simp)];by_cases hq:bE (bw S k).aK+eY s<=(S.dH.T.aW k).gD
  ·rw[ak (by rw[uG a (x:=jg S t c aB true) rfl rfl hd hi,B5 (a3 hf hq rfl)])]
   rw[hd,aiM hq];rfl
  ·rw[ak (by rw[uG a (x:=jg S t c aB true) rfl rfl hd hi,aew (a2 hf (by omega))])]
   rw[hd,aiN hq];rfl
theorem PZ(hn:110<=n)(a:uJ true n S t h k)(h4:pB (bw S k)){c:aC}(hd:c.Do=2)(hR:c.R=h){s b:Int}(hA:c.A=s)(hB:c.B=b)(ho:tv s b=true)(hf:eG (bw S k) s b=true):
  cq n S t c aB=some (iK S k ⟨(bw S k).aK,zG (bw S k).dZ b+s⟩,⟨0,zG (bw S k).dZ b,0⟩,[]):=by
 obtain⟨i,hi⟩:=PY;obtain⟨a1,_⟩:=FQ hn a h4 (x:=jg S t c aB false) rfl rfl hR hA hB ho;unfold cq;rw[aP];show bd (bO n (jg S t c aB false)) _ =_;rw[ak (by rw[uG a (x:=jg S t c aB false) rfl rfl hd hi,B5 (a1 hf)])];rfl
theorem acV(hn:110<=n)(a:uJ true n S t h k)(h4:pB (bw S k)){c:aC}(hd:c.Do=2)(hR:c.R=h){s b:Int}(hA:c.A=s)(hB:c.B=b)(ho:tv s b=true)(hf:eG (bw S k) s b=false)(hq:(S.dH.T.aW k).gD<bE (bw S k).aK+eY s):
  cq n S t c aB=some (S,⟨6,0,0⟩,[]):=by
 obtain⟨i,hi⟩:=PY;obtain⟨_,a2,_⟩:=FQ hn a h4 (x:=jg S t c aB false) rfl rfl hR hA hB ho;unfold cq;rw[aP];show bd (bO n (jg S t c aB false)) _ =_;rw[ak (by rw[uG a (x:=jg S t c aB false) rfl rfl hd hi,aew (a2 hf hq)])];rfl
theorem Vz(hn:110<=n)(a:uJ true n S t h k)(h4:pB (bw S k)){c:aC}(hd:c.Do=2)(hR:c.R=h){s b:Int}(hA:c.A=s)(hB:c.B=b)(ho:tv s b=true)(hf:eG (bw S k) s b=false)(hq:bE (bw S k).aK+eY s<=(S.dH.T.aW k).gD){r:Rn}(r1:r.N=eY s)(r2:Iy r.At r.N)(r3:∀p,r.At<=p->p<r.At+r.N->¬bZ (bw S k).aK p):
  cq n S t c r=some (iK S k ⟨(bw S k).aK++[r],32*bE (bw S k).aK+s⟩,⟨0,32*bE (bw S k).aK,0⟩,[]):=by
 obtain⟨i,hi⟩:=PY;obtain⟨_,_,_,a4⟩:=FQ hn a h4 (x:=jg S t c r false) rfl rfl hR hA hB ho;unfold cq;rw[aP];show bd (bO n (jg S t c r false)) _ =_;rw[ak (by rw[uG a (x:=jg S t c r false) rfl rfl hd hi,B5 (a4 hf hq rfl r1 r2 r3)])];rfl
theorem Ua{c:aC}(a:uJ w n S t h k)(hd:c.Do=2)(hR:c.R=h):cv n S c=some ([],2):=by obtain⟨u,hu⟩:=a.get;unfold cv;rw[hR,ak hu,au (by rfl),aU (by rw[hd];rfl)]
theorem ac3(hn:110<=n)(a:uJ true n S t h k)(h4:pB (bw S k)){c:aC}(hd:c.Do=2)(hR:c.R=h){s b:Int}(hA:c.A=s)(hB:c.B=b)(ho:tv s b=true):
  fY n S t c=some (if eG (bw S k) s b=true then 0 else if bE (bw S k).aK+eY s<=(S.dH.T.aW k).gD then 0 else 6):=by
 obtain⟨n1,n2,n3⟩:=Ch ho;unfold fY;rw[ak (Um hn a h4 hd hR hA hB ho)];unfold L4;cases hf:eG (bw S k) s b with
 |true=>rw[aiM rfl,aiM rfl,au (by simp),ak (PZ hn a h4 hd hR hA hB ho hf)];rfl
 |false=>
  have hff:¬(false=true):=by simp
  rw[aiN hff,aiN hff];by_cases hq:bE (bw S k).aK+eY s<=(S.dH.T.aW k).gD
  ·rw[aiM hq,aiM hq,aU (by simp;omega)]
  ·rw[aiN hq,aiN hq,au (by simp),ak (acV hn a h4 hd hR hA hB ho hf (by omega))];rfl
theorem Qd{c:aC}(a:uJ w n S t h k)(h4:pB (bw S k))(hd:c.Do=3\/(c.Do=4/\w=true))(hR:c.R=h)(hA:0<=c.A/\c.A<4294967296)(hB:1<=c.B/\c.B<=8):
  fY n S t c=some (if c.A+c.B<=(bw S k).dZ then 0 else 9):=by
 unfold fY;rw[ak (Cm (by omega)),au (by simp),ak (acW a h4 hd hR hA hB)];rfl
end
end Go.Proofs.Z
