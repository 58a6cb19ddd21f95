/- Part 15 of what a proof leans on; pruned and shortened by a program out of longer texts. -/
import Derived.Test.YtgdmofhmmhcmjaaGreatDoorQ14
namespace Go.Proofs.Z
open Go Go.Bw
abbrev Rn:=av
structure qb(l:List Rn):Prop where
 vW:∀y∈l,0<=y.At/\1<=y.N/\y.At+y.N<=64
 pw:l.Pairwise λy z=>y.At+y.N<z.At
def bZ(l:List Rn)(p:Int):Prop:=∃y∈l,y.At<=p/\p<y.At+y.N
def IA(at_ k:Int):Prop:=1<=k/\0<=at_/\at_+k<=64
def So(x:Int):Prop:= -9223372036854775808<=x/\x<=9223372036854775807
theorem qb.nil:qb []:=⟨by simp, .nil⟩
theorem MN:∀{l:List Rn} {lo:Int},qb l->(∀y∈l,lo<=y.At)->lo<=65->(l.length:Int)*2<=65-lo
 |[],lo,_,_,h=>by simp;omega
 |y::r,lo,h,hl,_ =>by obtain⟨h1,h2⟩:=List.pairwise_cons.1 h.pw;have hy:=h.vW y (by simp);have hy':=hl y (by simp);have:=MN (l:=r) (lo:=y.At+y.N+1) ⟨λz hz=>h.vW z (by simp[hz]),h2⟩ (λz hz=>by have:=h1 z hz;omega) (by omega);simp only[List.length_cons];omega
theorem qb.len{l:List Rn}(h:qb l):l.length<=32:=by have:=MN (lo:=0) h (λy hy=>(h.vW y hy).1) (by omega);omega
theorem qb.two{l:List Rn}(h:qb l){y z:Rn}(hy:y∈l)(hz:z∈l):y=z\/y.At+y.N<z.At\/z.At+z.N<y.At:=by
 have:=h.pw;clear h
 induction l with
 |nil=>simp at hy
 |cons x r ih=>
  obtain⟨h1,h2⟩:=List.pairwise_cons.1 this;rcases List.mem_cons.1 hy with rfl|hy'<;>rcases List.mem_cons.1 hz with rfl|hz'
  ·exact .inl rfl
  ·exact .inr (.inl (h1 z hz'))
  ·exact .inr (.inr (h1 y hy'))
  ·exact ih hy' hz' h2
theorem kO(p:Int):¬bZ [] p:=by simp[bZ]
theorem fQ{y:Rn}{r:List Rn}{p:Int}:bZ (y::r) p↔(y.At<=p/\p<y.At+y.N)\/bZ r p:=by simp[bZ]
theorem jM{l r:List Rn}{p:Int}:bZ (l++r) p↔bZ l p\/bZ r p:=by simp[bZ,or_and_right,exists_or]
theorem Ut{l:List Rn}(h:qb l){p:Int}(hp:bZ l p):0<=p/\p<64:=by obtain⟨y,hy,h1,h2⟩:=hp;have:=h.vW y hy;omega
theorem qb.SJ{l:List Rn}(h:qb l){at_ k:Int}(hk:1<=k)(hm:∀p,at_<=p->p<at_+k->bZ l p):∃y∈l,y.At<=at_/\at_+k<=y.At+y.N:=by
 obtain⟨y,hy,h1,h2⟩:=hm at_ (by omega) (by omega);refine⟨y,hy,h1,?_⟩;refine Int.not_lt.1 λ_=>?_;obtain⟨z,hz,h3,h4⟩:=hm (y.At+y.N) (by omega) (by omega);rcases h.two hy hz with rfl|h5|h5
 ·omega
 ·omega
 ·have:=h.vW z hz;omega
theorem K9:∀{l m:List Rn},qb l->qb m->(∀p,bZ l p↔bZ m p)->l=m
 |[],[],_,_,_ =>rfl
 |[],z::m,_,hm,h=>by have:=hm.vW z (by simp);exact absurd ((h z.At).2 (fQ.2 (.inl ⟨by omega,by omega⟩))) (kO _)
 |y::l,[],hl,_,h=>by have:=hl.vW y (by simp);exact absurd ((h y.At).1 (fQ.2 (.inl ⟨by omega,by omega⟩))) (kO _)
 |y::l,z::m,hl,hm,h=>by
  obtain⟨a1,a2⟩:=List.pairwise_cons.1 hl.pw;obtain⟨b1,b2⟩:=List.pairwise_cons.1 hm.pw;have hy:=hl.vW y (by simp);have hz:=hm.vW z (by simp);have f1:∀p,bZ l p->y.At+y.N<p:=λp ⟨q,hq,h1,h2⟩=>by have:=a1 q hq;omega
  have f2:∀p,bZ m p->z.At+z.N<p:=λp ⟨q,hq,h1,h2⟩=>by have:=b1 q hq;omega
  have g1:∀p,y.At<=p->p<y.At+y.N->(z.At<=p/\p<z.At+z.N)\/bZ m p:=λp h1 h2=>fQ.1 ((h p).1 (fQ.2 (.inl ⟨h1,h2⟩)));have g2:∀p,z.At<=p->p<z.At+z.N->(y.At<=p/\p<y.At+y.N)\/bZ l p:=λp h1 h2=>fQ.1 ((h p).2 (fQ.2 (.inl ⟨h1,h2⟩)));have e1:y.At=z.At:=by
   rcases g1 y.At (by omega) (by omega)with c|c<;>rcases g2 z.At (by omega) (by omega)with d|d
   ·omega
   ·have:=f1 _ d;omega
   ·have:=f2 _ c;omega
   ·have:=f1 _ d;have:=f2 _ c;omega
  have e2:y.N=z.N:=by
   refine Int.le_antisymm (Int.not_lt.1 λhlt=>?_) (Int.not_lt.1 λhlt=>?_)
   ·rcases g1 (z.At+z.N) (by omega) (by omega)with c|c
    ·omega
    ·have:=f2 _ c;omega
   ·rcases g2 (y.At+y.N) (by omega) (by omega)with c|c
    ·omega
    ·have:=f1 _ c;omega
  have e:y=z:=by cases y;cases z;simp_all
  subst e;congr 1;refine K9 ⟨λq hq=>hl.vW q (by simp[hq]),a2⟩ ⟨λq hq=>hm.vW q (by simp[hq]),b2⟩ λp=>⟨λhp=>?_,λhp=>?_⟩
  ·rcases fQ.1 ((h p).1 (fQ.2 (.inr hp)))with c|c
   ·have:=f1 _ hp;omega
   ·exact c
  ·rcases fQ.1 ((h p).2 (fQ.2 (.inr hp)))with c|c
   ·have:=f2 _ hp;omega
   ·exact c
theorem V0{n:Nat}{l:List Rn}(hl:l.length<=100)(hn:110<=n):∃xs,iT n l=some xs/\xs.map Prod.snd=l:=by
 unfold iT;have key:∀(m x:Nat),x<=l.length->l.length-x<m->∃xs,iw (λIc (gM:Int)=>cn (decide (gM<(l.length:Int))) (gu (dg gM l.length)<|lt ((l.getD (Int.toNat gM) default):av) λgR=>yl (gM,gR)<|Ic (wr .i64 (gM+1))) (some [])) m (x:Int)=some xs/\xs.map Prod.snd=l.drop x:=by
  intro m
  induction m with
  |zero=>intro x _ h;omega
  |succ m ih=>
   intro x hx hm;simp only[iw];by_cases hc:x<l.length
   ·rw[aU (by simpa using hc),bH (gU (by omega) (by omega)),aP,br (by omega) (by omega)]
    obtain⟨xs,h1,h2⟩:=ih (x+1) (by omega) (by omega);have e:((x:Int)+1)=((x+1:Nat):Int):=by omega
    rw[e,h1];refine⟨_,rfl,?_⟩;rw[List.map_cons,h2,List.drop_eq_getElem_cons hc,aiV,List.getD,aiZ hc];rfl
   ·rw[au (by simpa using hc)]
    exact⟨[],rfl,by rw[List.drop_eq_nil_of_le (by omega)];rfl⟩
 obtain⟨xs,h1,h2⟩:=key n 0 (by omega) (by omega);exact⟨xs,h1,by simpa using h2⟩
theorem PY(n:Nat)(r:bj):oN n r=some r.l:=rfl
theorem NT{n:Nat}{at_ k:Int}(ha:So at_)(hk:So k):∃b,mL n ⟨at_,k⟩=some b/\(b=true↔IA at_ k):=by
 obtain⟨a1,a2⟩:=ha;obtain⟨k1,k2⟩:=hk;refine⟨_,rfl,?_⟩;show((decide (1<=k)&&decide (0<=at_))&&decide (at_<=wr .i64 (64-k)))=true↔_;unfold IA;by_cases h:1<=k
 ·rw[br (by omega) (by omega)];simp;omega
 ·simp[h]
theorem DT{n:Nat}{y:Rn}(h:0<=y.At/\1<=y.N/\y.At+y.N<=64):bF n y=some (y.At+y.N):=by unfold bF;rw[br (by omega) (by omega)]
def Pw(y x:Rn):Prop:=y.At<=x.At/\x.At+x.N<=y.At+y.N
instance(y x:Rn):Decidable (Pw y x):=by unfold Pw;infer_instance
theorem UR{n:Nat}{y x:Rn}(hy:0<=y.At/\1<=y.N/\y.At+y.N<=64)(hx:IA x.At x.N):lW n y x=some (decide (Pw y x)):=by
 unfold lW IA at *;rw[zS (DT (by omega)),zS (DT hy)];congr 1;unfold Pw;by_cases he:qP x y=true
 ·have:x.At=y.At/\x.N=y.N:=by simpa[qP]using he
  simp[he,this.1,this.2]
 ·by_cases h1:y.At<=x.At
  ·simp[he,h1]
  ·simp[he,h1]
theorem Mi{n:Nat}(hn:110<=n){l:List Rn}(hl:qb l){x:Rn}(hx:IA x.At x.N):∃v,bM n l x=some v/\((v= -1/\∀y∈l,¬Pw y x)\/∃i,∃h:i<l.length,v=(i:Int)/\Pw l[i] x):=by
 unfold bM;have hlen:=hl.len;refine Ra (λ(v:Int)=>0<=v/\v<=l.length/\∀y∈l.take v.toNat,¬Pw y x) (λv=>((l.length:Int)-v).toNat) (λo=>∃v,o=some v/\((v= -1/\∀y∈l,¬Pw y x)\/∃i,∃h:i<l.length,v=(i:Int)/\Pw l[i] x)) ?_ n 0 ⟨by omega,by omega,by simp⟩ (by omega);rintro kk v ⟨v0,v1,hv⟩ ih;obtain⟨i,rfl⟩:=Int.eq_ofNat_of_zero_le v0;by_cases hc:i<l.length
 ·have hg:l.getD (Int.toNat (i:Int)) default=l[i]:=by rw[aiV,List.getD,aiZ hc];rfl
  rw[aU (by simpa using hc),bH (gU (by omega) (by omega)),hg,br (by omega) (by omega)];rw[ak (show mK n l[i] x=some (decide (Pw l[i] x))by unfold mK;rw[ak (UR (hl.vW _ (List.getElem_mem hc)) hx)])];by_cases he:Pw l[i] x
  ·rw[aU (by simpa using he)]
   exact⟨_,rfl, .inr ⟨i,hc,rfl,he⟩⟩
  ·rw[au (by simpa using he)]
   refine ih _ ⟨by omega,by omega,λy hy=>?_⟩ (by omega);have e:((i:Int)+1).toNat=i+1:=by omega
   rw[e,ai0 hc]at hy;rcases List.mem_append.1 hy with h|h
   ·exact hv y (by simpa using h)
   ·rw[List.mem_singleton.1 h];exact he
 ·rw[au (by simpa using hc)]
  refine⟨-1,rfl, .inl ⟨rfl,λy hy=>hv y ?_⟩⟩;rw[List.take_of_length_le (by omega)];exact hy
theorem Rd{n:Nat}{l:List Rn}{x:Rn}:eB n l x=bM n l x:=rfl
theorem Pv{y x:Rn}(h:Pw y x)(hx:IA x.At x.N){l:List Rn}(hy:y∈l):∀p,x.At<=p->p<x.At+x.N->bZ l p:=λp h1 h2=>⟨y,hy,by unfold Pw at h;omega,by unfold Pw at h;omega⟩
theorem acD{n:Nat}(hn:110<=n){r:bj}(hr:qb r.l){p:Int}(hp:So p):∃b,g8 n r p=some b/\(b=true↔bZ r.l p):=by
 unfold g8;rw[aP];obtain⟨b,hb,hb'⟩:=NT (n:=n) hp (show So 1 from⟨by omega,by omega⟩);rw[ak hb];cases b with
 |false=>refine⟨false,rfl,⟨λh=>(by cases h),λhm=>?_⟩⟩;have:=Ut hr hm;exact hb'.2 ⟨by omega,by omega,by omega⟩
 |true=>
  have ho:=hb'.1 rfl;obtain⟨v,h1,h2⟩:=Mi hn hr (x:=⟨p,1⟩) ho;have h3:cM n r.l ⟨p,1⟩=some (decide (0<=v)):=by unfold cM;rw[Rd,ak h1]
  rw[rY (g:=(true==true)) rfl h3];refine⟨_,rfl,?_⟩;rcases h2 with⟨rfl,h2⟩|⟨i,hi,rfl,h2⟩
  ·simp
   rintro⟨y,hy,h4,h5⟩;exact h2 y hy ⟨h4,by show p+1<=_;omega⟩
  ·simp
   exact Pv h2 ho (List.getElem_mem hi) p (by show p<=p;omega) (by show p<p+1;omega)
def Ol(k:Int)(y:Rn):Bool:=decide (1<=k)&&decide (k<=y.N)
def Hf(k:Int)(l:List Rn):Int×Bool:=match l.find? (Ol k)with|some y=>(y.At,true)|none=>(0,false)
theorem PN{n:Nat}(hn:110<=n){r:bj}(hr:qb r.l)(k:Int):oO n r k=some (Hf k r.l):=by
 unfold oO;rw[ak (PY n r)];obtain⟨xs,h1,h2⟩:=V0 (n:=n) (l:=r.l) (by have:=hr.len;omega) hn;rw[ak h1, ← h2];clear h1 h2 hr
 induction xs with
 |nil=>rfl
 |cons e xs ih=>
  show cn (Ol k e.2) (some (e.2.At,true)) _ =_;unfold Hf;rw[List.map_cons,List.find?_cons];cases hf:Ol k e.2 with
  |true=>rfl
  |false=>exact ih
def Ju(l:List Rn)(a k:Int):Prop:=IA a k/\∀p,a<=p->p<a+k->bZ l p
theorem Zr{l:List Rn}(hl:qb l){k:Int}:(Hf k l=(0,false)/\∀a,¬Ju l a k)\/∃v,Hf k l=(v,true)/\0<=v/\Ju l v k/\∀a,a<v->¬Ju l a k:=by
 unfold Hf;cases hf:l.find? (Ol k)with
 |none=>refine .inl ⟨rfl,λa ⟨⟨o1,o2,o3⟩,h⟩=>?_⟩;obtain⟨y,hy,h1,h2⟩:=hl.SJ o1 h;have:=List.find?_eq_none.1 hf y hy;refine this ?_;simp only[Ol,aiT,decide_eq_true_eq];omega
 |some y=>
  obtain⟨hp,us,bs,e,hno⟩:=List.find?_eq_some_iff_append.1 hf;have hy:y∈l:=by rw[e];simp
  have Xj:=hl.vW y hy;simp only[Ol,aiT,decide_eq_true_eq]at hp;refine .inr ⟨y.At,rfl,by omega,⟨⟨by omega,by omega,by omega⟩,λp h1 h2=>⟨y,hy,h1,by omega⟩⟩,λa ha ⟨⟨o1,o2,o3⟩,h⟩=>?_⟩;obtain⟨z,hz,h1,h2⟩:=hl.SJ o1 h;have hzy:z∈us:=by
   rw[e]at hz;rcases List.mem_append.1 hz with hz|hz
   ·exact hz
   ·rcases List.mem_cons.1 hz with rfl|hz
    ·omega
    ·have M7:=hl.pw
     rw[e]at M7;have:=(List.pairwise_cons.1 (List.pairwise_append.1 M7).2.1).1 z hz;omega
  have:=hno z hzy;simp only[Ol,Bool.not_eq_true',Bool.and_eq_false_iff,decide_eq_false_iff_not]at this;omega
theorem RC{n:Nat}{a b c:List Rn}(ha:a.length<=100)(hb:b.length<=100)(hc:c.length<=100):eX n a b c=some (a++b++c):=by
 unfold eX;have e1:wr .i64 (0+(a.length:Int))=a.length:=by rw[br (by omega) (by omega)];omega
 have e2:wr .i64 ((a.length:Int)+b.length)=(a.length:Int)+b.length:=br (by omega) (by omega);have e3:wr .i64 ((a.length:Int)+b.length+c.length)=(a.length:Int)+b.length+c.length:=br (by omega) (by omega);rw[e1,e2,e3,au (by simp),au (by simp;omega),au (by simp;omega)];have hg:dQ n ((a.length:Int)+b.length+c.length)=some ():=by
  unfold dQ;simp only[aP];rw[au (by simp;omega),br (by omega) (by omega)];by_cases h0:0<(a.length:Int)+b.length+c.length
  ·rw[aU (by simp;omega),bH]
   simp only[KV,decide_eq_true_eq];omega
  ·rw[au (by simp;omega)]
 rw[ak hg,bH (ni (by simp;omega) (by simp;omega)),aP,bH (ni (by simp;omega) (by simp;omega)),aP,bH (ni (by simp;omega) (by simp;omega)),aP];rfl
theorem qb.cut{l:List Rn}(h:qb l){i:Nat}(hi:i<l.length){left:List Rn}{at_ k:Int}(hk:1<=k)(hin:l[i].At<=at_/\at_+k<=l[i].At+l[i].N)
  (hl:qb left)(hm:∀p,bZ left p↔(l[i].At<=p/\p<l[i].At+l[i].N)/\¬(at_<=p/\p<at_+k))(hb:∀y∈left,l[i].At<=y.At/\y.At+y.N<=l[i].At+l[i].N):
  qb (l.take i++left++l.drop (i+1))/\∀p,bZ (l.take i++left++l.drop (i+1)) p↔bZ l p/\¬(at_<=p/\p<at_+k):=by
 have e:l=l.take i++l[i]::l.drop (i+1):=by rw[← List.drop_eq_getElem_cons hi,List.take_append_drop]
 generalize hy:l[i]=y at *;have M7:=h.pw;rw[e]at M7;obtain⟨q1,q2,q3⟩:=List.pairwise_append.1 M7;obtain⟨q4,q5⟩:=List.pairwise_cons.1 q2;have hyl:y∈l:=by rw[e];simp
 have Xj:=h.vW y hyl;refine⟨⟨?_,?_⟩,λp=>?_⟩
 ·intro z hz
  rcases List.mem_append.1 hz with hz|hz
  ·rcases List.mem_append.1 hz with hz|hz
   ·exact h.vW z (List.mem_of_mem_take hz)
   ·exact hl.vW z hz
  ·exact h.vW z (List.mem_of_mem_drop hz)
 ·refine List.pairwise_append.2 ⟨List.pairwise_append.2 ⟨q1,hl.pw,λa ha b hb'=>?_⟩,q5,λa ha b hb'=>?_⟩
  ·have:=q3 a ha y (by simp);have:=hb b hb';omega
  ·rcases List.mem_append.1 ha with ha|ha
   ·exact q3 a ha b (by simp[hb'])
   ·have:=q4 b hb';have:=hb a ha;omega
 ·have hp:bZ l p↔bZ (l.take i) p\/(y.At<=p/\p<y.At+y.N)\/bZ (l.drop (i+1)) p:=by
   conv=>lhs;rw[e,jM,fQ]
  rw[jM,jM,hm p,hp];have t1:bZ (l.take i) p->p<y.At:=λ⟨z,hz,h1,h2⟩=>by have:=q3 z hz y (by simp);omega
  have t2:bZ (l.drop (i+1)) p->y.At+y.N<p:=λ⟨z,hz,h1,h2⟩=>by have:=q4 z hz;omega
  constructor
  ·rintro((c|⟨c1,c2⟩)|c)
   ·have:=t1 c;exact⟨.inl c,by omega⟩
   ·exact⟨.inr (.inl c1),c2⟩
   ·have:=t2 c;exact⟨.inr (.inr c),by omega⟩
  ·rintro⟨c|c|c,d⟩
   ·exact .inl (.inl c)
   ·exact .inl (.inr ⟨c,d⟩)
   ·exact .inr c
theorem XL{n:Nat}(hn:110<=n){r:bj}(hr:qb r.l){at_ k:Int}(ha:So at_)(hk:So k):
  ∃r' g,jK n r at_ k=some (r',g)/\(g=true↔Ju r.l at_ k)/\(g=false->r'=r)/\(g=true->qb r'.l/\∀p,bZ r'.l p↔bZ r.l p/\¬(at_<=p/\p<at_+k)):=by
 unfold jK;rw[aP];obtain⟨b,hb,hb'⟩:=NT (n:=n) ha hk;rw[ak hb];cases b with
 |false=>refine⟨r,false,rfl,⟨λh=>(by cases h),λh=>hb'.2 h.1⟩,λ_ =>rfl,λh=>(by cases h)⟩
 |true=>
  have ho:=hb'.1 rfl;obtain⟨o1,o2,o3⟩:=ho;obtain⟨v,h1,h2⟩:=Mi hn hr (x:=⟨at_,k⟩) ⟨o1,o2,o3⟩;rw[au (b:= !true) rfl,ak h1];rcases h2 with⟨rfl,h2⟩|⟨i,hi,rfl,h2⟩
  ·refine⟨r,false,rfl,⟨λh=>(by cases h),λh=>?_⟩,λ_ =>rfl,λh=>(by cases h)⟩
   obtain⟨y,hy,h3,h4⟩:=hr.SJ o1 h.2;exact absurd ⟨h3,h4⟩ (h2 y hy)
  ·have hlen:=hr.len
   have Xj:=hr.vW _ (List.getElem_mem hi);have hg:r.l.getD (Int.toNat (i:Int)) default=r.l[i]:=by rw[aiV,List.getD,aiZ hi];rfl
   have hin:r.l[i].At<=at_/\at_+k<=r.l[i].At+r.l[i].N:=h2;have e1:wr .i64 ((i:Int)+1)=((i+1:Nat):Int):=by rw[br (by omega) (by omega)];omega
   rw[au (by simp),bH (gU (by omega) (by omega)),aP,hg];have fin:∀left:List Rn,left.length<=2->qb left->(∀p,bZ left p↔(r.l[i].At<=p/\p<r.l[i].At+r.l[i].N)/\¬(at_<=p/\p<at_+k))->(∀y∈left,r.l[i].At<=y.At/\y.At+y.N<=r.l[i].At+r.l[i].N)->
     ∃r' g,(gu (dg (i:Int) (r.l.length+1))<|gu (dg (wr .i64 ((i:Int)+1)) (r.l.length+1))<|bd (eX n (r.l.take (Int.toNat (i:Int))) left (r.l.drop (Int.toNat (wr .i64 ((i:Int)+1))))) λJQ=>lt ({l:=JQ}:bj) λC5=>some (C5,true))=some (r',g)/\
      (g=true↔Ju r.l at_ k)/\(g=false->r'=r)/\(g=true->qb r'.l/\∀p,bZ r'.l p↔bZ r.l p/\¬(at_<=p/\p<at_+k)):=λleft c1 c2 c3 c4=>by
    rw[e1,bH (gU (by omega) (by omega)),bH (gU (by omega) (by omega)),aiV,aiV,ak (RC (by rw[List.length_take];omega) (by omega) (by rw[List.length_drop];omega))];exact⟨_,true,rfl,⟨λ_ =>⟨⟨o1,o2,o3⟩,Pv (x:=⟨at_,k⟩) h2 ⟨o1,o2,o3⟩ (List.getElem_mem hi)⟩,λ_ =>rfl⟩,λh=>(by cases h),λ_ =>hr.cut hi o1 hin c2 c3 c4⟩
   generalize hy:r.l[i]=y at *;dsimp only[lt];have ex:bF n (⟨at_,k⟩:Rn)=some (at_+k):=DT (y:=⟨at_,k⟩) ⟨o2,o1,o3⟩;have ey:bF n y=some (y.At+y.N):=DT Xj;by_cases c1:y.At<at_
   ·rw[aU (by simpa using c1),br (x:=at_-y.At) (by omega) (by omega),bH (ni (by simp) (by simp)),ak ex,ak ey]
    by_cases c2:at_+k<y.At+y.N
    ·rw[aU (by simpa using c2),ak ex,ak ey,ak ex,br (x:=y.At+y.N-(at_+k)) (by omega) (by omega),bH (ni (by simp) (by simp))]
     refine fin [⟨y.At,at_-y.At⟩,⟨at_+k,y.At+y.N-(at_+k)⟩] (by simp) ⟨?_,?_⟩ (λp=>?_) ?_
     ·intro z hz
      simp only[List.nil_append,List.cons_append,List.mem_cons,List.not_mem_nil,or_false]at hz;rcases hz with rfl|rfl<;>dsimp only<;>omega
     ·refine List.pairwise_cons.2 ⟨λz hz=>?_,List.pairwise_singleton _ _⟩
      obtain rfl:=List.mem_singleton.1 hz;dsimp only;omega
     ·simp only[List.nil_append,List.cons_append,fQ,kO,or_false];omega
     ·intro z hz
      simp only[List.nil_append,List.cons_append,List.mem_cons,List.not_mem_nil,or_false]at hz;rcases hz with rfl|rfl<;>dsimp only<;>omega
    ·rw[au (by simpa using c2)]
     refine fin [⟨y.At,at_-y.At⟩] (by simp) ⟨?_,List.pairwise_singleton _ _⟩ (λp=>?_) ?_
     ·intro z hz
      obtain rfl:=List.mem_singleton.1 hz;dsimp only;omega
     ·simp only[List.nil_append,fQ,kO,or_false];omega
     ·intro z hz
      obtain rfl:=List.mem_singleton.1 hz;dsimp only;omega
   ·rw[au (by simpa using c1),ak ex,ak ey]
    by_cases c2:at_+k<y.At+y.N
    ·rw[aU (by simpa using c2),ak ex,ak ey,ak ex,br (x:=y.At+y.N-(at_+k)) (by omega) (by omega),bH (ni (by simp) (by simp))]
     refine fin [⟨at_+k,y.At+y.N-(at_+k)⟩] (by simp) ⟨?_,List.pairwise_singleton _ _⟩ (λp=>?_) ?_
     ·intro z hz
      obtain rfl:=List.mem_singleton.1 hz;dsimp only;omega
     ·simp only[List.nil_append,fQ,kO,or_false];omega
     ·intro z hz
      obtain rfl:=List.mem_singleton.1 hz;dsimp only;omega
    ·rw[au (by simpa using c2)]
     refine fin _ (by simp) qb.nil (λp=>?_) (by simp);simp only[kO,false_iff];omega
end Go.Proofs.Z
namespace Go.Proofs.Z
open Go Go.Bw
structure GI(l:List Rn)(at_ k:Int)(pre rest:List Rn)(put:Bool)(out:List Rn)(x:Rn):Prop where
 e:l=pre++rest
 dX:∀p,bZ pre p->¬(at_<=p/\p<at_+k)
 lo:x.At<=at_/\(x.At=at_\/∃z∈pre,z.At+z.N=at_)
 hi:at_+k<=x.At+x.N/\(x.At+x.N=at_+k\/∃z∈pre,z.At+z.N=x.At+x.N)
 vW:0<=x.At/\1<=x.N/\x.At+x.N<=64
 off:put=false->qb (out++[x])/\(∀z∈out,z∈pre)/\∀p,bZ (out++[x]) p↔bZ pre p\/(at_<=p/\p<at_+k)
 on:put=true->qb out/\(∀z∈out,z∈pre\/z=x)/\(∃z∈pre,x.At+x.N<z.At)/\∀p,bZ out p↔bZ pre p\/(at_<=p/\p<at_+k)
theorem qF{l:List Rn}{y:Rn}(h:qb l)(hy:0<=y.At/\1<=y.N/\y.At+y.N<=64)(ha:∀z∈l,z.At+z.N<y.At):qb (l++[y]):=
 ⟨λz hz=>by
  rcases List.mem_append.1 hz with hz|hz
  ·exact h.vW z hz
  ·rw[List.mem_singleton.1 hz];exact hy,
  List.pairwise_append.2 ⟨h.pw,List.pairwise_singleton _ _,λa ha' b hb=>by rw[List.mem_singleton.1 hb];exact ha a ha'⟩⟩
theorem qb.init{l:List Rn}{y:Rn}(h:qb (l++[y])):qb l:=⟨λz hz=>h.vW z (by simp[hz]),(List.pairwise_append.1 h.pw).1⟩
theorem qb.IC{l:List Rn}{y:Rn}(h:qb (l++[y])):∀z∈l,z.At+z.N<y.At:=λz hz=>(List.pairwise_append.1 h.pw).2.2 z hz y (by simp)
theorem eZ{y:Rn}{p:Int}:bZ [y] p↔y.At<=p/\p<y.At+y.N:=by rw[fQ];simp[bZ]
def af5(r':bj)(g:Bool)(l:List Rn)(r:bj)(at_ k:Int):Prop:=(g=true↔∀p,at_<=p->p<at_+k->¬bZ l p)/\(g=false->r'=r)/\(g=true->qb r'.l/\∀p,bZ r'.l p↔bZ l p\/(at_<=p/\p<at_+k))
theorem Ze{n:Nat}{r:bj}{l:List Rn}(hl:qb l){at_ k:Int}(ho:IA at_ k):∀(xs:List (Int×Rn)) (pre:List Rn) (put:Bool) (out:List Rn) (x:Rn),GI l at_ k pre (xs.map Prod.snd) put out x->
  ∃r' g,UG (λ(e56:Int×av) YO (dV:Bool) (jk:(List av)) (gF:av)=>lt (e56.1:Int) λ_=>lt (e56.2:av) λqc=>bd (bF n qc) λyj=>cn (decide (yj<gF.At)) (gu (gC jk.length 1 16)<|lt (jk++([qc]):List av) λFZ=>YO dV FZ gF) (bd (bF n gF) λJS=>cn (decide (JS<qc.At)) (lt (λ(SB:Bool) (QC:(List av))=>gu (gC QC.length 1 16)<|lt (QC++([qc]):List av) λJP=>YO SB JP gF) λj67=>cn ((!dV)) (gu (gC jk.length 1 16)<|lt (jk++([gF]):List av) λIm=>j67 true Im) (j67 dV jk)) (bd (bF n qc) λC5=>cn ((C5==gF.At)) (lt ({At:=qc.At,N:=wr .i64 (qc.N+gF.N)}:av) λSz=>YO dV jk Sz) (bd (bF n gF) λQB=>cn ((qc.At==QB)) (lt ({gF with N:=wr .i64 (gF.N+qc.N)}:av) λQA=>YO dV jk QA) (some (r,false)))))) (λ(dV:Bool) (jk:(List av)) (gF:av)=>cn ((!dV)) (gu (gC jk.length 1 16)<|lt (jk++([gF]):List av) λEN=>lt ({l:=EN}:bj) λx87=>some (x87,true)) (lt ({l:=jk}:bj) λx93=>some (x93,true))) xs put out x=some (r',g)/\af5 r' g l r at_ k:=by
 intro xs
 induction xs with
 |nil=>
  intro pre put out x h;have e:l=pre:=by have:=h.e;simpa using this
  subst e;show∃r' g,cn (!put) (gu (gC out.length 1 16)<|some ((⟨out++[x]⟩:bj),true)) (some ((⟨out⟩:bj),true))=some (r',g)/\_;have hfree:∀p,at_<=p->p<at_+k->¬bZ l p:=λp h1 h2 hm=>h.dX p hm ⟨h1,h2⟩;cases put with
  |false=>obtain⟨c1,c2,c3⟩:=h.off rfl;have:=c1.init.len;rw[aU (b:= !false) rfl,bH (ni (by omega) (by omega))];exact⟨_,true,rfl,⟨λ_ =>hfree,λ_ =>rfl⟩,λh=>(by cases h),λ_ =>⟨c1,c3⟩⟩
  |true=>obtain⟨c1,c2,c3,c4⟩:=h.on rfl;rw[au (b:= !true) rfl];exact⟨_,true,rfl,⟨λ_ =>hfree,λ_ =>rfl⟩,λh=>(by cases h),λ_ =>⟨c1,c4⟩⟩
 |cons q xs ih=>
  obtain⟨qi,y⟩:=q;intro pre put out x h;have he:l=(pre++[y])++xs.map Prod.snd:=by rw[h.e];simp
  have hyl:y∈l:=by rw[h.e];simp
  have Xj:=hl.vW y hyl;have hpre:∀z∈pre,z.At+z.N<y.At:=λz hz=>by have M7:=hl.pw;rw[he]at M7;exact(List.pairwise_append.1 (List.pairwise_append.1 M7).1).2.2 z hz y (by simp)
  have hzr:∀z∈pre,0<=z.At/\1<=z.N/\z.At+z.N<=64:=λz hz=>hl.vW z (by rw[h.e];simp[hz]);obtain⟨o1,o2,o3⟩:=ho;obtain⟨lo1,lo2⟩:=h.lo;obtain⟨hi1,hi2⟩:=h.hi;have hxr:=h.vW;have ey:bF n y=some (y.At+y.N):=DT Xj;have ex:bF n x=some (x.At+x.N):=DT hxr;have hfree:(∀p,y.At<=p->p<y.At+y.N->¬(at_<=p/\p<at_+k))->∀p,bZ (pre++[y]) p->¬(at_<=p/\p<at_+k):=λhy p hp=>by
   rcases jM.1 hp with hp|hp
   ·exact h.dX p hp
   ·obtain⟨h1,h2⟩:=eZ.1 hp;exact hy p h1 h2
  have GU:∀{z},z∈pre->z∈pre++[y]:=λhz=>by simp[hz]
  have hlo:x.At=at_\/∃z∈pre++[y],z.At+z.N=at_:=lo2.imp id λ⟨z,hz,e⟩=>⟨z,GU hz,e⟩;have hhi:x.At+x.N=at_+k\/∃z∈pre++[y],z.At+z.N=x.At+x.N:=hi2.imp id λ⟨z,hz,e⟩=>⟨z,GU hz,e⟩;have hmy:∀p,bZ (pre++[y]) p↔bZ pre p\/(y.At<=p/\p<y.At+y.N):=λp=>by rw[jM,eZ]
  have hput:put=true->x.At+x.N<y.At:=λhp=>by obtain⟨z,hz,h1⟩:=(h.on hp).2.2.1;have:=hpre z hz;have:=hzr z hz;omega
  simp only[UG];dsimp only[lt];rw[ak ey];by_cases c1:y.At+y.N<x.At
  ·have hf:put=false:=by
    cases put with
    |false=>rfl
    |true=>have:=hput rfl;omega
   subst hf;obtain⟨d1,d2,d3⟩:=h.off rfl;have hlen:=d1.init.len;rw[aU (by simpa using c1),bH (ni (by omega) (by omega))];refine ih (pre++[y]) false (out++[y]) x ⟨he,hfree λp h1 h2=>by omega,⟨lo1,hlo⟩,⟨hi1,hhi⟩,hxr,λ_ =>⟨?_,?_,λp=>?_⟩,λh=>by cases h⟩
   ·refine qF (qF d1.init Xj λz hz=>hpre z (d2 z hz)) hxr λz hz=>?_
    rcases List.mem_append.1 hz with hz|hz
    ·exact d1.IC z hz
    ·rw[List.mem_singleton.1 hz];exact c1
   ·intro z hz
    rcases List.mem_append.1 hz with hz|hz
    ·exact GU (d2 z hz)
    ·rw[List.mem_singleton.1 hz];simp
   ·have:=d3 p
    rw[jM,eZ]at this ⊢;rw[jM,eZ,hmy];constructor
    ·rintro((c|c)|c)
     ·rcases this.1 (.inl c)with c|c
      ·exact .inl (.inl c)
      ·exact .inr c
     ·exact .inl (.inr c)
     ·rcases this.1 (.inr c)with c|c
      ·exact .inl (.inl c)
      ·exact .inr c
    ·rintro((c|c)|c)
     ·rcases this.2 (.inl c)with c|c
      ·exact .inl (.inl c)
      ·exact .inr c
     ·exact .inl (.inr c)
     ·rcases this.2 (.inr c)with c|c
      ·exact .inl (.inl c)
      ·exact .inr c
  rw[au (by simpa using c1),ak ex];by_cases c2:x.At+x.N<y.At
  ·rw[aU (by simpa using c2)]
   have hfr:=hfree λp h1 h2=>by omega
   cases put with
   |false=>
    obtain⟨d1,d2,d3⟩:=h.off rfl;have hlen:=d1.init.len;have UW:=d1.len;rw[aU (b:= !false) rfl,bH (ni (by omega) (by omega)),bH (ni (by omega) (by omega))];refine ih (pre++[y]) true (out++[x]++[y]) x ⟨he,hfr,⟨lo1,hlo⟩,⟨hi1,hhi⟩,hxr,λh=>(by cases h),λ_ =>⟨?_,?_,⟨y,by simp,c2⟩,λp=>?_⟩⟩
    ·refine qF d1 Xj λz hz=>?_
     rcases List.mem_append.1 hz with hz|hz
     ·exact hpre z (d2 z hz)
     ·rw[List.mem_singleton.1 hz];exact c2
    ·intro z hz
     simp only[List.mem_append,List.mem_singleton]at hz;rcases hz with(hz|hz)|hz
     ·exact .inl (GU (d2 z hz))
     ·exact .inr hz
     ·exact .inl (by simp[hz])
    ·rw[jM,eZ,d3 p,hmy]
     constructor
     ·rintro((c|c)|c)
      ·exact .inl (.inl c)
      ·exact .inr c
      ·exact .inl (.inr c)
     ·rintro((c|c)|c)
      ·exact .inl (.inl c)
      ·exact .inr c
      ·exact .inl (.inr c)
   |true=>
    obtain⟨d1,d2,d3,d4⟩:=h.on rfl;have hlen:=d1.len;rw[au (b:= !true) rfl,bH (ni (by omega) (by omega))];refine ih (pre++[y]) true (out++[y]) x ⟨he,hfr,⟨lo1,hlo⟩,⟨hi1,hhi⟩,hxr,λh=>(by cases h),λ_ =>⟨?_,?_,⟨y,by simp,c2⟩,λp=>?_⟩⟩
    ·refine qF d1 Xj λz hz=>?_
     rcases d2 z hz with hz|rfl
     ·exact hpre z hz
     ·exact c2
    ·intro z hz
     rcases List.mem_append.1 hz with hz|hz
     ·exact(d2 z hz).imp GU id
     ·exact .inl (by simp[List.mem_singleton.1 hz])
    ·rw[jM,eZ,d4 p,hmy]
     constructor
     ·rintro((c|c)|c)
      ·exact .inl (.inl c)
      ·exact .inr c
      ·exact .inl (.inr c)
     ·rintro((c|c)|c)
      ·exact .inl (.inl c)
      ·exact .inr c
      ·exact .inl (.inr c)
  have hf:put=false:=by
   cases put with
   |false=>rfl
   |true=>have:=hput rfl;omega
  subst hf;obtain⟨d1,d2,d3⟩:=h.off rfl;rw[au (by simpa using c2),ak ey];by_cases c3:y.At+y.N=x.At
  ·rw[aU (by simpa using c3),br (by omega) (by omega)]
   have hat:x.At=at_:=by
    rcases lo2 with e|⟨z,hz,e⟩
    ·exact e
    ·have:=hpre z hz;omega
   refine ih (pre++[y]) false out ⟨y.At,y.N+x.N⟩ ⟨he,hfree λp h1 h2=>by omega,⟨by dsimp only;omega, .inr ⟨y,by simp,by omega⟩⟩,⟨by dsimp only;omega,?_⟩,by dsimp only;omega,λ_ =>⟨?_,λz hz=>GU (d2 z hz),λp=>?_⟩,λh=>by cases h⟩
   ·rcases hhi with e|⟨z,hz,e⟩
    ·exact .inl (by dsimp only;omega)
    ·exact .inr ⟨z,hz,by dsimp only;omega⟩
   ·exact qF d1.init (by dsimp only;omega) λz hz=>hpre z (d2 z hz)
   ·have:=d3 p
    rw[jM,eZ]at this ⊢;rw[hmy];dsimp only;constructor
    ·rintro(c|c)
     ·rcases this.1 (.inl c)with c|c
      ·exact .inl (.inl c)
      ·exact .inr c
     ·by_cases hp:p<x.At
      ·exact .inl (.inr (by omega))
      ·rcases this.1 (.inr (by omega))with c|c
       ·exact .inl (.inl c)
       ·exact .inr c
    ·rintro((c|c)|c)
     ·rcases this.2 (.inl c)with c|c
      ·exact .inl c
      ·exact .inr (by omega)
     ·exact .inr (by omega)
     ·exact .inr (by omega)
  rw[au (by simpa using c3),ak ex];by_cases c4:y.At=x.At+x.N
  ·rw[aU (by simpa using c4),br (by omega) (by omega)]
   refine ih (pre++[y]) false out ⟨x.At,x.N+y.N⟩ ⟨he,hfree λp h1 h2=>by omega,⟨lo1,hlo⟩,⟨by dsimp only;omega, .inr ⟨y,by simp,by dsimp only;omega⟩⟩,by dsimp only;omega,λ_ =>⟨?_,λz hz=>GU (d2 z hz),λp=>?_⟩,λh=>by cases h⟩
   ·exact qF d1.init (by dsimp only;omega) λz hz=>d1.IC z hz
   ·have:=d3 p
    rw[jM,eZ]at this ⊢;rw[hmy];dsimp only;constructor
    ·rintro(c|c)
     ·rcases this.1 (.inl c)with c|c
      ·exact .inl (.inl c)
      ·exact .inr c
     ·by_cases hp:p<x.At+x.N
      ·rcases this.1 (.inr (by omega))with c|c
       ·exact .inl (.inl c)
       ·exact .inr c
      ·exact .inl (.inr (by omega))
    ·rintro((c|c)|c)
     ·rcases this.2 (.inl c)with c|c
      ·exact .inl c
      ·exact .inr (by omega)
     ·exact .inr (by omega)
     ·exact .inr (by omega)
  rw[au (by simpa using c4)];refine⟨r,false,rfl,⟨λh=>(by cases h),λhno=>?_⟩,λ_ =>rfl,λh=>(by cases h)⟩;have g1:y.At<at_+k:=by
   rcases hi2 with e|⟨z,hz,e⟩
   ·omega
   ·have:=hpre z hz;omega
  have g2:at_<y.At+y.N:=by
   rcases lo2 with e|⟨z,hz,e⟩
   ·omega
   ·have:=hpre z hz;omega
  by_cases g3:at_<=y.At
  ·exact absurd ⟨y,hyl,by omega,by omega⟩ (hno y.At g3 g1)
  ·exact absurd ⟨y,hyl,by omega,by omega⟩ (hno at_ (by omega) (by omega))
theorem PE{n:Nat}(hn:110<=n){r:bj}(hr:qb r.l){at_ k:Int}(ha:So at_)(hk:So k):
  ∃r' g,lV n r at_ k=some (r',g)/\(g=true↔IA at_ k/\∀p,at_<=p->p<at_+k->¬bZ r.l p)/\(g=false->r'=r)/\(g=true->qb r'.l/\∀p,bZ r'.l p↔bZ r.l p\/(at_<=p/\p<at_+k)):=by
 unfold lV;rw[aP];obtain⟨b,hb,hb'⟩:=NT (n:=n) ha hk;rw[ak hb];cases b with
 |false=>exact⟨r,false,rfl,⟨λh=>(by cases h),λh=>hb'.2 h.1⟩,λ_ =>rfl,λh=>(by cases h)⟩
 |true=>
  have ho:=hb'.1 rfl;obtain⟨o1,o2,o3⟩:=ho;rw[au (b:= !true) rfl,ak (PY n r)];obtain⟨xs,h1,h2⟩:=V0 (n:=n) (l:=r.l) (by have:=hr.len;omega) hn;rw[ak h1];obtain⟨r',g,h3,h4,h5,h6⟩:=Ze (n:=n) (r:=r) hr (at_:=at_) (k:=k) ⟨o1,o2,o3⟩ xs [] false [] ⟨at_,k⟩ ⟨by simpa using h2.symm,λp hp=>absurd hp (kO p),⟨Int.le_refl _, .inl rfl⟩,⟨Int.le_refl _, .inl rfl⟩,⟨o2,o1,o3⟩,
   λ_ =>⟨qF qb.nil ⟨o2,o1,o3⟩ (by simp),by simp,λp=>by rw[List.nil_append,eZ];simp[kO]⟩,λh=>by cases h⟩
  exact⟨r',g,h3,⟨λhg=>⟨⟨o1,o2,o3⟩,h4.1 hg⟩,λhg=>h4.2 hg.2⟩,h5,h6⟩
end Go.Proofs.Z
namespace Go.Proofs.Z
open Go Go.Bw
theorem Yn{k:IntKind}{a b:Nat}(ha:a<2^IntKind.up k)(hb:b<2^IntKind.up k):orI k a b=((a|||b:Nat):Int):=by unfold orI;rw[BitVec.toNat_or,vR (FQ k ha),vR (FQ k hb)];exact SE (Nat.or_lt_two_pow ha hb)
def ov(y:Rn)(i:Int):Int:=if i<=y.At then 0 else if y.At+y.N<=i then y.N else i-y.At
def xm(l:List Rn)(i:Int):Int:=(l.map λy=>ov y i).sum
theorem wq(y:Rn)(l:List Rn)(i:Int):xm (y::l) i=ov y i+xm l i:=rfl
theorem s8:∀{l:List Rn},qb l->xm l 0=0
 |[],_ =>rfl
 |y::r,h=>by have hy:=h.vW y (by simp);rw[wq,s8 ⟨λz hz=>h.vW z (by simp[hz]),(List.pairwise_cons.1 h.pw).2⟩];unfold ov;rw[aiQ hy.1];rfl
theorem s9:∀{l:List Rn},qb l->∀i:Int,(bZ l i->xm l (i+1)=xm l i+1)/\(¬bZ l i->xm l (i+1)=xm l i)
 |[],_,i=>⟨λh=>absurd h (kO i),λ_ =>rfl⟩
 |y::r,h,i=>by
  obtain⟨h1,h2⟩:=List.pairwise_cons.1 h.pw;have hy:=h.vW y (by simp);obtain⟨i1,i2⟩:=s9 (l:=r) ⟨λz hz=>h.vW z (by simp[hz]),h2⟩ i;rw[wq,wq,fQ];by_cases c:y.At<=i/\i<y.At+y.N
  ·have hn:¬bZ r i:=λ⟨z,hz,a,b⟩=>by have:=h1 z hz;omega
   rw[i2 hn];refine⟨λ_ =>?_,λhh=>absurd (.inl c) hh⟩;unfold ov;rw[aiR (by omega)];split<;>split<;>omega
  ·have e:ov y (i+1)=ov y i:=by
    unfold ov
    (repeat' split)<;>omega
   rw[e];refine⟨λhh=>?_,λhh=>?_⟩
   ·rw[i1 (hh.resolve_left c)];omega
   ·rw[i2 λhm=>hh (.inr hm)]
def bE(l:List Rn):Int:=(l.map λy=>y.N).sum
theorem gI(y:Rn)(l:List Rn):bE (y::l)=y.N+bE l:=rfl
theorem vA:∀{l:List Rn},qb l->xm l 64=bE l
 |[],_ =>rfl
 |y::r,h=>by have hy:=h.vW y (by simp);rw[wq,gI,vA ⟨λz hz=>h.vW z (by simp[hz]),(List.pairwise_cons.1 h.pw).2⟩];unfold ov;rw[aiR (by omega),aiQ hy.2.2]
theorem LG:∀{l:List Rn} {lo:Int},qb l->(∀y∈l,lo<=y.At)->lo<=65->0<=bE l/\bE l<=65-lo
 |[],lo,_,_,h=>by simp[bE];omega
 |y::r,lo,h,hl,_ =>by obtain⟨h1,h2⟩:=List.pairwise_cons.1 h.pw;have hy:=h.vW y (by simp);have hy':=hl y (by simp);have:=LG (l:=r) (lo:=y.At+y.N+1) ⟨λz hz=>h.vW z (by simp[hz]),h2⟩ (λz hz=>by have:=h1 z hz;omega) (by omega);rw[gI];omega
theorem ME{n:Nat}:∀(xs:List (Int×Rn)) (s:Int),0<=s->s<=1000000-bE (xs.map Prod.snd)->(∀e∈xs,1<=e.2.N)->
  xL (λ(e35:Int×av) YP (eH:Int)=>lt (e35.1:Int) λ_=>lt (e35.2:av) λcJ=>lt (wr .i64 (eH+cJ.N):Int) λjx=>YP jx) (λ(eH:Int)=>some eH) xs s=some (s+bE (xs.map Prod.snd))
 |[],s,_,_,_ =>by show some s=_;simp[bE]
 |e::xs,s,h0,h1,h2=>by
  have:=h2 e (by simp);have hs:0<=bE (xs.map Prod.snd):=by
   clear h1 h0;have h3:∀e∈xs,1<=e.2.N:=λe he=>h2 e (by simp[he]);clear h2 this
   induction xs with
   |nil=>simp[bE]
   |cons a xs ih=>have:=h3 a (by simp);have:=ih λe he=>h3 e (by simp[he]);rw[List.map_cons,gI];omega
  rw[List.map_cons,gI]at h1 ⊢;show xL _ _ xs (wr .i64 (s+e.2.N))=_;rw[br (by omega) (by omega),ME (n:=n) xs (s+e.2.N) (by omega) (by omega) (λe he=>h2 e (by simp[he]))];congr 1;omega
end Go.Proofs.Z
namespace Go.Proofs.Z
open Go Go.Bw
theorem I1{l m x:List Rn}(hl:qb l)(hm:qb m)(hx:qb x)(h1:∀p,bZ l p↔bZ m p\/bZ x p)(h2:∀p,bZ m p->¬bZ x p):bE l=bE m+bE x:=by
 have key:∀i:Nat,xm l i=xm m i+xm x i:=by
  intro i
  induction i with
  |zero=>rw[Int.natCast_zero,s8 hl,s8 hm,s8 hx];rfl
  |succ i ih=>
   have e:((i+1:Nat):Int)=(i:Int)+1:=by omega
   rw[e];obtain⟨a1,a2⟩:=s9 hl i;obtain⟨b1,b2⟩:=s9 hm i;obtain⟨c1,c2⟩:=s9 hx i;by_cases c:bZ m i
   ·rw[a1 ((h1 _).2 (.inl c)),b1 c,c2 (h2 _ c),ih];omega
   ·by_cases d:bZ x i
    ·rw[a1 ((h1 _).2 (.inr d)),b2 c,c1 d,ih];omega
    ·rw[a2 (λh=>((h1 _).1 h).elim c d),b2 c,c2 d,ih]
 have:=key 64;rw[show((64:Nat):Int)=64 from rfl,vA hl,vA hm,vA hx]at this;exact this
theorem K8{a k:Int}(h:IA a k):qb [(⟨a,k⟩:Rn)]:=qF (l:=[]) qb.nil (by unfold IA at h;exact⟨h.2.1,h.1,h.2.2⟩) (by simp)
theorem wu(a k:Int):bE [(⟨a,k⟩:Rn)]=k:=by simp[bE]
theorem sB:∀(k:Nat) {t:List Int},t.Nodup->(∀p∈t,0<=p/\p<(k:Int))->t.length<=k
 |0,[],_,_ =>Nat.le_refl _
 |0,x::t,_,h=>by have:=h x (by simp);omega
 |k+1,t,hn,h=>by
  by_cases hk:(k:Int)∈t
  ·have h1:=sB k (hn.erase (k:Int)) λx hx=>by
    have h2:=h x (List.mem_of_mem_erase hx);have h3:x≠k:=λe=>by subst e;exact(List.Nodup.not_mem_erase hn) hx
    omega
   rw[List.length_erase_of_mem hk]at h1;omega
  ·have h1:=sB k hn λx hx=>by
    have h2:=h x hx;have h3:x≠k:=λe=>hk (e▸hx);omega
   omega
end Go.Proofs.Z
namespace Go.Proofs.Z
open Go Go.Bw
def tw(s a:Int):Bool:=(decide (1<=s)&&decide (s<=128))&&((((a==1)||(a==2))||(a==4))||(a==8))
theorem MF{n:Nat}(hn:5<=n)(a:Int):gy n ([1,2,4,8]:List Int) a=some ((((a==1)||(a==2))||(a==4))||(a==8)):=by
 obtain⟨m,rfl⟩:∃m,n=m+5:=⟨n-5,by omega⟩;unfold gy oM;have e1:wr .i64 (0+1)=1:=by decide
 have e2:wr .i64 (1+1)=2:=by decide
 have e3:wr .i64 (2+1)=3:=by decide
 have e4:wr .i64 (3+1)=4:=by decide
 simp only[iw,e1,e2,e3,e4];by_cases h1:a=1
 ·subst h1;rfl
 by_cases h2:a=2
 ·subst h2;rfl
 by_cases h3:a=4
 ·subst h3;rfl
 by_cases h4:a=8
 ·subst h4;rfl
 have g1:(a==1)=false:=by simpa using h1
 have g2:(a==2)=false:=by simpa using h2
 have g3:(a==4)=false:=by simpa using h3
 have g4:(a==8)=false:=by simpa using h4
 simp[cn,gu,dg,bd,g1,g2,g3,g4]
theorem Jj{n:Nat}(hn:5<=n)(s a:Int):kV n s a=some (tw s a):=by unfold kV;rw[zS (MF hn a)];unfold tw;cases h:(decide (1<=s)&&decide (s<=128))<;>simp
theorem zU{x:Nat}{m:Nat}(hm:m<=3)(hx:x<2^62):zV .i64 (x:Int) ((2^m-1:Nat):Int)=((x/2^m*2^m:Nat):Int):=by
 unfold zV;have e1:(BitVec.ofInt 64 (x:Int)&&& ~~~BitVec.ofInt 64 ((2^m-1:Nat):Int)).toNat=x/2^m*2^m:=by
  refine Nat.eq_of_testBit_eq λi=>?_;have hb:(BitVec.ofInt 64 (x:Int)).toNat=x:=vR (k:= .i64) (by show x<2^64;omega);have hc:(BitVec.ofInt 64 ((2^m-1:Nat):Int)).toNat=2^m-1:=vR (k:= .i64) (by show 2^m-1<2^64;have:2^m<=2^3:=Nat.pow_le_pow_right (by decide) hm;omega);rw[BitVec.toNat_and,Nat.testBit_and,hb,Nat.testBit_mul_two_pow,Nat.testBit_div_two_pow,BitVec.testBit_toNat,BitVec.getLsbD_not, ← BitVec.testBit_toNat,hc,Nat.testBit_two_pow_sub_one];by_cases h1:m<=i
  ·have h2:¬i<m:=by omega
   rw[show i-m+m=i by omega];by_cases h3:i<64
   ·simp[h1,h2,h3]
   ·have:x.testBit i=false:=Nat.testBit_lt_two_pow (Nat.lt_of_lt_of_le hx (Nat.pow_le_pow_right (by decide) (by omega)))
    simp[h1,h2,this]
  ·have h2:i<m:=by omega
   simp[h1,h2]
 show IntKind.i64.wrap ((BitVec.ofInt 64 (x:Int)&&& ~~~BitVec.ofInt 64 ((2^m-1:Nat):Int)).toNat:Int)=_;rw[e1];have:x/2^m*2^m<=x:=Nat.div_mul_le_self _ _;exact br (by omega) (by omega)
def Qe:Int->List Rn->List (Int×Rn)
 |_,[]=>[]
 |b,y::r=>(b,y)::Qe (b+32*y.N) r
def Ba(l:List Rn):Prop:=∀y∈l,1<=y.N
theorem vB:∀{l:List Rn},Ba l->0<=bE l
 |[],_ =>by simp[bE]
 |y::r,h=>by have:=h y (by simp);have:=vB (l:=r) λz hz=>h z (by simp[hz]);rw[gI];omega
theorem JB{n:Nat}{e:aD}(hn:e.aK.length<n)(hl:e.aK.length<=1000)(hp:Ba e.aK)(hs:bE e.aK<=1000):fN n e=some (Qe 0 e.aK):=by
 unfold fN;have key:∀(m i:Nat) (b:Int),i<=e.aK.length->e.aK.length-i<m->0<=b->b+32*bE (e.aK.drop i)<=100000->eS (λk39 (ep:Int) (dP:Int)=>cn (decide (dP<(e.aK.length:Int))) (gu (dg dP e.aK.length)<|lt ((e.aK.getD (Int.toNat dP) default):av) λgF=>yl (ep,gF)<|k39 (wr .i64 (ep+(wr .i64 (gF.N*32)))) (wr .i64 (dP+1))) (some [])) m b (i:Int)=some (Qe b (e.aK.drop i)):=by
  intro m
  induction m with
  |zero=>intro i b _ h;omega
  |succ m ih=>
   intro i b hi hm hb hsum;simp only[eS];by_cases c:i<e.aK.length
   ·have hg:e.aK.getD (Int.toNat (i:Int)) default=e.aK[i]:=by rw[aiV,List.getD,aiZ c];rfl
    have hy:=hp _ (List.getElem_mem c);have hd:e.aK.drop i=e.aK[i]::e.aK.drop (i+1):=List.drop_eq_getElem_cons c;rw[hd,gI]at hsum;have hr:0<=bE (e.aK.drop (i+1)):=vB λz hz=>hp z (List.mem_of_mem_drop hz);rw[aU (by simpa using c),bH (gU (by omega) (by omega)),aP,hg,hd];rw[br (x:=e.aK[i].N*32) (by omega) (by omega),br (x:=b+e.aK[i].N*32) (by omega) (by omega),br (x:=(i:Int)+1) (by omega) (by omega)];have e1:((i:Int)+1)=((i+1:Nat):Int):=by omega
    rw[e1,ih (i+1) (b+e.aK[i].N*32) (by omega) (by omega) (by omega) (by omega)];show some ((b,e.aK[i])::Qe (b+e.aK[i].N*32) (e.aK.drop (i+1)))=some ((b,e.aK[i])::Qe (b+32*e.aK[i].N) (e.aK.drop (i+1)));rw[Int.mul_comm]
   ·rw[au (by simpa using c),List.drop_eq_nil_of_le (by omega)];rfl
 have:=key n 0 0 (by omega) (by omega) (by omega) (by rw[List.drop_zero];omega);simpa using this
theorem FN:∀(l:List Rn) (b:Int),(Qe b l).map Prod.snd=l
 |[],_ =>rfl
 |y::r,b=>by rw[Qe,List.map_cons,FN r]
theorem LY{n:Nat}{e:aD}(hn:e.aK.length<n)(hl:e.aK.length<=1000)(hp:Ba e.aK)(hs:bE e.aK<=1000):cR n e=some (bE e.aK):=by unfold cR;rw[ak (show gA n e=some e from rfl),ak (JB hn hl hp hs)];have h0:=vB hp;refine(ME (n:=n) (Qe 0 e.aK) 0 (by omega) (by rw[FN];omega) λq hq=>hp q.2 (by rw[← FN e.aK 0];exact List.mem_map_of_mem hq)).trans ?_;rw[FN];congr 1;omega
theorem Uq{n:Nat}(hn:5<=n)(s a:Int):pc n s a=some (if tw s a then((s+31)/32,true)else(0,false)):=by
 unfold pc;rw[ak (Jj hn s a)];cases h:tw s a with
 |false=>rfl
 |true=>
  have hs:1<=s/\s<=128:=by
   have h1:(decide (1<=s)&&decide (s<=128))=true:=by unfold tw at h;rw[aiT]at h;exact h.1
   simpa using h1
  rw[au (b:= !true) rfl,br (x:=s+32) (by omega) (by omega),br (x:=s+32-1) (by omega) (by omega),Gk (by omega),br (by omega) (by omega),aiQ rfl];congr 3;omega
end Go.Proofs.Z
namespace Go.Proofs.Z
open Go Go.Bw
structure Ii(l:List Rn):Prop where
 vW:∀y∈l,IA y.At y.N
 pw:l.Pairwise λy z=>∀p,y.At<=p->p<y.At+y.N->¬(z.At<=p/\p<z.At+z.N)
theorem Ii.nil:Ii []:=⟨by simp, .nil⟩
theorem yV{l:List Rn}{y:Rn}:Ii (l++[y])↔Ii l/\IA y.At y.N/\∀p,y.At<=p->p<y.At+y.N->¬bZ l p:=by
 constructor
 ·rintro⟨h1,h2⟩
  obtain⟨p1,p2,p3⟩:=List.pairwise_append.1 h2;exact⟨⟨λz hz=>h1 z (by simp[hz]),p1⟩,h1 y (by simp),λp q1 q2 ⟨z,hz,q3,q4⟩=>p3 z hz y (by simp) p q3 q4 ⟨q1,q2⟩⟩
 ·rintro⟨⟨h1,h2⟩,h3,h4⟩
  refine⟨λz hz=>?_,List.pairwise_append.2 ⟨h2,List.pairwise_singleton _ _,λa ha b hb p q1 q2 q3=>?_⟩⟩
  ·rcases List.mem_append.1 hz with hz|hz
   ·exact h1 z hz
   ·rw[List.mem_singleton.1 hz];exact h3
  ·rw[List.mem_singleton.1 hb]at q3
   exact h4 p q3.1 q3.2 ⟨a,ha,q1,q2⟩
theorem Ii.Xg{l:List Rn}(h:Ii l):Ba l:=λy hy=>(h.vW y hy).1
theorem oL:∀(l m:List Rn),bE (l++m)=bE l+bE m
 |[],m=>by simp[bE]
 |y::r,m=>by rw[List.cons_append,gI,gI,oL r m];omega
theorem LF{l:List Rn}(h:qb l):∀i:Nat,xm l i<=i
 |0=>by rw[Int.natCast_zero,s8 h];exact Int.le_refl _
 |i+1=>by
  have:=LF h i;obtain⟨a,b⟩:=s9 h i;have e:((i+1:Nat):Int)=(i:Int)+1:=by omega
  rw[e];by_cases c:bZ l i
  ·rw[a c];omega
  ·rw[b c];omega
theorem Uu{n:Nat}(hn:110<=n){e:aD}(hl:e.aK.length<=80)(hr:∀y∈e.aK,So y.At/\So y.N):∃b,fO n e=some b/\(b=true↔Ii e.aK/\bE e.aK<=64/\0<=e.dZ/\e.dZ<=32*bE e.aK):=by
 unfold fO;refine zP (λ(i:Int) (r:bj)=>0<=i/\i<=e.aK.length/\qb r.l/\Ii (e.aK.take i.toNat)/\(∀p,bZ r.l p↔bZ (e.aK.take i.toNat) p)/\bE r.l=bE (e.aK.take i.toNat)) (λi _ =>((e.aK.length:Int)-i).toNat)
  (λo=>∃b,o=some b/\(b=true↔Ii e.aK/\bE e.aK<=64/\0<=e.dZ/\e.dZ<=32*bE e.aK)) ?_ n 0 jW ⟨by omega,by omega,qb.nil,Ii.nil,λp=>Iff.rfl,rfl⟩ (by omega)
 rintro kk i r ⟨i0,i1,hc,hg,hm,hs⟩ ih;obtain⟨i,rfl⟩:=Int.eq_ofNat_of_zero_le i0;rw[aiV]at hg hm hs;by_cases c:i<e.aK.length
 ·have hgd:e.aK.getD (Int.toNat (i:Int)) default=e.aK[i]:=by rw[aiV,List.getD,aiZ c];rfl
  have hy:=hr _ (List.getElem_mem c);have ht:e.aK.take (i+1)=e.aK.take i++[e.aK[i]]:=ai0 c;rw[aU (by simpa using c),bH (gU (by omega) (by omega)),aP,hgd];obtain⟨r',g,g1,g2,g3,g4⟩:=PE (n:=n) hn hc (at_:=e.aK[i].At) (k:=e.aK[i].N) hy.1 hy.2;rw[ak g1];have afX:g=true↔Ii (e.aK.take (i+1)):=by rw[g2,ht,yV];exact⟨λ⟨a,b⟩=>⟨hg,a,λp q1 q2 q3=>b p q1 q2 ((hm p).2 q3)⟩,λ⟨_,a,b⟩=>⟨a,λp q1 q2 q3=>b p q1 q2 ((hm p).1 q3)⟩⟩
  cases g with
  |false=>refine⟨false,rfl,λh=>(by cases h),λ⟨h,_⟩=>?_⟩;rw[← List.take_append_drop (i+1) e.aK]at h;exact afX.2 ⟨λy hy=>h.vW y (aiX _ hy),(List.pairwise_append.1 h.pw).1⟩
  |true=>
   obtain⟨c1,c2⟩:=g4 rfl;have ho:=(g2.1 rfl).1;rw[au (b:= !true) rfl,br (by omega) (by omega)];have e1:((i:Int)+1).toNat=i+1:=by omega
   refine ih _ _ ⟨by omega,by omega,c1,by rw[e1];exact afX.1 rfl,λp=>?_,?_⟩ (by omega)
   ·rw[e1,ht,jM,eZ,c2 p,hm p]
   ·rw[e1,ht,oL, ← hs]
    rw[I1 c1 hc (K8 ho) (λp=>by rw[c2 p,eZ]) (λp hp hq=>(g2.1 rfl).2 p (eZ.1 hq).1 (eZ.1 hq).2 hp)]
 ·rw[au (by simpa using c)]
  obtain rfl:i=e.aK.length:=by omega
  rw[List.take_length]at hg hm hs;have hs2:=LG (lo:=0) hc (λy hy=>(hc.vW y hy).1) (by omega);have h64:bE r.l<=64:=by rw[← vA hc];exact LF hc 64
  rw[zS (LY (n:=n) (by omega) (by omega) hg.Xg (by rw[← hs];omega))];refine⟨_,rfl,?_⟩;by_cases c0:0<=e.dZ
  ·have e1:(bif decide (0<=e.dZ)==true then bE e.aK else default)=bE e.aK:=by simp[c0]
   rw[e1,br (by omega) (by omega)];simp only[c0,decide_true,Bool.true_and,decide_eq_true_eq,true_and, ← hs];exact⟨λh=>⟨hg,h64,by omega⟩,λh=>by omega⟩
  ·simp[c0]
end Go.Proofs.Z
namespace Go.Proofs.Z
open Go Go.Bw
def u9(y:Rn):List Int:=(List.range (32*y.N).toNat).map λ(k:Nat)=>32*y.At+(k:Int)
def jQ(l:List Rn):List Int:=l.flatMap u9
theorem tL(y:Rn):(u9 y).length=(32*y.N).toNat:=by simp[u9]
theorem zf(y:Rn)(l:List Rn):jQ (y::l)=u9 y++jQ l:=by simp[jQ]
theorem Bs(l m:List Rn):jQ (l++m)=jQ l++jQ m:=by simp[jQ]
theorem HA(y:Rn):jQ [y]=u9 y:=by simp[jQ]
theorem tM:∀{l:List Rn},Ba l->((jQ l).length:Int)=32*bE l
 |[],_ =>by simp[jQ,bE]
 |y::r,h=>by have h1:=h y (by simp);have h2:=tM (l:=r) λz hz=>h z (by simp[hz]);rw[zf,List.length_append,tL,gI];omega
theorem Gn(k:Nat)(f:Nat->Int):(List.range (k+1)).map f=(List.range k).map f++[f k]:=by rw[List.range_succ,List.map_append];rfl
structure Gx(l:List Rn):Prop where
 gd:Ii l
 sum:bE l<=64
theorem UC:∀{l:List Rn},Ba l->(l.length:Int)<=bE l
 |[],_ =>by simp[bE]
 |y::r,h=>by have h1:=h y (by simp);have h2:=UC (l:=r) λz hz=>h z (by simp[hz]);rw[gI,List.length_cons];omega
theorem Gx.len{l:List Rn}(h:Gx l):l.length<=64:=by have:=UC h.gd.Xg;have:=h.sum;omega
theorem Gx.pos{l:List Rn}(h:Gx l):0<=bE l:=vB h.gd.Xg
theorem Jm{l:List Rn}{y:Rn}{p:Int}:bZ (l++[y]) p↔bZ l p\/(y.At<=p/\p<y.At+y.N):=by rw[jM,eZ]
def EY(y:Rn):List Int:=(List.range y.N.toNat).map λ(k:Nat)=>y.At+(k:Int)
theorem L8{y:Rn}{p:Int}:p∈EY y↔y.At<=p/\p<y.At+y.N:=by
 unfold EY;rw[List.mem_map];constructor
 ·rintro⟨k,hk,rfl⟩
  rw[List.mem_range]at hk;omega
 ·intro h
  exact⟨(p-y.At).toNat,by rw[List.mem_range];omega,by omega⟩
theorem Yv(y:Rn):(EY y).Nodup:=by unfold EY;rw[List.Nodup,List.pairwise_map];exact List.nodup_range.imp λh e=>h (by omega)
theorem LK{α:Type}{P:List α->Prop}(h0:P [])(h1:∀l y,P l->P (l++[y]))(l:List α):P l:=by
 have key:∀(r:List α),P r.reverse:=by
  intro r
  induction r with
  |nil=>exact h0
  |cons y r ih=>rw[List.reverse_cons];exact h1 _ _ ih
 have:=key l.reverse;rwa[List.reverse_reverse]at this
theorem Yg:∀(l:List Rn),Ii l->∃t:List Int,t.Nodup/\(∀p,p∈t↔bZ l p)/\(t.length:Int)=bE l:=by
 intro l
 induction l using LK with
 |h0=>intro _;exact⟨[],List.nodup_nil,by simp[bZ],by simp[bE]⟩
 |h1 l y ih=>
  intro h;obtain⟨h1,h2,h3⟩:=yV.1 h;obtain⟨t,t1,t2,t3⟩:=ih h1;refine⟨t++EY y,List.nodup_append.2 ⟨t1,Yv y,λa ha b hb e=>?_⟩,λp=>?_,?_⟩
  ·subst e
   have:=L8.1 hb;exact h3 _ this.1 this.2 ((t2 _).1 ha)
  ·rw[List.mem_append,t2,L8,Jm]
  ·have:=h2.1
   rw[List.length_append,oL];simp only[EY,List.length_map,List.length_range,bE,List.map_cons,List.map_nil,List.sum_cons,List.sum_nil]at *;omega
theorem Zi{l:List Rn}(h:Ii l):bE l<=64:=by
 obtain⟨t,t1,t2,t3⟩:=Yg l h;have:=sB 64 t1 λp hp=>by obtain⟨y,hy,h1,h2⟩:=(t2 p).1 hp;obtain⟨a,b,c⟩:=h.vW y hy;exact⟨by omega,by omega⟩
 omega
theorem aaQ{l:List Rn}(h:Ii l):Gx l:=⟨h,Zi h⟩
end Go.Proofs.Z
namespace Go.Proofs.Z
open Go Go.Bw
def zI(x a:Int):Int:=(x+a-1)/a*a
def al4(a:Int):Prop:=a=1\/a=2\/a=4\/a=8
theorem l9{s a:Int}:tw s a=true↔(1<=s/\s<=128)/\al4 a:=by unfold tw al4;simp[or_assoc]
theorem B6{x a:Int}(ha:al4 a):x<=zI x a/\zI x a<=x+a-1/\zI x a%a=0/\∀y,x<=y->y<=zI x a->y%a=0->y=zI x a:=by unfold zI;rcases ha with rfl|rfl|rfl|rfl<;>exact⟨by omega,by omega,by omega,λy _ _ _ =>by omega⟩
theorem aev{n:Nat}{x a:Int}(h0:0<=x)(h1:x<=100000)(ha:al4 a):je n x a=some (zI x a):=by
 unfold je zI;obtain⟨x,rfl⟩:=Int.eq_ofNat_of_zero_le h0;rcases ha with rfl|rfl|rfl|rfl
 ·have:=zU (x:=x) (m:=0) (by omega) (by omega)
  rw[br (x:=(x:Int)+1) (by omega) (by omega),br (x:=(x:Int)+1-1) (by omega) (by omega),show wr .i64 (1-1)=((2^0-1:Nat):Int)by decide,show(x:Int)+1-1=((x:Nat):Int)by omega,this];congr 1
 ·have:=zU (x:=x+1) (m:=1) (by omega) (by omega)
  rw[br (x:=(x:Int)+2) (by omega) (by omega),br (x:=(x:Int)+2-1) (by omega) (by omega),show wr .i64 (2-1)=((2^1-1:Nat):Int)by decide,show(x:Int)+2-1=((x+1:Nat):Int)by omega,this];congr 1
 ·have:=zU (x:=x+3) (m:=2) (by omega) (by omega)
  rw[br (x:=(x:Int)+4) (by omega) (by omega),br (x:=(x:Int)+4-1) (by omega) (by omega),show wr .i64 (4-1)=((2^2-1:Nat):Int)by decide,show(x:Int)+4-1=((x+3:Nat):Int)by omega,this];congr 1
 ·have:=zU (x:=x+7) (m:=3) (by omega) (by omega)
  rw[br (x:=(x:Int)+8) (by omega) (by omega),br (x:=(x:Int)+8-1) (by omega) (by omega),show wr .i64 (8-1)=((2^3-1:Nat):Int)by decide,show(x:Int)+8-1=((x+7:Nat):Int)by omega,this];congr 1
structure pB(e:aD):Prop where
 gx:Gx e.aK
 lo:0<=e.dZ
 hi:e.dZ<=32*bE e.aK
def eG(e:aD)(s a:Int):Bool:=tw s a&&decide (zI e.dZ a+s<=32*bE e.aK)
def EC(e:aD)(s a:Int):Int×Bool:=if eG e s a=true then(zI e.dZ a,true)else(0,false)
theorem NK{n:Nat}(hn:110<=n){e:aD}(h:pB e):cR n e=some (bE e.aK):=by have:=h.gx.len;have:=h.gx.sum;exact LY (by omega) (by omega) h.gx.gd.Xg (by omega)
theorem PJ{n:Nat}(hn:110<=n){e:aD}(h:pB e)(s a:Int):gj n e s a=some (EC e s a):=by
 unfold gj;have h1:=h.lo;have h2:=h.hi;have h3:=h.gx.sum;have h4:=h.gx.pos;rw[ak (Jj (by omega) s a)];unfold EC eG;cases ho:tw s a with
 |false=>rfl
 |true=>
  obtain⟨⟨o1,o2⟩,o3⟩:=l9.1 ho;obtain⟨u1,u2,_⟩:=B6 (x:=e.dZ) o3;have ha:a<=8:=by rcases o3 with rfl|rfl|rfl|rfl<;>omega
  rw[au (b:= !true) rfl,ak (aev h1 (by omega) o3),ak (NK hn h),br (by omega) (by omega),br (by omega) (by omega)];by_cases c:bE e.aK*32<zI e.dZ a+s
  ·rw[aU (by simpa using c),aiR (by simp;omega)]
  ·rw[au (by simpa using c),aiQ (by simp;omega)]
theorem Yf{n:Nat}(hn:110<=n){e:aD}(h:pB e)(s a:Int):gL n e s a=some (if eG e s a=true then(⟨e.aK,zI e.dZ a+s⟩,zI e.dZ a,true)else(e,0,false)):=by
 unfold gL;rw[ak (PJ hn h s a)];unfold EC;have h1:=h.lo;have h2:=h.hi;have h3:=h.gx.sum;have h4:=h.gx.pos;cases hf:eG e s a with
 |false=>rfl
 |true=>have U1:=hf;unfold eG at hf;rw[aiT,decide_eq_true_iff,l9]at hf;obtain⟨⟨⟨o1,o2⟩,o3⟩,o4⟩:=hf;obtain⟨u1,u2,_⟩:=B6 (x:=e.dZ) o3;rw[aiQ rfl,aiQ rfl,aU rfl,aP];dsimp only;rw[br (by omega) (by omega)]
def plV(l:List Rn)(b at_:Int):Int×Bool:=if b<=at_/\at_<b+32*bE l then((jQ l).getD (at_-b).toNat 0,true)else(0,false)
theorem G5{α:Type}(l m:List α)(i:Nat)(d:α)(h:i<l.length):(l++m).getD i d=l.getD i d:=by rw[List.getD,List.getD,List.getElem?_append_left h]
theorem G4{α:Type}(l m:List α)(i:Nat)(d:α)(h:l.length<=i):(l++m).getD i d=m.getD (i-l.length) d:=by rw[List.getD,List.getD,List.getElem?_append_right h]
theorem Hz(y:Rn){i:Nat}(h:i<(32*y.N).toNat):(u9 y).getD i 0=32*y.At+i:=by unfold u9;rw[List.getD,List.getElem?_map,List.getElem?_range h];rfl
theorem Uc{at_:Int}(ha:So at_):∀(l:List Rn) (b:Int),(∀y∈l,IA y.At y.N)->0<=b->b+32*bE l<=100000->
  xL (λ(PZ:Int×av) k28 (u27:Unit)=>lt (PZ.1:Int) λcJ=>lt (PZ.2:av) λfR=>cn ((decide (cJ<=at_)&&decide (at_<(wr .i64 (cJ+(wr .i64 (fR.N*32))))))) (lt (wr .i64 ((wr .i64 ((wr .i64 (fR.At*32))+at_))-cJ):Int) λdV=>some (dV,true)) (k28 ())) (λ(u27:Unit)=>some (0,false)) (Qe b l) ()=some (plV l b at_):=by
 intro l
 induction l with
 |nil=>intro b _ _ _;show some ((0:Int),false)=_;unfold plV;rw[aiR];simp only[bE,List.map_nil,List.sum_nil];omega
 |cons y r ih=>
  intro b h0 h1 h2;have hy:=h0 y (by simp);have hr:Ba r:=λz hz=>(h0 z (by simp[hz])).1;have hr0:=vB hr;have hbl:=tL y;rw[gI]at h2;obtain⟨y1,y2,y3⟩:=hy;rw[Qe];simp only[xL,aP];rw[br (x:=y.N*32) (by omega) (by omega),br (x:=b+y.N*32) (by omega) (by omega)];by_cases c:b<=at_/\at_<b+y.N*32
  ·rw[aU (by simpa using c),br (x:=y.At*32) (by omega) (by omega),br (x:=y.At*32+at_) (by omega) (by omega),br (by omega) (by omega)]
   unfold plV;rw[aiQ (by rw[gI];omega),zf,G5 _ _ _ _ (by rw[tL];omega),Hz y (by omega)];congr 2;omega
  ·rw[au (by simpa using c)]
   refine(ih (b+32*y.N) (λz hz=>h0 z (by simp[hz])) (by omega) (by omega)).trans ?_;unfold plV;by_cases d:b+32*y.N<=at_/\at_<b+32*y.N+32*bE r
   ·rw[aiQ d,aiQ (by rw[gI];omega),zf,G4 _ _ _ _ (by rw[tL];omega),tL]
    congr 3;omega
   ·rw[aiR d,aiR (by rw[gI];omega)]
theorem Ud{n:Nat}(hn:110<=n){e:aD}(h:pB e){at_:Int}(ha:So at_):jH n e at_=some (plV e.aK 0 at_):=by unfold jH;have:=h.gx.len;have:=h.gx.sum;rw[ak (show gA n e=some e from rfl),ak (JB (by omega) (by omega) h.gx.gd.Xg (by omega))];exact Uc ha e.aK 0 h.gx.gd.vW (by omega) (by omega)
theorem Zb{n:Nat}(hn:110<=n){e:aD}(h:pB e)(r:Rn):fk n e r=some ⟨e.aK++[r],32*bE e.aK⟩:=by unfold fk;have:=h.gx.len;have:=h.gx.sum;have:=h.gx.pos;rw[bH (ni (by omega) (by omega)),aP,ak (NK hn h),aP,br (by omega) (by omega),Int.mul_comm]
end Go.Proofs.Z
namespace Go.Proofs.Z
open Go Go.Bw
theorem Gz{y:Rn}{q:Int}:q∈u9 y↔32*y.At<=q/\q<32*y.At+32*y.N:=by
 unfold u9;rw[List.mem_map];constructor
 ·rintro⟨k,hk,rfl⟩
  rw[List.mem_range]at hk;omega
 ·intro h
  exact⟨(q-32*y.At).toNat,by rw[List.mem_range];omega,by omega⟩
theorem GA{l:List Rn}{q:Int}:q∈jQ l↔bZ l (q/32):=by unfold jQ bZ;rw[List.mem_flatMap];refine exists_congr λ_=>and_congr_right λ_ =>?_;rw[Gz];omega
theorem RJ:∀(l:List Rn),Ii l->(jQ l).Nodup:=by
 intro l
 induction l using LK with
 |h0=>intro _;exact List.nodup_nil
 |h1 l y ih=>
  intro h;obtain⟨h1,h2,h3⟩:=yV.1 h;rw[Bs,HA,List.nodup_append];refine⟨ih h1,?_,λa ha b hb e=>?_⟩
  ·unfold u9
   rw[List.Nodup,List.pairwise_map];exact List.nodup_range.imp λh e=>h (by omega)
  ·subst e
   have:=Gz.1 hb;exact h3 (a/32) (by omega) (by omega) (GA.1 ha)
def dO(l:List Rn)(a:Int):Int:=(jQ l).getD a.toNat 0
theorem OA{l:List Rn}(h:Ii l){a b:Int}(ha:0<=a/\a<32*bE l)(hb:0<=b/\b<32*bE l)(e:dO l a=dO l b):a=b:=by
 have hl:=tM h.Xg;have h1:a.toNat<(jQ l).length:=by omega
 have h2:b.toNat<(jQ l).length:=by omega
 unfold dO at e;rw[List.getD,List.getD,aiZ h1,aiZ h2]at e;have:=(List.getElem_inj (RJ l h)).1 e;omega
theorem OB{l m:List Rn}(h:Ii l){a:Int}(ha:0<=a/\a<32*bE l):dO (l++m) a=dO l a:=by have hl:=tM h.Xg;unfold dO;rw[Bs,G5 _ _ _ _ (by omega)]
theorem Jn{n:Nat}(hn:110<=n){e:aD}(h:pB e):fO n e=some true:=by
 have:=h.gx.len;obtain⟨b,h1,h2⟩:=Uu (n:=n) hn (e:=e) (by omega) (λy hy=>by
  obtain⟨a,b,c⟩:=h.gx.gd.vW y hy;exact⟨⟨by omega,by omega⟩,⟨by omega,by omega⟩⟩)
 rw[h1,h2.2 ⟨h.gx.gd,h.gx.sum,h.lo,h.hi⟩]
theorem Jo{e:aD}(h:pB e){a k:Int}(ho:IA a k)(hf:∀p,a<=p->p<a+k->¬bZ e.aK p):pB ⟨e.aK++[⟨a,k⟩],32*bE e.aK⟩:=by have hg:Ii (e.aK++[⟨a,k⟩]):=yV.2 ⟨h.gx.gd,ho,hf⟩;have:=h.gx.pos;obtain⟨o1,o2,o3⟩:=ho;refine⟨aaQ hg,by dsimp only;omega,?_⟩;dsimp only;rw[oL,wu];omega
end Go.Proofs.Z
namespace Go.Proofs.Z
open Go Go.Bw
theorem Dw{α:Type}(f:Nat->α)(i:Nat):iD f i (f i)=f:=by
 funext j;unfold iD;split
 ·next h=>rw[h]
 ·rfl
def ON(M:ai):Prop:=∀i:Nat,i<32->(M.bq i).E9=0/\(M.bq i).n=0
theorem Pd{n:Nat}(hn:1<=n){l:cj}(h:l.n=0)(t:Int):kP n l t=some (-1):=by obtain⟨m,rfl⟩:∃m,n=m+1:=⟨n-1,by omega⟩;unfold kP;rw[h];rfl
theorem IW{n:Nat}(hn:1<=n){l:cj}(h:l.n=0)(t:Int):jb n l t=some l:=by unfold jb;rw[ak (Pd hn h t)];rfl
theorem NR{n:Nat}{i t:Int}(h0:0<=i)(h1:i<32)(t0:0<=t)(t1:t<8):vJ n i t=some true:=by unfold vJ;simp[h0,h1,t0,t1]
def uX(M:ai)(k:Nat)(t:Int):ai:=⟨iD M.bq k {(M.bq k)with E9:=t+1}⟩
theorem aez{n:Nat}(hn:1<=n){M:ai}(hM:ON M){k:Nat}(hk:k<32){t:Int}(t0:0<=t)(t1:t<8):
  o5 n M k t=some (uX M k t,true):=by
 obtain⟨a,b⟩:=hM k hk;unfold o5;rw[ak (NR (by omega) (by omega) t0 t1),au (b:= !true) rfl,bH (gU (by omega) (by omega)),aP,aiV,ak (Pd hn b t)];rw[au (by rw[a,br (x:=0) (by omega) (by omega),br (x:=t+1) (by omega) (by omega)];simp;omega),aU (by rw[a,b];rfl),ak (IW hn b t),aP,aP,aP];refine congrArg (λm=>some (m,true)) ?_;unfold uX;refine congrArg ai.mk ?_;dsimp only;rw[No,Dw,br (x:=t+1) (by omega) (by omega),ahh (by omega) (by omega)]
def uD(M:ai)(t:Int)(c:Nat):ai:=⟨λj=>if j<c/\(M.bq j).E9=t+1 then{(M.bq j)with E9:=0}else M.bq j⟩
theorem U9(M:ai)(t:Int)(c:Nat):(uD M t c).bq c=M.bq c:=by unfold uD;dsimp only;rw[aiR (by omega)]
theorem Zc(M:ai)(t:Int)(c j:Nat):((uD M t c).bq j).n=(M.bq j).n:=by unfold uD;dsimp only;split<;>rfl
theorem acI{n:Nat}{M:ai}{c:Nat}(hc:c<32){t:Int}(t0:0<=t)(t1:t<8)(hb:0<=(M.bq c).E9/\(M.bq c).E9<=255):
  nH n (uD M t c) c t=some (uD M t (c+1)):=by
 unfold nH;rw[aP,ak (NR (by omega) (by omega) t0 t1),aiV,U9,bH (by rw[gU (by omega) (by omega)];rfl),br (x:=(M.bq c).E9) (by omega) (by omega),br (x:=t+1) (by omega) (by omega)];by_cases h:(M.bq c).E9=t+1
 ·rw[aU (by simpa using h),bH (gU (by omega) (by omega)),aP]
  show some _ =some _;refine congrArg some ?_;unfold uD;refine congrArg ai.mk ?_;funext j;unfold iD;dsimp only;by_cases hj:j=c
  ·subst hj
   rw[aiQ rfl,aiQ ⟨by omega,h⟩]
  ·rw[aiR hj]
   by_cases hl:j<c
   ·by_cases hh:(M.bq j).E9=t+1
    ·rw[aiQ ⟨hl,hh⟩,aiQ ⟨by omega,hh⟩]
    ·rw[aiR (λq=>hh q.2),aiR (λq=>hh q.2)]
   ·rw[aiR (by omega),aiR (by omega)]
 ·rw[au (by simpa using h)]
  show some _ =some _;refine congrArg some ?_;unfold uD;refine congrArg ai.mk ?_;funext j;by_cases hj:j=c
  ·subst hj
   rw[aiR (by omega),aiR (λq=>h q.2)]
  ·by_cases hl:j<c
   ·by_cases hh:(M.bq j).E9=t+1
    ·rw[aiQ ⟨hl,hh⟩,aiQ ⟨by omega,hh⟩]
    ·rw[aiR (λq=>hh q.2),aiR (λq=>hh q.2)]
   ·rw[aiR (by omega),aiR (by omega)]
theorem Va{n:Nat}(hn:40<=n){M:ai}{t:Int}(t0:0<=t)(t1:t<8)(hb:∀j,j<32->(M.bq j).n=0/\0<=(M.bq j).E9/\(M.bq j).E9<=255):
  da n M t=some (uD M t 32):=by
 unfold da;refine zP (λ(i:Int) (m:ai)=>∃c:Nat,i=(c:Int)/\c<=32/\m=uD M t c) (λi _ =>(32-i).toNat) (λo=>o=some (uD M t 32)) ?_ n 0 M ⟨0,rfl,by omega,?_⟩ (by omega)
 ·rintro kk i m ⟨c,rfl,hc,rfl⟩ ih
  by_cases h:c<32
  ·obtain⟨h1,h2⟩:=hb c h
   rw[aU (by simp;omega),aP,ak (acI h t0 t1 h2),aP,ak (NR (by omega) (by omega) t0 t1),aU (by rfl),bH (gU (by omega) (by omega)),aiV,ak (IW (by omega) (by rw[Zc];exact h1) t),bH (gU (by omega) (by omega)),Dw,aP,br (by omega) (by omega)];exact ih _ _ ⟨c+1,by omega,by omega,rfl⟩ (by omega)
  ·obtain rfl:c=32:=by omega
   rw[au (by simp),aP]
 ·unfold uD
  cases M;refine congrArg ai.mk ?_;funext j;rw[aiR (by omega)]
theorem PD{n:Nat}(hn:40<=n){M:ai}(hM:ON M){t:Int}(t0:0<=t)(t1:t<8):da n M t=some M:=by
 rw[Va hn t0 t1 λj hj=>⟨(hM j hj).2,by rw[(hM j hj).1];omega⟩];refine congrArg some ?_;unfold uD;cases M with|mk s=>
 refine congrArg ai.mk ?_;funext j;rw[aiR];rintro⟨h1,h2⟩;have:=(hM j h1).1;dsimp only at this h2;omega
theorem DN{n:Nat}(hn:40<=n){M:ai}(hM:ON M){k:Nat}(hk:k<32){t:Int}(t0:0<=t)(t1:t<8):da n (uX M k t) t=some M:=by
 rw[Va hn t0 t1 λj hj=>by
  unfold uX iD;dsimp only;split
  ·next h=>subst h;exact⟨(hM j hj).2,by show 0<=t+1;omega,by show t+1<=255;omega⟩
  ·exact⟨(hM j hj).2,by rw[(hM j hj).1];omega⟩]
 refine congrArg some ?_;unfold uD uX;cases M with|mk s=>
 refine congrArg ai.mk ?_;funext j;dsimp only;by_cases h:j=k
 ·subst h
  have hz:=(hM j hk).1;dsimp only at hz;have e1:iD s j {s j with E9:=t+1} j={s j with E9:=t+1}:=No _ _ _;simp only[e1];rw[aiQ (by simp[hk])];generalize s j=y at hz;cases y;dsimp only at hz;subst hz;rfl
 ·have e1:iD s k {s k with E9:=t+1} j=s j:=S5 _ _ h
  simp only[e1];rw[aiR];rintro⟨h1,h2⟩;have:=(hM j h1).1;dsimp only at this;omega
theorem abH{n:Nat}(hn:1<=n)(S:ae)(P:aj)(M:ai)(Q:List Int){r:av}(h:r.N<=0):fg n S P M Q r=some (S,P,M,Q):=by obtain⟨m,rfl⟩:∃m,n=m+1:=⟨n-1,by omega⟩;unfold fg;simp only[xw];rw[au (by simp;omega)]
theorem agh{n:Nat}(hn:40<=n)(S:ae)(P:aj)(M:ai)(Q:List Int){c:aF}(h:c.ya.N<=0){M':ai}(hg:da n M c.jU=some M'):kW n S P M Q c=some (S,P,M',Q):=by unfold kW;rw[ak (abH (by omega) S P M Q h),ak hg,aP]
theorem Oo{n:Nat}(hn:40<=n)(S:ae)(P:aj)(M:ai)(Q:List Int){c:aF}(r0:ah)(b0:Bool)(r:ah)(h:c.ya.N<=0){M':ai}(hg:da n M c.jU=some M'):eU n S P M Q c r0 b0 r=some (S,P,M',Q,c,r,true):=by unfold eU;rw[aP,ak (agh hn S P M Q h hg)]
end Go.Proofs.Z
namespace Go.Proofs.Z
open Go Go.Bw
abbrev EM(t:Int)(c:aC)(l:List Int)(r:av)(j:Int):aF:=⟨t,c,true,l,r,j⟩
def nk(n:Nat)(a1:aC):(ah->ae->aj->ai->List Int->Int->aF->Option (ah×ae×aj×ai×(List Int)×Int))->ah->ae->aj->ai->List Int->Int->aF->Option (ah×ae×aj×ai×(List Int)×Int):=λYP (aQ:ah) (bS:ae) (cB:aj) (dS:ai) (eP:(List Int)) (dk:Int) (eH:aF)=>cl (((!eH.Checked)==true)) (pS n bS dk a1) default λep=>cn (((!eH.Checked)&&ep)) (cn ((a1.Do==15)) (lt (({ay with E:=10}:ah):ah) λdP=>some (dP,bS,cB,dS,eP,dk)) (lt (({ay with E:=12}:ah):ah) λjo=>some (jo,bS,cB,dS,eP,dk))) (bd (cO n bS cB dS eP eH) λeV=>lt (eV.1:aF) λcJ=>lt (eV.2.1:ah) λfR=>cn (eV.2.2.1) (lt (fR:ah) λjx=>some (jx,eV.2.2.2.1,eV.2.2.2.2.1,eV.2.2.2.2.2.1,eV.2.2.2.2.2.2,dk)) (cn (((eH.Checked&&((cJ.ew.length:Int)==(eH.ew.length:Int)))&&(decide (0<(eH.ew.length:Int))))) (bd (kW n eV.2.2.2.1 eV.2.2.2.2.1 eV.2.2.2.2.2.1 eV.2.2.2.2.2.2 eH) λdV=>lt (({ay with E:=12}:ah):ah) λjk=>some (jk,dV.1,dV.2.1,dV.2.2.1,dV.2.2.2,dk)) (lt (cJ:aF) λgR=>YP aQ eV.2.2.2.1 eV.2.2.2.2.1 eV.2.2.2.2.2.1 eV.2.2.2.2.2.2 dk gR)))
theorem Kt(n:Nat)(S:ae)(P:aj)(M:ai)(Q:List Int)(t:Int)(c:aC):er n S P M Q t c=vK (nk n c) n ay S P M Q t ⟨t,c,false,[],aB,0⟩:=rfl
section
variable {n:Nat} {S S':ae} {P P':aj} {M M':ai} {Q Q':List Int} {t:Int} {c:aC} {u u':aF} {r:ah}
theorem Fx(hd:c.Do≠15):pS n S t c=some false:=by
 have hb:(c.Do==15)=false:=by simpa using hd
 unfold pS;rw[tI (by rw[hb];rfl),hb];rfl
theorem zO(hd:c.Do≠15)(hs:cO n S P M Q u=some (u',r,true,S',P',M',Q')){kk}{x:ah}:nk n c kk x S P M Q t u=some (r,S',P',M',Q',t):=by unfold nk;rw[zS (Fx hd),au (by cases u.Checked<;>rfl),ak hs];rfl
theorem tv(hd:c.Do≠15)(hs:cO n S P M Q u=some (u',r,false,S',P',M',Q'))(hl:u.Checked=true->u.ew.length=0\/u'.ew.length≠u.ew.length){kk}{x:ah}:nk n c kk x S P M Q t u=kk x S' P' M' Q' t u':=by
 unfold nk;rw[zS (Fx hd),au (by cases u.Checked<;>rfl),ak hs,aP,aP,au (by rfl),au]
 ·rfl
 ·cases hc:u.Checked with
  |false=>rfl
  |true=>
   dsimp only;rcases hl hc with h|h
   ·rw[h];simp
   ·rw[Bool.true_and,show((u'.ew.length:Int)==(u.ew.length:Int))=false by simp;omega];rfl
theorem Ti{b:Bool}(h:eD n S P M Q u ay false=some (true,S',P',M',Q',u',r,b)):cO n S P M Q u=some (u',r,b,S',P',M',Q'):=by unfold cO;rw[aP,ak h];rfl
theorem FO(hu:u.Checked=true){x:ah}{b:Bool}:eD n S P M Q u x b=some (false,S,P,M,Q,u,x,b):=by unfold eD;rw[aU hu]
theorem aeE{b:Bool}(hu:u.Checked=true)(h:fq n S P M Q u ay false=some (true,S',P',M',Q',u',r,b)):cO n S P M Q u=some (u',r,b,S',P',M',Q'):=by unfold cO;rw[aP,ak (FO hu),au (by rfl),ak h];rfl
theorem NU(hu:u.ew=[]){x:ah}{b:Bool}:fq n S P M Q u x b=some (false,S,P,M,Q,u,x,b):=by unfold fq;rw[hu];rfl
theorem aat{b:Bool}(hu:u.Checked=true)(hr:u.ew=[])(h:bY n S P M Q u ay false=some (true,S',P',M',Q',u',r,b)):cO n S P M Q u=some (u',r,b,S',P',M',Q'):=by unfold cO;rw[aP,ak (FO hu),au (by rfl),ak (NU hr),au (by rfl),ak h];rfl
theorem aeD{b:Bool}(hu:u.Checked=true)(hr:u.ew=[])(hc:bY n S P M Q u ay false=some (false,S,P,M,Q,u,ay,false))(h:eL n S P M Q u ay false=some (true,S',P',M',Q',u',r,b)):cO n S P M Q u=some (u',r,b,S',P',M',Q'):=by unfold cO;rw[aP,ak (FO hu),au (by rfl),ak (NU hr),au (by rfl),ak hc,au (by rfl),ak h];rfl
theorem aas{b:Bool}(hu:u.Checked=true)(hr:u.ew=[])(hc:bY n S P M Q u ay false=some (false,S,P,M,Q,u,ay,false))(hl:u.ya.N<=u.qg)(h:cu n S P M Q u ay false=some (true,S',P',M',Q',u',r,b)):cO n S P M Q u=some (u',r,b,S',P',M',Q'):=by unfold cO;rw[aP,ak (FO hu),au (by rfl),ak (NU hr),au (by rfl),ak hc,au (by rfl)];rw[ak (show eL n S P M Q u ay false=some (false,S,P,M,Q,u,ay,false)by unfold eL;rw[aU (by simpa using hl)]),au (by rfl),ak h];rfl
theorem Gu(hn:40<=n)(hd:c.Do≠15)(hM:ON M)(t0:0<=t)(t1:t<8){e:Int}(he:fY n S t c=some e)(h0:e≠0):er n S P M Q t c=some (⟨e,0,0⟩,S,P,M,Q,t):=by obtain⟨m,rfl⟩:∃m,n=m+1:=⟨n-1,by omega⟩;rw[Kt];show nk (m+1) c _ _ _ _ _ _ _ _ =_;refine zO hd (u':=⟨t,c,false,[],aB,0⟩) (Ti ?_);unfold eD;rw[au (by rfl),ak (Fx hd),au (by rfl),ak he,aU (by simpa using h0),ak (Oo hn S P M Q _ _ _ (by show(0:Int)<=0;omega) (PD hn hM t0 t1))]
theorem MI(hd:c.Do≠15)(he:fY n S t c=some 0){l:List Int}(hr:kr n S c=some l):eD n S P M Q ⟨t,c,false,[],aB,0⟩ ay false=some (true,S,P,M,Q,EM t c l aB 0,ay,false):=by unfold eD;rw[au (by rfl),ak (Fx hd),au (by rfl),ak he,au (by rfl),ak hr];rfl
theorem Ug(hd:c.Do≠15)(he:fY (n+1) S t c=some 0)(hr:kr (n+1) S c=some []):er (n+1) S P M Q t c=vK (nk (n+1) c) n ay S P M Q t (EM t c [] aB 0):=by rw[Kt];show nk (n+1) c _ _ _ _ _ _ _ _ =_;rw[tv hd (Ti (MI hd he hr)) (λh=>by cases h)]
theorem yL(hd:c.Do≠15)(hM:ON M)(t0:0<=t)(t1:t<8)(he:fY (n+2) S t c=some 0){h:Int}(hr:kr (n+2) S c=some [h]){k:Nat}(hk:k<32)(hs:bn (n+2) h=some ((k:Int),true)):er (n+2) S P M Q t c=vK (nk (n+2) c) n ay S P (uX M k t) Q t (EM t c [] aB 0):=by
 rw[Kt];show nk (n+2) c _ _ _ _ _ _ _ _ =_;rw[tv hd (Ti (MI hd he hr)) (λh=>by cases h)];show nk (n+2) c _ _ _ _ _ _ _ _ =_;have hm:fq (n+2) S P M Q (EM t c [h] aB 0) ay false=some (true,S,P,uX M k t,Q,EM t c [] aB 0,ay,false):=by unfold fq;rw[au (by rfl),bH (by rfl),ak (show bn (n+2) (List.getD (EM t c [h] aB 0).ew (Int.toNat 0) default)=some ((k:Int),true)from hs),ak (aez (by omega) hM hk t0 t1)];rfl
 rw[tv hd (aeE rfl hm) (λ_ => .inr (by simp))]
end
theorem TM{n:Nat}(hn:110<=n)(S:ae)(P:aj)(M:ai)(Q:List Int)(hQ:Q.length<=10000){r:Rn}(ho:IA r.At r.N):fg n S P M Q r=some (S,P,M,Q++EY r):=by
 obtain⟨o1,o2,o3⟩:=ho;unfold fg;refine Jq (λ(i:Int) (s:ae) (p:aj) (m:ai) (q:List Int)=>∃j:Nat,i=(j:Int)/\(j:Int)<=r.N/\s=S/\p=P/\m=M/\q=Q++(List.range j).map λ(k:Nat)=>r.At+(k:Int)) (λi _ _ _ _ =>(r.N-i).toNat) (λo=>o=some (S,P,M,Q++EY r)) ?_ n 0 S P M Q ⟨0,rfl,by omega,rfl,rfl,rfl,by simp⟩ (by omega);rintro kk i s p m q ⟨j,rfl,hj,rfl,rfl,rfl,rfl⟩ ih;by_cases h:(j:Int)<r.N
 ·rw[aU (by simpa using h),bH (ni (by simp;omega) (by simp;omega)),aP,br (x:=r.At+j) (by omega) (by omega),br (by omega) (by omega)]
  refine ih _ _ _ _ _ ⟨j+1,by omega,by omega,rfl,rfl,rfl,?_⟩ (by omega);rw[Gn,List.append_assoc]
 ·rw[au (by simpa using h)]
  unfold EY;rw[show r.N.toNat=j by omega]
end Go.Proofs.Z
namespace Go.Proofs.Z
open Go Go.Bw
theorem aex(x:Int):0<=wr .u8 x/\wr .u8 x<=255:=by
 have h:wr .u8 x=x%256:=by simp[wr,IntKind.wrap,IntKind.signed,IntKind.bits]
 rw[h];omega
structure Ih(P:aj):Prop where
 Qh:qb P.dX.l
 n1:P.n<=64
 fr:∀p,bZ P.dX.l p->p<P.n
 bt:∀i j,0<=P.bytes i j/\P.bytes i j<=255
def gW(P:aj)(p:Int):Prop:=0<=p/\p<P.n/\¬bZ P.dX.l p
def FP(P:aj)(a:Int):Int:=P.bytes (a/32).toNat (a%32).toNat
def wrP(P:aj)(a v:Int):aj:={P with bytes:=iD P.bytes (a/32).toNat (iD (P.bytes (a/32).toNat) (a%32).toNat v)}
theorem Qi{P:aj}(h:Ih P)(a:Int):0<=FP P a/\FP P a<=255:=h.bt _ _
theorem abb{P:aj}{a b v:Int}(ha:0<=a)(hb:0<=b):FP (wrP P a v) b=if b=a then v else FP P b:=by
 unfold FP wrP iD;dsimp only;by_cases h:b=a
 ·subst h;rw[aiQ rfl,aiQ rfl,aiQ rfl]
 ·rw[aiR h]
  by_cases h1:(b/32).toNat=(a/32).toNat
  ·rw[aiQ h1,aiR (by omega),h1]
  ·rw[aiR h1]
theorem aa9{P:aj}(h:Ih P)(a:Int){v:Int}(hv:0<=v/\v<=255):Ih (wrP P a v):=
 ⟨h.Qh,h.n1,h.fr,λi j=>by
  unfold wrP iD;dsimp only;by_cases h1:i=(a/32).toNat
  ·rw[aiQ h1];by_cases h2:j=(a%32).toNat
   ·rw[aiQ h2];exact hv
   ·rw[aiR h2];exact h.bt _ _
  ·rw[aiR h1];exact h.bt _ _⟩
theorem KU{n:Nat}(hn:110<=n){P:aj}(h:Ih P){p:Int}(hp:gW P p):g8 n P.dX p=some false:=by
 obtain⟨p0,p1,p2⟩:=hp;have:=h.n1;obtain⟨b,e,hb⟩:=acD hn h.Qh (p:=p) ⟨by omega,by omega⟩;rw[e];cases b with
 |false=>rfl
 |true=>exact absurd (hb.1 rfl) p2
theorem abG{n:Nat}(hn:110<=n){P:aj}(h:Ih P){a:Int}(ha:0<=a)(hl:gW P (a/32)):lZ n P a=some (FP P a,0):=by
 have:=h.n1;obtain⟨p0,p1,p2⟩:=hl;have e1:wr .i64 (Int.tdiv a 32)=a/32:=by rw[Gk ha,br (by omega) (by omega)]
 have e2:Int.tmod a 32=a%32:=LD ha;unfold lZ;rw[e1,e2,au (by simp;omega),au (by simp;omega),ak (KU hn h ⟨p0,p1,p2⟩),au (by rfl),bH (gU (by omega) (by omega)),bH (gU (by omega) (by omega))];rfl
theorem XA{n:Nat}(hn:110<=n){P:aj}(h:Ih P){a:Int}(ha:0<=a)(hl:gW P (a/32))(v:Int):kL n P a v=some (0,wrP P a v):=by
 have:=h.n1;obtain⟨p0,p1,p2⟩:=hl;have e1:wr .i64 (Int.tdiv a 32)=a/32:=by rw[Gk ha,br (by omega) (by omega)]
 have e2:Int.tmod a 32=a%32:=LD ha;unfold kL;rw[e1,e2,au (by simp;omega),au (by simp;omega),ak (KU hn h ⟨p0,p1,p2⟩),au (by rfl),bH (gU (by omega) (by omega)),bH (gU (by omega) (by omega))];rfl
def IB(f:Nat->Int):Nat->Int
 |0=>0
 |k+1=>IB f k+f k*256^k
theorem KI{f:Nat->Int}{k:Nat}(hf:∀i,i<k->0<=f i/\f i<=255):0<=IB f k/\IB f k<256^k:=by
 induction k with
 |zero=>simp[IB]
 |succ k ih=>
  obtain⟨a,b⟩:=ih λi hi=>hf i (by omega);obtain⟨c,d⟩:=hf k (by omega);have hp:(0:Int)<256^k:=Int.pow_pos (by omega);have h1:f k*256^k<=255*256^k:=Int.mul_le_mul_of_nonneg_right d (by omega);have h2:0<=f k*256^k:=Int.mul_nonneg c (by omega);have h3:(256:Int)^(k+1)=256*256^k:=by rw[Int.pow_succ,Int.mul_comm]
  unfold IB;rw[h3];omega
theorem og{f g:Nat->Int}{k:Nat}(h:∀i,i<k->f i=g i):IB f k=IB g k:=by
 induction k with
 |zero=>rfl
 |succ k ih=>unfold IB;rw[ih λi hi=>h i (by omega),h k (by omega)]
theorem UD(f:Nat->Int)(k:Nat):IB f (k+1)=IB f k+f k*256^k:=rfl
theorem aeZ(k:Nat):(256:Int)^k=((2^(8*k):Nat):Int):=by rw[Nat.pow_mul,Int.natCast_pow];rfl
theorem Ym{k:Nat}(hk:k<=8):(256:Int)^k<=18446744073709551616:=by have h:(256:Nat)^k<=256^8:=Nat.pow_le_pow_right (by omega) hk;have e:(256:Int)^k=((256^k:Nat):Int):=(Int.natCast_pow 256 k).symm;rw[e];exact Int.ofNat_le.2 (Nat.le_trans h (by decide))
theorem ab3{f:Nat->Int}{k:Nat}(hk:k<8)(hf:∀i,i<k+1->0<=f i/\f i<=255):orI .u64 (IB f k) (Kh .u64 (wr .u64 (f k)) (wr .i64 (8*(k:Int))))=IB f (k+1):=by
 obtain⟨a,b⟩:=KI (f:=f) (k:=k) λi hi=>hf i (by omega);obtain⟨a',b'⟩:=KI (f:=f) (k:=k+1) hf;obtain⟨c,d⟩:=hf k (by omega);have hp:=aeZ k;have hp1:=Ym (k:=k+1) (by omega);rw[sL c (by omega),br (by omega) (by omega),TA (8*k) (by omega) (by show 8*k<=64;omega)];have h2:0<=f k*256^k:=Int.mul_nonneg c (by rw[hp];omega);rw[UD]at a' b';rw[← hp,sL h2 (by omega),UD];obtain⟨x,hx⟩:=Int.eq_ofNat_of_zero_le a;obtain⟨y,hy⟩:=Int.eq_ofNat_of_zero_le c;have hz:f k*256^k=((2^(8*k)*y:Nat):Int):=by rw[hy,hp,Int.natCast_mul];exact Int.mul_comm _ _
 have sC:x<2^(8*k):=by rw[hx,hp]at b;exact Int.ofNat_lt.1 b
 rw[hz,hx]at b' ⊢;generalize hw:2^(8*k)*y=w at *;rw[Yn (k:= .u64) (by show x<2^64;omega) (by show w<2^64;omega),Nat.or_comm, ← hw, ← Nat.two_pow_add_eq_or_of_lt sC,hw];omega
theorem aeU{n:Nat}(hn:110<=n){P:aj}(h:Ih P){pl:List Int}(hl:pl.length<=8)(hp:∀i,i<pl.length->0<=pl.getD i default/\gW P (pl.getD i default/32)){ρ:Type}(F:ah->Option ρ):
  eS (λk67 (vi:Int) (SA:ah)=>cn (decide (vi<(pl.length:Int))) (gu (dg vi pl.length)<|bd (lZ n P (pl.getD (Int.toNat vi) default)) λJQ=>gu (decide (0<=wr .i64 (8*vi)))<|lt (({SA with V:=orI .u64 SA.V (Kh .u64 (wr .u64 JQ.1) (wr .i64 (8*vi)))}:ah):ah) λIm=>k67 (wr .i64 (vi+1)) Im) (F SA)) n 0 ⟨0,0,0⟩=F ⟨0,IB (λi=>FP P (pl.getD i default)) pl.length,0⟩:=by
 refine zP (λ(i:Int) (r:ah)=>∃j:Nat,i=(j:Int)/\j<=pl.length/\r=⟨0,IB (λi=>FP P (pl.getD i default)) j,0⟩) (λi _ =>((pl.length:Int)-i).toNat) (λo=>o=F ⟨0,IB (λi=>FP P (pl.getD i default)) pl.length,0⟩) ?_ n 0 _ ⟨0,rfl,by omega,rfl⟩ (by omega);rintro kk i r ⟨j,rfl,hj,rfl⟩ ih;by_cases hc:j<pl.length
 ·obtain⟨p0,p1⟩:=hp j hc
  rw[aU (by simpa using hc),bH (gU (by omega) (by omega)),aiV,ak (abG hn h p0 p1),bH (by rw[br (by omega) (by omega)];simp;omega),aP,br (x:=(j:Int)+1) (by omega) (by omega)];refine ih _ _ ⟨j+1,by omega,by omega,?_⟩ (by omega);dsimp only;rw[ab3 (f:=λi=>FP P (pl.getD i default)) (by omega) λi _ =>Qi h _]
 ·obtain rfl:j=pl.length:=by omega
  rw[au (by simp)]
def Lx(P:aj)(f v:Nat->Int):Nat->aj
 |0=>P
 |k+1=>wrP (Lx P f v k) (f k) (v k)
theorem F3(P:aj)(f v:Nat->Int)(k:Nat):(Lx P f v k).dX=P.dX/\(Lx P f v k).n=P.n:=by
 induction k with
 |zero=>exact⟨rfl,rfl⟩
 |succ k ih=>exact ih
theorem SF{P:aj}(h:Ih P){f v:Nat->Int}{k:Nat}(hv:∀i,i<k->0<=v i/\v i<=255):Ih (Lx P f v k):=by
 induction k with
 |zero=>exact h
 |succ k ih=>exact aa9 (ih λi hi=>hv i (by omega)) _ (hv k (by omega))
theorem SG{P:aj}{f v:Nat->Int}{k:Nat}{p:Int}(h:gW P p):gW (Lx P f v k) p:=by unfold gW at h ⊢;rw[(F3 P f v k).1,(F3 P f v k).2];exact h
theorem abd{P:aj}{f v:Nat->Int}{k:Nat}(hf:∀i,i<k->0<=f i){b:Int}(hb:0<=b)(hi:∀i j,i<k->j<k->f i=f j->i=j):(∀i,i<k->f i=b->FP (Lx P f v k) b=v i)/\((∀i,i<k->f i≠b)->FP (Lx P f v k) b=FP P b):=by
 induction k with
 |zero=>exact⟨λi h=>absurd h (by omega),λ_ =>rfl⟩
 |succ k ih=>
  obtain⟨a,c⟩:=ih (λi h=>hf i (by omega)) (λi j h1 h2=>hi i j (by omega) (by omega));unfold Lx;rw[abb (hf k (by omega)) hb];refine⟨λi h1 h2=>?_,λh=>?_⟩
  ·by_cases h3:b=f k
   ·rw[aiQ h3]
    rw[hi i k h1 (by omega) (by rw[h2,h3])]
   ·rw[aiR h3]
    refine a i ?_ h2;rcases Nat.lt_or_ge i k with h4|h4
    ·exact h4
    ·obtain rfl:i=k:=by omega
     exact absurd h2.symm h3
  ·rw[aiR λh3=>h k (by omega) h3.symm]
   exact c λi hi'=>h i (by omega)
theorem aa8{n:Nat}(hn:110<=n){P:aj}(h:Ih P){pl:List Int}(hl:pl.length<=8)(hp:∀i,i<pl.length->0<=pl.getD i default/\gW P (pl.getD i default/32)){V:Int}{ρ:Type}(F:ae->aj->ai->List Int->aF->ah->Bool->Option ρ)(S:ae)(M:ai)(Q:List Int)(u:aF)(r:ah)(b:Bool):
  GD (λk63 (qc:Int) (F1:ae) (yj:aj) (Nf:ai) (FZ:(List Int)) (zH:aF) (Xb:ah) (JS:Bool)=>cn (decide (qc<(pl.length:Int))) (gu (dg qc pl.length)<|gu (decide (0<=wr .i64 (8*qc)))<|bd (kL n yj (pl.getD (Int.toNat qc) default) (wr .u8 (Ag .u64 V (wr .i64 (8*qc))))) λQC=>k63 (wr .i64 (qc+1)) F1 QC.2 Nf FZ zH Xb JS) (F F1 yj Nf FZ zH Xb JS)) n 0 S P M Q u r b=
  F S (Lx P (λi=>pl.getD i default) (λi=>wr .u8 (Ag .u64 V (wr .i64 (8*(i:Int))))) pl.length) M Q u r b:=by
 refine Q9 (λ(i:Int) s p m q u' r' b'=>∃j:Nat,i=(j:Int)/\j<=pl.length/\s=S/\p=Lx P (λi=>pl.getD i default) (λi=>wr .u8 (Ag .u64 V (wr .i64 (8*(i:Int))))) j/\m=M/\q=Q/\u'=u/\r'=r/\b'=b) (λi _ _ _ _ _ _ _ =>((pl.length:Int)-i).toNat) (λo=>o=F S (Lx P (λi=>pl.getD i default) (λi=>wr .u8 (Ag .u64 V (wr .i64 (8*(i:Int))))) pl.length) M Q u r b) ?_ n 0 _ _ _ _ _ _ _ ⟨0,rfl,by omega,rfl,rfl,rfl,rfl,rfl,rfl,rfl⟩ (by omega);rintro kk i s p m q u' r' b' ⟨j,rfl,hj,rfl,rfl,rfl,rfl,rfl,rfl,rfl⟩ ih;by_cases hc:j<pl.length
 ·obtain⟨p0,p1⟩:=hp j hc
  rw[aU (by simpa using hc),bH (gU (by omega) (by omega)),bH (by rw[br (by omega) (by omega)];simp;omega),aiV,ak (XA hn (SF h λi _ =>aex _) p0 (SG p1) _),br (x:=(j:Int)+1) (by omega) (by omega)];exact ih _ _ _ _ _ _ _ _ ⟨j+1,by omega,by omega,rfl,rfl,rfl,rfl,rfl,rfl,rfl⟩ (by omega)
 ·obtain rfl:j=pl.length:=by omega
  rw[au (by simp)]
end Go.Proofs.Z
namespace Go.Proofs.Z
open Go Go.Bw
def QZ(S:ae)(e:Nat->aD):ae:={S with dH:={S.dH with T:={S.dH.T with aW:=λj=>{S.dH.T.aW j with E:=e j}}}}
def iK(S:ae)(k:Nat)(E:aD):ae:={S with dH:={S.dH with T:={S.dH.T with aW:=iD S.dH.T.aW k {S.dH.T.aW k with E:=E}}}}
abbrev bw(S:ae)(k:Nat):aD:=(S.dH.T.aW k).E
theorem Jf(S:ae):QZ S (bw S)=S:=rfl
theorem Je(S:ae)(k:Nat)(E:aD)(e:Nat->aD):QZ (iK S k E) e=QZ S e:=by
 have h:(λj=>{iD S.dH.T.aW k {S.dH.T.aW k with E:=E} j with E:=e j})=λj=>{S.dH.T.aW j with E:=e j}:=by
  funext j;unfold iD;by_cases h:j=k
  ·subst h;rw[aiQ rfl]
  ·rw[aiR h]
 unfold QZ iK;dsimp only;rw[h]
theorem fS(S:ae)(k:Nat)(E:aD):bw (iK S k E) k=E:=by unfold bw iK;dsimp only;rw[No]
theorem rR(S:ae){k j:Nat}(E:aD)(h:j≠k):bw (iK S k E) j=bw S j:=by unfold bw iK;dsimp only;rw[S5 _ _ h]
theorem abw(S:ae)(k j:Nat)(E:aD):((iK S k E).dH.T.aW j).gD=(S.dH.T.aW j).gD:=by
 unfold iK iD;dsimp only;by_cases h:j=k
 ·subst h;rw[aiQ rfl]
 ·rw[aiR h]
structure uK(w:Bool)(n:Nat)(S:ae)(t h:Int)(k:Nat):Prop where
 kl:k<32
 cY:bn n h=some ((k:Int),true)
 Rk:aJ n S.dH.T.fE.kS h=some true
 t0:0<=t
 t1:t<8
 YI:S.mF t.toNat=true
 rd:∀e,pq n (QZ S e).dH t h 0=some 0
 wt:w=true->∀e,pq n (QZ S e).dH t h 1=some 0
 quo:0<=(S.dH.T.aW k).gD/\(S.dH.T.aW k).gD<=64
 up:∃u,aJ n S.dH.T.fE.kS ((S.dH.T.aW k).Up)=some u
theorem uK.set{w:Bool}{n:Nat}{S:ae}{t h:Int}{k:Nat}(a:uK w n S t h k)(j:Nat)(E:aD):uK w n (iK S j E) t h k where
 kl:=a.kl
 cY:=a.cY
 Rk:=a.Rk
 t0:=a.t0
 t1:=a.t1
 YI:=a.YI
 rd e:=by rw[Je];exact a.rd e
 wt hw e:=by rw[Je];exact a.wt hw e
 quo:=by rw[abw];exact a.quo
 up:=by
  have:((iK S j E).dH.T.aW k).Up=(S.dH.T.aW k).Up:=by
   unfold iK iD;dsimp only;by_cases h:k=j
   ·subst h;rw[aiQ rfl]
   ·rw[aiR h]
  rw[this];exact a.up
theorem uK.ahg{n:Nat}{S:ae}{t h:Int}{k:Nat}(a:uK true n S t h k):uK false n S t h k:=⟨a.kl,a.cY,a.Rk,a.t0,a.t1,a.YI,a.rd,λh=>(by cases h),a.quo,a.up⟩
section
variable {w:Bool} {n:Nat} {S:ae} {t h:Int} {k:Nat}
theorem uK.get(a:uK w n S t h k):∃u,dW n S.dH.T h=some ({S.dH.T.aW k with Up:=u},0):=by
 obtain⟨b,hb⟩:=a.up;have:=a.kl;obtain⟨u,hu⟩:∃u,lU n S.dH.T h=some u:=by
  unfold lU;rw[ak a.cY,bH (gU (by omega) (by omega)),aiV,ak hb];cases b with
  |false=>exact⟨_,rfl⟩
  |true=>exact⟨_,rfl⟩
 refine⟨u,?_⟩;unfold dW;rw[ak a.Rk,au (b:= !true) rfl,ak a.cY,bH (gU (by omega) (by omega)),aP,aiV,ak hu];rfl
theorem uK.ahl(hn:110<=n)(a:uK w n S t h k){E:aD}(hE:pB E)(u:Int):iO n S.dH.T h {S.dH.T.aW k with Up:=u,E:=E}=some ((iK S k E).dH.T,0):=by
 have:=a.kl;have hq:lR n (S.dH.T.aW k).gD=some true:=by unfold lR;obtain⟨q0,q1⟩:=a.quo;simp[q0,q1]
 unfold iO;rw[ak a.Rk,au (b:= !true) rfl,ak hq,rY (g:=(!true)==false) rfl (Jn hn hE),au (by rfl),ak a.cY,bH (gU (by omega) (by omega)),aP,bH (gU (by omega) (by omega)),aP,aiV];rfl
theorem uK.ahv(a:uK w n S t h k){x:aq}(hs:x.aH=S)(ht:x.fL=t):bG n x h 0=some (.ok ()):=by have:=a.rd (bw S);rw[Jf]at this;unfold bG;rw[hs,ht,ak this];rfl
theorem uK.ae8(a:uK true n S t h k){x:aq}(hs:x.aH=S)(ht:x.fL=t):bG n x h 1=some (.ok ()):=by have:=a.wt rfl (bw S);rw[Jf]at this;unfold bG;rw[hs,ht,ak this];rfl
theorem uK.region(a:uK w n S t h k){x:aq}(hs:x.aH=S):∃u,eK n x h=some (.ok {S.dH.T.aW k with Up:=u}):=by obtain⟨u,hu⟩:=a.get;refine⟨u,?_⟩;unfold eK;rw[hs,ak hu];rfl
theorem B7{α β:Type}{x:Option (Except Int α)}{v:α}(h:x=some (.ok v)){f:Int->β}{k:α->Option β}:tr x f k=k v:=by subst h;rfl
theorem aeA{α β:Type}{x:Option (Except Int α)}{e:Int}(h:x=some (.error e)){f:Int->β}{k:α->Option β}:tr x f k=some (f e):=by subst h;rfl
theorem tc1{α:Type}{b:Bool}(h:b=true){f:α}{k:Option α}:tc b f k=k:=by subst h;rfl
theorem tc0{α:Type}{b:Bool}(h:b=false){f:α}{k:Option α}:tc b f k=some f:=by subst h;rfl
theorem uH(a:uK w n S t h k){x:aq}(hs:x.aH=S)(ht:x.fL=t){d:Int}(hd:x.c.Do=d){i:Nat}{m:aal}(hm:Hq d=some (d,i,m)):
  bO n x=tr (m n x) (λe=>(⟨e,0,0⟩,none)) λy=>some (y.1,some y.2):=by
 have h7:r7 .i64 t 7=t:=by have:=VW (k:= .i64) (a:=t) 3 (b:=7) a.t0 (by have:=a.t1;show t<2^63;omega) (by decide) (by decide);rw[this];have:=a.t0;have:=a.t1;exact Int.emod_eq_of_lt (by omega) (by show t<8;omega)
 have hb:(decide (0<=t)&&decide (t<8))=true:=by have:=a.t0;have:=a.t1;simp;omega
 unfold bO;rw[hs,ht,hd,hm,h7,hb,bH (by rw[gU a.t0 a.t1];rfl),tc1 (by rw[a.YI];rfl)]
def jg(S:ae)(t:Int)(c:aC)(r:av)(zg:Bool):aq:={aH:=S,fL:=t,c:=c,run:=r,kN:=0,zg:=zg,fF:=[]}
theorem OV{x:aq}(hB:1<=x.c.B/\x.c.B<=8):qA n x.c=some (.ok ()):=by unfold qA;rw[tc1 (by simp;omega)]
theorem aav(h4:pB (bw S k))(u:Int){x:aq}(hA:0<=x.c.A/\x.c.A<4294967296)(hB:1<=x.c.B/\x.c.B<=8):qB n {S.dH.T.aW k with Up:=u} x.c=if x.c.A+x.c.B<=(bw S k).dZ then some (.ok ())else some (.error 9):=by
 have hl:=h4.lo;have hh:=h4.hi;have hx:=h4.gx.sum;unfold qB;show tc (decide (wr .i64 x.c.A<=wr .i64 ((bw S k).dZ-wr .i64 x.c.B))) _ _ =_;rw[br (x:=x.c.A) (by omega) (by omega),br (x:=x.c.B) (by omega) (by omega),br (by omega) (by omega)];by_cases hc:x.c.A+x.c.B<=(bw S k).dZ
 ·rw[tc1 (by simp;omega),aiQ hc]
 ·rw[tc0 (by simp;omega),aiR hc]
theorem VL(a:uK w n S t h k)(h4:pB (bw S k)){x:aq}(hs:x.aH=S)(ht:x.fL=t)(hR:x.c.R=h)(hA:0<=x.c.A/\x.c.A<4294967296)(hB:1<=x.c.B/\x.c.B<=8):
  gK n x=(if x.c.A+x.c.B<=(bw S k).dZ then some (.ok ⟨0,0,0⟩)else some (.error 9)):=by
 obtain⟨u,hu⟩:=a.region hs;unfold gK;rw[B7 (OV hB),hR,B7 (a.ahv hs ht),B7 hu,aav h4 u hA hB];by_cases hc:x.c.A+x.c.B<=(bw S k).dZ
 ·rw[aiQ hc,aiQ hc];rfl
 ·rw[aiR hc,aiR hc];rfl
theorem VJ(a:uK true n S t h k)(h4:pB (bw S k)){x:aq}(hs:x.aH=S)(ht:x.fL=t)(hR:x.c.R=h)(hA:0<=x.c.A/\x.c.A<4294967296)(hB:1<=x.c.B/\x.c.B<=8):
  ga n x=(if x.c.A+x.c.B<=(bw S k).dZ then some (.ok ⟨0,0,0⟩)else some (.error 9)):=by
 obtain⟨u,hu⟩:=a.region hs;unfold ga;rw[B7 (OV hB),hR,B7 (a.ae8 hs ht),B7 hu,aav h4 u hA hB];by_cases hc:x.c.A+x.c.B<=(bw S k).dZ
 ·rw[aiQ hc,aiQ hc];rfl
 ·rw[aiR hc,aiR hc];rfl
theorem ac0{c:aC}(a:uK w n S t h k)(h4:pB (bw S k))(hd:c.Do=3\/(c.Do=4/\w=true))(hR:c.R=h)(hA:0<=c.A/\c.A<4294967296)(hB:1<=c.B/\c.B<=8):
  cq n S t c aB=some (S,⟨if c.A+c.B<=(bw S k).dZ then 0 else 9,0,0⟩,[]):=by
 have hc:bO n (jg S t c aB false)=some (if c.A+c.B<=(bw S k).dZ then(⟨0,0,0⟩,some (jg S t c aB false))else(⟨9,0,0⟩,none)):=by
  rcases hd with hd|⟨hd,hw⟩
  ·have b1:gK n (jg S t c aB false)=(if c.A+c.B<=(bw S k).dZ then some (.ok ⟨0,0,0⟩)else some (.error 9)):=VL a h4 (x:=jg S t c aB false) rfl rfl hR hA hB
   rw[uH a (x:=jg S t c aB false) rfl rfl (d:=3) hd rfl];unfold GL;rw[b1];by_cases q:c.A+c.B<=(bw S k).dZ
   ·rw[aiQ q,aiQ q];rfl
   ·rw[aiR q,aiR q];rfl
  ·subst hw
   have b2:ga n (jg S t c aB false)=(if c.A+c.B<=(bw S k).dZ then some (.ok ⟨0,0,0⟩)else some (.error 9)):=VJ a h4 (x:=jg S t c aB false) rfl rfl hR hA hB;rw[uH a (x:=jg S t c aB false) rfl rfl (d:=4) hd rfl];unfold GL;rw[b2];by_cases q:c.A+c.B<=(bw S k).dZ
   ·rw[aiQ q,aiQ q];rfl
   ·rw[aiR q,aiR q];rfl
 unfold cq;rw[aP];show bd (bO n (jg S t c aB false)) _ =_;rw[ak hc];by_cases q:c.A+c.B<=(bw S k).dZ
 ·rw[aiQ q,aiQ q];rfl
 ·rw[aiR q,aiR q];rfl
theorem Co{c:aC}(hd:c.Do≠2):bJ n S t c=some 0:=by
 have:(c.Do !=2)=true:=by simpa using hd
 unfold bJ;rw[aP,this];rfl
theorem vE{c:aC}(a:uK w n S t h k)(hd:c.Do=2\/c.Do=3\/c.Do=4)(hR:c.R=h):kr n S c=some [h]:=by
 have ho:iU n S c.R=some [h]:=by unfold iU;rw[hR,ak a.Rk];rfl
 unfold kr;rcases hd with hd|hd|hd<;>rw[hd]<;>simp only[cn]<;>simp[ho,bd]
theorem Tm(hn:110<=n){c:aC}(a:uK w n S t h k)(h4:pB (bw S k))(hd:c.Do=3\/c.Do=4)(hR:c.R=h)(hA:0<=c.A)(hB:1<=c.B/\c.B<=8)(hl:c.A+c.B<=(bw S k).dZ):
  cv n S c=some ((List.range c.B.toNat).map λ(i:Nat)=>dO (bw S k).aK (c.A+(i:Int)),0):=by
 obtain⟨u,hu⟩:=a.get;have hh:=h4.hi;have hx:=h4.gx.sum;have hd':((c.Do !=3)&&(c.Do !=4))=false:=by rcases hd with hd|hd<;>rw[hd]<;>rfl
 unfold cv;rw[hR,ak hu,au (by rfl),hd',br (x:=c.B) (by omega) (by omega),br (x:=c.A) (by omega) (by omega),au (by simp;omega)];show cn (decide (wr .i64 ((bw S k).dZ-c.B)<c.A)) _ _ =_;rw[br (by omega) (by omega),au (by simp;omega)];refine zP (λ(l:List Int) (i:Int)=>∃j:Nat,i=(j:Int)/\(j:Int)<=c.B/\l=(List.range j).map λ(i:Nat)=>dO (bw S k).aK (c.A+(i:Int))) (λ_ i=>(c.B-i).toNat) (λo=>o=some ((List.range c.B.toNat).map λ(i:Nat)=>dO (bw S k).aK (c.A+(i:Int)),0)) ?_ n [] 0 ⟨0,rfl,by omega,rfl⟩ (by omega);rintro kk l i ⟨j,rfl,hj,rfl⟩ ih;by_cases hc:(j:Int)<c.B
 ·rw[aU (by simpa using hc),br (x:=c.A+j) (by omega) (by omega)]
  rw[ak (Ud hn h4 (at_:=c.A+(j:Int)) ⟨by omega,by omega⟩),bH (ni (by simp;omega) (by simp;omega)),aP,br (by omega) (by omega)];refine ih _ _ ⟨j+1,by omega,by omega,?_⟩ (by omega);rw[Gn];unfold plV dO;rw[aiQ (by omega),Int.sub_zero]
 ·obtain rfl:c.B.toNat=j:=by omega
  rw[au (by simp;omega)]
end
end Go.Proofs.Z
namespace Go.Proofs.Z
open Go Go.Bw
def eY(s:Int):Int:=(s+31)/32
theorem Cj{s a:Int}(h:tw s a=true):1<=eY s/\s<=32*eY s/\eY s<=4:=by obtain⟨⟨h1,h2⟩,_⟩:=l9.1 h;unfold eY;omega
section
variable {w:Bool} {n:Nat} {S:ae} {t h:Int} {k:Nat}
theorem uK.ahk(hn:110<=n)(a:uK w n S t h k){y:aq}(hs:y.aH=S){E:aD}(hE:pB E)(u:Int):gh n y h {S.dH.T.aW k with Up:=u,E:=E}=some (.ok {y with aH:=iK S k E}):=by unfold gh;rw[hs,ak (a.ahl hn hE u)];rfl
theorem KB{E:aD}(hE:pB E){s b:Int}(hf:eG E s b=true):pB ⟨E.aK,zI E.dZ b+s⟩:=by unfold eG at hf;rw[aiT,decide_eq_true_iff,l9]at hf;obtain⟨⟨⟨o1,o2⟩,o3⟩,o4⟩:=hf;obtain⟨u1,u2,_⟩:=B6 (x:=E.dZ) o3;have:=hE.lo;exact⟨hE.gx,by dsimp only;omega,o4⟩
theorem PK{E:aD}(hE:pB E){s b:Int}(hf:eG E s b=true):0<=zI E.dZ b/\E.dZ<=zI E.dZ b/\zI E.dZ b<=2048:=by have h:=KB hE hf;unfold eG at hf;rw[aiT,decide_eq_true_iff,l9]at hf;obtain⟨⟨⟨o1,o2⟩,o3⟩,o4⟩:=hf;obtain⟨u1,u2,_⟩:=B6 (x:=E.dZ) o3;have:=hE.lo;have:=hE.gx.sum;omega
theorem Qm(hn:110<=n)(a:uK w n S t h k){y:aq}(hs:y.aH=S)(hR:y.c.R=h){E:aD}(hE:pB E)(u:Int){s b:Int}(hf:eG E s b=true):
  (bd (gL n ({S.dH.T.aW k with Up:=u,E:=E}:aL).E s b) λC5=>lt ({({S.dH.T.aW k with Up:=u,E:=E}:aL)with E:=C5.1}:aL) λXu=>tr (gh n y y.c.R Xu) (λVx=>(.error Vx)) λFY=>lt ({E:=0,V:=wr .u64 C5.2.1,W:=0}:ah) λx99=>some (.ok (x99,FY)):Option (Except Int (ah×aq)))=some (.ok (⟨0,zI E.dZ b,0⟩,{y with aH:=iK S k ⟨E.aK,zI E.dZ b+s⟩})):=by
 obtain⟨f0,f1,f2⟩:=PK hE hf;rw[ak (Yf hn hE s b),aiQ hf,aP,hR,B7 (a.ahk hn hs (KB hE hf) u),aP];dsimp only;rw[sL f0 (by omega)]
theorem abe{s b:Int}(ho:tw s b=true):wr .i64 (if 129<s then 129 else s)=s/\wr .i64 (if 9<b then 9 else b)=b:=by
 obtain⟨⟨o1,o2⟩,o3⟩:=l9.1 ho;have:1<=b/\b<=8:=by rcases o3 with rfl|rfl|rfl|rfl<;>omega
 rw[aiR (by omega),aiR (by omega)];exact⟨br (by omega) (by omega),br (by omega) (by omega)⟩
theorem FT(hn:110<=n)(a:uK true n S t h k)(h4:pB (bw S k)){x:aq}(hs:x.aH=S)(ht:x.fL=t)(hR:x.c.R=h){s b:Int}(hA:x.c.A=s)(hB:x.c.B=b)(ho:tw s b=true):
  (eG (bw S k) s b=true->dw n x=some (.ok (⟨0,zI (bw S k).dZ b,0⟩,{x with aH:=iK S k ⟨(bw S k).aK,zI (bw S k).dZ b+s⟩})))/\
  (eG (bw S k) s b=false->(S.dH.T.aW k).gD<bE (bw S k).aK+eY s->dw n x=some (.error 6))/\
  (eG (bw S k) s b=false->bE (bw S k).aK+eY s<=(S.dH.T.aW k).gD->x.zg=true->dw n x=some (.ok (⟨0,0,0⟩,{x with kN:=eY s})))/\
  (eG (bw S k) s b=false->bE (bw S k).aK+eY s<=(S.dH.T.aW k).gD->x.zg=false->x.run.N=eY s->IA x.run.At x.run.N->(∀p,x.run.At<=p->p<x.run.At+x.run.N->¬bZ (bw S k).aK p)->
   dw n x=some (.ok (⟨0,32*bE (bw S k).aK,0⟩,{x with kN:=eY s,aH:=iK S k ⟨(bw S k).aK++[x.run],32*bE (bw S k).aK+s⟩}))):=by
 obtain⟨u,hu⟩:=a.region hs;obtain⟨w1,w2⟩:=abe ho;obtain⟨n1,n2,n3⟩:=Cj ho;obtain⟨⟨o1,o2⟩,o3⟩:=l9.1 ho;have hq:=a.quo;have g0:=h4.gx.pos;have g1:=h4.gx.sum;have hne:pc n s b=some (eY s,true):=by rw[Uq (by omega),aiQ ho];rfl
 have GX:=PJ hn h4 s b;have hpg:=NK hn h4;have pre:∀z,(∀F:aL->aq->Option (Except Int (ah×aq)),F=(λ(jx:aL) (gR:aq)=>bd (gL n jx.E s b) λC5=>lt ({jx with E:=C5.1}:aL) λXu=>tr (gh n gR gR.c.R Xu) (λVx=>(.error Vx)) λFY=>lt ({E:=0,V:=wr .u64 C5.2.1,W:=0}:ah) λx99=>some (.ok (x99,FY)))->
   (cn ((!(EC (bw S k) s b).2)) (tc (decide ((wr .i64 (bE (bw S k).aK+eY s))<=(S.dH.T.aW k).gD)) (.error 6)<|cn (x.zg) (some (.ok (⟨0,0,0⟩,{x with kN:=eY s}))) (bd (fk n (bw S k) x.run) λzH=>lt ({({S.dH.T.aW k with Up:=u}:aL)with E:=zH}:aL) λJR=>cl ((x.run.N==eY s)==true) (fO n JR.E) default λNd=>tc ((x.run.N==eY s)&&Nd) (.error 2)<|F JR ({x with kN:=eY s}))) (F {S.dH.T.aW k with Up:=u} x)=z))->dw n x=z:=by
  intro z hz;unfold dw;rw[hA,hB,w1,w2,ak hne,tc1 (by rfl),hR,B7 (a.ae8 hs ht),B7 hu,aP];refine Eq.trans ?_ (hz _ rfl);show bd (gj n (bw S k) s b) _ =_;rw[ak GX];show cn _ (bd (cR n (bw S k)) _) _ =_;rw[ak hpg];rfl
 refine⟨λhf=>pre _ λF hF=>?_,λhf hl=>pre _ λF hF=>?_,λhf hl hk=>pre _ λF hF=>?_,λhf hl hk r1 r2 r3=>pre _ λF hF=>?_⟩
 ·unfold EC
  rw[hf,aiQ rfl,au (b:= !true) rfl,hF];exact Qm hn a hs hR h4 u hf
 ·unfold EC
  rw[hf,aiR (by simp),aU (b:= !false) rfl,br (by omega) (by omega),tc0 (by simp;omega)]
 ·unfold EC
  rw[hf,aiR (by simp),aU (b:= !false) rfl,br (by omega) (by omega),tc1 (by simp;omega),aU hk]
 ·have hm:=Jo h4 r2 r3
  have e:(⟨x.run.At,x.run.N⟩:Rn)=x.run:=rfl;rw[e]at hm;have hs2:bE ((bw S k).aK++[x.run])=bE (bw S k).aK+eY s:=by rw[oL, ← e,wu,r1]
  have hu4:zI (32*bE (bw S k).aK) b=32*bE (bw S k).aK:=by unfold zI;rcases o3 with rfl|rfl|rfl|rfl<;>omega
  have hf2:eG ⟨(bw S k).aK++[x.run],32*bE (bw S k).aK⟩ s b=true:=by unfold eG;rw[ho,hs2];dsimp only;rw[hu4];simp;omega
  unfold EC;rw[hf,aiR (by simp),aU (b:= !false) rfl,br (by omega) (by omega),tc1 (by simp;omega),au hk,ak (Zb hn h4 x.run),aP,rY (by rw[r1];simp) (Jn hn hm),tc1 (by rw[r1];simp),hF];have:=Qm hn a (y:={x with kN:=eY s}) hs hR hm u hf2;dsimp only at this;rw[hu4]at this;exact this
def L6(S:ae)(k:Nat)(s b:Int):Int:=if eG (bw S k) s b=true then 0 else if bE (bw S k).aK+eY s<=(S.dH.T.aW k).gD then eY s else 0
theorem P8:∃i,Hq 2=some (2,i,dw):=⟨_,rfl⟩
theorem Ur(hn:110<=n)(a:uK true n S t h k)(h4:pB (bw S k)){c:aC}(hd:c.Do=2)(hR:c.R=h){s b:Int}(hA:c.A=s)(hB:c.B=b)(ho:tw s b=true):
  bJ n S t c=some (L6 S k s b):=by
 obtain⟨i,hi⟩:=P8;obtain⟨a1,a2,a3,_⟩:=FT hn a h4 (x:=jg S t c aB true) rfl rfl hR hA hB ho;unfold bJ;rw[aP,aU (by rw[hd];rfl)];show bd (bO n (jg S t c aB true)) _ =_;unfold L6;cases hf:eG (bw S k) s b with
 |true=>rw[ak (by rw[uH a (x:=jg S t c aB true) rfl rfl hd hi,B7 (a1 hf)])];rw[hd,aiQ rfl];rfl
 |false=>
  rw[aiR (by simp)];by_cases hq:bE (bw S k).aK+eY s<=(S.dH.T.aW k).gD
  ·rw[ak (by rw[uH a (x:=jg S t c aB true) rfl rfl hd hi,B7 (a3 hf hq rfl)])]
   rw[hd,aiQ hq];rfl
  ·rw[ak (by rw[uH a (x:=jg S t c aB true) rfl rfl hd hi,aeA (a2 hf (by omega))])]
   rw[hd,aiR hq];rfl
theorem P9(hn:110<=n)(a:uK true n S t h k)(h4:pB (bw S k)){c:aC}(hd:c.Do=2)(hR:c.R=h){s b:Int}(hA:c.A=s)(hB:c.B=b)(ho:tw s b=true)(hf:eG (bw S k) s b=true):
  cq n S t c aB=some (iK S k ⟨(bw S k).aK,zI (bw S k).dZ b+s⟩,⟨0,zI (bw S k).dZ b,0⟩,[]):=by
 obtain⟨i,hi⟩:=P8;obtain⟨a1,_⟩:=FT hn a h4 (x:=jg S t c aB false) rfl rfl hR hA hB ho;unfold cq;rw[aP];show bd (bO n (jg S t c aB false)) _ =_;rw[ak (by rw[uH a (x:=jg S t c aB false) rfl rfl hd hi,B7 (a1 hf)])];rfl
theorem acZ(hn:110<=n)(a:uK true n S t h k)(h4:pB (bw S k)){c:aC}(hd:c.Do=2)(hR:c.R=h){s b:Int}(hA:c.A=s)(hB:c.B=b)(ho:tw s b=true)(hf:eG (bw S k) s b=false)(hq:(S.dH.T.aW k).gD<bE (bw S k).aK+eY s):
  cq n S t c aB=some (S,⟨6,0,0⟩,[]):=by
 obtain⟨i,hi⟩:=P8;obtain⟨_,a2,_⟩:=FT hn a h4 (x:=jg S t c aB false) rfl rfl hR hA hB ho;unfold cq;rw[aP];show bd (bO n (jg S t c aB false)) _ =_;rw[ak (by rw[uH a (x:=jg S t c aB false) rfl rfl hd hi,aeA (a2 hf hq)])];rfl
theorem VD(hn:110<=n)(a:uK true n S t h k)(h4:pB (bw S k)){c:aC}(hd:c.Do=2)(hR:c.R=h){s b:Int}(hA:c.A=s)(hB:c.B=b)(ho:tw s b=true)(hf:eG (bw S k) s b=false)(hq:bE (bw S k).aK+eY s<=(S.dH.T.aW k).gD){r:Rn}(r1:r.N=eY s)(r2:IA r.At r.N)(r3:∀p,r.At<=p->p<r.At+r.N->¬bZ (bw S k).aK p):
  cq n S t c r=some (iK S k ⟨(bw S k).aK++[r],32*bE (bw S k).aK+s⟩,⟨0,32*bE (bw S k).aK,0⟩,[]):=by
 obtain⟨i,hi⟩:=P8;obtain⟨_,_,_,a4⟩:=FT hn a h4 (x:=jg S t c r false) rfl rfl hR hA hB ho;unfold cq;rw[aP];show bd (bO n (jg S t c r false)) _ =_;rw[ak (by rw[uH a (x:=jg S t c r false) rfl rfl hd hi,B7 (a4 hf hq rfl r1 r2 r3)])];rfl
theorem Ue{c:aC}(a:uK w n S t h k)(hd:c.Do=2)(hR:c.R=h):cv n S c=some ([],2):=by obtain⟨u,hu⟩:=a.get;unfold cv;rw[hR,ak hu,au (by rfl),aU (by rw[hd];rfl)]
theorem ac7(hn:110<=n)(a:uK true n S t h k)(h4:pB (bw S k)){c:aC}(hd:c.Do=2)(hR:c.R=h){s b:Int}(hA:c.A=s)(hB:c.B=b)(ho:tw s b=true):
  fY n S t c=some (if eG (bw S k) s b=true then 0 else if bE (bw S k).aK+eY s<=(S.dH.T.aW k).gD then 0 else 6):=by
 obtain⟨n1,n2,n3⟩:=Cj ho;unfold fY;rw[ak (Ur hn a h4 hd hR hA hB ho)];unfold L6;cases hf:eG (bw S k) s b with
 |true=>rw[aiQ rfl,aiQ rfl,au (by simp),ak (P9 hn a h4 hd hR hA hB ho hf)];rfl
 |false=>
  have hff:¬(false=true):=by simp
  rw[aiR hff,aiR hff];by_cases hq:bE (bw S k).aK+eY s<=(S.dH.T.aW k).gD
  ·rw[aiQ hq,aiQ hq,aU (by simp;omega)]
  ·rw[aiR hq,aiR hq,au (by simp),ak (acZ hn a h4 hd hR hA hB ho hf (by omega))];rfl
theorem Qf{c:aC}(a:uK w n S t h k)(h4:pB (bw S k))(hd:c.Do=3\/(c.Do=4/\w=true))(hR:c.R=h)(hA:0<=c.A/\c.A<4294967296)(hB:1<=c.B/\c.B<=8):
  fY n S t c=some (if c.A+c.B<=(bw S k).dZ then 0 else 9):=by
 unfold fY;rw[ak (Co (by omega)),au (by simp),ak (ac0 a h4 hd hR hA hB)];rfl
end
end Go.Proofs.Z
