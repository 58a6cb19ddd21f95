/- Part 15 of what a proof leans on; pruned and shortened by a program out of longer texts. -/
import Derived.Test.YtgdmofhmmhcmjaaGreatDoorQ14
namespace Go.Proofs.Z
open Go Go.Bw
abbrev Rn:=au
structure pG(l:List Rn):Prop where
 vg:∀y∈l,0<=y.At/\1<=y.N/\y.At+y.N<=64
 pw:l.Pairwise λy z=>y.At+y.N<z.At
def bZ(l:List Rn)(p:Int):Prop:=∃y∈l,y.At<=p/\p<y.At+y.N
def HW(at_ k:Int):Prop:=1<=k/\0<=at_/\at_+k<=64
def Rs(x:Int):Prop:= -9223372036854775808<=x/\x<=9223372036854775807
theorem pG.nil:pG []:=⟨by simp, .nil⟩
theorem L3:∀{l:List Rn} {lo:Int},pG l->(∀y∈l,lo<=y.At)->lo<=65->(l.length:Int)*2<=65-lo
 |[],lo,_,_,h=>by simp;omega
 |y::r,lo,h,hl,_ =>by obtain⟨h1,h2⟩:=List.pairwise_cons.1 h.pw;have hy:=h.vg y (by simp);have hy':=hl y (by simp);have:=L3 (l:=r) (lo:=y.At+y.N+1) ⟨λz hz=>h.vg z (by simp[hz]),h2⟩ (λz hz=>by have:=h1 z hz;omega) (by omega);simp only[List.length_cons];omega
theorem pG.len{l:List Rn}(h:pG l):l.length<=32:=by have:=L3 (lo:=0) h (λy hy=>(h.vg y hy).1) (by omega);omega
theorem pG.two{l:List Rn}(h:pG l){y z:Rn}(hy:y∈l)(hz:z∈l):y=z\/y.At+y.N<z.At\/z.At+z.N<y.At:=by
 have:=h.pw;clear h
 induction l with
 |nil=>simp at hy
 |cons x r ih=>
  obtain⟨h1,h2⟩:=List.pairwise_cons.1 this;rcases List.mem_cons.1 hy with rfl|hy'<;>rcases List.mem_cons.1 hz with rfl|hz'
  ·exact .inl rfl
  ·exact .inr (.inl (h1 z hz'))
  ·exact .inr (.inr (h1 y hy'))
  ·exact ih hy' hz' h2
theorem jb(p:Int):¬bZ [] p:=by simp[bZ]
theorem eB{y:Rn}{r:List Rn}{p:Int}:bZ (y::r) p↔(y.At<=p/\p<y.At+y.N)\/bZ r p:=by simp[bZ]
theorem jK{l r:List Rn}{p:Int}:bZ (l++r) p↔bZ l p\/bZ r p:=by simp[bZ,or_and_right,exists_or]
theorem TF{l:List Rn}(h:pG l){p:Int}(hp:bZ l p):0<=p/\p<64:=by obtain⟨y,hy,h1,h2⟩:=hp;have:=h.vg y hy;omega
theorem pG.RJ{l:List Rn}(h:pG l){at_ k:Int}(hk:1<=k)(hm:∀p,at_<=p->p<at_+k->bZ l p):∃y∈l,y.At<=at_/\at_+k<=y.At+y.N:=by
 obtain⟨y,hy,h1,h2⟩:=hm at_ (by omega) (by omega);refine⟨y,hy,h1,?_⟩;refine Int.not_lt.1 λ_=>?_;obtain⟨z,hz,h3,h4⟩:=hm (y.At+y.N) (by omega) (by omega);rcases h.two hy hz with rfl|h5|h5
 ·omega
 ·omega
 ·have:=h.vg z hz;omega
theorem Km:∀{l m:List Rn},pG l->pG m->(∀p,bZ l p↔bZ m p)->l=m
 |[],[],_,_,_ =>rfl
 |[],z::m,_,hm,h=>by have:=hm.vg z (by simp);exact absurd ((h z.At).2 (eB.2 (.inl ⟨by omega,by omega⟩))) (jb _)
 |y::l,[],hl,_,h=>by have:=hl.vg y (by simp);exact absurd ((h y.At).1 (eB.2 (.inl ⟨by omega,by omega⟩))) (jb _)
 |y::l,z::m,hl,hm,h=>by
  obtain⟨a1,a2⟩:=List.pairwise_cons.1 hl.pw;obtain⟨b1,b2⟩:=List.pairwise_cons.1 hm.pw;have hy:=hl.vg y (by simp);have hz:=hm.vg z (by simp);have f1:∀p,bZ l p->y.At+y.N<p:=λp ⟨q,hq,h1,h2⟩=>by have:=a1 q hq;omega
  have f2:∀p,bZ m p->z.At+z.N<p:=λp ⟨q,hq,h1,h2⟩=>by have:=b1 q hq;omega
  have g1:∀p,y.At<=p->p<y.At+y.N->(z.At<=p/\p<z.At+z.N)\/bZ m p:=λp h1 h2=>eB.1 ((h p).1 (eB.2 (.inl ⟨h1,h2⟩)));have g2:∀p,z.At<=p->p<z.At+z.N->(y.At<=p/\p<y.At+y.N)\/bZ l p:=λp h1 h2=>eB.1 ((h p).2 (eB.2 (.inl ⟨h1,h2⟩)));have e1:y.At=z.At:=by
   rcases g1 y.At (by omega) (by omega)with c|c<;>rcases g2 z.At (by omega) (by omega)with d|d
   ·omega
   ·have:=f1 _ d;omega
   ·have:=f2 _ c;omega
   ·have:=f1 _ d;have:=f2 _ c;omega
  have e2:y.N=z.N:=by
   refine Int.le_antisymm (Int.not_lt.1 λhlt=>?_) (Int.not_lt.1 λhlt=>?_)
   ·rcases g1 (z.At+z.N) (by omega) (by omega)with c|c
    ·omega
    ·have:=f2 _ c;omega
   ·rcases g2 (y.At+y.N) (by omega) (by omega)with c|c
    ·omega
    ·have:=f1 _ c;omega
  have e:y=z:=by cases y;cases z;simp_all
  subst e;congr 1;refine Km ⟨λq hq=>hl.vg q (by simp[hq]),a2⟩ ⟨λq hq=>hm.vg q (by simp[hq]),b2⟩ λp=>⟨λhp=>?_,λhp=>?_⟩
  ·rcases eB.1 ((h p).1 (eB.2 (.inr hp)))with c|c
   ·have:=f1 _ hp;omega
   ·exact c
  ·rcases eB.1 ((h p).2 (eB.2 (.inr hp)))with c|c
   ·have:=f2 _ hp;omega
   ·exact c
theorem Va{n:Nat}{l:List Rn}(hl:l.length<=100)(hn:110<=n):∃xs,iT n l=some xs/\xs.map Prod.snd=l:=by
 unfold iT;have key:∀(m x:Nat),x<=l.length->l.length-x<m->∃xs,iu (λIW (iE:Int)=>cn (decide (iE<(l.length:Int))) (gu (dm iE l.length)<|lt ((l.getD (Int.toNat iE) default):au) λgB=>yl (iE,gB)<|IW (wr .i64 (iE+1))) (some [])) m (x:Int)=some xs/\xs.map Prod.snd=l.drop x:=by
  intro m
  induction m with
  |zero=>intro x _ h;omega
  |succ m ih=>
   intro x hx hm;simp only[iu];by_cases hc:x<l.length
   ·rw[aX (by simpa using hc),bR (jd (by omega) (by omega)),aZ,bD (by omega) (by omega)]
    obtain⟨xs,h1,h2⟩:=ih (x+1) (by omega) (by omega);have e:((x:Int)+1)=((x+1:Nat):Int):=by omega
    rw[e,h1];refine⟨_,rfl,?_⟩;rw[List.map_cons,h2,List.drop_eq_getElem_cons hc,aif,List.getD,aik hc];rfl
   ·rw[av (by simpa using hc)]
    exact⟨[],rfl,by rw[List.drop_eq_nil_of_le (by omega)];rfl⟩
 obtain⟨xs,h1,h2⟩:=key n 0 (by omega) (by omega);exact⟨xs,h1,by simpa using h2⟩
theorem Pf(n:Nat)(r:bg):oF n r=some r.l:=rfl
theorem Nh{n:Nat}{at_ k:Int}(ha:Rs at_)(hk:Rs k):∃b,mB n ⟨at_,k⟩=some b/\(b=true↔HW at_ k):=by
 obtain⟨a1,a2⟩:=ha;obtain⟨k1,k2⟩:=hk;refine⟨_,rfl,?_⟩;show((decide (1<=k)&&decide (0<=at_))&&decide (at_<=wr .i64 (64-k)))=true↔_;unfold HW;by_cases h:1<=k
 ·rw[bD (by omega) (by omega)];simp;omega
 ·simp[h]
theorem Dt{n:Nat}{y:Rn}(h:0<=y.At/\1<=y.N/\y.At+y.N<=64):bE n y=some (y.At+y.N):=by unfold bE;rw[bD (by omega) (by omega)]
def OS(y x:Rn):Prop:=y.At<=x.At/\x.At+x.N<=y.At+y.N
instance(y x:Rn):Decidable (OS y x):=by unfold OS;infer_instance
theorem T6{n:Nat}{y x:Rn}(hy:0<=y.At/\1<=y.N/\y.At+y.N<=64)(hx:HW x.At x.N):lP n y x=some (decide (OS y x)):=by
 unfold lP HW at *;rw[zk (Dt (by omega)),zk (Dt hy)];congr 1;unfold OS;by_cases he:qF x y=true
 ·have:x.At=y.At/\x.N=y.N:=by simpa[qF]using he
  simp[he,this.1,this.2]
 ·by_cases h1:y.At<=x.At
  ·simp[he,h1]
  ·simp[he,h1]
theorem Lq{n:Nat}(hn:110<=n){l:List Rn}(hl:pG l){x:Rn}(hx:HW x.At x.N):∃v,bK n l x=some v/\((v= -1/\∀y∈l,¬OS y x)\/∃i,∃h:i<l.length,v=(i:Int)/\OS l[i] x):=by
 unfold bK;have hlen:=hl.len;refine Qp (λ(v:Int)=>0<=v/\v<=l.length/\∀y∈l.take v.toNat,¬OS y x) (λv=>((l.length:Int)-v).toNat) (λo=>∃v,o=some v/\((v= -1/\∀y∈l,¬OS y x)\/∃i,∃h:i<l.length,v=(i:Int)/\OS l[i] x)) ?_ n 0 ⟨by omega,by omega,by simp⟩ (by omega);rintro kk v ⟨v0,v1,hv⟩ ih;obtain⟨i,rfl⟩:=Int.eq_ofNat_of_zero_le v0;by_cases hc:i<l.length
 ·have hg:l.getD (Int.toNat (i:Int)) default=l[i]:=by rw[aif,List.getD,aik hc];rfl
  rw[aX (by simpa using hc),bR (jd (by omega) (by omega)),hg,bD (by omega) (by omega)];rw[aq (show mA n l[i] x=some (decide (OS l[i] x))by unfold mA;rw[aq (T6 (hl.vg _ (List.getElem_mem hc)) hx)])];by_cases he:OS l[i] x
  ·rw[aX (by simpa using he)]
   exact⟨_,rfl, .inr ⟨i,hc,rfl,he⟩⟩
  ·rw[av (by simpa using he)]
   refine ih _ ⟨by omega,by omega,λy hy=>?_⟩ (by omega);have e:((i:Int)+1).toNat=i+1:=by omega
   rw[e,ail hc]at hy;rcases List.mem_append.1 hy with h|h
   ·exact hv y (by simpa using h)
   ·rw[List.mem_singleton.1 h];exact he
 ·rw[av (by simpa using hc)]
  refine⟨-1,rfl, .inl ⟨rfl,λy hy=>hv y ?_⟩⟩;rw[List.take_of_length_le (by omega)];exact hy
theorem Qr{n:Nat}{l:List Rn}{x:Rn}:ep n l x=bK n l x:=rfl
theorem OR{y x:Rn}(h:OS y x)(hx:HW x.At x.N){l:List Rn}(hy:y∈l):∀p,x.At<=p->p<x.At+x.N->bZ l p:=λp h1 h2=>⟨y,hy,by unfold OS at h;omega,by unfold OS at h;omega⟩
theorem abS{n:Nat}(hn:110<=n){r:bg}(hr:pG r.l){p:Int}(hp:Rs p):∃b,gQ n r p=some b/\(b=true↔bZ r.l p):=by
 unfold gQ;rw[aZ];obtain⟨b,hb,hb'⟩:=Nh (n:=n) hp (show Rs 1 from⟨by omega,by omega⟩);rw[aq hb];cases b with
 |false=>refine⟨false,rfl,⟨λh=>(by cases h),λhm=>?_⟩⟩;have:=TF hr hm;exact hb'.2 ⟨by omega,by omega,by omega⟩
 |true=>
  have ho:=hb'.1 rfl;obtain⟨v,h1,h2⟩:=Lq hn hr (x:=⟨p,1⟩) ho;have h3:cI n r.l ⟨p,1⟩=some (decide (0<=v)):=by unfold cI;rw[Qr,aq h1]
  rw[rK (g:=(true==true)) rfl h3];refine⟨_,rfl,?_⟩;rcases h2 with⟨rfl,h2⟩|⟨i,hi,rfl,h2⟩
  ·simp
   rintro⟨y,hy,h4,h5⟩;exact h2 y hy ⟨h4,by show p+1<=_;omega⟩
  ·simp
   exact OR h2 ho (List.getElem_mem hi) p (by show p<=p;omega) (by show p<p+1;omega)
def NB(k:Int)(y:Rn):Bool:=decide (1<=k)&&decide (k<=y.N)
def Gw(k:Int)(l:List Rn):Int×Bool:=match l.find? (NB k)with|some y=>(y.At,true)|none=>(0,false)
theorem O8{n:Nat}(hn:110<=n){r:bg}(hr:pG r.l)(k:Int):oG n r k=some (Gw k r.l):=by
 unfold oG;rw[aq (Pf n r)];obtain⟨xs,h1,h2⟩:=Va (n:=n) (l:=r.l) (by have:=hr.len;omega) hn;rw[aq h1, ← h2];clear h1 h2 hr
 induction xs with
 |nil=>rfl
 |cons e xs ih=>
  show cn (NB k e.2) (some (e.2.At,true)) _ =_;unfold Gw;rw[List.map_cons,List.find?_cons];cases hf:NB k e.2 with
  |true=>rfl
  |false=>exact ih
def HY(l:List Rn)(a k:Int):Prop:=HW a k/\∀p,a<=p->p<a+k->bZ l p
theorem Yv{l:List Rn}(hl:pG l){k:Int}:(Gw k l=(0,false)/\∀a,¬HY l a k)\/∃v,Gw k l=(v,true)/\0<=v/\HY l v k/\∀a,a<v->¬HY l a k:=by
 unfold Gw;cases hf:l.find? (NB k)with
 |none=>refine .inl ⟨rfl,λa ⟨⟨o1,o2,o3⟩,h⟩=>?_⟩;obtain⟨y,hy,h1,h2⟩:=hl.RJ o1 h;have:=List.find?_eq_none.1 hf y hy;refine this ?_;simp only[NB,aid,decide_eq_true_eq];omega
 |some y=>
  obtain⟨hp,us,bs,e,hno⟩:=List.find?_eq_some_iff_append.1 hf;have hy:y∈l:=by rw[e];simp
  have Wb:=hl.vg y hy;simp only[NB,aid,decide_eq_true_eq]at hp;refine .inr ⟨y.At,rfl,by omega,⟨⟨by omega,by omega,by omega⟩,λp h1 h2=>⟨y,hy,h1,by omega⟩⟩,λa ha ⟨⟨o1,o2,o3⟩,h⟩=>?_⟩;obtain⟨z,hz,h1,h2⟩:=hl.RJ o1 h;have hzy:z∈us:=by
   rw[e]at hz;rcases List.mem_append.1 hz with hz|hz
   ·exact hz
   ·rcases List.mem_cons.1 hz with rfl|hz
    ·omega
    ·have Qt:=hl.pw
     rw[e]at Qt;have:=(List.pairwise_cons.1 (List.pairwise_append.1 Qt).2.1).1 z hz;omega
  have:=hno z hzy;simp only[NB,Bool.not_eq_true',Bool.and_eq_false_iff,decide_eq_false_iff_not]at this;omega
theorem QN{n:Nat}{a b c:List Rn}(ha:a.length<=100)(hb:b.length<=100)(hc:c.length<=100):eR n a b c=some (a++b++c):=by
 unfold eR;have e1:wr .i64 (0+(a.length:Int))=a.length:=by rw[bD (by omega) (by omega)];omega
 have e2:wr .i64 ((a.length:Int)+b.length)=(a.length:Int)+b.length:=bD (by omega) (by omega);have e3:wr .i64 ((a.length:Int)+b.length+c.length)=(a.length:Int)+b.length+c.length:=bD (by omega) (by omega);rw[e1,e2,e3,av (by simp),av (by simp;omega),av (by simp;omega)];have hg:dL n ((a.length:Int)+b.length+c.length)=some ():=by
  unfold dL;simp only[aZ];rw[av (by simp;omega),bD (by omega) (by omega)];by_cases h0:0<(a.length:Int)+b.length+c.length
  ·rw[aX (by simp;omega),bR]
   simp only[J9,decide_eq_true_eq];omega
  ·rw[av (by simp;omega)]
 rw[aq hg,bR (nQ (by simp;omega) (by simp;omega)),aZ,bR (nQ (by simp;omega) (by simp;omega)),aZ,bR (nQ (by simp;omega) (by simp;omega)),aZ];rfl
theorem pG.cut{l:List Rn}(h:pG l){i:Nat}(hi:i<l.length){left:List Rn}{at_ k:Int}(hk:1<=k)(hin:l[i].At<=at_/\at_+k<=l[i].At+l[i].N)
  (hl:pG left)(hm:∀p,bZ left p↔(l[i].At<=p/\p<l[i].At+l[i].N)/\¬(at_<=p/\p<at_+k))(hb:∀y∈left,l[i].At<=y.At/\y.At+y.N<=l[i].At+l[i].N):
  pG (l.take i++left++l.drop (i+1))/\∀p,bZ (l.take i++left++l.drop (i+1)) p↔bZ l p/\¬(at_<=p/\p<at_+k):=by
 have e:l=l.take i++l[i]::l.drop (i+1):=by rw[← List.drop_eq_getElem_cons hi,List.take_append_drop]
 generalize hy:l[i]=y at *;have Qt:=h.pw;rw[e]at Qt;obtain⟨q1,q2,q3⟩:=List.pairwise_append.1 Qt;obtain⟨q4,q5⟩:=List.pairwise_cons.1 q2;have Z7:y∈l:=by rw[e];simp
 have Wb:=h.vg y Z7;refine⟨⟨?_,?_⟩,λp=>?_⟩
 ·intro z hz
  rcases List.mem_append.1 hz with hz|hz
  ·rcases List.mem_append.1 hz with hz|hz
   ·exact h.vg z (List.mem_of_mem_take hz)
   ·exact hl.vg z hz
  ·exact h.vg z (List.mem_of_mem_drop hz)
 ·refine List.pairwise_append.2 ⟨List.pairwise_append.2 ⟨q1,hl.pw,λa ha b hb'=>?_⟩,q5,λa ha b hb'=>?_⟩
  ·have:=q3 a ha y (by simp);have:=hb b hb';omega
  ·rcases List.mem_append.1 ha with ha|ha
   ·exact q3 a ha b (by simp[hb'])
   ·have:=q4 b hb';have:=hb a ha;omega
 ·have hp:bZ l p↔bZ (l.take i) p\/(y.At<=p/\p<y.At+y.N)\/bZ (l.drop (i+1)) p:=by
   conv=>lhs;rw[e,jK,eB]
  rw[jK,jK,hm p,hp];have t1:bZ (l.take i) p->p<y.At:=λ⟨z,hz,h1,h2⟩=>by have:=q3 z hz y (by simp);omega
  have t2:bZ (l.drop (i+1)) p->y.At+y.N<p:=λ⟨z,hz,h1,h2⟩=>by have:=q4 z hz;omega
  constructor
  ·rintro((c|⟨c1,c2⟩)|c)
   ·have:=t1 c;exact⟨.inl c,by omega⟩
   ·exact⟨.inr (.inl c1),c2⟩
   ·have:=t2 c;exact⟨.inr (.inr c),by omega⟩
  ·rintro⟨c|c|c,d⟩
   ·exact .inl (.inl c)
   ·exact .inl (.inr ⟨c,d⟩)
   ·exact .inr c
theorem WK{n:Nat}(hn:110<=n){r:bg}(hr:pG r.l){at_ k:Int}(ha:Rs at_)(hk:Rs k):
  ∃r' g,jI n r at_ k=some (r',g)/\(g=true↔HY r.l at_ k)/\(g=false->r'=r)/\(g=true->pG r'.l/\∀p,bZ r'.l p↔bZ r.l p/\¬(at_<=p/\p<at_+k)):=by
 unfold jI;rw[aZ];obtain⟨b,hb,hb'⟩:=Nh (n:=n) ha hk;rw[aq hb];cases b with
 |false=>refine⟨r,false,rfl,⟨λh=>(by cases h),λh=>hb'.2 h.1⟩,λ_ =>rfl,λh=>(by cases h)⟩
 |true=>
  have ho:=hb'.1 rfl;obtain⟨o1,o2,o3⟩:=ho;obtain⟨v,h1,h2⟩:=Lq hn hr (x:=⟨at_,k⟩) ⟨o1,o2,o3⟩;rw[av (b:= !true) rfl,aq h1];rcases h2 with⟨rfl,h2⟩|⟨i,hi,rfl,h2⟩
  ·refine⟨r,false,rfl,⟨λh=>(by cases h),λh=>?_⟩,λ_ =>rfl,λh=>(by cases h)⟩
   obtain⟨y,hy,h3,h4⟩:=hr.RJ o1 h.2;exact absurd ⟨h3,h4⟩ (h2 y hy)
  ·have hlen:=hr.len
   have Wb:=hr.vg _ (List.getElem_mem hi);have hg:r.l.getD (Int.toNat (i:Int)) default=r.l[i]:=by rw[aif,List.getD,aik hi];rfl
   have hin:r.l[i].At<=at_/\at_+k<=r.l[i].At+r.l[i].N:=h2;have e1:wr .i64 ((i:Int)+1)=((i+1:Nat):Int):=by rw[bD (by omega) (by omega)];omega
   rw[av (by simp),bR (jd (by omega) (by omega)),aZ,hg];have fin:∀left:List Rn,left.length<=2->pG left->(∀p,bZ left p↔(r.l[i].At<=p/\p<r.l[i].At+r.l[i].N)/\¬(at_<=p/\p<at_+k))->(∀y∈left,r.l[i].At<=y.At/\y.At+y.N<=r.l[i].At+r.l[i].N)->
     ∃r' g,(gu (dm (i:Int) (r.l.length+1))<|gu (dm (wr .i64 ((i:Int)+1)) (r.l.length+1))<|bd (eR n (r.l.take (Int.toNat (i:Int))) left (r.l.drop (Int.toNat (wr .i64 ((i:Int)+1))))) λJi=>lt ({l:=Ji}:bg) λEX=>some (EX,true))=some (r',g)/\
      (g=true↔HY r.l at_ k)/\(g=false->r'=r)/\(g=true->pG r'.l/\∀p,bZ r'.l p↔bZ r.l p/\¬(at_<=p/\p<at_+k)):=λleft c1 c2 c3 c4=>by
    rw[e1,bR (jd (by omega) (by omega)),bR (jd (by omega) (by omega)),aif,aif,aq (QN (by rw[List.length_take];omega) (by omega) (by rw[List.length_drop];omega))];exact⟨_,true,rfl,⟨λ_ =>⟨⟨o1,o2,o3⟩,OR (x:=⟨at_,k⟩) h2 ⟨o1,o2,o3⟩ (List.getElem_mem hi)⟩,λ_ =>rfl⟩,λh=>(by cases h),λ_ =>hr.cut hi o1 hin c2 c3 c4⟩
   generalize hy:r.l[i]=y at *;dsimp only[lt];have ex:bE n (⟨at_,k⟩:Rn)=some (at_+k):=Dt (y:=⟨at_,k⟩) ⟨o2,o1,o3⟩;have ey:bE n y=some (y.At+y.N):=Dt Wb;by_cases c1:y.At<at_
   ·rw[aX (by simpa using c1),bD (x:=at_-y.At) (by omega) (by omega),bR (nQ (by simp) (by simp)),aq ex,aq ey]
    by_cases c2:at_+k<y.At+y.N
    ·rw[aX (by simpa using c2),aq ex,aq ey,aq ex,bD (x:=y.At+y.N-(at_+k)) (by omega) (by omega),bR (nQ (by simp) (by simp))]
     refine fin [⟨y.At,at_-y.At⟩,⟨at_+k,y.At+y.N-(at_+k)⟩] (by simp) ⟨?_,?_⟩ (λp=>?_) ?_
     ·intro z hz
      simp only[List.nil_append,List.cons_append,List.mem_cons,List.not_mem_nil,or_false]at hz;rcases hz with rfl|rfl<;>dsimp only<;>omega
     ·refine List.pairwise_cons.2 ⟨λz hz=>?_,List.pairwise_singleton _ _⟩
      obtain rfl:=List.mem_singleton.1 hz;dsimp only;omega
     ·simp only[List.nil_append,List.cons_append,eB,jb,or_false];omega
     ·intro z hz
      simp only[List.nil_append,List.cons_append,List.mem_cons,List.not_mem_nil,or_false]at hz;rcases hz with rfl|rfl<;>dsimp only<;>omega
    ·rw[av (by simpa using c2)]
     refine fin [⟨y.At,at_-y.At⟩] (by simp) ⟨?_,List.pairwise_singleton _ _⟩ (λp=>?_) ?_
     ·intro z hz
      obtain rfl:=List.mem_singleton.1 hz;dsimp only;omega
     ·simp only[List.nil_append,eB,jb,or_false];omega
     ·intro z hz
      obtain rfl:=List.mem_singleton.1 hz;dsimp only;omega
   ·rw[av (by simpa using c1),aq ex,aq ey]
    by_cases c2:at_+k<y.At+y.N
    ·rw[aX (by simpa using c2),aq ex,aq ey,aq ex,bD (x:=y.At+y.N-(at_+k)) (by omega) (by omega),bR (nQ (by simp) (by simp))]
     refine fin [⟨at_+k,y.At+y.N-(at_+k)⟩] (by simp) ⟨?_,List.pairwise_singleton _ _⟩ (λp=>?_) ?_
     ·intro z hz
      obtain rfl:=List.mem_singleton.1 hz;dsimp only;omega
     ·simp only[List.nil_append,eB,jb,or_false];omega
     ·intro z hz
      obtain rfl:=List.mem_singleton.1 hz;dsimp only;omega
    ·rw[av (by simpa using c2)]
     refine fin _ (by simp) pG.nil (λp=>?_) (by simp);simp only[jb,false_iff];omega
end Go.Proofs.Z
namespace Go.Proofs.Z
open Go Go.Bw
structure GI(l:List Rn)(at_ k:Int)(pre rest:List Rn)(put:Bool)(out:List Rn)(x:Rn):Prop where
 e:l=pre++rest
 dF:∀p,bZ pre p->¬(at_<=p/\p<at_+k)
 lo:x.At<=at_/\(x.At=at_\/∃z∈pre,z.At+z.N=at_)
 hi:at_+k<=x.At+x.N/\(x.At+x.N=at_+k\/∃z∈pre,z.At+z.N=x.At+x.N)
 vg:0<=x.At/\1<=x.N/\x.At+x.N<=64
 off:put=false->pG (out++[x])/\(∀z∈out,z∈pre)/\∀p,bZ (out++[x]) p↔bZ pre p\/(at_<=p/\p<at_+k)
 on:put=true->pG out/\(∀z∈out,z∈pre\/z=x)/\(∃z∈pre,x.At+x.N<z.At)/\∀p,bZ out p↔bZ pre p\/(at_<=p/\p<at_+k)
theorem qu{l:List Rn}{y:Rn}(h:pG l)(hy:0<=y.At/\1<=y.N/\y.At+y.N<=64)(ha:∀z∈l,z.At+z.N<y.At):pG (l++[y]):=
 ⟨λz hz=>by
  rcases List.mem_append.1 hz with hz|hz
  ·exact h.vg z hz
  ·rw[List.mem_singleton.1 hz];exact hy,
  List.pairwise_append.2 ⟨h.pw,List.pairwise_singleton _ _,λa ha' b hb=>by rw[List.mem_singleton.1 hb];exact ha a ha'⟩⟩
theorem pG.init{l:List Rn}{y:Rn}(h:pG (l++[y])):pG l:=⟨λz hz=>h.vg z (by simp[hz]),(List.pairwise_append.1 h.pw).1⟩
theorem pG.Nl{l:List Rn}{y:Rn}(h:pG (l++[y])):∀z∈l,z.At+z.N<y.At:=λz hz=>(List.pairwise_append.1 h.pw).2.2 z hz y (by simp)
theorem eU{y:Rn}{p:Int}:bZ [y] p↔y.At<=p/\p<y.At+y.N:=by rw[eB];simp[bZ]
def afn(r':bg)(g:Bool)(l:List Rn)(r:bg)(at_ k:Int):Prop:=(g=true↔∀p,at_<=p->p<at_+k->¬bZ l p)/\(g=false->r'=r)/\(g=true->pG r'.l/\∀p,bZ r'.l p↔bZ l p\/(at_<=p/\p<at_+k))
theorem Yj{n:Nat}{r:bg}{l:List Rn}(hl:pG l){at_ k:Int}(ho:HW at_ k):∀(xs:List (Int×Rn)) (pre:List Rn) (put:Bool) (out:List Rn) (x:Rn),GI l at_ k pre (xs.map Prod.snd) put out x->
  ∃r' g,TQ (λ(e56:Int×au) XS (dR:Bool) (jo:(List au)) (gi:au)=>lt (e56.1:Int) λ_=>lt (e56.2:au) λpb=>bd (bE n pb) λpH=>cn (decide (pH<gi.At)) (gu (gZ jo.length 1 16)<|lt (jo++([pb]):List au) λFv=>XS dR Fv gi) (bd (bE n gi) λJk=>cn (decide (Jk<pb.At)) (lt (λ(RA:Bool) (PO:(List au))=>gu (gZ PO.length 1 16)<|lt (PO++([pb]):List au) λPN=>XS RA PN gi) λj67=>cn ((!dR)) (gu (gZ jo.length 1 16)<|lt (jo++([gi]):List au) λHJ=>j67 true HJ) (j67 dR jo)) (bd (bE n pb) λEX=>cn ((EX==gi.At)) (lt ({At:=pb.At,N:=wr .i64 (pb.N+gi.N)}:au) λx77=>XS dR jo x77) (bd (bE n gi) λWr=>cn ((pb.At==Wr)) (lt ({gi with N:=wr .i64 (gi.N+pb.N)}:au) λWq=>XS dR jo Wq) (some (r,false)))))) (λ(dR:Bool) (jo:(List au)) (gi:au)=>cn ((!dR)) (gu (gZ jo.length 1 16)<|lt (jo++([gi]):List au) λMm=>lt ({l:=Mm}:bg) λx87=>some (x87,true)) (lt ({l:=jo}:bg) λx93=>some (x93,true))) xs put out x=some (r',g)/\afn r' g l r at_ k:=by
 intro xs
 induction xs with
 |nil=>
  intro pre put out x h;have e:l=pre:=by have:=h.e;simpa using this
  subst e;show∃r' g,cn (!put) (gu (gZ out.length 1 16)<|some ((⟨out++[x]⟩:bg),true)) (some ((⟨out⟩:bg),true))=some (r',g)/\_;have hfree:∀p,at_<=p->p<at_+k->¬bZ l p:=λp h1 h2 hm=>h.dF p hm ⟨h1,h2⟩;cases put with
  |false=>obtain⟨c1,c2,c3⟩:=h.off rfl;have:=c1.init.len;rw[aX (b:= !false) rfl,bR (nQ (by omega) (by omega))];exact⟨_,true,rfl,⟨λ_ =>hfree,λ_ =>rfl⟩,λh=>(by cases h),λ_ =>⟨c1,c3⟩⟩
  |true=>obtain⟨c1,c2,c3,c4⟩:=h.on rfl;rw[av (b:= !true) rfl];exact⟨_,true,rfl,⟨λ_ =>hfree,λ_ =>rfl⟩,λh=>(by cases h),λ_ =>⟨c1,c4⟩⟩
 |cons q xs ih=>
  obtain⟨qi,y⟩:=q;intro pre put out x h;have he:l=(pre++[y])++xs.map Prod.snd:=by rw[h.e];simp
  have Z7:y∈l:=by rw[h.e];simp
  have Wb:=hl.vg y Z7;have hpre:∀z∈pre,z.At+z.N<y.At:=λz hz=>by have Qt:=hl.pw;rw[he]at Qt;exact(List.pairwise_append.1 (List.pairwise_append.1 Qt).1).2.2 z hz y (by simp)
  have hzr:∀z∈pre,0<=z.At/\1<=z.N/\z.At+z.N<=64:=λz hz=>hl.vg z (by rw[h.e];simp[hz]);obtain⟨o1,o2,o3⟩:=ho;obtain⟨lo1,lo2⟩:=h.lo;obtain⟨hi1,hi2⟩:=h.hi;have hxr:=h.vg;have ey:bE n y=some (y.At+y.N):=Dt Wb;have ex:bE n x=some (x.At+x.N):=Dt hxr;have hfree:(∀p,y.At<=p->p<y.At+y.N->¬(at_<=p/\p<at_+k))->∀p,bZ (pre++[y]) p->¬(at_<=p/\p<at_+k):=λhy p hp=>by
   rcases jK.1 hp with hp|hp
   ·exact h.dF p hp
   ·obtain⟨h1,h2⟩:=eU.1 hp;exact hy p h1 h2
  have Gk:∀{z},z∈pre->z∈pre++[y]:=λhz=>by simp[hz]
  have hlo:x.At=at_\/∃z∈pre++[y],z.At+z.N=at_:=lo2.imp id λ⟨z,hz,e⟩=>⟨z,Gk hz,e⟩;have hhi:x.At+x.N=at_+k\/∃z∈pre++[y],z.At+z.N=x.At+x.N:=hi2.imp id λ⟨z,hz,e⟩=>⟨z,Gk hz,e⟩;have hmy:∀p,bZ (pre++[y]) p↔bZ pre p\/(y.At<=p/\p<y.At+y.N):=λp=>by rw[jK,eU]
  have hput:put=true->x.At+x.N<y.At:=λhp=>by obtain⟨z,hz,h1⟩:=(h.on hp).2.2.1;have:=hpre z hz;have:=hzr z hz;omega
  simp only[TQ];dsimp only[lt];rw[aq ey];by_cases c1:y.At+y.N<x.At
  ·have hf:put=false:=by
    cases put with
    |false=>rfl
    |true=>have:=hput rfl;omega
   subst hf;obtain⟨d1,d2,d3⟩:=h.off rfl;have hlen:=d1.init.len;rw[aX (by simpa using c1),bR (nQ (by omega) (by omega))];refine ih (pre++[y]) false (out++[y]) x ⟨he,hfree λp h1 h2=>by omega,⟨lo1,hlo⟩,⟨hi1,hhi⟩,hxr,λ_ =>⟨?_,?_,λp=>?_⟩,λh=>by cases h⟩
   ·refine qu (qu d1.init Wb λz hz=>hpre z (d2 z hz)) hxr λz hz=>?_
    rcases List.mem_append.1 hz with hz|hz
    ·exact d1.Nl z hz
    ·rw[List.mem_singleton.1 hz];exact c1
   ·intro z hz
    rcases List.mem_append.1 hz with hz|hz
    ·exact Gk (d2 z hz)
    ·rw[List.mem_singleton.1 hz];simp
   ·have:=d3 p
    rw[jK,eU]at this ⊢;rw[jK,eU,hmy];constructor
    ·rintro((c|c)|c)
     ·rcases this.1 (.inl c)with c|c
      ·exact .inl (.inl c)
      ·exact .inr c
     ·exact .inl (.inr c)
     ·rcases this.1 (.inr c)with c|c
      ·exact .inl (.inl c)
      ·exact .inr c
    ·rintro((c|c)|c)
     ·rcases this.2 (.inl c)with c|c
      ·exact .inl (.inl c)
      ·exact .inr c
     ·exact .inl (.inr c)
     ·rcases this.2 (.inr c)with c|c
      ·exact .inl (.inl c)
      ·exact .inr c
  rw[av (by simpa using c1),aq ex];by_cases c2:x.At+x.N<y.At
  ·rw[aX (by simpa using c2)]
   have hfr:=hfree λp h1 h2=>by omega
   cases put with
   |false=>
    obtain⟨d1,d2,d3⟩:=h.off rfl;have hlen:=d1.init.len;have T9:=d1.len;rw[aX (b:= !false) rfl,bR (nQ (by omega) (by omega)),bR (nQ (by omega) (by omega))];refine ih (pre++[y]) true (out++[x]++[y]) x ⟨he,hfr,⟨lo1,hlo⟩,⟨hi1,hhi⟩,hxr,λh=>(by cases h),λ_ =>⟨?_,?_,⟨y,by simp,c2⟩,λp=>?_⟩⟩
    ·refine qu d1 Wb λz hz=>?_
     rcases List.mem_append.1 hz with hz|hz
     ·exact hpre z (d2 z hz)
     ·rw[List.mem_singleton.1 hz];exact c2
    ·intro z hz
     simp only[List.mem_append,List.mem_singleton]at hz;rcases hz with(hz|hz)|hz
     ·exact .inl (Gk (d2 z hz))
     ·exact .inr hz
     ·exact .inl (by simp[hz])
    ·rw[jK,eU,d3 p,hmy]
     constructor
     ·rintro((c|c)|c)
      ·exact .inl (.inl c)
      ·exact .inr c
      ·exact .inl (.inr c)
     ·rintro((c|c)|c)
      ·exact .inl (.inl c)
      ·exact .inr c
      ·exact .inl (.inr c)
   |true=>
    obtain⟨d1,d2,d3,d4⟩:=h.on rfl;have hlen:=d1.len;rw[av (b:= !true) rfl,bR (nQ (by omega) (by omega))];refine ih (pre++[y]) true (out++[y]) x ⟨he,hfr,⟨lo1,hlo⟩,⟨hi1,hhi⟩,hxr,λh=>(by cases h),λ_ =>⟨?_,?_,⟨y,by simp,c2⟩,λp=>?_⟩⟩
    ·refine qu d1 Wb λz hz=>?_
     rcases d2 z hz with hz|rfl
     ·exact hpre z hz
     ·exact c2
    ·intro z hz
     rcases List.mem_append.1 hz with hz|hz
     ·exact(d2 z hz).imp Gk id
     ·exact .inl (by simp[List.mem_singleton.1 hz])
    ·rw[jK,eU,d4 p,hmy]
     constructor
     ·rintro((c|c)|c)
      ·exact .inl (.inl c)
      ·exact .inr c
      ·exact .inl (.inr c)
     ·rintro((c|c)|c)
      ·exact .inl (.inl c)
      ·exact .inr c
      ·exact .inl (.inr c)
  have hf:put=false:=by
   cases put with
   |false=>rfl
   |true=>have:=hput rfl;omega
  subst hf;obtain⟨d1,d2,d3⟩:=h.off rfl;rw[av (by simpa using c2),aq ey];by_cases c3:y.At+y.N=x.At
  ·rw[aX (by simpa using c3),bD (by omega) (by omega)]
   have hat:x.At=at_:=by
    rcases lo2 with e|⟨z,hz,e⟩
    ·exact e
    ·have:=hpre z hz;omega
   refine ih (pre++[y]) false out ⟨y.At,y.N+x.N⟩ ⟨he,hfree λp h1 h2=>by omega,⟨by dsimp only;omega, .inr ⟨y,by simp,by omega⟩⟩,⟨by dsimp only;omega,?_⟩,by dsimp only;omega,λ_ =>⟨?_,λz hz=>Gk (d2 z hz),λp=>?_⟩,λh=>by cases h⟩
   ·rcases hhi with e|⟨z,hz,e⟩
    ·exact .inl (by dsimp only;omega)
    ·exact .inr ⟨z,hz,by dsimp only;omega⟩
   ·exact qu d1.init (by dsimp only;omega) λz hz=>hpre z (d2 z hz)
   ·have:=d3 p
    rw[jK,eU]at this ⊢;rw[hmy];dsimp only;constructor
    ·rintro(c|c)
     ·rcases this.1 (.inl c)with c|c
      ·exact .inl (.inl c)
      ·exact .inr c
     ·by_cases hp:p<x.At
      ·exact .inl (.inr (by omega))
      ·rcases this.1 (.inr (by omega))with c|c
       ·exact .inl (.inl c)
       ·exact .inr c
    ·rintro((c|c)|c)
     ·rcases this.2 (.inl c)with c|c
      ·exact .inl c
      ·exact .inr (by omega)
     ·exact .inr (by omega)
     ·exact .inr (by omega)
  rw[av (by simpa using c3),aq ex];by_cases c4:y.At=x.At+x.N
  ·rw[aX (by simpa using c4),bD (by omega) (by omega)]
   refine ih (pre++[y]) false out ⟨x.At,x.N+y.N⟩ ⟨he,hfree λp h1 h2=>by omega,⟨lo1,hlo⟩,⟨by dsimp only;omega, .inr ⟨y,by simp,by dsimp only;omega⟩⟩,by dsimp only;omega,λ_ =>⟨?_,λz hz=>Gk (d2 z hz),λp=>?_⟩,λh=>by cases h⟩
   ·exact qu d1.init (by dsimp only;omega) λz hz=>d1.Nl z hz
   ·have:=d3 p
    rw[jK,eU]at this ⊢;rw[hmy];dsimp only;constructor
    ·rintro(c|c)
     ·rcases this.1 (.inl c)with c|c
      ·exact .inl (.inl c)
      ·exact .inr c
     ·by_cases hp:p<x.At+x.N
      ·rcases this.1 (.inr (by omega))with c|c
       ·exact .inl (.inl c)
       ·exact .inr c
      ·exact .inl (.inr (by omega))
    ·rintro((c|c)|c)
     ·rcases this.2 (.inl c)with c|c
      ·exact .inl c
      ·exact .inr (by omega)
     ·exact .inr (by omega)
     ·exact .inr (by omega)
  rw[av (by simpa using c4)];refine⟨r,false,rfl,⟨λh=>(by cases h),λhno=>?_⟩,λ_ =>rfl,λh=>(by cases h)⟩;have g1:y.At<at_+k:=by
   rcases hi2 with e|⟨z,hz,e⟩
   ·omega
   ·have:=hpre z hz;omega
  have g2:at_<y.At+y.N:=by
   rcases lo2 with e|⟨z,hz,e⟩
   ·omega
   ·have:=hpre z hz;omega
  by_cases g3:at_<=y.At
  ·exact absurd ⟨y,Z7,by omega,by omega⟩ (hno y.At g3 g1)
  ·exact absurd ⟨y,Z7,by omega,by omega⟩ (hno at_ (by omega) (by omega))
theorem O0{n:Nat}(hn:110<=n){r:bg}(hr:pG r.l){at_ k:Int}(ha:Rs at_)(hk:Rs k):
  ∃r' g,lK n r at_ k=some (r',g)/\(g=true↔HW at_ k/\∀p,at_<=p->p<at_+k->¬bZ r.l p)/\(g=false->r'=r)/\(g=true->pG r'.l/\∀p,bZ r'.l p↔bZ r.l p\/(at_<=p/\p<at_+k)):=by
 unfold lK;rw[aZ];obtain⟨b,hb,hb'⟩:=Nh (n:=n) ha hk;rw[aq hb];cases b with
 |false=>exact⟨r,false,rfl,⟨λh=>(by cases h),λh=>hb'.2 h.1⟩,λ_ =>rfl,λh=>(by cases h)⟩
 |true=>
  have ho:=hb'.1 rfl;obtain⟨o1,o2,o3⟩:=ho;rw[av (b:= !true) rfl,aq (Pf n r)];obtain⟨xs,h1,h2⟩:=Va (n:=n) (l:=r.l) (by have:=hr.len;omega) hn;rw[aq h1];obtain⟨r',g,h3,h4,h5,h6⟩:=Yj (n:=n) (r:=r) hr (at_:=at_) (k:=k) ⟨o1,o2,o3⟩ xs [] false [] ⟨at_,k⟩ ⟨by simpa using h2.symm,λp hp=>absurd hp (jb p),⟨Int.le_refl _, .inl rfl⟩,⟨Int.le_refl _, .inl rfl⟩,⟨o2,o1,o3⟩,
   λ_ =>⟨qu pG.nil ⟨o2,o1,o3⟩ (by simp),by simp,λp=>by rw[List.nil_append,eU];simp[jb]⟩,λh=>by cases h⟩
  exact⟨r',g,h3,⟨λhg=>⟨⟨o1,o2,o3⟩,h4.1 hg⟩,λhg=>h4.2 hg.2⟩,h5,h6⟩
end Go.Proofs.Z
namespace Go.Proofs.Z
open Go Go.Bw
theorem Xs{k:IntKind}{a b:Nat}(ha:a<2^IntKind.up k)(hb:b<2^IntKind.up k):ZL k a b=((a|||b:Nat):Int):=by unfold ZL;rw[BitVec.toNat_or,vA (Fk k ha),vA (Fk k hb)];exact RC (Nat.or_lt_two_pow ha hb)
def ov(y:Rn)(i:Int):Int:=if i<=y.At then 0 else if y.At+y.N<=i then y.N else i-y.At
def wN(l:List Rn)(i:Int):Int:=(l.map λy=>ov y i).sum
theorem vQ(y:Rn)(l:List Rn)(i:Int):wN (y::l) i=ov y i+wN l i:=rfl
theorem sM:∀{l:List Rn},pG l->wN l 0=0
 |[],_ =>rfl
 |y::r,h=>by have hy:=h.vg y (by simp);rw[vQ,sM ⟨λz hz=>h.vg z (by simp[hz]),(List.pairwise_cons.1 h.pw).2⟩];unfold ov;rw[aia hy.1];rfl
theorem sN:∀{l:List Rn},pG l->∀i:Int,(bZ l i->wN l (i+1)=wN l i+1)/\(¬bZ l i->wN l (i+1)=wN l i)
 |[],_,i=>⟨λh=>absurd h (jb i),λ_ =>rfl⟩
 |y::r,h,i=>by
  obtain⟨h1,h2⟩:=List.pairwise_cons.1 h.pw;have hy:=h.vg y (by simp);obtain⟨i1,i2⟩:=sN (l:=r) ⟨λz hz=>h.vg z (by simp[hz]),h2⟩ i;rw[vQ,vQ,eB];by_cases c:y.At<=i/\i<y.At+y.N
  ·have hn:¬bZ r i:=λ⟨z,hz,a,b⟩=>by have:=h1 z hz;omega
   rw[i2 hn];refine⟨λ_ =>?_,λhh=>absurd (.inl c) hh⟩;unfold ov;rw[aib (by omega)];split<;>split<;>omega
  ·have e:ov y (i+1)=ov y i:=by
    unfold ov
    (repeat' split)<;>omega
   rw[e];refine⟨λhh=>?_,λhh=>?_⟩
   ·rw[i1 (hh.resolve_left c)];omega
   ·rw[i2 λhm=>hh (.inr hm)]
def bx(l:List Rn):Int:=(l.map λy=>y.N).sum
theorem gE(y:Rn)(l:List Rn):bx (y::l)=y.N+bx l:=rfl
theorem uZ:∀{l:List Rn},pG l->wN l 64=bx l
 |[],_ =>rfl
 |y::r,h=>by have hy:=h.vg y (by simp);rw[vQ,gE,uZ ⟨λz hz=>h.vg z (by simp[hz]),(List.pairwise_cons.1 h.pw).2⟩];unfold ov;rw[aib (by omega),aia hy.2.2]
theorem KU:∀{l:List Rn} {lo:Int},pG l->(∀y∈l,lo<=y.At)->lo<=65->0<=bx l/\bx l<=65-lo
 |[],lo,_,_,h=>by simp[bx];omega
 |y::r,lo,h,hl,_ =>by obtain⟨h1,h2⟩:=List.pairwise_cons.1 h.pw;have hy:=h.vg y (by simp);have hy':=hl y (by simp);have:=KU (l:=r) (lo:=y.At+y.N+1) ⟨λz hz=>h.vg z (by simp[hz]),h2⟩ (λz hz=>by have:=h1 z hz;omega) (by omega);rw[gE];omega
theorem LU{n:Nat}:∀(xs:List (Int×Rn)) (s:Int),0<=s->s<=1000000-bx (xs.map Prod.snd)->(∀e∈xs,1<=e.2.N)->
  xh (λ(e35:Int×au) XT (eM:Int)=>lt (e35.1:Int) λ_=>lt (e35.2:au) λcC=>lt (wr .i64 (eM+cC.N):Int) λjx=>XT jx) (λ(eM:Int)=>some eM) xs s=some (s+bx (xs.map Prod.snd))
 |[],s,_,_,_ =>by show some s=_;simp[bx]
 |e::xs,s,h0,h1,h2=>by
  have:=h2 e (by simp);have hs:0<=bx (xs.map Prod.snd):=by
   clear h1 h0;have h3:∀e∈xs,1<=e.2.N:=λe he=>h2 e (by simp[he]);clear h2 this
   induction xs with
   |nil=>simp[bx]
   |cons a xs ih=>have:=h3 a (by simp);have:=ih λe he=>h3 e (by simp[he]);rw[List.map_cons,gE];omega
  rw[List.map_cons,gE]at h1 ⊢;show xh _ _ xs (wr .i64 (s+e.2.N))=_;rw[bD (by omega) (by omega),LU (n:=n) xs (s+e.2.N) (by omega) (by omega) (λe he=>h2 e (by simp[he]))];congr 1;omega
end Go.Proofs.Z
namespace Go.Proofs.Z
open Go Go.Bw
theorem C6{l m x:List Rn}(hl:pG l)(hm:pG m)(hx:pG x)(h1:∀p,bZ l p↔bZ m p\/bZ x p)(h2:∀p,bZ m p->¬bZ x p):bx l=bx m+bx x:=by
 have key:∀i:Nat,wN l i=wN m i+wN x i:=by
  intro i
  induction i with
  |zero=>rw[Int.natCast_zero,sM hl,sM hm,sM hx];rfl
  |succ i ih=>
   have e:((i+1:Nat):Int)=(i:Int)+1:=by omega
   rw[e];obtain⟨a1,a2⟩:=sN hl i;obtain⟨b1,b2⟩:=sN hm i;obtain⟨c1,c2⟩:=sN hx i;by_cases c:bZ m i
   ·rw[a1 ((h1 _).2 (.inl c)),b1 c,c2 (h2 _ c),ih];omega
   ·by_cases d:bZ x i
    ·rw[a1 ((h1 _).2 (.inr d)),b2 c,c1 d,ih];omega
    ·rw[a2 (λh=>((h1 _).1 h).elim c d),b2 c,c2 d,ih]
 have:=key 64;rw[show((64:Nat):Int)=64 from rfl,uZ hl,uZ hm,uZ hx]at this;exact this
theorem Cg{a k:Int}(h:HW a k):pG [(⟨a,k⟩:Rn)]:=qu (l:=[]) pG.nil (by unfold HW at h;exact⟨h.2.1,h.1,h.2.2⟩) (by simp)
theorem pW(a k:Int):bx [(⟨a,k⟩:Rn)]=k:=by simp[bx]
theorem vl:∀(k:Nat) {t:List Int},t.Nodup->(∀p∈t,0<=p/\p<(k:Int))->t.length<=k
 |0,[],_,_ =>Nat.le_refl _
 |0,x::t,_,h=>by have:=h x (by simp);omega
 |k+1,t,hn,h=>by
  by_cases hk:(k:Int)∈t
  ·have h1:=vl k (hn.erase (k:Int)) λx hx=>by
    have h2:=h x (List.mem_of_mem_erase hx);have h3:x≠k:=λe=>by subst e;exact(List.Nodup.not_mem_erase hn) hx
    omega
   rw[List.length_erase_of_mem hk]at h1;omega
  ·have h1:=vl k hn λx hx=>by
    have h2:=h x hx;have h3:x≠k:=λe=>hk (e▸hx);omega
   omega
end Go.Proofs.Z
namespace Go.Proofs.Z
open Go Go.Bw
def sW(s a:Int):Bool:=(decide (1<=s)&&decide (s<=128))&&((((a==1)||(a==2))||(a==4))||(a==8))
theorem LV{n:Nat}(hn:5<=n)(a:Int):gv n ([1,2,4,8]:List Int) a=some ((((a==1)||(a==2))||(a==4))||(a==8)):=by
 obtain⟨m,rfl⟩:∃m,n=m+5:=⟨n-5,by omega⟩;unfold gv oE;have e1:wr .i64 (0+1)=1:=by decide
 have e2:wr .i64 (1+1)=2:=by decide
 have e3:wr .i64 (2+1)=3:=by decide
 have e4:wr .i64 (3+1)=4:=by decide
 simp only[iu,e1,e2,e3,e4];by_cases h1:a=1
 ·subst h1;rfl
 by_cases h2:a=2
 ·subst h2;rfl
 by_cases h3:a=4
 ·subst h3;rfl
 by_cases h4:a=8
 ·subst h4;rfl
 have g1:(a==1)=false:=by simpa using h1
 have g2:(a==2)=false:=by simpa using h2
 have g3:(a==4)=false:=by simpa using h3
 have g4:(a==8)=false:=by simpa using h4
 simp[cn,gu,dm,bd,g1,g2,g3,g4]
theorem II{n:Nat}(hn:5<=n)(s a:Int):kQ n s a=some (sW s a):=by unfold kQ;rw[zk (LV hn a)];unfold sW;cases h:(decide (1<=s)&&decide (s<=128))<;>simp
theorem zn{x:Nat}{m:Nat}(hm:m<=3)(hx:x<2^62):zo .i64 (x:Int) ((2^m-1:Nat):Int)=((x/2^m*2^m:Nat):Int):=by
 unfold zo;have e1:(BitVec.ofInt 64 (x:Int)&&& ~~~BitVec.ofInt 64 ((2^m-1:Nat):Int)).toNat=x/2^m*2^m:=by
  refine Nat.eq_of_testBit_eq λi=>?_;have hb:(BitVec.ofInt 64 (x:Int)).toNat=x:=vA (k:= .i64) (by show x<2^64;omega);have hc:(BitVec.ofInt 64 ((2^m-1:Nat):Int)).toNat=2^m-1:=vA (k:= .i64) (by show 2^m-1<2^64;have:2^m<=2^3:=Nat.pow_le_pow_right (by decide) hm;omega);rw[BitVec.toNat_and,Nat.testBit_and,hb,Nat.testBit_mul_two_pow,Nat.testBit_div_two_pow,BitVec.testBit_toNat,BitVec.getLsbD_not, ← BitVec.testBit_toNat,hc,Nat.testBit_two_pow_sub_one];by_cases h1:m<=i
  ·have h2:¬i<m:=by omega
   rw[show i-m+m=i by omega];by_cases h3:i<64
   ·simp[h1,h2,h3]
   ·have:x.testBit i=false:=Nat.testBit_lt_two_pow (Nat.lt_of_lt_of_le hx (Nat.pow_le_pow_right (by decide) (by omega)))
    simp[h1,h2,this]
  ·have h2:i<m:=by omega
   simp[h1,h2]
 show IntKind.i64.wrap ((BitVec.ofInt 64 (x:Int)&&& ~~~BitVec.ofInt 64 ((2^m-1:Nat):Int)).toNat:Int)=_;rw[e1];have:x/2^m*2^m<=x:=Nat.div_mul_le_self _ _;exact bD (by omega) (by omega)
def Pp:Int->List Rn->List (Int×Rn)
 |_,[]=>[]
 |b,y::r=>(b,y)::Pp (b+32*y.N) r
def AF(l:List Rn):Prop:=∀y∈l,1<=y.N
theorem u6:∀{l:List Rn},AF l->0<=bx l
 |[],_ =>by simp[bx]
 |y::r,h=>by have:=h y (by simp);have:=u6 (l:=r) λz hz=>h z (by simp[hz]);rw[gE];omega
theorem I2{n:Nat}{e:aD}(hn:e.aK.length<n)(hl:e.aK.length<=1000)(hp:AF e.aK)(hs:bx e.aK<=1000):fN n e=some (Pp 0 e.aK):=by
 unfold fN;have key:∀(m i:Nat) (b:Int),i<=e.aK.length->e.aK.length-i<m->0<=b->b+32*bx (e.aK.drop i)<=100000->eV (λk39 (dZ:Int) (dK:Int)=>cn (decide (dK<(e.aK.length:Int))) (gu (dm dK e.aK.length)<|lt ((e.aK.getD (Int.toNat dK) default):au) λgi=>yl (dZ,gi)<|k39 (wr .i64 (dZ+(wr .i64 (gi.N*32)))) (wr .i64 (dK+1))) (some [])) m b (i:Int)=some (Pp b (e.aK.drop i)):=by
  intro m
  induction m with
  |zero=>intro i b _ h;omega
  |succ m ih=>
   intro i b hi hm hb hsum;simp only[eV];by_cases c:i<e.aK.length
   ·have hg:e.aK.getD (Int.toNat (i:Int)) default=e.aK[i]:=by rw[aif,List.getD,aik c];rfl
    have hy:=hp _ (List.getElem_mem c);have hd:e.aK.drop i=e.aK[i]::e.aK.drop (i+1):=List.drop_eq_getElem_cons c;rw[hd,gE]at hsum;have hr:0<=bx (e.aK.drop (i+1)):=u6 λz hz=>hp z (List.mem_of_mem_drop hz);rw[aX (by simpa using c),bR (jd (by omega) (by omega)),aZ,hg,hd];rw[bD (x:=e.aK[i].N*32) (by omega) (by omega),bD (x:=b+e.aK[i].N*32) (by omega) (by omega),bD (x:=(i:Int)+1) (by omega) (by omega)];have e1:((i:Int)+1)=((i+1:Nat):Int):=by omega
    rw[e1,ih (i+1) (b+e.aK[i].N*32) (by omega) (by omega) (by omega) (by omega)];show some ((b,e.aK[i])::Pp (b+e.aK[i].N*32) (e.aK.drop (i+1)))=some ((b,e.aK[i])::Pp (b+32*e.aK[i].N) (e.aK.drop (i+1)));rw[Int.mul_comm]
   ·rw[av (by simpa using c),List.drop_eq_nil_of_le (by omega)];rfl
 have:=key n 0 0 (by omega) (by omega) (by omega) (by rw[List.drop_zero];omega);simpa using this
theorem Fg:∀(l:List Rn) (b:Int),(Pp b l).map Prod.snd=l
 |[],_ =>rfl
 |y::r,b=>by rw[Pp,List.map_cons,Fg r]
theorem K7{n:Nat}{e:aD}(hn:e.aK.length<n)(hl:e.aK.length<=1000)(hp:AF e.aK)(hs:bx e.aK<=1000):cN n e=some (bx e.aK):=by unfold cN;rw[aq (show gw n e=some e from rfl),aq (I2 hn hl hp hs)];have h0:=u6 hp;refine(LU (n:=n) (Pp 0 e.aK) 0 (by omega) (by rw[Fg];omega) λq hq=>hp q.2 (by rw[← Fg e.aK 0];exact List.mem_map_of_mem hq)).trans ?_;rw[Fg];congr 1;omega
theorem TB{n:Nat}(hn:5<=n)(s a:Int):oW n s a=some (if sW s a then((s+31)/32,true)else(0,false)):=by
 unfold oW;rw[aq (II hn s a)];cases h:sW s a with
 |false=>rfl
 |true=>
  have hs:1<=s/\s<=128:=by
   have h1:(decide (1<=s)&&decide (s<=128))=true:=by unfold sW at h;rw[aid]at h;exact h.1
   simpa using h1
  rw[av (b:= !true) rfl,bD (x:=s+32) (by omega) (by omega),bD (x:=s+32-1) (by omega) (by omega),FQ (by omega),bD (by omega) (by omega),aia rfl];congr 3;omega
end Go.Proofs.Z
namespace Go.Proofs.Z
open Go Go.Bw
structure HE(l:List Rn):Prop where
 vg:∀y∈l,HW y.At y.N
 pw:l.Pairwise λy z=>∀p,y.At<=p->p<y.At+y.N->¬(z.At<=p/\p<z.At+z.N)
theorem HE.nil:HE []:=⟨by simp, .nil⟩
theorem yt{l:List Rn}{y:Rn}:HE (l++[y])↔HE l/\HW y.At y.N/\∀p,y.At<=p->p<y.At+y.N->¬bZ l p:=by
 constructor
 ·rintro⟨h1,h2⟩
  obtain⟨p1,p2,p3⟩:=List.pairwise_append.1 h2;exact⟨⟨λz hz=>h1 z (by simp[hz]),p1⟩,h1 y (by simp),λp q1 q2 ⟨z,hz,q3,q4⟩=>p3 z hz y (by simp) p q3 q4 ⟨q1,q2⟩⟩
 ·rintro⟨⟨h1,h2⟩,h3,h4⟩
  refine⟨λz hz=>?_,List.pairwise_append.2 ⟨h2,List.pairwise_singleton _ _,λa ha b hb p q1 q2 q3=>?_⟩⟩
  ·rcases List.mem_append.1 hz with hz|hz
   ·exact h1 z hz
   ·rw[List.mem_singleton.1 hz];exact h3
  ·rw[List.mem_singleton.1 hb]at q3
   exact h4 p q3.1 q3.2 ⟨a,ha,q1,q2⟩
theorem HE.V8{l:List Rn}(h:HE l):AF l:=λy hy=>(h.vg y hy).1
theorem oD:∀(l m:List Rn),bx (l++m)=bx l+bx m
 |[],m=>by simp[bx]
 |y::r,m=>by rw[List.cons_append,gE,gE,oD r m];omega
theorem KT{l:List Rn}(h:pG l):∀i:Nat,wN l i<=i
 |0=>by rw[Int.natCast_zero,sM h];exact Int.le_refl _
 |i+1=>by
  have:=KT h i;obtain⟨a,b⟩:=sN h i;have e:((i+1:Nat):Int)=(i:Int)+1:=by omega
  rw[e];by_cases c:bZ l i
  ·rw[a c];omega
  ·rw[b c];omega
theorem TG{n:Nat}(hn:110<=n){e:aD}(hl:e.aK.length<=80)(hr:∀y∈e.aK,Rs y.At/\Rs y.N):∃b,fO n e=some b/\(b=true↔HE e.aK/\bx e.aK<=64/\0<=e.eY/\e.eY<=32*bx e.aK):=by
 unfold fO;refine zf (λ(i:Int) (r:bg)=>0<=i/\i<=e.aK.length/\pG r.l/\HE (e.aK.take i.toNat)/\(∀p,bZ r.l p↔bZ (e.aK.take i.toNat) p)/\bx r.l=bx (e.aK.take i.toNat)) (λi _ =>((e.aK.length:Int)-i).toNat)
  (λo=>∃b,o=some b/\(b=true↔HE e.aK/\bx e.aK<=64/\0<=e.eY/\e.eY<=32*bx e.aK)) ?_ n 0 jU ⟨by omega,by omega,pG.nil,HE.nil,λp=>Iff.rfl,rfl⟩ (by omega)
 rintro kk i r ⟨i0,i1,hc,hg,hm,hs⟩ ih;obtain⟨i,rfl⟩:=Int.eq_ofNat_of_zero_le i0;rw[aif]at hg hm hs;by_cases c:i<e.aK.length
 ·have hgd:e.aK.getD (Int.toNat (i:Int)) default=e.aK[i]:=by rw[aif,List.getD,aik c];rfl
  have hy:=hr _ (List.getElem_mem c);have ht:e.aK.take (i+1)=e.aK.take i++[e.aK[i]]:=ail c;rw[aX (by simpa using c),bR (jd (by omega) (by omega)),aZ,hgd];obtain⟨r',g,g1,g2,g3,g4⟩:=O0 (n:=n) hn hc (at_:=e.aK[i].At) (k:=e.aK[i].N) hy.1 hy.2;rw[aq g1];have aff:g=true↔HE (e.aK.take (i+1)):=by rw[g2,ht,yt];exact⟨λ⟨a,b⟩=>⟨hg,a,λp q1 q2 q3=>b p q1 q2 ((hm p).2 q3)⟩,λ⟨_,a,b⟩=>⟨a,λp q1 q2 q3=>b p q1 q2 ((hm p).1 q3)⟩⟩
  cases g with
  |false=>refine⟨false,rfl,λh=>(by cases h),λ⟨h,_⟩=>?_⟩;rw[← List.take_append_drop (i+1) e.aK]at h;exact aff.2 ⟨λy hy=>h.vg y (aii _ hy),(List.pairwise_append.1 h.pw).1⟩
  |true=>
   obtain⟨c1,c2⟩:=g4 rfl;have ho:=(g2.1 rfl).1;rw[av (b:= !true) rfl,bD (by omega) (by omega)];have e1:((i:Int)+1).toNat=i+1:=by omega
   refine ih _ _ ⟨by omega,by omega,c1,by rw[e1];exact aff.1 rfl,λp=>?_,?_⟩ (by omega)
   ·rw[e1,ht,jK,eU,c2 p,hm p]
   ·rw[e1,ht,oD, ← hs]
    rw[C6 c1 hc (Cg ho) (λp=>by rw[c2 p,eU]) (λp hp hq=>(g2.1 rfl).2 p (eU.1 hq).1 (eU.1 hq).2 hp)]
 ·rw[av (by simpa using c)]
  obtain rfl:i=e.aK.length:=by omega
  rw[List.take_length]at hg hm hs;have hs2:=KU (lo:=0) hc (λy hy=>(hc.vg y hy).1) (by omega);have h64:bx r.l<=64:=by rw[← uZ hc];exact KT hc 64
  rw[zk (K7 (n:=n) (by omega) (by omega) hg.V8 (by rw[← hs];omega))];refine⟨_,rfl,?_⟩;by_cases c0:0<=e.eY
  ·have e1:(bif decide (0<=e.eY)==true then bx e.aK else default)=bx e.aK:=by simp[c0]
   rw[e1,bD (by omega) (by omega)];simp only[c0,decide_true,Bool.true_and,decide_eq_true_eq,true_and, ← hs];exact⟨λh=>⟨hg,h64,by omega⟩,λh=>by omega⟩
  ·simp[c0]
end Go.Proofs.Z
namespace Go.Proofs.Z
open Go Go.Bw
def uK(y:Rn):List Int:=(List.range (32*y.N).toNat).map λ(k:Nat)=>32*y.At+(k:Int)
def jN(l:List Rn):List Int:=l.flatMap uK
theorem s9(y:Rn):(uK y).length=(32*y.N).toNat:=by simp[uK]
theorem yH(y:Rn)(l:List Rn):jN (y::l)=uK y++jN l:=by simp[jN]
theorem AZ(l m:List Rn):jN (l++m)=jN l++jN m:=by simp[jN]
theorem GU(y:Rn):jN [y]=uK y:=by simp[jN]
theorem ta:∀{l:List Rn},AF l->((jN l).length:Int)=32*bx l
 |[],_ =>by simp[jN,bx]
 |y::r,h=>by have h1:=h y (by simp);have h2:=ta (l:=r) λz hz=>h z (by simp[hz]);rw[yH,List.length_append,s9,gE];omega
theorem FU(k:Nat)(f:Nat->Int):(List.range (k+1)).map f=(List.range k).map f++[f k]:=by rw[List.range_succ,List.map_append];rfl
structure Gx(l:List Rn):Prop where
 gd:HE l
 sum:bx l<=64
theorem TN:∀{l:List Rn},AF l->(l.length:Int)<=bx l
 |[],_ =>by simp[bx]
 |y::r,h=>by have h1:=h y (by simp);have h2:=TN (l:=r) λz hz=>h z (by simp[hz]);rw[gE,List.length_cons];omega
theorem Gx.len{l:List Rn}(h:Gx l):l.length<=64:=by have:=TN h.gd.V8;have:=h.sum;omega
theorem Gx.pos{l:List Rn}(h:Gx l):0<=bx l:=u6 h.gd.V8
theorem IM{l:List Rn}{y:Rn}{p:Int}:bZ (l++[y]) p↔bZ l p\/(y.At<=p/\p<y.At+y.N):=by rw[jK,eU]
def Ez(y:Rn):List Int:=(List.range y.N.toNat).map λ(k:Nat)=>y.At+(k:Int)
theorem Lf{y:Rn}{p:Int}:p∈Ez y↔y.At<=p/\p<y.At+y.N:=by
 unfold Ez;rw[List.mem_map];constructor
 ·rintro⟨k,hk,rfl⟩
  rw[List.mem_range]at hk;omega
 ·intro h
  exact⟨(p-y.At).toNat,by rw[List.mem_range];omega,by omega⟩
theorem Xz(y:Rn):(Ez y).Nodup:=by unfold Ez;rw[List.Nodup,List.pairwise_map];exact List.nodup_range.imp λh e=>h (by omega)
theorem KX{α:Type}{P:List α->Prop}(h0:P [])(h1:∀l y,P l->P (l++[y]))(l:List α):P l:=by
 have key:∀(r:List α),P r.reverse:=by
  intro r
  induction r with
  |nil=>exact h0
  |cons y r ih=>rw[List.reverse_cons];exact h1 _ _ ih
 have:=key l.reverse;rwa[List.reverse_reverse]at this
theorem Xm:∀(l:List Rn),HE l->∃t:List Int,t.Nodup/\(∀p,p∈t↔bZ l p)/\(t.length:Int)=bx l:=by
 intro l
 induction l using KX with
 |h0=>intro _;exact⟨[],List.nodup_nil,by simp[bZ],by simp[bx]⟩
 |h1 l y ih=>
  intro h;obtain⟨h1,h2,h3⟩:=yt.1 h;obtain⟨t,t1,t2,t3⟩:=ih h1;refine⟨t++Ez y,List.nodup_append.2 ⟨t1,Xz y,λa ha b hb e=>?_⟩,λp=>?_,?_⟩
  ·subst e
   have:=Lf.1 hb;exact h3 _ this.1 this.2 ((t2 _).1 ha)
  ·rw[List.mem_append,t2,Lf,IM]
  ·have:=h2.1
   rw[List.length_append,oD];simp only[Ez,List.length_map,List.length_range,bx,List.map_cons,List.map_nil,List.sum_cons,List.sum_nil]at *;omega
theorem Ym{l:List Rn}(h:HE l):bx l<=64:=by
 obtain⟨t,t1,t2,t3⟩:=Xm l h;have:=vl 64 t1 λp hp=>by obtain⟨y,hy,h1,h2⟩:=(t2 p).1 hp;obtain⟨a,b,c⟩:=h.vg y hy;exact⟨by omega,by omega⟩
 omega
theorem aae{l:List Rn}(h:HE l):Gx l:=⟨h,Ym h⟩
end Go.Proofs.Z
namespace Go.Proofs.Z
open Go Go.Bw
def y8(x a:Int):Int:=(x+a-1)/a*a
def al4(a:Int):Prop:=a=1\/a=2\/a=4\/a=8
theorem lW{s a:Int}:sW s a=true↔(1<=s/\s<=128)/\al4 a:=by unfold sW al4;simp[or_assoc]
theorem BD{x a:Int}(ha:al4 a):x<=y8 x a/\y8 x a<=x+a-1/\y8 x a%a=0/\∀y,x<=y->y<=y8 x a->y%a=0->y=y8 x a:=by unfold y8;rcases ha with rfl|rfl|rfl|rfl<;>exact⟨by omega,by omega,by omega,λy _ _ _ =>by omega⟩
theorem adR{n:Nat}{x a:Int}(h0:0<=x)(h1:x<=100000)(ha:al4 a):jf n x a=some (y8 x a):=by
 unfold jf y8;obtain⟨x,rfl⟩:=Int.eq_ofNat_of_zero_le h0;rcases ha with rfl|rfl|rfl|rfl
 ·have:=zn (x:=x) (m:=0) (by omega) (by omega)
  rw[bD (x:=(x:Int)+1) (by omega) (by omega),bD (x:=(x:Int)+1-1) (by omega) (by omega),show wr .i64 (1-1)=((2^0-1:Nat):Int)by decide,show(x:Int)+1-1=((x:Nat):Int)by omega,this];congr 1
 ·have:=zn (x:=x+1) (m:=1) (by omega) (by omega)
  rw[bD (x:=(x:Int)+2) (by omega) (by omega),bD (x:=(x:Int)+2-1) (by omega) (by omega),show wr .i64 (2-1)=((2^1-1:Nat):Int)by decide,show(x:Int)+2-1=((x+1:Nat):Int)by omega,this];congr 1
 ·have:=zn (x:=x+3) (m:=2) (by omega) (by omega)
  rw[bD (x:=(x:Int)+4) (by omega) (by omega),bD (x:=(x:Int)+4-1) (by omega) (by omega),show wr .i64 (4-1)=((2^2-1:Nat):Int)by decide,show(x:Int)+4-1=((x+3:Nat):Int)by omega,this];congr 1
 ·have:=zn (x:=x+7) (m:=3) (by omega) (by omega)
  rw[bD (x:=(x:Int)+8) (by omega) (by omega),bD (x:=(x:Int)+8-1) (by omega) (by omega),show wr .i64 (8-1)=((2^3-1:Nat):Int)by decide,show(x:Int)+8-1=((x+7:Nat):Int)by omega,this];congr 1
structure o7(e:aD):Prop where
 gx:Gx e.aK
 lo:0<=e.eY
 hi:e.eY<=32*bx e.aK
def eJ(e:aD)(s a:Int):Bool:=sW s a&&decide (y8 e.eY a+s<=32*bx e.aK)
def Eb(e:aD)(s a:Int):Int×Bool:=if eJ e s a=true then(y8 e.eY a,true)else(0,false)
theorem M7{n:Nat}(hn:110<=n){e:aD}(h:o7 e):cN n e=some (bx e.aK):=by have:=h.gx.len;have:=h.gx.sum;exact K7 (by omega) (by omega) h.gx.gd.V8 (by omega)
theorem O6{n:Nat}(hn:110<=n){e:aD}(h:o7 e)(s a:Int):gh n e s a=some (Eb e s a):=by
 unfold gh;have h1:=h.lo;have h2:=h.hi;have h3:=h.gx.sum;have h4:=h.gx.pos;rw[aq (II (by omega) s a)];unfold Eb eJ;cases ho:sW s a with
 |false=>rfl
 |true=>
  obtain⟨⟨o1,o2⟩,o3⟩:=lW.1 ho;obtain⟨u1,u2,_⟩:=BD (x:=e.eY) o3;have ha:a<=8:=by rcases o3 with rfl|rfl|rfl|rfl<;>omega
  rw[av (b:= !true) rfl,aq (adR h1 (by omega) o3),aq (M7 hn h),bD (by omega) (by omega),bD (by omega) (by omega)];by_cases c:bx e.aK*32<y8 e.eY a+s
  ·rw[aX (by simpa using c),aib (by simp;omega)]
  ·rw[av (by simpa using c),aia (by simp;omega)]
theorem Xl{n:Nat}(hn:110<=n){e:aD}(h:o7 e)(s a:Int):gG n e s a=some (if eJ e s a=true then(⟨e.aK,y8 e.eY a+s⟩,y8 e.eY a,true)else(e,0,false)):=by
 unfold gG;rw[aq (O6 hn h s a)];unfold Eb;have h1:=h.lo;have h2:=h.hi;have h3:=h.gx.sum;have h4:=h.gx.pos;cases hf:eJ e s a with
 |false=>rfl
 |true=>have Uf:=hf;unfold eJ at hf;rw[aid,decide_eq_true_iff,lW]at hf;obtain⟨⟨⟨o1,o2⟩,o3⟩,o4⟩:=hf;obtain⟨u1,u2,_⟩:=BD (x:=e.eY) o3;rw[aia rfl,aia rfl,aX rfl,aZ];dsimp only;rw[bD (by omega) (by omega)]
def plV(l:List Rn)(b at_:Int):Int×Bool:=if b<=at_/\at_<b+32*bx l then((jN l).getD (at_-b).toNat 0,true)else(0,false)
theorem Gq{α:Type}(l m:List α)(i:Nat)(d:α)(h:i<l.length):(l++m).getD i d=l.getD i d:=by rw[List.getD,List.getD,List.getElem?_append_left h]
theorem Gp{α:Type}(l m:List α)(i:Nat)(d:α)(h:l.length<=i):(l++m).getD i d=m.getD (i-l.length) d:=by rw[List.getD,List.getD,List.getElem?_append_right h]
theorem GR(y:Rn){i:Nat}(h:i<(32*y.N).toNat):(uK y).getD i 0=32*y.At+i:=by unfold uK;rw[List.getD,List.getElem?_map,List.getElem?_range h];rfl
theorem Tj{at_:Int}(ha:Rs at_):∀(l:List Rn) (b:Int),(∀y∈l,HW y.At y.N)->0<=b->b+32*bx l<=100000->
  xh (λ(Pg:Int×au) k28 (u27:Unit)=>lt (Pg.1:Int) λcC=>lt (Pg.2:au) λfP=>cn ((decide (cC<=at_)&&decide (at_<(wr .i64 (cC+(wr .i64 (fP.N*32))))))) (lt (wr .i64 ((wr .i64 ((wr .i64 (fP.At*32))+at_))-cC):Int) λdR=>some (dR,true)) (k28 ())) (λ(u27:Unit)=>some (0,false)) (Pp b l) ()=some (plV l b at_):=by
 intro l
 induction l with
 |nil=>intro b _ _ _;show some ((0:Int),false)=_;unfold plV;rw[aib];simp only[bx,List.map_nil,List.sum_nil];omega
 |cons y r ih=>
  intro b h0 h1 h2;have hy:=h0 y (by simp);have hr:AF r:=λz hz=>(h0 z (by simp[hz])).1;have hr0:=u6 hr;have hbl:=s9 y;rw[gE]at h2;obtain⟨y1,y2,y3⟩:=hy;rw[Pp];simp only[xh,aZ];rw[bD (x:=y.N*32) (by omega) (by omega),bD (x:=b+y.N*32) (by omega) (by omega)];by_cases c:b<=at_/\at_<b+y.N*32
  ·rw[aX (by simpa using c),bD (x:=y.At*32) (by omega) (by omega),bD (x:=y.At*32+at_) (by omega) (by omega),bD (by omega) (by omega)]
   unfold plV;rw[aia (by rw[gE];omega),yH,Gq _ _ _ _ (by rw[s9];omega),GR y (by omega)];congr 2;omega
  ·rw[av (by simpa using c)]
   refine(ih (b+32*y.N) (λz hz=>h0 z (by simp[hz])) (by omega) (by omega)).trans ?_;unfold plV;by_cases d:b+32*y.N<=at_/\at_<b+32*y.N+32*bx r
   ·rw[aia d,aia (by rw[gE];omega),yH,Gp _ _ _ _ (by rw[s9];omega),s9]
    congr 3;omega
   ·rw[aib d,aib (by rw[gE];omega)]
theorem Tk{n:Nat}(hn:110<=n){e:aD}(h:o7 e){at_:Int}(ha:Rs at_):jF n e at_=some (plV e.aK 0 at_):=by unfold jF;have:=h.gx.len;have:=h.gx.sum;rw[aq (show gw n e=some e from rfl),aq (I2 (by omega) (by omega) h.gx.gd.V8 (by omega))];exact Tj ha e.aK 0 h.gx.gd.vg (by omega) (by omega)
theorem Yg{n:Nat}(hn:110<=n){e:aD}(h:o7 e)(r:Rn):fe n e r=some ⟨e.aK++[r],32*bx e.aK⟩:=by unfold fe;have:=h.gx.len;have:=h.gx.sum;have:=h.gx.pos;rw[bR (nQ (by omega) (by omega)),aZ,aq (M7 hn h),aZ,bD (by omega) (by omega),Int.mul_comm]
end Go.Proofs.Z
namespace Go.Proofs.Z
open Go Go.Bw
theorem F5{y:Rn}{q:Int}:q∈uK y↔32*y.At<=q/\q<32*y.At+32*y.N:=by
 unfold uK;rw[List.mem_map];constructor
 ·rintro⟨k,hk,rfl⟩
  rw[List.mem_range]at hk;omega
 ·intro h
  exact⟨(q-32*y.At).toNat,by rw[List.mem_range];omega,by omega⟩
theorem F6{l:List Rn}{q:Int}:q∈jN l↔bZ l (q/32):=by unfold jN bZ;rw[List.mem_flatMap];refine exists_congr λ_=>and_congr_right λ_ =>?_;rw[F5];omega
theorem QV:∀(l:List Rn),HE l->(jN l).Nodup:=by
 intro l
 induction l using KX with
 |h0=>intro _;exact List.nodup_nil
 |h1 l y ih=>
  intro h;obtain⟨h1,h2,h3⟩:=yt.1 h;rw[AZ,GU,List.nodup_append];refine⟨ih h1,?_,λa ha b hb e=>?_⟩
  ·unfold uK
   rw[List.Nodup,List.pairwise_map];exact List.nodup_range.imp λh e=>h (by omega)
  ·subst e
   have:=F5.1 hb;exact h3 (a/32) (by omega) (by omega) (F6.1 ha)
def dI(l:List Rn)(a:Int):Int:=(jN l).getD a.toNat 0
theorem NP{l:List Rn}(h:HE l){a b:Int}(ha:0<=a/\a<32*bx l)(hb:0<=b/\b<32*bx l)(e:dI l a=dI l b):a=b:=by
 have hl:=ta h.V8;have h1:a.toNat<(jN l).length:=by omega
 have h2:b.toNat<(jN l).length:=by omega
 unfold dI at e;rw[List.getD,List.getD,aik h1,aik h2]at e;have:=(List.getElem_inj (QV l h)).1 e;omega
theorem NQ{l m:List Rn}(h:HE l){a:Int}(ha:0<=a/\a<32*bx l):dI (l++m) a=dI l a:=by have hl:=ta h.V8;unfold dI;rw[AZ,Gq _ _ _ _ (by omega)]
theorem IN{n:Nat}(hn:110<=n){e:aD}(h:o7 e):fO n e=some true:=by
 have:=h.gx.len;obtain⟨b,h1,h2⟩:=TG (n:=n) hn (e:=e) (by omega) (λy hy=>by
  obtain⟨a,b,c⟩:=h.gx.gd.vg y hy;exact⟨⟨by omega,by omega⟩,⟨by omega,by omega⟩⟩)
 rw[h1,h2.2 ⟨h.gx.gd,h.gx.sum,h.lo,h.hi⟩]
theorem IP{e:aD}(h:o7 e){a k:Int}(ho:HW a k)(hf:∀p,a<=p->p<a+k->¬bZ e.aK p):o7 ⟨e.aK++[⟨a,k⟩],32*bx e.aK⟩:=by have hg:HE (e.aK++[⟨a,k⟩]):=yt.2 ⟨h.gx.gd,ho,hf⟩;have:=h.gx.pos;obtain⟨o1,o2,o3⟩:=ho;refine⟨aae hg,by dsimp only;omega,?_⟩;dsimp only;rw[oD,pW];omega
end Go.Proofs.Z
namespace Go.Proofs.Z
open Go Go.Bw
theorem C4{α:Type}(f:Nat->α)(i:Nat):iB f i (f i)=f:=by
 funext j;unfold iB;split
 ·next h=>rw[h]
 ·rfl
def N4(M:ai):Prop:=∀i:Nat,i<32->(M.bp i).EE=0/\(M.bp i).n=0
theorem Oy{n:Nat}(hn:1<=n){l:cj}(h:l.n=0)(t:Int):kM n l t=some (-1):=by obtain⟨m,rfl⟩:∃m,n=m+1:=⟨n-1,by omega⟩;unfold kM;rw[h];rfl
theorem Il{n:Nat}(hn:1<=n){l:cj}(h:l.n=0)(t:Int):jc n l t=some l:=by unfold jc;rw[aq (Oy hn h t)];rfl
theorem Ng{n:Nat}{i t:Int}(h0:0<=i)(h1:i<32)(t0:0<=t)(t1:t<8):vn n i t=some true:=by unfold vn;simp[h0,h1,t0,t1]
def uE(M:ai)(k:Nat)(t:Int):ai:=⟨iB M.bp k {(M.bp k)with EE:=t+1}⟩
theorem adU{n:Nat}(hn:1<=n){M:ai}(hM:N4 M){k:Nat}(hk:k<32){t:Int}(t0:0<=t)(t1:t<8):
  oS n M k t=some (uE M k t,true):=by
 obtain⟨a,b⟩:=hM k hk;unfold oS;rw[aq (Ng (by omega) (by omega) t0 t1),av (b:= !true) rfl,bR (jd (by omega) (by omega)),aZ,aif,aq (Oy hn b t)];rw[av (by rw[a,bD (x:=0) (by omega) (by omega),bD (x:=t+1) (by omega) (by omega)];simp;omega),aX (by rw[a,b];rfl),aq (Il hn b t),aZ,aZ,aZ];refine congrArg (λm=>some (m,true)) ?_;unfold uE;refine congrArg ai.mk ?_;dsimp only;rw[MK,C4,bD (x:=t+1) (by omega) (by omega),agB (by omega) (by omega)]
def tS(M:ai)(t:Int)(c:Nat):ai:=⟨λj=>if j<c/\(M.bp j).EE=t+1 then{(M.bp j)with EE:=0}else M.bp j⟩
theorem Un(M:ai)(t:Int)(c:Nat):(tS M t c).bp c=M.bp c:=by unfold tS;dsimp only;rw[aib (by omega)]
theorem Yh(M:ai)(t:Int)(c j:Nat):((tS M t c).bp j).n=(M.bp j).n:=by unfold tS;dsimp only;split<;>rfl
theorem abX{n:Nat}{M:ai}{c:Nat}(hc:c<32){t:Int}(t0:0<=t)(t1:t<8)(hb:0<=(M.bp c).EE/\(M.bp c).EE<=255):
  nt n (tS M t c) c t=some (tS M t (c+1)):=by
 unfold nt;rw[aZ,aq (Ng (by omega) (by omega) t0 t1),aif,Un,bR (by rw[jd (by omega) (by omega)];rfl),bD (x:=(M.bp c).EE) (by omega) (by omega),bD (x:=t+1) (by omega) (by omega)];by_cases h:(M.bp c).EE=t+1
 ·rw[aX (by simpa using h),bR (jd (by omega) (by omega)),aZ]
  show some _ =some _;refine congrArg some ?_;unfold tS;refine congrArg ai.mk ?_;funext j;unfold iB;dsimp only;by_cases hj:j=c
  ·subst hj
   rw[aia rfl,aia ⟨by omega,h⟩]
  ·rw[aib hj]
   by_cases hl:j<c
   ·by_cases hh:(M.bp j).EE=t+1
    ·rw[aia ⟨hl,hh⟩,aia ⟨by omega,hh⟩]
    ·rw[aib (λq=>hh q.2),aib (λq=>hh q.2)]
   ·rw[aib (by omega),aib (by omega)]
 ·rw[av (by simpa using h)]
  show some _ =some _;refine congrArg some ?_;unfold tS;refine congrArg ai.mk ?_;funext j;by_cases hj:j=c
  ·subst hj
   rw[aib (by omega),aib (λq=>h q.2)]
  ·by_cases hl:j<c
   ·by_cases hh:(M.bp j).EE=t+1
    ·rw[aia ⟨hl,hh⟩,aia ⟨by omega,hh⟩]
    ·rw[aib (λq=>hh q.2),aib (λq=>hh q.2)]
   ·rw[aib (by omega),aib (by omega)]
theorem Uo{n:Nat}(hn:40<=n){M:ai}{t:Int}(t0:0<=t)(t1:t<8)(hb:∀j,j<32->(M.bp j).n=0/\0<=(M.bp j).EE/\(M.bp j).EE<=255):
  cU n M t=some (tS M t 32):=by
 unfold cU;refine zf (λ(i:Int) (m:ai)=>∃c:Nat,i=(c:Int)/\c<=32/\m=tS M t c) (λi _ =>(32-i).toNat) (λo=>o=some (tS M t 32)) ?_ n 0 M ⟨0,rfl,by omega,?_⟩ (by omega)
 ·rintro kk i m ⟨c,rfl,hc,rfl⟩ ih
  by_cases h:c<32
  ·obtain⟨h1,h2⟩:=hb c h
   rw[aX (by simp;omega),aZ,aq (abX h t0 t1 h2),aZ,aq (Ng (by omega) (by omega) t0 t1),aX (by rfl),bR (jd (by omega) (by omega)),aif,aq (Il (by omega) (by rw[Yh];exact h1) t),bR (jd (by omega) (by omega)),C4,aZ,bD (by omega) (by omega)];exact ih _ _ ⟨c+1,by omega,by omega,rfl⟩ (by omega)
  ·obtain rfl:c=32:=by omega
   rw[av (by simp),aZ]
 ·unfold tS
  cases M;refine congrArg ai.mk ?_;funext j;rw[aib (by omega)]
theorem OZ{n:Nat}(hn:40<=n){M:ai}(hM:N4 M){t:Int}(t0:0<=t)(t1:t<8):cU n M t=some M:=by
 rw[Uo hn t0 t1 λj hj=>⟨(hM j hj).2,by rw[(hM j hj).1];omega⟩];refine congrArg some ?_;unfold tS;cases M with|mk s=>
 refine congrArg ai.mk ?_;funext j;rw[aib];rintro⟨h1,h2⟩;have:=(hM j h1).1;dsimp only at this h2;omega
theorem Dp{n:Nat}(hn:40<=n){M:ai}(hM:N4 M){k:Nat}(hk:k<32){t:Int}(t0:0<=t)(t1:t<8):cU n (uE M k t) t=some M:=by
 rw[Uo hn t0 t1 λj hj=>by
  unfold uE iB;dsimp only;split
  ·next h=>subst h;exact⟨(hM j hj).2,by show 0<=t+1;omega,by show t+1<=255;omega⟩
  ·exact⟨(hM j hj).2,by rw[(hM j hj).1];omega⟩]
 refine congrArg some ?_;unfold tS uE;cases M with|mk s=>
 refine congrArg ai.mk ?_;funext j;dsimp only;by_cases h:j=k
 ·subst h
  have hz:=(hM j hk).1;dsimp only at hz;have e1:iB s j {s j with EE:=t+1} j={s j with EE:=t+1}:=MK _ _ _;simp only[e1];rw[aia (by simp[hk])];generalize s j=y at hz;cases y;dsimp only at hz;subst hz;rfl
 ·have e1:iB s k {s k with EE:=t+1} j=s j:=R2 _ _ h
  simp only[e1];rw[aib];rintro⟨h1,h2⟩;have:=(hM j h1).1;dsimp only at this;omega
theorem aa0{n:Nat}(hn:1<=n)(S:ae)(P:aj)(M:ai)(Q:List Int){r:au}(h:r.N<=0):eZ n S P M Q r=some (S,P,M,Q):=by obtain⟨m,rfl⟩:∃m,n=m+1:=⟨n-1,by omega⟩;unfold eZ;simp only[wT];rw[av (by simp;omega)]
theorem afy{n:Nat}(hn:40<=n)(S:ae)(P:aj)(M:ai)(Q:List Int){c:aF}(h:c.xA.N<=0){M':ai}(hg:cU n M c.jS=some M'):kR n S P M Q c=some (S,P,M',Q):=by unfold kR;rw[aq (aa0 (by omega) S P M Q h),aq hg,aZ]
theorem NG{n:Nat}(hn:40<=n)(S:ae)(P:aj)(M:ai)(Q:List Int){c:aF}(r0:ah)(b0:Bool)(r:ah)(h:c.xA.N<=0){M':ai}(hg:cU n M c.jS=some M'):eK n S P M Q c r0 b0 r=some (S,P,M',Q,c,r,true):=by unfold eK;rw[aZ,aq (afy hn S P M Q h hg)]
end Go.Proofs.Z
namespace Go.Proofs.Z
open Go Go.Bw
abbrev En(t:Int)(c:aC)(l:List Int)(r:au)(j:Int):aF:=⟨t,c,true,l,r,j⟩
def mW(n:Nat)(a1:aC):(ah->ae->aj->ai->List Int->Int->aF->Option (ah×ae×aj×ai×(List Int)×Int))->ah->ae->aj->ai->List Int->Int->aF->Option (ah×ae×aj×ai×(List Int)×Int):=λXT (aR:ah) (bS:ae) (cH:aj) (dO:ai) (fz:(List Int)) (dD:Int) (eM:aF)=>cl (((!eM.Checked)==true)) (pK n bS dD a1) default λdZ=>cn (((!eM.Checked)&&dZ)) (cn ((a1.Do==15)) (lt (({ay with E:=10}:ah):ah) λdK=>some (dK,bS,cH,dO,fz,dD)) (lt (({ay with E:=12}:ah):ah) λiM=>some (iM,bS,cH,dO,fz,dD))) (bd (cK n bS cH dO fz eM) λeL=>lt (eL.1:aF) λcC=>lt (eL.2.1:ah) λfP=>cn (eL.2.2.1) (lt (fP:ah) λjx=>some (jx,eL.2.2.2.1,eL.2.2.2.2.1,eL.2.2.2.2.2.1,eL.2.2.2.2.2.2,dD)) (cn (((eM.Checked&&((cC.ei.length:Int)==(eM.ei.length:Int)))&&(decide (0<(eM.ei.length:Int))))) (bd (kR n eL.2.2.2.1 eL.2.2.2.2.1 eL.2.2.2.2.2.1 eL.2.2.2.2.2.2 eM) λdR=>lt (({ay with E:=12}:ah):ah) λjo=>some (jo,dR.1,dR.2.1,dR.2.2.1,dR.2.2.2,dD)) (lt (cC:aF) λgB=>XT aR eL.2.2.2.1 eL.2.2.2.2.1 eL.2.2.2.2.2.1 eL.2.2.2.2.2.2 dD gB)))
theorem JH(n:Nat)(S:ae)(P:aj)(M:ai)(Q:List Int)(t:Int)(c:aC):dX n S P M Q t c=vo (mW n c) n ay S P M Q t ⟨t,c,false,[],aA,0⟩:=rfl
section
variable {n:Nat} {S S':ae} {P P':aj} {M M':ai} {Q Q':List Int} {t:Int} {c:aC} {u u':aF} {r:ah}
theorem EY(hd:c.Do≠15):pK n S t c=some false:=by
 have hb:(c.Do==15)=false:=by simpa using hd
 unfold pK;rw[qt (by rw[hb];rfl),hb];rfl
theorem ze(hd:c.Do≠15)(hs:cK n S P M Q u=some (u',r,true,S',P',M',Q')){kk}{x:ah}:mW n c kk x S P M Q t u=some (r,S',P',M',Q',t):=by unfold mW;rw[zk (EY hd),av (by cases u.Checked<;>rfl),aq hs];rfl
theorem sV(hd:c.Do≠15)(hs:cK n S P M Q u=some (u',r,false,S',P',M',Q'))(hl:u.Checked=true->u.ei.length=0\/u'.ei.length≠u.ei.length){kk}{x:ah}:mW n c kk x S P M Q t u=kk x S' P' M' Q' t u':=by
 unfold mW;rw[zk (EY hd),av (by cases u.Checked<;>rfl),aq hs,aZ,aZ,av (by rfl),av]
 ·rfl
 ·cases hc:u.Checked with
  |false=>rfl
  |true=>
   dsimp only;rcases hl hc with h|h
   ·rw[h];simp
   ·rw[Bool.true_and,show((u'.ei.length:Int)==(u.ei.length:Int))=false by simp;omega];rfl
theorem Sb{b:Bool}(h:eu n S P M Q u ay false=some (true,S',P',M',Q',u',r,b)):cK n S P M Q u=some (u',r,b,S',P',M',Q'):=by unfold cK;rw[aZ,aq h];rfl
theorem Fh(hu:u.Checked=true){x:ah}{b:Bool}:eu n S P M Q u x b=some (false,S,P,M,Q,u,x,b):=by unfold eu;rw[aX hu]
theorem adZ{b:Bool}(hu:u.Checked=true)(h:fg n S P M Q u ay false=some (true,S',P',M',Q',u',r,b)):cK n S P M Q u=some (u',r,b,S',P',M',Q'):=by unfold cK;rw[aZ,aq (Fh hu),av (by rfl),aq h];rfl
theorem Ni(hu:u.ei=[]){x:ah}{b:Bool}:fg n S P M Q u x b=some (false,S,P,M,Q,u,x,b):=by unfold fg;rw[hu];rfl
theorem ZE{b:Bool}(hu:u.Checked=true)(hr:u.ei=[])(h:bY n S P M Q u ay false=some (true,S',P',M',Q',u',r,b)):cK n S P M Q u=some (u',r,b,S',P',M',Q'):=by unfold cK;rw[aZ,aq (Fh hu),av (by rfl),aq (Ni hr),av (by rfl),aq h];rfl
theorem adY{b:Bool}(hu:u.Checked=true)(hr:u.ei=[])(hc:bY n S P M Q u ay false=some (false,S,P,M,Q,u,ay,false))(h:eF n S P M Q u ay false=some (true,S',P',M',Q',u',r,b)):cK n S P M Q u=some (u',r,b,S',P',M',Q'):=by unfold cK;rw[aZ,aq (Fh hu),av (by rfl),aq (Ni hr),av (by rfl),aq hc,av (by rfl),aq h];rfl
theorem ZD{b:Bool}(hu:u.Checked=true)(hr:u.ei=[])(hc:bY n S P M Q u ay false=some (false,S,P,M,Q,u,ay,false))(hl:u.xA.N<=u.pZ)(h:cu n S P M Q u ay false=some (true,S',P',M',Q',u',r,b)):cK n S P M Q u=some (u',r,b,S',P',M',Q'):=by unfold cK;rw[aZ,aq (Fh hu),av (by rfl),aq (Ni hr),av (by rfl),aq hc,av (by rfl)];rw[aq (show eF n S P M Q u ay false=some (false,S,P,M,Q,u,ay,false)by unfold eF;rw[aX (by simpa using hl)]),av (by rfl),aq h];rfl
theorem F1(hn:40<=n)(hd:c.Do≠15)(hM:N4 M)(t0:0<=t)(t1:t<8){e:Int}(he:fX n S t c=some e)(h0:e≠0):dX n S P M Q t c=some (⟨e,0,0⟩,S,P,M,Q,t):=by obtain⟨m,rfl⟩:∃m,n=m+1:=⟨n-1,by omega⟩;rw[JH];show mW (m+1) c _ _ _ _ _ _ _ _ =_;refine ze hd (u':=⟨t,c,false,[],aA,0⟩) (Sb ?_);unfold eu;rw[av (by rfl),aq (EY hd),av (by rfl),aq he,aX (by simpa using h0),aq (NG hn S P M Q _ _ _ (by show(0:Int)<=0;omega) (OZ hn hM t0 t1))]
theorem LY(hd:c.Do≠15)(he:fX n S t c=some 0){l:List Int}(hr:ke n S c=some l):eu n S P M Q ⟨t,c,false,[],aA,0⟩ ay false=some (true,S,P,M,Q,En t c l aA 0,ay,false):=by unfold eu;rw[av (by rfl),aq (EY hd),av (by rfl),aq he,av (by rfl),aq hr];rfl
theorem Tn(hd:c.Do≠15)(he:fX (n+1) S t c=some 0)(hr:ke (n+1) S c=some []):dX (n+1) S P M Q t c=vo (mW (n+1) c) n ay S P M Q t (En t c [] aA 0):=by rw[JH];show mW (n+1) c _ _ _ _ _ _ _ _ =_;rw[sV hd (Sb (LY hd he hr)) (λh=>by cases h)]
theorem yb(hd:c.Do≠15)(hM:N4 M)(t0:0<=t)(t1:t<8)(he:fX (n+2) S t c=some 0){h:Int}(hr:ke (n+2) S c=some [h]){k:Nat}(hk:k<32)(hs:bh (n+2) h=some ((k:Int),true)):dX (n+2) S P M Q t c=vo (mW (n+2) c) n ay S P (uE M k t) Q t (En t c [] aA 0):=by
 rw[JH];show mW (n+2) c _ _ _ _ _ _ _ _ =_;rw[sV hd (Sb (LY hd he hr)) (λh=>by cases h)];show mW (n+2) c _ _ _ _ _ _ _ _ =_;have hm:fg (n+2) S P M Q (En t c [h] aA 0) ay false=some (true,S,P,uE M k t,Q,En t c [] aA 0,ay,false):=by unfold fg;rw[av (by rfl),bR (by rfl),aq (show bh (n+2) (List.getD (En t c [h] aA 0).ei (Int.toNat 0) default)=some ((k:Int),true)from hs),aq (adU (by omega) hM hk t0 t1)];rfl
 rw[sV hd (adZ rfl hm) (λ_ => .inr (by simp))]
end
theorem SN{n:Nat}(hn:110<=n)(S:ae)(P:aj)(M:ai)(Q:List Int)(hQ:Q.length<=10000){r:Rn}(ho:HW r.At r.N):eZ n S P M Q r=some (S,P,M,Q++Ez r):=by
 obtain⟨o1,o2,o3⟩:=ho;unfold eZ;refine IS (λ(i:Int) (s:ae) (p:aj) (m:ai) (q:List Int)=>∃j:Nat,i=(j:Int)/\(j:Int)<=r.N/\s=S/\p=P/\m=M/\q=Q++(List.range j).map λ(k:Nat)=>r.At+(k:Int)) (λi _ _ _ _ =>(r.N-i).toNat) (λo=>o=some (S,P,M,Q++Ez r)) ?_ n 0 S P M Q ⟨0,rfl,by omega,rfl,rfl,rfl,by simp⟩ (by omega);rintro kk i s p m q ⟨j,rfl,hj,rfl,rfl,rfl,rfl⟩ ih;by_cases h:(j:Int)<r.N
 ·rw[aX (by simpa using h),bR (nQ (by simp;omega) (by simp;omega)),aZ,bD (x:=r.At+j) (by omega) (by omega),bD (by omega) (by omega)]
  refine ih _ _ _ _ _ ⟨j+1,by omega,by omega,rfl,rfl,rfl,?_⟩ (by omega);rw[FU,List.append_assoc]
 ·rw[av (by simpa using h)]
  unfold Ez;rw[show r.N.toNat=j by omega]
end Go.Proofs.Z
namespace Go.Proofs.Z
open Go Go.Bw
theorem adT(x:Int):0<=wr .u8 x/\wr .u8 x<=255:=by
 have h:wr .u8 x=x%256:=by simp[wr,IntKind.wrap,IntKind.signed,IntKind.bits]
 rw[h];omega
structure HD(P:aj):Prop where
 Mu:pG P.dF.l
 n1:P.n<=64
 fr:∀p,bZ P.dF.l p->p<P.n
 bt:∀i j,0<=P.bytes i j/\P.bytes i j<=255
def gL(P:aj)(p:Int):Prop:=0<=p/\p<P.n/\¬bZ P.dF.l p
def Fj(P:aj)(a:Int):Int:=P.bytes (a/32).toNat (a%32).toNat
def wrP(P:aj)(a v:Int):aj:={P with bytes:=iB P.bytes (a/32).toNat (iB (P.bytes (a/32).toNat) (a%32).toNat v)}
theorem Ps{P:aj}(h:HD P)(a:Int):0<=Fj P a/\Fj P a<=255:=h.bt _ _
theorem aax{P:aj}{a b v:Int}(ha:0<=a)(hb:0<=b):Fj (wrP P a v) b=if b=a then v else Fj P b:=by
 unfold Fj wrP iB;dsimp only;by_cases h:b=a
 ·subst h;rw[aia rfl,aia rfl,aia rfl]
 ·rw[aib h]
  by_cases h1:(b/32).toNat=(a/32).toNat
  ·rw[aia h1,aib (by omega),h1]
  ·rw[aib h1]
theorem aaw{P:aj}(h:HD P)(a:Int){v:Int}(hv:0<=v/\v<=255):HD (wrP P a v):=
 ⟨h.Mu,h.n1,h.fr,λi j=>by
  unfold wrP iB;dsimp only;by_cases h1:i=(a/32).toNat
  ·rw[aia h1];by_cases h2:j=(a%32).toNat
   ·rw[aia h2];exact hv
   ·rw[aib h2];exact h.bt _ _
  ·rw[aib h1];exact h.bt _ _⟩
theorem J8{n:Nat}(hn:110<=n){P:aj}(h:HD P){p:Int}(hp:gL P p):gQ n P.dF p=some false:=by
 obtain⟨p0,p1,p2⟩:=hp;have:=h.n1;obtain⟨b,e,hb⟩:=abS hn h.Mu (p:=p) ⟨by omega,by omega⟩;rw[e];cases b with
 |false=>rfl
 |true=>exact absurd (hb.1 rfl) p2
theorem aaZ{n:Nat}(hn:110<=n){P:aj}(h:HD P){a:Int}(ha:0<=a)(hl:gL P (a/32)):lT n P a=some (Fj P a,0):=by
 have:=h.n1;obtain⟨p0,p1,p2⟩:=hl;have e1:wr .i64 (Int.tdiv a 32)=a/32:=by rw[FQ ha,bD (by omega) (by omega)]
 have e2:Int.tmod a 32=a%32:=KS ha;unfold lT;rw[e1,e2,av (by simp;omega),av (by simp;omega),aq (J8 hn h ⟨p0,p1,p2⟩),av (by rfl),bR (jd (by omega) (by omega)),bR (jd (by omega) (by omega))];rfl
theorem Ww{n:Nat}(hn:110<=n){P:aj}(h:HD P){a:Int}(ha:0<=a)(hl:gL P (a/32))(v:Int):kJ n P a v=some (0,wrP P a v):=by
 have:=h.n1;obtain⟨p0,p1,p2⟩:=hl;have e1:wr .i64 (Int.tdiv a 32)=a/32:=by rw[FQ ha,bD (by omega) (by omega)]
 have e2:Int.tmod a 32=a%32:=KS ha;unfold kJ;rw[e1,e2,av (by simp;omega),av (by simp;omega),aq (J8 hn h ⟨p0,p1,p2⟩),av (by rfl),bR (jd (by omega) (by omega)),bR (jd (by omega) (by omega))];rfl
def HX(f:Nat->Int):Nat->Int
 |0=>0
 |k+1=>HX f k+f k*256^k
theorem JV{f:Nat->Int}{k:Nat}(hf:∀i,i<k->0<=f i/\f i<=255):0<=HX f k/\HX f k<256^k:=by
 induction k with
 |zero=>simp[HX]
 |succ k ih=>
  obtain⟨a,b⟩:=ih λi hi=>hf i (by omega);obtain⟨c,d⟩:=hf k (by omega);have hp:(0:Int)<256^k:=Int.pow_pos (by omega);have h1:f k*256^k<=255*256^k:=Int.mul_le_mul_of_nonneg_right d (by omega);have h2:0<=f k*256^k:=Int.mul_nonneg c (by omega);have h3:(256:Int)^(k+1)=256*256^k:=by rw[Int.pow_succ,Int.mul_comm]
  unfold HX;rw[h3];omega
theorem nZ{f g:Nat->Int}{k:Nat}(h:∀i,i<k->f i=g i):HX f k=HX g k:=by
 induction k with
 |zero=>rfl
 |succ k ih=>unfold HX;rw[ih λi hi=>h i (by omega),h k (by omega)]
theorem TO(f:Nat->Int)(k:Nat):HX f (k+1)=HX f k+f k*256^k:=rfl
theorem aek(k:Nat):(256:Int)^k=((2^(8*k):Nat):Int):=by rw[Nat.pow_mul,Int.natCast_pow];rfl
theorem Xr{k:Nat}(hk:k<=8):(256:Int)^k<=18446744073709551616:=by have h:(256:Nat)^k<=256^8:=Nat.pow_le_pow_right (by omega) hk;have e:(256:Int)^k=((256^k:Nat):Int):=(Int.natCast_pow 256 k).symm;rw[e];exact Int.ofNat_le.2 (Nat.le_trans h (by decide))
theorem abn{f:Nat->Int}{k:Nat}(hk:k<8)(hf:∀i,i<k+1->0<=f i/\f i<=255):ZL .u64 (HX f k) (Jv .u64 (wr .u64 (f k)) (wr .i64 (8*(k:Int))))=HX f (k+1):=by
 obtain⟨a,b⟩:=JV (f:=f) (k:=k) λi hi=>hf i (by omega);obtain⟨a',b'⟩:=JV (f:=f) (k:=k+1) hf;obtain⟨c,d⟩:=hf k (by omega);have hp:=aek k;have hp1:=Xr (k:=k+1) (by omega);rw[uO c (by omega),bD (by omega) (by omega),Sz (8*k) (by omega) (by show 8*k<=64;omega)];have h2:0<=f k*256^k:=Int.mul_nonneg c (by rw[hp];omega);rw[TO]at a' b';rw[← hp,uO h2 (by omega),TO];obtain⟨x,hx⟩:=Int.eq_ofNat_of_zero_le a;obtain⟨y,hy⟩:=Int.eq_ofNat_of_zero_le c;have hz:f k*256^k=((2^(8*k)*y:Nat):Int):=by rw[hy,hp,Int.natCast_mul];exact Int.mul_comm _ _
 have rW:x<2^(8*k):=by rw[hx,hp]at b;exact Int.ofNat_lt.1 b
 rw[hz,hx]at b' ⊢;generalize hw:2^(8*k)*y=w at *;rw[Xs (k:= .u64) (by show x<2^64;omega) (by show w<2^64;omega),Nat.or_comm, ← hw, ← Nat.two_pow_add_eq_or_of_lt rW,hw];omega
theorem aef{n:Nat}(hn:110<=n){P:aj}(h:HD P){pl:List Int}(hl:pl.length<=8)(hp:∀i,i<pl.length->0<=pl.getD i default/\gL P (pl.getD i default/32)){ρ:Type}(F:ah->Option ρ):
  eV (λk67 (uN:Int) (Rz:ah)=>cn (decide (uN<(pl.length:Int))) (gu (dm uN pl.length)<|bd (lT n P (pl.getD (Int.toNat uN) default)) λJi=>gu (decide (0<=wr .i64 (8*uN)))<|lt (({Rz with V:=ZL .u64 Rz.V (Jv .u64 (wr .u64 Ji.1) (wr .i64 (8*uN)))}:ah):ah) λHJ=>k67 (wr .i64 (uN+1)) HJ) (F Rz)) n 0 ⟨0,0,0⟩=F ⟨0,HX (λi=>Fj P (pl.getD i default)) pl.length,0⟩:=by
 refine zf (λ(i:Int) (r:ah)=>∃j:Nat,i=(j:Int)/\j<=pl.length/\r=⟨0,HX (λi=>Fj P (pl.getD i default)) j,0⟩) (λi _ =>((pl.length:Int)-i).toNat) (λo=>o=F ⟨0,HX (λi=>Fj P (pl.getD i default)) pl.length,0⟩) ?_ n 0 _ ⟨0,rfl,by omega,rfl⟩ (by omega);rintro kk i r ⟨j,rfl,hj,rfl⟩ ih;by_cases hc:j<pl.length
 ·obtain⟨p0,p1⟩:=hp j hc
  rw[aX (by simpa using hc),bR (jd (by omega) (by omega)),aif,aq (aaZ hn h p0 p1),bR (by rw[bD (by omega) (by omega)];simp;omega),aZ,bD (x:=(j:Int)+1) (by omega) (by omega)];refine ih _ _ ⟨j+1,by omega,by omega,?_⟩ (by omega);dsimp only;rw[abn (f:=λi=>Fj P (pl.getD i default)) (by omega) λi _ =>Ps h _]
 ·obtain rfl:j=pl.length:=by omega
  rw[av (by simp)]
def KL(P:aj)(f v:Nat->Int):Nat->aj
 |0=>P
 |k+1=>wrP (KL P f v k) (f k) (v k)
theorem Fw(P:aj)(f v:Nat->Int)(k:Nat):(KL P f v k).dF=P.dF/\(KL P f v k).n=P.n:=by
 induction k with
 |zero=>exact⟨rfl,rfl⟩
 |succ k ih=>exact ih
theorem RD{P:aj}(h:HD P){f v:Nat->Int}{k:Nat}(hv:∀i,i<k->0<=v i/\v i<=255):HD (KL P f v k):=by
 induction k with
 |zero=>exact h
 |succ k ih=>exact aaw (ih λi hi=>hv i (by omega)) _ (hv k (by omega))
theorem RF{P:aj}{f v:Nat->Int}{k:Nat}{p:Int}(h:gL P p):gL (KL P f v k) p:=by unfold gL at h ⊢;rw[(Fw P f v k).1,(Fw P f v k).2];exact h
theorem aay{P:aj}{f v:Nat->Int}{k:Nat}(hf:∀i,i<k->0<=f i){b:Int}(hb:0<=b)(hi:∀i j,i<k->j<k->f i=f j->i=j):(∀i,i<k->f i=b->Fj (KL P f v k) b=v i)/\((∀i,i<k->f i≠b)->Fj (KL P f v k) b=Fj P b):=by
 induction k with
 |zero=>exact⟨λi h=>absurd h (by omega),λ_ =>rfl⟩
 |succ k ih=>
  obtain⟨a,c⟩:=ih (λi h=>hf i (by omega)) (λi j h1 h2=>hi i j (by omega) (by omega));unfold KL;rw[aax (hf k (by omega)) hb];refine⟨λi h1 h2=>?_,λh=>?_⟩
  ·by_cases h3:b=f k
   ·rw[aia h3]
    rw[hi i k h1 (by omega) (by rw[h2,h3])]
   ·rw[aib h3]
    refine a i ?_ h2;rcases Nat.lt_or_ge i k with h4|h4
    ·exact h4
    ·obtain rfl:i=k:=by omega
     exact absurd h2.symm h3
  ·rw[aib λh3=>h k (by omega) h3.symm]
   exact c λi hi'=>h i (by omega)
theorem aav{n:Nat}(hn:110<=n){P:aj}(h:HD P){pl:List Int}(hl:pl.length<=8)(hp:∀i,i<pl.length->0<=pl.getD i default/\gL P (pl.getD i default/32)){V:Int}{ρ:Type}(F:ae->aj->ai->List Int->aF->ah->Bool->Option ρ)(S:ae)(M:ai)(Q:List Int)(u:aF)(r:ah)(b:Bool):
  BZ (λk63 (pb:Int) (CF:ae) (pH:aj) (MA:ai) (Fv:(List Int)) (y7:aF) (VY:ah) (Jk:Bool)=>cn (decide (pb<(pl.length:Int))) (gu (dm pb pl.length)<|gu (decide (0<=wr .i64 (8*pb)))<|bd (kJ n pH (pl.getD (Int.toNat pb) default) (wr .u8 (zE .u64 V (wr .i64 (8*pb))))) λPO=>k63 (wr .i64 (pb+1)) CF PO.2 MA Fv y7 VY Jk) (F CF pH MA Fv y7 VY Jk)) n 0 S P M Q u r b=
  F S (KL P (λi=>pl.getD i default) (λi=>wr .u8 (zE .u64 V (wr .i64 (8*(i:Int))))) pl.length) M Q u r b:=by
 refine Dk (λ(i:Int) s p m q u' r' b'=>∃j:Nat,i=(j:Int)/\j<=pl.length/\s=S/\p=KL P (λi=>pl.getD i default) (λi=>wr .u8 (zE .u64 V (wr .i64 (8*(i:Int))))) j/\m=M/\q=Q/\u'=u/\r'=r/\b'=b) (λi _ _ _ _ _ _ _ =>((pl.length:Int)-i).toNat) (λo=>o=F S (KL P (λi=>pl.getD i default) (λi=>wr .u8 (zE .u64 V (wr .i64 (8*(i:Int))))) pl.length) M Q u r b) ?_ n 0 _ _ _ _ _ _ _ ⟨0,rfl,by omega,rfl,rfl,rfl,rfl,rfl,rfl,rfl⟩ (by omega);rintro kk i s p m q u' r' b' ⟨j,rfl,hj,rfl,rfl,rfl,rfl,rfl,rfl,rfl⟩ ih;by_cases hc:j<pl.length
 ·obtain⟨p0,p1⟩:=hp j hc
  rw[aX (by simpa using hc),bR (jd (by omega) (by omega)),bR (by rw[bD (by omega) (by omega)];simp;omega),aif,aq (Ww hn (RD h λi _ =>adT _) p0 (RF p1) _),bD (x:=(j:Int)+1) (by omega) (by omega)];exact ih _ _ _ _ _ _ _ _ ⟨j+1,by omega,by omega,rfl,rfl,rfl,rfl,rfl,rfl,rfl⟩ (by omega)
 ·obtain rfl:j=pl.length:=by omega
  rw[av (by simp)]
end Go.Proofs.Z
namespace Go.Proofs.Z
open Go Go.Bw
def Qh(S:ae)(e:Nat->aD):ae:={S with dx:={S.dx with T:={S.dx.T with aT:=λj=>{S.dx.T.aT j with E:=e j}}}}
def iI(S:ae)(k:Nat)(E:aD):ae:={S with dx:={S.dx with T:={S.dx.T with aT:=iB S.dx.T.aT k {S.dx.T.aT k with E:=E}}}}
abbrev bC(S:ae)(k:Nat):aD:=(S.dx.T.aT k).E
theorem IE(S:ae):Qh S (bC S)=S:=rfl
theorem ID(S:ae)(k:Nat)(E:aD)(e:Nat->aD):Qh (iI S k E) e=Qh S e:=by
 have h:(λj=>{iB S.dx.T.aT k {S.dx.T.aT k with E:=E} j with E:=e j})=λj=>{S.dx.T.aT j with E:=e j}:=by
  funext j;unfold iB;by_cases h:j=k
  ·subst h;rw[aia rfl]
  ·rw[aib h]
 unfold Qh iI;dsimp only;rw[h]
theorem fK(S:ae)(k:Nat)(E:aD):bC (iI S k E) k=E:=by unfold bC iI;dsimp only;rw[MK]
theorem rD(S:ae){k j:Nat}(E:aD)(h:j≠k):bC (iI S k E) j=bC S j:=by unfold bC iI;dsimp only;rw[R2 _ _ h]
theorem MU(S:ae)(k j:Nat)(E:aD):((iI S k E).dx.T.aT j).fU=(S.dx.T.aT j).fU:=by
 unfold iI iB;dsimp only;by_cases h:j=k
 ·subst h;rw[aia rfl]
 ·rw[aib h]
structure tE(w:Bool)(n:Nat)(S:ae)(t h:Int)(k:Nat):Prop where
 kl:k<32
 dz:bh n h=some ((k:Int),true)
 QA:aJ n S.dx.T.fB.kO h=some true
 t0:0<=t
 t1:t<8
 XL:S.mj t.toNat=true
 rd:∀e,oY n (Qh S e).dx t h 0=some 0
 wt:w=true->∀e,oY n (Qh S e).dx t h 1=some 0
 quo:0<=(S.dx.T.aT k).fU/\(S.dx.T.aT k).fU<=64
 up:∃u,aJ n S.dx.T.fB.kO ((S.dx.T.aT k).Up)=some u
theorem tE.set{w:Bool}{n:Nat}{S:ae}{t h:Int}{k:Nat}(a:tE w n S t h k)(j:Nat)(E:aD):tE w n (iI S j E) t h k where
 kl:=a.kl
 dz:=a.dz
 QA:=a.QA
 t0:=a.t0
 t1:=a.t1
 XL:=a.XL
 rd e:=by rw[ID];exact a.rd e
 wt hw e:=by rw[ID];exact a.wt hw e
 quo:=by rw[MU];exact a.quo
 up:=by
  have:((iI S j E).dx.T.aT k).Up=(S.dx.T.aT k).Up:=by
   unfold iI iB;dsimp only;by_cases h:k=j
   ·subst h;rw[aia rfl]
   ·rw[aib h]
  rw[this];exact a.up
theorem tE.agA{n:Nat}{S:ae}{t h:Int}{k:Nat}(a:tE true n S t h k):tE false n S t h k:=⟨a.kl,a.dz,a.QA,a.t0,a.t1,a.XL,a.rd,λh=>(by cases h),a.quo,a.up⟩
section
variable {w:Bool} {n:Nat} {S:ae} {t h:Int} {k:Nat}
theorem tE.get(a:tE w n S t h k):∃u,ew n S.dx.T h=some ({S.dx.T.aT k with Up:=u},0):=by
 obtain⟨b,hb⟩:=a.up;have:=a.kl;obtain⟨u,hu⟩:∃u,lJ n S.dx.T h=some u:=by
  unfold lJ;rw[aq a.dz,bR (jd (by omega) (by omega)),aif,aq hb];cases b with
  |false=>exact⟨_,rfl⟩
  |true=>exact⟨_,rfl⟩
 refine⟨u,?_⟩;unfold ew;rw[aq a.QA,av (b:= !true) rfl,aq a.dz,bR (jd (by omega) (by omega)),aZ,aif,aq hu];rfl
theorem tE.agF(hn:110<=n)(a:tE w n S t h k){E:aD}(hE:o7 E)(u:Int):iN n S.dx.T h {S.dx.T.aT k with Up:=u,E:=E}=some ((iI S k E).dx.T,0):=by
 have:=a.kl;have hq:lH n (S.dx.T.aT k).fU=some true:=by unfold lH;obtain⟨q0,q1⟩:=a.quo;simp[q0,q1]
 unfold iN;rw[aq a.QA,av (b:= !true) rfl,aq hq,rK (g:=(!true)==false) rfl (IN hn hE),av (by rfl),aq a.dz,bR (jd (by omega) (by omega)),aZ,bR (jd (by omega) (by omega)),aZ,aif];rfl
theorem tE.agQ(a:tE w n S t h k){x:ak}(hs:x.aG=S)(ht:x.fJ=t):bF n x h 0=some (.ok ()):=by have:=a.rd (bC S);rw[IE]at this;unfold bF;rw[hs,ht,aq this];rfl
theorem tE.aet(a:tE true n S t h k){x:ak}(hs:x.aG=S)(ht:x.fJ=t):bF n x h 1=some (.ok ()):=by have:=a.wt rfl (bC S);rw[IE]at this;unfold bF;rw[hs,ht,aq this];rfl
theorem tE.region(a:tE w n S t h k){x:ak}(hs:x.aG=S):∃u,eE n x h=some (.ok {S.dx.T.aT k with Up:=u}):=by obtain⟨u,hu⟩:=a.get;refine⟨u,?_⟩;unfold eE;rw[hs,aq hu];rfl
theorem BF{α β:Type}{x:Option (Except Int α)}{v:α}(h:x=some (.ok v)){f:Int->β}{k:α->Option β}:tr x f k=k v:=by subst h;rfl
theorem adV{α β:Type}{x:Option (Except Int α)}{e:Int}(h:x=some (.error e)){f:Int->β}{k:α->Option β}:tr x f k=some (f e):=by subst h;rfl
theorem ZA{α:Type}{b:Bool}(h:b=true){f:α}{k:Option α}:tc b f k=k:=by subst h;rfl
theorem tc0{α:Type}{b:Bool}(h:b=false){f:α}{k:Option α}:tc b f k=some f:=by subst h;rfl
theorem tY(a:tE w n S t h k){x:ak}(hs:x.aG=S)(ht:x.fJ=t){d:Int}(hd:x.c.Do=d){i:Nat}{m:Zq}(hm:GH d=some (d,i,m)):
  bM n x=tr (m n x) (λe=>(⟨e,0,0⟩,none)) λy=>some (y.1,some y.2):=by
 have h7:rM .i64 t 7=t:=by have:=U6 (k:= .i64) (a:=t) 3 (b:=7) a.t0 (by have:=a.t1;show t<2^63;omega) (by decide) (by decide);rw[this];have:=a.t0;have:=a.t1;exact Int.emod_eq_of_lt (by omega) (by show t<8;omega)
 have hb:(decide (0<=t)&&decide (t<8))=true:=by have:=a.t0;have:=a.t1;simp;omega
 unfold bM;rw[hs,ht,hd,hm,h7,hb,bR (by rw[jd a.t0 a.t1];rfl),ZA (by rw[a.XL];rfl)]
def jh(S:ae)(t:Int)(c:aC)(r:au)(yI:Bool):ak:={aG:=S,fJ:=t,c:=c,run:=r,kL:=0,yI:=yI,fC:=[]}
theorem Oe{x:ak}(hB:1<=x.c.B/\x.c.B<=8):qj n x.c=some (.ok ()):=by unfold qj;rw[ZA (by simp;omega)]
theorem ZH(h4:o7 (bC S k))(u:Int){x:ak}(hA:0<=x.c.A/\x.c.A<4294967296)(hB:1<=x.c.B/\x.c.B<=8):qm n {S.dx.T.aT k with Up:=u} x.c=if x.c.A+x.c.B<=(bC S k).eY then some (.ok ())else some (.error 9):=by
 have hl:=h4.lo;have hh:=h4.hi;have hx:=h4.gx.sum;unfold qm;show tc (decide (wr .i64 x.c.A<=wr .i64 ((bC S k).eY-wr .i64 x.c.B))) _ _ =_;rw[bD (x:=x.c.A) (by omega) (by omega),bD (x:=x.c.B) (by omega) (by omega),bD (by omega) (by omega)];by_cases hc:x.c.A+x.c.B<=(bC S k).eY
 ·rw[ZA (by simp;omega),aia hc]
 ·rw[tc0 (by simp;omega),aib hc]
theorem UX(a:tE w n S t h k)(h4:o7 (bC S k)){x:ak}(hs:x.aG=S)(ht:x.fJ=t)(hR:x.c.R=h)(hA:0<=x.c.A/\x.c.A<4294967296)(hB:1<=x.c.B/\x.c.B<=8):
  gF n x=(if x.c.A+x.c.B<=(bC S k).eY then some (.ok ⟨0,0,0⟩)else some (.error 9)):=by
 obtain⟨u,hu⟩:=a.region hs;unfold gF;rw[BF (Oe hB),hR,BF (a.agQ hs ht),BF hu,ZH h4 u hA hB];by_cases hc:x.c.A+x.c.B<=(bC S k).eY
 ·rw[aia hc,aia hc];rfl
 ·rw[aib hc,aib hc];rfl
theorem UW(a:tE true n S t h k)(h4:o7 (bC S k)){x:ak}(hs:x.aG=S)(ht:x.fJ=t)(hR:x.c.R=h)(hA:0<=x.c.A/\x.c.A<4294967296)(hB:1<=x.c.B/\x.c.B<=8):
  fZ n x=(if x.c.A+x.c.B<=(bC S k).eY then some (.ok ⟨0,0,0⟩)else some (.error 9)):=by
 obtain⟨u,hu⟩:=a.region hs;unfold fZ;rw[BF (Oe hB),hR,BF (a.aet hs ht),BF hu,ZH h4 u hA hB];by_cases hc:x.c.A+x.c.B<=(bC S k).eY
 ·rw[aia hc,aia hc];rfl
 ·rw[aib hc,aib hc];rfl
theorem ack{c:aC}(a:tE w n S t h k)(h4:o7 (bC S k))(hd:c.Do=3\/(c.Do=4/\w=true))(hR:c.R=h)(hA:0<=c.A/\c.A<4294967296)(hB:1<=c.B/\c.B<=8):
  cq n S t c aA=some (S,⟨if c.A+c.B<=(bC S k).eY then 0 else 9,0,0⟩,[]):=by
 have hc:bM n (jh S t c aA false)=some (if c.A+c.B<=(bC S k).eY then(⟨0,0,0⟩,some (jh S t c aA false))else(⟨9,0,0⟩,none)):=by
  rcases hd with hd|⟨hd,hw⟩
  ·have b1:gF n (jh S t c aA false)=(if c.A+c.B<=(bC S k).eY then some (.ok ⟨0,0,0⟩)else some (.error 9)):=UX a h4 (x:=jh S t c aA false) rfl rfl hR hA hB
   rw[tY a (x:=jh S t c aA false) rfl rfl (d:=3) hd rfl];unfold Gb;rw[b1];by_cases q:c.A+c.B<=(bC S k).eY
   ·rw[aia q,aia q];rfl
   ·rw[aib q,aib q];rfl
  ·subst hw
   have b2:fZ n (jh S t c aA false)=(if c.A+c.B<=(bC S k).eY then some (.ok ⟨0,0,0⟩)else some (.error 9)):=UW a h4 (x:=jh S t c aA false) rfl rfl hR hA hB;rw[tY a (x:=jh S t c aA false) rfl rfl (d:=4) hd rfl];unfold Gb;rw[b2];by_cases q:c.A+c.B<=(bC S k).eY
   ·rw[aia q,aia q];rfl
   ·rw[aib q,aib q];rfl
 unfold cq;rw[aZ];show bd (bM n (jh S t c aA false)) _ =_;rw[aq hc];by_cases q:c.A+c.B<=(bC S k).eY
 ·rw[aia q,aia q];rfl
 ·rw[aib q,aib q];rfl
theorem BV{c:aC}(hd:c.Do≠2):bH n S t c=some 0:=by
 have:(c.Do !=2)=true:=by simpa using hd
 unfold bH;rw[aZ,this];rfl
theorem ve{c:aC}(a:tE w n S t h k)(hd:c.Do=2\/c.Do=3\/c.Do=4)(hR:c.R=h):ke n S c=some [h]:=by
 have ho:iU n S c.R=some [h]:=by unfold iU;rw[hR,aq a.QA];rfl
 unfold ke;rcases hd with hd|hd|hd<;>rw[hd]<;>simp only[cn]<;>simp[ho,bd]
theorem Sj(hn:110<=n){c:aC}(a:tE w n S t h k)(h4:o7 (bC S k))(hd:c.Do=3\/c.Do=4)(hR:c.R=h)(hA:0<=c.A)(hB:1<=c.B/\c.B<=8)(hl:c.A+c.B<=(bC S k).eY):
  cv n S c=some ((List.range c.B.toNat).map λ(i:Nat)=>dI (bC S k).aK (c.A+(i:Int)),0):=by
 obtain⟨u,hu⟩:=a.get;have hh:=h4.hi;have hx:=h4.gx.sum;have hd':((c.Do !=3)&&(c.Do !=4))=false:=by rcases hd with hd|hd<;>rw[hd]<;>rfl
 unfold cv;rw[hR,aq hu,av (by rfl),hd',bD (x:=c.B) (by omega) (by omega),bD (x:=c.A) (by omega) (by omega),av (by simp;omega)];show cn (decide (wr .i64 ((bC S k).eY-c.B)<c.A)) _ _ =_;rw[bD (by omega) (by omega),av (by simp;omega)];refine zf (λ(l:List Int) (i:Int)=>∃j:Nat,i=(j:Int)/\(j:Int)<=c.B/\l=(List.range j).map λ(i:Nat)=>dI (bC S k).aK (c.A+(i:Int))) (λ_ i=>(c.B-i).toNat) (λo=>o=some ((List.range c.B.toNat).map λ(i:Nat)=>dI (bC S k).aK (c.A+(i:Int)),0)) ?_ n [] 0 ⟨0,rfl,by omega,rfl⟩ (by omega);rintro kk l i ⟨j,rfl,hj,rfl⟩ ih;by_cases hc:(j:Int)<c.B
 ·rw[aX (by simpa using hc),bD (x:=c.A+j) (by omega) (by omega)]
  rw[aq (Tk hn h4 (at_:=c.A+(j:Int)) ⟨by omega,by omega⟩),bR (nQ (by simp;omega) (by simp;omega)),aZ,bD (by omega) (by omega)];refine ih _ _ ⟨j+1,by omega,by omega,?_⟩ (by omega);rw[FU];unfold plV dI;rw[aia (by omega),Int.sub_zero]
 ·obtain rfl:c.B.toNat=j:=by omega
  rw[av (by simp;omega)]
end
end Go.Proofs.Z
namespace Go.Proofs.Z
open Go Go.Bw
def eS(s:Int):Int:=(s+31)/32
theorem BR{s a:Int}(h:sW s a=true):1<=eS s/\s<=32*eS s/\eS s<=4:=by obtain⟨⟨h1,h2⟩,_⟩:=lW.1 h;unfold eS;omega
section
variable {w:Bool} {n:Nat} {S:ae} {t h:Int} {k:Nat}
theorem tE.agE(hn:110<=n)(a:tE w n S t h k){y:ak}(hs:y.aG=S){E:aD}(hE:o7 E)(u:Int):ga n y h {S.dx.T.aT k with Up:=u,E:=E}=some (.ok {y with aG:=iI S k E}):=by unfold ga;rw[hs,aq (a.agF hn hE u)];rfl
theorem JO{E:aD}(hE:o7 E){s b:Int}(hf:eJ E s b=true):o7 ⟨E.aK,y8 E.eY b+s⟩:=by unfold eJ at hf;rw[aid,decide_eq_true_iff,lW]at hf;obtain⟨⟨⟨o1,o2⟩,o3⟩,o4⟩:=hf;obtain⟨u1,u2,_⟩:=BD (x:=E.eY) o3;have:=hE.lo;exact⟨hE.gx,by dsimp only;omega,o4⟩
theorem O7{E:aD}(hE:o7 E){s b:Int}(hf:eJ E s b=true):0<=y8 E.eY b/\E.eY<=y8 E.eY b/\y8 E.eY b<=2048:=by have h:=JO hE hf;unfold eJ at hf;rw[aid,decide_eq_true_iff,lW]at hf;obtain⟨⟨⟨o1,o2⟩,o3⟩,o4⟩:=hf;obtain⟨u1,u2,_⟩:=BD (x:=E.eY) o3;have:=hE.lo;have:=hE.gx.sum;omega
theorem Px(hn:110<=n)(a:tE w n S t h k){y:ak}(hs:y.aG=S)(hR:y.c.R=h){E:aD}(hE:o7 E)(u:Int){s b:Int}(hf:eJ E s b=true):
  (bd (gG n ({S.dx.T.aT k with Up:=u,E:=E}:aN).E s b) λEX=>lt ({({S.dx.T.aT k with Up:=u,E:=E}:aN)with E:=EX.1}:aN) λx85=>tr (ga n y y.c.R x85) (λUJ=>(.error UJ)) λOc=>lt ({E:=0,V:=wr .u64 EX.2.1,W:=0}:ah) λx99=>some (.ok (x99,Oc)):Option (Except Int (ah×ak)))=some (.ok (⟨0,y8 E.eY b,0⟩,{y with aG:=iI S k ⟨E.aK,y8 E.eY b+s⟩})):=by
 obtain⟨f0,f1,f2⟩:=O7 hE hf;rw[aq (Xl hn hE s b),aia hf,aZ,hR,BF (a.agE hn hs (JO hE hf) u),aZ];dsimp only;rw[uO f0 (by omega)]
theorem aaz{s b:Int}(ho:sW s b=true):wr .i64 (if 129<s then 129 else s)=s/\wr .i64 (if 9<b then 9 else b)=b:=by
 obtain⟨⟨o1,o2⟩,o3⟩:=lW.1 ho;have:1<=b/\b<=8:=by rcases o3 with rfl|rfl|rfl|rfl<;>omega
 rw[aib (by omega),aib (by omega)];exact⟨bD (by omega) (by omega),bD (by omega) (by omega)⟩
theorem Fo(hn:110<=n)(a:tE true n S t h k)(h4:o7 (bC S k)){x:ak}(hs:x.aG=S)(ht:x.fJ=t)(hR:x.c.R=h){s b:Int}(hA:x.c.A=s)(hB:x.c.B=b)(ho:sW s b=true):
  (eJ (bC S k) s b=true->dc n x=some (.ok (⟨0,y8 (bC S k).eY b,0⟩,{x with aG:=iI S k ⟨(bC S k).aK,y8 (bC S k).eY b+s⟩})))/\
  (eJ (bC S k) s b=false->(S.dx.T.aT k).fU<bx (bC S k).aK+eS s->dc n x=some (.error 6))/\
  (eJ (bC S k) s b=false->bx (bC S k).aK+eS s<=(S.dx.T.aT k).fU->x.yI=true->dc n x=some (.ok (⟨0,0,0⟩,{x with kL:=eS s})))/\
  (eJ (bC S k) s b=false->bx (bC S k).aK+eS s<=(S.dx.T.aT k).fU->x.yI=false->x.run.N=eS s->HW x.run.At x.run.N->(∀p,x.run.At<=p->p<x.run.At+x.run.N->¬bZ (bC S k).aK p)->
   dc n x=some (.ok (⟨0,32*bx (bC S k).aK,0⟩,{x with kL:=eS s,aG:=iI S k ⟨(bC S k).aK++[x.run],32*bx (bC S k).aK+s⟩}))):=by
 obtain⟨u,hu⟩:=a.region hs;obtain⟨w1,w2⟩:=aaz ho;obtain⟨n1,n2,n3⟩:=BR ho;obtain⟨⟨o1,o2⟩,o3⟩:=lW.1 ho;have hq:=a.quo;have g0:=h4.gx.pos;have g1:=h4.gx.sum;have hne:oW n s b=some (eS s,true):=by rw[TB (by omega),aia ho];rfl
 have Gl:=O6 hn h4 s b;have hpg:=M7 hn h4;have pre:∀z,(∀F:aN->ak->Option (Except Int (ah×ak)),F=(λ(jx:aN) (gB:ak)=>bd (gG n jx.E s b) λEX=>lt ({jx with E:=EX.1}:aN) λx85=>tr (ga n gB gB.c.R x85) (λUJ=>(.error UJ)) λOc=>lt ({E:=0,V:=wr .u64 EX.2.1,W:=0}:ah) λx99=>some (.ok (x99,Oc)))->
   (cn ((!(Eb (bC S k) s b).2)) (tc (decide ((wr .i64 (bx (bC S k).aK+eS s))<=(S.dx.T.aT k).fU)) (.error 6)<|cn (x.yI) (some (.ok (⟨0,0,0⟩,{x with kL:=eS s}))) (bd (fe n (bC S k) x.run) λy7=>lt ({({S.dx.T.aT k with Up:=u}:aN)with E:=y7}:aN) λJj=>cl ((x.run.N==eS s)==true) (fO n Jj.E) default λMz=>tc ((x.run.N==eS s)&&Mz) (.error 2)<|F Jj ({x with kL:=eS s}))) (F {S.dx.T.aT k with Up:=u} x)=z))->dc n x=z:=by
  intro z hz;unfold dc;rw[hA,hB,w1,w2,aq hne,ZA (by rfl),hR,BF (a.aet hs ht),BF hu,aZ];refine Eq.trans ?_ (hz _ rfl);show bd (gh n (bC S k) s b) _ =_;rw[aq Gl];show cn _ (bd (cN n (bC S k)) _) _ =_;rw[aq hpg];rfl
 refine⟨λhf=>pre _ λF hF=>?_,λhf hl=>pre _ λF hF=>?_,λhf hl hk=>pre _ λF hF=>?_,λhf hl hk r1 r2 r3=>pre _ λF hF=>?_⟩
 ·unfold Eb
  rw[hf,aia rfl,av (b:= !true) rfl,hF];exact Px hn a hs hR h4 u hf
 ·unfold Eb
  rw[hf,aib (by simp),aX (b:= !false) rfl,bD (by omega) (by omega),tc0 (by simp;omega)]
 ·unfold Eb
  rw[hf,aib (by simp),aX (b:= !false) rfl,bD (by omega) (by omega),ZA (by simp;omega),aX hk]
 ·have hm:=IP h4 r2 r3
  have e:(⟨x.run.At,x.run.N⟩:Rn)=x.run:=rfl;rw[e]at hm;have hs2:bx ((bC S k).aK++[x.run])=bx (bC S k).aK+eS s:=by rw[oD, ← e,pW,r1]
  have hu4:y8 (32*bx (bC S k).aK) b=32*bx (bC S k).aK:=by unfold y8;rcases o3 with rfl|rfl|rfl|rfl<;>omega
  have hf2:eJ ⟨(bC S k).aK++[x.run],32*bx (bC S k).aK⟩ s b=true:=by unfold eJ;rw[ho,hs2];dsimp only;rw[hu4];simp;omega
  unfold Eb;rw[hf,aib (by simp),aX (b:= !false) rfl,bD (by omega) (by omega),ZA (by simp;omega),av hk,aq (Yg hn h4 x.run),aZ,rK (by rw[r1];simp) (IN hn hm),ZA (by rw[r1];simp),hF];have:=Px hn a (y:={x with kL:=eS s}) hs hR hm u hf2;dsimp only at this;rw[hu4]at this;exact this
def Ld(S:ae)(k:Nat)(s b:Int):Int:=if eJ (bC S k) s b=true then 0 else if bx (bC S k).aK+eS s<=(S.dx.T.aT k).fU then eS s else 0
theorem Ph:∃i,GH 2=some (2,i,dc):=⟨_,rfl⟩
theorem TC(hn:110<=n)(a:tE true n S t h k)(h4:o7 (bC S k)){c:aC}(hd:c.Do=2)(hR:c.R=h){s b:Int}(hA:c.A=s)(hB:c.B=b)(ho:sW s b=true):
  bH n S t c=some (Ld S k s b):=by
 obtain⟨i,hi⟩:=Ph;obtain⟨a1,a2,a3,_⟩:=Fo hn a h4 (x:=jh S t c aA true) rfl rfl hR hA hB ho;unfold bH;rw[aZ,aX (by rw[hd];rfl)];show bd (bM n (jh S t c aA true)) _ =_;unfold Ld;cases hf:eJ (bC S k) s b with
 |true=>rw[aq (by rw[tY a (x:=jh S t c aA true) rfl rfl hd hi,BF (a1 hf)])];rw[hd,aia rfl];rfl
 |false=>
  rw[aib (by simp)];by_cases hq:bx (bC S k).aK+eS s<=(S.dx.T.aT k).fU
  ·rw[aq (by rw[tY a (x:=jh S t c aA true) rfl rfl hd hi,BF (a3 hf hq rfl)])]
   rw[hd,aia hq];rfl
  ·rw[aq (by rw[tY a (x:=jh S t c aA true) rfl rfl hd hi,adV (a2 hf (by omega))])]
   rw[hd,aib hq];rfl
theorem Pj(hn:110<=n)(a:tE true n S t h k)(h4:o7 (bC S k)){c:aC}(hd:c.Do=2)(hR:c.R=h){s b:Int}(hA:c.A=s)(hB:c.B=b)(ho:sW s b=true)(hf:eJ (bC S k) s b=true):
  cq n S t c aA=some (iI S k ⟨(bC S k).aK,y8 (bC S k).eY b+s⟩,⟨0,y8 (bC S k).eY b,0⟩,[]):=by
 obtain⟨i,hi⟩:=Ph;obtain⟨a1,_⟩:=Fo hn a h4 (x:=jh S t c aA false) rfl rfl hR hA hB ho;unfold cq;rw[aZ];show bd (bM n (jh S t c aA false)) _ =_;rw[aq (by rw[tY a (x:=jh S t c aA false) rfl rfl hd hi,BF (a1 hf)])];rfl
theorem aci(hn:110<=n)(a:tE true n S t h k)(h4:o7 (bC S k)){c:aC}(hd:c.Do=2)(hR:c.R=h){s b:Int}(hA:c.A=s)(hB:c.B=b)(ho:sW s b=true)(hf:eJ (bC S k) s b=false)(hq:(S.dx.T.aT k).fU<bx (bC S k).aK+eS s):
  cq n S t c aA=some (S,⟨6,0,0⟩,[]):=by
 obtain⟨i,hi⟩:=Ph;obtain⟨_,a2,_⟩:=Fo hn a h4 (x:=jh S t c aA false) rfl rfl hR hA hB ho;unfold cq;rw[aZ];show bd (bM n (jh S t c aA false)) _ =_;rw[aq (by rw[tY a (x:=jh S t c aA false) rfl rfl hd hi,adV (a2 hf hq)])];rfl
theorem UP(hn:110<=n)(a:tE true n S t h k)(h4:o7 (bC S k)){c:aC}(hd:c.Do=2)(hR:c.R=h){s b:Int}(hA:c.A=s)(hB:c.B=b)(ho:sW s b=true)(hf:eJ (bC S k) s b=false)(hq:bx (bC S k).aK+eS s<=(S.dx.T.aT k).fU){r:Rn}(r1:r.N=eS s)(r2:HW r.At r.N)(r3:∀p,r.At<=p->p<r.At+r.N->¬bZ (bC S k).aK p):
  cq n S t c r=some (iI S k ⟨(bC S k).aK++[r],32*bx (bC S k).aK+s⟩,⟨0,32*bx (bC S k).aK,0⟩,[]):=by
 obtain⟨i,hi⟩:=Ph;obtain⟨_,_,_,a4⟩:=Fo hn a h4 (x:=jh S t c r false) rfl rfl hR hA hB ho;unfold cq;rw[aZ];show bd (bM n (jh S t c r false)) _ =_;rw[aq (by rw[tY a (x:=jh S t c r false) rfl rfl hd hi,BF (a4 hf hq rfl r1 r2 r3)])];rfl
theorem Tl{c:aC}(a:tE w n S t h k)(hd:c.Do=2)(hR:c.R=h):cv n S c=some ([],2):=by obtain⟨u,hu⟩:=a.get;unfold cv;rw[hR,aq hu,av (by rfl),aX (by rw[hd];rfl)]
theorem acs(hn:110<=n)(a:tE true n S t h k)(h4:o7 (bC S k)){c:aC}(hd:c.Do=2)(hR:c.R=h){s b:Int}(hA:c.A=s)(hB:c.B=b)(ho:sW s b=true):
  fX n S t c=some (if eJ (bC S k) s b=true then 0 else if bx (bC S k).aK+eS s<=(S.dx.T.aT k).fU then 0 else 6):=by
 obtain⟨n1,n2,n3⟩:=BR ho;unfold fX;rw[aq (TC hn a h4 hd hR hA hB ho)];unfold Ld;cases hf:eJ (bC S k) s b with
 |true=>rw[aia rfl,aia rfl,av (by simp),aq (Pj hn a h4 hd hR hA hB ho hf)];rfl
 |false=>
  have hff:¬(false=true):=by simp
  rw[aib hff,aib hff];by_cases hq:bx (bC S k).aK+eS s<=(S.dx.T.aT k).fU
  ·rw[aia hq,aia hq,aX (by simp;omega)]
  ·rw[aib hq,aib hq,av (by simp),aq (aci hn a h4 hd hR hA hB ho hf (by omega))];rfl
theorem Pq{c:aC}(a:tE w n S t h k)(h4:o7 (bC S k))(hd:c.Do=3\/(c.Do=4/\w=true))(hR:c.R=h)(hA:0<=c.A/\c.A<4294967296)(hB:1<=c.B/\c.B<=8):
  fX n S t c=some (if c.A+c.B<=(bC S k).eY then 0 else 9):=by
 unfold fX;rw[aq (BV (by omega)),av (by simp),aq (ack a h4 hd hR hA hB)];rfl
end
end Go.Proofs.Z
