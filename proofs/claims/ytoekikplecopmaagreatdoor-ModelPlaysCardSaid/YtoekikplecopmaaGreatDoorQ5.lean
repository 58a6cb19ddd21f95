/- Part 5 of what a proof leans on; pruned and shortened by a program out of longer texts. -/
import Derived.Test.YtoekikplecopmaaGreatDoorQ4
namespace Go.Proofs.Z
open Go Go.Bw
def Iq(y:Rn):List Int:=(List.range (32*y.N).toNat).map λ(k:Nat)=>32*y.At+(k:Int)
def oD(l:List Rn):List Int:=l.flatMap Iq
theorem Us(y:Rn):(Iq y).length=(32*y.N).toNat:=by simp[Iq]
theorem R4(y:Rn)(l:List Rn):oD (y::l)=Iq y++oD l:=by simp[oD]
theorem Uu(l m:List Rn):oD (l++m)=oD l++oD m:=by simp[oD]
theorem Ut(y:Rn):oD [y]=Iq y:=by simp[oD]
theorem xM:∀{l:List Rn},EH l->((oD l).length:Int)=32*ep l
 |[],_ =>by simp[oD,ep]
 |y::r,h=>by have h1:=h y (by simp);have h2:=xM (l:=r) λz hz=>h z (by simp[hz]);rw[R4,List.length_append,Us,mP];omega
theorem Nn{l:List Rn}(h:EH l)(i:Nat):ep (l.take i)<=ep l/\0<=ep (l.take i):=by
 have h1:ep (l.take i)+ep (l.drop i)=ep l:=by rw[← xm,List.take_append_drop]
 have h2:0<=ep (l.drop i):=uN λz hz=>h z (List.mem_of_mem_drop hz);have h3:0<=ep (l.take i):=uN λz hz=>h z (List.mem_of_mem_take hz);omega
theorem Tq(k:Nat)(f:Nat->Int):(List.range (k+1)).map f=(List.range k).map f++[f k]:=by rw[List.range_succ,List.map_append];rfl
structure Gx(l:List Rn):Prop where
 gd:CY l
 sum:ep l<=64
theorem aaI:∀{l:List Rn},EH l->(l.length:Int)<=ep l
 |[],_ =>by simp[ep]
 |y::r,h=>by have h1:=h y (by simp);have h2:=aaI (l:=r) λz hz=>h z (by simp[hz]);rw[mP,List.length_cons];omega
theorem Gx.len{l:List Rn}(h:Gx l):l.length<=64:=by have:=aaI h.gd.Yn;have:=h.sum;omega
theorem Gx.pos{l:List Rn}(h:Gx l):0<=ep l:=uN h.gd.Yn
theorem Zf{l:List (Nat->Int)}{i:Nat}:(l.getD i default) 0=(jB (l.getD i default)).At:=rfl
theorem afE{l:List (Nat->Int)}{i:Nat}:(l.getD i default) 1=(jB (l.getD i default)).N:=rfl
theorem E6{n:Nat}(hn:2100<=n){x:bR}(hx:Gx (x.aP.map jB)):gL n x=some (oD (x.aP.map jB)):=by
 unfold gL;have hlen:x.aP.length<=64:=by have:=hx.len;simpa using this
 refine dY (λ(o:List Int) (i:Int)=>0<=i/\i<=x.aP.length/\o=oD ((x.aP.map jB).take i.toNat)) (λ_ i=>((x.aP.length:Int)-i).toNat) (λo=>o=some (oD (x.aP.map jB))) ?_ n [] 0 ⟨by omega,by omega,rfl⟩ (by omega);rintro kk o i ⟨i0,i1,rfl⟩ ih;obtain⟨i,rfl⟩:=Int.eq_ofNat_of_zero_le i0;rw[apx];by_cases c:i<x.aP.length
 ·have g1:bM (i:Int) x.aP.length=true:=bG (by omega) (by omega)
  have hi:i<(x.aP.map jB).length:=by rw[List.length_map];exact c
  have hy:=hx.gd.oh _ (List.getElem_mem hi);have hg:=OE c;have ht:(x.aP.map jB).take (i+1)=(x.aP.map jB).take i++[(x.aP.map jB)[i]]:=apC hi;have hs:=Nn hx.gd.Yn (i+1);have hsum:=hx.sum;have hb:=xM (l:=(x.aP.map jB).take i) (λz hz=>hx.gd.Yn z (List.mem_of_mem_take hz));rw[ht,xm]at hs;generalize(x.aP.map jB)[i]=y at *;have h1:ep [y]=y.N:=by simp[ep]
  obtain⟨y1,y2,y3⟩:=hy;have hs0:=(Nn hx.gd.Yn i).2;rw[ak (by simpa using c)];simp only[Zf,afE,hg,au g1];rw[aL (x:=32*y.N) (by omega) (by omega)];refine dY (λ(o:List Int) (k:Int)=>0<=k/\k<=32*y.N/\o=oD ((x.aP.map jB).take i)++(List.range k.toNat).map λ(j:Nat)=>32*y.At+(j:Int)) (λ_ k=>(32*y.N-k).toNat) (λo=>o=some (oD (x.aP.map jB))) ?_ n _ 0 ⟨by omega,by omega,by simp⟩ (by omega);rintro k2 o2 k ⟨k0,k1,rfl⟩ Sz;obtain⟨k,rfl⟩:=Int.eq_ofNat_of_zero_le k0;rw[apx];by_cases d:(k:Int)<32*y.N
  ·rw[ak (by simpa using d),au (fq (by simp only[List.length_append,List.length_map,List.length_range];omega) (by simp only[List.length_append,List.length_map,List.length_range];omega)),aJ]
   rw[aL (x:=32*y.At) (by omega) (by omega),aL (x:=32*y.At+k) (by omega) (by omega),aL (by omega) (by omega)];refine Sz _ _ ⟨by omega,by omega,?_⟩ (by omega);have e1:((k:Int)+1).toNat=k+1:=by omega
   rw[e1,Tq,List.append_assoc]
  ·rw[ae (by simpa using d),aL (by omega) (by omega)]
   refine ih _ _ ⟨by omega,by omega,?_⟩ (by omega);have e1:((i:Int)+1).toNat=i+1:=by omega
   have e2:(32*y.N).toNat=k:=by omega
   rw[e1,ht,Uu,Ut,Iq,e2]
 ·rw[ae (by simpa using c),List.take_of_length_le (by rw[List.length_map];omega)]
theorem C8{l:List Rn}{y:Rn}{p:Int}:dO (l++[y]) p↔dO l p\/(y.At<=p/\p<y.At+y.N):=by rw[ku,nj]
theorem wJ{n:Nat}(hn:110<=n){x:bR}(hl:x.aP.length<=80)(hr:∀y∈x.aP.map jB,BB y.At/\BB y.N):∃b,dS n x=some b/\(b=true↔CY (x.aP.map jB)/\0<=x.lu/\x.lu<=32*ep (x.aP.map jB)):=by
 unfold dS;refine rR (λ(s i:Int) (t:Nat->Bool)=>0<=i/\i<=x.aP.length/\CY ((x.aP.map jB).take i.toNat)/\s=ep ((x.aP.map jB).take i.toNat)/\∀p:Nat,p<64->(t p=true↔dO ((x.aP.map jB).take i.toNat) p)) (λ_ i _ =>((x.aP.length:Int)-i).toNat)
  (λo=>∃b,o=some b/\(b=true↔CY (x.aP.map jB)/\0<=x.lu/\x.lu<=32*ep (x.aP.map jB))) ?_ n 0 0 _ ⟨by omega,by omega,CY.nil,rfl,λp _ =>⟨λh=>by simp at h,λh=>by simp[dO]at h⟩⟩ (by omega)
 rintro kk s i t ⟨i0,i1,hg,rfl,ht⟩ ih;obtain⟨i,rfl⟩:=Int.eq_ofNat_of_zero_le i0;rw[apx]at *;by_cases c:i<x.aP.length
 ·have g1:bM (i:Int) x.aP.length=true:=bG (by omega) (by omega)
  have hi:i<(x.aP.map jB).length:=by rw[List.length_map];exact c
  have hy:=hr _ (List.getElem_mem hi);have hgt:=OE c;have Jl:(x.aP.map jB).take (i+1)=(x.aP.map jB).take i++[(x.aP.map jB)[i]]:=apC hi;have xG:CY (x.aP.map jB)->CY ((x.aP.map jB).take (i+1)):=λh=>by rw[← List.take_append_drop (i+1) (x.aP.map jB)]at h;exact⟨λy hy=>h.oh y (apz _ hy),(List.pairwise_append.1 h.pw).1⟩
  have Qk:ep ((x.aP.map jB).take i)<=80*64:=by
   have:∀(l:List Rn),(∀y∈l,Ko y.At y.N)->ep l<=l.length*64:=by
    intro l
    induction l with
    |nil=>intro _;simp[ep]
    |cons y r ih=>intro h;have h1:=h y (by simp);have:=ih λz hz=>h z (by simp[hz]);unfold Ko at h1;rw[mP,List.length_cons];omega
   have h2:=this _ hg.oh;have h3:((x.aP.map jB).take i).length<=80:=by rw[List.length_take,List.length_map];omega
   omega
  have ape:0<=ep ((x.aP.map jB).take i):=uN hg.Yn;rw[Jl]at xG;generalize(x.aP.map jB)[i]=y at *;rw[ak (by simpa using c)];simp only[Zf,afE,apx,hgt,au g1];obtain⟨⟨a1,a2⟩,n1,n2⟩:=hy;by_cases hk:Ko y.At y.N
  ·obtain⟨k1,k2,k3⟩:=hk
   rw[aL (x:=y.At+y.N) (by omega) (by omega),ae (by simp;omega)];refine dY (λ(p:Int) (t:Nat->Bool)=>y.At<=p/\p<=y.At+y.N/\(∀q,y.At<=q->q<p->¬dO ((x.aP.map jB).take i) q)/\∀q:Nat,q<64->(t q=true↔dO ((x.aP.map jB).take i) q\/(y.At<=(q:Int)/\(q:Int)<p))) (λp _ =>(y.At+y.N-p).toNat)
    (λo=>∃b,o=some b/\(b=true↔CY (x.aP.map jB)/\0<=x.lu/\x.lu<=32*ep (x.aP.map jB))) ?_ n _ t ⟨by omega,by omega,λq _ _ =>by omega,λq hq=>by rw[ht q hq];exact⟨.inl,λh=>h.elim id λh=>by omega⟩⟩ (by omega)
   rintro k4 p t2 ⟨p0,p1,p2,p3⟩ Sz;obtain⟨p,rfl⟩:=Int.eq_ofNat_of_zero_le (show 0<=p by omega);by_cases d:(p:Int)<y.At+y.N
   ·have e1:bM (p:Int) 64=true:=bG (by omega) (by omega)
    rw[ak (by simpa using d),au e1,apx];have hp:=p3 p (by omega);by_cases m:dO ((x.aP.map jB).take i) p
    ·rw[ak (hp.2 (.inl m))]
     exact⟨false,rfl,λh=>(by cases h),λ⟨h,_⟩=>absurd m ((zw.1 (xG h)).2.2 p p0 d)⟩
    ·have:t2 p=false:=by
      cases hh:t2 p with
      |false=>rfl
      |true=>
       rcases hp.1 hh with h|h
       ·exact absurd h m
       ·omega
     rw[ae this,au e1,aJ,aL (by omega) (by omega)];refine Sz _ _ ⟨by omega,by omega,λq q1 q2=>?_,λq hq=>?_⟩ (by omega)
     ·by_cases e:q=p
      ·subst e;exact m
      ·exact p2 q q1 (by omega)
     ·rw[bK]
      by_cases e:q=p
      ·subst e;simp;exact .inr ⟨p0,by omega⟩
      ·rw[apt e,p3 q hq]
       exact⟨λh=>h.imp id λh=>⟨h.1,by omega⟩,λh=>h.imp id λh=>⟨h.1,by omega⟩⟩
   ·rw[ae (by simpa using d),aL (by omega) (by omega),aL (by omega) (by omega)]
    have e1:((i:Int)+1).toNat=i+1:=by omega
    refine ih _ _ _ ⟨by omega,by omega,?_,?_,λq hq=>?_⟩ (by omega)
    ·rw[e1,Jl]
     exact zw.2 ⟨hg,⟨k1,k2,k3⟩,λq q1 q2=>p2 q q1 (by omega)⟩
    ·rw[e1,Jl,xm];simp[ep]
    ·rw[e1,Jl,C8,p3 q hq]
     exact⟨λh=>h.imp id λh=>⟨h.1,by omega⟩,λh=>h.imp id λh=>⟨h.1,by omega⟩⟩
  ·have hb:(((((decide (y.N<1)||decide (64<y.N))||decide (y.At<0))||decide (63<y.At))||decide (64<(wr .i64 (y.At+y.N)))):Bool)=true:=by
    unfold Ko at hk;by_cases h1:y.N<1
    ·simp[h1]
    by_cases h2:64<y.N
    ·simp[h2]
    by_cases h3:y.At<0
    ·simp[h3]
    by_cases h4:63<y.At
    ·simp[h4]
    rw[aL (x:=y.At+y.N) (by omega) (by omega)];have:64<y.At+y.N:=by omega
    simp[this]
   rw[ak hb];exact⟨false,rfl,λh=>(by cases h),λ⟨h,_⟩=>absurd (zw.1 (xG h)).2.1 hk⟩
 ·rw[ae (by simpa using c)]
  have e:(x.aP.map jB).take i=x.aP.map jB:=List.take_of_length_le (by rw[List.length_map];omega);rw[e]at hg ht ⊢;have h2:ep (x.aP.map jB)<=80*64/\0<=ep (x.aP.map jB):=by
   have:∀(l:List Rn),(∀y∈l,Ko y.At y.N)->ep l<=l.length*64:=by
    intro l
    induction l with
    |nil=>intro _;simp[ep]
    |cons y r ih=>intro h;have h1:=h y (by simp);have:=ih λz hz=>h z (by simp[hz]);unfold Ko at h1;rw[mP,List.length_cons];omega
   have h2:=this _ hg.oh;rw[List.length_map]at h2;exact⟨by omega,uN hg.Yn⟩
  rw[aL (by omega) (by omega)];refine⟨_,rfl,?_⟩;rw[apv,decide_eq_true_iff,decide_eq_true_iff];exact⟨λh=>⟨hg,h⟩,λh=>h.2⟩
def Xi(y:Rn):List Int:=(List.range y.N.toNat).map λ(k:Nat)=>y.At+(k:Int)
theorem Q8{y:Rn}{p:Int}:p∈Xi y↔y.At<=p/\p<y.At+y.N:=by
 unfold Xi;rw[List.mem_map];constructor
 ·rintro⟨k,hk,rfl⟩
  rw[List.mem_range]at hk;omega
 ·intro h
  exact⟨(p-y.At).toNat,by rw[List.mem_range];omega,by omega⟩
theorem ad4(y:Rn):(Xi y).Nodup:=by unfold Xi;rw[List.Nodup,List.pairwise_map];exact List.nodup_range.imp λh e=>h (by omega)
theorem Zo{α:Type}{P:List α->Prop}(h0:P [])(h1:∀l y,P l->P (l++[y]))(l:List α):P l:=by
 have key:∀(r:List α),P r.reverse:=by
  intro r
  induction r with
  |nil=>exact h0
  |cons y r ih=>rw[List.reverse_cons];exact h1 _ _ ih
 have:=key l.reverse;rwa[List.reverse_reverse]at this
theorem adK:∀(l:List Rn),CY l->∃t:List Int,t.Nodup/\(∀p,p∈t↔dO l p)/\(t.length:Int)=ep l:=by
 intro l
 induction l using Zo with
 |h0=>intro _;exact⟨[],List.nodup_nil,by simp[dO],by simp[ep]⟩
 |h1 l y ih=>
  intro h;obtain⟨h1,h2,h3⟩:=zw.1 h;obtain⟨t,t1,t2,t3⟩:=ih h1;refine⟨t++Xi y,List.nodup_append.2 ⟨t1,ad4 y,λa ha b hb e=>?_⟩,λp=>?_,?_⟩
  ·subst e
   have:=Q8.1 hb;exact h3 _ this.1 this.2 ((t2 _).1 ha)
  ·rw[List.mem_append,t2,Q8,C8]
  ·have:=h2.1
   rw[List.length_append,xm];simp only[Xi,List.length_map,List.length_range,ep,List.map_cons,List.map_nil,List.sum_cons,List.sum_nil]at *;omega
theorem VU{l:List Rn}(h:CY l):ep l<=64:=by
 obtain⟨t,t1,t2,t3⟩:=adK l h;have:=HR 64 t1 λp hp=>by obtain⟨y,hy,h1,h2⟩:=(t2 p).1 hp;obtain⟨a,b,c⟩:=h.oh y hy;exact⟨by omega,by omega⟩
 omega
theorem VO{l:List Rn}(h:CY l):Gx l:=⟨h,VU h⟩
end Go.Proofs.Z
namespace Go.Proofs.Z
open Go Go.Bw
def HD(x a:Int):Int:=(x+a-1)/a*a
def al4(a:Int):Prop:=a=1\/a=2\/a=4\/a=8
theorem qP{s a:Int}:vC s a=true↔(1<=s/\s<=128)/\al4 a:=by unfold vC al4;simp[or_assoc]
theorem C2{x a:Int}(ha:al4 a):x<=HD x a/\HD x a<=x+a-1/\HD x a%a=0/\∀y,x<=y->y<=HD x a->y%a=0->y=HD x a:=by unfold HD;rcases ha with rfl|rfl|rfl|rfl<;>exact⟨by omega,by omega,by omega,λy _ _ _ =>by omega⟩
theorem akd{n:Nat}{x a:Int}(h0:0<=x)(h1:x<=100000)(ha:al4 a):nv n x a=some (HD x a):=by
 unfold nv HD;obtain⟨x,rfl⟩:=Int.eq_ofNat_of_zero_le h0;rcases ha with rfl|rfl|rfl|rfl
 ·have:=De (x:=x) (m:=0) (by omega) (by omega)
  rw[aL (x:=(x:Int)+1) (by omega) (by omega),aL (x:=(x:Int)+1-1) (by omega) (by omega),show wr .i64 (1-1)=((2^0-1:Nat):Int)by decide,show(x:Int)+1-1=((x:Nat):Int)by omega,this];congr 1
 ·have:=De (x:=x+1) (m:=1) (by omega) (by omega)
  rw[aL (x:=(x:Int)+2) (by omega) (by omega),aL (x:=(x:Int)+2-1) (by omega) (by omega),show wr .i64 (2-1)=((2^1-1:Nat):Int)by decide,show(x:Int)+2-1=((x+1:Nat):Int)by omega,this];congr 1
 ·have:=De (x:=x+3) (m:=2) (by omega) (by omega)
  rw[aL (x:=(x:Int)+4) (by omega) (by omega),aL (x:=(x:Int)+4-1) (by omega) (by omega),show wr .i64 (4-1)=((2^2-1:Nat):Int)by decide,show(x:Int)+4-1=((x+3:Nat):Int)by omega,this];congr 1
 ·have:=De (x:=x+7) (m:=3) (by omega) (by omega)
  rw[aL (x:=(x:Int)+8) (by omega) (by omega),aL (x:=(x:Int)+8-1) (by omega) (by omega),show wr .i64 (8-1)=((2^3-1:Nat):Int)by decide,show(x:Int)+8-1=((x+7:Nat):Int)by omega,this];congr 1
structure Nh(e:bg):Prop where
 gx:Gx e.aP
 lo:0<=e.lu
 hi:e.lu<=32*ep e.aP
def wc(e:bg)(s a:Int):Bool:=vC s a&&decide (HD e.lu a+s<=32*ep e.aP)
def VZ(e:bg)(s a:Int):Int×Bool:=if wc e s a=true then(HD e.lu a,true)else(0,false)
theorem TA{n:Nat}(hn:110<=n){e:bg}(h:Nh e):fe n e=some (ep e.aP):=by have:=h.gx.len;have:=h.gx.sum;exact QV (by omega) (by omega) h.gx.gd.Yn (by omega)
theorem VY{n:Nat}(hn:110<=n){e:bg}(h:Nh e)(s a:Int):my n e s a=some (VZ e s a):=by
 unfold my;have h1:=h.lo;have h2:=h.hi;have h3:=h.gx.sum;have h4:=h.gx.pos;rw[ah (NF (by omega) s a)];unfold VZ wc;cases ho:vC s a with
 |false=>rfl
 |true=>
  obtain⟨⟨o1,o2⟩,o3⟩:=qP.1 ho;obtain⟨u1,u2,_⟩:=C2 (x:=e.lu) o3;have ha:a<=8:=by rcases o3 with rfl|rfl|rfl|rfl<;>omega
  rw[ae (b:= !true) rfl,ah (akd h1 (by omega) o3),ah (TA hn h),aL (by omega) (by omega),aL (by omega) (by omega)];by_cases c:ep e.aP*32<HD e.lu a+s
  ·rw[ak (by simpa using c),apt (by simp;omega)]
  ·rw[ae (by simpa using c),aps (by simp;omega)]
theorem adJ{n:Nat}(hn:110<=n){e:bg}(h:Nh e)(s a:Int):nu n e s a=some (if wc e s a=true then(⟨e.aP,HD e.lu a+s⟩,HD e.lu a,true)else(e,0,false)):=by
 unfold nu;rw[ah (VY hn h s a)];unfold VZ;have h1:=h.lo;have h2:=h.hi;have h3:=h.gx.sum;have h4:=h.gx.pos;cases hf:wc e s a with
 |false=>rfl
 |true=>have hf':=hf;unfold wc at hf;rw[apv,decide_eq_true_iff,qP]at hf;obtain⟨⟨⟨o1,o2⟩,o3⟩,o4⟩:=hf;obtain⟨u1,u2,_⟩:=C2 (x:=e.lu) o3;rw[aps rfl,aps rfl,ak rfl,aJ];dsimp only;rw[aL (by omega) (by omega)]
theorem Tn{n:Nat}(hn:2100<=n){x:bR}{e:bg}(h:Nh e)(he:e.aP=x.aP.map jB)(hl:e.lu=x.lu)(s a:Int):pe n x s a=some (if wc e s a=true then HD e.lu a else -1):=by
 unfold pe;have h1:=h.lo;have h2:=h.hi;have h3:=h.gx.sum;have h4:=h.gx.pos;rw[ah (E6 hn (by rw[← he];exact h.gx)), ← he];have hb:=xM h.gx.gd.Yn;cases ho:vC s a with
 |false=>obtain⟨m,rfl⟩:∃m,n=m+1:=⟨n-1,by omega⟩;simp only[eU];rw[ah (wz _ s a),ho];unfold wc;rw[ho];rfl
 |true=>
  obtain⟨⟨o1,o2⟩,o3⟩:=qP.1 ho;obtain⟨u1,u2,u3,u4⟩:=C2 (x:=e.lu) o3;have ha:1<=a/\a<=8:=by rcases o3 with rfl|rfl|rfl|rfl<;>omega
  rw[← hl];refine fK (λ(p:Int)=>e.lu<=p/\p<=HD e.lu a) (λp=>(HD e.lu a-p).toNat) (λo=>o=some (if wc e s a=true then HD e.lu a else -1)) ?_ n e.lu ⟨by omega,by omega⟩ (by omega);rintro kk p ⟨p0,p1⟩ ih;rw[ah (wz _ s a),ho,aL (x:=p+s) (by omega) (by omega),hb,Bool.true_and];unfold wc;rw[ho,Bool.true_and];by_cases c:p+s<=32*ep e.aP
  ·rw[ak (by simpa using c),au (by simp;omega),K5 (by omega)]
   by_cases d:p%a=0
   ·obtain rfl:=u4 p p0 p1 d
    rw[ak (by simpa using d),aps (by simpa using c)]
   ·rw[ae (by simpa using d),aL (by omega) (by omega)]
    have:p≠HD e.lu a:=λhp=>d (hp▸u3);have:=ih (p+1) ⟨by omega,by omega⟩ (by omega);unfold wc at this;rw[ho,Bool.true_and]at this;exact this
  ·rw[ae (by simpa using c),apt (by simp;omega)]
theorem aey{n:Nat}(hn:110<=n){e:bg}(h:Nh e)(r:Rn):jS n e r=some ⟨e.aP++[r],32*ep e.aP⟩:=by unfold jS;have:=h.gx.len;have:=h.gx.sum;have:=h.gx.pos;rw[au (fq (by omega) (by omega)),aJ,ah (TA hn h),aJ,aL (by omega) (by omega),Int.mul_comm]
theorem adb(a b:Int):jB (dy (dy (λ_ =>0) 0 a) 1 b)=⟨a,b⟩:=rfl
end Go.Proofs.Z
namespace Go.Proofs.Z
open Go Go.Bw
theorem fm{w:aD}{h:Int}(hg:aM w h=true):h<4294967296:=K7 (lX.1 hg).1
theorem NP(w:aD):aM w 0=false:=rfl
theorem oS{w:aD}{h:Int}(hg:aT w h):0<h:=by
 have:=hg.1;rcases Int.lt_or_eq_of_le this with h1|h1
 ·exact h1
 ·subst h1;have:=hg.2;rw[NP]at this;cases this
structure J5(p:aS)(x:bL):Prop where
 q:p.cu=x.cu
 e:p.E=⟨x.E.aP.map jB,x.E.lu⟩
 n:x.E.aP.length<=80
 r:∀y∈x.E.aP.map jB,BB y.At/\BB y.N
 c:∀i,i<8->p.bC i=x.bC i
 c0:∀i,i<8->0<=x.bC i/\x.bC i<=4294967295
theorem J5.aks{p:aS}{x:bL}(h:J5 p x)(u v:Int):J5 {p with Up:=u} {x with Up:=v}:=⟨h.q,h.e,h.n,h.r,h.c,h.c0⟩
def UZ(B:aD)(h:Int):Int:=if aM B h=true then h else 0
structure gY(t:av)(w:ai):Prop where
 bj:RB t.bj.og w.B
 ZJ:∀i,i<32->w.B.Is i=1->J5 (t.cP i) (w.R i)
 up:∀i,i<32->w.B.Is i=1->(w.R i).Up=UZ w.B (t.cP i).Up
 old:∀i,i<32->w.B.Is i=1->(t.cP i).Up=0\/sP w.B (t.cP i).Up
def Rk5(w:ai)(ρ:Nat->Nat):Prop:=∀i,i<32->w.B.Is i=1->(w.R i).Up≠0->ρ (aZ (w.R i).Up)<ρ i
def j8(w:ai):Prop:=∃ρ:Nat->Nat,Rk5 w ρ
theorem gY.up0{t:av}{w:ai}(r:gY t w){i:Nat}(hi:i<32)(h1:w.B.Is i=1):(w.R i).Up=0\/aT w.B (w.R i).Up:=by
 rw[r.up i hi h1];unfold UZ;split
 ·rename_i h
  rcases r.old i hi h1 with h2|h2
  ·exact .inl h2
  ·exact .inr ⟨h2.1,h⟩
 ·exact .inl rfl
theorem eR{w:aD}{x:Int}(h:aT w x):aZ x<32/\w.Is (aZ x)=1:=⟨iW x,(gW h.2).2.1⟩
theorem gY.ups{t:av}{w:ai}(r:gY t w){x:Int}(hx:aT w.B x):(w.R (aZ x)).Up=0\/aT w.B (w.R (aZ x)).Up:=r.up0 (eR hx).1 (eR hx).2
theorem ia(h:Int):bM (mH h) 32=true:=bG (fN h).1 (by have:=fN h;omega)
theorem Y6{n:Nat}{t:av}{w:ai}(r:gY t w){x:Int}(hx:aT w.B x):mg n t x=some (w.R (aZ x)).Up:=by
 unfold mg;obtain⟨l1,l2⟩:=eR hx;have ho:=r.old _ l1 l2;have hu:0<=(t.cP (aZ x)).Up/\(t.cP (aZ x)).Up<4294967296:=by
  rcases ho with h|h
  ·rw[h];decide
  ·exact⟨h.1,K7 h.2.1⟩
 rw[ah (qm hx.1 (fm hx.2)),au (ia x)];show bd (aU n t.bj.og (t.cP (aZ x)).Up) _ =_;rw[ah (nU r.bj hu.1 hu.2),r.up _ l1 l2];unfold UZ;show cn (aM w.B (t.cP (aZ x)).Up) (some (t.cP (aZ x)).Up) (some 0)=_;cases hg:aM w.B (t.cP (aZ x)).Up with
 |true=>rw[ak rfl,aps rfl]
 |false=>rw[ae rfl,apt (by decide)]
def o5(t:av)(w:ai)(h:Int):aS:={t.cP (aZ h)with Up:=(w.R (aZ h)).Up}
def ahm:aS:={Up:=0,cu:=0,E:=dJ,bC:=(λ_ =>0)}
theorem Ar{n:Nat}{t:av}{w:ai}(r:gY t w){h:Int}(h0:0<=h)(h1:h<4294967296):eF n t h=some (if aM w.B h=true then(o5 t w h,0)else(ahm,4)):=by
 unfold eF;rw[ah (nU r.bj h0 h1)];cases hg:aM w.B h with
 |false=>rfl
 |true=>rw[ae (b:= !true) rfl,ah (qm h0 h1),au (ia h),aJ,ah (Y6 r ⟨h0,hg⟩),aJ,aps rfl];rfl
theorem La{n:Nat}(hn:40<=n){t:av}{w:ai}(r:gY t w){h:Int}(hg:aT w.B h):oN n w h=some (w.R (aZ h),0):=by unfold oN;have hr:=fN h;rw[ah (dk hn r.bj hg.1),hg.2,aps rfl,ae (by simp;omega),au (ia h),aJ];rfl
theorem cm{n:Nat}(hn:40<=n){t:av}{w:ai}(r:gY t w){h:Int}(h0:0<=h):bJ n w h=some (aM w.B h):=by
 unfold bJ;have hr:=fN h;rw[ah (dk hn r.bj h0)];cases aM w.B h with
 |false=>rfl
 |true=>rw[aps rfl];simpa using hr.1
structure Kp5(t:av)(w:ai)(t':av)(w':ai)(who e:Int)(dr:Bool):Prop where
 rt:gY t' w'
 tt:j8 w'
 kp:∀g,aT w.B g->¬(g=who/\e=0)->aT w'.B g/\(t'.cP (aZ g)).cu=(t.cP (aZ g)).cu/\(t'.cP (aZ g)).E=(t.cP (aZ g)).E/\(t'.cP (aZ g)).bC=(t.cP (aZ g)).bC/\
  ((w'.R (aZ g)).Up=(w.R (aZ g)).Up\/(dr=true/\e=0/\(w.R (aZ g)).Up=who/\who≠0/\(w'.R (aZ g)).Up=0))
theorem Kp5.cW{t:av}{w:ai}(r:gY t w)(tt:j8 w)(who e:Int)(dr:Bool):Kp5 t w t w who e dr:=⟨r,tt,λ_ hg _ =>⟨hg,rfl,rfl,rfl, .inl rfl⟩⟩
theorem OA{b:bn}{w:aD}(r:RB b w){h:Int}(h0:0<=h)(x:Int):aT (Bz w h) x↔aT w x/\x≠h:=XI r h0 x
theorem agH{b:bn}{w:aD}(r:RB b w){h u:Int}(hg:aT w h)(hu:0<=u):UZ (Bz w h) u=if UZ w u=h then 0 else UZ w u:=by
 have hv:=OA r hg.1 u;have hp:=oS hg;unfold UZ;cases h1:aM w u with
 |false=>
  have:aM (Bz w h) u≠true:=λh2=>by have:=(hv.1 ⟨hu,h2⟩).1.2;rw[h1]at this;cases this
  rw[apt this];simp
 |true=>
  rw[aps rfl];by_cases e:u=h
  ·rw[aps e,apt (λh2=>(hv.1 ⟨hu,h2⟩).2 e)]
  ·rw[apt e,aps (hv.2 ⟨⟨hu,h1⟩,e⟩).2]
theorem Xe{n:Nat}(hn:40<=n)(h:Int)(w:ai):∃w':ai,cJ (λk51 (mG:Int) (vJ:ai)=>cn (decide (mG<32)) (gu (bM mG 32)<|cn ((((vJ.R (Int.toNat mG)).Up)==h)) (gu (bM mG 32)<|lt ({vJ with R:=(dy vJ.R (Int.toNat mG) ({(vJ.R (Int.toNat mG))with Up:=0}))}:ai) λD5=>k51 (wr .i64 (mG+1)) D5) (k51 (wr .i64 (mG+1)) vJ)) (some (vJ,(0:Int)))) n 0 w=some (w',0)/\w'.B=w.B/\∀i,i<32->w'.R i=if(w.R i).Up=h then{w.R i with Up:=0}else w.R i:=by
 refine dY (λ(i:Int) (v:ai)=>0<=i/\i<=32/\v.B=w.B/\∀j,v.R j=if j<i.toNat/\(w.R j).Up=h then{w.R j with Up:=0}else w.R j) (λi _ =>(32-i).toNat)
  (λo=>∃w':ai,o=some (w',0)/\w'.B=w.B/\∀i,i<32->w'.R i=if(w.R i).Up=h then{w.R i with Up:=0}else w.R i) ?_ n 0 w ⟨by omega,by omega,rfl,λj=>by simp⟩ (by omega)
 rintro kk i v ⟨i0,i1,hb,hv⟩ ih;by_cases c:i<32
 ·have hi:=hv i.toNat
  rw[apt (λhh=>absurd hh.1 (Nat.lt_irrefl _))]at hi;rw[ak (by simpa using c),au (bG i0 (by omega)),hi,aL (x:=i+1) (by omega) (by omega)];have e1:(i+1).toNat=i.toNat+1:=by omega
  by_cases hu:(w.R i.toNat).Up=h
  ·rw[ak (by simpa using hu),au (bG i0 (by omega)),aJ]
   refine ih _ _ ⟨by omega,by omega,hb,λj=>?_⟩ (by omega);show dy v.R i.toNat _ j=_;rw[bK];by_cases ej:j=i.toNat
   ·subst ej;rw[aps rfl,aps ⟨by omega,hu⟩]
   ·rw[apt ej,hv j]
    by_cases hj:(w.R j).Up=h
    ·by_cases hl:j<i.toNat
     ·rw[aps ⟨hl,hj⟩,aps ⟨by omega,hj⟩]
     ·rw[apt (λhh=>hl hh.1),apt (λhh=>by omega)]
    ·rw[apt (λhh=>hj hh.2),apt (λhh=>hj hh.2)]
  ·rw[ae (by simpa using hu)]
   refine ih _ _ ⟨by omega,by omega,hb,λj=>?_⟩ (by omega);rw[hv j];by_cases ej:j=i.toNat
   ·subst ej;rw[apt (λhh=>hu hh.2),apt (λhh=>hu hh.2)]
   ·by_cases hj:(w.R j).Up=h
    ·by_cases hl:j<i.toNat
     ·rw[aps ⟨hl,hj⟩,aps ⟨by omega,hj⟩]
     ·rw[apt (λhh=>hl hh.1),apt (λhh=>by omega)]
    ·rw[apt (λhh=>hj hh.2),apt (λhh=>hj hh.2)]
 ·rw[ae (by simpa using c)]
  refine⟨v,rfl,hb,λj hj=>?_⟩;rw[hv j];by_cases hu:(w.R j).Up=h
  ·rw[aps ⟨by omega,hu⟩,aps hu]
  ·rw[apt (λhh=>hu hh.2),apt hu]
theorem ama{n:Nat}(hn:40<=n){t:av}{w:ai}(r:gY t w)(tt:j8 w){h:Int}(h0:0<=h)(h1:h<4294967296):
  ∃t' w' e,jF n t h=some (t',e)/\iN n w h=some (w',e)/\Kp5 t w t' w' h e true:=by
 obtain⟨b',e1,r'⟩:=UW (n:=n) r.bj h0 h1;cases hg:aM w.B h with
 |false=>
  refine⟨t,w,4,?_,?_, .cW r tt _ _ _⟩
  ·unfold jF;rw[ah e1,hg];rfl
  ·unfold iN;rw[ah (dk hn r.bj h0),hg];rfl
 |true=>
  have MC:aT w.B h:=⟨h0,hg⟩;obtain⟨w',c1,c2,c3⟩:=Xe (n:=n) hn h {B:=Bz w.B h,R:=dy w.R (aZ h) {Up:=0,cu:=0,E:=bD,bC:=(λ_ =>0)}};have hpos:=oS MC;refine⟨{bj:={t.bj with og:=b'},cP:=dy t.cP (aZ h) ahm},w',0,?_,?_,?_⟩
  ·unfold jF;rw[ah e1,hg,ae (b:= !true) rfl,aJ,ah (qm h0 h1),aJ,au (ia h),aJ];rfl
  ·unfold iN
   have hr:=fN h;rw[ah (dk hn r.bj h0),hg,aps rfl,ae (by simp;omega),ah (F5 hn r.bj h0),aJ,aJ,au (ia h),aJ];exact c1
  have hb:w'.B=Bz w.B h:=c2;have Rt:∀i,i<32->w'.B.Is i=1->w.B.Is i=1/\i≠aZ h:=λi hi hs=>by rw[hb]at hs;refine⟨(Oz hs).1,λe=>?_⟩;subst e;unfold Bz at hs;rw[hg,aps rfl]at hs;exact KX w.B h hs
  have hR:∀i,i<32->i≠aZ h->w'.R i=if(w.R i).Up=h then{w.R i with Up:=0}else w.R i:=λi hi hne=>by have q:=c3 i hi;simp only[jx _ _ hne]at q;exact q
  have hT:∀i,i≠aZ h->dy t.cP (aZ h) ahm i=t.cP i:=λi hne=>jx _ _ hne;have hU:∀i,i<32->i≠aZ h->(w'.R i).Up=if(w.R i).Up=h then 0 else(w.R i).Up:=λi hi hne=>by rw[hR i hi hne];split<;>rfl
  refine⟨⟨?_,λi hi hs=>?_,λi hi hs=>?_,λi hi hs=>?_⟩,?_,λg Ql hne=>?_⟩
  ·rw[hb];exact r'
  ·obtain⟨l1,l2⟩:=Rt i hi hs
   have:=r.ZJ i hi l1;rw[hR i hi l2];dsimp only;rw[hT i l2];split
   ·exact⟨this.q,this.e,this.n,this.r,this.c,this.c0⟩
   ·exact this
  ·obtain⟨l1,l2⟩:=Rt i hi hs
   dsimp only;rw[hT i l2,hU i hi l2,hb];rw[agH r.bj MC,r.up i hi l1];rcases r.old i hi l1 with h|h
   ·rw[h];decide
   ·exact h.1
  ·obtain⟨l1,l2⟩:=Rt i hi hs
   dsimp only;rw[hT i l2,hb];exact(r.old i hi l1).imp _root_.id λhp=>HM (h:=h) _ hp
  ·obtain⟨ρ,hρ⟩:=tt
   refine⟨ρ,λi hi hs hu=>?_⟩;obtain⟨l1,l2⟩:=Rt i hi hs;rw[hU i hi l2]at hu ⊢;by_cases e:(w.R i).Up=h
   ·rw[aps e]at hu;exact absurd rfl hu
   ·rw[apt e]at hu ⊢;exact hρ i hi l1 hu
  ·have aa5:g≠h:=λe=>hne ⟨e,rfl⟩
   have hg':aT w'.B g:=by rw[hb];exact(OA r.bj h0 g).2 ⟨Ql,aa5⟩
   obtain⟨l1,l2⟩:=Rt (aZ g) (iW g) (eR hg').2;refine⟨hg',?_,?_,?_,?_⟩
   ·dsimp only;rw[hT _ l2]
   ·dsimp only;rw[hT _ l2]
   ·dsimp only;rw[hT _ l2]
   ·rw[hU _ (iW g) l2]
    by_cases e:(w.R (aZ g)).Up=h
    ·rw[aps e];exact .inr ⟨rfl,rfl,e,by omega,rfl⟩
    ·rw[apt e];exact .inl rfl
end Go.Proofs.Z
namespace Go.Proofs.Z
open Go Go.Bw
theorem agI{b:bn}{w:aD}(r:RB b w){f:Nat}(hf:CZ w f)(hl:f<32){u:Int}(hu:u=0\/sP w u):UZ (mq w f) u=UZ w u:=by
 rcases hu with h|h
 ·subst h;rfl
 ·have hv:=mw r hf hl u
  have hne:u≠fP f (w.gE f):=λe=>by rw[e]at h;exact Lf r hf hl h
  unfold UZ;by_cases h1:aM w u=true
  ·rw[aps h1,aps (hv.2 (.inl ⟨h.1,h1⟩)).2]
  ·rw[apt h1,apt (λh2=>(hv.1 ⟨h.1,h2⟩).elim (λh3=>h1 h3.2) hne)]
def ok0(B:aD)(a:Int):Bool:=(a==0)||aM B a
theorem Gm{n:Nat}{t:av}{w:ai}(r:gY t w){a:Int}(h0:0<=a)(h1:a<4294967296){ρ:Type}{f:Bool->Option ρ}{g:Bool}:
  cl g (aU n t.bj.og a) default f=f (bif g then aM w.B a else default):=ck (nU r.bj h0 h1)
theorem ur(B:aD)(a:Int):((a !=0)&&(!(bif ((a !=0)==true)then aM B a else default)))= !ok0 B a:=by
 unfold ok0;by_cases h0:a=0
 ·subst h0;rfl
 ·have h1:(a !=0)=true:=by simpa using h0
  have h2:(a==0)=false:=by simpa using h0
  rw[h1,h2];rfl
theorem TF{B:aD}{a:Int}(h0:0<=a)(h:ok0 B a=true):a=0\/aT B a:=by unfold ok0 at h;rw[Bool.or_eq_true,beq_iff_eq]at h;exact h.imp _root_.id λhg=>⟨h0,hg⟩
theorem anS{n:Nat}(hn:40<=n){t:av}{w:ai}(r:gY t w)(tt:j8 w){a q:Int}(a0:0<=a)(a1:a<4294967296):
  ∃t' w' m e,kV n t a q=some (t',m,e)/\fS n w a q=some (w',m,e)/\0<=m/\m<4294967296/\Kp5 t w t' w' m e false:=by
 cases ha:ok0 w.B a with
 |false=>
  refine⟨t,w,0,4,?_,?_,by decide,by decide, .cW r tt _ _ _⟩
  ·unfold kV;rw[Gm r a0 a1,ur,ha];rfl
  ·unfold fS;rw[ck (cm hn r a0),ur,ha];rfl
 |true=>
 rcases Decidable.em (¬(0<=q/\q<=64))with hq|hq
 ·refine⟨t,w,0,2,?_,?_,by decide,by decide, .cW r tt _ _ _⟩
  ·unfold kV;rw[Gm r a0 a1,ur,ha,ae (b:= !true) rfl];unfold rM;rw[ah rfl,ak (by simp;omega)]
  ·unfold fS;rw[ck (cm hn r a0),ur,ha,ae (b:= !true) rfl,ak (by simp;omega)]
 have hq:=Decidable.not_not.1 hq;obtain⟨f,hf⟩:=LM w.B;obtain⟨b',i1,i2⟩:=Lr (n:=n) hn r.bj hf;have i3:=Cb (n:=n) hn r.bj hf;have hP:kV n t a q=(bd (jb n t.bj.og) λiM=>
 cn ((!iM.2.2)) (
 some (t,0,7)) (
 bd (bY n iM.2.1) λl7=>
 gu (bM l7.1 32)<|
 some (⟨⟨iM.1⟩,dy t.cP (Int.toNat l7.1) ⟨a,q,dJ,λ_ =>0⟩⟩,iM.2.1,0))):=by unfold kV;rw[Gm r a0 a1,ur,ha,ae (b:= !true) rfl];unfold rM;rw[ah rfl,ae (by simpa using hq)];rfl
 have hR:fS n w a q=(bd (iO n w.B) λfL=>
 cn ((fL.2==0)) (
 some (w,0,7)) (
 bd (br n fL.1 fL.2) λg8=>
 gu (bM g8 32)<|
 some (⟨fL.1,dy w.R (Int.toNat g8) ⟨a,q,bD,λ_ =>0⟩⟩,fL.2,0))):=by unfold fS;rw[ck (cm hn r a0),ur,ha,ae (b:= !true) rfl,ae (by simp;omega)];rfl
 rcases Decidable.em (¬f<32)with hl|hl
 ·refine⟨t,w,0,7,?_,?_,by decide,by decide, .cW r tt _ _ _⟩
  ·rw[hP,ah i1,ak (by simpa using hl)]
  ·rw[hR,ah i3,apt hl];rfl
 have hl:=Decidable.not_not.1 hl;simp only[hl,if_true,decide_true]at i1 i2 i3;have hr:=r.bj.oh f hl;obtain⟨q1,q2,q3,q4,q5⟩:=o6 (i:=f) (g:=w.B.gE f) (by omega) (by omega) hr.1 hr.2;have hnew:aT (mq w.B f) (fP f (w.B.gE f)):=(mw r.bj hf hl _).2 (.inr rfl);have hfn:(mH (fP f (w.B.gE f))).toNat=f:=by rw[q2];omega
 have Qm:bM (mH (fP f (w.B.gE f))) 32=true:=ia _;refine⟨⟨⟨b'⟩,dy t.cP f ⟨a,q,dJ,λ_ =>0⟩⟩,⟨mq w.B f,dy w.R f ⟨a,q,bD,λ_ =>0⟩⟩,fP f (w.B.gE f),0,?_,?_,by omega,q5,?_⟩
 ·rw[hP,ah i1,ae (b:= !true) rfl]
  dsimp only;rw[ah (qm (by omega) q5),au Qm,hfn]
 ·rw[hR,ah i3,ae (by simp;omega),ah (dk hn i2 (by omega)),hnew.2,aps rfl,au Qm,hfn]
 have hax:=TF a0 ha;have hfree:=hf.2.2 hl;have hold:∀i,i≠f->(mq w.B f).Is i=1->w.B.Is i=1:=λi hi hs=>by have:dy w.B.Is f 1 i=1:=hs;rwa[jx _ _ hi]at this
 have hne:∀x,aT w.B x->aZ x≠f:=λx hx e=>by have:=(eR hx).2;rw[e,hfree]at this;cases this
 refine⟨⟨i2,λi hi hs=>?_,λi hi hs=>?_,λi hi hs=>?_⟩,?_,λg hg _ =>?_⟩
 ·dsimp only
  rw[bK,bK];by_cases e:i=f
  ·rw[aps e,aps e]
   exact⟨rfl,rfl,(by show(0:Nat)<=80;omega),(λy hy=>by cases hy),λ_ _ =>rfl,λ_ _ =>by show(0:Int)<=0/\(0:Int)<=4294967295;decide⟩
  ·rw[apt e,apt e];exact r.ZJ i hi (hold i e hs)
 ·dsimp only
  simp only[bK];by_cases e:i=f
  ·rw[aps e,aps e]
   show a=UZ (mq w.B f) a;rcases hax with h|h
   ·subst h;rfl
   ·unfold UZ;rw[aps ((mw r.bj hf hl a).2 (.inl h)).2]
  ·rw[apt e,apt e]
   have h1:=hold i e hs;rw[agI r.bj hf hl (r.old i hi h1)];exact r.up i hi h1
 ·dsimp only
  simp only[bK];by_cases e:i=f
  ·rw[aps e]
   exact hax.imp _root_.id λh=>xC _ (tU h)
  ·rw[apt e]
   exact(r.old i hi (hold i e hs)).imp _root_.id (xC _)
 ·obtain⟨ρ,hρ⟩:=tt
  refine⟨dy ρ f (1+Zk ρ 32),λi hi hs hu=>?_⟩;dsimp only at hu ⊢;simp only[bK]at hu ⊢;by_cases e:i=f
  ·rw[aps e]at hu
   rw[aps e,aps e];change a≠0 at hu;show(if aZ a=f then _ else ρ (aZ a))<_;have hag:=hax.resolve_left hu;rw[apt (hne a hag)];have:=OG ρ (j:=aZ a) 32 (iW a);omega
  ·rw[apt e]at hu
   rw[apt e,apt e];have h1:=hold i e hs;rw[apt (hne _ ((r.up0 hi h1).resolve_left hu))];exact hρ i hi h1 hu
 ·have:=hne g hg
  refine⟨(mw r.bj hf hl g).2 (.inl hg),?_,?_,?_, .inl ?_⟩
  all_goals (dsimp only;rw[jx _ _ this])
theorem anU{n:Nat}(hn:110<=n){p:aS}{x:bL}(h:J5 p x):∃b,kP n p.E=some b/\dS n x.E=some b:=by
 have hl:(x.E.aP.map jB).length<=80:=by rw[List.length_map];exact h.n
 obtain⟨b,b1,b2⟩:=Q9 (n:=n) hn (e:=p.E) (by rw[h.e];exact hl) (by rw[h.e];exact h.r);obtain⟨c,c1,c2⟩:=wJ (n:=n) hn h.n h.r;refine⟨b,b1,?_⟩;rw[c1];rw[h.e]at b2;dsimp only at b2;have:b=true↔c=true:=b2.trans ⟨λ⟨q1,_,q3⟩=>c2.2 ⟨q1,q3⟩,λh=>by
  obtain⟨q1,q3⟩:=c2.1 h;exact⟨q1,VU q1,q3⟩⟩
 cases b<;>cases c<;>simp_all
theorem anF{n:Nat}(hn:110<=n){t:av}{w:ai}(r:gY t w)(tt:j8 w){h:Int}(h0:0<=h)(h1:h<4294967296){p:aS}{x:bL}(hx:J5 p x):
  ∃t' w' e,gP n t h p=some (t',e)/\jr n w h x=some (w',e)/\Kp5 t w t' w' h e false:=by
 obtain⟨b,b1,b2⟩:=anU hn hx;have hsr:=fN h;unfold gP jr;rw[ah (nU r.bj h0 h1),ah (dk (by omega) r.bj h0)];cases hg:aM w.B h with
 |false=>exact⟨t,w,4,rfl,rfl, .cW r tt _ _ _⟩
 |true=>
 have MC:aT w.B h:=⟨h0,hg⟩;obtain⟨l1,l2⟩:=eR MC;unfold rM;rw[aps rfl,ae (b:= !true) rfl,ae (by simp;omega),ah rfl,ck b1,ck b2,hx.q];rcases Decidable.em (¬((0<=x.cu/\x.cu<=64)/\b=true))with hq|hq
 ·refine⟨t,w,2,?_,?_, .cW r tt _ _ _⟩
  ·rw[ak]
   by_cases h3:0<=x.cu/\x.cu<=64
   ·have:b=false:=by cases b with
     |false=>rfl
     |true=>exact absurd ⟨h3,rfl⟩ hq
    rw[this];simp
   ·have:(decide (0<=x.cu)&&decide (x.cu<=64))=false:=by rw[Bool.and_eq_false_iff,decide_eq_false_iff_not,decide_eq_false_iff_not];omega
    rw[this];rfl
  ·rw[ak]
   by_cases h3:0<=x.cu/\x.cu<=64
   ·have:b=false:=by cases b with
     |false=>rfl
     |true=>exact absurd ⟨h3,rfl⟩ hq
    rw[this];simp
   ·have:(decide (x.cu<0)||decide (64<x.cu))=true:=by rw[Bool.or_eq_true,decide_eq_true_eq,decide_eq_true_eq];omega
    rw[this];rfl
 obtain⟨⟨q1,q2⟩,rfl⟩:=Decidable.not_not.1 hq;have e1:(decide (0<=x.cu)&&decide (x.cu<=64))=true:=by simp[q1,q2]
 have e2:(decide (x.cu<0)||decide (64<x.cu))=false:=by rw[Bool.or_eq_false_iff,decide_eq_false_iff_not,decide_eq_false_iff_not];omega
 rw[e1,e2,ae (by rfl),ae (by rfl),ah (qm h0 h1),au (ia h),au (ia h),aJ,au (ia h),aJ,aJ,au (ia h),aJ];refine⟨_,_,0,rfl,rfl,?_⟩;show Kp5 t w ⟨t.bj,dy t.cP (aZ h) {p with Up:=(t.cP (aZ h)).Up,cu:=x.cu}⟩ ⟨w.B,dy w.R (aZ h) {x with Up:=(w.R (aZ h)).Up}⟩ h 0 false;have hT:∀i,(dy t.cP (aZ h) {p with Up:=(t.cP (aZ h)).Up,cu:=x.cu} i).Up=(t.cP i).Up:=λi=>by
  rw[bK];split
  ·rename_i e;rw[e]
  ·rfl
 have hW:∀i,(dy w.R (aZ h) {x with Up:=(w.R (aZ h)).Up} i).Up=(w.R i).Up:=λi=>by
  rw[bK];split
  ·rename_i e;rw[e]
  ·rfl
 refine⟨⟨r.bj,λi hi hs=>?_,λi hi hs=>?_,λi hi hs=>?_⟩,?_,λg Ql hne=>?_⟩
 ·dsimp only
  rw[bK,bK];by_cases e:i=aZ h
  ·rw[aps e,aps e];exact⟨rfl,hx.e,hx.n,hx.r,hx.c,hx.c0⟩
  ·rw[apt e,apt e];exact r.ZJ i hi hs
 ·dsimp only;rw[hT,hW];exact r.up i hi hs
 ·dsimp only;rw[hT];exact r.old i hi hs
 ·obtain⟨ρ,hρ⟩:=tt
  refine⟨ρ,λi hi hs hu=>?_⟩;dsimp only at hu ⊢;rw[hW]at hu ⊢;exact hρ i hi hs hu
 ·have aa5:aZ g≠aZ h:=λe=>hne ⟨by rw[← iR Ql, ← iR MC,e],rfl⟩
  refine⟨Ql,?_,?_,?_, .inl ?_⟩
  all_goals (dsimp only;rw[jx _ _ aa5])
end Go.Proofs.Z
namespace Go.Proofs.Z
open Go Go.Bw
inductive ve(w:ai)(s:Nat):Nat->Prop
 |self:ve w s s
 |down {i:Nat}:i<32->w.B.Is i=1->(w.R i).Up≠0->ve w s (aZ (w.R i).Up)->ve w s i
theorem ve.iff{w:ai}{s i:Nat}(hi:i<32)(h1:w.B.Is i=1):ve w s i↔i=s\/((w.R i).Up≠0/\ve w s (aZ (w.R i).Up)):=by
 constructor
 ·intro h
  cases h with
  |self=>exact .inl rfl
  |down _ _ a b=>exact .inr ⟨a,b⟩
 ·rintro(h|⟨a,b⟩)
  ·subst h;exact .self
  ·exact .down hi h1 a b
def E2(w:ai)(ρ:Nat->Nat)(x:Int):Nat:=if x=0 then 0 else DK (λj=>decide (ρ j<ρ (aZ x))) 32+1
theorem N1{t:av}{w:ai}(r:gY t w){ρ:Nat->Nat}(hρ:Rk5 w ρ){x:Int}(hx:aT w.B x):E2 w ρ (w.R (aZ x)).Up<E2 w ρ x:=by
 have hp:=oS hx;obtain⟨l1,l2⟩:=eR hx;unfold E2;rw[apt (show¬x=0 by omega)];split
 ·omega
 ·rename_i hu
  have h2:=hρ _ l1 l2 hu;have:=yC (p:=λj=>decide (ρ j<ρ (aZ (w.R (aZ x)).Up))) (q:=λj=>decide (ρ j<ρ (aZ x))) (λj hj=>by simp at hj ⊢;omega) (c:=aZ (w.R (aZ x)).Up) (by simp) (by simpa using h2) 32 (iW _);omega
theorem N2(w:ai)(ρ:Nat->Nat)(x:Int):E2 w ρ x<=32:=by
 unfold E2;split
 ·omega
 ·have:=yC (p:=λj=>decide (ρ j<ρ (aZ x))) (q:=λ_ =>true) (λ_ _ =>rfl) (c:=aZ x) (by simp) rfl 32 (iW _)
  have:=Gz (λ_ =>true) 32;omega
theorem Xf{n:Nat}(hn:40<=n){t:av}{w:ai}(r:gY t w)(tt:j8 w){h:Int}(hh:aT w.B h){x0:Int}(hx0:aT w.B x0):
  ∃b,dR n w h x0=some b/\(b=true↔(w.R (aZ x0)).Up≠0/\ve w (aZ h) (aZ (w.R (aZ x0)).Up)):=by
 obtain⟨ρ,hρ⟩:=tt;unfold dR;have hhp:=oS hh;refine fK (λ(x:Int)=>(x=0\/aT w.B x)/\(((w.R (aZ x0)).Up≠0/\ve w (aZ h) (aZ (w.R (aZ x0)).Up))↔(x≠0/\(w.R (aZ x)).Up≠0/\ve w (aZ h) (aZ (w.R (aZ x)).Up)))) (λx=>E2 w ρ x)
  (λo=>∃b,o=some b/\(b=true↔(w.R (aZ x0)).Up≠0/\ve w (aZ h) (aZ (w.R (aZ x0)).Up))) ?_ n x0 ⟨.inr hx0,?_⟩ (by have:=N2 w ρ x0;omega)
 ·rintro kk x ⟨hx,hw⟩ ih
  by_cases h0:x=0
  ·subst h0
   rw[ae (by rfl)];exact⟨false,rfl,by rw[hw];simp⟩
  ·have hg:=hx.resolve_left h0
   have hsr:=fN x;obtain⟨l1,l2⟩:=eR hg;rw[ak (by simpa using h0),ah (dk hn r.bj hg.1),hg.2,aps rfl,au (ia x)];show∃b,cn ((w.R (aZ x)).Up==h) (some (h !=0)) (kk (w.R (aZ x)).Up)=some b/\_;by_cases hu:(w.R (aZ x)).Up=h
   ·rw[ak (by simpa using hu)]
    refine⟨_,rfl,?_⟩;rw[hw,hu];exact⟨λ_ =>⟨h0,by omega, .self⟩,λ_ =>by simp;omega⟩
   ·rw[ae (by simpa using hu)]
    refine ih _ ⟨r.ups hg,hw.trans ?_⟩ (N1 r hρ hg);constructor
    ·rintro⟨_,a,b⟩
     have hgu:=(r.ups hg).resolve_left a;obtain⟨m1,m2⟩:=eR hgu;refine⟨a,?_⟩;rcases(ve.iff m1 m2).1 b with e|e
     ·exact absurd (by rw[← iR hgu, ← iR hh,e]) hu
     ·exact e
    ·rintro⟨a,b,c⟩
     have hgu:=(r.ups hg).resolve_left a;obtain⟨m1,m2⟩:=eR hgu;exact⟨h0,a, .down m1 m2 b c⟩
 ·have:=oS hx0
  exact⟨λa=>⟨by omega,a⟩,λa=>a.2⟩
theorem ai0{n:Nat}(hn:40<=n){t:av}{w:ai}(r:gY t w)(tt:j8 w){h:Int}(hh:aT w.B h){x0:Int}(hx0:x0=0\/aT w.B x0)(z:Option (av×Int)):
  (x0≠0/\ve w (aZ h) (aZ x0)->eU (λk30 (eC:Int)=>
 cn ((eC !=0)) (
 cn ((eC==h)) (
 some (t,12)) (
 bd (mg n t eC) λeD=>
 k30 eD)) z) n x0=some (t,12))/\(¬(x0≠0/\ve w (aZ h) (aZ x0))->eU (λk30 (eC:Int)=>
 cn ((eC !=0)) (
 cn ((eC==h)) (
 some (t,12)) (
 bd (mg n t eC) λeD=>
 k30 eD)) z) n x0=z):=by
 obtain⟨ρ,hρ⟩:=tt;have hhp:=oS hh;refine fK (λ(x:Int)=>(x=0\/aT w.B x)/\((x0≠0/\ve w (aZ h) (aZ x0))↔(x≠0/\ve w (aZ h) (aZ x)))) (λx=>E2 w ρ x)
  (λo=>(x0≠0/\ve w (aZ h) (aZ x0)->o=some (t,12))/\(¬(x0≠0/\ve w (aZ h) (aZ x0))->o=z)) ?_ n x0 ⟨hx0,Iff.rfl⟩ (by have:=N2 w ρ x0;omega)
 rintro kk x ⟨hx,hw⟩ ih;by_cases h0:x=0
 ·subst h0
  rw[ae (by rfl)];exact⟨λhq=>absurd rfl (hw.1 hq).1,λ_ =>rfl⟩
 ·have hg:=hx.resolve_left h0
  obtain⟨l1,l2⟩:=eR hg;rw[ak (by simpa using h0)];by_cases hu:x=h
  ·rw[ak (by simpa using hu)]
   exact⟨λ_ =>rfl,λhq=>absurd (hw.2 ⟨h0,by rw[hu];exact .self⟩) hq⟩
  ·rw[ae (by simpa using hu),ah (Y6 r hg)]
   refine ih _ ⟨r.ups hg,hw.trans ?_⟩ (N1 r hρ hg);constructor
   ·rintro⟨_,b⟩
    rcases(ve.iff l1 l2).1 b with e|e
    ·exact absurd (by rw[← iR hg, ← iR hh,e]) hu
    ·exact e
   ·rintro⟨a,b⟩
    exact⟨h0, .down l1 l2 a b⟩
theorem ag6{n:Nat}(hn:40<=n){t:av}{w:ai}(r:gY t w)(tt:j8 w){h a:Int}(h0:0<=h)(h1:h<4294967296)(a0:0<=a)(a1:a<4294967296):
  ∃t' w' e,iV n t h a=some (t',e)/\kJ n w h a=some (w',e)/\Kp5 t w t' w' h e false:=by
 unfold iV kJ;rw[ah (nU r.bj h0 h1),ah (cm hn r h0),Gm r a0 a1,ck (cm hn r a0)];cases hg:aM w.B h with
 |false=>exact⟨t,w,4,rfl,rfl, .cW r tt _ _ _⟩
 |true=>
 have MC:aT w.B h:=⟨h0,hg⟩;obtain⟨l1,l2⟩:=eR MC;have hpos:=oS MC;have e0:∀v:Bool,(((!true)==false)&&v)=v:=λv=>by cases v<;>rfl
 rw[e0,ur];cases ha:ok0 w.B a with
 |false=>exact⟨t,w,4,rfl,rfl, .cW r tt _ _ _⟩
 |true=>
 rw[ae (by rfl),ae (by rfl)];have hax:=TF a0 ha;obtain⟨p1,p2⟩:=ai0 (n:=n) hn r tt MC hax (bd (bY n h) λg8=>
 gu (bM g8.1 32)<|
 lt ({t with cP:=(dy t.cP (Int.toNat g8.1) ({(t.cP (Int.toNat g8.1))with Up:=a}))}:av) λiU=>
 some (iU,0))
 have hR:∃b,(b=true↔a≠0/\ve w (aZ h) (aZ a))/\∀(F:Bool->Option (ai×Int)),(cl (((a !=0)==true)&&((a==h)==false)) (dR n w h a) default λfR=>F ((a !=0)&&((a==h)||fR)))=F b:=by
  rcases hax with e|e
  ·subst e
   exact⟨false,by simp,λF=>rfl⟩
  ·have hp:=oS e
   obtain⟨b,b1,b2⟩:=Xf (n:=n) hn r tt MC e;obtain⟨m1,m2⟩:=eR e;refine⟨(a==h)||b,?_,λF=>?_⟩
   ·rw[Bool.or_eq_true,beq_iff_eq,b2,ve.iff m1 m2]
    constructor
    ·rintro(q|q)
     ·exact⟨by omega, .inl (by rw[q])⟩
     ·exact⟨by omega, .inr q⟩
    ·rintro⟨_,q|q⟩
     ·exact .inl (by rw[← iR e, ← iR MC,q])
     ·exact .inr q
   ·have e1:(a !=0)=true:=by simp;omega
    rw[ck b1,e1];cases a==h<;>rfl
 obtain⟨b,b1,b2⟩:=hR;rw[b2 (λv=>cn v (some (w,12)) (bd (br n w.B h) λdL=>
 gu (bM dL 32)<|
 lt ({w with R:=(dy w.R (Int.toNat dL) ({(w.R (Int.toNat dL))with Up:=a}))}:ai) λgF=>
 some (gF,0)))]
 cases b with
 |true=>exact⟨t,w,12,p1 (b1.1 rfl),rfl, .cW r tt _ _ _⟩
 |false=>
 have hns:¬(a≠0/\ve w (aZ h) (aZ a)):=λq=>by have:=b1.2 q;cases this
 rw[p2 hns];rw[ah (qm h0 h1),ae rfl,ah (dk hn r.bj h0),hg,aps rfl];refine⟨⟨t.bj,dy t.cP (aZ h) {t.cP (aZ h)with Up:=a}⟩,⟨w.B,dy w.R (aZ h) {w.R (aZ h)with Up:=a}⟩,0,?_,?_,?_⟩
 ·rw[au (ia h)];rfl
 ·rw[au (ia h)];rfl
 refine⟨⟨r.bj,λi hi hs=>?_,λi hi hs=>?_,λi hi hs=>?_⟩,?_,λg Ql hne=>?_⟩
 ·dsimp only
  rw[bK,bK];by_cases e:i=aZ h
  ·rw[aps e,aps e];exact(r.ZJ _ l1 l2).aks _ _
  ·rw[apt e,apt e];exact r.ZJ i hi hs
 ·dsimp only
  simp only[bK];by_cases e:i=aZ h
  ·rw[aps e,aps e]
   show a=UZ w.B a;rcases hax with q|q
   ·subst q;rfl
   ·unfold UZ;rw[aps q.2]
  ·rw[apt e,apt e];exact r.up i hi hs
 ·dsimp only
  simp only[bK];by_cases e:i=aZ h
  ·rw[aps e];exact hax.imp _root_.id tU
  ·rw[apt e];exact r.old i hi hs
 ·obtain⟨ρ,hρ⟩:=tt
  obtain⟨f,f1,f2⟩:∃f:Nat->Nat,(∀i,ve w (aZ h) i->f i=ρ i+ρ (aZ a)+1)/\∀i,¬ve w (aZ h) i->f i=ρ i:=by
   classical
   exact⟨λi=>if ve w (aZ h) i then ρ i+ρ (aZ a)+1 else ρ i,λi q=>aps q,λi q=>apt q⟩
  refine⟨f,λi hi hs hu=>?_⟩;have hU:(dy w.R (aZ h) {w.R (aZ h)with Up:=a} i).Up=if i=aZ h then a else(w.R i).Up:=by rw[bK];split<;>rfl
  dsimp only at hu hs ⊢;rw[hU]at hu ⊢;by_cases e:i=aZ h
  ·rw[aps e]at hu ⊢
   rw[f2 _ (λq=>hns ⟨hu,q⟩),e,f1 _ .self];omega
  ·rw[apt e]at hu ⊢
   have h2:=hρ i hi hs hu;have h3:=ve.iff (s:=aZ h) hi hs;by_cases q:ve w (aZ h) (aZ (w.R i).Up)
   ·rw[f1 _ q,f1 _ (h3.2 (.inr ⟨hu,q⟩))];omega
   ·rw[f2 _ q,f2 _ (λc=>(h3.1 c).elim e λc=>q c.2)];exact h2
 ·have aa5:aZ g≠aZ h:=λe=>hne ⟨by rw[← iR Ql, ← iR MC,e],rfl⟩
  refine⟨Ql,?_,?_,?_, .inl ?_⟩
  all_goals (dsimp only;rw[jx _ _ aa5])
end Go.Proofs.Z
namespace Go.Proofs.Z
open Go Go.Bw
theorem Km{n:Nat}(hn:40<=n){t:av}{w:ai}(r:gY t w):kY n w=some (aN w.B 32):=by
 unfold kY;refine dY (λ(l:List Int) (x:Int)=>∃k:Nat,x=k/\k<=32/\l=aN w.B k) (λ_ (x:Int)=>(32-x).toNat) (λo=>o=some (aN w.B 32)) ?_ n [] 0 ⟨0,rfl,by omega,rfl⟩ (by omega);rintro kk l x ⟨k,rfl,hk,rfl⟩ ih;by_cases hc:k<32
 ·rw[ak (by simp;omega),au (bG (by omega) (by omega))]
  have hr:=r.bj.oh k hc;by_cases e:w.B.Is k=1
  ·rw[ak (by simpa using e),ah (rN (by omega) (by omega) hr.1 hr.2),au (fq (by have:=fZ w.B k;omega) (by have:=fZ w.B k;omega)),aJ,aL (by omega) (by omega)]
   exact ih _ _ ⟨k+1,by omega,by omega,by simp[aN,e]⟩ (by omega)
  ·rw[ae (by simpa using e),aL (by omega) (by omega)]
   exact ih _ _ ⟨k+1,by omega,by omega,by simp[aN,e]⟩ (by omega)
 ·rw[ae (by simp;omega)]
  obtain rfl:k=32:=by omega
  rfl
theorem ae5{n:Nat}(hn:40<=n){t:av}{w:ai}(r:gY t w):l9 n t.bj=some (aN w.B 32):=by unfold l9;rw[ah (wL hn r.bj)]
theorem fT{α:Type}[Inhabited α]{l:List α}{i:Nat}(h:i<l.length):l.getD i default∈l:=by rw[List.getD,apB h];exact List.getElem_mem _
theorem aky{n:Nat}(hn:100<=n){t:av}{w:ai}(r:gY t w):Al n t w=some true:=by
 unfold Al;rw[ah (ae5 (by omega) r),ah (Km (by omega) r),ae (by simp)];have hlen:=fZ w.B 32;have hmem:=bX r.bj;refine fK (λ(i:Int)=>0<=i/\i<=(aN w.B 32).length) (λi=>((aN w.B 32).length-i).toNat) (λo=>o=some true) ?_ n 0 ⟨by omega,by omega⟩ (by omega);rintro kk i ⟨i0,i1⟩ ih;by_cases c:i<(aN w.B 32).length
 ·have g1:bM i (aN w.B 32).length=true:=bG i0 c
  have hg:=(hmem _).1 (fT (l:=aN w.B 32) (i:=i.toNat) (by omega));generalize(aN w.B 32).getD i.toNat default=x at *;have hl:=fm hg.2;have hp:=hg.1;obtain⟨l1,l2⟩:=eR hg;have hR:=r.ZJ _ l1 l2;have e1:(x !=x)=false:=by simp
  rw[ak (by simpa using c),au g1,au g1,aL (x:=x) (by omega) (by omega),e1,g1,au (by rfl),ck (nU r.bj hp hl),hg.2,ae (by rfl),au (b:=true) rfl,ah (Ar r hp hl),aps hg.2,au (b:=true) rfl,ah (La (by omega) r hg)];dsimp only;have hu:0<=(w.R (aZ x)).Up/\(w.R (aZ x)).Up<4294967296:=by
   rcases r.ups hg with h|h
   ·rw[h];decide
   ·exact⟨h.1,fm h.2⟩
  have hv1:(o5 t w x).Up=(w.R (aZ x)).Up:=rfl;have hv2:(o5 t w x).cu=(w.R (aZ x)).cu:=hR.q;have hv3:(o5 t w x).E=⟨(w.R (aZ x)).E.aP.map jB,(w.R (aZ x)).E.lu⟩:=hR.e;have hv4:∀i,i<8->(o5 t w x).bC i=(w.R (aZ x)).bC i:=hR.c;rw[hv1,hv2,aL (x:=(w.R (aZ x)).Up) (by omega) (by omega),ck (W3 (by omega) (by have:=hR.n;omega) (by rw[hv3]) (by rw[hv3])),ae (by simp)];refine fK (λ(j:Int)=>0<=j/\j<=8) (λj=>(8-j).toNat) (λo=>o=some true) ?_ n 0 ⟨by omega,by omega⟩ (by omega);rintro k2 j ⟨j0,j1⟩ Sz;by_cases cj:j<8
  ·have h4:=hv4 j.toNat (by omega)
   have h5:=hR.c0 j.toNat (by omega);rw[ak (by simpa using cj),au (bG j0 (by omega)),au (bG j0 (by omega)),h4,aL (x:=(w.R (aZ x)).bC j.toNat) (by omega) (by omega),ae (by simp),aL (by omega) (by omega)];exact Sz _ ⟨by omega,by omega⟩ (by omega)
  ·rw[ae (by simpa using cj),aL (by omega) (by omega)]
   exact ih _ ⟨by omega,by omega⟩ (by omega)
 ·rw[ae (by simpa using c)]
end Go.Proofs.Z
namespace Go.Proofs.Z
open Go Go.Bw
theorem NG{i:Nat}(h:gQ.B.Is i=1):False:=absurd (show(0:Int)=1 from h) (by decide)
theorem afy:gY iT gQ/\j8 gQ:=
 ⟨⟨⟨λi _ =>rfl,λi _ =>rfl,λi _ =>rfl,λi _ => .inl rfl,λi _ =>⟨Int.le_refl 0,show(0:Int)<=8388607 by decide⟩⟩,λi _ h=>(NG h).elim,λi _ h=>(NG h).elim,λi _ h=>(NG h).elim⟩,λ_ =>0,λi _ h=>(NG h).elim⟩
end Go.Proofs.Z
namespace Go.Proofs.Z
open Go Go.Bw
structure Fo(G:List Int)(up:Int->Int)(ρ:Int->Nat):Prop where
 nd:G.Nodup
 len:G.length<=32
 pos:∀x∈G,x≠0
 up0:∀x∈G,up x=0\/up x∈G
 rk:∀x∈G,ρ x<32
 dn:∀x∈G,up x≠0->ρ (up x)<ρ x
def Qw(up:Int->Int):Nat->Int->List Int
 |0,_ =>[]
 |k+1,x=>if up x=0 then[]else up x::Qw up k (up x)
def nS(G:List Int)(up:Int->Int)(x:Int):List Int:=G.filter λy=>up y==x
def Qx(G:List Int)(up:Int->Int):Nat->Int->List Int
 |0,_ =>[]
 |k+1,x=>x::(nS G up x).flatMap (Qx G up k)
abbrev U6(up:Int->Int)(x:Int):List Int:=Qw up 32 x
abbrev V6(G:List Int)(up:Int->Int)(x:Int):List Int:=Qx G up 32 x
theorem pT{G:List Int}{up:Int->Int}{x y:Int}:y∈nS G up x↔y∈G/\up y=x:=by simp[nS]
theorem EW{α β:Type}{l:List α}{f g:α->List β}(h:∀x∈l,f x=g x):l.flatMap f=l.flatMap g:=by
 induction l with
 |nil=>rfl
 |cons a l ih=>rw[List.flatMap_cons,List.flatMap_cons,h a (by simp),ih λx hx=>h x (by simp[hx])]
section
variable {G:List Int} {up:Int->Int} {ρ:Int->Nat}
theorem Fo.Y5(f:Fo G up ρ){x:Int}(hx:x∈G)(h:up x≠0):up x∈G:=(f.up0 x hx).resolve_left h
theorem Fo.Qy(f:Fo G up ρ)(P:Int->Prop)(h:∀x∈G,(up x≠0->P (up x))->P x):∀x∈G,P x:=by
 have key:∀k x,x∈G->ρ x<k->P x:=by
  intro k
  induction k with
  |zero=>intro x _ h;omega
  |succ k ih=>intro x hx hk;exact h x hx λhu=>ih _ (f.Y5 hx hu) (by have:=f.dn x hx hu;omega)
 exactλx hx=>key _ x hx (Nat.lt_succ_self _)
theorem Fo.kup(f:Fo G up ρ){x y:Int}(hx:x∈G)(hy:y∈G)(h:up y=x):ρ x<ρ y:=by have:=f.dn y hy (by rw[h];exact f.pos x hx);rwa[h]at this
theorem Fo.aiI(f:Fo G up ρ)(P:Int->Prop)(h:∀x∈G,(∀y∈G,up y=x->P y)->P x):∀x∈G,P x:=by
 have key:∀k x,x∈G->32-ρ x<k->P x:=by
  intro k
  induction k with
  |zero=>intro x _ h;omega
  |succ k ih=>intro x hx hk;exact h x hx λy hy hu=>ih _ hy (by have:=f.kup hx hy hu;have:=f.rk y hy;omega)
 exactλx hx=>key _ x hx (Nat.lt_succ_self _)
theorem Fo.ust(f:Fo G up ρ):∀k x,x∈G->ρ x<k->Qw up (k+1) x=Qw up k x:=by
 intro k
 induction k with
 |zero=>intro x _ h;omega
 |succ k ih=>
  intro x hx hk;show(if up x=0 then[]else up x::Qw up (k+1) (up x))=(if up x=0 then[]else up x::Qw up k (up x));split
  ·rfl
  ·rename_i hu
   rw[ih _ (f.Y5 hx hu) (by have:=f.dn x hx hu;omega)]
theorem Fo.akg(f:Fo G up ρ){x:Int}(hx:x∈G):U6 up x=if up x=0 then[]else up x::U6 up (up x):=by
 show Qw up (31+1) x=_;rw[Qw];split
 ·rfl
 ·rename_i hu
  have:=f.dn x hx hu;have:=f.rk x hx;rw[← f.ust 31 _ (f.Y5 hx hu) (by omega)]
theorem Fo.u0(f:Fo G up ρ){x:Int}(hx:x∈G)(h:up x=0):U6 up x=[]:=by rw[f.akg hx,aps h]
theorem Fo.u1(f:Fo G up ρ){x:Int}(hx:x∈G)(h:up x≠0):U6 up x=up x::U6 up (up x):=by rw[f.akg hx,apt h]
theorem Fo.vst(f:Fo G up ρ):∀k x,x∈G->32-ρ x<=k->Qx G up (k+1) x=Qx G up k x:=by
 intro k
 induction k with
 |zero=>intro x hx h;have:=f.rk x hx;omega
 |succ k ih=>intro x hx hk;rw[Qx,Qx];congr 1;refine EW λy hy=>?_;obtain⟨hy,hu⟩:=pT.1 hy;exact ih y hy (by have:=f.kup hx hy hu;have:=f.rk y hy;omega)
theorem Fo.OB(f:Fo G up ρ){x:Int}(hx:x∈G):V6 G up x=x::(nS G up x).flatMap (V6 G up):=by show Qx G up (31+1) x=_;rw[Qx];congr 1;refine EW λy hy=>?_;obtain⟨hy,hu⟩:=pT.1 hy;have:=f.kup hx hy hu;exact(f.vst 31 y hy (by have:=f.rk y hy;omega)).symm
theorem Fo.I9(f:Fo G up ρ){x:Int}(hx:x∈G):∀y∈U6 up x,y∈G/\ρ y<ρ x:=by
 refine f.Qy (λx=>∀y∈U6 up x,y∈G/\ρ y<ρ x) (λx hx ih y hy=>?_) x hx;by_cases hu:up x=0
 ·rw[f.u0 hx hu]at hy;cases hy
 ·rw[f.u1 hx hu]at hy
  have:=f.dn x hx hu;rcases List.mem_cons.1 hy with h|h
  ·rw[h];exact⟨f.Y5 hx hu,this⟩
  ·obtain⟨h1,h2⟩:=ih hu y h;exact⟨h1,by omega⟩
theorem Fo.afD(f:Fo G up ρ){x:Int}(hx:x∈G):x∉U6 up x:=λh=>by have:=(f.I9 hx x h).2;omega
theorem Fo.akf(f:Fo G up ρ){x y z:Int}(hx:x∈G)(hy:y∈U6 up x)(hz:z∈U6 up y):z∈U6 up x:=by
 revert hy;refine f.Qy (λx=>y∈U6 up x->z∈U6 up x) (λx hx ih hy=>?_) x hx;by_cases hu:up x=0
 ·rw[f.u0 hx hu]at hy;cases hy
 ·rw[f.u1 hx hu]at hy ⊢
  rcases List.mem_cons.1 hy with h|h
  ·rw[← h];exact apE _ hz
  ·exact apE _ (ih hu h)
theorem Fo.anA(f:Fo G up ρ){x y:Int}(hx:x∈G)(hy:y=x\/y∈U6 up x)(hu:up y≠0):up y∈U6 up x:=by
 rcases hy with h|h
 ·subst h;rw[f.u1 hx hu];exact List.mem_cons_self
 ·exact f.akf hx h (by rw[f.u1 (f.I9 hx y h).1 hu];exact List.mem_cons_self)
theorem Fo.agL(f:Fo G up ρ){x y:Int}(hy:y∈G)(h:x∈U6 up y):∃k∈G,up k=x/\(k=y\/k∈U6 up y):=by
 revert h;refine f.Qy (λy=>x∈U6 up y->∃k∈G,up k=x/\(k=y\/k∈U6 up y)) (λy hy ih h=>?_) y hy;by_cases hu:up y=0
 ·rw[f.u0 hy hu]at h;cases h
 ·rw[f.u1 hy hu]at h
  rcases List.mem_cons.1 h with h|h
  ·exact⟨y,hy,h.symm, .inl rfl⟩
  ·obtain⟨k,k1,k2,k3⟩:=ih hu h
   refine⟨k,k1,k2, .inr ?_⟩;rw[f.u1 hy hu];rcases k3 with k3|k3
   ·rw[k3];exact List.mem_cons_self
   ·exact apE _ k3
theorem Fo.lin(f:Fo G up ρ){a b y:Int}(hy:y∈G)(ha:a=y\/a∈U6 up y)(hb:b=y\/b∈U6 up y):a=b\/a∈U6 up b\/b∈U6 up a:=by
 revert ha hb;refine f.Qy (λy=>(a=y\/a∈U6 up y)->(b=y\/b∈U6 up y)->a=b\/a∈U6 up b\/b∈U6 up a) (λy hy ih ha hb=>?_) y hy;by_cases hu:up y=0
 ·rw[f.u0 hy hu]at ha hb
  have e1:a=y:=ha.resolve_right (by simp);have e2:b=y:=hb.resolve_right (by simp);exact .inl (e1.trans e2.symm)
 ·rcases ha with ha|ha
  ·rcases hb with hb|hb
   ·exact .inl (ha.trans hb.symm)
   ·subst ha;exact .inr (.inr hb)
  ·rcases hb with hb|hb
   ·subst hb;exact .inr (.inl ha)
   ·rw[f.u1 hy hu]at ha hb
    exact ih hu (List.mem_cons.1 ha) (List.mem_cons.1 hb)
theorem Fo.zb(f:Fo G up ρ){x:Int}(hx:x∈G):∀y,y∈V6 G up x↔y∈G/\(y=x\/x∈U6 up y):=by
 refine f.aiI (λx=>∀y,y∈V6 G up x↔y∈G/\(y=x\/x∈U6 up y)) (λx hx ih y=>?_) x hx;rw[f.OB hx,List.mem_cons,List.mem_flatMap];constructor
 ·rintro(h|⟨k,hk,h⟩)
  ·subst h;exact⟨hx, .inl rfl⟩
  ·obtain⟨k1,k2⟩:=pT.1 hk
   obtain⟨h1,h2⟩:=(ih k k1 k2 y).1 h;refine⟨h1, .inr ?_⟩;rw[← k2];exact f.anA h1 (h2.imp Eq.symm _root_.id) (by rw[k2];exact f.pos x hx)
 ·rintro⟨h1,h|h⟩
  ·exact .inl h
  ·obtain⟨k,k1,k2,k3⟩:=f.agL h1 h
   exact .inr ⟨k,pT.2 ⟨k1,k2⟩,(ih k k1 k2 y).2 ⟨h1,k3.imp Eq.symm _root_.id⟩⟩
theorem M3{α β:Type}{l:List α}{g:α->List β}(hl:l.Nodup)(h1:∀x∈l,(g x).Nodup)(h2:∀x∈l,∀y∈l,x≠y->∀z∈g x,z∉g y):(l.flatMap g).Nodup:=by
 induction l with
 |nil=>simp
 |cons a l ih=>obtain⟨ha,hl⟩:=List.nodup_cons.1 hl;rw[List.flatMap_cons];refine List.nodup_append.2 ⟨h1 a (by simp),ih hl (λx hx=>h1 x (by simp[hx])) (λx hx y hy=>h2 x (by simp[hx]) y (by simp[hy])),λz hz w hw e=>?_⟩;subst e;obtain⟨b,hb,hzb⟩:=List.mem_flatMap.1 hw;exact h2 a (by simp) b (by simp[hb]) (λe=>ha (e▸hb)) z hz hzb
theorem Fo.agC(f:Fo G up ρ){x:Int}(hx:x∈G):(V6 G up x).Nodup:=by
 refine f.aiI (λx=>(V6 G up x).Nodup) (λx hx ih=>?_) x hx;rw[f.OB hx];refine List.nodup_cons.2 ⟨λh=>?_,M3 (f.nd.filter _) (λk hk=>?_) (λa ha b hb hne z hz hz2=>?_)⟩
 ·obtain⟨k,hk,h⟩:=List.mem_flatMap.1 h
  obtain⟨k1,k2⟩:=pT.1 hk;have h3:=((f.zb k1 x).1 h).2;have:=f.kup hx k1 k2;rcases h3 with h3|h3
  ·rw[h3]at this;omega
  ·have:=(f.I9 hx k h3).2;omega
 ·obtain⟨k1,k2⟩:=pT.1 hk;exact ih k k1 k2
 ·obtain⟨a1,a2⟩:=pT.1 ha
  obtain⟨b1,b2⟩:=pT.1 hb;obtain⟨z1,z2⟩:=(f.zb a1 z).1 hz;obtain⟨_,z3⟩:=(f.zb b1 z).1 hz2;have ra:=f.kup hx a1 a2;have rb:=f.kup hx b1 b2;have x0:=f.pos x hx;have no:∀{p q:Int},p∈G->up p=x->ρ x<ρ q->q∉U6 up p:=λhp hu hr hq=>by
   rw[f.u1 hp (by rw[hu];exact x0),hu]at hq;rcases List.mem_cons.1 hq with h|h
   ·rw[h]at hr;omega
   ·have:=(f.I9 hx _ h).2;omega
  rcases f.lin z1 (z2.imp Eq.symm _root_.id) (z3.imp Eq.symm _root_.id)with h|h|h
  ·exact hne h
  ·exact no b1 b2 ra h
  ·exact no a1 a2 rb h
theorem Vn{l m:List Int}(hl:l.Nodup)(hs:∀x∈l,x∈m):l.length<=m.length:=by
 induction l generalizing m with
 |nil=>simp
 |cons a l ih=>obtain⟨ha,hl⟩:=List.nodup_cons.1 hl;have hm:=hs a (by simp);have:=ih (m:=m.erase a) hl (λx hx=>(List.mem_erase_of_ne (λ(e:x=a)=>ha (by rw[← e];exact hx))).2 (hs x (by simp[hx])));rw[List.length_erase_of_mem hm]at this;have h0:0<m.length:=List.length_pos_of_mem hm;rw[List.length_cons];omega
theorem Fo.Nm(f:Fo G up ρ){x:Int}(hx:x∈G):(V6 G up x).length<=32:=Nat.le_trans (Vn (f.agC hx) λy hy=>((f.zb hx y).1 hy).1) f.len
theorem Fo.anB(f:Fo G up ρ){x:Int}(hx:x∈G):(U6 up x).Nodup:=by
 refine f.Qy (λx=>(U6 up x).Nodup) (λx hx ih=>?_) x hx;by_cases hu:up x=0
 ·rw[f.u0 hx hu];exact .nil
 ·rw[f.u1 hx hu];exact List.nodup_cons.2 ⟨f.afD (f.Y5 hx hu),ih hu⟩
theorem Fo.Za(f:Fo G up ρ){x:Int}(hx:x∈G):(U6 up x).length<=32:=Nat.le_trans (Vn (f.anB hx) λy hy=>(f.I9 hx y hy).1) f.len
def Nt(up:Int->Int)(x:Int):Int:=(U6 up x).getLastD x
theorem Fo.U7(f:Fo G up ρ){x:Int}(hx:x∈G):Nt up x=if up x=0 then x else Nt up (up x):=by
 unfold Nt;by_cases hu:up x=0
 ·rw[f.u0 hx hu,aps hu];rfl
 ·rw[f.u1 hx hu,apt hu]
  cases h:U6 up (up x)with
  |nil=>rfl
  |cons a l=>simp[List.getLastD]
theorem Fo.Te(f:Fo G up ρ){x:Int}(hx:x∈G):Nt up x∈G/\(Nt up x=x\/Nt up x∈U6 up x)/\up (Nt up x)=0:=by
 refine f.Qy (λx=>Nt up x∈G/\(Nt up x=x\/Nt up x∈U6 up x)/\up (Nt up x)=0) (λx hx ih=>?_) x hx;rw[f.U7 hx];by_cases hu:up x=0
 ·rw[aps hu];exact⟨hx, .inl rfl,hu⟩
 ·rw[apt hu]
  obtain⟨h1,h2,h3⟩:=ih hu;refine⟨h1, .inr ?_,h3⟩;rw[f.u1 hx hu];rcases h2 with h2|h2
  ·rw[h2];exact List.mem_cons_self
  ·exact apE _ h2
theorem Fo.OM(f:Fo G up ρ){x:Int}(hx:x∈G):Nt up x=x↔up x=0:=by
 rw[f.U7 hx];by_cases hu:up x=0
 ·rw[aps hu];exact⟨λ_ =>hu,λ_ =>rfl⟩
 ·rw[apt hu]
  refine⟨λh=>?_,λh=>absurd h hu⟩;have h1:=f.dn x hx hu;obtain⟨_,h2,_⟩:=f.Te (f.Y5 hx hu);rw[h]at h2;rcases h2 with h2|h2
  ·rw[← h2]at h1;omega
  ·have:=(f.I9 (f.Y5 hx hu) x h2).2;omega
theorem Fo.agX(f:Fo G up ρ){x z:Int}(hx:x∈G)(hz:z=x\/z∈U6 up x)(h0:up z=0):Nt up x=z:=by
 revert hz;refine f.Qy (λx=>(z=x\/z∈U6 up x)->Nt up x=z) (λx hx ih hz=>?_) x hx;rw[f.U7 hx];by_cases hu:up x=0
 ·rw[aps hu]
  rw[f.u0 hx hu]at hz;exact(hz.resolve_right (by simp)).symm
 ·rw[apt hu]
  rcases hz with h|h
  ·subst h;exact absurd h0 hu
  ·rw[f.u1 hx hu]at h
   exact ih hu (List.mem_cons.1 h)
end
end Go.Proofs.Z
namespace Go.Proofs.Z
open Go Go.Bw
def dP(w:ai)(x:Int):Int:=(w.R (aZ x)).Up
abbrev Gw(w:ai):List Int:=aN w.B 32
theorem LJ{t:av}{w:ai}(r:gY t w)(tt:j8 w):∃ρ,Fo (Gw w) (dP w) ρ:=by
 obtain⟨q,hq⟩:=tt;have hm:=bX r.bj;refine⟨λx=>DK (λj=>decide (q j<q (aZ x))) 32,⟨An r.bj 32 (by omega),fZ _ _,λx hx=>?_,λx hx=>?_,λx hx=>?_,λx hx hu=>?_⟩⟩
 ·have:=oS ((hm x).1 hx);omega
 ·exact(r.ups ((hm x).1 hx)).imp _root_.id (hm _).2
 ·have:=yC (p:=λj=>decide (q j<q (aZ x))) (q:=λ_ =>true) (λ_ _ =>rfl) (c:=aZ x) (by simp) rfl 32 (iW _)
  have:=Gz (λ_ =>true) 32;omega
 ·obtain⟨l1,l2⟩:=eR ((hm x).1 hx)
  have h2:=hq _ l1 l2 hu;exact yC (p:=λj=>decide (q j<q (aZ (w.R (aZ x)).Up))) (q:=λj=>decide (q j<q (aZ x))) (λj hj=>by simp at hj ⊢;omega) (c:=aZ (w.R (aZ x)).Up) (by simp) (by simpa using h2) 32 (iW _)
section
universe u1 u2 u3
theorem C9{α1 ρ:Type}{B:(α1->Option ρ)->α1->Option ρ}(g:α1->ρ)(I:α1->Prop)(μ:α1->Nat)(hB:∀k a,I a->(∀b,I b->μ b<μ a->k b=some (g b))->B k a=some (g a)):∀n a,I a->μ a<n->eU B n a=some (g a):=by
 intro n
 induction n with
 |zero=>intro a _ h;exact absurd h (Nat.not_lt_zero _)
 |succ n ih=>intro a hi hm;exact hB _ a hi λb hj hl=>ih b hj (by omega)
end
theorem UA{n:Nat}(hn:40<=n){t:av}{w:ai}(r:gY t w)(tt:j8 w){h:Int}(hh:aT w.B h):nW n t h=some (U6 (dP w) h):=by
 obtain⟨ρ,f⟩:=LJ r tt;have hm:=bX r.bj;unfold nW;refine C9 (λx=>U6 (dP w) x) (λx=>aT w.B x) ρ (λk x hx ih=>?_) n h hh (by have:=f.rk h ((hm h).2 hh);omega);have hG:=(hm x).2 hx;rw[ah (Ar r hx.1 (fm hx.2)),aps hx.2];show cn (((0:Int)!=0||(dP w x==0))==false) (yl (dP w x) (k (dP w x))) (some [])=_;by_cases hu:dP w x=0
 ·rw[f.u0 hG hu,ae (by simp[hu])]
 ·rw[f.u1 hG hu,ak (by simp[hu]),ih _ ((hm _).1 (f.Y5 hG hu)) (f.dn x hG hu)];rfl
def nX(w:ai)(a:Int):Int:=if aM w.B a=true then 1+((U6 (dP w) a).length:Int)else 0
def di(w:ai)(a:Int):Int:=if aM w.B a=true then Nt (dP w) a else 0
def yQ(w:ai)(a b:Int):Bool:=aM w.B a&&aM w.B b&&((a==b)||(U6 (dP w) b).contains a)
def Pp(w:ai)(a:Int):List Int:=if aM w.B a=true then nS (Gw w) (dP w) a else[]
def gp(w:ai)(a:Int):List Int:=if aM w.B a=true then V6 (Gw w) (dP w) a else[]
section
variable {n:Nat} {t:av} {w:ai}
theorem aen(l:List Int)(x:Int)(h0:0<=x)(h1:x+(l.length:Int)<=1000000):tQ (λ(Ui:Int) k31 (dL:Int)=>lt (Ui:Int) λ_ =>lt (wr .i64 (dL+1):Int) λiU=>k31 iU) (λ(dL:Int)=>some dL) l x=some (x+(l.length:Int)):=by
 induction l generalizing x with
 |nil=>simp[tQ]
 |cons a l ih=>rw[List.length_cons]at h1;have e:wr .i64 (x+1)=x+1:=aL (by omega) (by omega);refine(ih (wr .i64 (x+1)) (by rw[e];omega) (by rw[e];omega)).trans ?_;rw[e,List.length_cons];congr 1;omega
theorem PO(hn:40<=n)(r:gY t w)(tt:j8 w){a:Int}(h0:0<=a)(h1:a<4294967296):jZ n t a=some (nX w a):=by
 unfold jZ nX;rw[ah (nU r.bj h0 h1)];cases hg:aM w.B a with
 |false=>rfl
 |true=>obtain⟨ρ,f⟩:=LJ r tt;have hG:=(bX r.bj a).2 ⟨h0,hg⟩;rw[ae (b:= !true) rfl,aps rfl];unfold oA;rw[ah rfl,ah (UA hn r tt ⟨h0,hg⟩)];have:=f.Za hG;exact aen _ 1 (by omega) (by omega)
theorem aaN(l:List Int)(x:Int):tQ (λ(Ui:Int) k31 (_ :Int)=>lt (Ui:Int) λg8=>k31 g8) (λ(dL:Int)=>some dL) l x=some (l.getLastD x):=by
 induction l generalizing x with
 |nil=>rfl
 |cons a l ih=>exact(ih a).trans (by cases l<;>rfl)
theorem EK(hn:40<=n)(r:gY t w)(tt:j8 w){a:Int}(h0:0<=a)(h1:a<4294967296):ju n t a=some (di w a):=by
 unfold ju di;rw[ah (nU r.bj h0 h1)];cases hg:aM w.B a with
 |false=>rfl
 |true=>rw[ae (b:= !true) rfl,aps rfl];unfold oA;rw[ah rfl,ah (UA hn r tt ⟨h0,hg⟩)];exact aaN _ a
theorem ahO(a1:Int)(l:List Int)(x:Bool):tQ (λ(e38:Int) MB (gF:Bool)=>lt (e38:Int) λiU=>lt ((gF||(iU==a1)):Bool) λqf=>MB qf) (λ(gF:Bool)=>some gF) l x=some (x||l.contains a1):=by
 induction l generalizing x with
 |nil=>simp[tQ]
 |cons a l ih=>refine(ih (x||(a==a1))).trans ?_;rw[List.contains_cons,Bool.or_assoc,Bool.beq_comm (a:=a)]
theorem OZ(hn:40<=n)(r:gY t w)(tt:j8 w){a b:Int}(h0:0<=a)(h1:a<4294967296)(k0:0<=b)(k1:b<4294967296):mQ n t a b=some (yQ w a b):=by
 unfold mQ yQ;rw[ah (nU r.bj h0 h1),ck (nU r.bj k0 k1)];cases hg:aM w.B a with
 |false=>rfl
 |true=>
  cases hk:aM w.B b with
  |false=>rfl
  |true=>rw[ae (by rfl),aJ];unfold oA;rw[ah rfl,ah (UA hn r tt ⟨k0,hk⟩)];exact ahO a _ _
end
end Go.Proofs.Z
namespace Go.Proofs.Z
open Go Go.Bw
theorem Q6{α:Type}(l:List α):l=[]\/∃i x,l=i++[x]:=by
 rcases l with _ |⟨a,l⟩
 ·exact .inl rfl
 ·exact .inr ⟨(a::l).dropLast,(a::l).getLast (by simp),(List.dropLast_concat_getLast (by simp)).symm⟩
theorem eS{α:Type}[Inhabited α]{l:List α}{i:Nat}(h:i<l.length):l.getD i default=l[i]:=by rw[List.getD,apB h];rfl
theorem an4(d:Int->Option Bool)(p:Int->Bool)(l:List Int)(hd:∀x∈l,d x=some (p x))(hl:l.length<1000)(z:Option Int){n:Nat}(hn:l.length<n):
  ∃i:Nat,i<=l.length/\(∀x∈l.take i,p x=false)/\((i<l.length/\p (l.getD i default)=true/\eU (λzu (bS:Int)=>
 cn (decide (bS<(l.length:Int))) (
 gu (bM bS l.length)<|
 bd (d (l.getD (Int.toNat bS) default)) λeC=>
 cn (eC) (
 some bS) (
 zu (wr .i64 (bS+1)))) z) n 0=some (i:Int))\/(i=l.length/\eU (λzu (bS:Int)=>
 cn (decide (bS<(l.length:Int))) (
 gu (bM bS l.length)<|
 bd (d (l.getD (Int.toNat bS) default)) λeC=>
 cn (eC) (
 some bS) (
 zu (wr .i64 (bS+1)))) z) n 0=z)):=by
 refine fK (λ(x:Int)=>∃k:Nat,x=k/\k<=l.length/\∀x∈l.take k,p x=false) (λx=>l.length-x.toNat) (λo=>∃i:Nat,i<=l.length/\(∀x∈l.take i,p x=false)/\((i<l.length/\p (l.getD i default)=true/\o=some (i:Int))\/(i=l.length/\o=z))) ?_ n 0 ⟨0,rfl,by omega,by simp⟩ (by omega);rintro kk x ⟨k,rfl,hk,hp⟩ ih;by_cases c:k<l.length
 ·have hm:l.getD k default∈l:=fT c
  rw[ak (apw (by omega)),au (bG (by omega) (by omega)),apx,ah (hd _ hm)];cases hb:p (l.getD k default)with
  |true=>rw[ak rfl];exact⟨k,hk,hp, .inl ⟨c,hb,rfl⟩⟩
  |false=>
   rw[ae rfl,aL (by omega) (by omega)];refine ih _ ⟨k+1,by omega,by omega,λy hy=>?_⟩ (by omega);rw[apC c,List.mem_append,List.mem_singleton]at hy;rcases hy with hy|hy
   ·exact hp y hy
   ·rw[hy, ← eS c];exact hb
 ·rw[ae (apD (by omega))]
  exact⟨k,hk,hp, .inr ⟨by omega,rfl⟩⟩
theorem aoQ(d:Int->Option Bool)(p:Int->Bool)(l:List Int)(hd:∀x∈l,d x=some (p x))(hl:l.length<1000){i:Nat}(hi:i<l.length)(hp:p (l.getD i default)=true)(h0:∀x∈l.take i,p x=false){n:Nat}(hn:l.length<n):
  sU (λk34 (fL:(List Int)) (dL:Int) (eE:Int)=>
 cn (decide (eE<(fL.length:Int))) (
 gu (bM eE fL.length)<|
 bd (d (fL.getD (Int.toNat eE) default)) λl7=>
 cn ((!l7)) (
 gu (bM dL fL.length)<|
 lt ((fL.set (Int.toNat dL) (fL.getD (Int.toNat eE) default)):List Int) λqz=>
 k34 qz (wr .i64 (dL+1)) (wr .i64 (eE+1))) (
 k34 fL dL (wr .i64 (eE+1)))) (
 gu (bM dL (fL.length+1))<|
 lt (fL.take (Int.toNat dL)++List.replicate (fL.length-(Int.toNat dL)) 0:List Int) λgR=>
 gu (bM dL (gR.length+1))<|
 lt (gR.take (Int.toNat dL):List Int) λxY=>
 some xY)) n l (i:Int) (wr .i64 ((i:Int)+1))=some (l.filter λx=> !p x):=by
 rw[aL (by omega) (by omega)];have hf0:(l.take i).filter (λx=> !p x)=l.take i:=List.filter_eq_self.2 λx hx=>by rw[h0 x hx];rfl
 have hf1:(l.take (i+1)).filter (λx=> !p x)=l.take i:=by rw[apC hi,List.filter_append,hf0, ← eS hi];generalize l.getD i default=y at hp;simp[hp]
 refine rR (λ(s:List Int) (a b:Int)=>∃u v:Nat,a=u/\b=v/\u<v/\v<=l.length/\s.length=l.length/\s.drop v=l.drop v/\s.take u=(l.take v).filter λx=> !p x) (λ_ _ b=>l.length-b.toNat) (λo=>o=some (l.filter λx=> !p x)) ?_ n l i ((i:Int)+1) ⟨i,i+1,rfl,by omega,by omega,by omega,rfl,rfl,hf1.symm⟩ (by omega);rintro kk s a b ⟨u,v,rfl,rfl,huv,hv,hs,h1,h2⟩ ih;by_cases c:v<l.length
 ·have e1:s.getD v default=l.getD v default:=by
   have:=congrArg (λq:List Int=>q[0]?) h1;simp only[List.getElem?_drop,Nat.add_zero]at this;rw[List.getD,List.getD,this]
  have hm:l.getD v default∈l:=fT c;rw[ak (apw (by omega)),au (bG (by omega) (by omega)),apx,e1,ah (hd _ hm),aL (x:=(v:Int)+1) (by omega) (by omega)];have hd1:∀q:List Int,q.drop v=l.drop v->q.drop (v+1)=l.drop (v+1):=λq hq=>by rw[← List.drop_drop, ← List.drop_drop,hq]
  have ht:(l.take (v+1)).filter (λx=> !p x)=(l.take v).filter (λx=> !p x)++(if p (l.getD v default)=true then[]else[l.getD v default]):=by rw[apC c,List.filter_append, ← eS c];generalize l.getD v default=y;cases hy:p y<;>simp[hy]
  cases hb:p (l.getD v default)with
  |true=>rw[ae (b:= !true) rfl];exact ih _ _ _ ⟨u,v+1,rfl,by omega,by omega,by omega,hs,hd1 _ h1,by rw[ht,hb,h2];simp⟩ (by omega)
  |false=>
   rw[ak (b:= !false) rfl,au (bG (by omega) (by omega)),aJ,apx,aL (x:=(u:Int)+1) (by omega) (by omega)];refine ih _ _ _ ⟨u+1,v+1,by omega,by omega,by omega,by omega,by rw[List.length_set];exact hs,hd1 _ (by rw[List.drop_set_of_lt huv];exact h1),?_⟩ (by omega);rw[ht,hb, ← h2];have hus:u<(s.set u (l.getD v default)).length:=by rw[List.length_set];omega
   rw[apC hus,List.getElem_set_self,List.take_set_of_le (Nat.le_refl u)];rfl
 ·obtain rfl:v=l.length:=by omega
  have hul:(s.take u).length=u:=by rw[List.length_take];omega
  rw[ae (apD (by omega)),au (bG (by omega) (by omega)),aJ,apx,au (bG (by omega) (by simp;omega)),aJ];rw[List.take_append_of_le_length (by omega),List.take_of_length_le (by omega),h2,List.take_length]
section
variable {n:Nat} {t:av} {w:ai}
theorem ak5(hn:100<=n)(r:gY t w){a:Int}(h0:0<=a)(h1:a<4294967296):yA n t a=some (Pp w a):=by
 unfold yA Pp;rw[ah (nU r.bj h0 h1)];cases hg:aM w.B a with
 |false=>rfl
 |true=>
  have hm:=bX r.bj;have hlen:=fZ w.B 32;rw[ae (b:= !true) rfl,aps rfl,ah (ae5 (by omega) r)];have hd:∀x∈Gw w,jY n x t a=some (dP w x !=a):=λx hx=>by have hx:=(hm x).1 hx;unfold jY;rw[ah (Ar r hx.1 (fm hx.2)),aps hx.2];rfl
  have hk:nS (Gw w) (dP w) a=(Gw w).filter λx=> !(dP w x !=a):=by unfold nS;congr 1;funext x;simp[bne]
  unfold eP g9;obtain⟨i,i1,i2,i3⟩:=an4 (n:=n) (λx=>jY n x t a) (λx=>dP w x !=a) (Gw w) hd (by show(aN w.B 32).length<1000;omega) (some (-1)) (by show(aN w.B 32).length<n;omega);rcases i3 with⟨q1,q2,q3⟩|⟨q1,q3⟩
  ·have:=aoQ (n:=n) (λx=>jY n x t a) (λx=>dP w x !=a) (Gw w) hd (by show(aN w.B 32).length<1000;omega) q1 q2 i2 (by show(aN w.B 32).length<n;omega)
   rw[ah q3,ae (by simp)];refine(ah this).trans ?_;rw[hk]
  ·rw[ah q3,ak (by rfl)]
   refine(ah rfl).trans ?_;rw[hk];rw[q1,List.take_length]at i2;exact congrArg some (List.filter_eq_self.2 λx hx=>by have:=i2 x hx;simp only[this];rfl).symm
theorem anK{l:List Int}(hl:l.length<1000)(hn:l.length<n):jh n l=some l.reverse:=by
 unfold jh;rw[aL (by omega) (by omega)];refine rR (λ(s:List Int) (a b:Int)=>∃u:Nat,a=u/\b=(l.length:Int)-1-u/\s.length=l.length/\u<=l.length/\∀k,k<l.length->s.getD k default=if k<u\/l.length<=k+u then l.getD (l.length-1-k) default else l.getD k default) (λ_ _ b=>(b+1).toNat) (λo=>o=some l.reverse) ?_ n l 0 ((l.length:Int)-1) ⟨0,rfl,by omega,rfl,by omega,λk hk=>by rw[apt (by omega)]⟩ (by omega);rintro kk s a b ⟨u,rfl,rfl,hs,hu,hq⟩ ih;by_cases c:2*u+1<l.length
 ·have e2:((l.length:Int)-1-u).toNat=l.length-1-u:=by omega
  rw[ak (apw (by omega)),au (bG (by omega) (by omega)),au (bG (by omega) (by omega)),au (bG (by omega) (by omega)),aJ,au (bG (by omega) (by rw[List.length_set];omega)),aJ,aL (x:=(u:Int)+1) (by omega) (by omega),aL (x:=(l.length:Int)-1-u-1) (by omega) (by omega),apx,e2];refine ih _ _ _ ⟨u+1,by omega,by omega,by rw[List.length_set,List.length_set];exact hs,by omega,λk hk=>?_⟩ (by omega);have gs:∀(q:List Int) (i:Nat) (x:Int) (k:Nat),q.length=l.length->k<l.length->(q.set i x).getD k default=if i=k then x else q.getD k default:=λq i x k h1 h2=>by
   rw[List.getD,List.getElem?_set];by_cases e:i=k
   ·subst e;rw[aps rfl,aps (by omega),aps rfl];rfl
   ·rw[apt e,apt e,List.getD]
  have a1:=hq u (by omega);have a2:=hq (l.length-1-u) (by omega);rw[apt (by omega)]at a1 a2;rw[gs _ _ _ _ (by rw[List.length_set];exact hs) hk,gs _ _ _ _ hs hk,a1,a2,hq k hk];by_cases k1:l.length-1-u=k
  ·rw[aps k1,aps (by omega)];congr 1;omega
  ·rw[apt k1]
   by_cases k2:u=k
   ·rw[aps k2,aps (by omega)];congr 1;omega
   ·rw[apt k2]
    by_cases k3:k<u\/l.length<=k+u
    ·rw[aps k3,aps (by omega)]
    ·rw[apt k3,apt (by omega)]
 ·rw[ae (apD (by omega))]
  congr 1;refine List.ext_getElem (by simp[hs]) λk h1 h2=>?_;have hk:k<l.length:=by omega
  rw[List.getElem_reverse, ← eS h1, ← eS (by omega),hq k hk];split
  ·rfl
  ·congr 1;omega
theorem K0(hn:100<=n)(r:gY t w)(tt:j8 w){a:Int}(ha:aT w.B a):nV n a t=some (V6 (Gw w) (dP w) a):=by
 obtain⟨ρ,f⟩:=LJ r tt;have hm:=bX r.bj;unfold nV;have hv:=f.Nm ((hm a).2 ha);refine(C9 (λs:List Int=>s.reverse.flatMap (V6 (Gw w) (dP w))) (λs=>(∀x∈s,x∈Gw w)/\(s.reverse.flatMap (V6 (Gw w) (dP w))).length<=32) (λs=>(s.reverse.flatMap (V6 (Gw w) (dP w))).length) (λk s hs ih=>?_) n [a] ⟨by simpa using(hm a).2 ha,by simpa using hv⟩ (by simp;omega)).trans (by simp);obtain⟨hs,hlen⟩:=hs;rcases Q6 s with rfl|⟨i,x,rfl⟩
 ·rfl
 ·have hx:x∈Gw w:=hs x (by simp)
  have hxs:=(hm x).1 hx;have e1:(i++[x]).reverse.flatMap (V6 (Gw w) (dP w))=V6 (Gw w) (dP w) x++i.reverse.flatMap (V6 (Gw w) (dP w)):=by rw[List.reverse_append,List.reverse_singleton,List.singleton_append,List.flatMap_cons]
  have hge:∀q:List Int,(∀x∈q,x∈Gw w)->q.length<=(q.flatMap (V6 (Gw w) (dP w))).length:=λq=>by
   induction q with
   |nil=>intro _;simp
   |cons b q ih=>intro hq;have h1:=ih λx hx=>hq x (by simp[hx]);have h2:=f.OB (hq b (by simp));rw[List.flatMap_cons,List.length_append,h2,List.length_cons,List.length_cons];omega
  have hi:=hge i.reverse λy hy=>hs y (by simp at hy;simp[hy]);rw[e1,List.length_append]at hlen;have Ao:i.length<=32:=by rw[List.length_reverse]at hi;omega
  have ex:wr .i64 (((i++[x]).length:Int)-1)=i.length:=by rw[List.length_append,List.length_singleton,aL (by omega) (by omega)];omega
  have eg:(i++[x]).getD (Int.toNat (i.length:Int)) default=x:=by simp[List.getD]
  have hkn:Pp w x=nS (Gw w) (dP w) x:=by unfold Pp;rw[aps hxs.2]
  have hkl:(nS (Gw w) (dP w) x).length<=32:=Nat.le_trans (List.length_filter_le _ _) f.len;have hpos:0<((i++[x]).length:Int):=by rw[List.length_append,List.length_singleton];omega
  rw[ak (apw hpos),ex,au (bG (by omega) (by simp;omega)),eg,ah (ak5 hn r hxs.1 (fm hxs.2)),hkn,ah (anK (by omega) (by omega)),au (bG (by omega) (by simp;omega)),aJ];have et:(i++[x]).take (Int.toNat (i.length:Int))=i:=by simp
  rw[et,au (fq (by simp;omega) (by simp;omega)),aJ,e1,f.OB hx];have e2:(i++(nS (Gw w) (dP w) x).reverse).reverse.flatMap (V6 (Gw w) (dP w))=(nS (Gw w) (dP w) x).flatMap (V6 (Gw w) (dP w))++i.reverse.flatMap (V6 (Gw w) (dP w)):=by rw[List.reverse_append,List.reverse_reverse,List.flatMap_append]
  have e3:=congrArg List.length (f.OB hx);rw[List.length_cons]at e3;rw[ih _ ⟨λy hy=>?_,by rw[e2,List.length_append];omega⟩ (by rw[e2,e1,List.length_append,List.length_append];omega),e2]
  ·rfl
  ·rcases List.mem_append.1 hy with h|h
   ·exact hs y (by simp[h])
   ·exact(pT.1 (List.mem_reverse.1 h)).1
theorem aeo(l x:List Int)(h:x.length+l.length<=1000):tQ (λ(e34:Int) Xx (fR:(List Int))=>lt (e34:Int) λq9=>gu (gO fR.length 1 4)<|lt (fR++([q9]):List Int) λl7=>Xx l7) (λ(fR:(List Int))=>some fR) l x=some (x++l):=by
 induction l generalizing x with
 |nil=>simp[tQ]
 |cons a l ih=>rw[List.length_cons]at h;have e:gO x.length 1 4=true:=fq (by omega) (by omega);have:=ih (x++[a]) (by simp;omega);refine Eq.trans ?_ (this.trans (by simp));show gu (gO x.length 1 4) _ =_;rw[au e];rfl
theorem S5(hn:100<=n)(r:gY t w)(tt:j8 w){a:Int}(h0:0<=a)(h1:a<4294967296):qv n t a=some (gp w a):=by
 unfold qv gp;rw[ah (nU r.bj h0 h1)];cases hg:aM w.B a with
 |false=>rfl
 |true=>obtain⟨ρ,f⟩:=LJ r tt;have hv:=f.Nm ((bX r.bj a).2 ⟨h0,hg⟩);rw[ae (b:= !true) rfl,aps rfl];unfold oz iC fG;rw[ah rfl,ah (K0 hn r tt ⟨h0,hg⟩),ah (aeo _ [] (by simp;omega))];rfl
end
end Go.Proofs.Z
namespace Go.Proofs.Z
open Go Go.Bw
section
variable {n:Nat} {t:av} {w:ai}
theorem K9(hn:40<=n)(r:gY t w){x:Int}(hx:aT w.B x):uQ n w x=some (dP w x):=by unfold uQ;rw[ah (La hn r hx)];rfl
theorem ZL(hn:100<=n)(r:gY t w){a:Int}(h0:0<=a):zZ n w a=some (Pp w a):=by
 unfold zZ;have hm:=bX r.bj;have hlen:=fZ w.B 32;rw[ah (Km (by omega) r)];refine dY (λ(s:List Int) (i:Int)=>∃k:Nat,i=k/\k<=(Gw w).length/\s=if aM w.B a=true then((Gw w).take k).filter (λy=>dP w y==a)else[]) (λ_ i=>(Gw w).length-i.toNat) (λo=>o=some (Pp w a)) ?_ n [] 0 ⟨0,rfl,by omega,by simp⟩ (by show(Gw w).length-(0:Int).toNat<n;have:(Gw w).length<=32:=hlen;omega);rintro kk s i ⟨k,rfl,hk,rfl⟩ ih;have hl:(Gw w).length<=32:=hlen;have hl':(aN w.B 32).length=(Gw w).length:=rfl;by_cases c:k<(Gw w).length
 ·have hx:=(hm _).1 (fT (l:=Gw w) (i:=k) c)
  have Qk:∀q:Bool,(if q=true then((Gw w).take k).filter (λy=>dP w y==a)else[]).length<=32:=λq=>by
   split
   ·exact Nat.le_trans (List.length_filter_le _ _) (by rw[List.length_take];omega)
   ·simp
  rw[ak (apw (by omega)),ah (cm (by omega) r h0),au (by rw[bG (i:=(k:Int)) (n:=(aN w.B 32).length) (by omega) (by omega)];simp),apx,ck (K9 (by omega) r hx),aL (x:=(k:Int)+1) (by omega) (by omega)];have ht:((Gw w).take (k+1)).filter (λy=>dP w y==a)=((Gw w).take k).filter (λy=>dP w y==a)++(if dP w ((Gw w).getD k default)=a then[(Gw w).getD k default]else[]):=by rw[apC c,List.filter_append, ← eS c];generalize(Gw w).getD k default=y;by_cases hy:dP w y=a<;>simp[hy]
  have hs:=Qk (aM w.B a);cases hg:aM w.B a with
  |false=>rw[ae (by rfl)];exact ih _ _ ⟨k+1,by omega,by omega,by rw[hg,apt (by decide),apt (by decide)]⟩ (by omega)
  |true=>
   rw[hg]at hs;by_cases hu:dP w ((Gw w).getD k default)=a
   ·rw[ak (show(true&&((bif true==true then dP w ((Gw w).getD k default)else default)==a))=true by rw[hu];simp),au (bG (by omega) (by omega)),au (fq (by omega) (by omega)),aJ]
    exact ih _ _ ⟨k+1,by omega,by omega,by rw[hg,aps rfl,aps rfl,ht,aps hu]⟩ (by omega)
   ·rw[ae (show(true&&((bif true==true then dP w ((Gw w).getD k default)else default)==a))=false by simpa using hu)]
    exact ih _ _ ⟨k+1,by omega,by omega,by rw[hg,aps rfl,aps rfl,ht,apt hu,List.append_nil]⟩ (by omega)
 ·rw[ae (apD (by omega))]
  unfold Pp nS;rw[List.take_of_length_le (by omega)]
theorem W8(r:gY t w)(tt:j8 w):∀(m:Nat) {ρ:Int->Nat},Fo (Gw w) (dP w) ρ->∀a,a∈Gw w->132-ρ a<m->iv m w a=some (V6 (Gw w) (dP w) a):=by
 have hm:=bX r.bj;intro m
 induction m with
 |zero=>intro ρ f a ha h;omega
 |succ m ih=>
  intro ρ f a ha NN;have hr:=f.rk a ha;have hg:=(hm a).1 ha;unfold iv;have hkn:Pp w a=nS (Gw w) (dP w) a:=by unfold Pp;rw[aps hg.2]
  rw[ah (cm (by omega) r hg.1),hg.2,ae (b:= !true) rfl,ah (ZL (by omega) r hg.1),hkn];have hv:=f.OB ha;have hvl:=f.Nm ha;have hkl:(nS (Gw w) (dP w) a).length<=32:=Nat.le_trans (List.length_filter_le _ _) f.len;refine dY (λ(s:List Int) (i:Int)=>∃k:Nat,i=k/\k<=(nS (Gw w) (dP w) a).length/\s=a::((nS (Gw w) (dP w) a).take k).flatMap (V6 (Gw w) (dP w))) (λ_ i=>(nS (Gw w) (dP w) a).length-i.toNat) (λo=>o=some (V6 (Gw w) (dP w) a)) ?_ m [a] 0 ⟨0,rfl,by omega,rfl⟩ (by omega);rintro kk s i ⟨k,rfl,hk,rfl⟩ Sz;by_cases c:k<(nS (Gw w) (dP w) a).length
  ·have hx:=pT.1 (fT (l:=nS (Gw w) (dP w) a) (i:=k) c)
   have hrk:=f.kup ha hx.1 hx.2;have:=f.rk _ hx.1;have ht:((nS (Gw w) (dP w) a).take (k+1)).flatMap (V6 (Gw w) (dP w))=((nS (Gw w) (dP w) a).take k).flatMap (V6 (Gw w) (dP w))++V6 (Gw w) (dP w) ((nS (Gw w) (dP w) a).getD k default):=by rw[apC c,List.flatMap_append, ← eS c];simp
   have hle:(((nS (Gw w) (dP w) a).take (k+1)).flatMap (V6 (Gw w) (dP w))).length+1<=32:=by have e:=congrArg List.length hv;rw[List.length_cons, ← List.take_append_drop (k+1) (nS (Gw w) (dP w) a),List.flatMap_append,List.length_append]at e;omega
   rw[ht,List.length_append]at hle;rw[ak (apw (by omega)),au (bG (by omega) (by omega)),apx,ah (ih f _ hx.1 (by omega)),au (fq (by rw[List.length_cons];omega) (by rw[List.length_cons];omega)),aJ,aL (by omega) (by omega)];exact Sz _ _ ⟨k+1,by omega,by omega,by rw[ht];rfl⟩ (by omega)
  ·rw[ae (apD (by omega)),List.take_of_length_le (by omega),hv]
theorem F6(hn:200<=n)(r:gY t w)(tt:j8 w){a:Int}(h0:0<=a):iv n w a=some (gp w a):=by
 unfold gp;cases hg:aM w.B a with
 |false=>obtain⟨m,rfl⟩:∃m,n=m+1:=⟨n-1,by omega⟩;unfold iv;rw[ah (cm (by omega) r h0),hg];rfl
 |true=>obtain⟨ρ,f⟩:=LJ r tt;have ha:=(bX r.bj a).2 ⟨h0,hg⟩;rw[aps rfl];exact W8 r tt n f a ha (by omega)
theorem adF(r:gY t w)(tt:j8 w):∀(m:Nat) {ρ:Int->Nat},Fo (Gw w) (dP w) ρ->∀a,a∈Gw w->ρ a+100<m->iw m w a=some (1+((U6 (dP w) a).length:Int)):=by
 have hm:=bX r.bj;intro m
 induction m with
 |zero=>intro ρ f a ha h;omega
 |succ m ih=>
  intro ρ f a ha NN;have hg:=(hm a).1 ha;have hl:=f.Za ha;unfold iw;rw[ah (cm (by omega) r hg.1),hg.2,ae (b:= !true) rfl,ah (K9 (by omega) r hg)];by_cases hu:dP w a=0
  ·have h0:iw m w 0=some 0:=by
    obtain⟨m,rfl⟩:∃k,m=k+1:=⟨m-1,by omega⟩;unfold iw;rw[ah (cm (by omega) r (by omega)),NP];rfl
   rw[hu,ah h0,f.u0 ha hu];rfl
  ·rw[ah (ih f _ (f.Y5 ha hu) (by have:=f.dn a ha hu;omega))]
   rw[f.u1 ha hu,List.length_cons]at hl ⊢;rw[aL (by omega) (by omega)];congr 1;omega
theorem Ny(hn:200<=n)(r:gY t w)(tt:j8 w){a:Int}(h0:0<=a):iw n w a=some (nX w a):=by
 unfold nX;cases hg:aM w.B a with
 |false=>obtain⟨m,rfl⟩:∃m,n=m+1:=⟨n-1,by omega⟩;unfold iw;rw[ah (cm (by omega) r h0),hg];rfl
 |true=>obtain⟨ρ,f⟩:=LJ r tt;have ha:=(bX r.bj a).2 ⟨h0,hg⟩;rw[aps rfl];exact adF r tt n f a ha (by have:=f.rk a ha;omega)
theorem ag4(r:gY t w)(tt:j8 w):∀(m:Nat) {ρ:Int->Nat},Fo (Gw w) (dP w) ρ->∀a,a∈Gw w->ρ a+100<m->iX m w a=some (Nt (dP w) a):=by
 have hm:=bX r.bj;intro m
 induction m with
 |zero=>intro ρ f a ha h;omega
 |succ m ih=>
  intro ρ f a ha NN;have hg:=(hm a).1 ha;have gg:=cm (n:=m) (by omega) r hg.1;unfold iX;rw[ah gg,hg.2,ck (K9 (by omega) r hg),f.U7 ha];by_cases hu:dP w a=0
  ·rw[ae (by rw[show(true==true)=true from rfl,cond_true,hu];rfl),ah gg,hg.2,ak rfl,aps hu]
  ·rw[ak (by rw[show(true==true)=true from rfl,cond_true];simpa using hu),ah (K9 (by omega) r hg),ah (ih f _ (f.Y5 ha hu) (by have:=f.dn a ha hu;omega)),apt hu]
theorem Ca(hn:200<=n)(r:gY t w)(tt:j8 w){a:Int}(h0:0<=a):iX n w a=some (di w a):=by
 unfold di;cases hg:aM w.B a with
 |false=>obtain⟨m,rfl⟩:∃m,n=m+1:=⟨n-1,by omega⟩;have gg:=cm (n:=m) (by omega) r h0;rw[hg]at gg;unfold iX;rw[ah gg,GA (by rfl),ae (by rfl),ah gg];rfl
 |true=>obtain⟨ρ,f⟩:=LJ r tt;have ha:=(bX r.bj a).2 ⟨h0,hg⟩;rw[aps rfl];exact ag4 r tt n f a ha (by have:=f.rk a ha;omega)
theorem OU(hn:40<=n)(r:gY t w)(tt:j8 w)(a:Int){b:Int}(hb:aT w.B b):dR n w a b=some ((U6 (dP w) b).contains a):=by
 obtain⟨ρ,f⟩:=LJ r tt;have hm:=bX r.bj;unfold dR;refine(C9 (λx=>if x=0 then false else(U6 (dP w) x).contains a) (λx=>x=0\/aT w.B x) (λx=>if x=0 then 0 else ρ x+1) (λk x hx ih=>?_) n b (.inr hb) ?_).trans (by rw[apt (f.pos b ((hm b).2 hb))])
 ·by_cases h0:x=0
  ·subst h0;rw[ae (by rfl)];rfl
  ·have hg:=hx.resolve_left h0
   have hG:=(hm x).2 hg;have hsr:=fN x;rw[ak (by simpa using h0),ah (dk hn r.bj hg.1),hg.2,aps rfl,au (ia x),apt h0];show cn (dP w x==a) (some (a !=0)) (k (dP w x))=_;by_cases hu:dP w x=0
   ·rw[hu,f.u0 hG hu]
    by_cases ha:a=0
    ·subst ha;rw[ak (by rfl)];rfl
    ·rw[ae (by simpa using Ne.symm ha),ih 0 (.inl rfl) (by rw[aps rfl,apt h0];omega)];rfl
   ·rw[f.u1 hG hu]
    by_cases ha:dP w x=a
    ·rw[ak (by simpa using ha)]
     have:a≠0:=ha▸hu;rw[List.contains_cons,ha];simp[this]
    ·rw[ae (by simpa using ha),ih _ (.inr ((hm _).1 (f.Y5 hG hu))) (by rw[apt hu,apt h0];have:=f.dn x hG hu;omega),apt hu,List.contains_cons]
     congr 1;have:(a==dP w x)=false:=by simpa using Ne.symm ha
     rw[this,Bool.false_or]
 ·have hp:=f.pos b ((hm b).2 hb)
  rw[apt hp];have:=f.rk b ((hm b).2 hb);omega
theorem Ve(hn:200<=n)(r:gY t w)(tt:j8 w){a b:Int}(h0:0<=a)(k0:0<=b):pN n w a b=some (yQ w a b):=by
 unfold pN yQ;rw[ah (cm (by omega) r h0),ck (cm (by omega) r k0)];cases hg:aM w.B a with
 |false=>rfl
 |true=>
  cases hk:aM w.B b with
  |false=>rfl
  |true=>
   by_cases e:a=b
   ·subst e;rw[GA (by simp)];simp
   ·refine(oB (by simpa using e) (OU (by omega) r tt a ⟨k0,hk⟩)).trans ?_
    rfl
theorem aem(d:Int->Option Int)(e:Option Int)(v:Int->Int)(c:Int)(hc:0<=c/\c<=1000)(he:e=some c)(l:List Int)(hd:∀x∈l,d x=some (v x)/\0<=v x/\v x<=1000)(x:Int)(h0:0<=x/\x<=5000):
  tQ (λ(e35:Int) k30 (iM:Int)=>
 lt (e35:Int) λeD=>
 bd (d eD) λl7=>
 bd e λiU=>
 lt ((if iM<wr .i64 ((wr .i64 (l7-iU))+1)then wr .i64 ((wr .i64 (l7-iU))+1)else iM):Int) λqz=>
 k30 qz) (λ(iM:Int)=>
 some iM) l x=some (l.foldl (λm y=>max m (v y-c+1)) x):=by
 subst he
 induction l generalizing x with
 |nil=>rfl
 |cons a l ih=>obtain⟨a1,a2,a3⟩:=hd a (by simp);have e1:wr .i64 (v a-c)=v a-c:=aL (by omega) (by omega);have e2:wr .i64 (v a-c+1)=v a-c+1:=aL (by omega) (by omega);have key:=ih (λy hy=>hd y (by simp[hy])) (max x (v a-c+1)) (by omega);rw[List.foldl_cons, ← key];show bd (d a) _ =_;rw[ah a1,ah rfl,e1,e2];show tQ _ _ l _ =_;congr 1;simp only[Int.max_def];split<;>split<;>omega
theorem abq(v:Int->Int)(c:Int)(l:List Int)(x k:Int):k<l.foldl (λm y=>max m (v y-c+1)) x↔k<x\/∃y∈l,k<v y-c+1:=by
 induction l generalizing x with
 |nil=>simp
 |cons a l ih=>
  rw[List.foldl_cons,ih];constructor
  ·rintro(h|⟨y,hy,h⟩)
   ·rcases Int.lt_or_le k x with h1|h1
    ·exact .inl h1
    ·exact .inr ⟨a,by simp,by omega⟩
   ·exact .inr ⟨y,by simp[hy],h⟩
  ·rintro(h|⟨y,hy,h⟩)
   ·exact .inl (by omega)
   ·rcases List.mem_cons.1 hy with e|hy
    ·subst e;exact .inl (by omega)
    ·exact .inr ⟨y,hy,h⟩
end
end Go.Proofs.Z
namespace Go.Proofs.Z
open Go Go.Bw
def zF(w:ai):Prop:=∀g,aT w.B g->(0<=(w.R (aZ g)).cu/\(w.R (aZ g)).cu<=64)/\∀n,110<=n->dS n (w.R (aZ g)).E=some true
def ad1:bL:={Up:=0,cu:=0,E:=bD,bC:=(λ_ =>0)}
def LY(w:ai)(h:Int):ai:=if aM w.B h=true then⟨Bz w.B h,λj=>if j<32/\(dy w.R (aZ h) ad1 j).Up=h then{dy w.R (aZ h) ad1 j with Up:=0}else dy w.R (aZ h) ad1 j⟩else w
theorem Xd{n:Nat}(hn:40<=n)(h:Int)(w:ai):cJ (λk51 (mG:Int) (vJ:ai)=>cn (decide (mG<32)) (gu (bM mG 32)<|cn ((((vJ.R (Int.toNat mG)).Up)==h)) (gu (bM mG 32)<|lt ({vJ with R:=(dy vJ.R (Int.toNat mG) ({(vJ.R (Int.toNat mG))with Up:=0}))}:ai) λD5=>k51 (wr .i64 (mG+1)) D5) (k51 (wr .i64 (mG+1)) vJ)) (some (vJ,(0:Int)))) n 0 w=some (({B:=w.B,R:=λj=>if j<32/\(w.R j).Up=h then{w.R j with Up:=0}else w.R j}:ai),0):=by
 refine dY (λ(i:Int) (v:ai)=>0<=i/\i<=32/\v.B=w.B/\∀j,v.R j=if j<i.toNat/\(w.R j).Up=h then{w.R j with Up:=0}else w.R j) (λi _ =>(32-i).toNat)
  (λo=>o=some (({B:=w.B,R:=λj=>if j<32/\(w.R j).Up=h then{w.R j with Up:=0}else w.R j}:ai),0)) ?_ n 0 w ⟨by omega,by omega,rfl,λj=>by simp⟩ (by omega)
 rintro kk i v ⟨i0,i1,hb,hv⟩ ih;by_cases c:i<32
 ·have hi:=hv i.toNat
  rw[apt (λhh=>absurd hh.1 (Nat.lt_irrefl _))]at hi;rw[ak (by simpa using c),au (bG i0 (by omega)),hi,aL (x:=i+1) (by omega) (by omega)];have e1:(i+1).toNat=i.toNat+1:=by omega
  have step:∀j,j≠i.toNat->(if j<i.toNat/\(w.R j).Up=h then{w.R j with Up:=0}else w.R j)=(if j<(i+1).toNat/\(w.R j).Up=h then{w.R j with Up:=0}else w.R j):=λj hj=>by
   by_cases hu:(w.R j).Up=h
   ·by_cases hl:j<i.toNat
    ·rw[aps ⟨hl,hu⟩,aps ⟨by omega,hu⟩]
    ·rw[apt (λhh=>hl hh.1),apt (λhh=>by omega)]
   ·rw[apt (λhh=>hu hh.2),apt (λhh=>hu hh.2)]
  by_cases hu:(w.R i.toNat).Up=h
  ·rw[ak (by simpa using hu),au (bG i0 (by omega)),aJ]
   refine ih _ _ ⟨by omega,by omega,hb,λj=>?_⟩ (by omega);show dy v.R i.toNat _ j=_;rw[bK];by_cases ej:j=i.toNat
   ·subst ej;rw[aps rfl,aps ⟨by omega,hu⟩]
   ·rw[apt ej,hv j,step j ej]
  ·rw[ae (by simpa using hu)]
   refine ih _ _ ⟨by omega,by omega,hb,λj=>?_⟩ (by omega);rw[hv j];by_cases ej:j=i.toNat
   ·subst ej;rw[apt (λhh=>hu hh.2),apt (λhh=>hu hh.2)]
   ·exact step j ej
 ·rw[ae (by simpa using c)]
  have e:v=({B:=w.B,R:=λj=>if j<32/\(w.R j).Up=h then{w.R j with Up:=0}else w.R j}:ai):=by obtain⟨vb,vr⟩:=v;congr 1;funext j;rw[show vr j=_ from hv j,show i.toNat=32 by omega]
  rw[e]
section
variable {n:Nat} {t:av} {w:ai}
theorem QN(hn:40<=n)(r:gY t w){h:Int}(h0:0<=h):iN n w h=some (LY w h,if aM w.B h=true then 0 else 4):=by
 unfold iN LY;have hr:=fN h;rw[ah (dk hn r.bj h0)];cases hg:aM w.B h with
 |false=>rfl
 |true=>rw[aps rfl,ae (by simp;omega),ah (F5 hn r.bj h0),aJ,aJ,au (ia h),aJ,aps rfl,aps rfl];exact Xd (n:=n) hn h ⟨Bz w.B h,dy w.R (aZ h) ad1⟩
theorem abI(hn:40<=n)(r:gY t w)(tt:j8 w){h:Int}(h0:0<=h)(h1:h<4294967296):
  ∃t',jF n t h=some (t',if aM w.B h=true then 0 else 4)/\gY t' (LY w h)/\j8 (LY w h):=by
 obtain⟨t',w',e,e1,e2,k⟩:=ama hn r tt h0 h1;obtain⟨rfl,rfl⟩:=Prod.mk.inj (Option.some.inj (e2.symm.trans (QN hn r h0)));exact⟨t',e1,k.rt,k.tt⟩
theorem LX(r:gY t w){h:Int}(h0:0<=h)(x:Int):aT (LY w h).B x↔aT w.B x/\x≠h:=by
 unfold LY;cases hg:aM w.B h with
 |false=>rw[apt (by decide)];exact⟨λhx=>⟨hx,λe=>by subst e;have:=hx.2;rw[hg]at this;cases this⟩,λhx=>hx.1⟩
 |true=>rw[aps rfl];exact OA r.bj h0 x
theorem PN(r:gY t w){h:Int}(h0:0<=h){x:Int}(hx:aT (LY w h).B x):(LY w h).R (aZ x)=if dP w x=h then{w.R (aZ x)with Up:=0}else w.R (aZ x):=by
 obtain⟨x1,x2⟩:=(LX r h0 x).1 hx;unfold LY;cases hg:aM w.B h with
 |false=>
  rw[apt (by decide)];split
  ·rename_i hu
   have:h=0\/aT w.B h:=by rw[← hu];exact r.ups x1
   rcases this with e|e
   ·have:(w.R (aZ x)).Up=0:=hu.trans e
    rw[← this]
   ·have:=e.2;rw[hg]at this;cases this
  ·rfl
 |true=>
  rw[aps rfl];have hne:aZ x≠aZ h:=λe=>x2 (by rw[← iR x1, ← iR ⟨h0,hg⟩,e]);dsimp only;rw[jx _ _ hne];by_cases hu:dP w x=h
  ·rw[aps hu,aps ⟨iW x,hu⟩]
  ·rw[apt hu,apt (λhh=>hu hh.2)]
theorem aiG(r:gY t w){h:Int}(h0:0<=h){x:Int}(hx:aT (LY w h).B x):dP (LY w h) x=if dP w x=h then 0 else dP w x:=by unfold dP;rw[PN r h0 hx];show(if(w.R (aZ x)).Up=h then _ else _ :bL).Up=_;split<;>rfl
theorem zF.drop(i:zF w)(r:gY t w){h:Int}(h0:0<=h):zF (LY w h):=λg hg=>by
 have:=i g ((LX r h0 g).1 hg).1;rw[PN r h0 hg];split
 ·exact this
 ·exact this
def JK(w:ai)(h a:Int):ai:={w with R:=dy w.R (aZ h) {w.R (aZ h)with Up:=a}}
theorem Nx(hn:40<=n)(r:gY t w)(tt:j8 w){h a:Int}(hh:aT w.B h)(ha:a=0\/aT w.B a)(hno:¬(a≠0/\(a=h\/h∈U6 (dP w) a))):kJ n w h a=some (JK w h a,0):=by
 unfold kJ JK;have a0:0<=a:=by rcases ha with e|e;omega;exact e.1
 have ok:ok0 w.B a=true:=by
  unfold ok0;rcases ha with e|e
  ·rw[e];rfl
  ·rw[e.2,Bool.or_true]
 have e0:∀v:Bool,(((!true)==false)&&v)=v:=λv=>by cases v<;>rfl
 rw[ah (cm hn r hh.1),ck (cm hn r a0),hh.2,e0,ur,ok,ae (by rfl)];have key:∀F:Bool->Option (ai×Int),(cl (((a !=0)==true)&&((a==h)==false)) (dR n w h a) default λfR=>F ((a !=0)&&((a==h)||fR)))=F false:=λF=>by
  by_cases e:a=0
  ·subst e;rfl
  ·have hg:=ha.resolve_left e
   have h1:a≠h:=λq=>hno ⟨e, .inl q⟩;have h2:(U6 (dP w) a).contains h=false:=by rw[← Bool.not_eq_true,List.contains_iff_mem];exactλq=>hno ⟨e, .inr q⟩
   have e1:(a==h)=false:=by simpa using h1
   rw[oB (by simp[e,h1]) (OU hn r tt h hg),h2,e1];simp
 rw[key (λv=>cn v (some (w,12)) (bd (br n w.B h) λdL=>
 gu (bM dL 32)<|
 lt ({w with R:=(dy w.R (Int.toNat dL) ({(w.R (Int.toNat dL))with Up:=a}))}:ai) λgF=>
 some (gF,0))),ae rfl,ah (dk hn r.bj hh.1),hh.2,aps rfl,au (ia h)]
 rfl
theorem ZQ(hn:40<=n)(r:gY t w)(tt:j8 w){h a:Int}(hh:aT w.B h)(ha:a=0\/aT w.B a)(hno:¬(a≠0/\(a=h\/h∈U6 (dP w) a))):
  ∃t',iV n t h a=some (t',0)/\gY t' (JK w h a)/\j8 (JK w h a):=by
 have a0:0<=a/\a<4294967296:=by rcases ha with e|e;omega;exact⟨e.1,fm e.2⟩
 obtain⟨t',w',e,e1,e2,k⟩:=ag6 hn r tt hh.1 (fm hh.2) a0.1 a0.2;obtain⟨rfl,rfl⟩:=Prod.mk.inj (Option.some.inj (e2.symm.trans (Nx hn r tt hh ha hno)));exact⟨t',e1,k.rt,k.tt⟩
theorem SZ{h a x:Int}(hh:aT w.B h)(hx:aT w.B x):dP (JK w h a) x=if x=h then a else dP w x:=by
 unfold dP JK;dsimp only;rw[bK];by_cases e:x=h
 ·rw[aps e,aps (by rw[e])]
 ·rw[apt e,apt (λq=>e (by rw[← iR hx, ← iR hh,q]))]
theorem zF.up(i:zF w)(h a:Int):zF (JK w h a):=λg hg=>by
 have:=i g hg;unfold JK;dsimp only;rw[bK];split
 ·rename_i e;rw[e]at this;exact this
 ·exact this
def Bc(w:ai)(h:Int)(x:bL):ai:={w with R:=dy w.R (aZ h) {x with Up:=(w.R (aZ h)).Up}}
theorem OS(hn:40<=n)(r:gY t w){h:Int}(hh:aT w.B h){x:bL}(hq:0<=x.cu/\x.cu<=64)(hm:dS n x.E=some true):jr n w h x=some (Bc w h x,0):=by
 unfold jr Bc;have hsr:=fN h;rw[ah (dk (by omega) r.bj hh.1),hh.2,aps rfl,ae (by simp;omega),ck hm];have e2:(decide (x.cu<0)||decide (64<x.cu))=false:=by rw[Bool.or_eq_false_iff,decide_eq_false_iff_not,decide_eq_false_iff_not];omega
 rw[e2,ae (by rfl),au (ia h),aJ,au (ia h),aJ];rfl
theorem adp(hn:110<=n)(r:gY t w)(tt:j8 w){h:Int}(hh:aT w.B h){p:aS}{x:bL}(hx:J5 p x)(hq:0<=x.cu/\x.cu<=64)(hm:dS n x.E=some true):
  ∃t',gP n t h p=some (t',0)/\gY t' (Bc w h x)/\j8 (Bc w h x):=by
 obtain⟨t',w',e,e1,e2,k⟩:=anF hn r tt hh.1 (fm hh.2) hx;obtain⟨rfl,rfl⟩:=Prod.mk.inj (Option.some.inj (e2.symm.trans (OS (by omega) r hh hq hm)));exact⟨t',e1,k.rt,k.tt⟩
theorem S8(h:Int)(x:bL)(y:Int):dP (Bc w h x) y=dP w y:=by
 unfold dP Bc;dsimp only;rw[bK];split
 ·rename_i e;rw[e]
 ·rfl
theorem zF.set(i:zF w){h:Int}(hh:aT w.B h){x:bL}(hq:x.cu=(w.R (aZ h)).cu)(he:x.E=(w.R (aZ h)).E):zF (Bc w h x):=λg hg=>by
 have h1:=i g hg;have h2:=i h hh;unfold Bc;dsimp only;rw[bK];split
 ·dsimp only;rw[hq,he];exact h2
 ·exact h1
theorem adE(hn:40<=n)(r:gY t w){a q:Int}(ha:a=0\/aT w.B a)(hq:0<=q/\q<=64){f:Nat}(hf:CZ w.B f):
  fS n w a q=some (if f<32 then(⟨mq w.B f,dy w.R f ⟨a,q,bD,λ_ =>0⟩⟩,fP f (w.B.gE f),0)else(w,0,7)):=by
 have a0:0<=a:=by rcases ha with e|e;omega;exact e.1
 have ok:ok0 w.B a=true:=by
  unfold ok0;rcases ha with e|e
  ·rw[e];rfl
  ·rw[e.2,Bool.or_true]
 unfold fS;rw[ck (cm hn r a0),ur,ok,ae (b:= !true) rfl,ae (by simp;omega),ah (Cb hn r.bj hf)];by_cases hl:f<32
 ·rw[aps hl,aps hl]
  have hr:=r.bj.oh f hl;obtain⟨q1,q2,q3,q4,q5⟩:=o6 (i:=f) (g:=w.B.gE f) (by omega) (by omega) hr.1 hr.2;obtain⟨b',i1,i2⟩:=Lr (n:=n) hn r.bj hf;rw[aps hl]at i2;have hnew:aT (mq w.B f) (fP f (w.B.gE f)):=(mw r.bj hf hl _).2 (.inr rfl);have hfn:(mH (fP f (w.B.gE f))).toNat=f:=by rw[q2];omega
  rw[ae (by simp;omega),aJ];dsimp only;rw[ah (dk hn i2 (by omega)),hnew.2,aps rfl];show gu (bM (mH (fP f (w.B.gE f))) 32) _ =_;rw[au (ia _),hfn];rfl
 ·rw[apt hl,apt hl];rfl
end
end Go.Proofs.Z
namespace Go.Proofs.Z
open Go Go.Bw
abbrev ez(w:ai)(l:List Int):ai:=l.foldl LY w
section
variable {n:Nat} {t:av} {w:ai}
theorem PK(l:List Int):∀{t:av} {w:ai},gY t w->j8 w->zF w->(∀x∈l,0<=x/\x<4294967296)->(∃t',gY t' (ez w l))/\j8 (ez w l)/\zF (ez w l)/\(∀y,aT (ez w l).B y↔aT w.B y/\y∉l)/\(∀y,aT (ez w l).B y->dP (ez w l) y=if dP w y∈l then 0 else dP w y):=by
 induction l with
 |nil=>intro t w r tt i _;exact⟨⟨t,r⟩,tt,i,λy=>by simp,λy _ =>by simp⟩
 |cons x l ih=>
  intro t w r tt i hl;have hx:=hl x (by simp);obtain⟨t1,_,r1,tt1⟩:=abI (n:=40) (by omega) r tt hx.1 hx.2;obtain⟨a1,a2,a3,a4,a5⟩:=ih r1 tt1 (i.drop r hx.1) λy hy=>hl y (by simp[hy]);refine⟨a1,a2,a3,λy=>?_,λy hy=>?_⟩
  ·refine(a4 y).trans ?_
   rw[LX r hx.1,List.mem_cons,not_or,and_assoc]
  ·refine(a5 y hy).trans ?_
   rw[aiG r hx.1 ((a4 y).1 hy).1];by_cases e:dP w y=x
   ·rw[aps e,aps (List.mem_cons.2 (.inl e))];split<;>rfl
   ·rw[apt e]
    by_cases e2:dP w y∈l
    ·rw[aps e2,aps (apE _ e2)]
    ·rw[apt e2,apt (λh=>(List.mem_cons.1 h).elim e e2)]
theorem aiE(hn:100<=n)(r:gY t w)(tt:j8 w){l:List Int}(hl:∀x∈l,0<=x/\x<4294967296)(hlen:l.length<=40):∃t',cJ (λk47 (gR:Int) (vK:av)=>cn (decide (gR<(l.length:Int))) (gu (bM gR l.length)<|bd (jF n vK (l.getD (Int.toNat gR) default)) λyH=>k47 (wr .i64 (gR+1)) yH.1) (some (vK,l,(0:Int)))) n 0 t=some (t',l,0)/\gY t' (ez w l)/\j8 (ez w l):=by
 refine dY (λ(i:Int) (t:av)=>∃k:Nat,i=k/\k<=l.length/\gY t (ez w (l.take k))/\j8 (ez w (l.take k))) (λi _ =>l.length-i.toNat) (λo=>∃t',o=some (t',l,0)/\gY t' (ez w l)/\j8 (ez w l)) ?_ n 0 t ⟨0,rfl,by omega,r,tt⟩ (by omega);rintro kk i t ⟨k,rfl,hk,r,tt⟩ ih;by_cases c:k<l.length
 ·have hx:=hl _ (fT (l:=l) (i:=k) c)
  obtain⟨t1,e1,r1,tt1⟩:=abI (n:=n) (by omega) r tt hx.1 hx.2;have et:LY (ez w (l.take k)) (l.getD k default)=ez w (l.take (k+1)):=by rw[apC c, ← eS c,ez,ez,List.foldl_append];rfl
  rw[et]at r1 tt1;rw[ak (apw (by omega)),au (bG (by omega) (by omega)),apx,ah e1,aL (by omega) (by omega)];exact ih _ _ ⟨k+1,by omega,by omega,r1,tt1⟩ (by omega)
 ·rw[ae (apD (by omega))]
  rw[List.take_of_length_le (by omega)]at r tt;exact⟨t,rfl,r,tt⟩
theorem aiD(hn:100<=n)(r:gY t w)(tt:j8 w)(i:zF w){l:List Int}(hl:∀x∈l,0<=x/\x<4294967296)(hlen:l.length<=40){ρ:Type}(F:ai->Option ρ):cJ (λRh (eD:Int) (g8:ai)=>cn (decide (eD<(l.length:Int))) (gu (bM eD l.length)<|bd (iN n g8 (l.getD (Int.toNat eD) default)) λvK=>Rh (wr .i64 (eD+1)) vK.1) (F g8)) n 0 w=F (ez w l):=by
 refine dY (λ(i:Int) (v:ai)=>∃k:Nat,i=k/\k<=l.length/\v=ez w (l.take k)) (λi _ =>l.length-i.toNat) (λo=>o=F (ez w l)) ?_ n 0 w ⟨0,rfl,by omega,rfl⟩ (by omega);rintro kk x v ⟨k,rfl,hk,rfl⟩ ih;by_cases c:k<l.length
 ·have hx:=hl _ (fT (l:=l) (i:=k) c)
  obtain⟨⟨t1,r1⟩,_⟩:=PK (l.take k) r tt i λy hy=>hl y (List.mem_of_mem_take hy);rw[ak (apw (by omega)),au (bG (by omega) (by omega)),apx,ah (QN (by omega) r1 hx.1),aL (by omega) (by omega)];exact ih _ _ ⟨k+1,by omega,by omega,by rw[apC c, ← eS c,ez,ez,List.foldl_append];rfl⟩ (by omega)
 ·rw[ae (apD (by omega)),List.take_of_length_le (by omega)]
theorem yf(r:gY t w)(tt:j8 w)(a:Int):(∀x∈gp w a,aT w.B x)/\(gp w a).length<=32:=by
 unfold gp;cases hg:aM w.B a with
 |false=>exact⟨λx hx=>(by rw[apt (by decide)]at hx;cases hx),by simp⟩
 |true=>
  rw[aps rfl];by_cases h0:0<=a
  ·obtain⟨ρ,f⟩:=LJ r tt
   have ha:=(bX r.bj a).2 ⟨h0,hg⟩;exact⟨λx hx=>(bX r.bj x).1 ((f.zb ha x).1 hx).1,f.Nm ha⟩
  ·exact absurd hg (by
    intro h;have h3:=(lX.1 h).2.2;have h4:=r.bj.oh (aZ a) (iW a);unfold aZ at h4;omega)
theorem FT(r:gY t w)(tt:j8 w)(a:Int):∀x∈gp w a,0<=x/\x<4294967296:=λx hx=>by have:=(yf r tt a).1 x hx;exact⟨this.1,fm this.2⟩
theorem ac9(r:gY t w)(tt:j8 w){a:Int}(h0:0<=a):(gp w a).length=0↔aM w.B a=false:=by
 unfold gp;cases hg:aM w.B a with
 |false=>simp
 |true=>obtain⟨ρ,f⟩:=LJ r tt;rw[aps rfl,f.OB ((bX r.bj a).2 ⟨h0,hg⟩)];simp
theorem af5(hn:200<=n)(r:gY t w)(tt:j8 w)(i:zF w){a:Int}(h0:0<=a)(h1:a<4294967296):
  ∃t',yB n t a=some (t',gp w a,if aM w.B a=true then 0 else 4)/\z6 n w a=some (ez w (gp w a),gp w a,if aM w.B a=true then 0 else 4)/\gY t' (ez w (gp w a))/\j8 (ez w (gp w a)):=by
 have hr:=FT r tt a;have hl:=(yf r tt a).2;have hz:=ac9 r tt h0;unfold yB z6;rw[ah (S5 (by omega) r tt h0 h1),ah (F6 (by omega) r tt h0)];have hR:=aiD (n:=n) (by omega) r tt i hr (by omega) λv=>cn (((gp w a).length:Int)==0) (some (v,([]:List Int),(4:Int))) (some (v,gp w a,0));cases hg:aM w.B a with
 |false=>have e:=List.length_eq_zero_iff.1 (hz.2 hg);rw[e]at hR ⊢;exact⟨t,by rw[ak (by rfl)];rfl,hR,r,tt⟩
 |true=>
  have e:(((gp w a).length:Int)==0)=false:=by
   have:(gp w a).length≠0:=λq=>by have:=hz.1 q;rw[hg]at this;cases this
   simpa using this
  obtain⟨t',e1,e2,e3⟩:=aiE (n:=n) (by omega) r tt hr (by omega);rw[ae e];refine⟨t',e1,?_,e2,e3⟩;rw[hR,ae e];rfl
def clr(L:List Int)(c0 c:Nat->Int):Nat->Int:=λi=>if i<8/\L.contains (c0 i)=true then 0 else c i
theorem amk{α ρ:Type}(get:α->Nat->Int)(put:α->Nat->α)(p:α)(c:Nat->Int)(d:Int->Option Bool)(L:List Int)(hd:∀i,i<8->d (c i)=some (L.contains (c i)))(fin:(Nat->Int)->α)(h0:fin (get p)=p)
  (hput:∀g i,put (fin g) i=fin (dy g i 0))(F:α->Option ρ){m:Nat}(hm:10<=m):cJ (λk74 (yY:Int) (A2:α)=>
 cn (decide (yY<8)) (
 gu (bM yY 8)<|
 bd (d (c (Int.toNat yY))) λMN=>
 cn (MN) (
 gu (bM yY 8)<|
 lt (put A2 (Int.toNat yY)) λMz=>
 k74 (wr .i64 (yY+1)) Mz) (
 k74 (wr .i64 (yY+1)) A2)) (
 F A2)) m 0 p=F (fin (clr L c (get p))):=by
 refine dY (λ(i:Int) (v:α)=>∃k:Nat,i=k/\k<=8/\v=fin (λj=>if j<k/\L.contains (c j)=true then 0 else get p j)) (λi _ =>8-i.toNat) (λo=>o=F (fin (clr L c (get p)))) ?_ m 0 p ⟨0,rfl,by omega,by simp[h0]⟩ (by omega);rintro kk x v ⟨k,rfl,hk,rfl⟩ ih;by_cases q:k<8
 ·rw[ak (apw (by omega)),au (bG (by omega) (by omega)),apx,ah (hd k q),aL (by omega) (by omega)]
  have st:∀j,j≠k->(if j<k+1/\L.contains (c j)=true then(0:Int)else get p j)=if j<k/\L.contains (c j)=true then 0 else get p j:=λj hj=>by
   by_cases h1:L.contains (c j)=true
   ·by_cases h2:j<k
    ·rw[aps ⟨by omega,h1⟩,aps ⟨h2,h1⟩]
    ·rw[apt (λh=>by omega),apt (λh=>h2 h.1)]
   ·rw[apt (λh=>h1 h.2),apt (λh=>h1 h.2)]
  cases hc:L.contains (c k)with
  |true=>
   rw[ak rfl,au (bG (by omega) (by omega)),aJ,hput];refine ih _ _ ⟨k+1,by omega,by omega,?_⟩ (by omega);congr 1;funext j;rw[bK];by_cases e:j=k
   ·subst e;rw[aps rfl,aps ⟨by omega,hc⟩]
   ·rw[apt e,st j e]
  |false=>
   rw[ae rfl];refine ih _ _ ⟨k+1,by omega,by omega,?_⟩ (by omega);congr 1;funext j;by_cases e:j=k
   ·subst e;rw[apt (λh=>by rw[hc]at h;exact absurd h.2 (by decide)),apt (λh=>by rw[hc]at h;exact absurd h.2 (by decide))]
   ·rw[st j e]
 ·rw[ae (apD (by omega))]
  obtain rfl:k=8:=by omega
  rfl
def M5(w0:ai)(L:List Int)(v:ai)(x:Int):ai:={v with R:=dy v.R (aZ x) {v.R (aZ x)with bC:=clr L (w0.R (aZ x)).bC (v.R (aZ x)).bC}}
abbrev Gv(w:ai)(L l:List Int):ai:=l.foldl (M5 w L) w
theorem aiM(w0:ai)(L:List Int)(v:ai)(x y:Int):dP (M5 w0 L v x) y=dP v y:=by
 unfold dP M5;dsimp only;rw[bK];split
 ·rename_i e;rw[e]
 ·rfl
theorem Im(w0:ai)(L l:List Int):∀v:ai,(l.foldl (M5 w0 L) v).B=v.B:=by
 induction l with
 |nil=>intro v;rfl
 |cons x l ih=>intro v;exact ih _
theorem aeS(w0:ai)(L l:List Int)(y:Int):∀v:ai,dP (l.foldl (M5 w0 L) v) y=dP v y:=by
 induction l with
 |nil=>intro v;rfl
 |cons x l ih=>intro v;exact(ih _).trans (aiM _ _ _ _ _)
theorem Ap{B:aD}{x y:Int}(hx:aT B x)(hy:aT B y)(e:aZ x=aZ y):x=y:=by rw[← iR hx, ← iR hy,e]
end
end Go.Proofs.Z
namespace Go.Proofs.Z
open Go Go.Bw
section
variable {n:Nat} {t:av} {w:ai}
theorem adQ(r:gY t w)(tt:j8 w){h:Int}(hh:aT w.B h){c:Int}(c0:0<=c):((c !=h)&&yQ w c h)=(U6 (dP w) h).contains c:=by
 obtain⟨ρ,f⟩:=LJ r tt;have hG:=(bX r.bj h).2 hh;unfold yQ;by_cases e:c=h
 ·subst e
  have:(U6 (dP w) c).contains c=false:=by rw[← Bool.not_eq_true,List.contains_iff_mem];exact f.afD hG
  rw[this];simp
 ·have e1:(c !=h)=true:=by simpa using e
  have e2:(c==h)=false:=by simpa using e
  rw[e1,e2,hh.2];cases hc:(U6 (dP w) h).contains c with
  |false=>simp
  |true=>have:=(bX r.bj c).1 (f.I9 hG c (List.contains_iff_mem.1 hc)).1;rw[this.2];rfl
theorem aiL(hn:100<=n)(r:gY t w)(tt:j8 w){h:Int}(hh:aT w.B h)(s:Int)(hs:0<=s/\s<32)(v:ai){ρ:Type}(F:ai->Option ρ):
  cJ (λk64 (zJ:Int) (uz:ai)=>
 cn (decide (zJ<8)) (
 gu (bM s 32)<|
 gu (bM zJ 8)<|
 cl ((((w.R (Int.toNat s)).bC (Int.toNat zJ))!=0)==true) (dR n w ((w.R (Int.toNat s)).bC (Int.toNat zJ)) h) default λNk=>
 cn (((((w.R (Int.toNat s)).bC (Int.toNat zJ))!=0)&&Nk)) (
 gu (bM s 32)<|
 gu (bM zJ 8)<|
 lt ({uz with R:=(dy uz.R (Int.toNat s) ({(uz.R (Int.toNat s))with bC:=(dy ((uz.R (Int.toNat s)).bC) (Int.toNat zJ) 0)}))}:ai) λOe=>
 k64 (wr .i64 (zJ+1)) Oe) (
 k64 (wr .i64 (zJ+1)) uz)) (
 F uz)) n 0 v=F {v with R:=dy v.R s.toNat {v.R s.toNat with bC:=clr (U6 (dP w) h) (w.R s.toNat).bC (v.R s.toNat).bC}}:=by
 obtain⟨ρ',f⟩:=LJ r tt;have hG:=(bX r.bj h).2 hh;have Rs:bM s 32=true:=bG hs.1 (by omega);have key:∀(c:Int) (G:Bool->Option ρ),(cl ((c !=0)==true) (dR n w c h) default λNk=>G ((c !=0)&&Nk))=G ((U6 (dP w) h).contains c):=λc G=>by
  by_cases e:c=0
  ·subst e
   have:(U6 (dP w) h).contains 0=false:=by rw[← Bool.not_eq_true,List.contains_iff_mem];exactλq=>f.pos 0 (f.I9 hG 0 q).1 rfl
   rw[this];rfl
  ·have e1:(c !=0)=true:=by simpa using e
   rw[oB (by rw[e1];rfl) (OU (by omega) r tt c hh),e1,Bool.true_and]
 refine dY (λ(i:Int) (x:ai)=>∃k:Nat,i=k/\k<=8/\x={v with R:=dy v.R s.toNat {v.R s.toNat with bC:=λj=>if j<k/\(U6 (dP w) h).contains ((w.R s.toNat).bC j)=true then 0 else(v.R s.toNat).bC j}}) (λi _ =>8-i.toNat)
  (λo=>o=F {v with R:=dy v.R s.toNat {v.R s.toNat with bC:=clr (U6 (dP w) h) (w.R s.toNat).bC (v.R s.toNat).bC}}) ?_ n 0 v ⟨0,rfl,by omega,?_⟩ (by omega)
 ·rintro kk x y ⟨k,rfl,hk,rfl⟩ ih
  by_cases q:k<8
  ·have Yr:bM (k:Int) 8=true:=bG (by omega) (by omega)
   have st:∀j,j≠k->(if j<k+1/\(U6 (dP w) h).contains ((w.R s.toNat).bC j)=true then(0:Int)else(v.R s.toNat).bC j)=if j<k/\(U6 (dP w) h).contains ((w.R s.toNat).bC j)=true then 0 else(v.R s.toNat).bC j:=λj hj=>by
    by_cases h1:(U6 (dP w) h).contains ((w.R s.toNat).bC j)=true
    ·by_cases h2:j<k
     ·rw[aps ⟨by omega,h1⟩,aps ⟨h2,h1⟩]
     ·rw[apt (λh=>by omega),apt (λh=>h2 h.1)]
    ·rw[apt (λh=>h1 h.2),apt (λh=>h1 h.2)]
   rw[ak (apw (by omega)),au Rs,au Yr,apx,aL (x:=(k:Int)+1) (by omega) (by omega)];refine(key _ (λb=>cn b _ _)).trans ?_;cases hc:(U6 (dP w) h).contains ((w.R s.toNat).bC k)with
   |true=>
    rw[ak rfl,au Rs,au Yr,aJ];refine ih _ _ ⟨k+1,by omega,by omega,?_⟩ (by omega);dsimp only;rw[OD,pI];congr 2;congr 1;funext j;rw[bK];by_cases e:j=k
    ·subst e;rw[aps rfl,aps ⟨by omega,hc⟩]
    ·rw[apt e,st j e]
   |false=>
    rw[ae rfl];refine ih _ _ ⟨k+1,by omega,by omega,?_⟩ (by omega);dsimp only;congr 2;congr 1;funext j;by_cases e:j=k
    ·subst e;rw[apt (λh=>by rw[hc]at h;exact absurd h.2 (by decide)),apt (λh=>by rw[hc]at h;exact absurd h.2 (by decide))]
    ·rw[st j e]
  ·rw[ae (apD (by omega))]
   obtain rfl:k=8:=by omega
   rfl
 ·have:(λj=>if j<0/\(U6 (dP w) h).contains ((w.R s.toNat).bC j)=true then(0:Int)else(v.R s.toNat).bC j)=(v.R s.toNat).bC:=by funext j;simp
  rw[this];obtain⟨vb,vr⟩:=v;congr 1;funext j;rw[bK];split
  ·rename_i e;rw[e]
  ·rfl
theorem ami(hn:200<=n){t0:av}{w0:ai}(r0:gY t0 w0)(tt0:j8 w0)(i0:zF w0){h:Int}(hh:aT w0.B h)(fin:av->Option (av×Int))(l:List Int):∀{t:av} {w:ai},gY t w->j8 w->zF w->w.B=w0.B->(∀x∈l,aT w.B x/\w.R (aZ x)=w0.R (aZ x))->l.Nodup->
  ∃t',tQ (λ(e49:Int) k44 (gR:av)=>
 lt (e49:Int) λBO=>
 bd (eF n gR BO) λuA=>
 cJ (λk74 (yY:Int) (A2:aS)=>
 cn (decide (yY<8)) (
 gu (bM yY 8)<|
 bd (qw n (uA.1.bC (Int.toNat yY)) h t0) λMN=>
 cn (MN) (
 gu (bM yY 8)<|
 lt ({A2 with bC:=(dy A2.bC (Int.toNat yY) 0)}:aS) λMz=>
 k74 (wr .i64 (yY+1)) Mz) (
 k74 (wr .i64 (yY+1)) A2)) (
 bd (gP n gR BO A2) λEm=>
 k44 Em.1)) n 0 uA.1) fin l t=fin t'/\gY t' (l.foldl (M5 w0 (U6 (dP w0) h)) w)/\j8 (l.foldl (M5 w0 (U6 (dP w0) h)) w)/\zF (l.foldl (M5 w0 (U6 (dP w0) h)) w):=by
 induction l with
 |nil=>intro t w r tt i _ _ _;exact⟨t,rfl,r,tt,i⟩
 |cons x l ih=>
  intro t w r tt i hb hl hd;obtain⟨hx,hd⟩:=List.nodup_cons.1 hd;obtain⟨hg,hr⟩:=hl x (by simp);obtain⟨l1,l2⟩:=eR hg;have hR:=r.ZJ _ l1 l2;have hq:=i x hg;have hc:∀k,k<8->qw n ((o5 t w x).bC k) h t0=some ((U6 (dP w0) h).contains ((o5 t w x).bC k)):=λk hk=>by have e1:(o5 t w x).bC k=(w.R (aZ x)).bC k:=hR.c k hk;have e2:=hR.c0 k hk;rw[e1];unfold qw;rw[ck (OZ (by omega) r0 tt0 e2.1 (by omega) hh.1 (fm hh.2)), ← adQ r0 tt0 hh e2.1];cases h3:((w.R (aZ x)).bC k !=h)<;>rfl
  have hin:=λF:aS->Option (av×Int)=>amk (λv:aS=>v.bC) (λv k=>{v with bC:=dy v.bC k 0}) (o5 t w x) (o5 t w x).bC (λc=>qw n c h t0) (U6 (dP w0) h) hc (λg=>{o5 t w x with bC:=g}) rfl (λ_ _ =>rfl) F (m:=n) (by omega);have hp:J5 {o5 t w x with bC:=clr (U6 (dP w0) h) (o5 t w x).bC (o5 t w x).bC} {w.R (aZ x)with bC:=clr (U6 (dP w0) h) (w0.R (aZ x)).bC (w.R (aZ x)).bC}:=by
   refine⟨hR.q,hR.e,hR.n,hR.r,λk hk=>?_,λk hk=>?_⟩
   ·show(if k<8/\(U6 (dP w0) h).contains ((o5 t w x).bC k)=true then 0 else(o5 t w x).bC k)=if k<8/\(U6 (dP w0) h).contains ((w0.R (aZ x)).bC k)=true then 0 else(w.R (aZ x)).bC k
    have e1:(o5 t w x).bC k=(w.R (aZ x)).bC k:=hR.c k hk;rw[e1, ← hr]
   ·have:=hR.c0 k hk
    show 0<=(if k<8/\(U6 (dP w0) h).contains ((w0.R (aZ x)).bC k)=true then 0 else(w.R (aZ x)).bC k)/\(if k<8/\(U6 (dP w0) h).contains ((w0.R (aZ x)).bC k)=true then 0 else(w.R (aZ x)).bC k)<=4294967295;split
    ·decide
    ·exact this
  obtain⟨t1,s1,s2,s3⟩:=adp (n:=n) (by omega) r tt hg hp hq.1 (hq.2 n (by omega));have et:Bc w x {w.R (aZ x)with bC:=clr (U6 (dP w0) h) (w0.R (aZ x)).bC (w.R (aZ x)).bC}=M5 w0 (U6 (dP w0) h) w x:=rfl;rw[et]at s2 s3;have si:zF (M5 w0 (U6 (dP w0) h) w x):=i.set hg (x:={w.R (aZ x)with bC:=clr (U6 (dP w0) h) (w0.R (aZ x)).bC (w.R (aZ x)).bC}) rfl rfl;have Bf:∀y∈l,aT (M5 w0 (U6 (dP w0) h) w x).B y/\(M5 w0 (U6 (dP w0) h) w x).R (aZ y)=w0.R (aZ y):=λy hy=>by obtain⟨y1,y2⟩:=hl y (by simp[hy]);refine⟨y1,?_⟩;rw[← y2];unfold M5;exact jx _ _ (λq=>hx (by rw[Ap hg y1 q.symm];exact hy))
  obtain⟨t',q1,q2,q3,q4⟩:=ih s2 s3 si hb Bf hd;refine⟨t',?_,q2,q3,q4⟩;refine Eq.trans ?_ q1;show bd (eF n t x) _ =_;rw[ah (Ar r hg.1 (fm hg.2)),aps hg.2];refine(hin _).trans ?_;rw[ah s1]
theorem amh(hn:200<=n)(r:gY t w)(tt:j8 w){h:Int}(hh:aT w.B h){l:List Int}(hl:∀x∈l,aT w.B x)(hlen:l.length<=40){ρ:Type}(F:ai->Option ρ):
  cJ (λk46 (l6:Int) (gR:ai)=>
 cn (decide (l6<(l.length:Int))) (
 gu (bM l6 l.length)<|
 bd (br n w.B (l.getD (Int.toNat l6) default)) λBO=>
 cJ (λk64 (zJ:Int) (uz:ai)=>
 cn (decide (zJ<8)) (
 gu (bM BO 32)<|
 gu (bM zJ 8)<|
 cl ((((w.R (Int.toNat BO)).bC (Int.toNat zJ))!=0)==true) (dR n w ((w.R (Int.toNat BO)).bC (Int.toNat zJ)) h) default λNk=>
 cn (((((w.R (Int.toNat BO)).bC (Int.toNat zJ))!=0)&&Nk)) (
 gu (bM BO 32)<|
 gu (bM zJ 8)<|
 lt ({uz with R:=(dy uz.R (Int.toNat BO) ({(uz.R (Int.toNat BO))with bC:=(dy ((uz.R (Int.toNat BO)).bC) (Int.toNat zJ) 0)}))}:ai) λOe=>
 k64 (wr .i64 (zJ+1)) Oe) (
 k64 (wr .i64 (zJ+1)) uz)) (
 k46 (wr .i64 (l6+1)) uz)) n 0 gR) (
 F gR)) n 0 w=F (Gv w (U6 (dP w) h) l):=by
 refine dY (λ(i:Int) (v:ai)=>∃k:Nat,i=k/\k<=l.length/\v=Gv w (U6 (dP w) h) (l.take k)) (λi _ =>l.length-i.toNat) (λo=>o=F (Gv w (U6 (dP w) h) l)) ?_ n 0 w ⟨0,rfl,by omega,rfl⟩ (by omega);rintro kk x v ⟨k,rfl,hk,rfl⟩ ih;by_cases c:k<l.length
 ·have hx:=hl _ (fT (l:=l) (i:=k) c)
  rw[ak (apw (by omega)),au (bG (by omega) (by omega)),apx,ah (dk (by omega) r.bj hx.1),hx.2,aps rfl,aiL (by omega) r tt hh _ (by have:=fN (l.getD k default);omega),aL (by omega) (by omega)];exact ih _ _ ⟨k+1,by omega,by omega,by rw[apC c, ← eS c,Gv,Gv,List.foldl_append];rfl⟩ (by omega)
 ·rw[ae (apD (by omega)),List.take_of_length_le (by omega)]
def E1(w:ai)(h:Int):ai:=if aM w.B h=true then JK (Gv w (U6 (dP w) h) (V6 (Gw w) (dP w) h)) h 0 else w
theorem aoR(hn:200<=n)(r:gY t w)(tt:j8 w)(i:zF w){h:Int}(h0:0<=h)(h1:h<4294967296):
  ∃t',tV n t h=some (t',if aM w.B h=true then 0 else 4)/\wK n w h=some (E1 w h,if aM w.B h=true then 0 else 4)/\gY t' (E1 w h)/\j8 (E1 w h)/\zF (E1 w h):=by
 unfold tV wK E1;rw[ah (nU r.bj h0 h1),ah (cm (by omega) r h0)];cases hg:aM w.B h with
 |false=>simp only[Bool.false_eq_true,if_false];exact⟨t,rfl,rfl,r,tt,i⟩
 |true=>
  rw[aps rfl,aps rfl];have hh:aT w.B h:=⟨h0,hg⟩;obtain⟨ρ,f⟩:=LJ r tt;have hm:=bX r.bj;have hG:=(hm h).2 hh;have hu:gp w h=V6 (Gw w) (dP w) h:=by unfold gp;rw[aps hg]
  have hl:∀x∈V6 (Gw w) (dP w) h,aT w.B x:=λx hx=>(hm x).1 ((f.zb hG x).1 hx).1;rw[ae (b:= !true) rfl,ae (b:= !true) rfl];unfold oz;rw[ah rfl,ah (K0 (by omega) r tt hh),ah (F6 (by omega) r tt h0),hu];obtain⟨t1,a1,a2,a3,a4⟩:=ami (n:=n) hn r tt i hh (λgR=>bd (iV n gR h 0) λOd=>some (Od.1,Od.2)) (V6 (Gw w) (dP w) h) r tt i rfl (λx hx=>⟨hl x hx,rfl⟩) (f.agC hG);have hb:(Gv w (U6 (dP w) h) (V6 (Gw w) (dP w) h)).B=w.B:=Im _ _ _ _;have hh':aT (Gv w (U6 (dP w) h) (V6 (Gw w) (dP w) h)).B h:=by rw[hb];exact hh
  obtain⟨t2,b1,b2,b3⟩:=ZQ (n:=n) (by omega) a2 a3 hh' (a:=0) (.inl rfl) (λq=>q.1 rfl);refine⟨t2,?_,?_,b2,b3,a4.up h 0⟩
  ·refine a1.trans ?_
   rw[ah b1]
  ·refine(amh (n:=n) hn r tt hh hl (by have:=f.Nm hG;omega) _).trans ?_
   generalize Gv w (U6 (dP w) h) (V6 (Gw w) (dP w) h)=v;rw[ah (dk (by omega) r.bj h0),hg,aps rfl,au (ia h)];rfl
end
end Go.Proofs.Z
namespace Go.Proofs.Z
open Go Go.Bw
section
variable {G:List Int} {up up':Int->Int} {ρ ρ':Int->Nat}
theorem Fo.aoG(f:Fo G up ρ)(f':Fo G up' ρ'){h a:Int}(Qj:∀x∈G,up' x=if x=h then a else up x)(ha:a≠0)(h0:up h=0):∀y∈G,U6 up' y=if y=h\/h∈U6 up y then U6 up y++(a::U6 up' a)else U6 up y:=by
 refine f.Qy _ λy hy ih=>?_;have hu:=Qj y hy;by_cases e:y=h
 ·subst e
  rw[aps rfl]at hu;rw[aps (.inl rfl),f.u0 hy h0,f'.u1 hy (by rw[hu];exact ha),hu];rfl
 ·rw[apt e]at hu
  by_cases e0:up y=0
  ·rw[f'.u0 hy (hu.trans e0),f.u0 hy e0,apt (λq=>q.elim e (by simp))]
  ·have hi:=ih e0
   rw[f'.u1 hy (by rw[hu];exact e0),hu,hi,f.u1 hy e0];by_cases q:up y=h\/h∈U6 up (up y)
   ·rw[aps q,aps (.inr (List.mem_cons.2 (q.imp Eq.symm _root_.id)))];rfl
   ·rw[apt q,apt (λp=>p.elim e λp=>q ((List.mem_cons.1 p).imp Eq.symm _root_.id))]
theorem Fo.aoF(f:Fo G up ρ)(f':Fo G up' ρ'){h a:Int}(Qj:∀x∈G,up' x=if x=h then a else up x)(hh:h∈G)(h0:up h=0)(hno:¬(a=h\/h∈U6 up a)):∀x∈G,(x=h\/h∈U6 up x)->V6 G up' x=V6 G up x:=by
 refine f.aiI _ λx hx ih hv=>?_;have hk:nS G up' x=nS G up x:=by
  unfold nS;refine List.filter_congr λy hy=>?_;rw[Qj y hy];by_cases e:y=h
  ·subst e
   have e1:(a==x)=false:=by
    simp only[beq_eq_false_iff_ne,ne_eq]
    exactλq=>hno (by rw[q];exact hv)
   have e2:(up y==x)=false:=by rw[h0];simp only[beq_eq_false_iff_ne,ne_eq];exactλq=>f.pos x hx q.symm
   rw[aps rfl,e1,e2]
  ·rw[apt e]
 rw[f.OB hx,f'.OB hx,hk];congr 1;refine EW λy hy=>?_;obtain⟨y1,y2⟩:=pT.1 hy;refine ih y y1 y2 (.inr ?_);rw[f.u1 y1 (by rw[y2];exact f.pos x hx),y2];exact List.mem_cons.2 (hv.imp Eq.symm _root_.id)
end
section
variable {n:Nat} {t:av} {w:ai}
theorem PS(r:gY t w)(tt:j8 w)(x:Int):0<=nX w x/\nX w x<=33:=by
 unfold nX;by_cases hg:aM w.B x=true
 ·rw[aps hg]
  by_cases h0:0<=x
  ·obtain⟨ρ,f⟩:=LJ r tt
   have:=f.Za ((bX r.bj x).2 ⟨h0,hg⟩);omega
  ·have h3:=(lX.1 hg).2.2
   have h4:=r.bj.oh (aZ x) (iW x);unfold aZ at h4;omega
 ·rw[apt hg];omega
theorem akh(hn:200<=n)(r:gY t w)(tt:j8 w){h:Int}(hh:aT w.B h):∃m,yz n t h=some m/\0<=m/\m<=34/\∀k,0<=k->(k<m↔∃y∈V6 (Gw w) (dP w) h,k<nX w y-nX w h+1):=by
 obtain⟨ρ,f⟩:=LJ r tt;have hm:=bX r.bj;have hG:=(hm h).2 hh;have hd:=λx=>PS r tt x;unfold yz oz;rw[ah rfl,ah (K0 (by omega) r tt hh)];have hl:∀x∈V6 (Gw w) (dP w) h,jZ n t x=some (nX w x)/\0<=nX w x/\nX w x<=1000:=λx hx=>by have hx:=(hm x).1 ((f.zb hG x).1 hx).1;have:=hd x;exact⟨PO (by omega) r tt hx.1 (fm hx.2),by omega,by omega⟩
 have key:=aem (λx=>jZ n t x) (jZ n t h) (nX w) (nX w h) (by have:=hd h;omega) (PO (by omega) r tt hh.1 (fm hh.2)) (V6 (Gw w) (dP w) h) hl 0 (by omega);have hf:=abq (nX w) (nX w h) (V6 (Gw w) (dP w) h) 0;have hh1:1<=nX w h:=by unfold nX;rw[aps hh.2];omega
 refine⟨_,key,?_,?_,λk hk=>(hf k).trans ⟨λq=>q.resolve_left (by omega), .inr⟩⟩
 ·have:=(hf (-1)).2 (.inl (by omega));omega
 ·rcases Int.lt_or_le 34 ((V6 (Gw w) (dP w) h).foldl (λm y=>max m (nX w y-nX w h+1)) 0)with q|q
  ·rcases(hf 34).1 q with q|⟨y,_,q⟩
   ·omega
   ·have:=hd y;omega
  ·exact q
theorem anV(d:Int->Option Int)(v:Int->Int)(l:List Int)(hd:∀x∈l,d x=some (v x))(hlen:l.length<=40){ρ:Type}(A B:Option ρ)(hn:100<=n):
  ((∃y∈l,6<v y)->eU (λk48 (mG:Int)=>
 cn (decide (mG<(l.length:Int))) (
 gu (bM mG l.length)<|
 bd (d (l.getD (Int.toNat mG) default)) λuA=>
 cn (decide (6<uA)) A (
 k48 (wr .i64 (mG+1)))) B) n 0=A)/\((∀y∈l,v y<=6)->eU (λk48 (mG:Int)=>
 cn (decide (mG<(l.length:Int))) (
 gu (bM mG l.length)<|
 bd (d (l.getD (Int.toNat mG) default)) λuA=>
 cn (decide (6<uA)) A (
 k48 (wr .i64 (mG+1)))) B) n 0=B):=by
 refine fK (λ(i:Int)=>∃k:Nat,i=k/\k<=l.length/\∀y∈l.take k,v y<=6) (λi=>l.length-i.toNat) (λo=>((∃y∈l,6<v y)->o=A)/\((∀y∈l,v y<=6)->o=B)) ?_ n 0 ⟨0,rfl,by omega,by simp⟩ (by omega);rintro kk x ⟨k,rfl,hk,hp⟩ ih;by_cases c:k<l.length
 ·have hm:l.getD k default∈l:=fT c
  rw[ak (apw (by omega)),au (bG (by omega) (by omega)),apx,ah (hd _ hm)];by_cases q:6<v (l.getD k default)
  ·rw[ak (apw q)]
   exact⟨λ_ =>rfl,λh=>by have:=h _ hm;omega⟩
  ·rw[ae (apD q),aL (by omega) (by omega)]
   refine ih _ ⟨k+1,by omega,by omega,λy hy=>?_⟩ (by omega);rw[apC c,List.mem_append,List.mem_singleton]at hy;rcases hy with hy|hy
   ·exact hp y hy
   ·rw[hy, ← eS c];omega
 ·rw[ae (apD (by omega))]
  rw[List.take_of_length_le (by omega)]at hp;exact⟨λ⟨y,hy,q⟩=>by have:=hp y hy;omega,λ_ =>rfl⟩
structure Gr6(w:ai)(h a:Int)(w':ai)(e:Int):Prop where
 no:e≠0->w'=w
 is:e=0->w'=JK w h a/\aT w.B h/\aT w.B a/\dP w h=0/\¬(a=h\/h∈U6 (dP w) a)/\∀y∈V6 (Gw w) (dP w) h,nX w' y<=6
theorem aij(hn:200<=n)(r:gY t w)(tt:j8 w)(i:zF w){h a:Int}(h0:0<=h)(h1:h<4294967296)(a0:0<=a)(a1:a<4294967296):
  ∃t' w' e,wD n t h a=some (t',e)/\yq n w h a=some (w',e)/\gY t' w'/\j8 w'/\zF w'/\Gr6 w h a w' e:=by
 unfold wD yq;rw[ah (nU r.bj h0 h1),ah (cm (by omega) r h0),ck (nU r.bj a0 a1),ck (cm (by omega) r a0)];cases hg:aM w.B h with
 |false=>exact⟨t,w,4,rfl,rfl,r,tt,i,⟨λ_ =>rfl,λh=>absurd h (by decide)⟩⟩
 |true=>
 cases hk:aM w.B a with
 |false=>exact⟨t,w,4,rfl,rfl,r,tt,i,⟨λ_ =>rfl,λh=>absurd h (by decide)⟩⟩
 |true=>
 have hh:aT w.B h:=⟨h0,hg⟩;have ha:aT w.B a:=⟨a0,hk⟩;obtain⟨ρ,f⟩:=LJ r tt;have hm:=bX r.bj;have hG:=(hm h).2 hh;have aG:=(hm a).2 ha;have hrt:di w h=Nt (dP w) h:=by unfold di;rw[aps hg]
 have hou:yQ w h a=((h==a)||(U6 (dP w) a).contains h):=by unfold yQ;rw[hg,hk];rfl
 rw[ae (by rfl),ae (by rfl),ah (EK (by omega) r tt h0 h1),ah (K9 (by omega) r hh),ck (OZ (by omega) r tt h0 h1 a0 a1),ck (Ve (by omega) r tt h0 a0),hrt];by_cases hu:dP w h=0
 ·have e1:(Nt (dP w) h !=h)=false:=by simpa using(f.OM hG).2 hu
  have e2:(dP w h !=0)=false:=by simpa using hu
  rw[e1,e2];by_cases ho:a=h\/h∈U6 (dP w) a
  ·have e3:yQ w h a=true:=by
    rw[hou,Bool.or_eq_true,beq_iff_eq,List.contains_iff_mem];exact ho.imp Eq.symm _root_.id
   rw[e3];exact⟨t,w,12,rfl,rfl,r,tt,i,⟨λ_ =>rfl,λh=>absurd h (by decide)⟩⟩
  ·have e3:yQ w h a=false:=by
    rw[hou,Bool.or_eq_false_iff,beq_eq_false_iff_ne, ← Bool.not_eq_true,List.contains_iff_mem];exact⟨λq=>ho (.inl q.symm),λq=>ho (.inr q)⟩
   have an:a≠0:=f.pos a aG;obtain⟨t',b1,b2,b3⟩:=ZQ (n:=n) (by omega) r tt hh (.inr ha) (λq=>ho q.2);obtain⟨ρ',f'⟩:=LJ b2 b3;have Qj:∀x∈Gw w,dP (JK w h a) x=if x=h then a else dP w x:=λx hx=>SZ hh ((hm x).1 hx)
   have f':Fo (Gw w) (dP (JK w h a)) ρ':=f';have gu:=f.aoG f' Qj an hu;have gv:=f.aoF f' Qj hG hu ho h hG (.inl rfl);have ua:U6 (dP (JK w h a)) a=U6 (dP w) a:=by rw[gu a aG,apt ho]
   have aof:gp (JK w h a) h=V6 (Gw w) (dP w) h:=by unfold gp;rw[aps (show aM (JK w h a).B h=true from hg)];exact gv
   have ah8:∀y∈V6 (Gw w) (dP w) h,nX (JK w h a) y=nX w y+nX w a:=λy hy=>by obtain⟨y1,y2⟩:=(f.zb hG y).1 hy;have yg:aM w.B y=true:=((hm y).1 y1).2;unfold nX;rw[aps (show aM (JK w h a).B y=true from yg),aps yg,aps hk,gu y y1,aps y2,List.length_append,List.length_cons,ua];omega
   obtain⟨m,m1,m2,m3,m4⟩:=akh (n:=n) hn r tt hh;have dh:nX w h=1:=by unfold nX;rw[aps hg,f.u0 hG hu];rfl
   have da:=PS r tt a;have d1:wr .i64 (nX w a+m)=nX w a+m:=aL (by omega) (by omega);rw[e3,ae (by rfl),ae (by rfl),ah (PO (by omega) r tt a0 a1),ah m1,d1,ah (Nx (by omega) r tt hh (.inr ha) (λq=>ho q.2))];dsimp only;rw[ah (F6 hn b2 b3 h0),aof];obtain⟨q1,q2⟩:=anV (n:=n) (λx=>iw n (JK w h a) x) (nX (JK w h a)) (V6 (Gw w) (dP w) h) (λx hx=>Ny hn b2 b3 ((hm x).1 ((f.zb hG x).1 hx).1).1) (by have:=f.Nm hG;omega) (some (w,(8:Int))) (some (JK w h a,(0:Int))) (by omega);by_cases hq:∃y∈V6 (Gw w) (dP w) h,6<nX (JK w h a) y
   ·have:6<nX w a+m:=by
     obtain⟨y,hy,hq⟩:=hq;rw[ah8 y hy]at hq;rcases Int.lt_or_le 6 (nX w a)with h6|h6
     ·omega
     ·have:=(m4 (6-nX w a) (by omega)).2 ⟨y,hy,by omega⟩
      omega
    rw[ak (apw this)];exact⟨t,w,8,rfl,q1 hq,r,tt,i,⟨λ_ =>rfl,λh=>absurd h (by decide)⟩⟩
   ·have xG:∀y∈V6 (Gw w) (dP w) h,nX (JK w h a) y<=6:=λy hy=>Int.not_lt.1 λq=>hq ⟨y,hy,q⟩
    have hV:h∈V6 (Gw w) (dP w) h:=(f.zb hG h).2 ⟨hG, .inl rfl⟩;have:¬6<nX w a+m:=λq=>by have h6:=xG h hV;rw[ah8 h hV]at h6;obtain⟨y,hy,hq⟩:=(m4 (6-nX w a) (by omega)).1 (by omega);have:=xG y hy;rw[ah8 y hy]at this;omega
    rw[ae (apD this),ah b1];exact⟨t',JK w h a,0,rfl,q2 xG,b2,b3,i.up h a,⟨λh=>absurd rfl h,λ_ =>⟨rfl,hh,ha,hu,ho,xG⟩⟩⟩
 ·have e1:(Nt (dP w) h !=h)=true:=by simpa usingλq=>hu ((f.OM hG).1 q)
  have e2:(dP w h !=0)=true:=by simpa using hu
  rw[e1,e2];exact⟨t,w,12,rfl,rfl,r,tt,i,⟨λ_ =>rfl,λh=>absurd h (by decide)⟩⟩
structure Nw6(w:ai)(a q:Int)(w':ai)(m e:Int):Prop where
 no:e≠0->w'=w
 is:e=0->∃f,CZ w.B f/\f<32/\(a=0\/aT w.B a)/\(0<=q/\q<=64)/\nX w a<=5/\m=fP f (w.B.gE f)/\w'=⟨mq w.B f,dy w.R f ⟨a,q,bD,λ_ =>0⟩⟩
theorem ahq{n:Nat}(hn:110<=n):dS n bD=some true:=by obtain⟨b,b1,b2⟩:=wJ (n:=n) hn (x:=bD) (by show(0:Nat)<=80;omega) (λy hy=>by cases hy);rw[b1,b2.2 ⟨CY.nil,by show(0:Int)<=0;decide,by show(0:Int)<=32*0;decide⟩]
theorem anR(hn:200<=n)(r:gY t w)(tt:j8 w)(i:zF w){a q:Int}(a0:0<=a)(a1:a<4294967296):
  ∃t' w' m e,xH n t a q=some (t',m,e)/\qp n w a q=some (w',m,e)/\0<=m/\m<4294967296/\gY t' w'/\j8 w'/\zF w'/\Nw6 w a q w' m e:=by
 obtain⟨t',w',m,e,e1,e2,m0,m1,k⟩:=anS (n:=n) (by omega) r tt (q:=q) a0 a1;have hd:=PS r tt a;unfold xH qp;rw[ah e1,ck (PO (by omega) r tt a0 a1),ck (cm (by omega) r a0),ck (Ny hn r tt a0),ah e2];dsimp only;by_cases hok:(a=0\/aT w.B a)/\0<=q/\q<=64
 ·obtain⟨ha,hq⟩:=hok
  obtain⟨f,hf⟩:=LM w.B;have hx:=adE (n:=n) (by omega) r ha hq hf;rw[e2]at hx;have c1:((((a==0)||(bif (a==0)==false then aM w.B a else default))&&decide (0<=q))&&decide (q<=64))=true:=by
   have:((a==0)||(bif (a==0)==false then aM w.B a else default))=true:=by
    rcases ha with e|e
    ·subst e;rfl
    ·rw[e.2];cases a==0<;>rfl
   rw[this,apw hq.1,apw hq.2];rfl
  have c2:((e==0)||(e==7))=true:=by
   have:=Option.some.inj hx;by_cases hl:f<32
   ·rw[aps hl]at this;rw[(Prod.mk.inj (Prod.mk.inj this).2).2];rfl
   ·rw[apt hl]at this;rw[(Prod.mk.inj (Prod.mk.inj this).2).2];rfl
  rw[c1,c2];by_cases h6:6<=nX w a
  ·have h5:(5:Int)<nX w a:=by omega
   rw[ak (by simpa using h6),ak (by simpa using h5)];exact⟨t,w,0,8,rfl,rfl,by decide,by decide,r,tt,i,⟨λ_ =>rfl,λh=>absurd h (by decide)⟩⟩
  ·have h5:¬(5:Int)<nX w a:=by omega
   rw[ae (by simpa using h6),ae (by simpa using h5)];refine⟨t',w',m,e,rfl,rfl,m0,m1,k.rt,k.tt,?_,?_⟩
   ·have:=Option.some.inj hx
    by_cases hl:f<32
    ·rw[aps hl]at this
     obtain⟨rfl,h2⟩:=Prod.mk.inj this;intro g Ql;dsimp only;rw[bK];split
     ·exact⟨hq,λn hn=>ahq hn⟩
     ·rename_i hne
      refine i g (((mw r.bj hf hl g).1 Ql).resolve_right λe=>?_);have hr:=r.bj.oh f hl;obtain⟨q1,q2,q3,q4,q5⟩:=o6 (i:=f) (g:=w.B.gE f) (by omega) (by omega) hr.1 hr.2;exact hne (by rw[e];unfold aZ;rw[q2];omega)
    ·rw[apt hl]at this
     rw[(Prod.mk.inj this).1];exact i
   ·have:=Option.some.inj hx
    by_cases hl:f<32
    ·rw[aps hl]at this
     obtain⟨h1,h2⟩:=Prod.mk.inj this;obtain⟨h2,h3⟩:=Prod.mk.inj h2;exact⟨λh=>absurd h3 h,λ_ =>⟨f,hf,hl,ha,hq,by omega,h2,h1⟩⟩
    ·rw[apt hl]at this
     obtain⟨h1,h2⟩:=Prod.mk.inj this;obtain⟨h2,h3⟩:=Prod.mk.inj h2;exact⟨λ_ =>h1,λh=>absurd (h3.symm.trans h) (by decide)⟩
 ·have hw:w'=w/\e≠0/\e≠7:=by
   unfold fS at e2;rw[ck (cm (by omega) r a0),ur]at e2;cases hx:ok0 w.B a with
   |false=>rw[hx,ak (b:= !false) rfl]at e2;obtain⟨h1,h2⟩:=Prod.mk.inj (Option.some.inj e2);exact⟨h1.symm,by rw[← (Prod.mk.inj h2).2];decide,by rw[← (Prod.mk.inj h2).2];decide⟩
   |true=>have hq:¬(0<=q/\q<=64):=λh=>hok ⟨TF a0 hx,h⟩;rw[hx,ae (b:= !true) rfl,ak (by simp;omega)]at e2;obtain⟨h1,h2⟩:=Prod.mk.inj (Option.some.inj e2);exact⟨h1.symm,by rw[← (Prod.mk.inj h2).2];decide,by rw[← (Prod.mk.inj h2).2];decide⟩
  obtain⟨rfl,n0,n7⟩:=hw;have c1:((((a==0)||(bif (a==0)==false then aM w'.B a else default))&&decide (0<=q))&&decide (q<=64))=false:=by
   by_cases hq:0<=q/\q<=64
   ·have ha:¬(a=0\/aT w'.B a):=λh=>hok ⟨h,hq⟩
    have e1:(a==0)=false:=by simpa usingλh=>ha (.inl h)
    have e2:aM w'.B a=false:=by
     cases h:aM w'.B a with
     |false=>rfl
     |true=>exact absurd (.inr ⟨a0,h⟩) ha
    rw[e1,e2];rfl
   ·have:(decide (0<=q)&&decide (q<=64))=false:=by rw[Bool.and_eq_false_iff,decide_eq_false_iff_not,decide_eq_false_iff_not];omega
    rw[Bool.and_assoc,this,Bool.and_false]
  have c2:((e==0)||(e==7))=false:=by rw[Bool.or_eq_false_iff,beq_eq_false_iff_ne,beq_eq_false_iff_ne];exact⟨n0,n7⟩
  rw[c1,c2,ae (by rfl),ae (by rfl)];exact⟨t',w',m,e,rfl,rfl,m0,m1,k.rt,k.tt,i,⟨λ_ =>rfl,λh=>absurd h n0⟩⟩
end
end Go.Proofs.Z
namespace Go.Proofs.Z
open Go Go.Bw
section
variable {n:Nat} {t:av} {w:ai}
theorem amo(hn:200<=n)(r:gY t w)(tt:j8 w)(i:zF w){h z:Int}(hh:aT w.B h)(z0:0<=z)(z1:z<4294967296){k:Nat}(hk:k<8):
  ∃t',gP n t h {o5 t w h with bC:=dy (o5 t w h).bC k z}=some (t',0)/\jr n w h {w.R (aZ h)with bC:=dy (w.R (aZ h)).bC k z}=some (Bc w h {w.R (aZ h)with bC:=dy (w.R (aZ h)).bC k z},0)/\
   gY t' (Bc w h {w.R (aZ h)with bC:=dy (w.R (aZ h)).bC k z})/\j8 (Bc w h {w.R (aZ h)with bC:=dy (w.R (aZ h)).bC k z})/\zF (Bc w h {w.R (aZ h)with bC:=dy (w.R (aZ h)).bC k z}):=by
 obtain⟨l1,l2⟩:=eR hh;have hR:=r.ZJ _ l1 l2;have hq:=i h hh;have hp:J5 {o5 t w h with bC:=dy (o5 t w h).bC k z} {w.R (aZ h)with bC:=dy (w.R (aZ h)).bC k z}:=by
  refine⟨hR.q,hR.e,hR.n,hR.r,λj hj=>?_,λj hj=>?_⟩
  ·dsimp only
   rw[bK,bK];split
   ·rfl
   ·exact hR.c j hj
  ·dsimp only
   rw[bK];split
   ·omega
   ·exact hR.c0 j hj
 obtain⟨t1,s1,s2,s3⟩:=adp (n:=n) (by omega) r tt hh hp hq.1 (hq.2 n (by omega));exact⟨t1,s1,OS (by omega) r hh hq.1 (hq.2 n (by omega)),s2,s3,i.set hh rfl rfl⟩
end
theorem aaT:zF gQ:=λg hg=>by have:=(eR hg).2;exact(NG this).elim
theorem abN(w:ai)(h:Int):(E1 w h).B=w.B:=by
 unfold E1;split
 ·generalize V6 (Gw w) (dP w) h=l
  generalize U6 (dP w) h=L;exact Im w L l w
 ·rfl
end Go.Proofs.Z
namespace Go.Proofs.Z
open Go Go.Bw
structure Si(x:cK):Prop where
 k:0<=x.dx/\x.dx<=3
 h:x.dx≠3->x.dU=0
 t:x.dx≠1->x.gj=0
 hr:0<=x.dU/\x.dU<=255
 tr:0<=x.gj/\x.gj<=7
def Ll:cK:={dx:=0,gj:=0,dU:=0}
theorem Vl:Si Ll:=⟨by decide,λ_ =>rfl,λ_ =>rfl,by decide,by decide⟩
structure OwR(w:ai)(o:bN)(S:Int->Prop):Prop where
 g:∀i,i<32->Si (o.aI i).own
 p:∀i,i<32->(o.aI i).root=0\/(sP w.B (o.aI i).root/\S (o.aI i).root)
def lB(w:ai)(o:bN)(h:Int):cK:=if aM w.B h=true/\(o.aI (aZ (di w h))).root=di w h then(o.aI (aZ (di w h))).own else Ll
theorem Zb(x:Int):0<=wr .u8 x/\wr .u8 x<=255:=by
 have h:wr .u8 x=x%256:=by simp[wr,IntKind.wrap,IntKind.signed,IntKind.bits]
 rw[h];omega
theorem Ux(x:Int):0<=lY .i64 x 7/\lY .i64 x 7<=7:=by
 unfold lY;have h:((BitVec.ofInt (IntKind.bits .i64) x&&& BitVec.ofInt (IntKind.bits .i64) 7).toNat)<=7:=by rw[BitVec.toNat_and];exact Nat.le_trans Nat.and_le_right (by decide)
 generalize((BitVec.ofInt (IntKind.bits .i64) x&&& BitVec.ofInt (IntKind.bits .i64) 7).toNat)=k at h;have e:IntKind.wrap .i64 (k:Int)=k:=aL (by omega) (by omega);rw[e];omega
theorem Tx(l:List Int):∀(w:ai) (x:Int),sP w.B x->sP (ez w l).B x:=by
 induction l with
 |nil=>intro w x h;exact h
 |cons y l ih=>
  intro w x h;refine ih _ _ ?_;unfold LY;split
  ·unfold Bz;exact HM (h:=y) x h
  ·exact h
section
variable {n:Nat} {t:av} {w:ai} {o:bN}
theorem Nw(r:gY t w)(tt:j8 w){h:Int}(hh:aT w.B h):aT w.B (di w h)/\di w (di w h)=di w h:=by
 obtain⟨ρ,f⟩:=LJ r tt;have hG:=(bX r.bj h).2 hh;obtain⟨a,b,c⟩:=f.Te hG;have e:di w h=Nt (dP w) h:=by unfold di;rw[aps hh.2]
 have g:=(bX r.bj _).1 a;rw[e];refine⟨g,?_⟩;unfold di;rw[aps g.2];exact(f.OM a).2 c
theorem EO(hn:40<=n)(r:gY t w)(tt:j8 w){h:Int}(h0:0<=h)(h1:h<4294967296):iP n o t h=some (lB w o h):=by
 unfold iP lB;rw[ah (EK hn r tt h0 h1)];cases hg:aM w.B h with
 |false=>
  have e:di w h=0:=by unfold di;rw[hg];rfl
  rw[e,ah (qm (by omega) (by omega)),apt (λq=>by cases q.1)];rfl
 |true=>
  obtain⟨g,_⟩:=Nw r tt ⟨h0,hg⟩;have gs:=(gW g.2).1;rw[ah (qm g.1 (fm g.2)),gs,au (by rw[ia];simp)];show cn ((!true)||((o.aI (aZ (di w h))).root !=di w h)) _ _ =_;by_cases e:(o.aI (aZ (di w h))).root=di w h
  ·rw[ae (by simpa using e),au (ia _),aJ,aps ⟨rfl,e⟩];rfl
  ·rw[ak (by simpa using e),aJ,apt (λq=>e q.2)];rfl
theorem qO{S:Int->Prop}(q:OwR w o S)(h:Int):Si (lB w o h):=by
 unfold lB;split
 ·exact q.g _ (iW _)
 ·exact Vl
def zh(w:ai)(h aE:Int):Int:=if aM w.B h=false then 4 else if di w h≠h then 12 else if aE<0\/8<=aE then 2 else 0
def tg(o:bN)(h:Int)(x:cK):bN:={o with aI:=dy o.aI (aZ h) {root:=h,own:=x}}
theorem OI(hn:40<=n)(r:gY t w)(tt:j8 w){h aE:Int}(h0:0<=h)(h1:h<4294967296)(x:cK):jW n o t h aE x=some (if zh w h aE=0 then tg o h x else o,zh w h aE):=by
 unfold jW;rw[ah (nU r.bj h0 h1)];cases hg:aM w.B h with
 |false=>
  have he:zh w h aE=4:=by unfold zh;rw[aps hg]
  rw[he,apt (by decide)];rfl
 |true=>
  have hn:¬aM w.B h=false:=by rw[hg];decide
  rw[ae (b:= !true) rfl,ah (EK (by omega) r tt h0 h1)];by_cases hr:di w h=h
  ·rw[ae (by simpa using hr)]
   by_cases ht:aE<0\/8<=aE
   ·have he:zh w h aE=2:=by unfold zh;rw[apt hn,apt (λq=>q hr),aps ht]
    rw[ak (by simpa using ht),he,apt (by decide)]
   ·have he:zh w h aE=0:=by unfold zh;rw[apt hn,apt (λq=>q hr),apt ht]
    rw[ae (by rw[Bool.or_eq_false_iff,decide_eq_false_iff_not,decide_eq_false_iff_not];omega),he,aps rfl,ah (qm h0 h1),aJ,au (ia h),aJ];rfl
  ·have he:zh w h aE=12:=by unfold zh;rw[apt hn,aps hr]
   rw[ak (by simpa using hr),he,apt (by decide)]
theorem agV{h aE:Int}(h0:0<=h)(e:zh w h aE=0):aT w.B h/\di w h=h/\0<=aE/\aE<8:=by
 unfold zh at e;split at e
 ·cases e
 ·rename_i h1
  split at e
  ·cases e
  ·rename_i h2
   split at e
   ·cases e
   ·rename_i h3
    exact⟨⟨h0,by simpa using h1⟩,Decidable.not_not.1 h2,by omega,by omega⟩
theorem OwR.say{S:Int->Prop}(q:OwR w o S){h:Int}(hh:aT w.B h)(hS:S h){x:cK}(hx:Si x):OwR w (tg o h x) S:=by
 refine⟨λi hi=>?_,λi hi=>?_⟩
 ·unfold tg;dsimp only;rw[bK];split
  ·exact hx
  ·exact q.g i hi
 ·unfold tg;dsimp only;rw[bK];split
  ·exact .inr ⟨tU hh,hS⟩
  ·exact q.p i hi
theorem adY{h:Int}(hh:aT w.B h)(hr:di w h=h)(x:cK):lB w (tg o h x) h=x:=by unfold lB tg;rw[hr];simp only[pI];rw[aps ⟨hh.2,trivial⟩]
theorem ahc{v:Int}(h0:0<=v)(h1:v<=255):nk n v=some (wr .i64 (Lib.pop8 v)):=by unfold nk;rw[au (bG h0 (by omega))]
def Ef(k b:Int)(x:cK):Bool:=(((x.dx==3)&&decide (0<=k))&&decide (k<8))&&((lY .u8 x.dU (bif (((x.dx==3)&&decide (0<=k))&&decide (k<8))==true then b else default))!=0)
theorem Zh(hn:100<=n)(r:gY t w)(tt:j8 w)(d:cK->Option Bool)(p:cK->Bool)(hd:∀x,d x=some (p x)):
  cJ (λGi (eE:(List Int)) (eD:Int)=>
 cn (decide (eD<((aN w.B 32).length:Int))) (
 gu (bM eD (aN w.B 32).length)<|
 bd (ju n t ((aN w.B 32).getD (Int.toNat eD) default)) λqf=>
 cl ((qf==((aN w.B 32).getD (Int.toNat eD) default))==true) (iP n o t ((aN w.B 32).getD (Int.toNat eD) default)) default λl6=>
 cl ((qf==((aN w.B 32).getD (Int.toNat eD) default))==true) (d l6) default λgR=>
 cn (((qf==((aN w.B 32).getD (Int.toNat eD) default))&&gR)) (
 gu (gO eE.length 1 4)<|
 lt (eE++([((aN w.B 32).getD (Int.toNat eD) default)]):List Int) λo9=>
 Gi o9 (wr .i64 (eD+1))) (
 Gi eE (wr .i64 (eD+1)))) (
 some eE)) n [] 0=some ((Gw w).filter λh=>(di w h==h)&&p (lB w o h)):=by
 have hm:=bX r.bj;have hlen:=fZ w.B 32;have hGw:Gw w=aN w.B 32:=rfl;rw[hGw];generalize aN w.B 32=G at hm hlen ⊢;refine dY (λ(s:List Int) (i:Int)=>∃k:Nat,i=k/\k<=G.length/\s=(G.take k).filter λh=>(di w h==h)&&p (lB w o h)) (λ_ i=>G.length-i.toNat) (λq=>q=some (G.filter λh=>(di w h==h)&&p (lB w o h))) ?_ n [] 0 ⟨0,rfl,by omega,by simp⟩ (by omega);rintro kk s i ⟨k,rfl,hk,rfl⟩ ih;by_cases c:k<G.length
 ·have hx:=(hm _).1 (fT (l:=G) (i:=k) c)
  have ht:(G.take (k+1)).filter (λh=>(di w h==h)&&p (lB w o h))=(G.take k).filter (λh=>(di w h==h)&&p (lB w o h))++(if((di w (G.getD k default)==G.getD k default)&&p (lB w o (G.getD k default)))=true then[G.getD k default]else[]):=by rw[apC c,List.filter_append, ← eS c];generalize G.getD k default=y;cases hy:((di w y==y)&&p (lB w o y))<;>simp[hy]
  have Qk:((G.take k).filter (λh=>(di w h==h)&&p (lB w o h))).length<=32:=Nat.le_trans (List.length_filter_le _ _) (by rw[List.length_take];omega);simp only[apx];generalize G.getD k default=y at hx ht ⊢;have hl:=fm hx.2;rw[ak (apw (by omega)),au (bG (by omega) (by omega)),ah (EK (by omega) r tt hx.1 hl),aL (x:=(k:Int)+1) (by omega) (by omega)];cases hr:(di w y==y)with
  |false=>rw[hr]at ht;rw[GA (by rfl),GA (by rfl),ae (by rfl)];exact ih _ _ ⟨k+1,by omega,by omega,by rw[ht];simp⟩ (by omega)
  |true=>
   rw[hr]at ht;refine(oB (by rfl) (EO (by omega) r tt hx.1 hl)).trans ((oB (by rfl) (hd _)).trans ?_);cases hp:p (lB w o y)with
   |true=>rw[hp]at ht;rw[ak (by rfl),au (fq (by omega) (by omega)),aJ];exact ih _ _ ⟨k+1,by omega,by omega,by rw[ht];simp⟩ (by omega)
   |false=>rw[hp]at ht;rw[ae (by rfl)];exact ih _ _ ⟨k+1,by omega,by omega,by rw[ht];simp⟩ (by omega)
 ·rw[ae (apD (by omega)),List.take_of_length_le (by omega)]
theorem ZD(hn:100<=n)(r:gY t w)(tt:j8 w)(k:Int):pQ n o t k=some ((Gw w).filter λh=>(di w h==h)&&(((lB w o h).dx==1)&&((wr .i64 (lB w o h).gj)==k))):=by unfold pQ iZ;rw[ah (ae5 (by omega) r)];exact ah (Zh (o:=o) hn r tt (λx=>tN n x k) (λx=>(x.dx==1)&&((wr .i64 x.gj)==k)) (λx=>rfl))
end
end Go.Proofs.Z
namespace Go.Proofs.Z
open Go Go.Bw
def zV(v:Int)(k:Nat):Bool:=v.toNat.testBit k
theorem R5{v:Int}(h:0<=v/\v<=255):∃u:Fin 256,v=(u.val:Int):=⟨⟨v.toNat,by omega⟩,by show v=(v.toNat:Int);omega⟩
theorem QA{v:Int}(h:0<=v/\v<8):∃u:Fin 8,v=(u.val:Int):=⟨⟨v.toNat,by omega⟩,by show v=(v.toNat:Int);omega⟩
def X4(p:Nat->Nat->Nat->Bool):Bool:=(List.range 256).all λv=>(List.range 8).all λa=>(List.range 8).all λb=>p v a b
theorem PX{p:Nat->Nat->Nat->Bool}(h:X4 p=true)(v:Fin 256)(a b:Fin 8):p v.val a.val b.val=true:=by unfold X4 at h;simp only[List.all_eq_true,List.mem_range]at h;exact h _ v.2 _ a.2 _ b.2
def tq(a:Int):Int:=FX .u8 1 (lY .i64 a 7)
set_option maxRecDepth 100000 in
theorem ab0:X4 (λv a _ =>((lY .u8 (v:Int) (tq a)!=0)==v.testBit a))=true:=by kernel_rfl
set_option maxRecDepth 100000 in
theorem ab1:X4 (λv a b=>if v=0 then(zV (tq a) b==decide (b=a))else true)=true:=by kernel_rfl
set_option maxRecDepth 100000 in
theorem abY:X4 (λv a b=>(zV (JC .u8 (v:Int) (tq a)) b==(if b=a then !v.testBit b else v.testBit b)))=true:=by kernel_rfl
theorem aic{v a:Int}(hv:0<=v/\v<=255)(ha:0<=a/\a<8):(lY .u8 v (tq a)!=0)=zV v a.toNat:=by obtain⟨u,rfl⟩:=R5 hv;obtain⟨c,rfl⟩:=QA ha;have:=PX ab0 u c c;simp only[beq_iff_eq]at this;rw[this];rfl
theorem aoW{a:Int}(ha:0<=a/\a<8){k:Nat}(hk:k<8):zV (tq a) k=decide (k=a.toNat):=by obtain⟨c,rfl⟩:=QA ha;have:=PX ab1 0 c ⟨k,hk⟩;simpa using this
theorem ano{v a:Int}(hv:0<=v/\v<=255)(ha:0<=a/\a<8){k:Nat}(hk:k<8):zV (JC .u8 v (tq a)) k=if k=a.toNat then !zV v k else zV v k:=by obtain⟨u,rfl⟩:=R5 hv;obtain⟨c,rfl⟩:=QA ha;have:=PX abY u c ⟨k,hk⟩;simp only[beq_iff_eq]at this;exact this
theorem Kw{n:Nat}(a:Int):Aa n a=some (tq a):=by unfold Aa;rw[au (apw (Ux a).1)];rfl
theorem ab2(a:Int):0<=tq a/\tq a<=255:=by unfold tq FX;exact Zb _
def tZ(f:Nat->Bool):Nat->Int
 |0=>0
 |k+1=>if f k then tZ f k+1 else tZ f k
theorem abR(f:Nat->Bool)(k:Nat):0<=tZ f k/\tZ f k<=k:=by
 induction k with
 |zero=>exact⟨Int.le_refl _,Int.le_refl _⟩
 |succ k ih=>unfold tZ;split<;>omega
theorem Ul{f g:Nat->Bool}(k:Nat)(h:∀j,j<k->f j=g j):tZ f k=tZ g k:=by
 induction k with
 |zero=>rfl
 |succ k ih=>unfold tZ;rw[h k (by omega),ih λj hj=>h j (by omega)]
def Xl(f:Nat->Bool):Nat->Int
 |0=>0
 |k+1=>if f k then orI .u8 (Xl f k) (FX .u8 1 (k:Int))else Xl f k
theorem Xk{f g:Nat->Bool}(k:Nat)(h:∀j,j<k->f j=g j):Xl f k=Xl g k:=by
 induction k with
 |zero=>rfl
 |succ k ih=>unfold Xl;rw[h k (by omega),ih λj hj=>h j (by omega)]
set_option maxRecDepth 100000 in
theorem R6:(List.range 256).all (λv=>(wr .i64 (Lib.pop8 (v:Int))==tZ (λk=>zV (v:Int) k) 8)&&(Xl (λk=>zV (v:Int) k) 8==(v:Int)))=true:=by kernel_rfl
theorem adN{v:Int}(hv:0<=v/\v<=255):wr .i64 (Lib.pop8 v)=tZ (zV v) 8:=by obtain⟨u,rfl⟩:=R5 hv;have:=List.all_eq_true.1 R6 u.val (List.mem_range.2 u.2);simp only[apv,beq_iff_eq]at this;exact this.1
theorem ahf{v:Int}(hv:0<=v/\v<=255):Xl (zV v) 8=v:=by obtain⟨u,rfl⟩:=R5 hv;have:=List.all_eq_true.1 R6 u.val (List.mem_range.2 u.2);simp only[apv,beq_iff_eq]at this;exact this.2
def acY:bT:={dx:=0,gj:=0,kR:=λ_ =>false}
def tj(v:aR)(h:Int):Nat:=v.cS.findIdx (· ==h)
def HO(v:aR)(h:Int):bT:=if tj v h<v.cS.length then v.tJ.getD (tj v h) default else acY
def A4(v:aR)(h:Int)(x:bT):aR:=if tj v h<v.cS.length then{v with tJ:=v.tJ.set (tj v h) x}else{cS:=v.cS++[h],tJ:=v.tJ++[x]}
theorem Pr{v:aR}{h:Int}(hl:tj v h<v.cS.length):v.cS.getD (tj v h) default=h:=by have:=List.findIdx_getElem (w:=hl);rw[eS hl];exact eq_of_beq this
theorem aaU{v:aR}{h:Int}{k:Nat}(hl:k<tj v h)(hk:k<v.cS.length):v.cS.getD k default≠h:=by have:=List.not_of_lt_findIdx hl;rw[eS hk];simpa using this
theorem Pq{v:aR}{h:Int}:tj v h<v.cS.length↔h∈v.cS:=by unfold tj;rw[List.findIdx_lt_length];simp
theorem at8{n:Nat}(hn:200<=n){v:aR}(hl:v.cS.length+90<=n/\v.cS.length<=100010)(h:Int):oQ n v h=some (if tj v h<v.cS.length then(tj v h:Int)else -1):=by
 unfold oQ;refine fK (λ(i:Int)=>∃k:Nat,i=k/\k<=v.cS.length/\k<=tj v h) (λi=>((v.cS.length:Int)-i).toNat) (λo=>o=some (if tj v h<v.cS.length then(tj v h:Int)else -1)) ?_ n 0 ⟨0,rfl,by omega,by omega⟩ (by omega);rintro kk i ⟨k,rfl,hk,hi⟩ ih;by_cases c:k<v.cS.length
 ·rw[ak (apw (by omega)),au (bG (by omega) (by omega)),apx]
  by_cases e:v.cS.getD k default=h
  ·have:k=tj v h:=by
    by_cases q:k<tj v h
    ·exact absurd e (aaU q c)
    ·omega
   rw[ak (by simpa using e),aps (by omega),this]
  ·rw[ae (by simpa using e),aL (x:=(k:Int)+1) (by omega) (by omega)]
   have:k≠tj v h:=λq=>e (by rw[q];exact Pr (by omega));exact ih _ ⟨k+1,by omega,by omega,by omega⟩ (by omega)
 ·rw[ae (apD (by omega)),apt (by omega)]
theorem ND{v:aR}(hl:v.tJ.length=v.cS.length)(h:Int)(x:bT)(g:Int):HO (A4 v h x) g=if g=h then x else HO v g:=by
 unfold A4;by_cases c:tj v h<v.cS.length
 ·rw[aps c]
  have e:tj {v with tJ:=v.tJ.set (tj v h) x} g=tj v g:=rfl;unfold HO;rw[e];dsimp only;by_cases q:g=h
  ·subst q
   rw[aps c,aps rfl,eS (by rw[List.length_set];omega),List.getElem_set_self]
  ·rw[apt q]
   by_cases d:tj v g<v.cS.length
   ·have hne:tj v h≠tj v g:=λe2=>q (by rw[← Pr d, ← e2,Pr c])
    rw[aps d,aps d,eS (by rw[List.length_set];omega),List.getElem_set_ne hne, ← eS]
   ·rw[apt d,apt d]
 ·rw[apt c]
  have hno:h∉v.cS:=λq=>c (Pq.2 q);unfold HO tj;dsimp only;rw[List.findIdx_append];have hle:∀g,List.findIdx (λy=>y==g) v.cS<=v.cS.length:=λg=>List.findIdx_le_length;by_cases d:List.findIdx (λy=>y==g) v.cS<v.cS.length
  ·have:g∈v.cS:=Pq.1 d
   have q:g≠h:=λe=>hno (e▸this);rw[aps d,apt q,aps (by rw[List.length_append];omega),eS (by rw[List.length_append];omega),List.getElem_append_left (by omega),aps d, ← eS]
  ·have hg:=hle g
   rw[apt d,apt d];by_cases q:g=h
   ·subst q
    rw[aps rfl,aps (by simp),eS (by simp[hl])];simp[hl]
   ·have q2:h≠g:=λe=>q e.symm
    rw[apt q,apt (by simp[q2];omega)]
theorem Hj{v:aR}(hl:v.tJ.length=v.cS.length)(h:Int)(x:bT):(A4 v h x).tJ.length=(A4 v h x).cS.length/\(A4 v h x).cS.length<=v.cS.length+1/\∀y∈(A4 v h x).cS,y∈v.cS\/y=h:=by
 unfold A4;split
 ·exact⟨by rw[List.length_set];exact hl,by dsimp only;omega,λy hy=> .inl hy⟩
 ·exact⟨by simp[hl],by simp,λy hy=>by simpa using hy⟩
theorem UT{n:Nat}(hn:200<=n){v:aR}(hl:v.tJ.length=v.cS.length)(hr:v.cS.length+100<=n/\v.cS.length<=100000)(h:Int)(x:bT):kX n v h x=some (A4 v h x):=by
 unfold kX A4;rw[au (fq (by simp;omega) (by simp;omega)),aJ,au (fq (by simp;omega) (by simp;omega)),aJ,aJ,ah (at8 hn (by omega) h)];simp only[List.nil_append];by_cases c:tj v h<v.cS.length
 ·rw[aps c,aps c,ae (apD (by omega)),au (bG (by omega) (by omega)),aJ,aJ,apx]
 ·rw[apt c,apt c,ak (by decide),au (fq (by omega) (by omega)),aJ,aJ,au (fq (by omega) (by omega)),aJ,aJ,aJ]
end Go.Proofs.Z
namespace Go.Proofs.Z
open Go Go.Bw
structure ROo(x:cK)(y:bT):Prop where
 k:x.dx=y.dx
 t:x.gj=y.gj
 h:∀j,j<8->y.kR j=zV x.dU j
theorem ade(j:Nat):zV 0 j=false:=by unfold zV;simp
theorem ZF:ROo Ll acY:=⟨rfl,rfl,λj _ =>(ade j).symm⟩
def JN(o:bN)(h:Int):cK:=if(o.aI (aZ h)).root=h then(o.aI (aZ h)).own else Ll
structure Dk(w:ai)(o:bN)(v:aR):Prop where
 q:OwR w o (λ_ =>True)
 l:v.tJ.length=v.cS.length
 pv:∀x∈v.cS,sP w.B x
 rel:∀h,aT w.B h->ROo (JN o h) (HO v h)
structure Mv(w w':ai):Prop where
 p:∀x,sP w.B x->sP w'.B x
 g:∀x,aT w'.B x->aT w.B x\/¬sP w.B x
def DF(w:ai)(v:aR)(h:Int):bT:=if aM w.B h=true then HO v (di w h)else acY
theorem Dk.mv{w w':ai}{o:bN}{v:aR}(p:Dk w o v)(m:Mv w w'):Dk w' o v:=by
 refine⟨⟨p.q.g,λi hi=>(p.q.p i hi).imp _root_.id λh=>⟨m.p _ h.1,trivial⟩⟩,p.l,λx hx=>m.p _ (p.pv x hx),λh hh=>?_⟩;rcases m.g h hh with a|a
 ·exact p.rel h a
 ·have h1:JN o h=Ll:=by
   unfold JN;rw[apt];intro e;rcases p.q.p (aZ h) (iW _)with b|b
   ·rw[e]at b;have:=oS hh;omega
   ·rw[e]at b;exact a b.1
  have h2:HO v h=acY:=by unfold HO;rw[apt (λc=>a (p.pv h (Pq.1 c)))]
  rw[h1,h2];exact ZF
theorem Dk.say{w:ai}{o:bN}{v v':aR}(p:Dk w o v){h:Int}(hh:aT w.B h){x:cK}(hx:Si x)(hl:v'.tJ.length=v'.cS.length)(hpv:∀z∈v'.cS,z∈v.cS\/z=h)(hv:ROo x (HO v' h))(hne:∀g,g≠h->HO v' g=HO v g):Dk w (tg o h x) v':=by
 refine⟨p.q.say hh trivial hx,hl,λz hz=>(hpv z hz).elim (p.pv z) (λe=>e▸tU hh),λg hg=>?_⟩;by_cases e:g=h
 ·subst e
  have hs:(tg o g x).aI (aZ g)={root:=g,own:=x}:=pI _ _ _;have:JN (tg o g x) g=x:=by unfold JN;simp[hs]
  rw[this];exact hv
 ·have hs:aZ g≠aZ h:=λq=>e (Ap hg hh q)
  have Rs:(tg o h x).aI (aZ g)=o.aI (aZ g):=by unfold tg;dsimp only;rw[bK,apt hs]
  have:JN (tg o h x) g=JN o g:=by unfold JN;simp only[Rs]
  rw[this,hne g e];exact p.rel g hg
theorem Dk.with {w:ai}{o:bN}{v:aR}(p:Dk w o v){h:Int}(hh:aT w.B h){x:cK}{y:bT}(hx:Si x)(hv:ROo x y):Dk w (tg o h x) (A4 v h y):=by obtain⟨a,_,c⟩:=Hj p.l h y;exact p.say hh hx a c (by rw[ND p.l,aps rfl];exact hv) (λg e=>by rw[ND p.l,apt e])
section
variable {n:Nat} {t:av} {w:ai} {o:bN} {v:aR}
theorem EN(hn:200<=n)(r:gY t w)(tt:j8 w)(hl:v.tJ.length=v.cS.length)(hr:v.cS.length+100<=n/\v.cS.length<=100000){h:Int}(h0:0<=h):iD n v w h=some (DF w v h):=by
 unfold iD DF HO;rw[ah (Ca hn r tt h0),ah (at8 hn (by omega) _),ck (cm (by omega) r h0)];by_cases c:tj v (di w h)<v.cS.length
 ·simp only[aps c]
  have e:decide (((tj v (di w h):Nat):Int)<0)=false:=apD (by omega);rw[e];cases hg:aM w.B h with
  |false=>rw[ak (by rfl),aJ,apt (by decide)];rfl
  |true=>rw[ae (by rfl),au (bG (by omega) (by omega)),aJ,apx,aps rfl]
 ·simp only[apt c]
  rw[ak (by rfl),aJ];split<;>rfl
theorem yO(r:gY t w)(tt:j8 w)(p:Dk w o v){h:Int}(h0:0<=h):ROo (lB w o h) (DF w v h):=by
 unfold DF;by_cases hg:aM w.B h=true
 ·obtain⟨g,_⟩:=Nw r tt ⟨h0,hg⟩
  have:=p.rel _ g;rw[aps hg];have e:lB w o h=JN o (di w h):=by
   unfold lB JN;by_cases e:(o.aI (aZ (di w h))).root=di w h
   ·rw[aps ⟨hg,e⟩,aps e]
   ·rw[apt (λq=>e q.2),apt e]
  rw[e];exact this
 ·rw[apt hg]
  unfold lB;rw[apt (λq=>hg q.1)];exact ZF
def pM(w:ai)(h:Int):Int:=if aM w.B h=false then 4 else if di w h≠h then 12 else 0
theorem U3(h aE:Int):zh w h aE=if pM w h=0 then(if aE<0\/8<=aE then 2 else 0)else pM w h:=by
 unfold zh pM;cases aM w.B h with
 |false=>rfl
 |true=>
  by_cases e:di w h=h
  ·simp[e]
  ·simp[e]
theorem afH(hn:200<=n)(r:gY t w)(tt:j8 w){h:Int}(h0:0<=h):xw n w h=some (pM w h):=by
 unfold xw pM;rw[ah (cm (by omega) r h0)];cases aM w.B h with
 |false=>rw[ak (by rfl),aps rfl]
 |true=>
  rw[ae (by rfl),ah (Ca hn r tt h0),apt (by decide)];by_cases e:di w h=h
  ·rw[ae (by simpa using e),apt (λq=>q e)]
  ·rw[ak (by simpa using e),aps e]
theorem OO{h:Int}(h0:0<=h)(e:pM w h=0):aT w.B h/\di w h=h:=by
 unfold pM at e;split at e
 ·cases e
 ·rename_i h1
  split at e
  ·cases e
  ·rename_i h2
   exact⟨⟨h0,by simpa using h1⟩,Decidable.not_not.1 h2⟩
def yK(kind aE:Int):bT:=if kind=1 then{dx:=1,gj:=aE,kR:=λ_ =>false}else if kind=3 then{dx:=3,gj:=0,kR:=dy (λ_ =>false) aE.toNat true}else{dx:=kind,gj:=0,kR:=λ_ =>false}
theorem adC(hn:200<=n)(r:gY t w)(tt:j8 w)(hl:v.tJ.length=v.cS.length)(hr:v.cS.length+100<=n/\v.cS.length<=100000){h aE kind tk:Int}(h0:0<=h)(hk:kind=1\/kind=2\/kind=3)(Jl:tk=if kind=2 then 0 else aE):
  dM n v w h aE kind=some (if zh w h tk=0 then A4 v h (yK kind aE)else v,zh w h tk):=by
 unfold dM;rw[ah (afH hn r tt h0),aJ,U3];by_cases e0:pM w h=0
 ·rw[e0,aps rfl]
  by_cases bad:tk<0\/8<=tk
  ·have Yr:kind≠2:=λq=>by rw[aps q]at Jl;omega
   rw[apt Yr]at Jl;subst Jl;rw[aps bad,apt (by decide),ak (by simp;exact⟨Yr,by omega⟩)];exact ak (by rfl)
  ·rw[apt bad,aps rfl,ae (by
    by_cases Yr:kind=2
    ·rw[Yr];rfl
    ·rw[apt Yr]at Jl
     subst Jl;have:(decide (tk<0)||decide (7<tk))=false:=by rw[Bool.or_eq_false_iff,decide_eq_false_iff_not,decide_eq_false_iff_not];omega
     rw[this,Bool.and_false])]
   refine(ae (by rfl)).trans ?_;rw[aJ,aJ];rcases hk with rfl|rfl|rfl
   ·refine(ak (by rfl)).trans ?_
    rw[aJ];dsimp only;rw[aJ];refine(ae (by rfl)).trans (ah (UT hn hl hr h _))
   ·refine(ae (by rfl)).trans ?_
    dsimp only;rw[aJ];refine(ae (by rfl)).trans (ah (UT hn hl hr h _))
   ·rw[apt (by decide)]at Jl
    subst Jl;refine(ae (by rfl)).trans ?_;dsimp only;rw[aJ];refine(ak (by rfl)).trans ?_;rw[au (bG (by omega) (by omega)),aJ];exact ah (UT hn hl hr h _)
 ·rw[apt e0,apt e0,ae (by simp[e0])]
  exact ak (by simpa using e0)
theorem akv(hn:200<=n)(r:gY t w)(tt:j8 w)(p:Dk w o v)(hr:v.cS.length+100<=n/\v.cS.length<=100000){h aE kind tk:Int}(h0:0<=h)(h1:h<4294967296)(hk:kind=1\/kind=2\/kind=3)(Jl:tk=if kind=2 then 0 else aE){x:cK}(hx:0<=tk/\tk<8->Si x/\ROo x (yK kind aE)):
  ∃o' v' e,jW n o t h tk x=some (o',e)/\dM n v w h aE kind=some (v',e)/\Dk w o' v'/\v'.cS.length<=v.cS.length+1:=by
 refine⟨_,_,_,OI (by omega) r tt h0 h1 x,adC hn r tt p.l hr h0 hk Jl,?_⟩;by_cases e:zh w h tk=0
 ·obtain⟨s1,s2,s3⟩:=agV h0 e
  rw[aps e,aps e];exact⟨p.with s1 (hx s3).1 (hx s3).2,(Hj p.l h _).2.1⟩
 ·rw[apt e,apt e];exact⟨p,by omega⟩
theorem aiO{ρ:Type}(f:Nat->Bool)(C:Int->Option ρ)(hn:20<=n):cJ (λk41 (iU:Int) (qz:Int)=>cn (decide (qz<8)) (gu (bM qz 8)<|cn (f (Int.toNat qz)) (k41 (wr .i64 (iU+1)) (wr .i64 (qz+1))) (k41 iU (wr .i64 (qz+1)))) (C iU)) n 0 0=C (tZ f 8):=by
 refine dY (λ(c i:Int)=>∃k:Nat,i=k/\k<=8/\c=tZ f k) (λ_ i=>(8-i).toNat) (λq=>q=C (tZ f 8)) ?_ n 0 0 ⟨0,rfl,by omega,rfl⟩ (by omega);rintro kk c i ⟨k,rfl,hk,rfl⟩ ih;by_cases q:k<8
 ·have hc:=abR f k
  have hs:tZ f (k+1)=if f k then tZ f k+1 else tZ f k:=rfl
  rw[ak (apw (by omega)),au (bG (by omega) (by omega)),apx,aL (x:=(k:Int)+1) (by omega) (by omega)];cases hf:f k with
  |true=>rw[ak rfl];rw[hf]at hs;exact ih _ _ ⟨k+1,by omega,by omega,by rw[hs,aL (by omega) (by omega)];rfl⟩ (by omega)
  |false=>rw[ae rfl];rw[hf]at hs;exact ih _ _ ⟨k+1,by omega,by omega,by rw[hs];rfl⟩ (by omega)
 ·rw[ae (apD (by omega))]
  have:k=8:=by omega
  subst this;rfl
theorem anP{ρ:Type}(f:Nat->Bool)(C:Int->Option ρ)(hn:20<=n):cJ (λRh (l7:Int) (iU:Int)=>cn (decide (iU<8)) (gu (bM iU 8)<|cn (f (Int.toNat iU)) (gu (decide (0<=iU))<|Rh (orI .u8 l7 (FX .u8 1 iU)) (wr .i64 (iU+1))) (Rh l7 (wr .i64 (iU+1)))) (C l7)) n 0 0=C (Xl f 8):=by
 refine dY (λ(c i:Int)=>∃k:Nat,i=k/\k<=8/\c=Xl f k) (λ_ i=>(8-i).toNat) (λq=>q=C (Xl f 8)) ?_ n 0 0 ⟨0,rfl,by omega,rfl⟩ (by omega);rintro kk c i ⟨k,rfl,hk,rfl⟩ ih;by_cases q:k<8
 ·have hs:Xl f (k+1)=if f k then orI .u8 (Xl f k) (FX .u8 1 (k:Int))else Xl f k:=rfl
  rw[ak (apw (by omega)),au (bG (by omega) (by omega)),apx,aL (x:=(k:Int)+1) (by omega) (by omega)];cases hf:f k with
  |true=>rw[ak rfl,au (apw (by omega))];rw[hf]at hs;exact ih _ _ ⟨k+1,by omega,by omega,by rw[hs];rfl⟩ (by omega)
  |false=>rw[ae rfl];rw[hf]at hs;exact ih _ _ ⟨k+1,by omega,by omega,by rw[hs];rfl⟩ (by omega)
 ·rw[ae (apD (by omega))]
  have:k=8:=by omega
  subst this;rfl
end
end Go.Proofs.Z
namespace Go.Proofs.Z
open Go Go.Bw
theorem aoU:tZ (zV 0) 8=0:=by simp[tZ,ade]
def mK(re:Int)(y:bT)(aE:Int)(hold:Bool):Int:=if re≠0 then re else if y.dx≠3 then 12 else if aE<0\/8<=aE then 2 else if y.kR aE.toNat=hold then(if hold=true then 7 else 5)else 0
theorem Pt{re:Int}{y:bT}{aE:Int}{hold:Bool}(h:mK re y aE hold=0):re=0/\y.dx=3/\(0<=aE/\aE<8)/\y.kR aE.toNat= !hold:=by
 unfold mK at h;split at h
 ·contradiction
 ·rename_i h1
  split at h
  ·cases h
  ·rename_i h2
   split at h
   ·cases h
   ·rename_i h3
    split at h
    ·split at h<;>cases h
    ·rename_i h4
     refine⟨Decidable.not_not.1 h1,Decidable.not_not.1 h2,by omega,?_⟩;cases hold<;>simpa using h4
section
variable {n:Nat} {t:av} {w:ai} {o:bN} {v:aR}
theorem QM(hn:200<=n)(r:gY t w)(tt:j8 w)(hl:v.tJ.length=v.cS.length)(hr:v.cS.length+100<=n/\v.cS.length<=100000){h aE:Int}(h0:0<=h)(hold:Bool):
  jq n v w h aE hold=some (if mK (pM w h) (DF w v h) aE hold=0 then(A4 v h {DF w v h with kR:=dy (DF w v h).kR aE.toNat hold},tZ (dy (DF w v h).kR aE.toNat hold) 8,0)else(v,0,mK (pM w h) (DF w v h) aE hold)):=by
 unfold jq;rw[ah (afH hn r tt h0),ah (EN hn r tt hl hr h0)];generalize DF w v h=y;rw[aJ];by_cases e0:pM w h=0
 ·rw[e0]
  by_cases k3:y.dx=3
  ·refine(ae (by simp[k3])).trans ?_
   dsimp only;rw[aJ];by_cases bad:aE<0\/8<=aE
   ·have he:mK 0 y aE hold=2:=by simp[mK,k3,bad]
    refine(ak (by simp;omega)).trans ?_;dsimp only;rw[aJ,he];refine(au (by rfl)).trans ?_;refine(ae (by rfl)).trans ?_;exact ak (by rfl)
   ·refine(ae (by simp;omega)).trans ?_
    dsimp only;rw[aJ];have hi:bM aE 8=true:=bG (by omega) (by omega);refine(au (by rw[hi];rfl)).trans ?_;by_cases hh:y.kR aE.toNat=hold
    ·have he:mK 0 y aE hold=if hold=true then 7 else 5:=by simp[mK,k3,bad,hh]
     refine(ak (by simp[hh])).trans ?_;rw[he];cases hold with
     |true=>exact(ak rfl).trans (ak (by rfl))
     |false=>exact(ae rfl).trans (ak (by rfl))
    ·have he:mK 0 y aE hold=0:=by simp[mK,k3,bad,hh]
     refine(ae (by simp[hh])).trans ?_;dsimp only;rw[he,aps rfl];refine(ae (by rfl)).trans ?_;rw[au hi,aJ];refine(aiO (dy y.kR aE.toNat hold) _ (by omega)).trans ?_;exact ah (UT hn hl hr h _)
  ·have he:mK 0 y aE hold=12:=by simp[mK,k3]
   refine(ak (by simp[k3])).trans ?_;dsimp only;rw[aJ,he];refine(ae (by rfl)).trans ?_;dsimp only;rw[aJ];refine(au (by rfl)).trans ?_;refine(ae (by rfl)).trans ?_;exact ak (by rfl)
 ·have he:mK (pM w h) y aE hold=pM w h:=by simp[mK,e0]
  rw[he,apt e0];refine(ae (by simp[e0])).trans ?_;dsimp only;rw[aJ];refine(ae (by simp[e0])).trans ?_;dsimp only;rw[aJ];refine(au (by simp[e0])).trans ?_;refine(ae (by simp[e0])).trans ?_;exact ak (by simpa using e0)
theorem QW(hn:200<=n)(r:gY t w)(tt:j8 w)(p:Dk w o v){h aE:Int}(h0:0<=h)(h1:h<4294967296)(hold:Bool):
  jX n o t h aE hold=some (if mK (pM w h) (DF w v h) aE hold=0 then(tg (tg o h (lB w o h)) h {lB w o h with dU:=JC .u8 (lB w o h).dU (tq aE)},JC .u8 (lB w o h).dU (tq aE),0)else(o,0,mK (pM w h) (DF w v h) aE hold)):=by
 have hx:=qO p.q h;have Fq:=yO r tt p h0;unfold jX;rw[ah (EO (by omega) r tt h0 h1),ah (OI (by omega) r tt h0 h1 _),ah (Kw aE)];dsimp only;generalize lB w o h=x at hx Fq;generalize DF w v h=y at Fq;rw[ck (nU r.bj h0 h1),ck (EK (by omega) r tt h0 h1)];have hse:=U3 (w:=w) h aE;by_cases e0:pM w h=0
 ·obtain⟨s1,s2⟩:=OO h0 e0
  rw[aps e0]at hse;have h4:(zh w h aE==4)=false:=by rw[hse];split<;>rfl
  rw[h4,e0];refine(ae (by rw[s1.2,s2];simp)).trans ?_;by_cases k3:x.dx=3
  ·have k3':y.dx=3:=Fq.k▸k3
   rw[ae (by simpa using k3)];by_cases bad:aE<0\/8<=aE
   ·have he:mK 0 y aE hold=2:=by simp[mK,k3',bad]
    rw[aps bad]at hse;rw[he,hse];exact ak (by rfl)
   ·rw[apt bad]at hse
    have ht:0<=aE/\aE<8:=by omega
    have hy:=Fq.h aE.toNat (by omega);rw[hse,ae (by rfl),aic hx.hr ht, ← hy,aps rfl];by_cases hh:y.kR aE.toNat=hold
    ·have he:mK 0 y aE hold=if hold=true then 7 else 5:=by simp[mK,k3',bad,hh]
     rw[he,hh];cases hold with
     |true=>exact ak (by rfl)
     |false=>exact(ae (by rfl)).trans (ak (by rfl))
    ·have he:mK 0 y aE hold=0:=by simp[mK,k3',bad,hh]
     have hb:y.kR aE.toNat= !hold:=(Pt he).2.2.2;rw[he,hb,aps rfl];refine(ae (by cases hold<;>rfl)).trans ((ae (by cases hold<;>rfl)).trans ?_);rw[ah (Kw aE),aJ,ah (OI (by omega) r tt h0 h1 _),hse,aps rfl]
  ·have k3':y.dx≠3:=Fq.k▸k3
   have he:mK 0 y aE hold=12:=by simp[mK,k3']
   rw[ak (by simpa using k3),he];rfl
 ·have he:mK (pM w h) y aE hold=pM w h:=by simp[mK,e0]
  rw[apt e0]at hse;rw[he,apt e0,hse];refine ak ?_;unfold pM at e0 ⊢;cases hg:aM w.B h with
  |false=>rfl
  |true=>
   rw[hg]at e0;by_cases e:di w h=h
   ·exact absurd (by simp[e]) e0
   ·simp[e]
theorem alP(hn:200<=n)(r:gY t w)(tt:j8 w)(p:Dk w o v)(hr:v.cS.length+100<=n/\v.cS.length<=100000){h aE:Int}(h0:0<=h)(h1:h<4294967296)(hold:Bool):
  ∃o' m v' e,jX n o t h aE hold=some (o',m,e)/\jq n v w h aE hold=some (v',tZ (zV m) 8,e)/\(0<=m/\m<=255)/\Dk w o' v'/\v'.cS.length<=v.cS.length+1:=by
 have hx:=qO p.q h;have Fq:=yO r tt p h0;have e1:=QW hn r tt p h0 h1 (aE:=aE) hold;have e2:=QM hn r tt p.l hr h0 (aE:=aE) hold;by_cases e:mK (pM w h) (DF w v h) aE hold=0
 ·rw[aps e]at e1 e2
  obtain⟨a,b,c,d⟩:=Pt e;obtain⟨s1,s2⟩:=OO h0 a;have hu:0<=JC .u8 (lB w o h).dU (tq aE)/\JC .u8 (lB w o h).dU (tq aE)<=255:=by unfold JC;exact Zb _
  have hv:DF w v h=HO v h:=by unfold DF;rw[aps s1.2,s2]
  have hb:∀j,j<8->dy (DF w v h).kR aE.toNat hold j=zV (JC .u8 (lB w o h).dU (tq aE)) j:=λj hj=>by
   rw[ano hx.hr c hj,bK];by_cases q:j=aE.toNat
   ·rw[aps q,aps q, ← Fq.h j hj,q,d,Bool.not_not]
   ·rw[apt q,apt q, ← Fq.h j hj]
  rw[Ul 8 hb]at e2;refine⟨_,_,_,_,e1,e2,hu,?_,(Hj p.l h _).2.1⟩;have p1:Dk w (tg o h (lB w o h)) v:=p.say s1 hx p.l (λz hz=> .inl hz) (hv▸Fq) (λg _ =>rfl);exact p1.with s1 ⟨hx.k,λq=>absurd (Fq.k.trans b) q,hx.t,hu,hx.tr⟩ ⟨Fq.k,Fq.t,hb⟩
 ·rw[apt e]at e1 e2
  exact⟨_,_,_,_,e1,by rw[aoU];exact e2,by decide,p,by omega⟩
end
end Go.Proofs.Z
namespace Go.Proofs.Z
open Go Go.Bw
section
variable {n:Nat} {t:av} {w:ai} {o:bN} {v:aR}
theorem akx(hn:200<=n)(r:gY t w)(tt:j8 w)(p:Dk w o v)(hr:v.cS.length+100<=n/\v.cS.length<=100000):Ak n t w o v=some true:=by
 have hlen:=fZ w.B 32;unfold Ak;rw[ah (Km (by omega) r)];refine fK (λ(i:Int)=>0<=i/\i<=(aN w.B 32).length) (λi=>(((aN w.B 32).length:Int)-i).toNat) (λo=>o=some true) ?_ n 0 ⟨by omega,by omega⟩ (by omega);rintro kk i ⟨i0,i1⟩ ih;by_cases c:i<(aN w.B 32).length
 ·have hx:=(bX r.bj _).1 (fT (l:=aN w.B 32) (i:=i.toNat) (by omega))
  have g1:bM i (aN w.B 32).length=true:=bG i0 c;generalize(aN w.B 32).getD i.toNat default=y at hx;have hl:=fm hx.2;have hx0:0<=y:=hx.1;have Fq:=yO r tt p hx.1;have hg:=qO p.q y;rw[ak (apw c),au g1,Fy (x:=y) (by omega) (by omega),ah (EO (by omega) r tt hx.1 hl),au g1,ah (EN hn r tt p.l hr hx.1)];refine(anP (DF w v y).kR _ (by omega)).trans ?_;have hk:=hg.k;have ht:=hg.tr;rw[Xk 8 Fq.h,ahf hg.hr,aL (x:=(lB w o y).dx) (by omega) (by omega),aL (x:=(lB w o y).gj) (by omega) (by omega),aL (x:=i+1) (by omega) (by omega),ae (by simp[Fq.k,Fq.t])];exact ih _ ⟨by omega,by omega⟩ (by omega)
 ·rw[ae (apD c)]
def pV(aE:Int)(holds:Bool)(y:bT):Bool:=((!holds)&&((y.dx==1)&&(y.gj==aE)))||(holds&&((((y.dx==3)&&decide (0<=aE))&&decide (aE<8))&&(y.kR (Int.toNat (lY .i64 aE 7)))))
theorem Zi(hn:200<=n)(r:gY t w)(tt:j8 w)(p:Dk w o v)(hr:v.cS.length+100<=n/\v.cS.length<=100000)(aE:Int)(holds:Bool):
  jJ n v w aE holds=some ((Gw w).filter λh=>(di w h==h)&&pV aE holds (DF w v h)):=by
 have hm:=bX r.bj;have hlen:=fZ w.B 32;have hGw:Gw w=aN w.B 32:=rfl;unfold jJ;rw[ah (Km (by omega) r),hGw];generalize aN w.B 32=G at hm hlen ⊢;refine dY (λ(s:List Int) (i:Int)=>∃k:Nat,i=k/\k<=G.length/\s=(G.take k).filter λh=>(di w h==h)&&pV aE holds (DF w v h)) (λ_ i=>G.length-i.toNat) (λq=>q=some (G.filter λh=>(di w h==h)&&pV aE holds (DF w v h))) ?_ n [] 0 ⟨0,rfl,by omega,by simp⟩ (by omega);rintro kk s i ⟨k,rfl,hk,rfl⟩ ih;by_cases c:k<G.length
 ·have hx:=(hm _).1 (fT (l:=G) (i:=k) c)
  have ht:(G.take (k+1)).filter (λh=>(di w h==h)&&pV aE holds (DF w v h))=(G.take k).filter (λh=>(di w h==h)&&pV aE holds (DF w v h))++(if((di w (G.getD k default)==G.getD k default)&&pV aE holds (DF w v (G.getD k default)))=true then[G.getD k default]else[]):=by rw[apC c,List.filter_append, ← eS c];generalize G.getD k default=y;cases hy:((di w y==y)&&pV aE holds (DF w v y))<;>simp[hy]
  have Qk:((G.take k).filter (λh=>(di w h==h)&&pV aE holds (DF w v h))).length<=32:=Nat.le_trans (List.length_filter_le _ _) (by rw[List.length_take];omega);have g1:bM (k:Int) G.length=true:=bG (by omega) (by omega);simp only[apx];generalize G.getD k default=y at hx ht ⊢;have a7:=Ux aE;have g2:bM (lY .i64 aE 7) 8=true:=bG a7.1 (by omega);rw[ak (apw (by omega)),au g1,ah (EN hn r tt p.l hr hx.1),au (by rw[g2];simp),au g1,ah (Ca hn r tt hx.1),au g1,aL (x:=(k:Int)+1) (by omega) (by omega)];cases hp:((di w y==y)&&pV aE holds (DF w v y))with
  |true=>rw[hp]at ht;refine(ak hp).trans ?_;rw[au g1,au (fq (by omega) (by omega)),aJ];exact ih _ _ ⟨k+1,by omega,by omega,by rw[ht];simp⟩ (by omega)
  |false=>rw[hp]at ht;refine(ae hp).trans ?_;exact ih _ _ ⟨k+1,by omega,by omega,by rw[ht];simp⟩ (by omega)
 ·rw[ae (apD (by omega)),List.take_of_length_le (by omega)]
theorem ah5(hn:100<=n)(r:gY t w)(tt:j8 w)(k:Int):qN n o t k=some ((Gw w).filter λh=>(di w h==h)&&Ef k (tq k) (lB w o h)):=by unfold qN jy;rw[ah (ae5 (by omega) r)];exact ah (Zh (o:=o) hn r tt (λx=>rm n x k) (Ef k (tq k)) (λx=>by unfold rm Ef;rw[ck (Kw k)]))
theorem L6{k:Int}(h:0<=k/\k<8):lY .i64 k 7=k:=by obtain⟨c,rfl⟩:=QA h;revert c;decide
theorem agY(r:gY t w)(tt:j8 w)(p:Dk w o v)(k:Int):((Gw w).filter λh=>(di w h==h)&&pV k false (DF w v h))=(Gw w).filter λh=>(di w h==h)&&(((lB w o h).dx==1)&&((wr .i64 (lB w o h).gj)==k)):=by refine List.filter_congr λh hh=>?_;have hx:=(bX r.bj _).1 hh;have Fq:=yO r tt p hx.1;have hg:=(qO p.q h).tr;unfold pV;rw[Fq.k,Fq.t,aL (x:=(DF w v h).gj) (by rw[← Fq.t];omega) (by rw[← Fq.t];omega)];simp
theorem ah6(r:gY t w)(tt:j8 w)(p:Dk w o v)(k:Int):((Gw w).filter λh=>(di w h==h)&&pV k true (DF w v h))=(Gw w).filter λh=>(di w h==h)&&Ef k (tq k) (lB w o h):=by
 refine List.filter_congr λh hh=>?_;have hx:=(bX r.bj _).1 hh;have Fq:=yO r tt p hx.1;have hg:=(qO p.q h).hr;unfold pV Ef;rw[← Fq.k];by_cases hc:((((lB w o h).dx==3)&&decide (0<=k))&&decide (k<8))=true
 ·have hk:0<=k/\k<8:=by simp at hc;omega
  rw[hc,show(bif (true==true)then tq k else default)=tq k from rfl,aic hg hk,L6 hk,Fq.h k.toNat (by omega)];simp
 ·have hc:((((lB w o h).dx==3)&&decide (0<=k))&&decide (k<8))=false:=by simpa using hc
  rw[hc];simp
end
theorem aac:Dk gQ p7 iF:=by
 refine⟨⟨λi _ =>Vl,λi _ => .inl rfl⟩,rfl,λx h=>(by cases h),λh _ =>?_⟩;have:JN p7 h=Ll:=by unfold JN;split<;>rfl
 rw[this];exact ZF
end Go.Proofs.Z
namespace Go.Proofs.Z
open Go Go.Bw Go.Rw Go.RowKit
noncomputable section
def ri(n:Nat)(a0:jI)(a1:Int)(a2:Int):Option Bool:=cn ((a2==0)) (bd (eu n a0.K a1 0) λaW=>some aW) (cn ((a2==1)) (bd (dW n a0.K a1 0) λbS=>some bS) (bd (iv n a0.T a1) λfI=>eU (λMB (dL:Int)=>cn (decide (dL<(fI.length:Int))) (gu (bM dL fI.length)<|bd (dF n a0.K (fI.getD (Int.toNat dL) default) (-1)) λg8=>cn (decide (0<(g8.length:Int))) (some false) (MB (wr .i64 (dL+1)))) (some (a2==2))) n 0))
def FF(n:Nat):CT:=cV (tW n [(15, .loop [(.slot 8,(.v (.int .i64)))])] [mU n,mD n,qJ n,mT n]) (gy 95 [.s 26, .i, .i] [.b]) (a3 (ri n)) u1 m1
def eL(n:Nat)(a0:jI)(a1:Int)(a2:Int)(a3:Int):Option Int:=bd (bJ n a0.T a2) λgG=>cn ((!gG)) (some 4) (bd (iD n a0.O a0.T a2) λfL=>gu (!(((((fL.dx==3)&&(a3==0))&&decide (0<=a1))&&decide (a1<8))==true)||bM (lY .i64 a1 7) 8)<|cn ((((((fL.dx==3)&&(a3==0))&&decide (0<=a1))&&decide (a1<8))&&(fL.kR (Int.toNat (lY .i64 a1 7))))) (some 0) (cn ((fL.dx !=1)) (some 5) (cl ((fL.gj==a1)==true) (ri n a0 a2 a3) default λdL=>cn (((fL.gj==a1)&&dL)) (some 0) (bd (dF n a0.K a2 (-1)) λeE=>eU (λk39 (l7:Int)=>cn (decide (l7<(eE.length:Int))) (gu (bM l7 eE.length)<|bd (gV n a0.K (eE.getD (Int.toNat l7) default)) λgR=>gu (!(((gR.1.To==a1)==true)&&((a3==0)==true))||bM l7 eE.length)<|cl (((gR.1.To==a1)==true)&&((a3==0)==true)) (eu n a0.K a2 (eE.getD (Int.toNat l7) default)) default λo9=>gu (!((((gR.1.To==a1)==true)&&(((a3==0)&&o9)==false))&&(((a3==1)&&gR.1.bF)==true))||bM l7 eE.length)<|cl ((((gR.1.To==a1)==true)&&(((a3==0)&&o9)==false))&&(((a3==1)&&gR.1.bF)==true)) (dW n a0.K a2 (eE.getD (Int.toNat l7) default)) default λmG=>cn (((gR.1.To==a1)&&(((a3==0)&&o9)||(((a3==1)&&gR.1.bF)&&mG)))) (some 0) (k39 (wr .i64 (l7+1)))) (some 5)) n 0))))
def oJ(n:Nat):CT:=cV (tW n [(25, .loop [(.slot 11,(.v (.int .i64)))])] [cz n,kS n,FF n,mT n,rA n,mU n,mD n]) (gy 46 [.s 26, .i, .i, .i] [.i]) (a4 (eL n)) u1 m1
def oG(n:Nat)(a0:dm)(a1:Int):Option Bool:=bd (jE n a0.K a1 0) λaW=>some aW
def B4(n:Nat):CT:=cV (tW n [] [pF n]) ⟨242,[(55, .v (.st 14)),(32, .v (.int .u32))], .cons (.cW 0) (.cons (.cW 1) .nil), .cons (.v .bool) .nil,[], .nil,[],[]⟩ (λx=>oG n x.1 x.2.1) u1 m1
def oF(n:Nat)(a0:dm)(a1:Int):Option Bool:=bd (jg n a0.K a1 0) λaW=>some aW
def B3(n:Nat):CT:=cV (tW n [] [oY n]) ⟨243,[(55, .v (.st 14)),(32, .v (.int .u32))], .cons (.cW 0) (.cons (.cW 1) .nil), .cons (.v .bool) .nil,[], .nil,[],[]⟩ (λx=>oF n x.1 x.2.1) u1 m1
def ny(n:Nat)(a0:Int)(a1:dm):Option Bool:=bd (kU n a1.K a0) λaW=>some (decide (0<(aW.length:Int)))
def zT(n:Nat):CT:=cV (tW n [] [su n]) ⟨246,[(55, .v (.st 14))], .cons (.v (.int .u32)) (.cons (.cW 0) .nil), .cons (.v .bool) .nil,[], .nil,[],[]⟩ (λx=>ny n x.2.1 x.1) u1 m1
def fE(n:Nat)(a0:(List Int))(mM:dm):Option Int:=eU (λzu (bS:Int)=>cn (decide (bS<(a0.length:Int))) (gu (bM bS a0.length)<|bd (ny n (a0.getD (Int.toNat bS) default) mM) λeC=>cn (eC) (some bS) (zu (wr .i64 (bS+1)))) (some (-1))) n 0
def nI(n:Nat):CT:=cV (tW n [(5, .loop [(.slot 8,(.v (.int .i64)))])] [zT n]) ⟨257,[(55, .v (.st 14))], .cons (.v (.sl (.int .u32))) (.cons (.fn (.func 246) .nil (.cons (.cW 0) .nil)) .nil), .cons (.v (.int .i64)) .nil,[], .nil,[],[]⟩ (λx=>fE n x.2.1 x.1) u1 m1
def eK(n:Nat)(a0:(List Int))(mM:dm):Option Bool:=bd (fE n a0 mM) λaW=>some (decide (0<=aW))
def mL(n:Nat):CT:=cV (tW n [] [nI n]) ⟨245,[(55, .v (.st 14))], .cons (.v (.sl (.int .u32))) (.cons (.fn (.func 246) .nil (.cons (.cW 0) .nil)) .nil), .cons (.v .bool) .nil,[], .nil,[],[]⟩ (λx=>eK n x.2.1 x.1) u1 m1
def mz(n:Nat)(a0:dm)(a1:Int):Option Bool:=bd (qv n a0.T a1) λgG=>bd (eK n gG a0) λdL=>some (!dL)
def B0(n:Nat):CT:=cV (tW n [] [xb n,mL n]) ⟨244,[(55, .v (.st 14)),(32, .v (.int .u32))], .cons (.cW 0) (.cons (.cW 1) .nil), .cons (.v .bool) .nil,[], .nil,[],[]⟩ (λx=>mz n x.1 x.2.1) u1 m1
def lZ(n:Nat)(a0:dm)(a1:Int)(a2:Int):Option Bool:=cn (a2==0) (cl (true==true) (oG n a0 a1) default λeE=>some (true&&eE)) (cn (a2==1) (cl (true==true) (oF n a0 a1) default λeE=>some (true&&eE)) (cn (a2==2) (cl (true==true) (mz n a0 a1) default λeE=>some (true&&eE)) (some false)))
namespace H
theorem TB{J:World->Prop}{T0 T1 q0 q1 r:Nat}{wg:List Value}{a0:dm}{a1:Int}{o:Ob sg}(f0:iG.fz J wg a0)(e:gw [(0, .eW T0 (.dat (.st 14) a0)),(1, .eW T1 (.int .u32 a1))] r=some o):
  ∃z∈([.cells q0 T0 wg, .cells q1 T1 ((LI .u32).enc a1)]:List aO),ro (G:=sg) J (bV.set (bV.set (λ_ =>none) 0 (gk q0 0)) 1 (gk q1 0)) r o z:=by
 match r,e with
 |0,e=>cases e;exact⟨_,List.mem_cons_self,q0, .agg wg.toArray,rfl,rfl,Il (t:= .st 14) f0 rfl⟩
 |1,e=>cases e;exact⟨_,apE _ List.mem_cons_self,q1, .int .u32 a1,rfl,rfl,rfl⟩
 |r+2,e=>cases e
theorem Cz{n:Nat}{a0:dm}{a1:Int}{r:Bool}{R:List aO}(hg:WD sg (Hs R)){q0:Nat}{wg:List Value}(f0:iG.fz (Hs R) wg a0){q1:Nat}(h:oG n a0 a1=some r):Bw.Fn (α:=Unit) Tryz.prog 242 [gk q0 0,gk q1 0] (YA (cy [.cells q0 55 wg, .cells q1 32 ((LI .u32).enc a1)]) (Hs R)) [.cells q0 55 wg, .cells q1 32 ((LI .u32).enc a1)] (λ_ =>True) (λ_ => .bool r) (λ_ =>[.cells q0 55 wg, .cells q1 32 ((LI .u32).enc a1)]):=
 zx (ct:=B4 n) (x:=(a0,a1,())) (y:=(r,())) (ρ:=bV.set (bV.set (λ_ =>none) 0 (gk q0 0)) 1 (gk q1 0)) ⟨r,h,rfl⟩ hg (λ_ _ =>⟨_,_,rfl,⟨⟨q0,0, .inl rfl,rfl⟩,nofun⟩,_,_,rfl,⟨⟨q1,0, .inl rfl,rfl⟩,nofun⟩,rfl⟩) rfl rfl
  (λJ hJ r o e=>TB (T0:=55) (T1:=32) (dI.mono _ hJ f0) e) (λr (hr:2<=r)=>match r,hr with|r+2,_ =>rfl) λJ σ u us ⟨_,_,e,h1,_⟩=>by cases e;have h1:[u]=[.bool _]:=h1;cases h1;rfl
theorem Cy{n:Nat}{a0:dm}{a1:Int}{r:Bool}{R:List aO}(hg:WD sg (Hs R)){q0:Nat}{wg:List Value}(f0:iG.fz (Hs R) wg a0){q1:Nat}(h:oF n a0 a1=some r):Bw.Fn (α:=Unit) Tryz.prog 243 [gk q0 0,gk q1 0] (YA (cy [.cells q0 55 wg, .cells q1 32 ((LI .u32).enc a1)]) (Hs R)) [.cells q0 55 wg, .cells q1 32 ((LI .u32).enc a1)] (λ_ =>True) (λ_ => .bool r) (λ_ =>[.cells q0 55 wg, .cells q1 32 ((LI .u32).enc a1)]):=
 zx (ct:=B3 n) (x:=(a0,a1,())) (y:=(r,())) (ρ:=bV.set (bV.set (λ_ =>none) 0 (gk q0 0)) 1 (gk q1 0)) ⟨r,h,rfl⟩ hg (λ_ _ =>⟨_,_,rfl,⟨⟨q0,0, .inl rfl,rfl⟩,nofun⟩,_,_,rfl,⟨⟨q1,0, .inl rfl,rfl⟩,nofun⟩,rfl⟩) rfl rfl
  (λJ hJ r o e=>TB (T0:=55) (T1:=32) (dI.mono _ hJ f0) e) (λr (hr:2<=r)=>match r,hr with|r+2,_ =>rfl) λJ σ u us ⟨_,_,e,h1,_⟩=>by cases e;have h1:[u]=[.bool _]:=h1;cases h1;rfl
theorem Cw{n:Nat}{a0:dm}{a1:Int}{r:Bool}{R:List aO}(hg:WD sg (Hs R)){q0:Nat}{wg:List Value}(f0:iG.fz (Hs R) wg a0){q1:Nat}(h:mz n a0 a1=some r):Bw.Fn (α:=Unit) Tryz.prog 244 [gk q0 0,gk q1 0] (YA (cy [.cells q0 55 wg, .cells q1 32 ((LI .u32).enc a1)]) (Hs R)) [.cells q0 55 wg, .cells q1 32 ((LI .u32).enc a1)] (λ_ =>True) (λ_ => .bool r) (λ_ =>[.cells q0 55 wg, .cells q1 32 ((LI .u32).enc a1)]):=
 zx (ct:=B0 n) (x:=(a0,a1,())) (y:=(r,())) (ρ:=bV.set (bV.set (λ_ =>none) 0 (gk q0 0)) 1 (gk q1 0)) ⟨r,h,rfl⟩ hg (λ_ _ =>⟨_,_,rfl,⟨⟨q0,0, .inl rfl,rfl⟩,nofun⟩,_,_,rfl,⟨⟨q1,0, .inl rfl,rfl⟩,nofun⟩,rfl⟩) rfl rfl
  (λJ hJ r o e=>TB (T0:=55) (T1:=32) (dI.mono _ hJ f0) e) (λr (hr:2<=r)=>match r,hr with|r+2,_ =>rfl) λJ σ u us ⟨_,_,e,h1,_⟩=>by cases e;have h1:[u]=[.bool _]:=h1;cases h1;rfl
theorem E5{n a0 a1 a2 r}{R:List aO}(hg:WD sg (Hs R)){wg}(f0:(iG).fz (Hs R) wg a0)(h:lZ n a0 a1 a2=some r):FnW Tryz.prog 152 [A wg, .int .u32 a1, .int .u8 a2] (Hs R) (.bool r):=by
 unfold lZ at h;refine fo Tryz.func152 (by kernel_rfl) rfl Tryz.ntmps152 rfl λcx _ hro qT hpre=>?_;refine SC 2 rf ?_;refine W1 rf (P9 rfl) λb3=>?_;refine W1 rf (qx (LI .u32) a1 rfl rfl) λb4=>?_;refine SL 5 rf ?_;refine zA rfl (Me .u8 (λv:Value=>v)) (λb10 _ =>?_);refine cO rfl (u9 rfl) ?_;refine Jv (IA (E:=λv:Value=>v) (.func (.func 242) #[] #[gk b3 0,gk b4 0]) rfl rfl rfl rfl) (λ_ _ =>?_);refine cO rfl (u9 rfl) ?_;refine Jv (IA (E:=λv:Value=>v) (.func (.func 243) #[] #[gk b3 0,gk b4 0]) rfl rfl rfl rfl) (λ_ _ =>?_);refine cO rfl (u9 rfl) ?_;refine Jv (IA (E:=λv:Value=>v) (.func (.func 244) #[] #[gk b3 0,gk b4 0]) rfl rfl rfl rfl) (λ_ _ =>?_);refine SL 5 rf ?_;rcases Decidable.em (a2=0)with ET|ET
 ·replace h:=Um (by simpa using ET) h;refine SC 3 rf ?_;refine cO rfl (AN .nilFunc (.func (.func 242) #[] #[gk b3 0,gk b4 0]) true rfl rfl (by rw[ET];rfl) (by rw[ET];rfl)) ?_;obtain⟨eE,TS,_,h⟩:=aeU h;refine SL 11 rf ?_;refine GB rf rf rf (λhb=>dK rfl) ?_;refine Iw (acW rfl rfl) rfl (λhb=>Cz (R:=R) hg (mo f0) (TS hb)) (λhb=>(PA rfl hb)) (λhb=>rfl) rfl (qd:=[.cells b3 55 wg, .cells b4 32 ((LI .u32).enc a1)]) (rst:=[Mp b10 .u8 (λv:Value=>v) (qF (qF (qF ([]:List (Int×Value)) 0 (.func (.func 242) #[] #[gk b3 0,gk b4 0])) 1 (.func (.func 243) #[] #[gk b3 0,gk b4 0])) 2 (.func (.func 244) #[] #[gk b3 0,gk b4 0]))]) (ks:=[2,1,0]) rfl (by decide) (λhb=>inferInstance) ?_;dsimp only[List.cons_append,List.nil_append];refine cO rfl (Mb rfl rfl) ?_;refine SL 4 rf ?_;have h:=sj h;subst h;exact RV rf (rt rf rn) rf
 replace h:=Un (by simpa using ET) h;rcases Decidable.em (a2=1)with ES|ES
 ·replace h:=Um (by simpa using ES) h;refine SC 3 rf ?_;refine cO rfl (AN .nilFunc (.func (.func 243) #[] #[gk b3 0,gk b4 0]) true rfl rfl (by rw[ES];rfl) (by rw[ES];rfl)) ?_;obtain⟨eE,TS,_,h⟩:=aeU h;refine SL 11 rf ?_;refine GB rf rf rf (λhb=>dK rfl) ?_;refine Iw (acW rfl rfl) rfl (λhb=>Cy (R:=R) hg (mo f0) (TS hb)) (λhb=>(PA rfl hb)) (λhb=>rfl) rfl (qd:=[.cells b3 55 wg, .cells b4 32 ((LI .u32).enc a1)]) (rst:=[Mp b10 .u8 (λv:Value=>v) (qF (qF (qF ([]:List (Int×Value)) 0 (.func (.func 242) #[] #[gk b3 0,gk b4 0])) 1 (.func (.func 243) #[] #[gk b3 0,gk b4 0])) 2 (.func (.func 244) #[] #[gk b3 0,gk b4 0]))]) (ks:=[2,1,0]) rfl (by decide) (λhb=>inferInstance) ?_;dsimp only[List.cons_append,List.nil_append];refine cO rfl (Mb rfl rfl) ?_;refine SL 4 rf ?_;have h:=sj h;subst h;exact RV rf (rt rf rn) rf
 replace h:=Un (by simpa using ES) h;rcases Decidable.em (a2=2)with ER|ER
 ·replace h:=Um (by simpa using ER) h;refine SC 3 rf ?_;refine cO rfl (AN .nilFunc (.func (.func 244) #[] #[gk b3 0,gk b4 0]) true rfl rfl (by rw[ER];rfl) (by rw[ER];rfl)) ?_;obtain⟨eE,TS,_,h⟩:=aeU h;refine SL 11 rf ?_;refine GB rf rf rf (λhb=>dK rfl) ?_;refine Iw (acW rfl rfl) rfl (λhb=>Cw (R:=R) hg (mo f0) (TS hb)) (λhb=>(PA rfl hb)) (λhb=>rfl) rfl (qd:=[.cells b3 55 wg, .cells b4 32 ((LI .u32).enc a1)]) (rst:=[Mp b10 .u8 (λv:Value=>v) (qF (qF (qF ([]:List (Int×Value)) 0 (.func (.func 242) #[] #[gk b3 0,gk b4 0])) 1 (.func (.func 243) #[] #[gk b3 0,gk b4 0])) 2 (.func (.func 244) #[] #[gk b3 0,gk b4 0]))]) (ks:=[2,1,0]) rfl (by decide) (λhb=>inferInstance) ?_;dsimp only[List.cons_append,List.nil_append];refine cO rfl (Mb rfl rfl) ?_;refine SL 4 rf ?_;have h:=sj h;subst h;exact RV rf (rt rf rn) rf
 replace h:=Un (by simpa using ER) h;refine SC 3 rf ?_;refine cO rfl (AN .nilFunc .nilFunc false rfl rfl (Vq (z:= .nilFunc) ET ES ER).1 (Vq (z:= .nilFunc) ET ES ER).2) ?_;refine SL 11 rf ?_;refine GB rf rf rf (λhb=>dK rfl) ?_;refine amF (v:= .bool false) (acW rfl rfl) (by rfl) rfl ?_;refine cO rfl (Mb rfl rfl) ?_;refine SL 4 rf ?_;have h:=sj h;subst h;exact RV rf (rt rf rn) rf
end H
def ED(n:Nat):Ct Tryz.prog sg:=XV (G:=sg) ⟨152,[], .cons (.v (.st 14)) (.cons (.v (.int .u32)) (.cons (.v (.int .u8)) .nil)), .cons (.v .bool) .nil,[], .nil,[],[]⟩ (λx=>lZ n x.1 x.2.1 x.2.2.1) (λz=>(z,())) (false) (by kernel_rfl) (VX (λ_ =>rfl) (λ_ =>rfl) rfl λρ R x z vs hg hz hv=>by
 obtain⟨cs,r1,e_1,h0,v1⟩:=HJ hv rfl;obtain⟨r2,e_2,v2⟩:=OP v1;obtain⟨r3,e_3,v3⟩:=OP v2;have e_0:r3=[]:=v3;subst e_0 e_3 e_2 e_1;exact⟨_,ain (H.E5 hg h0 hz),λJ v e=>by
  subst e;exact⟨_,_,rfl,rfl,rfl⟩⟩)
def nA(n:Nat)(a0:Int)(a1:dm)(a2:Int)(a3:Int)(a4:Int):Option Bool:=bd (dw n a1.K a0) λaW=>cl ((((wr .i64 aW.1.To)==a2)==true)&&((a3==0)==true)) (jE n a1.K a4 a0) default λbS=>cl (((((wr .i64 aW.1.To)==a2)==true)&&(((a3==0)&&bS)==false))&&(((a3==1)&&aW.1.bF)==true)) (jg n a1.K a4 a0) default λgG=>some (((wr .i64 aW.1.To)==a2)&&(((a3==0)&&bS)||(((a3==1)&&aW.1.bF)&&gG)))
def DC(n:Nat):CT:=cV (tW n [] [gH n,pF n,oY n]) ⟨256,[(55, .v (.st 14)),(3, .v (.int .i64)),(5, .v (.int .u8)),(32, .v (.int .u32))], .cons (.v (.int .u32)) (.cons (.cW 0) (.cons (.cW 1) (.cons (.cW 2) (.cons (.cW 3) .nil)))), .cons (.v .bool) .nil,[], .nil,[],[]⟩ (λx=>nA n x.2.2.2.2.1 x.1 x.2.1 x.2.2.1 x.2.2.2.1) u1 m1
def gh(n:Nat)(a0:(List Int))(mM:dm)(vI:Int)(acf:Int)(ai2:Int):Option Int:=eU (λzu (bS:Int)=>cn (decide (bS<(a0.length:Int))) (gu (bM bS a0.length)<|bd (nA n (a0.getD (Int.toNat bS) default) mM vI acf ai2) λeC=>cn (eC) (some bS) (zu (wr .i64 (bS+1)))) (some (-1))) n 0
def ot(n:Nat):CT:=cV (tW n [(5, .loop [(.slot 8,(.v (.int .i64)))])] [DC n]) ⟨257,[(55, .v (.st 14)),(3, .v (.int .i64)),(5, .v (.int .u8)),(32, .v (.int .u32))], .cons (.v (.sl (.int .u32))) (.cons (.fn (.func 256) .nil (.cons (.cW 0) (.cons (.cW 1) (.cons (.cW 2) (.cons (.cW 3) .nil))))) .nil), .cons (.v (.int .i64)) .nil,[], .nil,[],[]⟩ (λx=>gh n x.2.2.2.2.1 x.1 x.2.1 x.2.2.1 x.2.2.2.1) u1 m1
def fF(n:Nat)(a0:(List Int))(mM:dm)(vI:Int)(acf:Int)(ai2:Int):Option Bool:=bd (gh n a0 mM vI acf ai2) λaW=>some (decide (0<=aW))
def nJ(n:Nat):CT:=cV (tW n [] [ot n]) ⟨245,[(55, .v (.st 14)),(3, .v (.int .i64)),(5, .v (.int .u8)),(32, .v (.int .u32))], .cons (.v (.sl (.int .u32))) (.cons (.fn (.func 256) .nil (.cons (.cW 0) (.cons (.cW 1) (.cons (.cW 2) (.cons (.cW 3) .nil))))) .nil), .cons (.v .bool) .nil,[], .nil,[],[]⟩ (λx=>fF n x.2.2.2.2.1 x.1 x.2.1 x.2.2.1 x.2.2.2.1) u1 m1
def ry(n:Nat)(a0:dm)(a1:Int)(a2:Int)(a3:Int):Option Bool:=bd (kU n a0.K a2) λaW=>bd (fF n aW a0 a1 a3 a2) λfL=>some fL
def FP(n:Nat):CT:=cV (tW n [] [su n,nJ n]) (gy 241 [.s 14, .i, .w, .v (.int .u8)] [.b]) (a4 (ry n)) u1 m1
def s6(n:Nat)(a0:dm)(a1:Int)(a2:Int)(a3:Int):Option Int:=bd (aU n a0.T.bj.og a2) λaW=>cn ((!aW)) (some 4) (bd (iP n a0.O a0.T a2) λiH=>cn ((iH.dx==3)) (gu (!((((a3==0)&&decide (0<=a1))&&decide (a1<8))==true)||decide (0<=a1))<|cn ((!((((a3==0)&&decide (0<=a1))&&decide (a1<8))&&((lY .u8 (FW .u8 iH.dU a1) 1)==1)))) (some 5) (some 0)) (cn ((iH.dx==1)) (cl (((wr .i64 iH.gj)==a1)==true) (lZ n a0 a2 a3) default λfR=>cl ((((wr .i64 iH.gj)==a1)&&fR)==false) (ry n a0 a1 a2 a3) default λeC=>cn ((!((((wr .i64 iH.gj)==a1)&&fR)||eC))) (some 5) (some 0)) (some 5)))
def HA(n:Nat):CT:=cV (tW n [] [bH n,lI n,ED n,FP n]) (gy 213 [.s 14, .i, .w, .v (.int .u8)] [.i]) (a4 (s6 n)) u1 m1
def yp(n:Nat)(a0:ai)(a1:Int)(a2:Int):Option (Int×Int):=bd (bJ n a0 a1) λaW=>cn ((!aW)) (some (0,4)) (cn ((decide (a2<0)||decide (7<a2))) (some (0,2)) (bd (br n a0.B a1) λbS=>gu (bM bS 32)<|gu (bM a2 8)<|cn ((((a0.R (Int.toNat bS)).bC (Int.toNat a2))==0)) (some (0,10)) (bd (bJ n a0 ((a0.R (Int.toNat bS)).bC (Int.toNat a2))) λfI=>cn ((!fI)) (some (0,4)) (some (((a0.R (Int.toNat bS)).bC (Int.toNat a2)),0)))))
def MQ(n:Nat):CT:=cV (tW n [] [cz n,cC n]) (gy 75 [.s 21, .i, .i] [.t [.i, .i]]) (a3 (yp n)) u2 m2
def zi(n:Nat)(a0:ai)(a1:Int)(a2:Int)(a3:Int)(a4:Bool):Option (ai×Int):=bd (bJ n a0 a1) λaW=>cl (((!aW)==false)&&((a3 !=0)==true)) (bJ n a0 a3) default λbS=>cn (((!aW)||((a3 !=0)&&(!bS)))) (some (a0,4)) (cn ((decide (a2<0)||decide (7<a2))) (some (a0,2)) (cl (((a3 !=0)&&(!a4))==true) (pN n a0 a3 a1) default λiM=>cn ((((a3 !=0)&&(!a4))&&(!iM))) (some (a0,5)) (bd (br n a0.B a1) λq9=>gu (bM q9 32)<|gu (bM a2 8)<|lt ({a0 with R:=(dy a0.R (Int.toNat q9) ({(a0.R (Int.toNat q9))with bC:=(dy ((a0.R (Int.toNat q9)).bC) (Int.toNat a2) a3)}))}:ai) λl7=>some (l7,0))))
def Qs(n:Nat):CT:=cV (tW n [] [cz n,y8 n,cC n]) (gy 76 [.s 21, .i, .i, .i, .b] [.t [.s 21, .i]]) (λx=>zi n x.1 x.2.1 x.2.2.1 x.2.2.2.1 x.2.2.2.2.1) u2 m2
def uX(n:Nat)(a0:av)(a1:Int)(a2:Int):Option (Except Int aS):=bd (eF n a0 a1) λaW=>tc (aW.2==0) (.error aW.2)<|tc (decide (0<=a2)&&decide (a2<8)) (.error 2)<|some (.ok aW.1)
def Ec(n:Nat):CT:=cT (tW n [] [bZ n,bP n,ij n]) 238 [.s 8, .w, .i] [.s 7] 118 (a3 (uX n)) u1 m1
def GC(n:Nat)(a0:av)(a1:Int)(a2:Int)(a3:Int)(a4:Bool):Option (av×Int):=bd (aU n a0.bj.og a1) λaW=>cl ((aW==true)&&((a3==0)==false)) (aU n a0.bj.og a3) default λbS=>tc (aW&&((a3==0)||bS)) (iT,4)<|tr (uX n a0 a1 a2) (λaiy=>(iT,aiy)) λfI=>cl (((a3==0)||a4)==false) (mQ n a0 a3 a1) default λg8=>tc (((a3==0)||a4)||g8) (iT,5)<|gu (bM a2 8)<|lt ({fI with bC:=(dy fI.bC (Int.toNat a2) a3)}:aS) λqf=>bd (gP n a0 a1 qf) λvK=>some (vK.1,vK.2)
def SU(n:Nat):CT:=cV (tW n [] [bZ n,bP n,bH n,Ec n,sC n,sw n]) (gy 236 [.s 8, .w, .i, .w, .b] [.t [.s 8, .i]]) (λx=>GC n x.1 x.2.1 x.2.2.1 x.2.2.2.1 x.2.2.2.2.1) u2 m2
def Cu(n:Nat)(a0:av)(a1:Int)(a2:Int)(a3:Int)(a4:Bool):Option (av×Int):=bd (GC n a0 a1 a2 a3 a4) λaW=>cn ((aW.2!=0)) (some (a0,aW.2)) (some (aW.1,0))
def SV(n:Nat):CT:=cV (tW n [] [SU n]) (gy 205 [.s 8, .w, .i, .w, .b] [.t [.s 8, .i]]) (λx=>Cu n x.1 x.2.1 x.2.2.1 x.2.2.2.1 x.2.2.2.2.1) u2 m2
def AE(n:Nat)(a0:av)(a1:Int)(a2:Int):Option (Int×Int):=tr (uX n a0 a1 a2) (λqG=>(0,qG)) λaW=>gu (bM a2 8)<|tc ((aW.bC (Int.toNat a2))!=0) (0,10)<|bd (aU n a0.bj.og (aW.bC (Int.toNat a2))) λdL=>tc dL (0,4)<|some ((aW.bC (Int.toNat a2)),0)
def Oy(n:Nat):CT:=cV (tW n [] [bZ n,bP n,Ec n,bH n]) (gy 206 [.s 8, .w, .i] [.t [.w, .i]]) (a3 (AE n)) u2 m2
def uR(n:Nat):Option bw:=lt ({ef with cH:=(dy ef.cH 0 true)}:bw) λaW=>lt ({aW with nE:=(dy aW.nE 0 true)}:bw) λiH=>some iH
def Eb(n:Nat):CT:=cV (tW n [] []) (gy 5 [] [.s 17]) (λx=>uR n) u1 m1
def Ee(n:Nat)(a0:bU):Option bU:=some a0
def JI(n:Nat):CT:=cV (tW n [] []) ⟨120,[], .cons (.v (.st 16)) .nil, .cons (.fn (.func 130) .nil (.cons (.box 61 (.v (.st 16))) .nil)) .nil,[none], .nil,[],[]⟩ (a1 (Ee n)) u1 m1
def zf(n:Nat)(a0:(List aX)):Option (List aX):=some a0
def xe(n:Nat)(a0:(List aX)):Option (List aX):=gu ((a0.length:Int)==(a0.length:Int))<|gu ((a0.length:Int)==(a0.length:Int))<|some a0
theorem EX(n:Nat)(a0:(List aX)):xe n a0=zf n a0:=VP.trans VP
def Et(n:Nat):CT:=cV (tW n [] []) (gy 121 [.v (.sl (.st 15))] [.v (.sl (.st 15))]) (a1 (zf n)) u1 m1 (hW:=λx=>Eq.trans (b:=xe n x.1) (by kernel_rfl) (EX ..))
def rQ(n:Nat)(a0:bU)(a1:Int):Option Int:=some (Int.tmod (wr .i64 (a0.iS+a1)) 4)
def yJ(n:Nat):CT:=cV (tW n [] []) (gy 131 [.s 16, .i] [.i]) (a2 (rQ n)) u1 m1
def ru(n:Nat)(a1:bU):Option (List aX):=eU (λk35 (eC:Int)=>cn (decide (eC<a1.n)) (bd (rQ n a1 eC) λl7=>gu (bM l7 4)<|yl (a1.ring (Int.toNat l7))<|k35 (wr .i64 (eC+1))) (some [])) n 0
def Gk(n:Nat):It Tryz.prog sg:=mkI (tX n [(3, .loop [(.slot 6,(.v (.int .i64)))])] [yJ n] [] []) 3000 130 (.cons (.box 61 (.v (.st 16))) .nil) (.cons (.v (.st 15)) .nil) (.st (G:=sg) (i:=15) (λ(x:aX)=>dI.enc iE x) (λJ cs x=>bW.iff (L:=iE)) .nil) (B:=aX) (λy=>(y,())) (λx=>(x.1)) (λx=>ru n x.1) (λ_ =>rfl) (by kernel_rfl) (λx=>by kernel_rfl)
def sS(n:Nat)(a0:bU):Option (List aX):=bd (Ee n a0) λaW=>bd (ru n aW) λgG=>tQ (λ(Ui:aX) k31 (fL:(List aX))=>lt (Ui:aX) λg8=>gu (gO fL.length 1 24)<|lt (fL++([g8]):List aX) λqz=>k31 qz) (λ(fL:(List aX))=>some fL) gG ([]:List aX)
def BY(n:Nat):CT:=cV (tX n [(7, .loop [(.via 3, .box 218 (.row 58 4 (.st 15)))])] [JI n,Et n] [] [Gk n]) (gy 89 [.s 16] [.v (.sl (.st 15))]) (a1 (sS n)) u1 m1
def vD(n:Nat)(a0:bU):Option Bool:=some a0.closed
def FN(n:Nat):CT:=cV (tW n [] []) (gy 90 [.s 16] [.b]) (a1 (vD n)) u1 m1
def fC(n:Nat)(a0:aq)(a1:Int):Option aq:=bd (qv n a0.ax.aC.T a1) λgG=>cJ (λk51 (vK:Int) (o9:aq)=>cn (decide (vK<(gG.length:Int))) (gu (bM vK gG.length)<|bd (eF n o9.ax.aC.T (gG.getD (Int.toNat vK) default)) λA3=>gu (gO o9.gX.length A3.1.E.aP.length 16)<|lt (o9.gX++A3.1.E.aP:List aB) λNk=>bd (l8 n (({o9 with gX:=Nk}).ax.aC.K) (gG.getD (Int.toNat vK) default)) λJD=>k51 (wr .i64 (vK+1)) ({({o9 with gX:=Nk})with ax:={({o9 with gX:=Nk}).ax with aC:={(({o9 with gX:=Nk}).ax).aC with K:=JD}}})) (bd (yB n o9.ax.aC.T a1) λKF=>some ({o9 with ax:={o9.ax with aC:={o9.ax.aC with T:=KF.1}}}))) n 0 a0
def qD(n:Nat):CT:=cV (tX n [(3, .loop [(.slot 17,(.v (.int .i64))),(.via 0,eV)])] [xb n,ij n,BQ n,MX n] [(1,vw0)] []) ⟨191,[], .cons eV (.cons (.v (.int .u32)) .nil), .cons (.sE .nil) (.cons eV .nil),[some 0,none], .nil,[],[[0]]⟩ (λx=>fC n (g7 x) x.2.2.2.2.2.2.2.1) (λy=>g7 y) (λz=>(h7 z ()))
def dN(n:Nat)(a0:Int):Option (Except Int Unit):=tc (a0==0) (.error a0)<|some (.ok ())
def eG(n:Nat):CT:=cT (tW n [] [bZ n,bP n]) 180 [.i] [.sE .nil] 118 (a1 (dN n)) (λ_ =>()) (λ_ =>())
def jO(n:Nat)(a0:aq)(a1:Int)(a2:Int):Option (Except Int aq):=bd (uo n a0.ax.aC.O a0.ax.aC.T a1 a2) λgG=>tr (dN n gG.2.2) (λPI=>(.error PI)) λiH=>cn ((gG.2.1==0)) (bd (fC n ({a0 with ax:={a0.ax with aC:={a0.ax.aC with O:=gG.1}}}) a1) λfL=>some (.ok fL)) (some (.ok ({a0 with ax:={a0.ax with aC:={a0.ax.aC with O:=gG.1}}})))
def uI(n:Nat):CT:=cX (tW n [] [bZ n,bP n,JH n,eG n,qD n]) ⟨198,[], .cons eV (.cons (.v (.int .u32)) (.cons (.v (.int .i64)) .nil)), .cons (.sE .nil) (.cons eV .nil),[some 0,none],(.cons (.om 118 (.v (.int .i64))) .nil),[],[[0]]⟩ (λx=>jO n (g7 x) x.2.2.2.2.2.2.2.1 x.2.2.2.2.2.2.2.2.1) (λy=>g7 y) (λz=>(h7 z ())) u1 m1
def eH(n:Nat)(a0:aq)(a1:Int)(a2:Int):Option (Except Int aq):=bd (oR n a0.ax.aC.O a0.ax.aC.T a1 a2) λgG=>tr (dN n gG.2) (λPI=>(.error PI)) λiH=>some (.ok ({a0 with ax:={a0.ax with aC:={a0.ax.aC with O:=gG.1}}}))
def nM(n:Nat):CT:=cX (tW n [] [bZ n,bP n,JG n,eG n]) ⟨181,[], .cons eV (.cons (.v (.int .u32)) (.cons (.v (.int .i64)) .nil)), .cons (.sE .nil) (.cons eV .nil),[some 0,none],(.cons (.om 118 (.v (.int .i64))) .nil),[],[[0]]⟩ (λx=>eH n (g7 x) x.2.2.2.2.2.2.2.1 x.2.2.2.2.2.2.2.2.1) (λy=>g7 y) (λz=>(h7 z ())) u1 m1
def sR(n:Nat)(a0:bU):Option (bU×(List aX)):=lt ({ring:=(λ_ =>fU),iS:=0,n:=0,closed:=true}:bU) λaW=>bd (sS n a0) λbS=>some (aW,bS)
def Hw(n:Nat):CT:=cV (tW n [] [BY n]) (gy 207 [.s 16] [.t [.s 16, .v (.sl (.st 15))]]) (a1 (sR n)) u2 m2
def nh(n:Nat)(a0:aq)(a1:Int):Option (Except Int aq):=gu (bM a1 8)<|bd (sR n (a0.ax.fQ (Int.toNat a1))) λbS=>gu (bM a1 8)<|gu (bM a1 8)<|cJ (λk58 (yH:Int) (uA:aq)=>cn (decide (yH<(bS.2.length:Int))) (gu (bM yH bS.2.length)<|lt ((bS.2.getD (Int.toNat yH) default):aX) λEn=>cn (((En.Region==0)||En.iz)) (k58 (wr .i64 (yH+1)) uA) (gu (bM En.mA 8)<|cn ((uA.ax.cH (Int.toNat En.mA))) (tr (eH n uA En.Region (wr .i64 En.mA)) (λaiu=>(.error aiu)) λQq=>k58 (wr .i64 (yH+1)) Qq) (bd (fC n uA En.Region) λJD=>k58 (wr .i64 (yH+1)) JD))) (bd (oK n uA.ax.aC.K a1) λKh=>cJ (λahM (KI:Int) (Hh:aq)=>cn (decide (KI<(Kh.length:Int))) (gu (bM KI Kh.length)<|bd (eZ n Hh.ax.aC.K (Kh.getD (Int.toNat KI) default)) λagt=>ahM (wr .i64 (KI+1)) ({Hh with ax:={Hh.ax with aC:={Hh.ax.aC with K:=agt.1}}})) (bd (pQ n Hh.ax.aC.O Hh.ax.aC.T a1) λEp=>cJ (λahK (Oj:Int) (Eo:aq)=>cn (decide (Oj<(Ep.length:Int))) (gu (bM Oj Ep.length)<|bd (fC n Eo (Ep.getD (Int.toNat Oj) default)) λagn=>ahK (wr .i64 (Oj+1)) agn) (bd (qN n Eo.ax.aC.O Eo.ax.aC.T a1) λSI=>cJ (λahI (Og:Int) (YG:aq)=>cn (decide (Og<(SI.length:Int))) (gu (bM Og SI.length)<|tr (jO n YG (SI.getD (Int.toNat Og) default) a1) (λabE=>(.error abE)) λagl=>ahI (wr .i64 (Og+1)) agl) (some (.ok YG))) n 0 Eo)) n 0 Hh)) n 0 uA)) n 0 ({({a0 with ax:={a0.ax with fQ:=(dy a0.ax.fQ (Int.toNat a1) bS.1)}})with ax:={({a0 with ax:={a0.ax with fQ:=(dy a0.ax.fQ (Int.toNat a1) bS.1)}}).ax with cH:=(dy ((({a0 with ax:={a0.ax with fQ:=(dy a0.ax.fQ (Int.toNat a1) bS.1)}}).ax).cH) (Int.toNat a1) false)}})
def vW(n:Nat):CT:=cX (tX n [(9, .loop [(.slot 40,(.v (.int .i64))),(.via 0,eV)]),(25, .loop [(.slot 82,(.v (.int .i64))),(.via 0,eV)]),(35, .loop [(.slot 119,(.v (.int .i64))),(.via 0,eV)]),(45, .loop [(.slot 142,(.v (.int .i64))),(.via 0,eV)])] [bZ n,bP n,Hw n,nM n,qD n,FB n,tA n,Hv n,JF n,uI n] [(4,vw0),(12,vw0),(17,vw0),(22,vw0)] []) ⟨155,[], .cons eV (.cons (.v (.int .i64)) .nil), .cons (.sE .nil) (.cons eV .nil),[some 0,none],(.cons (.om 118 (.v (.int .i64))) .nil),[],[[0]]⟩ (λx=>nh n (g7 x) x.2.2.2.2.2.2.2.1) (λy=>g7 y) (λz=>(h7 z ())) u1 m1
def cF(n:Nat)(a0:aq)(a1:Int)(a2:Int):Option (Except Int Unit):=bd (s6 n a0.ax.aC a0.aE a1 a2) λgG=>tr (dN n gG) (λPI=>(.error PI)) λiH=>some (.ok ())
def dV(n:Nat):CT:=cX (tW n [] [bZ n,bP n,HA n,eG n]) ⟨178,[(137, .st (.part 952 (.v (.st 17)) (.part 1 (.v (.int .i64)) (.part 6 (.v (.st 0)) (.part 2 (.v (.st 5)) (.part 1 (.v (.int .i64)) (.part 1 (.v .bool) (.part 1 (.row 115 2 (.st 5)) .nil))))))))], .cons (.cW 0) (.cons (.v (.int .u32)) (.cons (.v (.int .u8)) .nil)), .cons (.sE .nil) .nil,[],(.cons (.om 118 (.v (.int .i64))) .nil),[],[]⟩ (λx=>cF n (g7 x) x.2.2.2.2.2.2.2.1 x.2.2.2.2.2.2.2.2.1) (λ_ =>()) (λ_ =>()) u1 m1
def lV(n:Nat)(a0:aq):Option (Except Int (aA×aq)):=lt (λ(u21:Unit)=>bd (xH n a0.ax.aC.T a0.c.R (wr .i64 (if 65<a0.c.A then 65 else a0.c.A))) λfR=>tr (dN n fR.2.2) (λaiw=>(.error aiw)) λg8=>cn (((({a0 with ax:={a0.ax with aC:={a0.ax.aC with T:=fR.1}}}).c.R)==0)) (tr (eH n ({a0 with ax:={a0.ax with aC:={a0.ax.aC with T:=fR.1}}}) fR.2.1 (({a0 with ax:={a0.ax with aC:={a0.ax.aC with T:=fR.1}}}).aE)) (λUe=>(.error Ue)) λqf=>lt ({E:=0,V:=0,W:=fR.2.1}:aA) λuA=>some (.ok (uA,qf))) (lt ({E:=0,V:=0,W:=fR.2.1}:aA) λzK=>some (.ok (zK,{a0 with ax:={a0.ax with aC:={a0.ax.aC with T:=fR.1}}})))) λSw=>cn ((a0.c.R !=0)) (tr (cF n a0 a0.c.R 1) (λIe=>(.error Ie)) λgG=>Sw ()) (Sw ())
def w5(n:Nat):CT:=cX (tW n [(6, .join [(.via 0,eV)] [])] [bZ n,bP n,dV n,Ow n,eG n,nM n]) ⟨157,[], .cons eV .nil, .cons (.v (.st 33)) (.cons eV .nil),[some 0,none],(.cons (.om 118 (.v (.int .i64))) .nil),[],[[0]]⟩ (λx=>lV n (g7 x)) (λy=>(y.1,g7 y.2)) (λz=>(z.1,(h7 z.2 ()))) u1 m1
def fb(n:Nat)(a0:aq)(a1:Int):Option (Except Int aS):=bd (eF n a0.ax.aC.T a1) λgG=>tr (dN n gG.2) (λUf=>(.error Uf)) λgF=>some (.ok gG.1)
def mE(n:Nat):CT:=cX (tW n [] [bZ n,bP n,ij n,eG n]) ⟨183,[(137, .st (.part 952 (.v (.st 17)) (.part 1 (.v (.int .i64)) (.part 6 (.v (.st 0)) (.part 2 (.v (.st 5)) (.part 1 (.v (.int .i64)) (.part 1 (.v .bool) (.part 1 (.row 115 2 (.st 5)) .nil))))))))], .cons (.cW 0) (.cons (.v (.int .u32)) .nil), .cons (.v (.st 7)) .nil,[],(.cons (.om 118 (.v (.int .i64))) .nil),[],[]⟩ (λx=>fb n (g7 x) x.2.2.2.2.2.2.2.1) u1 m1 u1 m1
def lT(n:Nat)(a0:aq)(a1:Int)(a2:aS):Option (Except Int aq):=bd (gP n a0.ax.aC.T a1 a2) λgG=>tr (dN n gG.2) (λUf=>(.error Uf)) λgF=>some (.ok ({a0 with ax:={a0.ax with aC:={a0.ax.aC with T:=gG.1}}}))
def wY(n:Nat):CT:=cX (tW n [] [bZ n,bP n,sw n,eG n]) ⟨188,[], .cons eV (.cons (.v (.int .u32)) (.cons (.v (.st 7)) .nil)), .cons (.sE .nil) (.cons eV .nil),[some 0,none],(.cons (.om 118 (.v (.int .i64))) .nil),[],[[0]]⟩ (λx=>lT n (g7 x) x.2.2.2.2.2.2.2.1 x.2.2.2.2.2.2.2.2.1) (λy=>g7 y) (λz=>(h7 z ())) u1 m1
def fO(n:Nat)(a0:aq):Option (Except Int (aA×aq)):=bd (wE n (wr .i64 (if 129<a0.c.A then 129 else a0.c.A)) (wr .i64 (if 9<a0.c.B then 9 else a0.c.B))) λaW=>tc aW.2 (.error 2)<|tr (cF n a0 a0.c.R 1) (λIe=>(.error Ie)) λgG=>tr (fb n a0 a0.c.R) (λPI=>(.error PI)) λiH=>lt (λ(l7:aS) (qf:aq)=>bd (nu n l7.E (wr .i64 (if 129<a0.c.A then 129 else a0.c.A)) (wr .i64 (if 9<a0.c.B then 9 else a0.c.B))) λMN=>lt ({l7 with E:=MN.1}:aS) λUP=>tr (lT n qf qf.c.R UP) (λait=>(.error ait)) λx88=>lt ({E:=0,V:=wr .u64 MN.2.1,W:=0}:aA) λSH=>some (.ok (SH,x88))) λj45=>bd (my n iH.E (wr .i64 (if 129<a0.c.A then 129 else a0.c.A)) (wr .i64 (if 9<a0.c.B then 9 else a0.c.B))) λBO=>cn ((!BO.2)) (bd (fe n iH.E) λYF=>tc (decide ((wr .i64 (YF+aW.1))<=iH.cu)) (.error 6)<|cn (({a0 with pS:=aW.1}).GJ) (lt ({E:=0,V:=0,W:=0}:aA) λWH=>some (.ok (WH,{a0 with pS:=aW.1}))) (bd (jS n iH.E (({a0 with pS:=aW.1}).run)) λEn=>lt ({iH with E:=En}:aS) λNk=>cl (((({a0 with pS:=aW.1}).run.N)==aW.1)==true) (kP n Nk.E) default λx72=>tc (((({a0 with pS:=aW.1}).run.N)==aW.1)&&x72) (.error 2)<|j45 Nk ({a0 with pS:=aW.1}))) (j45 iH a0)
def uL(n:Nat):CT:=cX (tW n [(28, .join [(.via 7, .box 38 (.v (.st 7))),(.via 0,eV),(.via 2, .box 120 (.v (.st 33)))] [])] [bZ n,bP n,KV n,dV n,mE n,uM n,mF n,BZ n,vZ n,DB n,wY n]) ⟨158,[], .cons eV .nil, .cons (.v (.st 33)) (.cons eV .nil),[some 0,none],(.cons (.om 118 (.v (.int .i64))) .nil),[],[[0]]⟩ (λx=>fO n (g7 x)) (λy=>(y.1,g7 y.2)) (λz=>(z.1,(h7 z.2 ()))) u1 m1
def rP(n:Nat)(a0:aS)(a1:aV):Option (Except Int Unit):=tc (decide ((wr .i64 a1.A)<=(wr .i64 (a0.E.lu-(wr .i64 a1.B))))) (.error 9)<|some (.ok ())
def Ea(n:Nat):CT:=cT (tW n [] [bZ n,bP n]) 190 [.s 7, .s 0] [.sE .nil] 118 (a2 (rP n)) (λ_ =>()) (λ_ =>())
def rO(n:Nat)(a0:aV):Option (Except Int Unit):=tc (decide (1<=a0.B)&&decide (a0.B<=8)) (.error 2)<|some (.ok ())
def D9(n:Nat):CT:=cT (tW n [] [bZ n,bP n]) 189 [.s 0] [.sE .nil] 118 (a1 (rO n)) (λ_ =>()) (λ_ =>())
def ng(n:Nat)(a0:aq):Option (Except Int aA):=tr (rO n a0.c) (λqG=>(.error qG)) λaW=>tr (cF n a0 a0.c.R 0) (λAz=>(.error Az)) λbS=>tr (fb n a0 a0.c.R) (λIe=>(.error Ie)) λgG=>tr (rP n gG a0.c) (λabD=>(.error abD)) λeE=>lt ({E:=0,V:=0,W:=0}:aA) λgF=>some (.ok gF)
def vR(n:Nat):CT:=cX (tW n [] [bZ n,bP n,D9 n,dV n,mE n,Ea n]) ⟨159,[(137, .st (.part 952 (.v (.st 17)) (.part 1 (.v (.int .i64)) (.part 6 (.v (.st 0)) (.part 2 (.v (.st 5)) (.part 1 (.v (.int .i64)) (.part 1 (.v .bool) (.part 1 (.row 115 2 (.st 5)) .nil))))))))], .cons (.cW 0) .nil, .cons (.v (.st 33)) .nil,[],(.cons (.om 118 (.v (.int .i64))) .nil),[],[]⟩ (λx=>ng n (g7 x)) u1 m1 u1 m1
def mm(n:Nat)(a0:aq):Option (Except Int aA):=tr (rO n a0.c) (λqG=>(.error qG)) λaW=>tr (cF n a0 a0.c.R 1) (λAz=>(.error Az)) λbS=>tr (fb n a0 a0.c.R) (λIe=>(.error Ie)) λgG=>tr (rP n gG a0.c) (λabD=>(.error abD)) λeE=>lt ({E:=0,V:=0,W:=0}:aA) λgF=>some (.ok gF)
def uD(n:Nat):CT:=cX (tW n [] [bZ n,bP n,D9 n,dV n,mE n,Ea n]) ⟨160,[(137, .st (.part 952 (.v (.st 17)) (.part 1 (.v (.int .i64)) (.part 6 (.v (.st 0)) (.part 2 (.v (.st 5)) (.part 1 (.v (.int .i64)) (.part 1 (.v .bool) (.part 1 (.row 115 2 (.st 5)) .nil))))))))], .cons (.cW 0) .nil, .cons (.v (.st 33)) .nil,[],(.cons (.om 118 (.v (.int .i64))) .nil),[],[]⟩ (λx=>mm n (g7 x)) u1 m1 u1 m1
def jM(n:Nat)(a0:aq):Option (Except Int (aA×aq)):=tr (cF n a0 a0.c.R 1) (λqG=>(.error qG)) λaW=>tr (fb n a0 a0.c.R) (λAz=>(.error Az)) λbS=>gu (gO a0.gX.length bS.E.aP.length 16)<|lt (a0.gX++bS.E.aP:List aB) λg8=>lt ({Up:=0,cu:=bS.cu,E:=dJ,bC:=(λ_ =>0)}:aS) λgR=>tr (lT n ({a0 with gX:=g8}) (({a0 with gX:=g8}).c.R) gR) (λaoI=>(.error aoI)) λxY=>lt ({E:=0,V:=0,W:=0}:aA) λA3=>some (.ok (A3,xY))
def uG(n:Nat):CT:=cX (tW n [] [bZ n,bP n,dV n,mE n,wY n]) ⟨161,[], .cons eV .nil, .cons (.v (.st 33)) (.cons eV .nil),[some 0,none],(.cons (.om 118 (.v (.int .i64))) .nil),[],[[0]]⟩ (λx=>jM n (g7 x)) (λy=>(y.1,g7 y.2)) (λz=>(z.1,(h7 z.2 ()))) u1 m1
def jk(n:Nat)(a0:aq):Option (Except Int (aA×aq)):=tr (cF n a0 a0.c.R 2) (λqG=>(.error qG)) λaW=>bd (fC n a0 a0.c.R) λbS=>lt ({E:=0,V:=0,W:=0}:aA) λq9=>some (.ok (q9,bS))
def tD(n:Nat):CT:=cX (tW n [] [bZ n,bP n,dV n,qD n]) ⟨162,[], .cons eV .nil, .cons (.v (.st 33)) (.cons eV .nil),[some 0,none],(.cons (.om 118 (.v (.int .i64))) .nil),[],[[0]]⟩ (λx=>jk n (g7 x)) (λy=>(y.1,g7 y.2)) (λz=>(z.1,(h7 z.2 ()))) u1 m1
def ja(n:Nat)(a0:aq)(a1:Int):Option (Except Int aq):=bd (tV n a0.ax.aC.T a1) λgG=>tr (dN n gG.2) (λUf=>(.error Uf)) λgF=>some (.ok ({a0 with ax:={a0.ax with aC:={a0.ax.aC with T:=gG.1}}}))
def qC(n:Nat):CT:=cX (tW n [] [bZ n,bP n,Ox n,eG n]) ⟨192,[], .cons eV (.cons (.v (.int .u32)) .nil), .cons (.sE .nil) (.cons eV .nil),[some 0,none],(.cons (.om 118 (.v (.int .i64))) .nil),[],[[0]]⟩ (λx=>ja n (g7 x) x.2.2.2.2.2.2.2.1) (λy=>g7 y) (λz=>(h7 z ())) u1 m1
def lW(n:Nat)(a0:aq):Option (Except Int (aA×aq)):=tr (cF n a0 a0.c.R 2) (λqG=>(.error qG)) λaW=>bd (ju n a0.ax.aC.T a0.c.R) λiH=>tc (iH !=a0.c.R) (.error 12)<|tr (ja n a0 a0.c.R) (λaix=>(.error aix)) λfR=>tr (eH n fR fR.c.R fR.aE) (λaoL=>(.error aoL)) λiU=>lt ({E:=0,V:=0,W:=0}:aA) λBO=>some (.ok (BO,iU))
def w6(n:Nat):CT:=cX (tW n [] [bZ n,bP n,dV n,lJ n,qC n,nM n]) ⟨163,[], .cons eV .nil, .cons (.v (.st 33)) (.cons eV .nil),[some 0,none],(.cons (.om 118 (.v (.int .i64))) .nil),[],[[0]]⟩ (λx=>lW n (g7 x)) (λy=>(y.1,g7 y.2)) (λz=>(z.1,(h7 z.2 ()))) u1 m1
def jN(n:Nat)(a0:aq):Option (Except Int (aA×aq)):=tr (cF n a0 a0.c.R 2) (λqG=>(.error qG)) λaW=>tr (cF n a0 a0.c.S 1) (λAz=>(.error Az)) λbS=>bd (wD n a0.ax.aC.T a0.c.R a0.c.S) λfI=>tr (dN n fI.2) (λaoM=>(.error aoM)) λeD=>lt ({E:=0,V:=0,W:=0}:aA) λqz=>some (.ok (qz,{a0 with ax:={a0.ax with aC:={a0.ax.aC with T:=fI.1}}}))
def uH(n:Nat):CT:=cX (tW n [] [bZ n,bP n,dV n,KT n,eG n]) ⟨164,[], .cons eV .nil, .cons (.v (.st 33)) (.cons eV .nil),[some 0,none],(.cons (.om 118 (.v (.int .i64))) .nil),[],[[0]]⟩ (λx=>jN n (g7 x)) (λy=>(y.1,g7 y.2)) (λz=>(z.1,(h7 z.2 ()))) u1 m1
def jj(n:Nat)(a0:aq):Option (Except Int (aA×aq)):=tr (cF n a0 a0.c.R 2) (λqG=>(.error qG)) λaW=>tr (ja n a0 a0.c.R) (λAz=>(.error Az)) λbS=>bd (rq n bS.ax.aC.O bS.ax.aC.T bS.c.R bS.aE) λg8=>tr (dN n g8.2) (λabC=>(.error abC)) λl7=>lt ({E:=0,V:=0,W:=0}:aA) λl6=>some (.ok (l6,{bS with ax:={bS.ax with aC:={bS.ax.aC with O:=g8.1}}}))
def tC(n:Nat):CT:=cX (tW n [] [bZ n,bP n,dV n,qC n,FM n,eG n]) ⟨165,[], .cons eV .nil, .cons (.v (.st 33)) (.cons eV .nil),[some 0,none],(.cons (.om 118 (.v (.int .i64))) .nil),[],[[0]]⟩ (λx=>jj n (g7 x)) (λy=>(y.1,g7 y.2)) (λz=>(z.1,(h7 z.2 ()))) u1 m1
def iK(n:Nat)(a0:aq)(a1:Int):Option (Except Int Unit):=bd (aU n a0.ax.aC.T.bj.og a1) λaW=>tc aW (.error 4)<|bd (iP n a0.ax.aC.O a0.ax.aC.T a1) λfI=>bd (ju n a0.ax.aC.T a1) λfL=>tc ((fL==a1)&&(fI.dx==3)) (.error 12)<|gu (decide (0<=a0.aE))<|tc ((lY .u8 (FW .u8 fI.dU a0.aE) 1)==1) (.error 5)<|some (.ok ())
def pH(n:Nat):CT:=cX (tW n [] [bZ n,bP n,bH n,lI n,lJ n]) ⟨196,[(137, .st (.part 952 (.v (.st 17)) (.part 1 (.v (.int .i64)) (.part 6 (.v (.st 0)) (.part 2 (.v (.st 5)) (.part 1 (.v (.int .i64)) (.part 1 (.v .bool) (.part 1 (.row 115 2 (.st 5)) .nil))))))))], .cons (.cW 0) (.cons (.v (.int .u32)) .nil), .cons (.sE .nil) .nil,[],(.cons (.om 118 (.v (.int .i64))) .nil),[],[]⟩ (λx=>iK n (g7 x) x.2.2.2.2.2.2.2.1) (λ_ =>()) (λ_ =>()) u1 m1
def iI(n:Nat)(a0:aq)(a1:Int):Option (Except Int Unit):=gu (!((decide (a1<8))==true)||bM a1 8)<|tc (decide (a1<8)&&(a0.ax.cH (Int.toNat a1))) (.error 2)<|some (.ok ())
def mV(n:Nat):CT:=cX (tW n [] [bZ n,bP n]) ⟨195,[(137, .st (.part 952 (.v (.st 17)) (.part 1 (.v (.int .i64)) (.part 6 (.v (.st 0)) (.part 2 (.v (.st 5)) (.part 1 (.v (.int .i64)) (.part 1 (.v .bool) (.part 1 (.row 115 2 (.st 5)) .nil))))))))], .cons (.cW 0) (.cons (.v (.int .u32)) .nil), .cons (.sE .nil) .nil,[],(.cons (.om 118 (.v (.int .i64))) .nil),[],[]⟩ (λx=>iI n (g7 x) x.2.2.2.2.2.2.2.1) (λ_ =>()) (λ_ =>()) u1 m1
def jL(n:Nat)(a0:aq):Option (Except Int (aA×aq)):=tr (iI n a0 a0.c.A) (λqG=>(.error qG)) λaW=>tr (iK n a0 a0.c.R) (λAz=>(.error Az)) λbS=>bd (qM n a0.ax.aC.O a0.ax.aC.T a0.c.R (wr .i64 a0.c.A)) λfI=>tr (dN n fI.2) (λaix=>(.error aix)) λfR=>lt ({E:=0,V:=0,W:=0}:aA) λdL=>some (.ok (dL,{a0 with ax:={a0.ax with aC:={a0.ax.aC with O:=fI.1}}}))
def uF(n:Nat):CT:=cX (tW n [] [bZ n,bP n,mV n,pH n,A7 n,eG n]) ⟨166,[], .cons eV .nil, .cons (.v (.st 33)) (.cons eV .nil),[some 0,none],(.cons (.om 118 (.v (.int .i64))) .nil),[],[[0]]⟩ (λx=>jL n (g7 x)) (λy=>(y.1,g7 y.2)) (λz=>(z.1,(h7 z.2 ()))) u1 m1
def kO(n:Nat)(a0:aq):Option (Except Int (aA×aq)):=tr (iK n a0 a0.c.R) (λqG=>(.error qG)) λaW=>tr (jO n a0 a0.c.R a0.aE) (λAz=>(.error Az)) λbS=>lt ({E:=0,V:=0,W:=0}:aA) λq9=>some (.ok (q9,bS))
def vV(n:Nat):CT:=cX (tW n [] [bZ n,bP n,pH n,uI n]) ⟨167,[], .cons eV .nil, .cons (.v (.st 33)) (.cons eV .nil),[some 0,none],(.cons (.om 118 (.v (.int .i64))) .nil),[],[[0]]⟩ (λx=>kO n (g7 x)) (λy=>(y.1,g7 y.2)) (λz=>(z.1,(h7 z.2 ()))) u1 m1
def kL(n:Nat)(a0:aq):Option (Except Int (aA×aq)):=tr (iI n a0 a0.c.A) (λqG=>(.error qG)) λaW=>tc (decide (a0.c.B<=1)) (.error 2)<|bd (aU n a0.ax.aC.T.bj.og a0.c.R) λgG=>tc gG (.error 4)<|lt (λ(u25:Unit)=>lt ({Region:=a0.c.R,By:=wr .u8 a0.aE,To:=wr .u8 a0.c.A,bF:=(a0.c.B==1),bh:=a0.c.S}:bE) λeD=>bd (kF n a0.ax.aC.K eD) λg8=>tr (dN n g8.2.2) (λabC=>(.error abC)) λl7=>lt ({E:=0,V:=0,W:=g8.2.1}:aA) λl6=>some (.ok (l6,{a0 with ax:={a0.ax with aC:={a0.ax.aC with K:=g8.1}}}))) λj26=>cn ((a0.c.S==0)) (bd (iP n a0.ax.aC.O a0.ax.aC.T a0.c.R) λiM=>tc ((iM.dx==1)&&((wr .i64 iM.gj)==a0.aE)) (.error 5)<|j26 ()) (bd (dw n a0.ax.aC.K a0.c.S) λeE=>tr (dN n eE.2) (λUf=>(.error Uf)) λgF=>tc (((wr .i64 eE.1.To)==a0.aE)&&(eE.1.Region==a0.c.R)) (.error 5)<|j26 ())
def vS(n:Nat):CT:=cX (tW n [(20, .join [] [])] [bZ n,bP n,mV n,bH n,lI n,gH n,eG n,Dp n]) ⟨168,[], .cons eV .nil, .cons (.v (.st 33)) (.cons eV .nil),[some 0,none],(.cons (.om 118 (.v (.int .i64))) .nil),[],[[0]]⟩ (λx=>kL n (g7 x)) (λy=>(y.1,g7 y.2)) (λz=>(z.1,(h7 z.2 ()))) u1 m1
def iA(n:Nat)(a0:aq):Option (Except Int (aA×aq)):=bd (dw n a0.ax.aC.K a0.c.S) λaW=>tr (dN n aW.2) (λAz=>(.error Az)) λbS=>tc ((wr .i64 aW.1.To)==a0.aE) (.error 5)<|bd (eZ n a0.ax.aC.K a0.c.S) λiH=>lt ({E:=0,V:=0,W:=0}:aA) λeD=>some (.ok (eD,{a0 with ax:={a0.ax with aC:={a0.ax.aC with K:=iH.1}}}))
def rJ(n:Nat):CT:=cX (tW n [] [bZ n,bP n,gH n,eG n,tA n]) ⟨169,[], .cons eV .nil, .cons (.v (.st 33)) (.cons eV .nil),[some 0,none],(.cons (.om 118 (.v (.int .i64))) .nil),[],[[0]]⟩ (λx=>iA n (g7 x)) (λy=>(y.1,g7 y.2)) (λz=>(z.1,(h7 z.2 ()))) u1 m1
def sQ(n:Nat)(a0:bU)(a1:aX):Option (bU×Int):=cn (a0.closed) (some (a0,11)) (cn ((a0.n==4)) (some (a0,7)) (bd (rQ n a0 a0.n) λaW=>gu (bM aW 4)<|lt ({a0 with ring:=(dy a0.ring (Int.toNat aW) a1)}:bU) λgG=>lt ({gG with n:=wr .i64 (gG.n+1)}:bU) λiH=>some (iH,0)))
def KS(n:Nat):CT:=cV (tW n [] [yJ n]) (gy 202 [.s 16, .s 15] [.t [.s 16, .i]]) (a2 (sQ n)) u2 m2
def kK(n:Nat)(a0:aq):Option (Except Int (aA×aq)):=tr (iI n a0 a0.c.A) (λqG=>(.error qG)) λaW=>tc (decide (a0.c.B<=1)) (.error 2)<|lt ({mA:=wr .u8 a0.aE,u7:=a0.c.V,Region:=a0.c.R,iz:=((a0.c.R !=0)&&(a0.c.B==1))}:aX) λgG=>lt (λ(fR:aq)=>gu (bM fR.c.A 8)<|bd (sQ n (fR.ax.fQ (Int.toNat fR.c.A)) gG) λEn=>tr (dN n En.2) (λaiv=>(.error aiv)) λx61=>gu (bM fR.c.A 8)<|lt ({E:=0,V:=0,W:=0}:aA) λSm=>some (.ok (Sm,{fR with ax:={fR.ax with fQ:=(dy fR.ax.fQ (Int.toNat fR.c.A) En.1)}}))) λj32=>cn (gG.iz) (tr (iK n a0 a0.c.R) (λaoN=>(.error aoN)) λq9=>bd (qM n a0.ax.aC.O a0.ax.aC.T a0.c.R (wr .i64 a0.c.A)) λl7=>cn ((l7.2==0)) (j32 ({a0 with ax:={a0.ax with aC:={a0.ax.aC with O:=l7.1}}})) (j32 a0)) (cn ((a0.c.R !=0)) (tr (cF n a0 a0.c.R 2) (λaoK=>(.error aoK)) λl6=>tr (ja n a0 a0.c.R) (λaoJ=>(.error aoJ)) λgR=>bd (wB n gR.ax.aC.O gR.ax.aC.T gR.c.R) λD5=>tr (dN n D5.2) (λaoH=>(.error aoH)) λA3=>j32 ({gR with ax:={gR.ax with aC:={gR.ax.aC with O:=D5.1}}})) (j32 a0))
def vP(n:Nat):CT:=cX (tW n [(30, .join [(.via 0,eV)] [])] [bZ n,bP n,mV n,pH n,A7 n,dV n,qC n,KQ n,eG n,KS n]) ⟨170,[], .cons eV .nil, .cons (.v (.st 33)) (.cons eV .nil),[some 0,none],(.cons (.om 118 (.v (.int .i64))) .nil),[],[[0]]⟩ (λx=>kK n (g7 x)) (λy=>(y.1,g7 y.2)) (λz=>(z.1,(h7 z.2 ()))) u1 m1
def ux(n:Nat)(a0:bU):Option (bU×aX×Int):=cn (((a0.n==0)&&a0.closed)) (lt ({mA:=0,u7:=0,Region:=0,iz:=false}:aX) λaW=>some (a0,aW,11)) (cn ((a0.n==0)) (lt ({mA:=0,u7:=0,Region:=0,iz:=false}:aX) λbS=>some (a0,bS,10)) (gu (bM a0.iS 4)<|lt ((a0.ring (Int.toNat a0.iS)):aX) λiH=>bd (rQ n a0 1) λfI=>lt ({a0 with iS:=fI}:bU) λfR=>lt ({fR with n:=wr .i64 (a0.n-1)}:bU) λeC=>some (eC,iH,0)))
def JJ(n:Nat):CT:=cV (tW n [] [yJ n]) (gy 203 [.s 16] [.t [.s 16, .s 15, .i]]) (a1 (ux n)) u3 m3
def gq(n:Nat)(a0:aq):Option (Except Int (aA×aq)):=gu (bM a0.aE 8)<|bd (ux n (a0.ax.fQ (Int.toNat a0.aE))) λbS=>tr (dN n bS.2.2) (λIe=>(.error Ie)) λgG=>gu (bM a0.aE 8)<|cn (((bS.2.1.Region !=0)&&(!bS.2.1.iz))) (tr (eH n ({a0 with ax:={a0.ax with fQ:=(dy a0.ax.fQ (Int.toNat a0.aE) bS.1)}}) bS.2.1.Region (({a0 with ax:={a0.ax with fQ:=(dy a0.ax.fQ (Int.toNat a0.aE) bS.1)}}).aE)) (λaoO=>(.error aoO)) λfL=>lt ({E:=0,V:=bS.2.1.u7,W:=bS.2.1.Region}:aA) λqf=>some (.ok (qf,fL))) (lt ({E:=0,V:=bS.2.1.u7,W:=bS.2.1.Region}:aA) λgR=>some (.ok (gR,{a0 with ax:={a0.ax with fQ:=(dy a0.ax.fQ (Int.toNat a0.aE) bS.1)}})))
def vQ(n:Nat):CT:=cX (tW n [] [bZ n,bP n,JJ n,eG n,nM n]) ⟨171,[], .cons eV .nil, .cons (.v (.st 33)) (.cons eV .nil),[some 0,none],(.cons (.om 118 (.v (.int .i64))) .nil),[],[[0]]⟩ (λx=>gq n (g7 x)) (λy=>(y.1,g7 y.2)) (λz=>(z.1,(h7 z.2 ()))) u1 m1
def xD(n:Nat)(a0:bU):Option (bU×Int):=cn (a0.closed) (some (a0,11)) (lt ({a0 with closed:=true}:bU) λaW=>some (aW,0))
def Hx(n:Nat):CT:=cV (tW n [] []) (gy 204 [.s 16] [.t [.s 16, .i]]) (a1 (xD n)) u2 m2
def jQ(n:Nat)(a0:aq):Option (Except Int (aA×aq)):=gu (bM a0.aE 8)<|bd (xD n (a0.ax.fQ (Int.toNat a0.aE))) λbS=>tr (dN n bS.2) (λIe=>(.error Ie)) λgG=>gu (bM a0.aE 8)<|lt ({E:=0,V:=0,W:=0}:aA) λfL=>some (.ok (fL,{a0 with ax:={a0.ax with fQ:=(dy a0.ax.fQ (Int.toNat a0.aE) bS.1)}}))
def uK(n:Nat):CT:=cX (tW n [] [bZ n,bP n,Hx n,eG n]) ⟨172,[], .cons eV .nil, .cons (.v (.st 33)) (.cons eV .nil),[some 0,none],(.cons (.om 118 (.v (.int .i64))) .nil),[],[[0]]⟩ (λx=>jQ n (g7 x)) (λy=>(y.1,g7 y.2)) (λz=>(z.1,(h7 z.2 ()))) u1 m1
def lU(n:Nat)(a0:aq):Option (Except Int (aA×aq)):=tr (cF n a0 a0.c.R 1) (λqG=>(.error qG)) λaW=>lt (λ(u22:Unit)=>bd (iP n a0.ax.aC.O a0.ax.aC.T a0.c.S) λiM=>bd (Cu n a0.ax.aC.T a0.c.R (wr .i64 (if 8<a0.c.A then 8 else a0.c.A)) a0.c.S (iM.dx==3)) λdL=>tr (dN n dL.2) (λUe=>(.error Ue)) λqf=>lt ({E:=0,V:=0,W:=0}:aA) λo9=>some (.ok (o9,{a0 with ax:={a0.ax with aC:={a0.ax.aC with T:=dL.1}}}))) λj23=>cn ((a0.c.S !=0)) (tr (cF n a0 a0.c.S 0) (λPI=>(.error PI)) λiH=>j23 ()) (j23 ())
def wZ(n:Nat):CT:=cX (tW n [(8, .join [(.via 0,eV)] [])] [bZ n,bP n,dV n,lI n,SV n,eG n]) ⟨173,[], .cons eV .nil, .cons (.v (.st 33)) (.cons eV .nil),[some 0,none],(.cons (.om 118 (.v (.int .i64))) .nil),[],[[0]]⟩ (λx=>lU n (g7 x)) (λy=>(y.1,g7 y.2)) (λz=>(z.1,(h7 z.2 ()))) u1 m1
def jP(n:Nat)(a0:aq):Option (Except Int aA):=tr (cF n a0 a0.c.R 0) (λqG=>(.error qG)) λaW=>bd (AE n a0.ax.aC.T a0.c.R (wr .i64 (if 8<a0.c.A then 8 else a0.c.A))) λiH=>tr (dN n iH.2) (λaiy=>(.error aiy)) λfI=>lt ({E:=0,V:=0,W:=iH.1}:aA) λfR=>some (.ok fR)
def uJ(n:Nat):CT:=cX (tW n [] [bZ n,bP n,dV n,Oy n,eG n]) ⟨174,[(137, .st (.part 952 (.v (.st 17)) (.part 1 (.v (.int .i64)) (.part 6 (.v (.st 0)) (.part 2 (.v (.st 5)) (.part 1 (.v (.int .i64)) (.part 1 (.v .bool) (.part 1 (.row 115 2 (.st 5)) .nil))))))))], .cons (.cW 0) .nil, .cons (.v (.st 33)) .nil,[],(.cons (.om 118 (.v (.int .i64))) .nil),[],[]⟩ (λx=>jP n (g7 x)) u1 m1 u1 m1
def kN(n:Nat)(a0:aq):Option (Except Int (aA×aq)):=tr (nh n a0 a0.aE) (λqG=>(.error qG)) λaW=>lt ({E:=0,V:=0,W:=0}:aA) λgF=>some (.ok (gF,aW))
def vU(n:Nat):CT:=cX (tW n [] [bZ n,bP n,vW n]) ⟨175,[], .cons eV .nil, .cons (.v (.st 33)) (.cons eV .nil),[some 0,none],(.cons (.om 118 (.v (.int .i64))) .nil),[],[[0]]⟩ (λx=>kN n (g7 x)) (λy=>(y.1,g7 y.2)) (λz=>(z.1,(h7 z.2 ()))) u1 m1
def kM(n:Nat)(a0:aq):Option (Except Int (aA×aq)):=tr (iI n a0 a0.c.A) (λqG=>(.error qG)) λaW=>tr (nh n a0 (wr .i64 a0.c.A)) (λAz=>(.error Az)) λbS=>lt ({E:=0,V:=0,W:=0}:aA) λq9=>some (.ok (q9,bS))
def vT(n:Nat):CT:=cX (tW n [] [bZ n,bP n,mV n,vW n]) ⟨176,[], .cons eV .nil, .cons (.v (.st 33)) (.cons eV .nil),[some 0,none],(.cons (.om 118 (.v (.int .i64))) .nil),[],[[0]]⟩ (λx=>kM n (g7 x)) (λy=>(y.1,g7 y.2)) (λz=>(z.1,(h7 z.2 ()))) u1 m1
def jK(n:Nat)(a0:aq):Option (Except Int (aA×aq)):=gu (!((decide (a0.c.A<8))==true)||bM (Int.tmod a0.c.A 8) 8)<|tc (decide (a0.c.A<8)&&(!(a0.ax.nE (Int.toNat (Int.tmod a0.c.A 8))))) (.error 2)<|gu (bM a0.c.A 8)<|gu (bM a0.c.A 8)<|lt ({E:=0,V:=0,W:=0}:aA) λeE=>some (.ok (eE,{({a0 with ax:={a0.ax with cH:=(dy a0.ax.cH (Int.toNat a0.c.A) true)}})with ax:={({a0 with ax:={a0.ax with cH:=(dy a0.ax.cH (Int.toNat a0.c.A) true)}}).ax with nE:=(dy ((({a0 with ax:={a0.ax with cH:=(dy a0.ax.cH (Int.toNat a0.c.A) true)}}).ax).nE) (Int.toNat a0.c.A) true)}}))
def uE(n:Nat):CT:=cX (tW n [] [bZ n,bP n]) ⟨177,[], .cons eV .nil, .cons (.v (.st 33)) (.cons eV .nil),[some 0,none],(.cons (.om 118 (.v (.int .i64))) .nil),[],[[0]]⟩ (λx=>jK n (g7 x)) (λy=>(y.1,g7 y.2)) (λz=>(z.1,(h7 z.2 ()))) u1 m1
end
end Go.Proofs.Z
namespace Go.Proofs.Z
open Go Go.Bw
def O0(k:ay)(z:az)(g:Int):List Int:=dz z.B (λi=>(k.aI i).Region==g) 32
def TC(w:ai)(k:ay)(z:az)(h what:Int):Bool:=if what=0 then tM k z h 0 else if what=1 then rh k z h 0 else if what=2 then(gp w h).all λx=>(O0 k z x).isEmpty else false
def WN(k:ay)(z:az)(aE h what t:Int):Bool:=((k.aI (aZ t)).To==aE)&&(((what==0)&&tM k z h t)||(((what==1)&&(k.aI (aZ t)).bF)&&rh k z h t))
def Lp(k:ay)(z:az)(aE h what:Int):Bool:=(O0 k z h).any (WN k z aE h what)
section
variable {k:ay} {z:az}
theorem TD(r:RT k z){g x:Int}:x∈O0 k z g↔aT z.B x/\(k.aI (aZ x)).Region=g:=by unfold O0;rw[zm r.bj,beq_iff_eq]
end
end Go.Proofs.Z
namespace Go.Proofs.Z
open Go Go.Bw
set_option maxRecDepth 100000 in
theorem abZ:X4 (λv a _ =>((lY .u8 (FW .u8 (v:Int) (a:Int)) 1==1)==v.testBit a))=true:=by kernel_rfl
theorem akr{v a:Int}(hv:0<=v/\v<=255)(ha:0<=a/\a<8):(lY .u8 (FW .u8 v a) 1==1)=zV v a.toNat:=by
 obtain⟨u,rfl⟩:=R5 hv;obtain⟨c,rfl⟩:=QA ha;have:=PX abZ u c c;simp only[beq_iff_eq]at this;have e:(((c.val:Nat):Int)).toNat=c.val:=apx _;rw[e];have h2:zV (u.val:Int) c.val=u.val.testBit c.val:=by unfold zV;rw[apx]
 rw[h2, ← this]
theorem afX{n:Nat}{l:List Int}(f:Int->Option Bool)(p:Int->Bool)(hf:∀x∈l,f x=some (p x))(hl:l.length<=100):∀m,110<=m->∃i,eU (λzu (bS:Int)=>cn (decide (bS<(l.length:Int))) (gu (bM bS l.length)<|bd (f (l.getD (Int.toNat bS) default)) λeC=>cn (eC) (some bS) (zu (wr .i64 (bS+1)))) (some (-1))) m 0=some i/\decide (0<=i)=l.any p:=by
 intro m hm;refine fK (λ(i:Int)=>∃k:Nat,i=k/\k<=l.length/\(l.take k).any p=false) (λi=>((l.length:Int)-i).toNat) (λo=>∃i,o=some i/\decide (0<=i)=l.any p) ?_ m 0 ⟨0,rfl,by omega,by simp⟩ (by omega);rintro kk i ⟨k,rfl,hk,hp⟩ ih;by_cases c:k<l.length
 ·have hx:=fT (l:=l) (i:=k) c
  rw[ak (apw (by omega)),au (bG (by omega) (by omega)),apx,ah (hf _ hx),aL (by omega) (by omega)];cases hq:p (l.getD k default)with
  |true=>rw[ak rfl];exact⟨_,rfl,by rw[apw (by omega),List.any_eq_true.2 ⟨_,hx,hq⟩]⟩
  |false=>rw[ae rfl];refine ih _ ⟨k+1,by omega,by omega,?_⟩ (by omega);rw[apC c, ← eS c,List.any_append,hp,Bool.false_or,List.any_cons,hq];rfl
 ·rw[ae (apD (by omega))]
  rw[List.take_of_length_le (by omega)]at hp;exact⟨_,rfl,by rw[hp];rfl⟩
theorem agc{l:List Int}{ρ:Type}(f:Int->(Bool->Option ρ)->Option ρ)(p:Int->Bool)(hf:∀k:Nat,k<l.length->∀F,f (k:Int) F=F (p (l.getD k default)))(hl:l.length<=100)(A B:Option ρ):∀m,110<=m->eU (λzu (bS:Int)=>cn (decide (bS<(l.length:Int))) (f bS λb=>cn b A (zu (wr .i64 (bS+1)))) B) m 0=if l.any p=true then A else B:=by
 intro m hm;refine fK (λ(i:Int)=>∃k:Nat,i=k/\k<=l.length/\(l.take k).any p=false) (λi=>((l.length:Int)-i).toNat) (λo=>o=if l.any p=true then A else B) ?_ m 0 ⟨0,rfl,by omega,by simp⟩ (by omega);rintro kk i ⟨k,rfl,hk,hp⟩ ih;by_cases c:k<l.length
 ·have hx:=fT (l:=l) (i:=k) c
  rw[ak (apw (by omega)),hf k c,aL (by omega) (by omega)];cases hq:p (l.getD k default)with
  |true=>rw[ak rfl,aps (List.any_eq_true.2 ⟨_,hx,hq⟩)]
  |false=>rw[ae rfl];refine ih _ ⟨k+1,by omega,by omega,?_⟩ (by omega);rw[apC c, ← eS c,List.any_append,hp,Bool.false_or,List.any_cons,hq];rfl
 ·rw[ae (apD (by omega))]
  rw[List.take_of_length_le (by omega)]at hp;rw[hp];rfl
def TK(w:ai)(o:bN)(k:ay)(z:az)(aE h what:Int):Int:=if aM w.B h=true then(if(lB w o h).dx=3 then(if what=0/\(0<=aE/\aE<8)/\zV (lB w o h).dU aE.toNat=true then 0 else 5) else if(lB w o h).dx=1 then(if((((lB w o h).gj==aE)&&TC w k z h what)||Lp k z aE h what)=true then 0 else 5) else 5) else 4
section
variable {n:Nat} {t:av} {w:ai} {o:bN} {v:aR} {k:ay} {z:az}
theorem aag(z:az)(k:ay)(g:Int):(O0 k z g).length<=32:=pJ _ _ _
theorem aaf(rk:RT k z){g x:Int}(h:x∈O0 k z g):0<=x/\x<4294967296:=by have:=((TD rk).1 h).1;exact⟨this.1,fm this.2⟩
theorem V7{l:List Int}:decide (0<(l.length:Int))= !l.isEmpty:=by
 cases l with
 |nil=>rfl
 |cons x l=>simp
theorem Wl{l:List Int}{p:Int->Bool}:(!l.any λx=> !p x)=l.all p:=by
 induction l with
 |nil=>rfl
 |cons x l ih=>rw[List.any_cons,List.all_cons,Bool.not_or,ih,Bool.not_not]
theorem ahe(hn:200<=n)(r:gY t w)(tt:j8 w)(rk:RT k z){h:Int}(h0:0<=h)(h1:h<4294967296)(what:Int):lZ n ⟨t,o,k⟩ h what=some (TC w k z h what):=by
 unfold lZ TC;by_cases w0:what=0
 ·rw[ak (by simpa using w0),aps w0]
  unfold oG;rw[ah (Lb (by omega) rk h (a:=0) (by omega) (by omega))];exact(oB (by rfl) rfl).trans (by simp)
 rw[ae (by simpa using w0),apt w0];by_cases w1:what=1
 ·rw[ak (by simpa using w1),aps w1]
  unfold oF;rw[ah (Hi (by omega) rk h (a:=0) (by omega) (by omega))];exact(oB (by rfl) rfl).trans (by simp)
 rw[ae (by simpa using w1),apt w1];by_cases w2:what=2
 ·rw[ak (by simpa using w2),aps w2]
  have hl:=(yf r tt h).2;obtain⟨i,i1,i2⟩:=afX (n:=n) (l:=gp w h) (λx=>ny n x ⟨t,o,k⟩) (λx=> !(O0 k z x).isEmpty) (λx hx=>by
   unfold ny;rw[ah (aah (by omega) rk x),V7];rfl) (by omega) n (by omega)
  have e3:mz n ⟨t,o,k⟩ h=some ((gp w h).all λx=>(O0 k z x).isEmpty):=by unfold mz eK fE;rw[ah (S5 (by omega) r tt h0 h1),ah (ah (f:=λj=>some (decide (0<=j))) i1),i2,Wl]
  exact(oB (by rfl) e3).trans (by simp)
 ·rw[ae (by simpa using w2),apt w2]
theorem aaH(hn:200<=n)(rk:RT k z){x aE h what:Int}(hx:x∈O0 k z h):nA n x ⟨t,o,k⟩ aE what h=some (WN k z aE h what x):=by
 have hg:=((TD rk).1 hx).1;have hr:=aaf rk hx;unfold nA WN;have hT:zU k z x=k.aI (aZ x):=by unfold zU;rw[hg.2];rfl
 have hto:=(rk.Sr _ (rk.JP (iW x) (gW hg.2).2.1) (gW hg.2).2.1).2.to;rw[ah (aeE rk hr.1 hr.2),hT];dsimp only;rw[aL (by omega) (by omega),ck (Lb (by omega) rk h hr.1 hr.2),ck (Hi (by omega) rk h hr.1 hr.2)];cases(k.aI (aZ x)).To==aE<;>cases what==0<;>cases tM k z h x<;>cases what==1<;>cases(k.aI (aZ x)).bF<;>cases rh k z h x<;>rfl
theorem Xv(hn:200<=n)(rk:RT k z)(aE h what:Int):ry n ⟨t,o,k⟩ aE h what=some (Lp k z aE h what):=by unfold ry fF gh Lp;have hl:=aag z k h;have e:kU n k h=some (O0 k z h):=aah (by omega) rk h;obtain⟨i,i1,i2⟩:=afX (n:=n) (l:=O0 k z h) (λx=>nA n x ⟨t,o,k⟩ aE what h) (WN k z aE h what) (λx hx=>aaH hn rk hx) (by omega) n (by omega);dsimp only;rw[ah e,ah (ah (f:=λj=>some (decide (0<=j))) i1),i2]
theorem aaC(hn:200<=n)(r:gY t w)(tt:j8 w)(q:OwR w o λ_ =>True)(rk:RT k z){h:Int}(h0:0<=h)(h1:h<4294967296)(aE what:Int):s6 n ⟨t,o,k⟩ aE h what=some (TK w o k z aE h what):=by
 unfold s6 TK;dsimp only;rw[ah (nU r.bj h0 h1)];cases hg:aM w.B h with
 |false=>rfl
 |true=>
  have hG:=qO q h;rw[ae (b:= !true) rfl,aps rfl,ah (EO (by omega) r tt h0 h1)];generalize lB w o h=x at hG;by_cases k3:x.dx=3
  ·rw[ak (by simpa using k3),aps k3]
   by_cases hc:what=0/\0<=aE/\aE<8
   ·obtain⟨w0,t0,t1⟩:=hc
    have e1:(((what==0)&&decide (0<=aE))&&decide (aE<8))=true:=by rw[apw t0,apw t1,w0];rfl
    rw[e1,apw t0,au (by rfl),akr hG.hr ⟨t0,t1⟩];by_cases hb:zV x.dU aE.toNat=true
    ·rw[hb,aps ⟨w0,⟨t0,t1⟩,rfl⟩];rfl
    ·rw[apt (λhh=>hb hh.2.2)]
     have:zV x.dU aE.toNat=false:=by simpa using hb
     rw[this];rfl
   ·have e1:(((what==0)&&decide (0<=aE))&&decide (aE<8))=false:=by
     rw[Bool.and_eq_false_iff,Bool.and_eq_false_iff,beq_eq_false_iff_ne,decide_eq_false_iff_not,decide_eq_false_iff_not];by_cases a:what=0
     ·by_cases b:0<=aE
      ·exact .inr λd=>hc ⟨a,b,d⟩
      ·exact .inl (.inr b)
     ·exact .inl (.inl a)
    rw[e1,au (by rfl),apt (λhh=>hc ⟨hh.1,hh.2.1⟩)];rfl
  ·rw[ae (by simpa using k3),apt k3]
   by_cases k1:x.dx=1
   ·have ht:=hG.tr
    rw[ak (by simpa using k1),aps k1,aL (by omega) (by omega),ck (ahe hn r tt rk h0 h1 what),ck (Xv hn rk aE h what)];cases x.gj==aE<;>cases TC w k z h what<;>cases Lp k z aE h what<;>rfl
   ·rw[ae (by simpa using k1),apt k1]
theorem Vf(hn:40<=n)(rk:RT k z){g:Int}(hg:0<=g):dF n z g (-1)=some (O0 k z g):=by
 refine(B9 hn rk g (-1)).trans (congrArg some (wk (λi _ _ =>?_) 32 (Nat.le_refl _)));have:decide (g<0)=false:=by simpa using hg
 simp[this]
theorem Xa(hn:200<=n)(r:gY t w)(tt:j8 w)(rk:RT k z){h:Int}(h0:0<=h)(what:Int):ri n ⟨w,v,z⟩ h what=some (TC w k z h what):=by
 unfold ri TC;dsimp only;by_cases w0:what=0
 ·rw[ak (by simpa using w0),aps w0,ah (ym (by omega) rk h (a:=0) (by omega))]
 rw[ae (by simpa using w0),apt w0];by_cases w1:what=1
 ·rw[ak (by simpa using w1),aps w1,ah (wv (by omega) rk h (a:=0) (by omega))]
 rw[ae (by simpa using w1),apt w1,ah (F6 hn r tt h0)];have hu:=FT r tt h;have hl:=(yf r tt h).2;generalize gp w h=l at hu hl;have key:=agc (l:=l) (ρ:=Bool) (λi F=>gu (bM i l.length)<|bd (dF n z (l.getD i.toNat default) (-1)) λg8=>F (decide (0<(g8.length:Int)))) (λx=> !(O0 k z x).isEmpty) (λi hi F=>by
  rw[au (bG (by omega) (by omega)),apx,ah (Vf (by omega) rk (hu _ (fT hi)).1),V7]) (by omega) (some false) (some (what==2)) n (by omega)
 refine key.trans ?_;rw[← Wl (p:=λx=>(O0 k z x).isEmpty)];by_cases w2:what=2
 ·rw[aps w2,w2]
  cases l.any λx=> !(O0 k z x).isEmpty<;>rfl
 ·rw[apt w2]
  have:(what==2)=false:=by simpa using w2
  rw[this];cases l.any λx=> !(O0 k z x).isEmpty<;>rfl
theorem ZK(hn:200<=n)(r:gY t w)(tt:j8 w)(p:Dk w o v)(hr:v.cS.length+100<=n/\v.cS.length<=100000)(rk:RT k z){h:Int}(h0:0<=h)(aE what:Int):eL n ⟨w,v,z⟩ aE h what=some (TK w o k z aE h what):=by
 unfold eL TK;dsimp only;rw[ah (cm (by omega) r h0)];cases hg:aM w.B h with
 |false=>rfl
 |true=>
  have hG:=qO p.q h;have hR:=yO r tt p h0;rw[ae (b:= !true) rfl,aps rfl,ah (EN hn r tt p.l hr h0)];generalize lB w o h=x at hG hR;generalize DF w v h=y at hR;rw[← hR.k, ← hR.t];have ha7:=Ux aE;rw[bG (i:=lY .i64 aE 7) (by omega) (by omega),Bool.or_true,au rfl];by_cases k3:x.dx=3
  ·rw[aps k3]
   have k1:(x.dx !=1)=true:=by rw[k3];rfl
   by_cases hc:what=0/\0<=aE/\aE<8
   ·obtain⟨w0,t0,t1⟩:=hc
    have e1:((((x.dx==3)&&(what==0))&&decide (0<=aE))&&decide (aE<8))=true:=by rw[apw t0,apw t1,w0,k3];rfl
    rw[e1,L6 ⟨t0,t1⟩,hR.h _ (by omega),Bool.true_and];by_cases hb:zV x.dU aE.toNat=true
    ·rw[hb,aps ⟨w0,⟨t0,t1⟩,rfl⟩];rfl
    ·rw[apt (λhh=>hb hh.2.2)]
     have:zV x.dU aE.toNat=false:=by simpa using hb
     rw[this,k1];rfl
   ·have e1:((((x.dx==3)&&(what==0))&&decide (0<=aE))&&decide (aE<8))=false:=by
     rw[Bool.and_eq_false_iff,Bool.and_eq_false_iff,Bool.and_eq_false_iff,beq_eq_false_iff_ne,beq_eq_false_iff_ne,decide_eq_false_iff_not,decide_eq_false_iff_not];by_cases a:what=0
     ·by_cases b:0<=aE
      ·exact .inr λd=>hc ⟨a,b,d⟩
      ·exact .inl (.inr b)
     ·exact .inl (.inl (.inr a))
    rw[e1,k1,apt (λhh=>hc ⟨hh.1,hh.2.1⟩)];rfl
  ·have e3:(x.dx==3)=false:=by simpa using k3
   rw[apt k3,e3,Bool.false_and,Bool.false_and,Bool.false_and,Bool.false_and,ae rfl];by_cases k1:x.dx=1
   ·have e1:(x.dx !=1)=false:=by simpa using k1
    rw[e1,ae rfl,aps k1,ck (Xa hn r tt rk h0 what)];have hto:∀a∈O0 k z h,aT z.B a/\zU k z a=k.aI (aZ a):=λa ha=>by have Lw:=((TD rk).1 ha).1;exact⟨Lw,by unfold zU;rw[Lw.2];rfl⟩
    have hl:=aag z k h;have hrn:∀a∈O0 k z h,0<=a/\a<4294967296:=λa ha=>aaf rk ha;have key:∀F:Int->Option Int,(bd (dF n z h (-1)) λeE=>eU (λk39 (l7:Int)=>cn (decide (l7<(eE.length:Int))) (gu (bM l7 eE.length)<|bd (gV n z (eE.getD (Int.toNat l7) default)) λgR=>gu (!(((gR.1.To==aE)==true)&&((what==0)==true))||bM l7 eE.length)<|cl (((gR.1.To==aE)==true)&&((what==0)==true)) (eu n z h (eE.getD (Int.toNat l7) default)) default λo9=>gu (!((((gR.1.To==aE)==true)&&(((what==0)&&o9)==false))&&(((what==1)&&gR.1.bF)==true))||bM l7 eE.length)<|cl ((((gR.1.To==aE)==true)&&(((what==0)&&o9)==false))&&(((what==1)&&gR.1.bF)==true)) (dW n z h (eE.getD (Int.toNat l7) default)) default λmG=>cn (((gR.1.To==aE)&&(((what==0)&&o9)||(((what==1)&&gR.1.bF)&&mG)))) (some (0:Int)) (k39 (wr .i64 (l7+1)))) (some 5)) n 0)=some (if Lp k z aE h what=true then(0:Int)else 5):=λ_ =>by
     rw[ah (Vf (by omega) rk h0)];unfold Lp;generalize O0 k z h=l at hto hl hrn;refine(agc (l:=l) (ρ:=Int) (λi F=>gu (bM i l.length)<|bd (gV n z (l.getD (Int.toNat i) default)) λgR=>gu (!(((gR.1.To==aE)==true)&&((what==0)==true))||bM i l.length)<|cl (((gR.1.To==aE)==true)&&((what==0)==true)) (eu n z h (l.getD (Int.toNat i) default)) default λo9=>gu (!((((gR.1.To==aE)==true)&&(((what==0)&&o9)==false))&&(((what==1)&&gR.1.bF)==true))||bM i l.length)<|cl ((((gR.1.To==aE)==true)&&(((what==0)&&o9)==false))&&(((what==1)&&gR.1.bF)==true)) (dW n z h (l.getD (Int.toNat i) default)) default λmG=>F (((gR.1.To==aE)&&(((what==0)&&o9)||(((what==1)&&gR.1.bF)&&mG))))) (WN k z aE h what) (λi hi F=>?_) (by omega) (some 0) (some 5) n (by omega)).trans (apply_ite some _ _ _).symm
     have hm:=fT (l:=l) (i:=i) hi;have hin:bM (i:Int) l.length=true:=bG (by omega) (by omega);rw[apx,hin,au rfl];generalize l.getD i default=a at hm;have hT:=(hto a hm).2;have har:=hrn a hm;have hgd:=(hto a hm).1;rw[ah (Kl (by omega) rk har.1),hT];dsimp only;rw[Bool.or_true,au rfl,ck (ym (by omega) rk h har.1),Bool.or_true,au rfl,ck (wv (by omega) rk h har.1)];unfold WN C5;dsimp only;congr 1;cases(k.aI (aZ a)).To==aE<;>cases what==0<;>cases tM k z h a<;>cases what==1<;>cases(k.aI (aZ a)).bF<;>cases rh k z h a<;>rfl
    rw[key (λ_ =>none)];cases x.gj==aE<;>cases TC w k z h what<;>cases Lp k z aE h what<;>rfl
   ·have e1:(x.dx !=1)=true:=by simpa using k1
    rw[e1,apt k1];rfl
end
end Go.Proofs.Z
namespace Go.Proofs.Z
open Go Go.Bw
def D7(w:ai)(x c:Int):Int×Int:=if aM w.B x=true then(if 0<=c/\c<8 then(if(w.R (aZ x)).bC c.toNat=0 then(0,10)else if aM w.B ((w.R (aZ x)).bC c.toNat)=true then((w.R (aZ x)).bC c.toNat,0)else(0,4))else(0,2))else(0,4)
def E7(w:ai)(x c z:Int)(pW:Bool):Int:=if aM w.B x=true/\(z=0\/aM w.B z=true)then(if 0<=c/\c<8 then(if z=0\/pW=true\/yQ w z x=true then 0 else 5)else 2)else 4
def C7(w:ai)(x c z:Int):ai:=Bc w x {w.R (aZ x)with bC:=dy (w.R (aZ x)).bC c.toNat z}
section
variable {n:Nat} {t:av} {w:ai}
theorem Vd(r:gY t w){x:Int}(x0:0<=x)(x1:x<4294967296)(c:Int):uX n t x c=some (if aM w.B x=true then(if 0<=c/\c<8 then .ok (o5 t w x)else .error 2)else .error 4):=by
 unfold uX;rw[ah (Ar r x0 x1)];cases hg:aM w.B x with
 |false=>rfl
 |true=>
  rw[aps rfl,aps rfl];by_cases hc:0<=c/\c<8
  ·have e:(decide (0<=c)&&decide (c<8))=true:=by simpa using hc
   rw[aps hc,e];rfl
  ·have e:(decide (0<=c)&&decide (c<8))=false:=by rw[Bool.and_eq_false_iff,decide_eq_false_iff_not,decide_eq_false_iff_not];omega
   rw[apt hc,e];rfl
theorem Zd{α β:Type}{x:Option (Except Int α)}{a:α}{f:Int->β}{k:α->Option β}(h:x=some (.ok a)):tr x f k=k a:=by rw[h];rfl
theorem S6{α β:Type}{x:Option (Except Int α)}{e:Int}{f:Int->β}{k:α->Option β}(h:x=some (.error e)):tr x f k=some (f e):=by rw[h];rfl
theorem aiJ(r:gY t w){x:Int}(x0:0<=x)(x1:x<4294967296)(c:Int):AE n t x c=some (D7 w x c):=by
 unfold AE D7;have hR:=Vd (n:=n) r x0 x1 c;cases hg:aM w.B x with
 |false=>rw[hg,apt (by decide)]at hR;rw[apt (by decide),S6 hR]
 |true=>
  rw[hg,aps rfl]at hR;rw[aps rfl];by_cases hc:0<=c/\c<8
  ·rw[aps hc]at hR
   rw[aps hc,Zd hR,au (bG hc.1 hc.2)];obtain⟨l1,l2⟩:=eR ⟨x0,hg⟩;have hr:=r.ZJ _ l1 l2;have hk:c.toNat<8:=by omega
   have hcell:(o5 t w x).bC c.toNat=(w.R (aZ x)).bC c.toNat:=hr.c _ hk;have DG:=hr.c0 _ hk;rw[hcell];generalize(w.R (aZ x)).bC c.toNat=z at DG;rw[ah (nU r.bj DG.1 (by omega))];by_cases hz:z=0
   ·subst hz;rfl
   ·have e:(z !=0)=true:=by simpa using hz
    rw[apt hz,e];cases aM w.B z<;>rfl
  ·rw[apt hc]at hR;rw[apt hc,S6 hR]
theorem Xc(hn:40<=n)(r:gY t w){x:Int}(x0:0<=x)(c:Int):yp n w x c=some (D7 w x c):=by
 unfold yp D7;rw[ah (cm hn r x0)];cases hg:aM w.B x with
 |false=>rfl
 |true=>
  rw[ae (b:= !true) rfl,aps rfl];by_cases hc:0<=c/\c<8
  ·have e:(decide (c<0)||decide (7<c))=false:=by rw[Bool.or_eq_false_iff,decide_eq_false_iff_not,decide_eq_false_iff_not];omega
   obtain⟨l1,l2⟩:=eR ⟨x0,hg⟩;have DG:=(r.ZJ _ l1 l2).c0 c.toNat (by omega);rw[aps hc,e,ae rfl,ah (dk hn r.bj x0),hg,aps rfl,au (ia x),au (bG hc.1 hc.2)];show cn ((w.R (aZ x)).bC c.toNat==0) (some (0,10)) (bd (bJ n w ((w.R (aZ x)).bC c.toNat)) λfI=>cn (!fI) (some (0,4)) (some ((w.R (aZ x)).bC c.toNat,0)))=_;generalize(w.R (aZ x)).bC c.toNat=z at DG;rw[ah (cm hn r DG.1)];by_cases hz:z=0
   ·subst hz;rfl
   ·have e:(z==0)=false:=by simpa using hz
    rw[apt hz,e,ae rfl];cases aM w.B z<;>rfl
  ·have e:(decide (c<0)||decide (7<c))=true:=by rw[Bool.or_eq_true,decide_eq_true_eq,decide_eq_true_eq];omega
   rw[apt hc,e];rfl
theorem aeP{x c z:Int}{pW:Bool}(h:¬(aM w.B x=true/\(z=0\/aM w.B z=true))):E7 w x c z pW=4:=apt h
theorem al8{x c z:Int}{pW:Bool}(h:aM w.B x=true/\(z=0\/aM w.B z=true))(hc:¬(0<=c/\c<8)):E7 w x c z pW=2:=(aps h).trans (apt hc)
theorem al7{x c z:Int}{pW:Bool}(h:aM w.B x=true/\(z=0\/aM w.B z=true))(hc:0<=c/\c<8)(ho:¬(z=0\/pW=true\/yQ w z x=true)):E7 w x c z pW=5:=(aps h).trans ((aps hc).trans (apt ho))
theorem al9{x c z:Int}{pW:Bool}(h:aM w.B x=true/\(z=0\/aM w.B z=true))(hc:0<=c/\c<8)(ho:z=0\/pW=true\/yQ w z x=true):E7 w x c z pW=0:=(aps h).trans ((aps hc).trans (aps ho))
theorem or7{z:Int}{a:Bool}:((z==0)||a)=true↔z=0\/a=true:=by rw[Bool.or_eq_true,beq_iff_eq]
theorem adS{z:Int}{a:Bool}(h:¬(z=0\/a=true)):((z==0)||a)=false:=by rw[← Bool.not_eq_true,or7];exact h
theorem adD(hn:200<=n)(r:gY t w)(tt:j8 w){x z:Int}(x0:0<=x)(z0:0<=z)(c:Int)(pW:Bool):zi n w x c z pW=some (if E7 w x c z pW=0 then C7 w x c z else w,E7 w x c z pW):=by
 unfold zi;rw[ah (cm (by omega) r x0),ck (cm (by omega) r z0)];cases hg:aM w.B x with
 |false=>rw[aeP (λh=>by rw[hg]at h;exact absurd h.1 (by decide))];rfl
 |true=>
  have e0:((!true)||((z !=0)&&(!(bif ((!true)==false)&&((z !=0)==true)then aM w.B z else default))))= !((z==0)||aM w.B z):=by
   by_cases hz:z=0
   ·subst hz;rfl
   ·have e1:(z !=0)=true:=by simpa using hz
    have e2:(z==0)=false:=by simpa using hz
    rw[e1,e2];cases aM w.B z<;>rfl
  rw[e0];by_cases Rk:z=0\/aM w.B z=true
  ·rw[or7.2 Rk,ae (b:= !true) rfl]
   by_cases hc:0<=c/\c<8
   ·have e:(decide (c<0)||decide (7<c))=false:=by rw[Bool.or_eq_false_iff,decide_eq_false_iff_not,decide_eq_false_iff_not];omega
    rw[e,ae rfl,ck (Ve hn r tt z0 x0)];have e2:(((z !=0)&&(!pW))&&(!(bif ((z !=0)&&(!pW))==true then yQ w z x else default)))= !((z==0)||(pW||yQ w z x)):=by
     by_cases hz:z=0
     ·subst hz;rfl
     ·have e1:(z !=0)=true:=by simpa using hz
      have e2:(z==0)=false:=by simpa using hz
      rw[e1,e2];cases pW<;>cases yQ w z x<;>rfl
    rw[e2];by_cases ho:z=0\/pW=true\/yQ w z x=true
    ·rw[or7.2 (by rw[Bool.or_eq_true];exact ho),ae (b:= !true) rfl,al9 ⟨hg,Rk⟩ hc ho,aps rfl,ah (dk (by omega) r.bj x0),aps hg,au (ia x),au (bG hc.1 hc.2),aJ]
     rfl
    ·rw[adS (by rw[Bool.or_eq_true];exact ho),ak (b:= !false) rfl,al7 ⟨hg,Rk⟩ hc ho];rfl
   ·have e:(decide (c<0)||decide (7<c))=true:=by rw[Bool.or_eq_true,decide_eq_true_eq,decide_eq_true_eq];omega
    rw[e,al8 ⟨hg,Rk⟩ hc];rfl
  ·rw[adS Rk,ak (b:= !false) rfl,aeP (λh=>Rk h.2)];rfl
theorem anM(hn:200<=n)(r:gY t w)(tt:j8 w)(i:zF w){x z:Int}(x0:0<=x)(x1:x<4294967296)(z0:0<=z)(z1:z<4294967296)(c:Int)(pW:Bool):
  ∃t',Cu n t x c z pW=some (t',E7 w x c z pW)/\gY t' (if E7 w x c z pW=0 then C7 w x c z else w)/\j8 (if E7 w x c z pW=0 then C7 w x c z else w)/\zF (if E7 w x c z pW=0 then C7 w x c z else w):=by
 have hP:∃t',GC n t x c z pW=some (t',E7 w x c z pW)/\(E7 w x c z pW=0->gY t' (C7 w x c z)/\j8 (C7 w x c z)/\zF (C7 w x c z)):=by
  unfold GC;have hR:=Vd (n:=n) r x0 x1 c;rw[ah (nU r.bj x0 x1),ck (nU r.bj z0 z1)];cases hg:aM w.B x with
  |false=>rw[aeP (λh=>by rw[hg]at h;exact absurd h.1 (by decide))];exact⟨_,rfl,λh=>absurd h (by decide)⟩
  |true=>
   rw[hg,aps rfl]at hR;have e0:(true&&((z==0)||(bif (true==true)&&((z==0)==false)then aM w.B z else default)))=((z==0)||aM w.B z):=by
    by_cases hz:z=0
    ·subst hz;rfl
    ·have e2:(z==0)=false:=by simpa using hz
     rw[e2];rfl
   rw[e0];by_cases Rk:z=0\/aM w.B z=true
   ·rw[or7.2 Rk]
    show∃t',tr _ _ _ =some (t',_)/\_;by_cases hc:0<=c/\c<8
    ·rw[aps hc]at hR
     rw[Zd hR,ck (OZ (by omega) r tt z0 z1 x0 x1)];have e2:(((z==0)||pW)||(bif (((z==0)||pW)==false)then yQ w z x else default))=((z==0)||(pW||yQ w z x)):=by cases z==0<;>cases pW<;>cases yQ w z x<;>rfl
     rw[e2];by_cases ho:z=0\/pW=true\/yQ w z x=true
     ·obtain⟨t',s1,s2,s3,s4,s5⟩:=amo (n:=n) hn r tt i ⟨x0,hg⟩ z0 z1 (k:=c.toNat) (by omega)
      rw[or7.2 (by rw[Bool.or_eq_true];exact ho),al9 ⟨hg,Rk⟩ hc ho];refine⟨t',?_,λ_ =>⟨s3,s4,s5⟩⟩;show gu (bM c 8) _ =_;rw[au (bG hc.1 hc.2),aJ,ah s1]
     ·rw[adS (by rw[Bool.or_eq_true];exact ho),al7 ⟨hg,Rk⟩ hc ho]
      exact⟨_,rfl,λh=>absurd h (by decide)⟩
    ·rw[apt hc]at hR
     rw[S6 hR,al8 ⟨hg,Rk⟩ hc];exact⟨_,rfl,λh=>absurd h (by decide)⟩
   ·rw[adS Rk,aeP (λh=>Rk h.2)]
    exact⟨_,rfl,λh=>absurd h (by decide)⟩
 obtain⟨t',p1,p2⟩:=hP;unfold Cu;rw[ah p1];by_cases he:E7 w x c z pW=0
 ·rw[aps he]
  obtain⟨a,b,d⟩:=p2 he;exact⟨t',by rw[ae (by simpa using he),he],a,b,d⟩
 ·rw[apt he]
  exact⟨t,by rw[ak (by simpa using he)],r,tt,i⟩
end
end Go.Proofs.Z
namespace Go.Proofs.Z
open Go Go.Bw Go.Rw Go.RowKit
noncomputable section
def uj(x y:bq):Bool:=x.mA==y.mA&&x.u7==y.u7&&x.Region==y.Region&&x.iz==y.iz
abbrev acR:=Nat->aq->Option (Except Int (aA×aq))
def yy(g:Nat->aq->Option (Except Int aA)):acR:=λn a=>match g n a with
 |some (.ok r)=>some (.ok (r,a))
 |some (.error e)=>some (.error e)
 |none=>none
def Gt:List (Int×Nat×acR):=[(1,157,lV),(2,158,fO),(3,159,yy ng),(4,160,yy mm),(5,161,jM),(6,162,jk),(7,163,lW),(8,164,jN),(9,165,jj),(10,166,jL),(11,167,kO),(12,168,kL),(13,169,iA),(14,170,kK),(15,171,gq),(16,171,gq),(17,172,jQ),(18,173,lU),(19,174,yy jP),(20,175,kN),(21,176,kM),(22,177,jK)]
def NU(k:Int):Option (Int×Nat×acR):=Gt.find? λx=>k==x.1
def jR(n:Nat)(a0:aq):Option (aA×Option aq):=
 gu (!((decide (0<=a0.aE)&&decide (a0.aE<8))==true)||bM (lY .i64 a0.aE 7) 8)<|
 tc ((decide (0<=a0.aE)&&decide (a0.aE<8))&&(a0.ax.cH (Int.toNat (lY .i64 a0.aE 7)))) (⟨12,0,0⟩,none)<|
 match NU a0.c.Do with
 |none=>some (⟨2,0,0⟩,none)
 |some x=>tr (x.2.2 n a0) (λe=>(⟨e,0,0⟩,none)) λy=>some (y.1,some y.2)
def mC{Z:Type}(m:Option (Except Int (aA×aq)))(KO:aA->aq->Option Z)(KE:Int->Option Z):Option Z:=bd m λr=>match r with
 | .ok z=>KO z.1 z.2
 | .error e=>KE e
def kC{Z:Type}(m:Option (Except Int aA))(a:aq)(KO:aA->aq->Option Z)(KE:Int->Option Z):Option Z:=bd m λr=>match r with
 | .ok z=>KO z a
 | .error e=>KE e
def cD{Z:Type}(n:Nat)(a:aq)(KO:aA->aq->Option Z)(KM KK:Int->Option Z)(KN:Option Z):Option Z:=cn (a.c.Do==1) (mC (lV n a) KO KM)<|cn (a.c.Do==2) (mC (fO n a) KO KM)<|cn (a.c.Do==3) (kC (ng n a) a KO KK)<|cn (a.c.Do==4) (kC (mm n a) a KO KK)<|cn (a.c.Do==5) (mC (jM n a) KO KM)<|cn (a.c.Do==6) (mC (jk n a) KO KM)<|cn (a.c.Do==7) (mC (lW n a) KO KM)<|cn (a.c.Do==8) (mC (jN n a) KO KM)<|cn (a.c.Do==9) (mC (jj n a) KO KM)<|cn (a.c.Do==10) (mC (jL n a) KO KM)<|cn (a.c.Do==11) (mC (kO n a) KO KM)<|cn (a.c.Do==12) (mC (kL n a) KO KM)<|cn (a.c.Do==13) (mC (iA n a) KO KM)<|cn (a.c.Do==14) (mC (kK n a) KO KM)<|cn (a.c.Do==15) (mC (gq n a) KO KM)<|cn (a.c.Do==16) (mC (gq n a) KO KM)<|cn (a.c.Do==17) (mC (jQ n a) KO KM)<|cn (a.c.Do==18) (mC (lU n a) KO KM)<|cn (a.c.Do==19) (kC (jP n a) a KO KK)<|cn (a.c.Do==20) (mC (kN n a) KO KM)<|cn (a.c.Do==21) (mC (kM n a) KO KM)<|cn (a.c.Do==22) (mC (jK n a) KO KM)<|KN
def cA{Z:Type}(n:Nat)(a:aq)(KO:aA->aq->Option Z)(KM KK:Int->Option Z)(KN KA:Option Z):Option Z:=gu (!((decide (0<=a.aE)&&decide (a.aE<8))==true)||bM (lY .i64 a.aE 7) 8)<|cn ((decide (0<=a.aE)&&decide (a.aE<8))&&(a.ax.cH (Int.toNat (lY .i64 a.aE 7)))) (cD n a KO KM KK KN) KA
theorem sF{Z:Type}{m:Option (Except Int (aA×aq))}{K:aA×Option aq->Option Z}{z:Z}(h:bd (tr m (λe=>(⟨e,0,0⟩,none)) λy=>some (y.1,some y.2)) K=some z):mC m (λr c=>K (r,some c)) (λe=>K (⟨e,0,0⟩,none))=some z:=by
 cases m with
 |none=>cases h
 |some r=>cases r<;>exact h
theorem Ze{Z:Type}{g:Nat->aq->Option (Except Int aA)}{n:Nat}{a:aq}{K:aA×Option aq->Option Z}{KK:Int->Option Z}{z:Z}(hk:∀e,K (⟨e,0,0⟩,none)=some z->KK e=some z)(h:bd (tr (yy g n a) (λe=>(⟨e,0,0⟩,none)) λy=>some (y.1,some y.2)) K=some z):kC (g n a) a (λr c=>K (r,some c)) KK=some z:=by
 unfold yy at h;cases hm:g n a with
 |none=>rw[hm]at h;cases h
 |some r=>rw[hm]at h;cases r with
  |ok r=>exact h
  |error e=>exact hk e h
theorem amr{Z:Type}{n:Nat}{a:aq}{K:aA×Option aq->Option Z}{KK:Int->Option Z}{z:Z}(hk:∀e,K (⟨e,0,0⟩,none)=some z->KK e=some z)(h:bd (match NU a.c.Do with
  |none=>some (⟨2,0,0⟩,none)
  |some x=>tr (x.2.2 n a) (λe=>(⟨e,0,0⟩,none)) λy=>some (y.1,some y.2)) K=some z):cD n a (λr c=>K (r,some c)) (λe=>K (⟨e,0,0⟩,none)) KK (K (⟨2,0,0⟩,none))=some z:=by
 unfold NU Gt at h;unfold cD;rw[List.find?_cons]at h;dsimp only at h;cases h0:(a.c.Do==1)with
 |true=>rw[h0]at h;exact sF h
 |false=>
 rw[h0]at h;refine(rfl:cn false _ _ =_).trans ?_;rw[List.find?_cons]at h;dsimp only at h;cases h1:(a.c.Do==2)with
 |true=>rw[h1]at h;exact sF h
 |false=>
 rw[h1]at h;refine(rfl:cn false _ _ =_).trans ?_;rw[List.find?_cons]at h;dsimp only at h;cases h2:(a.c.Do==3)with
 |true=>rw[h2]at h;exact Ze hk h
 |false=>
 rw[h2]at h;refine(rfl:cn false _ _ =_).trans ?_;rw[List.find?_cons]at h;dsimp only at h;cases h3:(a.c.Do==4)with
 |true=>rw[h3]at h;exact Ze hk h
 |false=>
 rw[h3]at h;refine(rfl:cn false _ _ =_).trans ?_;rw[List.find?_cons]at h;dsimp only at h;cases h4:(a.c.Do==5)with
 |true=>rw[h4]at h;exact sF h
 |false=>
 rw[h4]at h;refine(rfl:cn false _ _ =_).trans ?_;rw[List.find?_cons]at h;dsimp only at h;cases h5:(a.c.Do==6)with
 |true=>rw[h5]at h;exact sF h
 |false=>
 rw[h5]at h;refine(rfl:cn false _ _ =_).trans ?_;rw[List.find?_cons]at h;dsimp only at h;cases h6:(a.c.Do==7)with
 |true=>rw[h6]at h;exact sF h
 |false=>
 rw[h6]at h;refine(rfl:cn false _ _ =_).trans ?_;rw[List.find?_cons]at h;dsimp only at h;cases h7:(a.c.Do==8)with
 |true=>rw[h7]at h;exact sF h
 |false=>
 rw[h7]at h;refine(rfl:cn false _ _ =_).trans ?_;rw[List.find?_cons]at h;dsimp only at h;cases h8:(a.c.Do==9)with
 |true=>rw[h8]at h;exact sF h
 |false=>
 rw[h8]at h;refine(rfl:cn false _ _ =_).trans ?_;rw[List.find?_cons]at h;dsimp only at h;cases h9:(a.c.Do==10)with
 |true=>rw[h9]at h;exact sF h
 |false=>
 rw[h9]at h;refine(rfl:cn false _ _ =_).trans ?_;rw[List.find?_cons]at h;dsimp only at h;cases h10:(a.c.Do==11)with
 |true=>rw[h10]at h;exact sF h
 |false=>
 rw[h10]at h;refine(rfl:cn false _ _ =_).trans ?_;rw[List.find?_cons]at h;dsimp only at h;cases h11:(a.c.Do==12)with
 |true=>rw[h11]at h;exact sF h
 |false=>
 rw[h11]at h;refine(rfl:cn false _ _ =_).trans ?_;rw[List.find?_cons]at h;dsimp only at h;cases h12:(a.c.Do==13)with
 |true=>rw[h12]at h;exact sF h
 |false=>
 rw[h12]at h;refine(rfl:cn false _ _ =_).trans ?_;rw[List.find?_cons]at h;dsimp only at h;cases h13:(a.c.Do==14)with
 |true=>rw[h13]at h;exact sF h
 |false=>
 rw[h13]at h;refine(rfl:cn false _ _ =_).trans ?_;rw[List.find?_cons]at h;dsimp only at h;cases h14:(a.c.Do==15)with
 |true=>rw[h14]at h;exact sF h
 |false=>
 rw[h14]at h;refine(rfl:cn false _ _ =_).trans ?_;rw[List.find?_cons]at h;dsimp only at h;cases h15:(a.c.Do==16)with
 |true=>rw[h15]at h;exact sF h
 |false=>
 rw[h15]at h;refine(rfl:cn false _ _ =_).trans ?_;rw[List.find?_cons]at h;dsimp only at h;cases Ry:(a.c.Do==17)with
 |true=>rw[Ry]at h;exact sF h
 |false=>
 rw[Ry]at h;refine(rfl:cn false _ _ =_).trans ?_;rw[List.find?_cons]at h;dsimp only at h;cases h17:(a.c.Do==18)with
 |true=>rw[h17]at h;exact sF h
 |false=>
 rw[h17]at h;refine(rfl:cn false _ _ =_).trans ?_;rw[List.find?_cons]at h;dsimp only at h;cases h18:(a.c.Do==19)with
 |true=>rw[h18]at h;exact Ze hk h
 |false=>
 rw[h18]at h;refine(rfl:cn false _ _ =_).trans ?_;rw[List.find?_cons]at h;dsimp only at h;cases h19:(a.c.Do==20)with
 |true=>rw[h19]at h;exact sF h
 |false=>
 rw[h19]at h;refine(rfl:cn false _ _ =_).trans ?_;rw[List.find?_cons]at h;dsimp only at h;cases h20:(a.c.Do==21)with
 |true=>rw[h20]at h;exact sF h
 |false=>
 rw[h20]at h;refine(rfl:cn false _ _ =_).trans ?_;rw[List.find?_cons]at h;dsimp only at h;cases h21:(a.c.Do==22)with
 |true=>rw[h21]at h;exact sF h
 |false=>
 rw[h21]at h;refine(rfl:cn false _ _ =_).trans ?_;exact h
theorem aga{Z:Type}{n:Nat}{a:aq}{K:aA×Option aq->Option Z}{KK:Int->Option Z}{z:Z}(hk:∀e,K (⟨e,0,0⟩,none)=some z->KK e=some z)(h:bd (jR n a) K=some z):cA n a (λr c=>K (r,some c)) (λe=>K (⟨e,0,0⟩,none)) KK (K (⟨2,0,0⟩,none)) (K (⟨12,0,0⟩,none))=some z:=by
 unfold jR at h;unfold cA;cases h1:(!((decide (0<=a.aE)&&decide (a.aE<8))==true)||bM (lY .i64 a.aE 7) 8)with
 |false=>rw[h1]at h;cases h
 |true=>
  rw[h1]at h;cases h2:((decide (0<=a.aE)&&decide (a.aE<8))&&(a.ax.cH (Int.toNat (lY .i64 a.aE 7))))with
  |false=>rw[h2]at h;exact h
  |true=>rw[h2]at h;exact amr hk h
def iy(n:Nat)(a0:bw)(a1:Int)(a2:aV):Option Int:=lt ({ax:=a0,aE:=a1,c:=a2,run:=gi,pS:=0,GJ:=true,gX:=[]}:aq) λaW=>cn ((a2.Do !=2)==false) (bd (jR n ({ax:=a0,aE:=a1,c:=a2,run:=gi,pS:=0,GJ:=true,gX:=[]}:aq)) λeC=>oc eC.2 (cn (((a2.Do !=2)||(eC.1.E !=0))) (some 0) (none)) λTt=>cn (((a2.Do !=2)||(eC.1.E !=0))) (some 0) (some Tt.pS)) (cn (((a2.Do !=2)||(oa.E !=0))) (some 0) (some (({ax:=a0,aE:=a1,c:=a2,run:=gi,pS:=0,GJ:=true,gX:=[]}:aq).pS)))
def qE(n:Nat)(a0:bw)(a1:Int)(a2:aV):Option Int:=cn (a2.Do !=2) (some 0) (cA n ({ax:=a0,aE:=a1,c:=a2,run:=gi,pS:=0,GJ:=true,gX:=[]}:aq) (λr c=>cn (r.E !=0) (some 0) (some c.pS)) (λe=>cn (e !=0) (some 0) none) (λe=>cn (e !=0) (some 0) (some 0)) (some 0) (some 0))
theorem DH(n:Nat)(a0:bw)(a1:Int)(a2:aV)(z:Int)(h:iy n a0 a1 a2=some z):qE n a0 a1 a2=some z:=by
 unfold iy at h;unfold qE;cases h1:(a2.Do !=2)with
 |true=>rw[h1]at h;exact h
 |false=>
  rw[h1]at h;have:=aga (a:=({ax:=a0,aE:=a1,c:=a2,run:=gi,pS:=0,GJ:=true,gX:=[]}:aq)) (KK:=λe=>cn (e !=0) (some 0) (some 0)) (λe h=>by
   have h:cn (e !=0) (some 0) none=some z:=h;cases hb:(e !=0)with
   |true=>rw[hb]at h;exact h
   |false=>rw[hb]at h;cases h) h
  exact this
def vX(n:Nat):Ct Tryz.prog sg:=afP (tW n [] [bZ n,bP n,w5 n,uL n,vR n,uD n,uG n,tD n,w6 n,uH n,tC n,uF n,vV n,vS n,rJ n,vP n,vQ n,uK n,wZ n,uJ n,vU n,vT n,uE n]) 3000 ⟨9,[], .cons (.v (.st 17)) (.cons (.v (.int .i64)) (.cons (.v (.st 0)) .nil)), .cons (.v (.int .i64)) .nil,[], .nil,[],[]⟩ (λx=>iy n x.1 x.2.1 x.2.2.1) (λx=>qE n x.1 x.2.1 x.2.2.1) (λy=>y.1) (λz=>(z,())) (0) (λ_ =>rfl) (by kernel_rfl) (λx=>by kernel_rfl) (λx z h=>by apply DH;exact h)
def gN(n:Nat)(a0:bw)(a1:Int)(a2:aV)(a3:aB):Option (bw×aA×(List aB)):=lt ({ax:=a0,aE:=a1,c:=a2,run:=a3,pS:=0,GJ:=false,gX:=[]}:aq) λaW=>bd (jR n ({ax:=a0,aE:=a1,c:=a2,run:=a3,pS:=0,GJ:=false,gX:=[]}:aq)) λeC=>oc eC.2 (cn ((eC.1.E !=0)) (some (a0,eC.1,([]:List aB))) (none)) λTt=>cn ((eC.1.E !=0)) (some (a0,eC.1,([]:List aB))) (some (Tt.ax,eC.1,Tt.gX))
def za(n:Nat)(a0:bw)(a1:Int)(a2:aV)(a3:aB):Option (bw×aA×(List aB)):=cA n ({ax:=a0,aE:=a1,c:=a2,run:=a3,pS:=0,GJ:=false,gX:=[]}:aq) (λr c=>cn (r.E !=0) (some (a0,r,[])) (some (c.ax,r,c.gX))) (λe=>cn (e !=0) (some (a0,⟨e,0,0⟩,[])) none) (λe=>cn (e !=0) (some (a0,⟨e,0,0⟩,[])) (some (a0,⟨e,0,0⟩,[]))) (some (a0,⟨2,0,0⟩,[])) (some (a0,⟨12,0,0⟩,[]))
theorem Ik(n:Nat)(a0:bw)(a1:Int)(a2:aV)(a3:aB)(z:bw×aA×(List aB))(h:gN n a0 a1 a2 a3=some z):za n a0 a1 a2 a3=some z:=by
 have:=aga (a:=({ax:=a0,aE:=a1,c:=a2,run:=a3,pS:=0,GJ:=false,gX:=[]}:aq)) (KK:=λe=>cn (e !=0) (some (a0,⟨e,0,0⟩,[])) (some (a0,⟨e,0,0⟩,[]))) (λe h=>by
  have h:cn (e !=0) (some (a0,⟨e,0,0⟩,([]:List aB))) none=some z:=h;cases hb:(e !=0)with
  |true=>rw[hb]at h;exact h
  |false=>rw[hb]at h;cases h) h
 exact this
def y9(n:Nat):Ct Tryz.prog sg:=afP (tW n [] [bZ n,bP n,w5 n,uL n,vR n,uD n,uG n,tD n,w6 n,uH n,tC n,uF n,vV n,vS n,rJ n,vP n,vQ n,uK n,wZ n,uJ n,vU n,vT n,uE n]) 3000 ⟨13,[], .cons (.v (.st 17)) (.cons (.v (.int .i64)) (.cons (.v (.st 0)) (.cons (.v (.st 5)) .nil))), .cons (.sE (.cons (.v (.st 17)) (.cons (.v (.st 33)) (.cons (.v (.sl (.st 5))) .nil)))) .nil,[], .nil,[],[]⟩ (λx=>gN n x.1 x.2.1 x.2.2.1 x.2.2.2.1) (λx=>za n x.1 x.2.1 x.2.2.1 x.2.2.2.1) (λy=>(y.1,y.2.1,y.2.2.1)) (λz=>(z.1,(z.2.1,(z.2.2,())))) (ef,oa,[]) (λ_ =>rfl) (by kernel_rfl) (λx=>by kernel_rfl) (λx z h=>by apply Ik;exact h)
def zg(n:Nat)(a0:(List Int)):Option (List Int):=some a0
def xg(n:Nat)(a0:(List Int)):Option (List Int):=gu ((a0.length:Int)==(a0.length:Int))<|gu ((a0.length:Int)==(a0.length:Int))<|some a0
theorem EY(n:Nat)(a0:(List Int)):xg n a0=zg n a0:=VP.trans VP
def Eu(n:Nat):CT:=cV (tW n [] []) (gy 41 [.v (.sl (.int .i64))] [.v (.sl (.int .i64))]) (a1 (zg n)) u1 m1 (hW:=λx=>Eq.trans (b:=xg n x.1) (by kernel_rfl) (EY ..))
def yx(n:Nat)(a0:bw)(a1:aV):Option ((List Int)×Int):=bd (eF n a0.aC.T a1.R) λgG=>cn ((gG.2!=0)) (some (([]:List Int),gG.2)) (cn (((((a1.Do !=3)&&(a1.Do !=4))||decide (a1.B<1))||decide (8<a1.B))) (some (([]:List Int),2)) (cn (decide ((wr .i64 (gG.1.E.lu-(wr .i64 a1.B)))<(wr .i64 a1.A))) (some (([]:List Int),9)) (cJ (λk47 (gR:(List Int)) (xY:Int)=>cn (decide (xY<(wr .i64 a1.B))) (bd (we n gG.1.E (wr .i64 ((wr .i64 a1.A)+xY))) λuA=>gu (gO gR.length 1 8)<|lt (gR++([uA.1]):List Int) λzK=>k47 zK (wr .i64 (xY+1))) (some (gR,0))) n ([]) 0)))
def DA(n:Nat):CT:=cV (tW n [(21, .loop [(.slot 8,(.row 3 1 (.int .i64))),(.slot 59,(.v (.int .i64)))])] [ij n,Bj n,Eu n]) (gy 17 [.s 17, .s 0] [.t [.v (.sl (.int .i64)), .i]]) (a2 (yx n)) u2 m2
def nQ(n:Nat)(a0:dc)(a1:(List aB)):Option (Bool×dc):=cJ (λk36 (dL:Int) (eE:dc)=>cn (decide (dL<(a1.length:Int))) (gu (bM dL a1.length)<|gu (bM dL a1.length)<|bd (pL n eE.qu ((a1.getD (Int.toNat dL) default).At) ((a1.getD (Int.toNat dL) default).N)) λgR=>cn ((!gR.2)) (some (false,eE)) (lt ({eE with qu:=gR.1}:dc) λYF=>k36 (wr .i64 (dL+1)) YF)) (some (true,eE))) n 0 a0
def EB(n:Nat):CT:=cV (tW n [(5, .loop [(.slot 5,(.v (.int .i64))),(.via 0, .box 103 (.v (.st 31)))])] [y7 n]) ⟨15,[], .cons (.box 103 (.v (.st 31))) (.cons (.v (.sl (.st 5))) .nil), .cons (.v .bool) (.cons (.box 103 (.v (.st 31))) .nil),[some 0], .nil,[],[[0]]⟩ (a2 (nQ n)) u2 m2
def oO(n:Nat)(a0:dc)(a1:Int):Option (aB×Bool×dc):=cn (decide (a1<1)) (lt ({At:=0,N:=0}:aB) λaW=>some (aW,(a1==0),a0)) (bd (sL n a0.qu a1) λfI=>cn (fI.2) (bd (nO n a0.qu fI.1 a1) λfL=>lt ({a0 with qu:=fL.1}:dc) λg8=>lt ({At:=fI.1,N:=a1}:aB) λqz=>some (qz,fI.2,g8)) (lt ({At:=fI.1,N:=a1}:aB) λl6=>some (l6,fI.2,a0)))
def FO(n:Nat):CT:=cV (tW n [] [Hp n,Hl n]) ⟨12,[], .cons (.box 103 (.v (.st 31))) (.cons (.v (.int .i64)) .nil), .cons (.sE (.cons (.v (.st 5)) (.cons (.v .bool) .nil))) (.cons (.box 103 (.v (.st 31))) .nil),[some 0], .nil,[],[[0]]⟩ (a2 (oO n)) u3 m3
def gK(n:Nat)(a0:aj)(a1:Int):Option (bR×Int):=bd (br n a0.aC.T.B a1) λaW=>gu (bM aW 32)<|lt ((a0.aC.T.R (Int.toNat aW)).E:bR) λfI=>some (fI,aW)
def pG(n:Nat):CT:=cV (tW n [] [cC n]) (gy 47 [.s 29, .i] [.t [.s 19, .i]]) (a2 (gK n)) u2 m2
def dQ(n:Nat)(a0:aj)(a1:Int)(a2:bQ)(a3:(Nat->Int)):Option (aj×aH×Int):=bd (yt n a2.A a2.B) λaW=>bd (eL n a0.aC a1 a2.R 1) λiH=>lt (λ(fI:Int)=>cn ((fI !=0)) (lt ({E:=fI,V:=0,W:=0}:aH) λeC=>some (a0,eC,0)) (bd (gK n a0 a2.R) λeE=>bd (pe n eE.1 a2.A a2.B) λvK=>lt (λ(mG:Int) (vJ:Int) (So:bR)=>lt ({So with lu:=0}:bR) λMz=>cl (((decide (0<vJ))==true)&&(((a3 1)!=aW)==false)) (dS n Mz) default λEm=>cn ((decide (0<vJ)&&(((a3 1)!=aW)||(!Em)))) (lt ({E:=2,V:=0,W:=0}:aH) λBh=>some (a0,Bh,vJ)) (lt ({Mz with lu:=wr .i64 (mG+a2.A)}:bR) λx86=>gu (bM eE.2 32)<|lt ({a0 with aC:={a0.aC with T:={a0.aC.T with R:=(dy a0.aC.T.R (Int.toNat eE.2) ({(a0.aC.T.R (Int.toNat eE.2))with E:=x86}))}}}:aj) λHg=>bd (gL n x86) λQp=>gu (decide (0<=(Qp.length:Int)))<|gu (gO 0 (Int.toNat (Qp.length:Int)) 1)<|lt (List.replicate (Int.toNat (Qp.length:Int)) 0:List Int) λSH=>gu (bM eE.2 32)<|lt ((Hg.fD (Int.toNat eE.2)).take SH.length++SH.drop (Hg.fD (Int.toNat eE.2)).length:List Int) λYN=>gu (bM eE.2 32)<|lt ({Hg with fD:=(dy Hg.fD (Int.toNat eE.2) YN)}:aj) λSO=>lt ({E:=0,V:=wr .u64 mG,W:=0}:aH) λKH=>some (SO,KH,vJ))) λj50=>cn (decide (vK<0)) (bd (gL n eE.1) λYF=>gu (bM eE.2 32)<|cn (decide (((a0.aC.T.R (Int.toNat eE.2)).cu)<(wr .i64 ((wr .i64 (Int.tdiv (YF.length:Int) 32))+aW)))) (lt ({E:=6,V:=0,W:=0}:aH) λWH=>some (a0,WH,0)) (bd (gL n eE.1) λEn=>gu (gO ([]:List (Nat->Int)).length eE.1.aP.length 16)<|lt (([]:List (Nat->Int))++eE.1.aP:List (Nat->Int)) λyY=>gu (gO yY.length 1 16)<|lt (yY++([a3]):List (Nat->Int)) λx72=>lt ({eE.1 with aP:=x72}:bR) λYE=>j50 (En.length:Int) aW YE)) (j50 vK 0 eE.1))) λj26=>cn ((aW==0)) (j26 2) (j26 iH)
def vO(n:Nat):CT:=cV (tW n [(10, .join [(.slot 12,(.v (.int .i64)))] []),(34, .join [(.slot 16,(.v (.int .i64))),(.slot 17,(.v (.int .i64))),(.via 13, .box 72 (.v (.st 19))),(.via 8, .box 97 (.v (.st 29))),(.via 9, .box 124 (.v (.st 34)))] [])] [MS n,oJ n,pG n,Dz n,uC n,wW n]) (gy 22 [.s 29, .i, .s 32, .v (.oE 2 (.int .i64))] [.t [.s 29, .s 34, .i]]) (a4 (dQ n)) u3 m3
def aQ(n:Nat)(a0:aj)(a1:Int):Option (aj×aH):=lt ({E:=a1,V:=0,W:=0}:aH) λaW=>some (a0,aW)
def eY(n:Nat):CT:=cV (tW n [] []) (gy 25 [.s 29, .i] [.t [.s 29, .s 34]]) (a2 (aQ n)) u2 m2
def eo(n:Nat)(a0:aj)(a1:Int)(a2:bQ):Option (aj×aH):=lt (λ(aW:Int)=>cn ((decide (a2.B<1)||decide (8<a2.B))) (bd (aQ n a0 2) λgG=>some (gG.1,gG.2)) (bd (eL n a0.aC a1 a2.R aW) λg8=>cn ((g8 !=0)) (bd (aQ n a0 g8) λl7=>some (l7.1,l7.2)) (bd (gK n a0 a2.R) λvJ=>cn (decide (vJ.1.lu<(wr .i64 (a2.A+a2.B)))) (bd (aQ n a0 9) λA3=>some (A3.1,A3.2)) (gu (bM vJ.2 32)<|gu (gO ([]:List Int).length (a0.fD (Int.toNat vJ.2)).length 1)<|lt (([]:List Int)++(a0.fD (Int.toNat vJ.2)):List Int) λOe=>sU (λk85 (KF:(List Int)) (Em:Int) (Bh:Int)=>cn (decide (Bh<a2.B)) (cn ((a2.Do==4)) (gu (decide (0<=(wr .i64 (8*Bh))))<|gu (bM (wr .i64 (a2.A+Bh)) KF.length)<|lt ((KF.set (Int.toNat (wr .i64 (a2.A+Bh))) (wr .u8 (FW .u64 a2.V (wr .i64 (8*Bh))))):List Int) λx88=>k85 x88 Em (wr .i64 (Bh+1))) (gu (bM (wr .i64 (a2.A+Bh)) KF.length)<|gu (decide (0<=(wr .i64 (8*Bh))))<|k85 KF (wr .u64 (Em+(FX .u64 (wr .u64 (KF.getD (Int.toNat (wr .i64 (a2.A+Bh))) default)) (wr .i64 (8*Bh))))) (wr .i64 (Bh+1)))) (gu (bM vJ.2 32)<|lt ({a0 with fD:=(dy a0.fD (Int.toNat vJ.2) KF)}:aj) λQp=>lt ({E:=0,V:=Em,W:=0}:aH) λMM=>some (Qp,MM))) n Oe 0 0)))) λSw=>cn ((a2.Do==4)) (Sw 1) (Sw 0)
def Dv(n:Nat):CT:=cV (tW n [(8, .join [(.slot 8,(.v (.int .i64)))] []),(31, .loop [(.slot 12,(.row 5 1 (.int .u8))),(.slot 13,(.v (.int .u64))),(.slot 14,(.v (.int .i64)))])] [eY n,oJ n,pG n]) (gy 26 [.s 29, .i, .s 32] [.t [.s 29, .s 34]]) (a3 (eo n)) u2 m2
def iu(n:Nat)(a0:aj)(a1:Int)(a2:bQ):Option (aj×aH):=cn ((a2.Do==19)) (bd (eL n a0.aC a1 a2.R 0) λgG=>cn ((gG !=0)) (bd (aQ n a0 gG) λiH=>some (iH.1,iH.2)) (bd (yp n a0.aC.T a2.R a2.A) λl7=>lt ({E:=l7.2,V:=0,W:=l7.1}:aH) λiU=>some (a0,iU))) (bd (eL n a0.aC a1 a2.R 1) λo9=>lt (λ(xY:Int)=>cn ((xY !=0)) (bd (aQ n a0 xY) λyH=>some (yH.1,yH.2)) (bd (iD n a0.aC.O a0.aC.T a2.S) λx65=>bd (zi n a0.aC.T a2.R a2.A a2.S (x65.dx==3)) λSm=>cn ((Sm.2!=0)) (bd (aQ n a0 Sm.2) λYE=>some (YE.1,YE.2)) (lt ({a0 with aC:={a0.aC with T:=Sm.1}}:aj) λUP=>lt ({E:=0,V:=0,W:=0}:aH) λx88=>some (UP,x88)))) λj45=>cn (((o9==0)&&(a2.S !=0))) (bd (eL n a0.aC a1 a2.S 0) λBO=>j45 BO) (j45 o9))
def Du(n:Nat):CT:=cV (tW n [(20, .join [(.slot 11,(.v (.int .i64)))] [])] [oJ n,eY n,MQ n,kS n,Qs n]) (gy 32 [.s 29, .i, .s 32] [.t [.s 29, .s 34]]) (a3 (iu n)) u2 m2
def dD(n:Nat)(a0:aj)(a1:Int):Option Bool:=gu (!((decide (0<=a1)&&decide (a1<8))==true)||bM (lY .i64 a1 7) 8)<|some ((decide (0<=a1)&&decide (a1<8))&&(a0.cH (Int.toNat (lY .i64 a1 7))))
def jf(n:Nat):CT:=cV (tW n [] []) (gy 21 [.s 29, .i] [.b]) (a2 (dD n)) u1 m1
def iq(n:Nat)(a0:aj)(a1:Int)(a2:bQ):Option (aj×aH):=bd (gV n a0.aC.K a2.S) λaW=>cn ((a2.Do==13)) (cn ((aW.2!=0)) (bd (aQ n a0 aW.2) λbS=>some (bS.1,bS.2)) (cn ((aW.1.To !=a1)) (bd (aQ n a0 5) λgF=>some (gF.1,gF.2)) (bd (fY n a0.aC.K a2.S) λvK=>lt ({a0 with aC:={a0.aC with K:=vK.1}}:aj) λyH=>lt ({E:=0,V:=0,W:=0}:aH) λzK=>some (yH,zK)))) (bd (dD n a0 a2.A) λWH=>cn (((!WH)||decide (1<a2.B))) (bd (aQ n a0 2) λYi=>some (Yi.1,Yi.2)) (bd (bJ n a0.aC.T a2.R) λA2=>cn (((!A2)||((a2.S !=0)&&(aW.2!=0)))) (bd (aQ n a0 4) λOe=>some (Oe.1,Oe.2)) (bd (iD n a0.aC.O a0.aC.T a2.R) λKh=>cn ((((a2.S==0)&&((Kh.dx !=1)||(Kh.gj !=a1)))||((a2.S !=0)&&((aW.1.To !=a1)||(aW.1.Region !=a2.R))))) (bd (aQ n a0 5) λUP=>some (UP.1,UP.2)) (lt ({Region:=a2.R,By:=a1,To:=a2.A,bF:=(a2.B==1),bh:=a2.S}:cB) λx95=>bd (kI n a0.aC.K x95) λMM=>cn ((MM.2.2!=0)) (bd (aQ n a0 MM.2.2) λx97=>some (x97.1,x97.2)) (lt ({a0 with aC:={a0.aC with K:=MM.1}}:aj) λMO=>lt ({E:=0,V:=0,W:=MM.2.1}:aH) λnN=>some (MO,nN))))))
def Dt(n:Nat):CT:=cV (tW n [] [rA n,eY n,tB n,jf n,cz n,kS n,Dx n]) (gy 29 [.s 29, .i, .s 32] [.t [.s 29, .s 34]]) (a3 (iq n)) u2 m2
def fj(n:Nat)(a0:aj)(a1:Int):Option aj:=bd (iv n a0.aC.T a1) λgG=>gu (gO ([]:List (Nat->Int)).length a0.lz.length 16)<|lt (([]:List (Nat->Int))++a0.lz:List (Nat->Int)) λeE=>sU (λk58 (yH:(List (Nat->Int))) (zK:Int) (x53:aj)=>cn (decide (zK<(gG.length:Int))) (gu (bM zK gG.length)<|bd (br n x53.aC.T.B (gG.getD (Int.toNat zK) default)) λEn=>gu (bM En 32)<|gu (gO yH.length ((x53.aC.T.R (Int.toNat En)).E.aP).length 16)<|lt (yH++((x53.aC.T.R (Int.toNat En)).E.aP):List (Nat->Int)) λx65=>gu (bM En 32)<|lt ({x53 with fD:=(dy x53.fD (Int.toNat En) ([]:List Int))}:aj) λA2=>gu (bM zK gG.length)<|bd (mj n A2.aC.K (gG.getD (Int.toNat zK) default)) λJD=>lt ({A2 with aC:={A2.aC with K:=JD}}:aj) λx74=>k58 x65 (wr .i64 (zK+1)) x74) (lt ({x53 with lz:=yH}:aj) λxZ=>bd (z6 n xZ.aC.T a1) λBh=>lt ({xZ with aC:={xZ.aC with T:=Bh.1}}:aj) λOd=>some Od)) n eE 0 a0
def rz(n:Nat):CT:=cV (tW n [(9, .loop [(.slot 6,(.row 127 2 (.oE 2 (.int .i64)))),(.slot 7,(.v (.int .i64))),(.via 2, .box 97 (.v (.st 29)))])] [qJ n,cC n,BW n,Om n]) (gy 62 [.s 29, .i] [.s 29]) (a2 (fj n)) u1 m1
def kH(n:Nat)(a0:aj)(a1:Int)(a2:Int):Option aj:=bd (jq n a0.aC.O a0.aC.T a1 a2 false) λfI=>lt ({a0 with aC:={a0.aC with O:=fI.1}}:aj) λgF=>cn ((fI.2.1==0)) (bd (fj n gF a1) λg8=>some g8) (some gF)
def vN(n:Nat):CT:=cV (tW n [] [sx n,rz n]) (gy 66 [.s 29, .i, .i] [.s 29]) (a3 (kH n)) u1 m1
def nP(n:Nat)(a0:aj)(a1:Int):Option aj:=gu (bM a1 8)<|lt ({L:=[],mO:=true}:cM) λiH=>gu (bM a1 8)<|lt ({a0 with tw:=(dy a0.tw (Int.toNat a1) iH)}:aj) λfL=>gu (bM a1 8)<|lt ({fL with cH:=(dy fL.cH (Int.toNat a1) false)}:aj) λgF=>cJ (λk50 (xY:Int) (mG:aj)=>cn (decide (xY<(((a0.tw (Int.toNat a1)).L).length:Int))) (gu (bM xY ((a0.tw (Int.toNat a1)).L).length)<|lt ((((a0.tw (Int.toNat a1)).L).getD (Int.toNat xY) default):bq) λzK=>cn (((zK.Region==0)||zK.iz)) (k50 (wr .i64 (xY+1)) mG) (gu (bM zK.mA 8)<|cn ((mG.cH (Int.toNat zK.mA))) (bd (dM n mG.aC.O mG.aC.T zK.Region zK.mA 1) λzJ=>lt ({mG with aC:={mG.aC with O:=zJ.1}}:aj) λx65=>k50 (wr .i64 (xY+1)) x65) (bd (fj n mG zK.Region) λyY=>k50 (wr .i64 (xY+1)) yY))) (bd (dF n mG.aC.K (-1) a1) λxZ=>cJ (λk96 (Hg:Int) (Od:aj)=>cn (decide (Hg<(xZ.length:Int))) (gu (bM Hg xZ.length)<|bd (fY n Od.aC.K (xZ.getD (Int.toNat Hg) default)) λQd=>lt ({Od with aC:={Od.aC with K:=Qd.1}}:aj) λSP=>k96 (wr .i64 (Hg+1)) SP) (bd (jJ n Od.aC.O Od.aC.T a1 false) λKH=>cJ (λahL (Ok:Int) (Ep:aj)=>cn (decide (Ok<(KH.length:Int))) (gu (bM Ok KH.length)<|bd (fj n Ep (KH.getD (Int.toNat Ok) default)) λSN=>ahL (wr .i64 (Ok+1)) SN) (bd (jJ n Ep.aC.O Ep.aC.T a1 true) λEo=>cJ (λahJ (Oh:Int) (YH:aj)=>cn (decide (Oh<(Eo.length:Int))) (gu (bM Oh Eo.length)<|bd (kH n YH (Eo.getD (Int.toNat Oh) default) a1) λagm=>ahJ (wr .i64 (Oh+1)) agm) (some YH)) n 0 Ep)) n 0 Od)) n 0 mG)) n 0 gF
def Ew(n:Nat):CT:=cV (tW n [(11, .loop [(.slot 6,(.v (.int .i64))),(.via 2, .box 97 (.v (.st 29)))]),(29, .loop [(.slot 9,(.v (.int .i64))),(.via 2, .box 97 (.v (.st 29)))]),(39, .loop [(.slot 11,(.v (.int .i64))),(.via 2, .box 97 (.v (.st 29)))]),(49, .loop [(.slot 13,(.v (.int .i64))),(.via 2, .box 97 (.v (.st 29)))])] [qk n,rz n,mT n,tB n,Ey n,vN n]) (gy 77 [.s 29, .i] [.s 29]) (a2 (nP n)) u1 m1
def fB(n:Nat)(a0:aj)(a1:Int)(a2:bQ):Option (aj×aH):=cn ((a2.Do==20)) (bd (nP n a0 a1) λaW=>lt ({E:=0,V:=0,W:=0}:aH) λfL=>some (aW,fL)) (cn ((a2.Do==21)) (bd (dD n a0 a2.A) λgF=>cn ((!gF)) (bd (aQ n a0 2) λq9=>some (q9.1,q9.2)) (bd (nP n a0 a2.A) λo9=>lt ({E:=0,V:=0,W:=0}:aH) λuA=>some (o9,uA))) (gu (!((decide (7<a2.A))==false)||bM (lY .i64 a2.A 7) 8)<|cn ((decide (7<a2.A)||(a0.nE (Int.toNat (lY .i64 a2.A 7))))) (bd (aQ n a0 2) λA3=>some (A3.1,A3.2)) (gu (bM a2.A 8)<|lt ({a0 with cH:=(dy a0.cH (Int.toNat a2.A) true)}:aj) λSm=>gu (bM a2.A 8)<|lt ({Sm with nE:=(dy Sm.nE (Int.toNat a2.A) true)}:aj) λOe=>lt ({E:=0,V:=0,W:=0}:aH) λJD=>some (Oe,JD))))
def Ds(n:Nat):CT:=cV (tW n [] [Ew n,jf n,eY n]) (gy 33 [.s 29, .i, .s 32] [.t [.s 29, .s 34]]) (a3 (fB n)) u2 m2
def sO(n:Nat)(a0:cM):Option (cM×bq×Int):=cn (decide (0<(a0.L.length:Int))) (gu (bM 1 (a0.L.length+1))<|lt ({L:=(a0.L.drop (Int.toNat 1)),mO:=a0.mO}:cM) λfR=>gu (bM 0 a0.L.length)<|lt ((a0.L.getD (Int.toNat 0) default):bq) λeD=>some (fR,eD,0)) (cn (a0.mO) (lt ({mA:=0,u7:=0,Region:=0,iz:=false}:bq) λl7=>some (a0,l7,11)) (lt ({mA:=0,u7:=0,Region:=0,iz:=false}:bq) λl6=>some (a0,l6,10)))
def Ht(n:Nat):CT:=cV (tW n [] []) (gy 74 [.s 28] [.t [.s 28, .s 27, .i]]) (a1 (sO n)) u3 m3
def fJ(n:Nat)(a0:aj)(a1:Int)(a2:bQ):Option (aj×aH):=cn ((a2.Do==17)) (gu (bM a1 8)<|cn ((a0.tw (Int.toNat a1)).mO) (bd (aQ n a0 11) λbS=>some (bS.1,bS.2)) (gu (bM a1 8)<|lt ({a0 with tw:=(dy a0.tw (Int.toNat a1) ({(a0.tw (Int.toNat a1))with mO:=true}))}:aj) λq9=>lt ({E:=0,V:=0,W:=0}:aH) λl7=>some (q9,l7))) (gu (bM a1 8)<|bd (sO n (a0.tw (Int.toNat a1))) λo9=>cn ((o9.2.2!=0)) (bd (aQ n a0 o9.2.2) λzK=>some (zK.1,zK.2)) (gu (bM a1 8)<|lt ({a0 with tw:=(dy a0.tw (Int.toNat a1) o9.1)}:aj) λUR=>cn (((o9.2.1.Region !=0)&&(!o9.2.1.iz))) (bd (dM n UR.aC.O UR.aC.T o9.2.1.Region a1 1) λOe=>lt ({UR with aC:={UR.aC with O:=Oe.1}}:aj) λxZ=>lt ({E:=0,V:=o9.2.1.u7,W:=o9.2.1.Region}:aH) λx80=>some (xZ,x80)) (lt ({E:=0,V:=o9.2.1.u7,W:=o9.2.1.Region}:aH) λKh=>some (UR,Kh))))
def zP(n:Nat):CT:=cV (tW n [] [eY n,Ht n,qk n]) (gy 31 [.s 29, .i, .s 32] [.t [.s 29, .s 34]]) (a3 (fJ n)) u2 m2
def qL(n:Nat)(a0:cM)(a1:bq):Option (cM×Int):=cn (a0.mO) (some (a0,11)) (cn (decide (3<(a0.L.length:Int))) (some (a0,7)) (gu (gO ([]:List bq).length a0.L.length 32)<|lt (([]:List bq)++a0.L:List bq) λq9=>gu (gO q9.length 1 32)<|lt (q9++([a1]):List bq) λiU=>lt ({L:=iU,mO:=false}:cM) λl6=>some (l6,0)))
def JE(n:Nat):CT:=cV (tW n [] []) (gy 73 [.s 28, .s 27] [.t [.s 28, .i]]) (a2 (qL n)) u2 m2
def nc(n:Nat)(a0:aj)(a1:Int)(a2:Int):Option Int:=bd (iD n a0.aC.O a0.aC.T a2) λfI=>bd (bJ n a0.aC.T a2) λfL=>cn ((!fL)) (some 4) (bd (iX n a0.aC.T a2) λeE=>cn (((eE !=a2)||(fI.dx !=3))) (some 12) (gu (bM a1 8)<|cn ((!(fI.kR (Int.toNat a1)))) (some 5) (some 0)))
def vM(n:Nat):CT:=cV (tW n [] [kS n,cz n,sy n]) (gy 65 [.s 29, .i, .i] [.i]) (a3 (nc n)) u1 m1
def kG(n:Nat)(a0:aj)(a1:Int)(a2:bQ):Option (aj×aH):=bd (dD n a0 a2.A) λgG=>cn (((!gG)||decide (1<a2.B))) (bd (aQ n a0 2) λiH=>some (iH.1,iH.2)) (lt (λ(l7:aj)=>gu (bM a2.A 8)<|lt ({mA:=a1,u7:=a2.V,Region:=a2.R,iz:=((a2.R !=0)&&(a2.B==1))}:bq) λSO=>bd (qL n (l7.tw (Int.toNat a2.A)) SO) λnN=>cn ((nN.2!=0)) (bd (aQ n a0 nN.2) λKG=>some (KG.1,KG.2)) (gu (bM a2.A 8)<|lt ({l7 with tw:=(dy l7.tw (Int.toNat a2.A) nN.1)}:aj) λYK=>lt ({E:=0,V:=0,W:=0}:aH) λSN=>some (YK,SN))) λj39=>cn (((a2.R !=0)&&(a2.B==1))) (bd (nc n a0 a1 a2.R) λl6=>cn ((l6 !=0)) (bd (aQ n a0 l6) λgR=>some (gR.1,gR.2)) (bd (jq n a0.aC.O a0.aC.T a2.R a2.A true) λA3=>cn ((A3.2.2==0)) (lt ({a0 with aC:={a0.aC with O:=A3.1}}:aj) λUQ=>j39 UQ) (j39 a0))) (cn ((a2.R !=0)) (bd (eL n a0.aC a1 a2.R 2) λA2=>cn ((A2 !=0)) (bd (aQ n a0 A2) λOe=>some (Oe.1,Oe.2)) (bd (wK n a0.aC.T a2.R) λBh=>lt ({a0 with aC:={a0.aC with T:=Bh.1}}:aj) λx89=>bd (dM n x89.aC.O x89.aC.T a2.R 0 2) λMM=>lt ({x89 with aC:={x89.aC with O:=MM.1}}:aj) λKI=>j39 KI)) (j39 a0)))
def Dr(n:Nat):CT:=cV (tW n [(36, .join [(.via 3, .box 97 (.v (.st 29))),(.via 6, .box 97 (.v (.st 29))),(.via 7, .box 124 (.v (.st 34)))] [])] [jf n,eY n,vM n,sx n,oJ n,I6 n,qk n,JE n]) (gy 30 [.s 29, .i, .s 32] [.t [.s 29, .s 34]]) (a3 (kG n)) u2 m2
def cN(n:Nat)(a0:aj)(a1:Int)(a2:bQ):Option (aj×aH):=lt (λ(aW:Int)=>bd (eL n a0.aC a1 a2.R aW) λfI=>lt (λ(fR:Int)=>lt (λ(fL:Int)=>lt (λ(q9:Int)=>cn ((q9 !=0)) (bd (aQ n a0 q9) λqz=>some (qz.1,qz.2)) (cn ((a2.Do==1)) (bd (qp n a0.aC.T a2.R (if 1000<a2.A then 1000 else a2.A)) λuA=>cn ((uA.2.2!=0)) (bd (aQ n a0 uA.2.2) λuz=>some (uz.1,uz.2)) (lt ({a0 with aC:={a0.aC with T:=uA.1}}:aj) λA2=>lt (λ(x74:aj)=>lt ({E:=0,V:=0,W:=uA.2.1}:aH) λx92=>some (x74,x92)) λj77=>cn ((a2.R==0)) (bd (dM n A2.aC.O A2.aC.T uA.2.1 a1 1) λBh=>lt ({A2 with aC:={A2.aC with O:=Bh.1}}:aj) λx89=>j77 x89) (j77 A2))) (cn ((a2.Do==5)) (bd (gK n a0 a2.R) λMM=>lt ({a0 with lz:=MM.1.aP}:aj) λMO=>gu (bM MM.2 32)<|lt ({MO with fD:=(dy MO.fD (Int.toNat MM.2) ([]:List Int))}:aj) λac1=>gu (bM MM.2 32)<|lt ({Up:=0,cu:=(ac1.aC.T.R (Int.toNat MM.2)).cu,E:=bD,bC:=(λ_ =>0)}:bL) λYL=>bd (jr n ac1.aC.T a2.R YL) λanz=>lt ({ac1 with aC:={ac1.aC with T:=anz.1}}:aj) λanx=>lt ({E:=0,V:=0,W:=0}:aH) λYK=>some (anx,YK)) (cn ((a2.Do==6)) (bd (fj n a0 a2.R) λanw=>lt ({E:=0,V:=0,W:=0}:aH) λSJ=>some (anw,SJ)) (cn ((a2.Do==8)) (bd (yq n a0.aC.T a2.R a2.S) λOi=>cn ((Oi.2!=0)) (bd (aQ n a0 Oi.2) λaka=>some (aka.1,aka.2)) (lt ({a0 with aC:={a0.aC with T:=Oi.1}}:aj) λanv=>lt ({E:=0,V:=0,W:=0}:aH) λanu=>some (anv,anu))) (lt (λ(ant:Int)=>bd (wK n a0.aC.T a2.R) λans=>lt ({a0 with aC:={a0.aC with T:=ans.1}}:aj) λac0=>bd (dM n ac0.aC.O ac0.aC.T a2.R a1 ant) λanr=>lt ({ac0 with aC:={ac0.aC with O:=anr.1}}:aj) λanq=>lt ({E:=0,V:=0,W:=0}:aH) λanp=>some (anq,anp)) λala=>cn ((a2.Do==9)) (ala 3) (ala 1))))))) λj34=>cl (((fL==0)&&(a2.Do==7))==true) (iX n a0.aC.T a2.R) default λiU=>cn ((((fL==0)&&(a2.Do==7))&&(iU==a2.R))) (j34 12) (j34 fL)) λj29=>cn (((fR==0)&&(a2.Do==8))) (bd (eL n a0.aC a1 a2.S 1) λgF=>j29 gF) (j29 fR)) λj27=>cn (((a2.Do==1)&&(a2.R==0))) (j27 0) (j27 fI)) λSw=>cn (((a2.Do==1)||(a2.Do==5))) (Sw 1) (Sw 2)
def BV(n:Nat):CT:=cV (tW n [(8, .join [(.slot 8,(.v (.int .i64)))] []),(14, .join [(.slot 9,(.v (.int .i64)))] []),(18, .join [(.slot 9,(.v (.int .i64)))] []),(22, .join [(.slot 9,(.v (.int .i64)))] []),(52, .join [(.via 3, .box 97 (.v (.st 29)))] []),(34, .join [(.slot 17,(.v (.int .i64)))] [])] [oJ n,sy n,eY n,Qt n,qk n,pG n,FH n,rz n,MR n,I6 n]) (gy 27 [.s 29, .i, .s 32] [.t [.s 29, .s 34]]) (a3 (cN n)) u2 m2
def gJ(n:Nat)(a0:aj)(a1:Int)(a2:bQ):Option (aj×aH):=cl ((a2.Do==10)==true) (dD n a0 a2.A) default λaW=>cn (((a2.Do==10)&&(!aW))) (bd (aQ n a0 2) λbS=>some (bS.1,bS.2)) (bd (nc n a0 a1 a2.R) λgF=>cn ((gF !=0)) (bd (aQ n a0 gF) λq9=>some (q9.1,q9.2)) (cn ((a2.Do==11)) (bd (kH n a0 a2.R a1) λo9=>lt ({E:=0,V:=0,W:=0}:aH) λuA=>some (o9,uA)) (bd (jq n a0.aC.O a0.aC.T a2.R a2.A true) λzJ=>cn ((zJ.2.2!=0)) (bd (aQ n a0 zJ.2.2) λNk=>some (Nk.1,Nk.2)) (lt ({a0 with aC:={a0.aC with O:=zJ.1}}:aj) λxZ=>lt ({E:=0,V:=0,W:=0}:aH) λx80=>some (xZ,x80)))))
def BU(n:Nat):CT:=cV (tW n [] [jf n,eY n,vM n,vN n,sx n]) (gy 28 [.s 29, .i, .s 32] [.t [.s 29, .s 34]]) (a3 (gJ n)) u2 m2
def kg(n:Nat)(a0:aj)(a1:Int)(a2:bQ)(a3:(Nat->Int)):Option (aj×aH):=lt ({a0 with lz:=([]:List (Nat->Int))}:aj) λaW=>bd (dD n aW a1) λiH=>cn ((!iH)) (bd (aQ n aW 12) λfI=>some (fI.1,fI.2)) (cn ((a2.Do==2)) (bd (dQ n aW a1 a2 a3) λg8=>some (g8.1,g8.2.1)) (lt (λ(So:Bool)=>cn (So) (bd (eo n aW a1 a2) λyH=>some (yH.1,yH.2)) (lt (λ(uz:Bool)=>cn (uz) (bd (cN n aW a1 a2) λx61=>some (x61.1,x61.2)) (lt (λ(x71:Bool)=>cn (x71) (bd (gJ n aW a1 a2) λJD=>some (JD.1,JD.2)) (lt (λ(x83:Bool)=>cn (x83) (bd (iq n aW a1 a2) λUP=>some (UP.1,UP.2)) (cn ((a2.Do==14)) (bd (kG n aW a1 a2) λx95=>some (x95.1,x95.2)) (lt (λ(SP:Bool)=>cn (SP) (bd (fJ n aW a1 a2) λMO=>some (MO.1,MO.2)) (lt (λ(YL:Bool)=>cn (YL) (bd (iu n aW a1 a2) λKG=>some (KG.1,KG.2)) (lt (λ(agq:Bool)=>cn (agq) (bd (fB n aW a1 a2) λYJ=>some (YJ.1,YJ.2)) (bd (aQ n aW 2) λYI=>some (YI.1,YI.2))) λTP=>cn ((a2.Do==20)) (TP (a2.Do==20)) (cn ((a2.Do==21)) (TP (a2.Do==21)) (TP (a2.Do==22))))) λaaL=>cn ((a2.Do==18)) (aaL (a2.Do==18)) (aaL (a2.Do==19)))) λTQ=>cn ((a2.Do==15)) (TQ (a2.Do==15)) (cn ((a2.Do==16)) (TQ (a2.Do==16)) (TQ (a2.Do==17)))))) λj84=>cn ((a2.Do==12)) (j84 (a2.Do==12)) (j84 (a2.Do==13)))) λj72=>cn ((a2.Do==10)) (j72 (a2.Do==10)) (j72 (a2.Do==11)))) λXy=>cn ((a2.Do==1)) (Xy (a2.Do==1)) (cn ((a2.Do==5)) (Xy (a2.Do==5)) (cn ((a2.Do==6)) (Xy (a2.Do==6)) (cn ((a2.Do==7)) (Xy (a2.Do==7)) (cn ((a2.Do==8)) (Xy (a2.Do==8)) (Xy (a2.Do==9)))))))) λj48=>cn ((a2.Do==3)) (j48 (a2.Do==3)) (j48 (a2.Do==4))))
def tL(n:Nat)(a0:aj)(a1:Int)(a2:bQ)(a3:(Nat->Int)):Option (aj×aH):=lt ({a0 with lz:=([]:List (Nat->Int))}:aj) λaW=>bd (dD n aW a1) λiH=>cn ((!iH)) (bd (aQ n aW 12) λfI=>some (fI.1,fI.2)) (cn ((a2.Do==2)) (bd (dQ n aW a1 a2 a3) λg8=>some (g8.1,g8.2.1)) (jn (λ(So:Bool)=>cn (So) (bd (eo n aW a1 a2) λyH=>some (yH.1,yH.2)) (jn (λ(uz:Bool)=>cn (uz) (bd (cN n aW a1 a2) λx61=>some (x61.1,x61.2)) (jn (λ(x71:Bool)=>cn (x71) (bd (gJ n aW a1 a2) λJD=>some (JD.1,JD.2)) (jn (λ(x83:Bool)=>cn (x83) (bd (iq n aW a1 a2) λUP=>some (UP.1,UP.2)) (cn ((a2.Do==14)) (bd (kG n aW a1 a2) λx95=>some (x95.1,x95.2)) (jn (λ(SP:Bool)=>cn (SP) (bd (fJ n aW a1 a2) λMO=>some (MO.1,MO.2)) (jn (λ(YL:Bool)=>cn (YL) (bd (iu n aW a1 a2) λKG=>some (KG.1,KG.2)) (jn (λ(agq:Bool)=>cn (agq) (bd (fB n aW a1 a2) λYJ=>some (YJ.1,YJ.2)) (bd (aQ n aW 2) λYI=>some (YI.1,YI.2))) λTP=>cn ((a2.Do==20)) (TP (a2.Do==20)) (cn ((a2.Do==21)) (TP (a2.Do==21)) (TP (a2.Do==22))))) λaaL=>cn ((a2.Do==18)) (aaL (a2.Do==18)) (aaL (a2.Do==19)))) λTQ=>cn ((a2.Do==15)) (TQ (a2.Do==15)) (cn ((a2.Do==16)) (TQ (a2.Do==16)) (TQ (a2.Do==17)))))) λj84=>cn ((a2.Do==12)) (j84 (a2.Do==12)) (j84 (a2.Do==13)))) λj72=>cn ((a2.Do==10)) (j72 (a2.Do==10)) (j72 (a2.Do==11)))) λXy=>cn ((a2.Do==1)) (Xy (a2.Do==1)) (cn ((a2.Do==5)) (Xy (a2.Do==5)) (cn ((a2.Do==6)) (Xy (a2.Do==6)) (cn ((a2.Do==7)) (Xy (a2.Do==7)) (cn ((a2.Do==8)) (Xy (a2.Do==8)) (Xy (a2.Do==9)))))))) λj48=>cn ((a2.Do==3)) (j48 (a2.Do==3)) (j48 (a2.Do==4))))
theorem Ij(n:Nat)(a0:aj)(a1:Int)(a2:bQ)(a3:(Nat->Int)):tL n a0 a1 a2 a3=kg n a0 a1 a2 a3:=by unfold tL kg;simp only[ak7]
def Hr(n:Nat):CT:=cV (anC (tW n [(20, .join [(.slot 37,(.v .bool))] []),(34, .join [(.slot 46,(.v .bool))] []),(40, .join [(.slot 59,(.v .bool))] []),(46, .join [(.slot 68,(.v .bool))] []),(58, .join [(.slot 85,(.v .bool))] []),(64, .join [(.slot 95,(.v .bool))] []),(72, .join [(.slot 104,(.v .bool))] [])] [jf n,eY n,vO n,Dv n,BV n,BU n,Dt n,Dr n,zP n,Du n,Ds n])) (gy 14 [.s 29, .i, .s 32, .v (.oE 2 (.int .i64))] [.t [.s 29, .s 34]]) (a4 (kg n)) u2 m2 (hW:=λx=>Eq.trans (b:=tL n x.1 x.2.1 x.2.2.1 x.2.2.2.1) (by kernel_rfl) (Ij ..))
def nf(n:Nat)(a0:aj)(a1:Int)(a2:bQ):Option Int:=bd (dD n a0 a1) λaW=>cn (((!aW)||(a2.Do !=2))) (some 0) (lt ((λ_ =>0):(Nat->Int)) λbS=>bd (dQ n a0 a1 a2 bS) λgG=>some gG.2.2)
def Dw(n:Nat):CT:=cV (tW n [] [jf n,vO n]) (gy 10 [.s 29, .i, .s 32] [.i]) (a3 (nf n)) u1 m1
def uT(n:Nat)(a0:aj)(a1:aV):Option aV:=lt (λ(aW:aV)=>lt (λ(fR:aD)=>gu (!((decide (1<=(wr .i64 a1.S))&&decide ((wr .i64 a1.S)<=32))==true)||bM (wr .i64 ((wr .i64 a1.S)-1)) 32)<|cn (((decide (1<=(wr .i64 a1.S))&&decide ((wr .i64 a1.S)<=32))&&((fR.Is (Int.toNat (wr .i64 ((wr .i64 a1.S)-1))))==1))) (bd (eM n fR (wr .i64 ((wr .i64 a1.S)-1))) λiM=>lt ({aW with S:=wr .u32 iM}:aV) λdL=>some dL) (some aW)) λj27=>cn (((aW.Do==12)||(aW.Do==13))) (j27 a0.aC.K.B) (j27 a0.aC.T.B)) λSw=>gu (!((decide (1<=(wr .i64 a1.R))&&decide ((wr .i64 a1.R)<=32))==true)||bM (wr .i64 ((wr .i64 a1.R)-1)) 32)<|cn (((decide (1<=(wr .i64 a1.R))&&decide ((wr .i64 a1.R)<=32))&&((a0.aC.T.B.Is (Int.toNat (wr .i64 ((wr .i64 a1.R)-1))))==1))) (bd (eM n a0.aC.T.B (wr .i64 ((wr .i64 a1.R)-1))) λiH=>lt ({a1 with R:=wr .u32 iH}:aV) λfI=>Sw fI) (Sw a1)
def MU(n:Nat):CT:=cV (tW n [(8, .join [(.via 3, .box 105 (.v (.st 0)))] []),(14, .join [(.via 7, .box 69 (.v (.st 18)))] [])] [kT n]) (gy 8 [.s 29, .s 0] [.s 0]) (a2 (uT n)) u1 m1
def xE(n:Nat)(a0:aV):Option bQ:=lt ({Do:=wr .i64 a0.Do,R:=wr .i64 a0.R,S:=wr .i64 a0.S,A:=wr .i64 a0.A,B:=wr .i64 a0.B,V:=a0.V}:bQ) λaW=>some aW
def SQ(n:Nat):CT:=cV (tW n [] []) (gy 11 [.s 0] [.s 32]) (a1 (xE n)) u1 m1
def Gf(n:Nat)(a0:aX):Option bq:=lt ({mA:=wr .i64 a0.mA,u7:=a0.u7,Region:=wr .i64 a0.Region,iz:=a0.iz}:bq) λaW=>some aW
def SR(n:Nat):CT:=cV (tW n [] []) (gy 91 [.s 15] [.s 27]) (a1 (Gf n)) u1 m1
def Ai(n:Nat)(a0:bU)(a1:cM):Option Bool:=bd (sS n a0) λaW=>cl (((aW.length:Int)!=(a1.L.length:Int))==false) (vD n a0) default λdL=>cn ((((aW.length:Int)!=(a1.L.length:Int))||(dL !=a1.mO))) (some false) (eU (λk35 (gF:Int)=>cn (decide (gF<(aW.length:Int))) (gu (bM gF aW.length)<|bd (Gf n (aW.getD (Int.toNat gF) default)) λiU=>gu (bM gF a1.L.length)<|cn ((!(uj iU (a1.L.getD (Int.toNat gF) default)))) (some false) (k35 (wr .i64 (gF+1)))) (some true)) n 0)
def Oo(n:Nat):CT:=cV (tW n [(11, .loop [(.slot 6,(.v (.int .i64)))])] [BY n,FN n,SR n]) (gy 38 [.s 16, .s 28] [.b]) (a2 (Ai n)) u1 m1
def rG(n:Nat)(a0:bw)(a1:aj):Option Bool:=bd (Al n a0.aC.T a1.aC.T) λfI=>cl ((!fI)==false) (Ak n a0.aC.T a1.aC.T a0.aC.O a1.aC.O) default λgF=>cl (((!fI)||(!gF))==false) (Aj n a0.aC.K a1.aC.K) default λq9=>cn ((((!fI)||(!gF))||(!q9))) (some false) (eU (λk38 (g8:Int)=>cn (decide (g8<8)) (gu (bM g8 8)<|gu (bM g8 8)<|gu (!(((a0.cH (Int.toNat g8))!=(a1.cH (Int.toNat g8)))==false)||bM g8 8)<|gu (!(((a0.cH (Int.toNat g8))!=(a1.cH (Int.toNat g8)))==false)||bM g8 8)<|gu (!((((a0.cH (Int.toNat g8))!=(a1.cH (Int.toNat g8)))||((a0.nE (Int.toNat g8))!=(a1.nE (Int.toNat g8))))==false)||bM g8 8)<|gu (!((((a0.cH (Int.toNat g8))!=(a1.cH (Int.toNat g8)))||((a0.nE (Int.toNat g8))!=(a1.nE (Int.toNat g8))))==false)||bM g8 8)<|cl ((((a0.cH (Int.toNat g8))!=(a1.cH (Int.toNat g8)))||((a0.nE (Int.toNat g8))!=(a1.nE (Int.toNat g8))))==false) (Ai n (a0.fQ (Int.toNat g8)) (a1.tw (Int.toNat g8))) default λSo=>cn (((((a0.cH (Int.toNat g8))!=(a1.cH (Int.toNat g8)))||((a0.nE (Int.toNat g8))!=(a1.nE (Int.toNat g8))))||(!So))) (some false) (k38 (wr .i64 (g8+1)))) (some true)) n 0)
def On(n:Nat):CT:=cV (tW n [(9, .loop [(.slot 5,(.v (.int .i64)))])] [Ou n,Ot n,Oq n,Oo n]) (gy 16 [.s 17, .s 29] [.b]) (a2 (rG n)) u1 m1
def rS(n:Nat):Option Bool:=bd (uR n) λaW=>lt ({Do:=1,R:=0,S:=0,A:=4,B:=0,V:=0}:aV) λdL=>lt ({At:=0,N:=0}:aB) λeE=>bd (gN n aW 0 dL eE) λgF=>lt ({Do:=2,R:=1,S:=0,A:=8,B:=8,V:=0}:aV) λo9=>bd (iy n gF.1 0 o9) λxY=>lt ({Do:=2,R:=1,S:=0,A:=8,B:=8,V:=0}:aV) λmG=>lt ({At:=0,N:=1}:aB) λvJ=>bd (gN n gF.1 0 mG vJ) λSo=>lt ({Do:=3,R:=1,S:=0,A:=6,B:=2,V:=0}:aV) λzJ=>bd (yx n So.1 zJ) λuz=>lt ({Do:=9,R:=1,S:=0,A:=0,B:=0,V:=0}:aV) λSm=>lt ({At:=0,N:=0}:aB) λNk=>bd (gN n So.1 0 Sm Nk) λyY=>lt ({Do:=4,R:=1,S:=0,A:=0,B:=1,V:=5}:aV) λKF=>lt ({At:=0,N:=0}:aB) λx80=>bd (gN n yY.1 0 KF x80) λEm=>lt ({Do:=20,R:=0,S:=0,A:=0,B:=0,V:=0}:aV) λx92=>lt ({At:=0,N:=0}:aB) λQp=>bd (gN n Em.1 0 x92 Qp) λx94=>gu (!(((((((gF.2.1.W==1)&&(xY==1))&&(So.2.1.E==0))&&(So.2.1.V==0))&&(uz.2==0))&&((uz.1.length:Int)==2))==true)||bM 1 uz.1.length)<|cl (((((((((((((gF.2.1.W==1)&&(xY==1))&&(So.2.1.E==0))&&(So.2.1.V==0))&&(uz.2==0))&&((uz.1.length:Int)==2))&&((uz.1.getD (Int.toNat 1) default)==7))&&(yY.2.1.E==0))&&(Em.2.1.E==5))&&(x94.2.1.E==0))&&((x94.2.2.length:Int)==1))&&(!(x94.1.cH 0)))==true) (aU n x94.1.aC.T.bj.og 1) default λYN=>some (((((((((((((gF.2.1.W==1)&&(xY==1))&&(So.2.1.E==0))&&(So.2.1.V==0))&&(uz.2==0))&&((uz.1.length:Int)==2))&&((uz.1.getD (Int.toNat 1) default)==7))&&(yY.2.1.E==0))&&(Em.2.1.E==5))&&(x94.2.1.E==0))&&((x94.2.2.length:Int)==1))&&(!(x94.1.cH 0)))&&(!YN))
def MT(n:Nat):CT:=cV (tW n [] [Eb n,y9 n,vX n,DA n,bH n]) (gy 4 [] [.b]) (λx=>rS n) u1 m1
def yo(n:Nat):Option aj:=lt ({fX with cH:=(dy fX.cH 0 true)}:aj) λaW=>lt ({aW with nE:=(dy aW.nE 0 true)}:aj) λiH=>some iH
def MP(n:Nat):CT:=cV (tW n [] []) (gy 6 [] [.s 29]) (λx=>yo n) u1 m1
def nR(n:Nat)(a0:(List jl)):Option Bool:=cn (decide (100<(a0.length:Int))) (bd (rS n) λaW=>some aW) (bd (uR n) λbS=>bd (yo n) λiM=>bd (F1 n 64) λxY=>lt ({qu:=xY}:dc) λYF=>Ln (λk95 (xZ:Int) (Mz:dc) (Em:aj) (Kh:bw) (WG:aj) (Hg:bw)=>cn (decide (xZ<(a0.length:Int))) (gu (bM xZ a0.length)<|gu (bM xZ a0.length)<|bd (uT n WG ((a0.getD (Int.toNat xZ) default).C)) λQd=>bd (iy n Hg (wr .i64 ((a0.getD (Int.toNat xZ) default).gj)) Qd) λSH=>bd (xE n Qd) λagv=>bd (nf n WG (wr .i64 ((a0.getD (Int.toNat xZ) default).gj)) agv) λagu=>cn ((SH !=agu)) (some false) (bd (oO n Mz SH) λFx=>cn ((!Fx.2.1)) (k95 (wr .i64 (xZ+1)) Fx.2.2 Em Kh WG Hg) (bd (gN n Hg (wr .i64 ((a0.getD (Int.toNat xZ) default).gj)) Qd Fx.1) λnN=>bd (xE n Qd) λags=>lt ((dy (dy (λ_ =>0) 0 Fx.1.At) 1 Fx.1.N):(Nat->Int)) λagr=>bd (kg n WG (wr .i64 ((a0.getD (Int.toNat xZ) default).gj)) ags agr) λsq=>cl (((((nN.2.1.E !=sq.2.E)||((wr .i64 nN.2.1.W)!=sq.2.W))||((Qd.Do !=3)&&(nN.2.1.V !=sq.2.V)))||((nN.2.2.length:Int)!=(sq.1.lz.length:Int)))==false) (nQ n Fx.2.2 nN.2.2) default λSM=>lt (bif (((((nN.2.1.E !=sq.2.E)||((wr .i64 nN.2.1.W)!=sq.2.W))||((Qd.Do !=3)&&(nN.2.1.V !=sq.2.V)))||((nN.2.2.length:Int)!=(sq.1.lz.length:Int)))==false)then SM.2 else Fx.2.2:dc) λSJ=>cl ((((((nN.2.1.E !=sq.2.E)||((wr .i64 nN.2.1.W)!=sq.2.W))||((Qd.Do !=3)&&(nN.2.1.V !=sq.2.V)))||((nN.2.2.length:Int)!=(sq.1.lz.length:Int)))||(!SM.1))==false) (rG n nN.1 sq.1) default λagp=>cn (((((((nN.2.1.E !=sq.2.E)||((wr .i64 nN.2.1.W)!=sq.2.W))||((Qd.Do !=3)&&(nN.2.1.V !=sq.2.V)))||((nN.2.2.length:Int)!=(sq.1.lz.length:Int)))||(!SM.1))||(!agp))) (some false) (cn ((xZ==(wr .i64 (Int.tdiv (a0.length:Int) 2)))) (k95 (wr .i64 (xZ+1)) SJ sq.1 nN.1 sq.1 nN.1) (k95 (wr .i64 (xZ+1)) SJ Em Kh sq.1 nN.1))))) (bd (rG n Kh Em) λOi=>cl (Oi==true) (rS n) default λago=>some (Oi&&ago))) n 0 YF iM bS iM bS)
def rC(n:Nat)(a0:(List jl)):Option Bool:=cn (decide (100<(a0.length:Int))) (bd (rS n) λaW=>some aW) (bd (uR n) λbS=>bd (yo n) λiM=>bd (F1 n 64) λxY=>lt ({qu:=xY}:dc) λYF=>Ln (λk95 (xZ:Int) (Mz:dc) (Em:aj) (Kh:bw) (WG:aj) (Hg:bw)=>cn (decide (xZ<(a0.length:Int))) (gu (bM xZ a0.length)<|gu (bM xZ a0.length)<|bd (uT n WG ((a0.getD (Int.toNat xZ) default).C)) λQd=>bd (iy n Hg (wr .i64 ((a0.getD (Int.toNat xZ) default).gj)) Qd) λSH=>bd (xE n Qd) λagv=>bd (nf n WG (wr .i64 ((a0.getD (Int.toNat xZ) default).gj)) agv) λagu=>cn ((SH !=agu)) (some false) (bd (oO n Mz SH) λFx=>cn ((!Fx.2.1)) (k95 (wr .i64 (xZ+1)) Fx.2.2 Em Kh WG Hg) (bd (gN n Hg (wr .i64 ((a0.getD (Int.toNat xZ) default).gj)) Qd Fx.1) λnN=>bd (xE n Qd) λags=>lt ((dy (dy (λ_ =>0) 0 Fx.1.At) 1 Fx.1.N):(Nat->Int)) λagr=>bd (kg n WG (wr .i64 ((a0.getD (Int.toNat xZ) default).gj)) ags agr) λsq=>cn ((((nN.2.1.E !=sq.2.E)||((wr .i64 nN.2.1.W)!=sq.2.W))||((Qd.Do !=3)&&(nN.2.1.V !=sq.2.V)))||((nN.2.2.length:Int)!=(sq.1.lz.length:Int))) (some false) (bd (nQ n Fx.2.2 nN.2.2) λSM=>lt SM.2 λSJ=>cl ((!SM.1)==false) (rG n nN.1 sq.1) default λagp=>cn ((!SM.1)||(!agp)) (some false) (cn ((xZ==(wr .i64 (Int.tdiv (a0.length:Int) 2)))) (k95 (wr .i64 (xZ+1)) SJ sq.1 nN.1 sq.1 nN.1) (k95 (wr .i64 (xZ+1)) SJ Em Kh sq.1 nN.1)))))) (bd (rG n Kh Em) λOi=>cl (Oi==true) (rS n) default λago=>some (Oi&&ago))) n 0 YF iM bS iM bS)
theorem E0(n:Nat)(a0:List jl):rC n a0=nR n a0:=by unfold rC nR;simp only[← adR]
def EC(n:Nat):CT:=cV (tW n [(15, .loop [(.slot 8,(.v (.int .i64))),(.via 7, .box 103 (.v (.st 31))),(.via 6, .box 97 (.v (.st 29))),(.via 5, .box 65 (.v (.st 17))),(.via 4, .box 97 (.v (.st 29))),(.via 3, .box 65 (.v (.st 17)))])] [MT n,Eb n,MP n,WJ n,MU n,vX n,SQ n,Dw n,FO n,y9 n,Hr n,EB n,On n]) (gy 3 [.v (.sl (.st 1))] [.b]) (a1 (nR n)) u1 m1 (hW:=λx=>Eq.trans (b:=rC n x.1) (by kernel_rfl) (E0 ..))
end
end Go.Proofs.Z
namespace Go.Proofs.Z
open Go Go.Bw
def Ac(m:aX):bq:=⟨m.mA,m.u7,m.Region,m.iz⟩
structure UL(m:aX):Prop where
 f:0<=m.mA/\m.mA<8
 r:0<=m.Region/\m.Region<4294967296
def jo(b:bU)(k:Nat):List aX:=(List.range k).map λi=>b.ring ((b.iS.toNat+i)%4)
structure Fp(b:bU)(v:cM):Prop where
 f:0<=b.iS/\b.iS<4
 n:b.n=v.L.length
 l:v.L.length<=4
 c:b.closed=v.mO
 m:v.L=(jo b v.L.length).map Ac
 r:∀x∈jo b v.L.length,UL x
theorem xq(b:bU)(k:Nat):(jo b k).length=k:=by simp[jo]
theorem QK(b:bU){k i:Nat}(h:i<k):(jo b k)[i]? =some (b.ring ((b.iS.toNat+i)%4)):=by simp[jo,h]
theorem TL{n:Nat}{b:bU}{i:Int}(h:0<=b.iS/\b.iS<4)(h0:0<=i)(h1:i<100):rQ n b i=some ((b.iS+i)%4):=by unfold rQ;rw[aL (by omega) (by omega),K5 (by omega)]
theorem Vt{b:bU}{i:Nat}(h:0<=b.iS/\b.iS<4):((b.iS+(i:Int))%4).toNat=(b.iS.toNat+i)%4:=by omega
theorem aaM{α:Type}(sz:Nat)(hs:sz<=100)(l x:List α)(h:x.length+l.length<=1000):tQ (λ(e:α) k (y:List α)=>lt (e:α) λz=>gu (gO y.length 1 sz)<|lt (y++([z]):List α) λu=>k u) (λ(y:List α)=>some y) l x=some (x++l):=by
 induction l generalizing x with
 |nil=>simp[tQ]
 |cons a l ih=>rw[List.length_cons]at h;have e:gO x.length 1 sz=true:=fq (Nat.le_trans (Nat.mul_le_mul (show x.length+1<=1000 by omega) hs) (by decide)) (by omega);have:=ih (x++[a]) (by simp;omega);refine Eq.trans ?_ (this.trans (by simp));show gu (gO x.length 1 sz) _ =_;rw[au e];rfl
theorem aaz{n:Nat}(hn:10<=n){b:bU}{v:cM}(r:Fp b v):ru n b=some (jo b v.L.length):=by
 have hl:=r.l;unfold ru;refine C9 (λ(i:Int)=>(jo b v.L.length).drop i.toNat) (λi=>0<=i/\i<=v.L.length) (λi=>((v.L.length:Int)-i).toNat) ?_ n 0 ⟨by omega,by omega⟩ (by omega);rintro k i ⟨i0,i1⟩ ih;have hf:=r.f;rw[r.n];by_cases c:i<v.L.length
 ·have e1:((i.toNat:Nat):Int)=i:=by omega
  have e2:=Vt (b:=b) (i:=i.toNat) hf;rw[e1]at e2;rw[ak (apw c),ah (TL hf i0 (by omega)),au (bG (by omega) (by omega)),aL (by omega) (by omega),ih (i+1) ⟨by omega,by omega⟩ (by omega),e2];have hc:i.toNat<(jo b v.L.length).length:=by rw[xq];omega
  rw[List.drop_eq_getElem_cons hc,show(i+1).toNat=i.toNat+1 by omega];unfold yl;have:(jo b v.L.length)[i.toNat]=b.ring ((b.iS.toNat+i.toNat)%4):=by have:=QK b (k:=v.L.length) (i:=i.toNat) (by omega);rw[apB hc]at this;exact Option.some.inj this
  rw[this];rfl
 ·rw[ae (apD c),List.drop_of_length_le (by rw[xq];omega)]
theorem Vu{n:Nat}(hn:10<=n){b:bU}{v:cM}(r:Fp b v):sS n b=some (jo b v.L.length):=by have hl:=r.l;have h:=aaM 24 (by decide) (jo b v.L.length) [] (by rw[xq];simp;omega);rw[List.nil_append]at h;unfold sS;exact(ah rfl).trans ((ah (aaz hn r)).trans h)
theorem aho{n:Nat}{m:aX}(h:UL m):Gf n m=some (Ac m):=by have:=h.f;have:=h.r;unfold Gf;rw[aL (by omega) (by omega),aL (by omega) (by omega)];rfl
theorem eqM(x:bq):uj x x=true:=by simp[uj]
theorem aav{n:Nat}(hn:10<=n){b:bU}{v:cM}(r:Fp b v):Ai n b v=some true:=by
 have hl:=r.l;unfold Ai;rw[ah (Vu hn r),xq];have e:vD n b=some v.mO:=by rw[← r.c];rfl
 have e1:(((v.L.length:Nat):Int)!=(v.L.length:Int))=false:=by simp
 rw[e1,amn e,ae (by simp)];refine fK (λ(i:Int)=>0<=i/\i<=v.L.length) (λi=>((v.L.length:Int)-i).toNat) (λo=>o=some true) ?_ n 0 ⟨by omega,by omega⟩ (by omega);rintro k i ⟨i0,i1⟩ ih;by_cases c:i<v.L.length
 ·have hc:i.toNat<(jo b v.L.length).length:=by rw[xq];omega
  have hm:=r.r _ (fT hc);have hv:v.L.getD i.toNat default=Ac ((jo b v.L.length).getD i.toNat default):=by
   have e2:i.toNat<v.L.length:=by omega
   rw[eS e2,eS hc];have h3:((jo b v.L.length).map Ac)[i.toNat]'(by rw[List.length_map,xq];exact e2)=Ac (jo b v.L.length)[i.toNat]:=List.getElem_map _;rw[← h3];congr 1;exact r.m
  rw[ak (apw c),au (bG i0 c),ah (aho hm),au (bG i0 c),hv,eqM,ae (b:= !true) rfl,aL (by omega) (by omega)];exact ih _ ⟨by omega,by omega⟩ (by omega)
 ·rw[ae (apD c)]
theorem W5(b:bU)(k:Nat):jo b (k+1)=jo b k++[b.ring ((b.iS.toNat+k)%4)]:=by unfold jo;rw[List.range_succ,List.map_append];rfl
theorem Tk{b b':bU}{k:Nat}(h:∀i,i<k->b.ring ((b.iS.toNat+i)%4)=b'.ring ((b'.iS.toNat+i)%4)):jo b k=jo b' k:=by unfold jo;refine List.map_congr_left λi hi=>h i ?_;simpa using hi
theorem ad6{n:Nat}{b:bU}{v:cM}(r:Fp b v){m:aX}(hm:UL m):
  ∃b' v' e,sQ n b m=some (b',e)/\qL n v (Ac m)=some (v',e)/\(e≠0->b'=b/\v'=v)/\(e=0->Fp b' v'/\v'.L=v.L++[Ac m])/\(0<=e/\e<100):=by
 have hl:=r.l;unfold sQ qL;rw[r.c];cases hc:v.mO with
 |true=>exact⟨b,v,11,rfl,rfl,λ_ =>⟨rfl,rfl⟩,λh=>absurd h (by decide),by decide⟩
 |false=>
  rw[ae rfl,ae rfl,r.n];by_cases h4:v.L.length=4
  ·rw[ak (by rw[h4];rfl),ak (apw (by omega))]
   exact⟨b,v,7,rfl,rfl,λ_ =>⟨rfl,rfl⟩,λh=>absurd h (by decide),by decide⟩
  ·have hf:=r.f
   rw[ae (by simp;omega),ae (apD (by omega)),ah (TL hf (by omega) (by omega)),au (bG (by omega) (by omega)),aJ,aJ,List.nil_append,
    au (fq (by simp;omega) (by simp;omega)),aJ,au (fq (by omega) (by omega)),aJ,aJ]
   refine⟨_,_,0,rfl,rfl,λh=>absurd rfl h,λ_ =>⟨?_,rfl⟩,by decide⟩;have e2:=Vt (b:=b) (i:=v.L.length) hf;have key:jo ⟨dy b.ring ((b.iS+(v.L.length:Int))%4).toNat m,b.iS,wr .i64 (b.n+1),b.closed⟩ (v.L.length+1)=jo b v.L.length++[m]:=by rw[W5,e2];exact congr (congrArg _ (Tk λi hi=>jx _ _ (by dsimp only;omega))) (congrArg (λx=>[x]) (pI _ _ _))
   have hlen:(v.L++[Ac m]).length=v.L.length+1:=by simp
   refine⟨hf,?_,?_,?_,?_,?_⟩
   ·show wr .i64 ((v.L.length:Int)+1)=(v.L++[Ac m]).length
    rw[aL (by omega) (by omega),hlen];rfl
   ·show(v.L++[Ac m]).length<=4
    omega
   ·rfl
   ·show v.L++[Ac m]=(jo _ (v.L++[Ac m]).length).map Ac
    rw[hlen];refine Eq.trans ?_ (congrArg (List.map Ac) key).symm;rw[List.map_append, ← r.m];rfl
   ·show∀x∈jo _ (v.L++[Ac m]).length,_
    rw[hlen];intro x hx;have hx:x∈jo b v.L.length++[m]:=key▸hx;rcases List.mem_append.1 hx with h|h
    ·exact r.r x h
    ·rw[List.mem_singleton.1 h];exact hm
theorem aau{n:Nat}{b:bU}{v:cM}(r:Fp b v):
  ∃b' v' m e,ux n b=some (b',m,e)/\sO n v=some (v',Ac m,e)/\UL m/\(e≠0->b'=b/\v'=v)/\(e=0->Fp b' v'/\v.L=Ac m::v'.L)/\(0<=e/\e<100):=by
 have hl:=r.l;have hf:=r.f;unfold ux sO;rw[r.c,r.n];by_cases h0:v.L.length=0
 ·rw[ae (x:=gu _ _) (apD (by omega))]
  have e0:(((v.L.length:Nat):Int)==0)=true:=by rw[h0];rfl
  rw[e0];cases hc:v.mO with
  |true=>exact⟨b,v,⟨0,0,0,false⟩,11,rfl,rfl,⟨by decide,by decide⟩,λ_ =>⟨rfl,rfl⟩,λh=>absurd h (by decide),by decide⟩
  |false=>exact⟨b,v,⟨0,0,0,false⟩,10,rfl,rfl,⟨by decide,by decide⟩,λ_ =>⟨rfl,rfl⟩,λh=>absurd h (by decide),by decide⟩
 ·have e0:(((v.L.length:Nat):Int)==0)=false:=by rw[beq_eq_false_iff_ne];omega
  obtain⟨x,l,hx⟩:∃x l,v.L=x::l:=by
   cases h:v.L with
   |nil=>rw[h]at h0;exact absurd rfl h0
   |cons x l=>exact⟨x,l,rfl⟩
  have hlen:v.L.length=l.length+1:=by rw[hx];rfl
  rw[e0,ae (by rfl),ae (by rfl),au (bG hf.1 hf.2),aJ,ah (TL hf (by omega) (by omega)),aJ,aJ,ak (apw (by omega)),au (bG (by omega) (by rw[hlen];omega)),aJ,au (bG (by omega) (by omega)),aJ];have hm0:b.ring b.iS.toNat∈jo b v.L.length:=by have:=QK b (k:=v.L.length) (i:=0) (by omega);rw[show(b.iS.toNat+0)%4=b.iS.toNat by omega]at this;exact List.mem_of_getElem? this
  have afZ:jo b v.L.length=b.ring b.iS.toNat::jo ⟨b.ring,(b.iS+1)%4,wr .i64 ((v.L.length:Int)-1),b.closed⟩ l.length:=by
   rw[hlen];unfold jo;rw[List.range_succ_eq_map,List.map_cons,List.map_map];refine congr (congrArg _ (congrArg _ (by omega))) (List.map_congr_left λi hi=>?_)
   ·show b.ring ((b.iS.toNat+(i+1))%4)=b.ring ((((b.iS+1)%4).toNat+i)%4)
    congr 1;omega
  have hv:=r.m;rw[afZ,hx,List.map_cons]at hv;obtain⟨hv1,hv2⟩:=List.cons.inj hv;have ed:(v.L.drop (Int.toNat 1))=l:=by rw[hx];rfl
  have eg:(v.L.getD (Int.toNat 0) default)=Ac (b.ring b.iS.toNat):=by rw[hx];exact hv1
  refine⟨_,⟨l,v.mO⟩,b.ring b.iS.toNat,0,rfl,by rw[ed,eg],r.r _ hm0,λh=>absurd rfl h,λ_ =>⟨⟨?_,?_,?_,?_,?_,?_⟩,?_⟩,by decide⟩
  ·show 0<=(b.iS+1)%4/\_
   exact⟨by omega,by dsimp only;omega⟩
  ·show wr .i64 ((v.L.length:Int)-1)=l.length
   rw[aL (by omega) (by omega)];omega
  ·show l.length<=4
   omega
  ·rfl
  ·exact hv2
  ·intro y hy
   exact r.r y (afZ▸apE _ hy)
  ·rw[hx];exact congrArg (· ::l) hv1
theorem aaB{b:bU}{v:cM}(r:Fp b v):Fp {b with closed:=true} {v with mO:=true}:=⟨r.f,r.n,r.l,rfl,r.m,r.r⟩
theorem Xr{n:Nat}(hn:10<=n){b:bU}{v:cM}(r:Fp b v):sR n b=some (⟨λ_ =>fU,0,0,true⟩,jo b v.L.length):=by unfold sR;rw[aJ,ah (Vu hn r)]
theorem aaA:Fp ⟨λ_ =>fU,0,0,true⟩ ⟨[],true⟩:=⟨by decide,rfl,by decide,rfl,rfl,λx h=>by cases h⟩
theorem abW:Fp ⟨λ_ =>fU,0,0,false⟩ ⟨[],false⟩:=⟨by decide,rfl,by decide,rfl,rfl,λx h=>by cases h⟩
end Go.Proofs.Z
