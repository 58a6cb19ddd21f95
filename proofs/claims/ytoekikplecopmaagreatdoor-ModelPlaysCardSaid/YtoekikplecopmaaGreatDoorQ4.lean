/- Part 4 of what a proof leans on; pruned and shortened by a program out of longer texts. -/
import Derived.Test.YtoekikplecopmaaGreatDoorQ3
namespace Go.Rw
open Go Go.Bw Go.RowKit
variable {G:Sg} {P:Program}
theorem L4{α:Type}{k:Nat}{vs:List Value}{pre:World->Prop}{qd R:List aO}{p:α->Prop}{fv:α->Value}{fH:α->List aO}{w:World}(hc:Bw.Fn P k vs pre qd p fv fH)(hp:cI (cy (qd++R)) w.heap.size (qd++R) w)(hpre:pre w){Q:Ending->World->Prop}
  (h:∀i w',p i->bI (cy (qd++R)) w w'->cI (cy (qd++R)) w.heap.size (fH i++R) w'->Q (.returned (fv i)) w'):Calls P k vs.toArray w Q:=by
 have hap:=List.pairwise_append.1 hp.apart;have hin:cI (cy qd) w.heap.size qd w:=⟨λr hr=>hp.holds r (apz _ hr),λr hr b hb=>⟨.inl (bO.2 ⟨r,hr,hb⟩),(hp.own r (apz _ hr) b hb).2⟩,hap.1⟩;have hkeep:∀{w':World},bI (cy qd) w w'->∀r∈R,r.holds w'/\∀b∈r.eW,b<w'.heap.size:=λhsi r hr=>by have hlt:∀b∈r.eW,b<w.heap.size:=λb hb=>(hp.own r (apy _ hr) b hb).2;refine⟨aO.oy (hp.holds r (apy _ hr)) hsi.size λb hb=>hsi.block b (hlt b hb) λhm=>?_,λb hb=>Nat.lt_of_lt_of_le (hlt b hb) hsi.size⟩;obtain⟨q,hq,hbq⟩:=bO.1 hm;exact hap.2.2 q hq r hr b hbq hb
 have hown:∀b∈cy qd,b∈cy (qd++R)\/w.heap.size<=b:=λb hb=>by obtain⟨q,hq,hbq⟩:=bO.1 hb;exact .inl (bO.2 ⟨q,apz _ hq,hbq⟩)
 refine(hc.calls w hpre hin).mono λe w' hq=>?_;obtain⟨i,hpi,he,hsi,hh⟩:=hq;subst he;have Bf:=hkeep hsi;refine h i w' hpi ((bI.refl _ _).trans hsi hown) ⟨λr hm=>?_,λr hm b hb=>?_,List.pairwise_append.2 ⟨hh.apart,hap.2.1,λr h1 s h2 b hb VJ=>?_⟩⟩
 ·rcases List.mem_append.1 hm with h1|h1
  ·exact hh.holds r h1
  ·exact(Bf r h1).1
 ·rcases List.mem_append.1 hm with h1|h1
  ·obtain⟨o,l⟩:=hh.own r h1 b hb
   refine⟨?_,l⟩;rcases o with o|o
   ·exact hown b o
   ·exact .inr o
  ·exact⟨(hp.own r (apy _ h1) b hb).1,(Bf r h1).2 b hb⟩
 ·obtain⟨o,_⟩:=hh.own r h1 b hb
  rcases o with o|o
  ·obtain⟨q,hq,hbq⟩:=bO.1 o
   exact hap.2.2 q hq s h2 b hbq VJ
  ·exact absurd ((hp.own s (apy _ h2) b VJ).2) (by omega)
theorem XM{k e sz:Nat}{t:Ty}[bW (t.L G)]{f:List (t.T G)->Option (List (t.T G))}(hn:(t.L G).n=sz)(hc:∀v0 a0 r,wI v0 a0.length->f a0=some r->Bw.Fn (α:=Value) P k [v0] (YA (cy [nF v0 e sz (t.L G) a0]) (λ_ =>True)) [nF v0 e sz (t.L G) a0] (λv=>v=v0/\wI v r.length) (λ_ => .tuple #[]) (λv=>[nF v e sz (t.L G) r])):
  UO P ⟨k,[], .cons (.row e sz t) .nil, .cons (.sE .nil) (.cons (.row e sz t) .nil),[some 0], .nil,[],[[0]]⟩ (RV _ (λx=>f x.1) (λz=>(z,()))) (λ_ _ =>False):=by
 intro ρ J HS HK X w vs x hv hO hrd hp hk hfr;refine⟨λy ⟨z,hz,e1⟩=>?_,λy h=>h.elim⟩;subst e1;obtain⟨v0,r0,rfl,h0,hr⟩:=hv;obtain rfl:r0=[]:=hr;cases hO with
 |cons ho hO2=>
  cases hO2;obtain⟨v1,ws,h1,rfl,h3,h4,h5⟩:=ho;have hv1:=yj h0 h1;subst hv1;have hws:ws=fW (t.L G) x.1:=by exact(bW.iff.1 h4).trans (jH (t.L G) (x.1:List (t.T G))).symm
  subst hws;refine L4 (qd:=[nF v0 e sz (t.L G) x.1]) (R:=HK++X) (hc v0 x.1 z h3 hz) hp (λ_ _ =>trivial) λi w' ⟨e2,h6⟩ hs H8=>?_;subst e2;refine⟨_,rfl,(bV.set (λ_ =>none) 0 i),J,[],_,[i],λ_ h=>h,?_, .cons ⟨i,_,bV.ou _ _ _,rfl,h6,bW.iff.2 (jH _ _),hn⟩ .nil,H8,hs,hk,λa b hab=>?_,λr hr=>by have hr:1<=r:=hr;simp[bV.set];omega⟩
  ·obtain⟨a0,cp,rfl⟩:=h6
   exact⟨_,_,rfl,⟨_,rfl,rfl⟩,_,_,rfl,⟨_,_,_,bV.ou _ _ _,rfl⟩,rfl⟩
  ·cases a with
   |zero=>cases hab;rw[bV.ou];exact h1.symm
   |succ a=>simp at hab
theorem abt{k e sz:Nat}{t:Ty}[bW (t.L G)]{β:Type}{f:Int->Option β}(hn:(t.L G).n=sz)(hc:∀a1 r,f a1=some r->Bw.Fn (α:=Value) P k [.slice none 0 0, .int .i64 a1] (λ_ =>True) [] (λv=>wI v 0) (λv=>v) (λv=>[nF v e sz (t.L G) []])):
  UO (G:=G) P ⟨k,[], .cons .pR (.cons (.v (.int .i64)) .nil), .cons (.row e sz t) .nil,[none], .nil,[],[]⟩ (RV _ (λx=>bd (f x.1) λ_ =>some []) (λz=>(z,()))) (λ_ _ =>False):=by
 intro ρ J HS HK X w vs x hv hO hrd hp hk hfr;refine⟨λy ⟨z,hz,e1⟩=>?_,λy h=>h.elim⟩;subst e1;obtain⟨r,hr,hz⟩:=vG hz;cases hz;obtain⟨u0,r0,rfl,h0,u1,r1,rfl,h1,h2⟩:=hv;cases h0;obtain rfl:r1=[]:=h2;have h1:[u1]=[Value.int .i64 x.1]:=h1;cases h1;cases hO;refine L4 (qd:=[]) (R:=HK++X) (hc x.1 r hr) hp trivial λi w' hi hs H8=>?_;refine⟨_,rfl,(bV.set (λ_ =>none) 0 i),J,[],_,[],λ_ h=>h,?_, .cons ⟨i,_,bV.ou _ _ _,rfl,hi,bW.iff.2 (jH _ _),hn⟩ .nil,H8,hs,hk,λa b hab=>?_,λr hr=>by have hr:1<=r:=hr;simp[bV.set];omega⟩
 ·obtain⟨a0,cp,rfl⟩:=hi
  exact⟨_,_,rfl,⟨_,_,_,bV.ou _ _ _,rfl⟩,rfl⟩
 ·cases a with
  |zero=>cases hab
  |succ a=>simp at hab
def aoS{k e sz:Nat}{t:Ty}{β:Type}(f:Int->Option β)(hf:(LH P k).isSome=true)(ok:UO (G:=G) P ⟨k,[], .cons .pR (.cons (.v (.int .i64)) .nil), .cons (.row e sz t) .nil,[none], .nil,[],[]⟩ (RV _ (λx=>bd (f x.1) λ_ =>some []) (λz=>(z,()))) (λ_ _ =>False)):Ct P G where
 s:=⟨k,[], .cons .pR (.cons (.v (.int .i64)) .nil), .cons (.row e sz t) .nil,[none], .nil,[],[]⟩
 R:=RV _ (λx=>bd (f x.1) λ_ =>some []) (λz=>(z,()))
 Rp:=λ_ _ =>False
 cp:=λx ko _ =>bd (f x.1) λ_ =>ko ([],())
 cg:=λ_ _ _ =>none
 cps:=λx ko kp z h=>by obtain⟨y,h1,h2⟩:=vG h;exact .inl ⟨([],()),⟨[],by show bd (f x.1) _ =_;rw[h1];rfl,rfl⟩,h2⟩
 cgs:=λg x k z h=>by cases h
 fn:=by
  cases h:LH P k with
  |none=>rw[h]at hf;cases hf
  |some fi=>exact Ib h
 ok:=ok
theorem VX{Z:Type}{s:Fs}{f:HI G s->Option Z}{mu:Z->HL G (bz s.dZ)}(h0:∀x:HI G s,(s.bl x).2.1=[])(h1:∀y:HL G (bz s.dZ),(iL (λm=>m) s.dZ y 0).2.1=[])(h2:s.nm=[])
  (hc:∀(ρ:bV) (R:List aO) (x:HI G s) (z:Z) (vs:List Value),WD G (Hs R)->f x=some z->rl (Hs R) ρ (s.bl x).1 vs->∃p,FnB P s.k vs (Hs R) p/\∀J v,p J v->rl (λw=>Hs R w/\J w) (λ_ =>none) (iL (λm=>m) s.dZ (mu z) 0).1 [v]):UO P s (RV s f mu) (λ_ _ =>False):=by
 intro ρ J HS HK X w vs x hv hO hrd hp hk hfr;refine⟨λy ⟨z,hz,e1⟩=>?_,λy h=>h.elim⟩;subst e1;rw[h0]at hO;cases hO;obtain⟨p,hF,hp1⟩:=hc ρ X x z vs (hk.gl.mono hk.to) hz (hv.mono hk.to);have hX:Hs X w:=λr hr=>⟨hp.holds r (apy _ (apy _ hr)),λb hb=>(hp.own r (apy _ (apy _ hr)) b hb).2⟩;refine L4 (qd:=[]) (R:=HK++X) hF hp hX λi w' hi hs H8=>?_;obtain⟨q,q1,q2,q3⟩:=Yz.one (J:=λw=>J w/\Hs X w) ⟨λw' hw=>⟨hk.to w' hw,hw⟩,hk.ex,hk.gl.mono λ_ h=>h.1⟩ (x:= .ext i.2.1 i.2.2) (w:=w') (H8.holds _ List.mem_cons_self) λb hb=>(H8.own _ List.mem_cons_self b hb).2;refine⟨_,rfl,λ_ =>none,_,[q],[],[],λ_ h=>h.1.1,(hp1 _ _ hi).mono λw h=>⟨h.1.2,h.2⟩,?_,?_,hs,q3,λa b hab=>(by rw[h2]at hab;cases hab),λ_ _ =>rfl⟩
 ·rw[h1];exact .nil
 ·have hx:=List.pairwise_cons.1 H8.apart
  have ht:cI _ w.heap.size (HK++X) w':=⟨λr hr=>H8.holds r (apE _ hr),λr hr=>H8.own r (apE _ hr),hx.2⟩;have:=ht.cons (r:=q) q1 (λb hb=>H8.own _ List.mem_cons_self b (by rw[← q2];exact hb)) λs hs b hb=>hx.1 s hs b (by rw[← q2];exact hb);exact this.qt List.perm_middle.symm
theorem zx{ct:Ct P G}{R qd:List aO}{ρ:bV}{x:HI G ct.s}{y:HL G (bz ct.s.dZ)}{v:Value}{vs:List Value}(hz:ct.R x y)(hgl:WD G (Hs R))(hv:∀J:World->Prop,(∀w,J w->Hs R w)->rl J ρ (ct.s.bl x).1 vs)(h0:(ct.s.bl x).2.1=[])(h1:(iL (λm=>m) ct.s.dZ y 0).2.1=[])
  (hro:∀J:World->Prop,(∀w,J w->Hs R w)->∀r o,gw (ct.s.ro x) r=some o->∃z∈qd,ro J ρ r o z)(hfr:ρ.fr (ct.s.bl x).2.2)(hout:∀(J:World->Prop) (σ:bV) u us,rl J σ (iL (λm=>m) ct.s.dZ y 0).1 (u::us)->u=v):
  Bw.Fn (α:=Unit) P ct.s.k vs (YA (cy qd) (Hs R)) qd (λ_ =>True) (λ_ =>v) (λ_ =>qd):=by
 refine⟨λargs w=>?_,λw hpre hp=>?_⟩
 ·obtain⟨fn,k1,k2,k3⟩:=ct.fn
  obtain⟨code,k2⟩:=Option.isSome_iff_exists.1 k2;have k3:fn.name≠ "runtime.NumGoroutine" :=λe=>by rw[e]at k3;simp at k3
  simp[callFunc,k1,k2,k3,Go.mark]
 ·have qT:∀b,b∈(List.range w.heap.size).filter (λb=> !decide (b∈cy qd))↔b<w.heap.size/\b∉cy qd:=λb=>by simp
  generalize(List.range w.heap.size).filter (λb=> !decide (b∈cy qd))=bs at qT;have st:∀w1:World,(aO.ext bs λw'=>w.heap.size<=w'.heap.size/\∀b∈bs,w'.heap[b]? =w.heap[b]?).holds w1->w.heap.size<=w1.heap.size/\∀b∈bs,w1.heap[b]? =w.heap[b]? :=λw1 h=>h w1 (Nat.le_refl _) λ_ _ =>rfl;have hx:(aO.ext bs λw'=>w.heap.size<=w'.heap.size/\∀b∈bs,w'.heap[b]? =w.heap[b]?).holds w:=λw' h1 h2=>⟨h1,h2⟩;have hxb:(aO.ext bs λw'=>w.heap.size<=w'.heap.size/\∀b∈bs,w'.heap[b]? =w.heap[b]?).eW=bs:=rfl;generalize(aO.ext bs λw'=>w.heap.size<=w'.heap.size/\∀b∈bs,w'.heap[b]? =w.heap[b]?)=x0 at st hx hxb;have key:∀w',Hs [x0] w'->Hs R w':=λw' h=>by
   have h1:=st w' (h _ List.mem_cons_self).1;have h2:=hpre {w with heap:=w'.heap} ⟨rfl,rfl,rfl,h1.1,λk hk hn=>h1.2 k ((qT k).2 ⟨hk,hn⟩)⟩
   exactλr hr=>⟨aO.oy (h2 r hr).1 (Nat.le_refl _) λ_ _ =>rfl,(h2 r hr).2⟩
  have hk:Yz G [x0] (Hs [x0]):=⟨λ_ h=>h,λw1 w2 h1 h2 b hb=>by
   have hb:b∈bs:=by simpa[cy,hxb]using hb
   rw[(st w1 (h1 _ List.mem_cons_self).1).2 b hb,(st w2 (h2 _ List.mem_cons_self).1).2 b hb],hgl.mono key⟩
  have hin:∀b∈cy qd,b∈cy ([]++(qd++[x0])):=λb hb=>by simp[cy]at hb ⊢;exact .inl hb
  have H8:cI (cy ([]++(qd++[x0]))) w.heap.size ([]++(qd++[x0])) w:=by
   refine(cI.cons (r:=x0) (⟨hp.holds,λr hr b hb=>⟨.inl (hin b (bO.2 ⟨r,hr,hb⟩)),(hp.own r hr b hb).2⟩,hp.apart⟩:cI (cy ([]++(qd++[x0]))) w.heap.size qd w) hx (λb hb=>?_) λs hs b hb VJ=>?_).qt (List.perm_append_comm (l₁:=[x0]))
   ·exact⟨.inl (bO.2 ⟨x0,by simp,hb⟩),((qT b).1 (hxb▸hb)).1⟩
   ·exact((qT b).1 (hxb▸hb)).2 (bO.2 ⟨s,hs,VJ⟩)
  refine((ct.ok ρ (Hs [x0]) [] qd [x0] w vs x (hv _ key) (by rw[h0];exact .nil) (hro _ key) H8 hk hfr).1 y hz).mono λen w' hq=>?_;obtain⟨u,e1,σ,J',Y,HS',us,mJ,hr,hO,hp3,hsi,hkn,_,_⟩:=hq;rw[h1]at hO;cases hO;have hsub:qd.Sublist ([]++(qd++(Y++[x0]))):=by simp
  refine⟨(),trivial,e1.trans (by rw[hout _ _ _ _ hr]),⟨hsi.os,hsi.tape,hsi.output,hsi.size,λk hk hn=>?_⟩,⟨λr hr=>hp3.holds r (hsub.subset hr),λr hr b hb=>⟨.inl (bO.2 ⟨r,hr,hb⟩),(hp3.own r (hsub.subset hr) b hb).2⟩,hp3.apart.sublist hsub⟩⟩;exact(st w' (hp3.holds x0 (by simp))).2 k ((qT k).2 ⟨hk,hn⟩)
theorem abn{α:Type}[Inhabited α]{A:World->Prop}{v:Value}{L:dI α}[bW L]{xs:List α}(h:Fz A v L xs):DZ A v L (fW L xs) xs:=⟨h.sl,bW.iff.2 (jH L xs),h.ro⟩
theorem al0{α:Type}[Inhabited α]{A:World->Prop}{v:Value}{L:dI α}[bW L]{ws:List Value}{xs:List α}(h:DZ A v L ws xs):Fz A v L xs:=by have e:ws=fW L xs:=(bW.iff.1 h.fz).trans (jH L xs).symm;subst e;exact⟨h.sl,h.ro⟩
theorem Xs{α:Type}[Inhabited α]{A:World->Prop}{L:dI α}[bW L]{cs:List Value}{xs:List α}(h:(WC L).fz A cs xs):(Qc L).fz A cs xs:=by obtain⟨v,e,h⟩:=h;exact⟨v,_,e,abn h⟩
theorem ahv{α:Type}[Inhabited α]{A:World->Prop}{L:dI α}[bW L]{cs:List Value}{xs:List α}(h:(Qc L).fz A cs xs):(WC L).fz A cs xs:=by obtain⟨v,_,e,h⟩:=h;exact⟨v,e,al0 h⟩
theorem ain{k:Nat}{vs:List Value}{K:World->Prop}{v:Value}(h:FnW P k vs K v):FnB P k vs K λ_ u=>u=v:=⟨h.enter,λw hw hp=>(h.calls w hw hp).mono λe w' hq=>by
 obtain⟨_,_,e1,h2,h3⟩:=hq;exact⟨(v,[],λ_ =>True),rfl,e1,h2,(h3:cI _ _ [] w').cons (r:= .ext [] λ_ =>True) (λ_ _ _ =>trivial) (λb hb=>by cases hb) λs hs=>by cases hs⟩⟩
theorem Fn.pre{α:Type}{k:Nat}{vs:List Value}{K K':World->Prop}{qd:List aO}{p:α->Prop}{fv:α->Value}{fH:α->List aO}(h:Bw.Fn P k vs K qd p fv fH)(m:∀w,K' w->K w):Bw.Fn P k vs K' qd p fv fH:=⟨h.enter,λw hw hp=>h.calls w (m w hw) hp⟩
theorem aeL{k:Nat}{vs vs':List Value}{K K':World->Prop}{p:(World->Prop)->Value->Prop}(h:FnB P k vs K p)(m:∀w,K' w->K w)(e:vs=vs'):FnB P k vs' K' p:=by subst e;exact⟨h.enter,λw hw hp=>h.calls w (m w hw) hp⟩
theorem HJ{J:World->Prop}{ρ:bV}{b:AV G}{t:Ty}{x:t.T G}{vs:List Value}(h:rl J ρ (.cons (.dat t x) b) vs)(ha:t.ag=true):∃(cs r:List Value),vs= .agg cs.toArray::r/\(t.L G).fz J cs x/\rl J ρ b r:=by obtain⟨u,r,rfl,⟨u',e,h1,h2,_⟩,h3⟩:=h;cases e;obtain⟨cs,rfl⟩:=h2 ha;exact⟨cs,r,rfl,h1,h3⟩
theorem OP{J:World->Prop}{ρ:bV}{b:AV G}{k:IntKind}{i:Int}{vs:List Value}(h:rl J ρ (.cons (.int k i) b) vs):∃r:List Value,vs= .int k i::r/\rl J ρ b r:=by obtain⟨u,r,rfl,h1,h3⟩:=h;have h1:[u]=[.int k i]:=h1;cases h1;exact⟨r,rfl,h3⟩
theorem Il{J:World->Prop}{ρ:bV}{t:Ty}{x:t.T G}{cs:List Value}(h:(t.L G).fz J cs x)(ha:t.ag=true):rl J ρ (.dat t x) [.agg cs.toArray]:=⟨_,rfl,h,λ_ =>⟨_,rfl⟩,λq=>by rw[ha]at q;cases q⟩
theorem afG{J:World->Prop}{ρ:bV}{e:Ty}[bW (e.L G)]{xs:List (e.T G)}{u:Value}(h:Fz J u (e.L G) xs):rl (G:=G) J ρ (.dat (.sl e) xs) [u]:=by obtain⟨a,cp,rfl⟩:=h.sl;exact⟨_,rfl,⟨_,_,rfl,abn h⟩,nofun,λ_ =>rfl⟩
theorem agb{α β γ:Type}{a:Option α}{f:α->Option β}{h:β->Option γ}:bd (bd a f) h=bd a λy=>bd (f y) h:=by cases a<;>rfl
theorem adR{α β:Type}{c:Bool}{G:Option (Bool×β)}{d:Bool×β}{o:β}{S:Option Bool}{a:Option α}{R:β->Bool->Option α}:cn c a (bd G λx=>lt x.2 λy=>cl ((!x.1)==false) S default λz=>cn ((!x.1)||(!z)) a (R y z))=
  cl (c==false) G d λx=>lt (bif (c==false)then x.2 else o) λy=>cl ((c||(!x.1))==false) S default λz=>cn ((c||(!x.1))||(!z)) a (R y z):=by cases c<;>rfl
theorem amu{α β:Type}{c:Bool}{a b:Option α}{h:α->Option β}:bd (cn c a b) h=cn c (bd a h) (bd b h):=by cases c<;>rfl
theorem amt{α β:Type}{c:Bool}{a:Option α}{h:α->Option β}:bd (gu c a) h=gu c (bd a h):=by cases c<;>rfl
theorem Rd{α β:Type}{F:(Int->Option α)->Int->Option α}{F':(Int->Option β)->Int->Option β}{h:α->Option β}(k:∀K i,bd (F K i) h=F' (λi=>bd (K i) h) i):∀(n:Nat) (i:Int),bd (eU F n i) h=eU F' n i
 |0,_ =>rfl
 |n+1,i=>by show bd (F (eU F n) i) h=F' (eU F' n) i;rw[k,funext λi=>Rd k n i]
end Go.Rw
namespace Go.Proofs.Z
open Go Go.Bw
instance:kz Tryz.prog 3 ([.int .i64 0]):=⟨by kernel_rfl⟩
instance:s9 Tryz.prog 4:=⟨by kernel_rfl⟩
instance:s9 Tryz.prog 24:=⟨by kernel_rfl⟩
instance:wH Tryz.prog 26 3:=⟨by kernel_rfl⟩
instance:GN Tryz.prog 26 0 0:=⟨by kernel_rfl⟩
instance:GN Tryz.prog 26 1 1:=⟨by kernel_rfl⟩
instance:TPl Tryz.prog 26 [(0,1),(1,1),(2,1)]:=⟨by kernel_rfl⟩
instance:UI Tryz.prog 26 [(0,some .u32),(1,none),(2,none)]:=⟨by kernel_rfl⟩
instance:kz Tryz.prog 26 ([.int .u32 0, .bool false, .bool false]):=⟨by kernel_rfl⟩
instance:DM Tryz.prog 27 32 26 3:=⟨by kernel_rfl⟩
instance:wH Tryz.prog 29 96:=⟨by kernel_rfl⟩
instance:GN Tryz.prog 29 0 0:=⟨by kernel_rfl⟩
instance:s9 Tryz.prog 32:=⟨by kernel_rfl⟩
instance:kz Tryz.prog 32 ([.int .u32 0]):=⟨by kernel_rfl⟩
instance:s9 Tryz.prog 33:=⟨by kernel_rfl⟩
instance:zG Tryz.prog 33 115 2:=⟨by kernel_rfl⟩
instance:P7 Tryz.prog 33 115 2 16:=⟨by kernel_rfl⟩
instance:wH Tryz.prog 35 2:=⟨by kernel_rfl⟩
instance:TPl Tryz.prog 35 [(0,1),(1,1)]:=⟨by kernel_rfl⟩
instance:kz Tryz.prog 35 ([.slice none 0 0, .int .i64 0]):=⟨by kernel_rfl⟩
instance:wH Tryz.prog 50 5:=⟨by kernel_rfl⟩
instance:TPl Tryz.prog 50 [(0,1),(1,1),(2,1),(3,1),(4,1)]:=⟨by kernel_rfl⟩
instance:kz Tryz.prog 50 ([.int .u32 0, .int .u8 0, .int .u8 0, .bool false, .int .u32 0]):=⟨by kernel_rfl⟩
instance:DM Tryz.prog 51 16 50 5:=⟨by kernel_rfl⟩
instance:wH Tryz.prog 53 176:=⟨by kernel_rfl⟩
instance:s9 Tryz.prog 79:=⟨by kernel_rfl⟩
instance:zG Tryz.prog 79 3 1:=⟨by kernel_rfl⟩
instance:P7 Tryz.prog 79 3 1 8:=⟨by kernel_rfl⟩
instance:s9 Tryz.prog 80:=⟨by kernel_rfl⟩
instance:zG Tryz.prog 80 194 10:=⟨by kernel_rfl⟩
instance:P7 Tryz.prog 80 194 10 24:=⟨by kernel_rfl⟩
instance:wH Tryz.prog 82 2:=⟨by kernel_rfl⟩
instance:GN Tryz.prog 82 0 0:=⟨by kernel_rfl⟩
instance:GN Tryz.prog 82 1 1:=⟨by kernel_rfl⟩
instance:TPl Tryz.prog 82 [(0,1),(1,1)]:=⟨by kernel_rfl⟩
instance:kz Tryz.prog 82 ([.slice none 0 0, .slice none 0 0]):=⟨by kernel_rfl⟩
instance:wH Tryz.prog 115 2:=⟨by kernel_rfl⟩
instance:kz Tryz.prog 115 ([.int .i64 0, .int .i64 0]):=⟨by kernel_rfl⟩
instance:wH Tryz.prog 194 10:=⟨by kernel_rfl⟩
instance:kz Tryz.prog 194 ([.int .i64 0, .int .i64 0, .bool false, .bool false, .bool false, .bool false, .bool false, .bool false, .bool false, .bool false]):=⟨by kernel_rfl⟩
instance:zG Tryz.prog 207 32 1:=⟨by kernel_rfl⟩
instance:P7 Tryz.prog 207 32 1 4:=⟨by kernel_rfl⟩
instance:s9 Tryz.prog 292:=⟨by kernel_rfl⟩
instance:s9 Tryz.prog 336:=⟨by kernel_rfl⟩
theorem aaw:Tryz.prog.follows .mixedOrders=true:=by kernel_rfl
end Go.Proofs.Z
namespace Go.Proofs.Z
open Go Go.Bw
def tb:Tb:=⟨[(7,[(0,0),(1,1),(2,2),(3,3)]),(8,[(0,0),(1,1),(2,2),(3,3)]),(13,[(0,0),(1,1)]),(14,[(0,0),(1,1)]),(18,[(0,0)]),(19,[(0,0)]),(25,[(0,0),(1,1),(2,2)]),(26,[(0,0),(1,1),(2,2)]),(28,[(0,0)]),(29,[(0,0)]),(30,[(0,0)]),(31,[(0,0)]),(34,[(0,0),(1,1)]),(35,[(0,0),(1,1)]),(37,[(0,0),(1,1),(2,2),(3,4)]),(38,[(0,0),(1,1),(2,2),(3,4)]),(40,[(0,0),(1,96)]),(41,[(0,0),(1,96)]),(42,[(0,0),(1,1),(2,2)]),(43,[(0,0),(1,1),(2,2)]),(44,[(0,0),(1,1)]),(45,[(0,0),(1,1)]),(47,[(0,0)]),(48,[(0,0)]),(49,[(0,0),(1,1),(2,2),(3,3),(4,4)]),(50,[(0,0),(1,1),(2,2),(3,3),(4,4)]),(52,[(0,0),(1,96)]),(53,[(0,0),(1,96)]),(54,[(0,0),(1,480),(2,608)]),(55,[(0,0),(1,480),(2,608)]),(57,[(0,0),(1,1),(2,2),(3,3)]),(58,[(0,0),(1,1),(2,2),(3,3)]),(60,[(0,0),(1,16),(2,17),(3,18)]),(61,[(0,0),(1,16),(2,17),(3,18)]),(64,[(0,0),(1,784),(2,936),(3,944)]),(65,[(0,0),(1,784),(2,936),(3,944)]),(68,[(0,0),(1,32)]),(69,[(0,0),(1,32)]),(71,[(0,0),(1,1)]),(72,[(0,0),(1,1)]),(74,[(0,0),(1,1),(2,2),(3,4)]),(75,[(0,0),(1,1),(2,2),(3,4)]),(77,[(0,0),(1,64)]),(78,[(0,0),(1,64)]),(81,[(0,0),(1,1)]),(82,[(0,0),(1,1)]),(83,[(0,0),(1,1),(2,2),(3,3),(4,4)]),(84,[(0,0),(1,1),(2,2),(3,3),(4,4)]),(86,[(0,0),(1,64)]),(87,[(0,0),(1,64)]),(88,[(0,0),(1,448),(2,450)]),(89,[(0,0),(1,448),(2,450)]),(91,[(0,0),(1,1)]),(92,[(0,0),(1,1)]),(96,[(0,0),(1,674),(2,690),(3,698),(4,706),(5,738)]),(97,[(0,0),(1,674),(2,690),(3,698),(4,706),(5,738)]),(99,[(0,0)]),(100,[(0,0)]),(102,[(0,0)]),(103,[(0,0)]),(104,[(0,0),(1,1),(2,2),(3,3),(4,4),(5,5)]),(105,[(0,0),(1,1),(2,2),(3,3),(4,4),(5,5)]),(106,[(0,0),(1,1)]),(107,[(0,0),(1,1)]),(111,[(0,0),(1,1),(2,2),(3,3),(4,4),(5,5)]),(112,[(0,0),(1,1),(2,2),(3,3),(4,4),(5,5)]),(114,[(0,0),(1,1)]),(115,[(0,0),(1,1)]),(119,[(0,0),(1,1),(2,2)]),(120,[(0,0),(1,1),(2,2)]),(123,[(0,0),(1,1),(2,2)]),(124,[(0,0),(1,1),(2,2)]),(136,[(0,0),(1,952),(2,953),(3,959),(4,961),(5,962),(6,963)]),(137,[(0,0),(1,952),(2,953),(3,959),(4,961),(5,962),(6,963)]),(193,[(0,0),(1,1),(2,2)]),(194,[(0,0),(1,1),(2,2)]),(200,[(0,0),(1,1),(2,2),(3,3)]),(201,[(0,0),(1,1),(2,2),(3,3)]),(261,[(0,0),(1,1),(2,2),(3,3)]),(262,[(0,0),(1,1),(2,2),(3,3)]),(272,[(0,0),(1,1),(2,2),(3,3),(4,4),(5,5),(6,6),(7,7),(8,8),(9,9),(10,10)]),(273,[(0,0),(1,1),(2,2),(3,3),(4,4),(5,5),(6,6),(7,7),(8,8),(9,9),(10,10)])],[(2, .i64),(3, .i64),(5, .u8),(6, .u8),(12, .u64),(21, .i32),(24, .u32),(32, .u32),(56, .u64),(118, .i64),(157, .u64),(266, .u8),(267, .u8),(270, .i32),(271, .i32)]⟩
instance:Sd Tryz.prog tb:=⟨by kernel_rfl⟩
end Go.Proofs.Z
namespace Go.Bw
open Go Go.RowKit
section
variable {P:Program} {N:Nat} {c:Cx} {F:gC} {H:List aO} {d:Option Tmp} {ty:TypeId} {ps:String} {af:Array Edge} {g:Option (Nat×Bool)} {β:Type} {b:Nat} {q:IntKind} {E:β->Value} {l:List (Int×β)} {f:aO->List aO}
theorem IA{x y z:Operand}{t kt e:TypeId}{k:Int}{v:Value}(u:β)[ht:Mc P t kt e q](hx:ev F x=some (.map (some b)))(hy:ev F y=some (.int q k))(hz:ev F z=some v)[hm:Ke H b β q E l f](hv:v=E u):
  RX (α:=Unit) P N c ⟨d, .insert t x y z,ty,ps,af,g⟩ F H (λ_ =>True) (λ_ =>undef) (λ_ =>f (Mp b q E (qF l k u))):=λD a w next Q hst hk=>by
 subst hv;obtain⟨es,clock,h1,h2⟩:=hm.aeD hst.hp;obtain⟨t1,t2⟩:=ht.ok;have hf:=vB (k:=k) w t2 h2;have hc:∀em,(Instr.checkKey em 10000 kt (.int q k)).run P w= .ok () w:=λem=>MapKept.run_checkKey (k:= .int q k) t2 (show q=q from rfl) em 9999;cases hm1:jt l k with
 |none=>obtain⟨p1,p2⟩:=hm.put hst h1 (h2.push k u);refine tO (by simp) (w':=w.putObj b (.map (es.push ⟨.int q k,E u,clock⟩) (clock+1))) ?_ (hk () _ trivial p1 (by rw[HV hm1];exact p2));rw[hm1]at hf;simp[execOp,bB hst.fr hx,bB hst.fr hy,bB hst.fr hz,Instr.mapUpdate,run_underlying t1,MapKept.run_getObj_map h1,hc,hf,MapKept.run_setObj_map _ h1,Result.andThen,World.putObj]
 |some p=>
  have hg:=C6 (j:=p.1) (y:=p.2) hm1;obtain⟨p1,p2⟩:=hm.put hst h1 (h2.modify p.1 k u);refine tO (by simp) (w':=w.putObj b (.map (es.modify p.1 λe=>{e with key:= .int q k,val:=E u}) clock)) ?_ (hk () _ trivial p1 (by rw[HU (j:=p.1) (y:=p.2) hm1];exact p2));rw[hm1]at hf;have hkey:((es[p.1]?).map (·.key))=some (.int q k):=by
   have:(es.toList.map λe=>(e.key,e.val))[p.1]? =some (Value.int q k,E p.2):=by rw[h2.kv,List.getElem?_map,hg];rfl
   rw[List.getElem?_map,Array.getElem?_toList]at this;cases he:es[p.1]? with
   |none=>simp[he]at this
   |some e0=>simp[he]at this;simp[this.1]
  simp[execOp,bB hst.fr hx,bB hst.fr hy,bB hst.fr hz,Instr.mapUpdate,run_underlying t1,MapKept.run_getObj_map h1,hc,hf,hkey,MapKept.run_keyThatStays (show MapKept.IsKey (.int q) (.int q k)from rfl),MapKept.run_setObj_map _ h1,Result.andThen,World.putObj]
theorem AN{l:List (Int×Value)}{x y:Operand}{t kt e:TypeId}{k:Int}(z v:Value)(bb:Bool)[ht:Mc P t kt e q][hz:Yx P e z](hx:ev F x=some (.map (some b)))(hy:ev F y=some (.int q k))[hm:Ke H b Value q (λv=>v) l f](h1:qQ l k z=v)(h2:zl l k=bb):
  VS P N c ⟨d, .lookup t x y true,ty,ps,af,g⟩ F H (.tuple #[v, .bool bb]):=by
 subst h1 h2;haveI:Yx P e ((λv:Value=>v) z):=hz;exact UE (E:=λv:Value=>v) z hx hy
theorem Vq{u0 u1 u2 z:Value}{k:Int}(h0:¬k=0)(h1:¬k=1)(h2:¬k=2):qQ (qF (qF (qF [] 0 u0) 1 u1) 2 u2) k z=z/\zl (qF (qF (qF [] 0 u0) 1 u1) 2 u2) k=false:=by
 show qQ [(0,u0),(1,u1),(2,u2)] k z=z/\zl [(0,u0),(1,u1),(2,u2)] k=false;have e0:(k==0)=false:=by simpa using h0
 have e1:(k==1)=false:=by simpa using h1
 have e2:(k==2)=false:=by simpa using h2
 simp[qQ,zl,jt,e0,e1,e2]
end
end Go.Bw
namespace Go.Proofs.Z
open Go Go.Bw Go.Rw Go.RowKit
noncomputable section
theorem RN:ajH Tryz.prog 237 118 1 (λ(e:Int)=>([.int .i64 e]:List Value)):=by
 have hf:=Tryz.func237;refine⟨λargs w=>?_,λb w=>?_,λb Tb xs e w hn hb=>?_⟩
 ·have h1:Tryz.f237.name≠ "runtime.NumGoroutine" :=by
   intro h;have:(Tryz.f237.name== "runtime.NumGoroutine")=false:=by kernel_rfl
   rw[h]at this;simp at this
  have h2:Tryz.f237.body.isSome=true:=by kernel_rfl
  obtain⟨code,h2⟩:=Option.isSome_iff_exists.1 h2;simp[callFunc,hf,h1,h2,Go.mark]
 ·refine callsDIn_of_wpSIn hf rfl trivial λc₀ cs hu=>?_
  apply wpSIn_seq;apply wpSIn_region;simp[wpOpsSIn,go_sem,recoverD,hu,Tryz.ntmps237,Exit.thenS];apply wpSIn_seq;apply wpSIn_region;simp[wpOpsSIn,go_sem,recoverD,hu,Tryz.ntmps237,Exit.thenS];refine wpSIn_cond (t:=false) (by simp[Act.eval,Array.replicate]) ?_;simp only[Bool.false_eq_true,if_false];refine wpSIn_of_wpIn rfl (wpIn_skip ?_);cases c₀;simp_all[bodyPostS,results,bI.refl]
 ·have hi:Tryz.prog.underlying 118=some (.int .i64):=by kernel_rfl
  refine callsDIn_of_wpSIn hf rfl trivial λc₀ cs hu=>?_;apply wpSIn_seq;apply wpSIn_region;simp[wpOpsSIn,go_sem,recoverD,hu,Tryz.ntmps237,Exit.thenS];refine wpSIn_of_wpIn rfl ?_;have key:WP Tryz.prog Tryz.f237.ntmps ⟨none,w,[b]⟩ [] (match Tryz.f237.body with
   |some (.seq _ y)=>y
   |_ => .skip) (λen a' w'=>(en= .normal\/en= .ret)/\a'.defers=[]/\bI [b] w w'/\w'.heap[b]? =some (.cells ((λ(e:Int)=>([.int .i64 e]:List Value)) e).toArray Tb (0,0))) [(2, .iface 118 (.int .i64 e)),(0,gk b 0)] [.cells b Tb xs]:=by
   refine AK ?_;refine rW ?_;refine cO rfl (dK rfl) ?_;refine cO (v:= .bool true) rfl (bp (by simp) λa w hf _ _ =>by
    have h6:=hf 6 _ rfl;have he:=run_equal_held_nil (P:=Tryz.prog) w 20 118 (.int .i64 e) (by kernel_rfl);simp[execOp,go_sem,Act.eval,h6,eqGuard,binOp,he]) ?_
   refine AL ?_;refine wF ?_;refine R9 rfl (λhc=>?_) (λhc=>?_);rotate_left
   ·cases hc
   refine AK ?_;refine rW ?_;refine cO rfl (dK rfl) ?_;refine cO (v:= .tuple #[.int .i64 e, .bool true]) rfl (bp (by simp) λa w hf _ _ =>by simp[execOp,bB hf (x:= .tmp 9) rfl,Instr.typeAssert,run_underlying hi]) ?_;refine cO rfl (dK rfl) ?_;refine cO rfl (uf rfl rfl) ?_;refine cO rfl (uf rfl rfl) ?_;refine cO rfl (wO rfl) ?_;refine cO rfl (wO rfl) ?_;refine AL ?_;refine wF ?_;refine AK ?_;refine AK ?_;refine rW ?_;refine cO rfl (dK rfl) ?_;refine cO rfl (Iy rfl) ?_;refine AL ?_;refine wF ?_;refine R9 rfl (λhc=>?_) (λhc=>?_)
   ·cases hc
   refine Kx ?_;refine wF ?_;haveI:UH Tryz.prog 118 1:=⟨by kernel_rfl⟩;refine rW ?_;refine cO rfl (dK rfl) ?_;refine cO rfl (dK rfl) ?_;refine cO rfl (CF rfl) ?_;refine Jv (vg (n:=1) (vs:=[.int .i64 e]) (cs':=[.int .i64 e]) rfl rfl rfl rfl (by rw[hn];decide) (AT rfl) (by
    match xs,hn with
    |[_],_ =>rfl)) (λ_ _ =>?_)
   refine AL ?_
   exactλa w' hst=>⟨.inl rfl,hst.df,hst.si,hst.hp.holds (.cells b Tb ((λ(e:Int)=>([.int .i64 e]:List Value)) e)) (by simp)⟩
  refine wpIn_mono (key _ w ⟨by simp[Tryz.ntmps237],λd v h=>?_,rfl,bI.refl _ _,?_⟩) λen a' w' ⟨h1,h2,h3,h4⟩=>?_
  ·simp only[lk]at h
   cases h0:Nat.beq 2 d with
   |true=>rw[h0]at h;obtain rfl:=apu h0;cases h;simp
   |false=>
    rw[h0]at h;simp only[cond_false]at h;cases h00:Nat.beq 0 d with
    |true=>rw[h00]at h;obtain rfl:=apu h00;cases h;simp
    |false=>rw[h00]at h;cases h
  ·refine(cI.nil _ _ _).cons hb (λb' hb'=>?_) (λs hs=>by cases hs)
   have e2:b'=b:=by simpa[aO.eW]using hb'
   subst e2;exact⟨.inl (by simp),(apA.1 hb).1⟩
  ·rcases h1 with rfl|rfl
   ·exact⟨h2,_,rfl,_,by simp[results];rfl,⟨_,rfl⟩,rfl,h3,h4⟩
   ·exact⟨h2,_,rfl,_,by simp[results];rfl,⟨_,rfl⟩,rfl,h3,h4⟩
theorem AB:ajH Tryz.prog 43 118 3 (λ(e:Int)=>(eJ.enc ⟨e,0,0⟩:List Value)):=by
 have hf:=Tryz.func43;refine⟨λargs w=>?_,λb w=>?_,λb Tb xs e w hn hb=>?_⟩
 ·have h1:Tryz.f43.name≠ "runtime.NumGoroutine" :=by
   intro h;have:(Tryz.f43.name== "runtime.NumGoroutine")=false:=by kernel_rfl
   rw[h]at this;simp at this
  have h2:Tryz.f43.body.isSome=true:=by kernel_rfl
  obtain⟨code,h2⟩:=Option.isSome_iff_exists.1 h2;simp[callFunc,hf,h1,h2,Go.mark]
 ·refine callsDIn_of_wpSIn hf rfl trivial λc₀ cs hu=>?_
  apply wpSIn_seq;apply wpSIn_region;simp[wpOpsSIn,go_sem,recoverD,hu,Tryz.ntmps43,Exit.thenS];apply wpSIn_seq;apply wpSIn_region;simp[wpOpsSIn,go_sem,recoverD,hu,Tryz.ntmps43,Exit.thenS];refine wpSIn_cond (t:=false) (by simp[Act.eval,Array.replicate]) ?_;simp only[Bool.false_eq_true,if_false];refine wpSIn_of_wpIn rfl (wpIn_skip ?_);cases c₀;simp_all[bodyPostS,results,bI.refl]
 ·have hi:Tryz.prog.underlying 118=some (.int .i64):=by kernel_rfl
  refine callsDIn_of_wpSIn hf rfl trivial λc₀ cs hu=>?_;apply wpSIn_seq;apply wpSIn_region;simp[wpOpsSIn,go_sem,recoverD,hu,Tryz.ntmps43,Exit.thenS];refine wpSIn_of_wpIn rfl ?_;have key:WP Tryz.prog Tryz.f43.ntmps ⟨none,w,[b]⟩ [] (match Tryz.f43.body with
   |some (.seq _ y)=>y
   |_ => .skip) (λen a' w'=>(en= .normal\/en= .ret)/\a'.defers=[]/\bI [b] w w'/\w'.heap[b]? =some (.cells ((λ(e:Int)=>(eJ.enc ⟨e,0,0⟩:List Value)) e).toArray Tb (0,0))) [(1, .iface 118 (.int .i64 e)),(0,gk b 0)] [.cells b Tb xs]:=by
   refine AK ?_;refine rW ?_;refine cO rfl (dK rfl) ?_;refine cO (v:= .bool true) rfl (bp (by simp) λa w hf _ _ =>by
    have h6:=hf 5 _ rfl;have he:=run_equal_held_nil (P:=Tryz.prog) w 20 118 (.int .i64 e) (by kernel_rfl);simp[execOp,go_sem,Act.eval,h6,eqGuard,binOp,he]) ?_
   refine AL ?_;refine wF ?_;refine R9 rfl (λhc=>?_) (λhc=>?_);rotate_left
   ·cases hc
   refine AK ?_;refine rW ?_;refine cO rfl (dK rfl) ?_;refine cO (v:= .tuple #[.int .i64 e, .bool true]) rfl (bp (by simp) λa w hf _ _ =>by simp[execOp,bB hf (x:= .tmp 8) rfl,Instr.typeAssert,run_underlying hi]) ?_;refine cO rfl (dK rfl) ?_;refine cO rfl (uf rfl rfl) ?_;refine cO rfl (uf rfl rfl) ?_;refine cO rfl (wO rfl) ?_;refine cO rfl (wO rfl) ?_;refine AL ?_;refine wF ?_;refine AK ?_;refine AK ?_;refine rW ?_;refine cO rfl (dK rfl) ?_;refine cO rfl (Iy rfl) ?_;refine AL ?_;refine wF ?_;refine R9 rfl (λhc=>?_) (λhc=>?_)
   ·cases hc
   refine Kx ?_;refine wF ?_;haveI:UH Tryz.prog 120 3:=⟨by kernel_rfl⟩;haveI:kz Tryz.prog 120 vu:=⟨by kernel_rfl⟩;haveI:TPl Tryz.prog 120 [(0,1),(1,1),(2,1)]:=⟨by kernel_rfl⟩;refine rW ?_;refine cO rfl (dK rfl) ?_;refine cO rfl (s8 (cs:=eJ.enc ⟨e,0,0⟩) rfl rfl) ?_;refine Jv (vg (n:=3) (vs:=eJ.enc ⟨e,0,0⟩) (cs':=eJ.enc ⟨e,0,0⟩) rfl rfl rfl rfl (by rw[hn];decide) (AT rfl) (by
    match xs,hn with
    |[_,_,_],_ =>rfl)) (λ_ _ =>?_)
   refine AL ?_
   exactλa w' hst=>⟨.inl rfl,hst.df,hst.si,hst.hp.holds (.cells b Tb ((λ(e:Int)=>(eJ.enc ⟨e,0,0⟩:List Value)) e)) (by simp)⟩
  refine wpIn_mono (key _ w ⟨by simp[Tryz.ntmps43],λd v h=>?_,rfl,bI.refl _ _,?_⟩) λen a' w' ⟨h1,h2,h3,h4⟩=>?_
  ·simp only[lk]at h
   cases h0:Nat.beq 1 d with
   |true=>rw[h0]at h;obtain rfl:=apu h0;cases h;simp
   |false=>
    rw[h0]at h;simp only[cond_false]at h;cases h00:Nat.beq 0 d with
    |true=>rw[h00]at h;obtain rfl:=apu h00;cases h;simp
    |false=>rw[h00]at h;cases h
  ·refine(cI.nil _ _ _).cons hb (λb' hb'=>?_) (λs hs=>by cases hs)
   have e2:b'=b:=by simpa[aO.eW]using hb'
   subst e2;exact⟨.inl (by simp),(apA.1 hb).1⟩
  ·rcases h1 with rfl|rfl
   ·exact⟨h2,_,rfl,_,by simp[results];rfl,⟨_,rfl⟩,rfl,h3,h4⟩
   ·exact⟨h2,_,rfl,_,by simp[results];rfl,⟨_,rfl⟩,rfl,h3,h4⟩
def eks:List (Ek Tryz.prog sg):=[⟨237,118,1,λ(e:Int)=>([.int .i64 e]:List Value),λe=> .int .i64 e,λ_ _ e=>⟨.int .i64 e,rfl,rfl⟩,RN⟩,⟨43,118,3,λ(e:Int)=>(eJ.enc ⟨e,0,0⟩:List Value),λe=> .dat (.st 33) (⟨e,0,0⟩:aA),λJ _ e=>⟨.agg (eJ.enc ⟨e,0,0⟩).toArray,⟨_,rfl,bW.iff (L:=eJ) (J:=J)|>.2 rfl,λ_ =>⟨_,rfl⟩,nofun⟩,rfl⟩,AB⟩]
abbrev CT:=Ct Tryz.prog sg
abbrev eV:Sh:= .box 137 (.st (.part 952 (.v (.st 17)) (.part 1 (.v (.int .i64)) (.part 6 (.v (.st 0)) (.part 2 (.v (.st 5)) (.part 1 (.v (.int .i64)) (.part 1 (.v .bool) (.part 1 (.row 115 2 (.st 5)) .nil))))))))
def g7{R:Type}(y:bw×Int×aV×aB×Int×Bool×(List aB)×R):aq:=⟨y.1,y.2.1,y.2.2.1,y.2.2.2.1,y.2.2.2.2.1,y.2.2.2.2.2.1,y.2.2.2.2.2.2.1⟩
def h7{R:Type}(z:aq)(r:R):bw×Int×aV×aB×Int×Bool×(List aB)×R:=(z.ax,z.aE,z.c,z.run,z.pS,z.GJ,z.gX,r)
def vw0:VwA sg:=⟨[(.int .i64),(.st 17),(.int .i64),(.st 0),(.st 5),(.int .i64), .bool,(.sl (.st 5))],λB n e=>cJ (λk x0 (x1:aq)=>B (λe=>k e.1 (g7 e.2)) (x0,h7 x1 ())) n e.1 (g7 e.2),λ_ _ =>rfl,λ_ _ _ =>rfl⟩
abbrev tW(n:Nat)(h:List (Nat×Hn))(cs:List (Ct Tryz.prog sg)):Bp Tryz.prog sg:=aki tt zt n h cs [] [] eks
abbrev tX(n:Nat)(h:List (Nat×Hn))(cs:List (Ct Tryz.prog sg))(vs:List (Nat×VwA sg))(its:List (It Tryz.prog sg)):Bp Tryz.prog sg:=aki tt zt n h cs vs its eks
def vm(x y:aB):Bool:=x.At==y.At&&x.N==y.N
def xX(x y:eX):Bool:=x.gen==y.gen&&x.ox==y.ox&&x.mZ==y.mZ
def mB(x y:cB):Bool:=x.Region==y.Region&&x.By==y.By&&x.To==y.To&&x.bF==y.bF&&x.bh==y.bh
def bZ(n:Nat):Ct Tryz.prog sg:=afQ (tW n [] []) 239 118 (by kernel_rfl) (λx=>by kernel_rfl)
def bP(n:Nat):Ct Tryz.prog sg:=afQ (tW n [] []) 44 118 (by kernel_rfl) (λx=>by kernel_rfl)
def F1(n:Nat)(a0:Int):Option cL:=cn (decide ((if 64<a0 then 64 else a0)<1)) (lt ({l:=[]}:cL) λaW=>some aW) (lt ({At:=0,N:=(if 64<a0 then 64 else a0)}:aB) λeC=>lt ({l:=([eC]:List aB)}:cL) λiM=>some iM)
def WJ(n:Nat):CT:=cV (tW n [] []) (gy 7 [.i] [.s 30]) (a1 (F1 n)) u1 m1
def Bd(n:Nat)(a0:(List aB)):Option (List aB):=some a0
def FE(n:Nat):CT:=cV (tW n [] []) ⟨98,[], .cons (.v (.sl (.st 5))) .nil, .cons (.fn (.func 123) .nil (.cons (.box 33 (.v (.sl (.st 5)))) .nil)) .nil,[none], .nil,[],[]⟩ (a1 (Bd n)) u1 m1
def sK(n:Nat)(a0:cL):Option (List aB):=bd (Bd n a0.l) λgG=>some gG
def y6(n:Nat):CT:=cV (tW n [] [FE n]) ⟨51,[], .cons (.v (.st 30)) .nil, .cons (.fn (.func 123) .nil (.cons (.box 33 (.v (.sl (.st 5)))) .nil)) .nil,[none], .nil,[],[]⟩ (a1 (sK n)) u1 m1
def mY(n:Nat)(a1:(List aB)):Option (List (Int×aB)):=eU (λGi (iM:Int)=>cn (decide (iM<(a1.length:Int))) (gu (bM iM a1.length)<|lt ((a1.getD (Int.toNat iM) default):aB) λqf=>yl (iM,qf)<|Gi (wr .i64 (iM+1))) (some [])) n 0
def v9(n:Nat):It Tryz.prog sg:=mkI (tX n [(3, .loop [(.slot 7,(.v (.int .i64)))])] [] [] []) 3000 123 (.cons (.box 33 (.v (.sl (.st 5)))) .nil) (.cons (.v (.int .i64)) (.cons (.v (.st 5)) .nil)) (.int (.st (G:=sg) (i:=5) (λ(x:aB)=>dI.enc cQ x) (λJ cs x=>bW.iff (L:=cQ)) .nil)) (B:=Int×aB) (λy=>(y.1,(y.2,()))) (λx=>(x.1,x.2.1)) (λx=>mY n x.1) (λ_ =>rfl) (by kernel_rfl) (λx=>by kernel_rfl)
def sL(n:Nat)(a0:cL)(a1:Int):Option (Int×Bool):=bd (sK n a0) λaW=>bd (mY n aW) λfI=>tQ (λ(Ui:Int×aB) k28 (u27:Unit)=>lt (Ui.1:Int) λeD=>lt (Ui.2:aB) λg8=>cn ((decide (1<=a1)&&decide (a1<=g8.N))) (some (g8.At,true)) (k28 ())) (λ(u27:Unit)=>some (0,false)) fI ()
def Hp(n:Nat):CT:=cV (tX n [(5, .loop [(.via 4, .box 3 (.unk 1)),(.via 5, .box 4 (.unk 1))])] [y6 n] [] [v9 n]) (gy 23 [.s 30, .i] [.t [.i, .b]]) (a2 (sL n)) u2 m2
def cE(n:Nat)(a0:aB):Option Int:=some (wr .i64 (a0.At+a0.N))
def wV(n:Nat):CT:=cV (tW n [] []) (gy 56 [.s 5] [.i]) (a1 (cE n)) u1 m1
def sM(n:Nat)(a0:aB):Option Bool:=some ((decide (1<=a0.N)&&decide (0<=a0.At))&&decide (a0.At<=(wr .i64 (64-a0.N))))
def BT(n:Nat):CT:=cV (tW n [] []) (gy 52 [.s 5] [.b]) (a1 (sM n)) u1 m1
def fM(n:Nat)(a1:Int):Option Unit:=lt (λ(u21:Unit)=>cn (decide (0<(wr .i64 (a1-0)))) (gu (Pw (wr .i64 (a1-0)) 16)<|some ()) (some ())) λSw=>cn (decide (a1<0)) (none) (Sw ())
namespace H
theorem yV{n a1 r}(h:fM n a1=some r):Bw.Fn (α:=Value) Tryz.prog 99 [.slice none 0 0, .int .i64 a1] (λ_ =>True) [] (λv=>wI v 0) (λv=>v) (λv=>[nF v 115 2 cQ []]):=by
 unfold fM at h;refine xI Tryz.func99 (by kernel_rfl) rfl Tryz.ntmps99 rfl (λcx qT hpre hro=>?_);refine SC 5 rf ?_;obtain⟨Sw,aoo,h⟩:=uS h;refine CU (α:=Unit) [0,1] rf (λu21=>[]) (λu21=>[]) (λu21=>Sw u21=some r) ?_ ?_
 ·
  refine SC 6 rf ?_;refine Qn h rf (λhc h=>?_) λhc h=>?_
  ·cases h
  ·refine Kx ?_;exact CE [] (()) h rf rf rf
 ·
  rintro u21 h;replace h:Sw u21=some r:=h;replace h:=ak9 aoo h;refine SC 5 rf ?_;refine cO rfl (Wx rfl) ?_;refine cO rfl (dK rfl) ?_;refine cO rfl (wG (Fz.nil (A:=Hs []) (L:=LB)) rfl) ?_;refine cO rfl (UC (acs rfl rfl rfl) rfl) ?_;refine SL 10 rf ?_;refine Qn h rf (λhc h=>?_) λhc h=>?_
  ·obtain⟨JR,h⟩:=rH h;refine SC 3 rf ?_;refine cO rfl (Wx rfl) ?_;refine cO rfl (N6 rfl rfl) ?_;refine cO rfl (dK rfl) ?_;refine zA rfl (afu (q:= .i64) (bytes:=16) cQ (by kernel_rfl) rfl rfl JR) (λ⟨b24,aoT⟩ _ =>?_);refine cO rfl (dK rfl) ?_;refine cO rfl (wG (Fz.nil (A:=Hs []) (L:=LB)) rfl) ?_;refine cO rfl (acA rfl rfl) ?_;refine SL 10 rf ?_;have h:=sj h;subst h;exact CD (.slice (some ⟨b24,0,none⟩) 0 aoT) rfl (.tmp rfl .nil) ⟨_,_,rfl⟩ rfl (ks:=[0]) rfl (by decide)
  ·refine SC 9 rf ?_;refine ae9 115 2 cQ ?_;have h:=sj h;subst h;exact CD (.slice none 0 0) rfl (.tmp rfl .nil) ⟨_,_,rfl⟩ rfl (ks:=[0]) rfl (by decide)
end H
def yI(n:Nat):Ct Tryz.prog sg:=
 letI:bW ((Ty.st 5).L sg):=inferInstanceAs (bW cQ)
 aoS (λa=>fM n a) (by kernel_rfl) (abt (t:= .st 5) rfl λa1 r h=>H.yV h)
def rE(n:Nat)(a0:(List (List aB))):Option (List aB):=cJ (λk27 (gG:Int) (iH:Int)=>cn (decide (iH<(a0.length:Int))) (gu (bM iH a0.length)<|cn (decide ((wr .i64 (gG+((a0.getD (Int.toNat iH) default).length:Int)))<0)) (none) (k27 (wr .i64 (gG+((a0.getD (Int.toNat iH) default).length:Int))) (wr .i64 (iH+1)))) (bd (fM n gG) λeE=>cJ (λk45 (qf:(List aB)) (vK:Int)=>cn (decide (vK<(a0.length:Int))) (gu (bM vK a0.length)<|gu (gO qf.length (a0.getD (Int.toNat vK) default).length 16)<|lt (qf++(a0.getD (Int.toNat vK) default):List aB) λuA=>k45 uA (wr .i64 (vK+1))) (some qf)) n ([]:List aB) 0)) n 0 0
def BS(n:Nat):CT:=cV (tW n [(7, .loop [(.slot 3,(.v (.int .i64))),(.slot 11,(.v (.int .i64)))]),(23, .loop [(.slot 6,(.row 115 2 (.st 5))),(.slot 27,(.v (.int .i64)))])] [yI n]) ⟨57,[], .cons (.v (.sl (.sl (.st 5)))) .nil, .cons (.row 115 2 (.st 5)) .nil,[none], .nil,[],[]⟩ (a1 (rE n)) u1 m1
def sN(n:Nat)(a0:aB)(a1:aB):Option Bool:=cl (((vm a1 a0)==false)&&((decide (a0.At<=a1.At))==true)) (cE n a1) default λaW=>cl (((vm a1 a0)==false)&&((decide (a0.At<=a1.At))==true)) (cE n a0) default λbS=>some ((vm a1 a0)||(decide (a0.At<=a1.At)&&decide (aW<=bS)))
def Hq(n:Nat):CT:=cV (tW n [] [wV n]) (gy 54 [.s 5, .s 5] [.b]) (a2 (sN n)) u1 m1
def qo(n:Nat)(a0:aB)(a1:aB):Option Bool:=bd (sN n a0 a1) λaW=>some aW
def Ev(n:Nat):CT:=cV (tW n [] [Hq n]) ⟨53,[(115, .v (.st 5))], .cons (.v (.st 5)) (.cons (.cW 0) .nil), .cons (.v .bool) .nil,[], .nil,[],[]⟩ (λx=>qo n x.2.1 x.1) u1 m1
def dG(n:Nat)(a0:(List aB))(mM:aB):Option Int:=eU (λzu (bS:Int)=>cn (decide (bS<(a0.length:Int))) (gu (bM bS a0.length)<|bd (qo n (a0.getD (Int.toNat bS) default) mM) λeC=>cn (eC) (some bS) (zu (wr .i64 (bS+1)))) (some (-1))) n 0
def oI(n:Nat):CT:=cV (tW n [(5, .loop [(.slot 8,(.v (.int .i64)))])] [Ev n]) ⟨55,[(115, .v (.st 5))], .cons (.v (.sl (.st 5))) (.cons (.fn (.func 53) .nil (.cons (.cW 0) .nil)) .nil), .cons (.v (.int .i64)) .nil,[], .nil,[],[]⟩ (λx=>dG n x.2.1 x.1) u1 m1
def iB(n:Nat)(R8:(List aB))(UB:(List aB))(ae7:(List aB)):Option (List aB):=cn (decide ((wr .i64 (0+(R8.length:Int)))<0)) (none) (cn (decide ((wr .i64 ((wr .i64 (0+(R8.length:Int)))+(UB.length:Int)))<0)) (none) (cn (decide ((wr .i64 ((wr .i64 ((wr .i64 (0+(R8.length:Int)))+(UB.length:Int)))+(ae7.length:Int)))<0)) (none) (bd (fM n (wr .i64 ((wr .i64 ((wr .i64 (0+(R8.length:Int)))+(UB.length:Int)))+(ae7.length:Int)))) λaW=>gu (gO ([]:List aB).length R8.length 16)<|lt (([]:List aB)++R8:List aB) λfR=>gu (gO fR.length UB.length 16)<|lt (fR++UB:List aB) λdL=>gu (gO dL.length ae7.length 16)<|lt (dL++ae7:List aB) λeD=>some eD)))
def nO(n:Nat)(a0:cL)(a1:Int)(a2:Int):Option (cL×Bool):=lt ({At:=a1,N:=a2}:aB) λaW=>bd (sM n aW) λbS=>cn ((!bS)) (some (a0,false)) (bd (dG n a0.l aW) λfL=>cn (decide (fL<0)) (some (a0,false)) (gu (bM fL a0.l.length)<|lt ((a0.l.getD (Int.toNat fL) default):aB) λg8=>lt (λ(iU:(List aB))=>lt (λ(BO:(List aB))=>gu (bM fL (a0.l.length+1))<|gu (bM (wr .i64 (fL+1)) (a0.l.length+1))<|bd (iB n (a0.l.take (Int.toNat fL)) BO (a0.l.drop (Int.toNat (wr .i64 (fL+1))))) λyY=>lt ({l:=yY}:cL) λMN=>some (MN,true)) λj51=>bd (cE n aW) λzK=>bd (cE n g8) λx53=>cn (decide (zK<x53)) (bd (cE n aW) λD5=>bd (cE n g8) λA3=>bd (cE n aW) λWH=>lt ({At:=D5,N:=wr .i64 (A3-WH)}:aB) λYi=>gu (gO iU.length 1 16)<|lt (iU++([Yi]):List aB) λuz=>j51 uz) (j51 iU)) λj40=>cn (decide (g8.At<aW.At)) (lt ({At:=g8.At,N:=wr .i64 (aW.At-g8.At)}:aB) λgR=>gu (gO ([]:List aB).length 1 16)<|lt (([]:List aB)++([gR]):List aB) λxY=>j40 xY) (j40 ([]:List aB))))
theorem ahA{n:Nat}{a b c:List aB}:rE (n+4) [a,b,c]=iB n a b c:=by kernel_rfl
def tK(n:Nat)(a0:cL)(a1:Int)(a2:Int):Option (cL×Bool):=lt ({At:=a1,N:=a2}:aB) λaW=>bd (sM n aW) λbS=>cn ((!bS)) (some (a0,false)) (bd (dG n a0.l aW) λfL=>cn (decide (fL<0)) (some (a0,false)) (gu (bM fL a0.l.length)<|lt ((a0.l.getD (Int.toNat fL) default):aB) λg8=>lt (λ(iU:(List aB))=>lt (λ(BO:(List aB))=>gu (bM fL (a0.l.length+1))<|gu (bM (wr .i64 (fL+1)) (a0.l.length+1))<|bd (rE (n+4) [a0.l.take (Int.toNat fL),BO,a0.l.drop (Int.toNat (wr .i64 (fL+1)))]) λyY=>lt ({l:=yY}:cL) λMN=>some (MN,true)) λj51=>bd (cE n aW) λzK=>bd (cE n g8) λx53=>cn (decide (zK<x53)) (bd (cE n aW) λD5=>bd (cE n g8) λA3=>bd (cE n aW) λWH=>lt ({At:=D5,N:=wr .i64 (A3-WH)}:aB) λYi=>gu (gO iU.length 1 16)<|lt (iU++([Yi]):List aB) λuz=>j51 uz) (j51 iU)) λj40=>cn (decide (g8.At<aW.At)) (lt ({At:=g8.At,N:=wr .i64 (aW.At-g8.At)}:aB) λgR=>gu (gO ([]:List aB).length 1 16)<|lt (([]:List aB)++([gR]):List aB) λxY=>j40 xY) (j40 ([]:List aB))))
theorem Ii(n:Nat)(a0:cL)(a1:Int)(a2:Int):tK n a0 a1 a2=nO n a0 a1 a2:=by unfold tK nO;simp only[ahA]
def Hl(n:Nat):CT:=cV (tW n [(24, .join [(.slot 12,(.row 115 2 (.st 5)))] []),(28, .join [(.slot 12,(.row 115 2 (.st 5)))] [])] [BT n,oI n,wV n,BS (n+4)]) (gy 24 [.s 30, .i, .i] [.t [.s 30, .b]]) (a3 (nO n)) u2 m2 (hW:=λx=>Eq.trans (b:=tK n x.1 x.2.1 x.2.2.1) (by kernel_rfl) (Ii ..))
def pL(n:Nat)(a0:cL)(a1:Int)(a2:Int):Option (cL×Bool):=lt ({At:=a1,N:=a2}:aB) λaW=>bd (sM n aW) λbS=>cn ((!bS)) (some (a0,false)) (bd (sK n a0) λfR=>bd (mY n fR) λdL=>aaO (λ(e56:Int×aB) k42 (iU:Bool) (qz:(List aB)) (gR:aB)=>lt (e56.1:Int) λD5=>lt (e56.2:aB) λA3=>bd (cE n A3) λYi=>cn (decide (Yi<gR.At)) (gu (gO qz.length 1 16)<|lt (qz++([A3]):List aB) λuz=>k42 iU uz gR) (bd (cE n gR) λQq=>cn (decide (Qq<A3.At)) (lt (λ(UR:Bool) (UQ:(List aB))=>gu (gO UQ.length 1 16)<|lt (UQ++([A3]):List aB) λJD=>k42 UR JD gR) λj67=>cn ((!iU)) (gu (gO qz.length 1 16)<|lt (qz++([gR]):List aB) λA2=>j67 true A2) (j67 iU qz)) (bd (cE n A3) λMN=>cn ((MN==gR.At)) (lt ({At:=A3.At,N:=wr .i64 (A3.N+gR.N)}:aB) λxZ=>k42 iU qz xZ) (bd (cE n gR) λMz=>cn ((A3.At==Mz)) (lt ({gR with N:=wr .i64 (gR.N+A3.N)}:aB) λKF=>k42 iU qz KF) (some (a0,false)))))) (λ(iU:Bool) (qz:(List aB)) (gR:aB)=>cn ((!iU)) (gu (gO qz.length 1 16)<|lt (qz++([gR]):List aB) λKh=>lt ({l:=Kh}:cL) λWG=>some (WG,true)) (lt ({l:=qz}:cL) λQp=>some (Qp,true))) dL false ([]:List aB) aW)
def y7(n:Nat):CT:=cV (tX n [(15, .loop [(.via 10, .box 4 (.v .bool)),(.via 9, .box 33 (.row 115 2 (.st 5))),(.via 8, .box 115 (.v (.st 5))),(.via 6, .box 100 (.unk 1)),(.via 7, .box 4 (.unk 1))]),(30, .join [(.via 10, .box 4 (.v .bool)),(.via 9, .box 33 (.row 115 2 (.st 5)))] [])] [BT n,y6 n,wV n] [] [v9 n]) (gy 34 [.s 30, .i, .i] [.t [.s 30, .b]]) (a3 (pL n)) u2 m2
def nt(n:Nat)(a0:bg):Option bg:=some a0
def sD(n:Nat):CT:=cV (tW n [] []) ⟨93,[], .cons (.v (.st 6)) .nil, .cons (.fn (.func 122) .nil (.cons (.box 35 (.v (.st 6))) .nil)) .nil,[none], .nil,[],[]⟩ (a1 (nt n)) u1 m1
def jc(n:Nat)(a1:bg):Option (List (Int×aB)):=cJ (λk39 (dL:Int) (eE:Int)=>cn (decide (eE<(a1.aP.length:Int))) (gu (bM eE a1.aP.length)<|lt ((a1.aP.getD (Int.toNat eE) default):aB) λgR=>yl (dL,gR)<|k39 (wr .i64 (dL+(wr .i64 (gR.N*32)))) (wr .i64 (eE+1))) (some [])) n 0 0
def qR(n:Nat):It Tryz.prog sg:=mkI (tX n [(5, .loop [(.slot 3,(.v (.int .i64))),(.slot 9,(.v (.int .i64)))])] [] [] []) 3000 122 (.cons (.box 35 (.v (.st 6))) .nil) (.cons (.v (.int .i64)) (.cons (.v (.st 5)) .nil)) (.int (.st (G:=sg) (i:=5) (λ(x:aB)=>dI.enc cQ x) (λJ cs x=>bW.iff (L:=cQ)) .nil)) (B:=Int×aB) (λy=>(y.1,(y.2,()))) (λx=>(x.1,x.2.1)) (λx=>jc n x.1) (λ_ =>rfl) (by kernel_rfl) (λx=>by kernel_rfl)
def we(n:Nat)(a0:bg)(a1:Int):Option (Int×Bool):=bd (nt n a0) λaW=>bd (jc n aW) λfI=>tQ (λ(Ui:Int×aB) k28 (u27:Unit)=>lt (Ui.1:Int) λeD=>lt (Ui.2:aB) λg8=>cn ((decide (eD<=a1)&&decide (a1<(wr .i64 (eD+(wr .i64 (g8.N*32))))))) (lt (wr .i64 ((wr .i64 ((wr .i64 (g8.At*32))+a1))-eD):Int) λiU=>some (iU,true)) (k28 ())) (λ(u27:Unit)=>some (0,false)) fI ()
def Bj(n:Nat):CT:=cV (tX n [(5, .loop [(.via 4, .box 3 (.unk 1)),(.via 5, .box 4 (.unk 1))])] [sD n] [] [qR n]) (gy 40 [.s 6, .i] [.t [.i, .b]]) (a2 (we n)) u2 m2
def wA(n:Nat)(a0:Int)(a1:Int):Option Bool:=some ((decide (1<=a0)&&decide (a0<=128))&&((((a1==1)||(a1==2))||(a1==4))||(a1==8)))
def BX(n:Nat):CT:=cV (tW n [] []) (gy 94 [.i, .i] [.b]) (a2 (wA n)) u1 m1
def yt(n:Nat)(a0:Int)(a1:Int):Option Int:=eU (λzu (bS:Int)=>bd (wA n a0 a1) λfR=>cn ((fR&&decide ((wr .i64 (32*bS))<a0))) (zu (wr .i64 (bS+1))) (some bS)) n 0
def MS(n:Nat):CT:=cV (tW n [(5, .loop [(.slot 5,(.v (.int .i64)))])] [BX n]) (gy 45 [.i, .i] [.i]) (a2 (yt n)) u1 m1
def gL(n:Nat)(a0:bR):Option (List Int):=cJ (λMB (eC:(List Int)) (dL:Int)=>cn (decide (dL<(a0.aP.length:Int))) (cJ (λk46 (l6:(List Int)) (o9:Int)=>gu (bM dL a0.aP.length)<|cn (decide (o9<(wr .i64 (32*((a0.aP.getD (Int.toNat dL) default) 1))))) (gu (bM dL a0.aP.length)<|gu (gO l6.length 1 8)<|lt (l6++([wr .i64 ((wr .i64 (32*((a0.aP.getD (Int.toNat dL) default) 0)))+o9)]):List Int) λD5=>k46 D5 (wr .i64 (o9+1))) (MB l6 (wr .i64 (dL+1)))) n eC 0) (some eC)) n ([]) 0
def uC(n:Nat):CT:=cV (tW n [(7, .loop [(.slot 3,(.row 3 1 (.int .i64))),(.slot 4,(.v (.int .i64)))]),(13, .loop [(.slot 3,(.row 3 1 (.int .i64))),(.slot 5,(.v (.int .i64)))])] []) ⟨49,[], .cons (.v (.st 19)) .nil, .cons (.row 3 1 (.int .i64)) .nil,[none], .nil,[],[]⟩ (a1 (gL n)) u1 m1
def pe(n:Nat)(a0:bR)(a1:Int)(a2:Int):Option Int:=bd (gL n a0) λaW=>eU (λXx (fR:Int)=>bd (wA n a1 a2) λdL=>cn ((dL&&decide ((wr .i64 (fR+a1))<=(aW.length:Int)))) (gu (a2 !=0)<|cn (((Int.tmod fR a2)==0)) (some fR) (Xx (wr .i64 (fR+1)))) (some (-1))) n a0.lu
def Dz(n:Nat):CT:=cV (tW n [(7, .loop [(.slot 8,(.v (.int .i64)))])] [uC n,BX n]) (gy 48 [.s 19, .i, .i] [.i]) (a3 (pe n)) u1 m1
def dS(n:Nat)(a0:bR):Option Bool:=sU (λk31 (fR:Int) (eC:Int) (fL:(Nat->Bool))=>cn (decide (eC<(a0.aP.length:Int))) (gu (bM eC a0.aP.length)<|gu (bM eC a0.aP.length)<|cn (((((decide (((a0.aP.getD (Int.toNat eC) default) 1)<1)||decide (64<((a0.aP.getD (Int.toNat eC) default) 1)))||decide (((a0.aP.getD (Int.toNat eC) default) 0)<0))||decide (63<((a0.aP.getD (Int.toNat eC) default) 0)))||decide (64<(wr .i64 (((a0.aP.getD (Int.toNat eC) default) 0)+((a0.aP.getD (Int.toNat eC) default) 1)))))) (some false) (cJ (λk47 (o9:Int) (xY:(Nat->Bool))=>cn (decide (o9<(wr .i64 (((a0.aP.getD (Int.toNat eC) default) 0)+((a0.aP.getD (Int.toNat eC) default) 1))))) (gu (bM o9 64)<|cn ((xY (Int.toNat o9))) (some false) (gu (bM o9 64)<|lt ((dy xY (Int.toNat o9) true):(Nat->Bool)) λuA=>k47 (wr .i64 (o9+1)) uA)) (k31 (wr .i64 (fR+((a0.aP.getD (Int.toNat eC) default) 1))) (wr .i64 (eC+1)) xY)) n ((a0.aP.getD (Int.toNat eC) default) 0) fL)) (some (decide (0<=a0.lu)&&decide (a0.lu<=(wr .i64 (32*fR)))))) n 0 0 (λ_ =>false)
def wW(n:Nat):CT:=cV (tW n [(9, .loop [(.slot 4,(.v (.int .i64))),(.slot 5,(.v (.int .i64))),(.via 3, .box 223 (.v (.oE 64 .bool)))]),(21, .loop [(.slot 8,(.v (.int .i64))),(.via 3, .box 223 (.v (.oE 64 .bool)))])] []) (gy 50 [.s 19] [.b]) (a1 (dS n)) u1 m1
def Am(n:Nat)(a0:bg)(a1:bR):Option Bool:=cn ((((a0.aP.length:Int)!=(a1.aP.length:Int))||(a0.lu !=a1.lu))) (some false) (eU (λXx (fR:Int)=>cn (decide (fR<(a0.aP.length:Int))) (gu (bM fR a0.aP.length)<|gu (bM fR a1.aP.length)<|gu (!((((a0.aP.getD (Int.toNat fR) default).At)!=((a1.aP.getD (Int.toNat fR) default) 0))==false)||bM fR a0.aP.length)<|gu (!((((a0.aP.getD (Int.toNat fR) default).At)!=((a1.aP.getD (Int.toNat fR) default) 0))==false)||bM fR a1.aP.length)<|cn (((((a0.aP.getD (Int.toNat fR) default).At)!=((a1.aP.getD (Int.toNat fR) default) 0))||(((a0.aP.getD (Int.toNat fR) default).N)!=((a1.aP.getD (Int.toNat fR) default) 1)))) (some false) (Xx (wr .i64 (fR+1)))) (some true)) n 0)
def Ov(n:Nat):CT:=cV (tW n [(9, .loop [(.slot 5,(.v (.int .i64)))])] []) (gy 81 [.s 6, .s 19] [.b]) (a2 (Am n)) u1 m1
def fe(n:Nat)(a0:bg):Option Int:=bd (nt n a0) λaW=>bd (jc n aW) λfI=>tQ (λ(e35:Int×aB) Xx (fL:Int)=>lt (e35.1:Int) λq9=>lt (e35.2:aB) λeD=>lt (wr .i64 (fL+eD.N):Int) λl7=>Xx l7) (λ(fL:Int)=>some fL) fI 0
def mF(n:Nat):CT:=cV (tX n [(7, .loop [(.via 3, .box 3 (.v (.int .i64)))])] [sD n] [] [qR n]) (gy 185 [.s 6] [.i]) (a1 (fe n)) u1 m1
def kP(n:Nat)(a0:bg):Option Bool:=cJ (λk38 (gF:Int) (q9:cL)=>cn (decide (gF<(a0.aP.length:Int))) (gu (bM gF a0.aP.length)<|lt ((a0.aP.getD (Int.toNat gF) default):aB) λl6=>bd (pL n q9 l6.At l6.N) λgR=>cn ((!gR.2)) (some false) (k38 (wr .i64 (gF+1)) gR.1)) (cl ((decide (0<=a0.lu))==true) (fe n a0) default λzK=>some (decide (0<=a0.lu)&&decide (a0.lu<=(wr .i64 (zK*32)))))) n 0 oo
def vZ(n:Nat):CT:=cV (tW n [(7, .loop [(.slot 11,(.v (.int .i64))),(.via 3, .box 100 (.v (.st 30)))])] [y7 n,mF n]) (gy 149 [.s 6] [.b]) (a1 (kP n)) u1 m1
def sI(n:Nat)(a0:(List Int))(a1:Int):Option Int:=eU (λzu (bS:Int)=>cn (decide (bS<(a0.length:Int))) (gu (bM bS a0.length)<|cn ((a1==(a0.getD (Int.toNat bS) default))) (some bS) (zu (wr .i64 (bS+1)))) (some (-1))) n 0
def Dq(n:Nat):CT:=cV (tW n [(5, .loop [(.slot 8,(.v (.int .i64)))])] []) (gy 259 [.v (.sl (.int .i64)), .i] [.i]) (a2 (sI n)) u1 m1
def ke(n:Nat)(a0:(List Int))(a1:Int):Option Bool:=bd (sI n a0 a1) λaW=>some (decide (0<=aW))
def zO(n:Nat):CT:=cV (tW n [] [Dq n]) (gy 249 [.v (.sl (.int .i64)), .i] [.b]) (a2 (ke n)) u1 m1
def oT(n:Nat)(a0:Int)(a1:Int):Option Bool:=cl ((decide (1<=a0)&&decide (a0<=128))==true) (ke n ([1,2,4,8]:List Int) a1) default λfR=>some ((decide (1<=a0)&&decide (a0<=128))&&fR)
def Ba(n:Nat)(a0:Int)(a1:Int):Option Bool:=cn (decide (1<=a0)&&decide (a0<=128)) (bd (ke n ([1,2,4,8]:List Int) a1) λx=>some x) (some false)
theorem JV(n:Nat)(a0 a1:Int):Ba n a0 a1=oT n a0 a1:=aiS
def A9(n:Nat):CT:=cV (tW n [] [zO n]) (gy 217 [.i, .i] [.b]) (a2 (oT n)) u1 m1 (hW:=λx=>Eq.trans (b:=Ba n x.1 x.2.1) (by kernel_rfl) (JV ..))
def wE(n:Nat)(a0:Int)(a1:Int):Option (Int×Bool):=bd (oT n a0 a1) λaW=>cn ((!aW)) (some (0,false)) (some (wr .i64 (Int.tdiv (wr .i64 ((wr .i64 (a0+32))-1)) 32),true))
def KV(n:Nat):CT:=cV (tW n [] [A9 n]) (gy 182 [.i, .i] [.t [.i, .b]]) (a2 (wE n)) u2 m2
def nv(n:Nat)(a0:Int)(a1:Int):Option Int:=some (Dg .i64 (wr .i64 ((wr .i64 (a0+a1))-1)) (wr .i64 (a1-1)))
def zS(n:Nat):CT:=cV (tW n [] []) ⟨218,[(3, .v (.int .i64))], .cons (.v (.int .i64)) (.cons (.cW 0) .nil), .cons (.v (.int .i64)) .nil,[], .nil,[],[]⟩ (λx=>nv n x.2.1 x.1) u1 m1
def my(n:Nat)(a0:bg)(a1:Int)(a2:Int):Option (Int×Bool):=bd (oT n a1 a2) λaW=>cn ((!aW)) (some (0,false)) (bd (nv n a0.lu a2) λbS=>bd (fe n a0) λgG=>cn (decide ((wr .i64 (gG*32))<(wr .i64 (bS+a1)))) (some (0,false)) (some (bS,true)))
def uM(n:Nat):CT:=cV (tW n [] [A9 n,zS n,mF n]) (gy 184 [.s 6, .i, .i] [.t [.i, .b]]) (a3 (my n)) u2 m2
def jS(n:Nat)(a0:bg)(a1:aB):Option bg:=gu (gO a0.aP.length 1 16)<|lt (a0.aP++([a1]):List aB) λiH=>bd (fe n a0) λfL=>lt ({aP:=iH,lu:=wr .i64 (fL*32)}:bg) λiM=>some iM
namespace H
theorem xL{a0 K}[CG K]{v0}(f0:Fz K v0 cQ a0):FnW Tryz.prog 219 [v0] K (Bg v0):=by refine xI Tryz.func219 (by kernel_rfl) rfl Tryz.ntmps219 rfl (λcx qT hpre hro=>?_);haveI:=ahG qT hpre;refine SC 9 rf ?_;refine cO rfl (wG f0 rfl) ?_;refine cO rfl (dK rfl) ?_;refine cO rfl (wG f0 rfl) ?_;refine cO rfl (acB f0 rfl rfl rfl) ?_;refine SL 4 rf ?_;skip;skip;exact RV rf (rt rf rn) rf
abbrev lq:dI bg:=dI.via (LP (WC cQ) (LI .i64)) (λx=>(x.aP,x.lu))
def lR:List Value:=[.slice none 0 0]++([.int .i64 0])
theorem qg{A:World->Prop}:lq.fz A lR dJ:=⟨_,_,rfl,⟨_,rfl,Fz.nil⟩,rfl⟩
theorem CW:aY lq (WC cQ) 0 (λx=>x.aP) (λx v=>{x with aP:=v}):=(aY.fst aY.id).via _ _ _ 0 rfl (λ_ =>rfl) (λ_ _ =>rfl)
theorem Bo{n:Nat}{a0:bg}{r:Int}{R:List aO}(hg:WD sg (Hs R)){wg:List Value}(f0:(lq).fz (Hs R) wg a0)(h:fe n a0=some r):FnW Tryz.prog 185 [.agg wg.toArray] (Hs R) (.int .i64 r):=by
 obtain⟨c1,c2,e0,k0,k1⟩:=f0;exact Fn.pre (zx (ct:=mF n) (qd:=[]) (ρ:=λ_ =>none) (x:=(a0,())) (y:=(r,())) ⟨r,h,rfl⟩ hg (λJ hJ=>⟨_,_,rfl,Il (t:= .st 6) (dI.mono _ hJ ⟨c1,c2,e0,Xs k0,k1⟩) rfl,rfl⟩) rfl rfl (λJ _ r o e=>by cases e) (λ_ _ =>rfl) λJ σ u us ⟨_,_,e,h1,_⟩=>by
  cases e;have h1:[u]=[.int .i64 _]:=h1;cases h1;rfl) λw hw=>λw' hs=>CG.ok w w' hw hs
theorem Cv{n a0 a1 r}{R:List aO}(hg:WD sg (Hs R)){wg}(f0:(lq).fz (Hs R) wg a0)(h:jS n a0 a1=some r):FnB Tryz.prog 186 [A wg, .agg (cQ.enc a1).toArray] (Hs R) (λJ v=>∃u0,v=(A u0)/\(lq).fz (λw=>(Hs R) w/\J w) u0 (r)):=by
 unfold jS at h;refine fo Tryz.func186 (by kernel_rfl) rfl Tryz.ntmps186 rfl λcx _ hro qT hpre=>?_;refine SC 2 rf ?_;refine W1 rf (P9 rfl) λb2=>?_;refine W1 rf (qx cQ a1 rfl rfl) λb3=>?_;refine W1 rf (ta (hz:=(⟨by kernel_rfl⟩:kz Tryz.prog 35 lR))) λb4=>?_;refine SL 3 rf ?_;obtain⟨JR,h⟩:=rH h;obtain⟨iH,XA,h⟩:=uS h;obtain⟨fL,aod,h⟩:=vG h;obtain⟨iM,aoc,h⟩:=uS h;refine PZ aaw (.MA [] [(0,[2]),(1,[5]),(2,[6]),(3,[3]),(6,[2])] (.alt 4 [8] (.MA [(0,[2]),(1,[5]),(2,[6]),(6,[2])] [] (.alt 5 [7,9] (.MA [(6,[2])] [(7,[11]),(8,[12]),(9,[10,13])] (.alt 10 [4,14] (.fin [] []) .no)) .no)) .no)) (by kernel_rfl) ?_;refine T0 ?_;refine NS 1 rf ?_;obtain⟨v21,aaX,f22⟩:=CW.sl f0;refine NV rf rf (lG rfl aaX) ?_;refine NC rf rf (xL (K:=(Hs R)) (f22.mono G9)) rf ?_;refine NV rf rf (nH (M:=cQ) (aY.id (L:=cQ)) rfl rfl) ?_;refine NV rf rf (ud rfl (dI.len _ f0)) ?_;refine kQ ?_;refine X1 rf rf (IB cQ a1 rfl rfl rfl rfl (by decide) (by decide)) λb9 _ =>?_;refine yE ?_ ?_
 ·refine RSn 1 rf rf ?_;refine RO rf rf (lG rfl aaX) rf ?_;refine RO rf rf (P5 (xL (K:=(Hs R)) (f22.mono G9)) rfl kn) rf ?_;refine RO rf rf (ud rfl (dI.len _ f0)) rf ?_;exact xT
 refine kQ ?_;refine X1 rf rf (acO (sz:=2) (L:=cQ) (xs:=a0.aP) (y:=a1) (bytes:=16) f22 rfl rfl rfl (ld JR).1 (ld JR).2) λv25 aer=>?_;rw[← XA]at aer;rw[← XA];refine yE ?_ ?_
 ·refine RO rf rf (ud rfl (dI.len _ f0)) rf ?_;exact xT
 refine NC rf rf (Bo (R:=R) hg (mo f0) aod) rf ?_;refine NS 1 rf ?_;obtain⟨c30,aow,f31⟩:∃cc,([v25]++((LI .i64).enc (wr .i64 (fL*32))))=cc/\(lq).fz (Hs [nF v25 115 2 cQ iH]) cc iM:=⟨_,rfl,by rw[aoc];exact⟨_,_,rfl,⟨_,rfl,(Fz.row (e:=115) (sz:=2) (L:=cQ) (xs:=iH) rfl aer).mono G9⟩,fl⟩⟩;refine NV rf rf (s8 (cs:=c30) rfl (by rw[← aow];first|rfl|(have Vj:=(Fz.row (e:=115) (sz:=2) (L:=cQ) (xs:=iH) rfl aer).sl.cells;have Vk:=(Fz.row (e:=115) (sz:=2) (L:=cQ) (xs:=iH) rfl aer).sl.size;generalize v25=vz0 at Vj Vk ⊢;simp[tE,cY,show∀k i,(Value.int k i).cells= #[Value.int k i]fromλ_ _ =>rfl,show∀q,(Value.bool q).cells= #[Value.bool q]fromλ_ =>rfl,show∀a,(Value.agg a).cells=a fromλ_ =>rfl,Vj,Vk];try rfl))) ?_;refine kQ ?_;obtain⟨c32,aov,f33⟩:=sto (C:=(Hs [nF v25 115 2 cQ iH])) (x':=iM) (aY.id (L:=lq)) qg (mo f31) rf;refine X0 rf (RXs aov rf rf rf rf) ?_;refine F00 ?_;refine SX 2 rf ?_;have h:=sj h;subst h;exact RBu (R:=[nF v25 115 2 cQ iH]) [0] rf rf (ra rf (dI.len _ f33) rn) ⟨_,rfl,(mo f33)⟩
end H
def BZ(n:Nat):Ct Tryz.prog sg:=XV (G:=sg) ⟨186,[], .cons (.v (.st 6)) (.cons (.v (.st 5)) .nil), .cons (.v (.st 6)) .nil,[], .nil,[],[]⟩ (λx=>jS n x.1 x.2.1) (λz=>(z,())) (dJ) (by kernel_rfl) (VX (λ_ =>rfl) (λ_ =>rfl) rfl λρ R x z vs hg hz hv=>by
 obtain⟨cs,r1,e_1,⟨c1,c2,e0,h0,h1⟩,v1⟩:=HJ hv rfl;obtain⟨cr,r2,e_2,h2,v2⟩:=HJ v1 rfl;have e_0:r2=[]:=v2;subst e_0 e_2 e_1;obtain rfl:=(bW.iff (L:=cQ)).1 h2;exact⟨_,H.Cv hg ⟨c1,c2,e0,ahv h0,h1⟩ hz,λJ v ⟨u,e,d1,d2,e1,k0,k1⟩=>by
  subst e;exact⟨_,_,rfl,Il (t:= .st 6) ⟨d1,d2,e1,Xs k0,k1⟩ rfl,rfl⟩⟩)
def nu(n:Nat)(a0:bg)(a1:Int)(a2:Int):Option (bg×Int×Bool):=bd (my n a0 a1 a2) λaW=>cn (aW.2) (lt ({a0 with lu:=wr .i64 (aW.1+a1)}:bg) λbS=>some (bS,aW.1,aW.2)) (some (a0,aW.1,aW.2))
def DB(n:Nat):CT:=cV (tW n [] [uM n]) (gy 187 [.s 6, .i, .i] [.t [.s 6, .i, .b]]) (a3 (nu n)) u3 m3
def rT(n:Nat)(a0:Int)(a1:Int):Option Int:=some (wr .u32 ((wr .u32 ((FX .u32 a1 8)+(wr .u32 a0)))+1))
def I7(n:Nat):CT:=cV (tW n [] []) (gy 132 [.i, .w] [.w]) (a2 (rT n)) u1 m1
def bY(n:Nat)(a0:Int):Option (Int×Bool):=cn (((decide ((wr .i64 ((wr .i64 (lY .u32 a0 255))-1))<0)||decide (32<=(wr .i64 ((wr .i64 (lY .u32 a0 255))-1))))||decide (8388607<(FW .u32 a0 8)))) (some (0,false)) (some (wr .i64 ((wr .i64 (lY .u32 a0 255))-1),true))
def dA(n:Nat):CT:=cV (tW n [] []) (gy 42 [.w] [.t [.i, .b]]) (a1 (bY n)) u2 m2
def aU(n:Nat)(a0:bn)(a1:Int):Option Bool:=bd (bY n a1) λaW=>gu (!(aW.2==true)||bM aW.1 32)<|lt ({gen:=FW .u32 a1 8,ox:=true,mZ:=false}:eX) λgG=>some (aW.2&&(xX (a0.aI (Int.toNat aW.1)) gG))
def bH(n:Nat):CT:=cV (tW n [] [dA n]) (gy 18 [.s 3, .w] [.b]) (a2 (aU n)) u1 m1
def nT(n:Nat)(a0:bn)(a1:Int):Option (Int×Bool):=gu (!((decide (a1<0)||decide (32<=a1))==false)||bM a1 32)<|cn (((decide (a1<0)||decide (32<=a1))||(!((a0.aI (Int.toNat a1)).ox)))) (some (0,false)) (gu (bM a1 32)<|bd (rT n a1 ((a0.aI (Int.toNat a1)).gen)) λgG=>some (gG,true))
def Hz(n:Nat):CT:=cV (tW n [] [I7 n]) (gy 126 [.s 3, .i] [.t [.w, .b]]) (a2 (nT n)) u2 m2
def jb(n:Nat)(a0:bn):Option (bn×Int×Bool):=eU (λzu (bS:Int)=>cn (decide (bS<32)) (gu (bM bS 32)<|lt ((a0.aI (Int.toNat bS)):eX) λeC=>cn ((eC.ox||eC.mZ)) (zu (wr .i64 (bS+1))) (gu (bM bS 32)<|lt ({a0 with aI:=(dy a0.aI (Int.toNat bS) ({(a0.aI (Int.toNat bS))with ox:=true}))}:bn) λiM=>bd (rT n bS eC.gen) λdL=>some (iM,dL,true))) (some (a0,0,false))) n 0
def wh(n:Nat)(a0 b0:bn)(zu:Int->Option (bn×Int×Bool))(bS:Int):Option (bn×Int×Bool):=cn (decide (bS<32)) (gu (bM bS 32)<|lt ((a0.aI (Int.toNat bS)):eX) λeC=>cn ((eC.ox||eC.mZ)) (zu (wr .i64 (bS+1))) (gu (bM bS 32)<|lt ({b0 with aI:=(dy b0.aI (Int.toNat bS) ({(b0.aI (Int.toNat bS))with ox:=true}))}:bn) λiM=>bd (rT n bS eC.gen) λdL=>some (iM,dL,true))) (some (b0,0,false))
def v7(n:Nat)(a0:bn):Option (bn×Int×Bool):=cJ (λkk x b=>wh n a0 b (λx=>kk x b) x) n 0 a0
theorem DI(n:Nat)(a0:bn):v7 n a0=jb n a0:=Pd (wh n a0) n 0 a0
def vY(n:Nat):CT:=cV (tW n [(5, .loop [(.slot 9,(.v (.int .i64))),(.via 1, .box 29 (.v (.st 3))),(.via 2, .box 29 (.unk 96))])] [I7 n]) (gy 232 [.s 3] [.t [.s 3, .w, .b]]) (a1 (jb n)) u3 m3 (hW:=λx=>Eq.trans (b:=v7 n x.1) (by kernel_rfl) (DI ..))
def iQ(n:Nat)(a0:bn)(a1:Int):Option (bn×Bool):=bd (aU n a0 a1) λaW=>cn ((!aW)) (some (a0,false)) (bd (bY n a1) λbS=>gu (bM bS.1 32)<|lt ({a0 with aI:=(dy a0.aI (Int.toNat bS.1) ({(a0.aI (Int.toNat bS.1))with ox:=false}))}:bn) λiH=>cn ((((iH.aI (Int.toNat bS.1)).gen)==8388607)) (lt ({iH with aI:=(dy iH.aI (Int.toNat bS.1) ({(iH.aI (Int.toNat bS.1))with mZ:=true}))}:bn) λfI=>some (fI,true)) (lt ({iH with aI:=(dy iH.aI (Int.toNat bS.1) ({(iH.aI (Int.toNat bS.1))with gen:=wr .u32 (((iH.aI (Int.toNat bS.1)).gen)+1)}))}:bn) λfR=>some (fR,true)))
def w7(n:Nat):CT:=cV (tW n [] [bH n,dA n]) (gy 255 [.s 3, .w] [.t [.s 3, .b]]) (a2 (iQ n)) u2 m2
def ew(n:Nat)(a0:bn):Option (List Int):=cJ (λMB (eC:(List Int)) (dL:Int)=>cn (decide (dL<32)) (bd (nT n a0 dL) λeD=>cn (eD.2) (gu (gO eC.length 1 4)<|lt (eC++([eD.1]):List Int) λl7=>MB l7 (wr .i64 (dL+1))) (MB eC (wr .i64 (dL+1)))) (some eC)) n ([]) 0
def mW(n:Nat):CT:=cV (tW n [(7, .loop [(.slot 3,(.row 32 1 (.int .u32))),(.slot 7,(.v (.int .i64)))])] [Hz n]) ⟨115,[], .cons (.v (.st 3)) .nil, .cons (.row 32 1 (.int .u32)) .nil,[none], .nil,[],[]⟩ (a1 (ew n)) u1 m1
def eM(n:Nat)(a0:aD)(a1:Int):Option Int:=gu (bM a1 32)<|some (wr .i64 ((wr .i64 (a1+(wr .i64 (256*(a0.gE (Int.toNat a1))))))+1))
def kT(n:Nat):CT:=cV (tW n [] []) (gy 19 [.s 18, .i] [.i]) (a2 (eM n)) u1 m1
def br(n:Nat)(a0:aD)(a1:Int):Option Int:=eU (λzu (bS:Int)=>cn (decide (bS<32)) (gu (bM bS 32)<|cl (((a0.Is (Int.toNat bS))==1)==true) (eM n a0 bS) default λeC=>cn ((((a0.Is (Int.toNat bS))==1)&&(eC==a1))) (some bS) (zu (wr .i64 (bS+1)))) (some (-1))) n 0
def cC(n:Nat):CT:=cV (tW n [(5, .loop [(.slot 5,(.v (.int .i64)))])] [kT n]) (gy 97 [.s 18, .i] [.i]) (a2 (br n)) u1 m1
def kZ(n:Nat)(a0:aD)(a1:Int):Option (aD×Bool):=bd (br n a0 a1) λaW=>cn (decide (aW<0)) (some (a0,false)) (gu (bM aW 32)<|lt ({a0 with Is:=(dy a0.Is (Int.toNat aW) 0)}:aD) λgG=>gu (bM aW 32)<|cn (((gG.gE (Int.toNat aW))==8388607)) (gu (bM aW 32)<|lt ({gG with Is:=(dy gG.Is (Int.toNat aW) 2)}:aD) λfR=>some (fR,true)) (gu (bM aW 32)<|gu (bM aW 32)<|lt ({gG with gE:=(dy gG.gE (Int.toNat aW) (wr .i64 ((gG.gE (Int.toNat aW))+1)))}:aD) λiM=>some (iM,true)))
def sA(n:Nat):CT:=cV (tW n [] [cC n]) (gy 111 [.s 18, .i] [.t [.s 18, .b]]) (a2 (kZ n)) u2 m2
def iO(n:Nat)(a0:aD):Option (aD×Int):=eU (λzu (bS:Int)=>cn (decide (bS<32)) (gu (bM bS 32)<|cn (((a0.Is (Int.toNat bS))==0)) (gu (bM bS 32)<|lt ({a0 with Is:=(dy a0.Is (Int.toNat bS) 1)}:aD) λfL=>bd (eM n fL bS) λiM=>some (fL,iM)) (zu (wr .i64 (bS+1)))) (some (a0,0))) n 0
def xP(n:Nat)(a0 b0:aD)(zu:Int->Option (aD×Int))(bS:Int):Option (aD×Int):=cn (decide (bS<32)) (gu (bM bS 32)<|cn (((b0.Is (Int.toNat bS))==0)) (gu (bM bS 32)<|lt ({b0 with Is:=(dy b0.Is (Int.toNat bS) 1)}:aD) λfL=>bd (eM n fL bS) λiM=>some (fL,iM)) (zu (wr .i64 (bS+1)))) (some (b0,0))
def xh(n:Nat)(a0:aD):Option (aD×Int):=cJ (λkk x b=>xP n a0 b (λx=>kk x b) x) n 0 a0
theorem EZ(n:Nat)(a0:aD):xh n a0=iO n a0:=Pd (xP n a0) n 0 a0
def wX(n:Nat):CT:=cV (tW n [(5, .loop [(.slot 4,(.v (.int .i64))),(.via 1, .box 69 (.v (.st 18))),(.via 2, .box 69 (.unk 64))])] [kT n]) (gy 113 [.s 18] [.t [.s 18, .i]]) (a1 (iO n)) u2 m2 (hW:=λx=>Eq.trans (b:=xh n x.1) (by kernel_rfl) (EZ ..))
def gV(n:Nat)(a0:az)(a1:Int):Option (cB×Int):=bd (br n a0.B a1) λaW=>cn (decide (aW<0)) (lt ({Region:=0,By:=0,To:=0,bF:=false,bh:=0}:cB) λbS=>some (bS,4)) (gu (bM aW 32)<|lt ((a0.T (Int.toNat aW)):cB) λiH=>some (iH,0))
def rA(n:Nat):CT:=cV (tW n [] [cC n]) (gy 68 [.s 25, .i] [.t [.s 24, .i]]) (a2 (gV n)) u2 m2
def mh(n:Nat)(a0:az)(a1:Int)(a2:Int)(a3:Int):Option Bool:=gu (bM a1 32)<|gu (!(((a0.B.Is (Int.toNat a1))==1)==true)||bM a1 32)<|gu (!((((a0.B.Is (Int.toNat a1))==1)&&(((a0.T (Int.toNat a1)).Region)==a2))==true)||bM a1 32)<|some ((((a0.B.Is (Int.toNat a1))==1)&&(((a0.T (Int.toNat a1)).Region)==a2))&&(((a0.T (Int.toNat a1)).bh)==a3))
def uB(n:Nat):CT:=cV (tW n [] []) (gy 119 [.s 25, .i, .i, .i] [.b]) (a4 (mh n)) u1 m1
def eu(n:Nat)(a0:az)(a1:Int)(a2:Int):Option Bool:=eU (λzu (bS:Int)=>cn (decide (bS<32)) (bd (mh n a0 bS a1 a2) λfR=>gu (!(fR==true)||bM bS 32)<|cn ((fR&&(a0.T (Int.toNat bS)).bF)) (some false) (zu (wr .i64 (bS+1)))) (cl ((a2==0)==false) (br n a0.B a2) default λfL=>some ((a2==0)||decide (0<=fL)))) n 0
def mU(n:Nat):CT:=cV (tW n [(5, .loop [(.slot 7,(.v (.int .i64)))])] [uB n,cC n]) (gy 86 [.s 25, .i, .i] [.b]) (a3 (eu n)) u1 m1
def dW(n:Nat)(a0:az)(a1:Int)(a2:Int):Option Bool:=eU (λzu (bS:Int)=>cn (decide (bS<32)) (bd (mh n a0 bS a1 a2) λfR=>cn (fR) (some false) (zu (wr .i64 (bS+1)))) (cl ((a2==0)==false) (br n a0.B a2) default λeC=>some ((a2==0)||decide (0<=eC)))) n 0
def mD(n:Nat):CT:=cV (tW n [(5, .loop [(.slot 7,(.v (.int .i64)))])] [uB n,cC n]) (gy 88 [.s 25, .i, .i] [.b]) (a3 (dW n)) u1 m1
def dw(n:Nat)(a0:ay)(a1:Int):Option (bE×Int):=bd (aU n a0.bj a1) λaW=>cn ((!aW)) (lt ({Region:=0,By:=0,To:=0,bF:=false,bh:=0}:bE) λbS=>some (bS,4)) (bd (bY n a1) λgG=>gu (bM gG.1 16)<|lt ((a0.aI (Int.toNat gG.1)):bE) λfI=>some (fI,0))
def gH(n:Nat):CT:=cV (tW n [] [bH n,dA n]) (gy 83 [.s 13, .w] [.t [.s 12, .i]]) (a2 (dw n)) u2 m2
def kD(n:Nat)(a0:ay)(a1:Int):Option Bool:=cl ((a1==0)==false) (aU n a0.bj a1) default λaW=>some ((a1==0)||aW)
def qA(n:Nat):CT:=cV (tW n [] [bH n]) (gy 118 [.s 13, .w] [.b]) (a2 (kD n)) u1 m1
def mX(n:Nat)(a0:bE)(a1:Int)(a2:Int)(a3:Bool):Option (Bool×Bool):=lt ((a3||(((a0.Region==a1)&&(a0.bh==a2))&&a0.bF)):Bool) λaW=>some (((a0.Region==a1)&&(a0.bh==a2)),aW)
def zN(n:Nat):CT:=cV (tW n [] []) ⟨129,[(32, .v (.int .u32)),(32, .v (.int .u32))], .cons (.v (.st 12)) (.cons (.cW 0) (.cons (.cW 1) (.cons (.box 4 (.v .bool)) .nil))), .cons (.v .bool) (.cons (.box 4 (.v .bool)) .nil),[some 2], .nil,[],[[3]]⟩ (λx=>mX n x.2.2.1 x.1 x.2.1 x.2.2.2.1) u2 m2
def eB(n:Nat)(a0:ay)(mM:Int)(vI:Int)(acf:Bool):Option ((List Int)×Bool):=bd (ew n a0.bj) λaW=>sU (λk39 (gF:(List Int)) (g8:Int) (l7:Bool)=>cn (decide (g8<(aW.length:Int))) (gu (bM g8 aW.length)<|bd (dw n a0 (aW.getD (Int.toNat g8) default)) λgR=>bd (mX n gR.1 mM vI l7) λvK=>cn (vK.1) (gu (gO gF.length 1 4)<|lt (gF++([(aW.getD (Int.toNat g8) default)]):List Int) λxY=>k39 xY (wr .i64 (g8+1)) vK.2) (k39 gF (wr .i64 (g8+1)) vK.2)) (some (gF,l7))) n ([]) 0 acf
def oq(n:Nat):CT:=cV (tW n [(7, .loop [(.slot 5,(.row 32 1 (.int .u32))),(.slot 14,(.v (.int .i64))),(.cap 1 2, .box 4 (.v .bool))])] [mW n,gH n,zN n]) ⟨128,[(32, .v (.int .u32)),(32, .v (.int .u32))], .cons (.v (.st 13)) (.cons (.fn (.func 129) .nil (.cons (.cW 0) (.cons (.cW 1) (.cons (.box 4 (.v .bool)) .nil)))) .nil), .cons (.v (.sl (.int .u32))) (.cons (.box 4 (.v .bool)) .nil),[some 2], .nil,[],[[1,2]]⟩ (λx=>eB n x.2.2.1 x.1 x.2.1 x.2.2.2.1) u2 m2
def jD(n:Nat)(a0:ay)(a1:Int)(a2:Int):Option (Int×Bool):=bd (eB n a0 a1 a2 false) λaW=>some ((aW.1.length:Int),aW.2)
def pE(n:Nat):CT:=cV (tW n [] [oq n]) (gy 117 [.s 13, .w, .w] [.t [.i, .b]]) (a3 (jD n)) u2 m2
def jE(n:Nat)(a0:ay)(a1:Int)(a2:Int):Option Bool:=bd (jD n a0 a1 a2) λaW=>bd (kD n a0 a2) λbS=>some (bS&&(!aW.2))
def pF(n:Nat):CT:=cV (tW n [] [pE n,qA n]) (gy 85 [.s 13, .w, .w] [.b]) (a3 (jE n)) u1 m1
def jg(n:Nat)(a0:ay)(a1:Int)(a2:Int):Option Bool:=bd (jD n a0 a1 a2) λaW=>bd (kD n a0 a2) λbS=>some (bS&&(aW.1==0))
def oY(n:Nat):CT:=cV (tW n [] [pE n,qA n]) (gy 87 [.s 13, .w, .w] [.b]) (a3 (jg n)) u1 m1
def Gg(n:Nat)(a0:bE):Option cB:=lt ({Region:=wr .i64 a0.Region,By:=wr .i64 a0.By,To:=wr .i64 a0.To,bF:=a0.bF,bh:=wr .i64 a0.bh}:cB) λaW=>some aW
def SS(n:Nat):CT:=cV (tW n [] []) (gy 84 [.s 12] [.s 24]) (a1 (Gg n)) u1 m1
def Aj(n:Nat)(a0:ay)(a1:az):Option Bool:=eU (λzu (bS:Int)=>cn (decide (bS<32)) (bd (eM n a1.B bS) λfR=>bd (dw n a0 (wr .u32 fR)) λeC=>bd (gV n a1 fR) λfL=>cl (((eC.2!=fL.2)==false)&&((eC.2==0)==true)) (Gg n eC.1) default λiM=>cl (((eC.2!=fL.2)||((eC.2==0)&&(!(mB iM fL.1))))==false) (jE n a0 eC.1.Region (wr .u32 fR)) default λdL=>cl (((eC.2!=fL.2)||((eC.2==0)&&(!(mB iM fL.1))))==false) (eu n a1 (wr .i64 eC.1.Region) fR) default λeE=>cl ((((eC.2!=fL.2)||((eC.2==0)&&(!(mB iM fL.1))))||(dL !=eE))==false) (jg n a0 eC.1.Region (wr .u32 fR)) default λgF=>cl ((((eC.2!=fL.2)||((eC.2==0)&&(!(mB iM fL.1))))||(dL !=eE))==false) (dW n a1 (wr .i64 eC.1.Region) fR) default λq9=>cn (((((eC.2!=fL.2)||((eC.2==0)&&(!(mB iM fL.1))))||(dL !=eE))||(gF !=q9))) (some false) (zu (wr .i64 (bS+1)))) (some true)) n 0
def Oq(n:Nat):CT:=cV (tW n [(5, .loop [(.slot 5,(.v (.int .i64)))])] [kT n,gH n,rA n,SS n,pF n,mU n,oY n,mD n]) (gy 37 [.s 13, .s 25] [.b]) (a2 (Aj n)) u1 m1
def fY(n:Nat)(a0:az)(a1:Int):Option (az×(List Int)×Int):=bd (br n a0.B a1) λaW=>cn (decide (aW<0)) (some (a0,([]:List Int),4)) (bd (br n a0.B a1) λgG=>gu (bM gG 32)<|lt ((dy (λ_ =>false) (Int.toNat gG) true):(Nat->Bool)) λfI=>cJ (λMB (iM:Bool) (dL:(Nat->Bool))=>cn (iM) (sU (λk44 (qf:Bool) (l6:Int) (gR:(Nat->Bool))=>cn (decide (l6<32)) (gu (bM l6 32)<|bd (br n a0.B ((a0.T (Int.toNat l6)).bh)) λvJ=>gu (bM l6 32)<|gu (!(((a0.B.Is (Int.toNat l6))==1)==true)||bM l6 32)<|gu (!(((((a0.B.Is (Int.toNat l6))==1)&&(!(gR (Int.toNat l6))))&&decide (0<=vJ))==true)||bM vJ 32)<|cn ((((((a0.B.Is (Int.toNat l6))==1)&&(!(gR (Int.toNat l6))))&&decide (0<=vJ))&&(gR (Int.toNat vJ)))) (gu (bM l6 32)<|lt ((dy gR (Int.toNat l6) true):(Nat->Bool)) λYF=>k44 true (wr .i64 (l6+1)) YF) (k44 qf (wr .i64 (l6+1)) gR)) (MB qf gR)) n false 0 dL) (sU (λk66 (uz:(List Int)) (Qq:Int) (UR:az)=>cn (decide (Qq<32)) (gu (bM Qq 32)<|cn ((dL (Int.toNat Qq))) (bd (eM n a0.B Qq) λyY=>gu (gO uz.length 1 8)<|lt (uz++([yY]):List Int) λOe=>bd (eM n a0.B Qq) λJD=>bd (kZ n UR.B JD) λx74=>lt ({UR with B:=x74.1}:az) λYE=>k66 Oe (wr .i64 (Qq+1)) YE) (k66 uz (wr .i64 (Qq+1)) UR)) (some (UR,uz,0))) n ([]) 0 a0)) n true fI)
def tB(n:Nat):CT:=cV (tW n [(13, .loop [(.slot 8,(.v .bool)),(.via 7, .box 236 (.v (.oE 32 .bool)))]),(19, .loop [(.slot 8,(.v .bool)),(.slot 9,(.v (.int .i64))),(.via 7, .box 236 (.v (.oE 32 .bool)))]),(37, .loop [(.slot 11,(.row 3 1 (.int .i64))),(.slot 13,(.v (.int .i64))),(.via 12, .box 87 (.v (.st 25)))])] [cC n,kT n,sA n]) (gy 69 [.s 25, .i] [.t [.s 25, .v (.sl (.int .i64)), .i]]) (a2 (fY n)) u3 m3
def kI(n:Nat)(a0:az)(a1:cB):Option (az×Int×Int):=cl ((a1.bh !=0)==true) (br n a0.B a1.bh) default λaW=>cn (((a1.bh !=0)&&decide (aW<0))) (some (a0,0,4)) (cn ((((decide (7<a1.By)||decide (7<a1.To))||(a1.By==a1.To))||(a1.Region==0))) (some (a0,0,2)) (lt (λ(u22:Unit)=>bd (eu n a0 a1.Region a1.bh) λeC=>cl (((!eC)==false)&&(a1.bF==true)) (dW n a0 a1.Region a1.bh) default λfL=>cn (((!eC)||(a1.bF&&(!fL)))) (some (a0,0,5)) (bd (iO n a0.B) λiM=>cl ((iM.2==0)==false) (br n iM.1 iM.2) default λdL=>cn (((iM.2==0)||decide (15<dL))) (some (a0,0,7)) (lt ({a0 with B:=iM.1}:az) λeE=>bd (br n iM.1 iM.2) λgF=>gu (bM gF 32)<|lt ({eE with T:=(dy eE.T (Int.toNat gF) a1)}:az) λeD=>some (eD,iM.2,0)))) λj23=>cn ((a1.bh !=0)) (bd (br n a0.B a1.bh) λiH=>gu (bM iH 32)<|lt ((a0.T (Int.toNat iH)):cB) λfR=>cn ((((fR.Region !=a1.Region)||(fR.To !=a1.By))||(a1.bF&&(!fR.bF)))) (some (a0,0,12)) (j23 ())) (j23 ())))
def Dx(n:Nat):CT:=cV (tW n [(18, .join [(.via 4, .box 87 (.v (.st 25)))] [])] [cC n,mU n,mD n,wX n]) (gy 72 [.s 25, .s 24] [.t [.s 25, .i, .i]]) (a2 (kI n)) u3 m3
def dF(n:Nat)(a0:az)(a1:Int)(a2:Int):Option (List Int):=cJ (λMB (eC:(List Int)) (dL:Int)=>cn (decide (dL<32)) (gu (bM dL 32)<|gu (!((((a0.B.Is (Int.toNat dL))==1)==true)&&((decide (a1<0))==false))||bM dL 32)<|gu (!(((((a0.B.Is (Int.toNat dL))==1)&&(decide (a1<0)||(((a0.T (Int.toNat dL)).Region)==a1)))==true)&&((decide (a2<0))==false))||bM dL 32)<|cn (((((a0.B.Is (Int.toNat dL))==1)&&(decide (a1<0)||(((a0.T (Int.toNat dL)).Region)==a1)))&&(decide (a2<0)||(((a0.T (Int.toNat dL)).To)==a2)))) (bd (eM n a0.B dL) λiU=>gu (gO eC.length 1 8)<|lt (eC++([iU]):List Int) λqf=>MB qf (wr .i64 (dL+1))) (MB eC (wr .i64 (dL+1)))) (some eC)) n ([]) 0
def mT(n:Nat):CT:=cV (tW n [(7, .loop [(.slot 7,(.row 3 1 (.int .i64))),(.slot 8,(.v (.int .i64)))])] [kT n]) ⟨96,[], .cons (.v (.st 25)) (.cons (.v (.int .i64)) (.cons (.v (.int .i64)) .nil)), .cons (.row 3 1 (.int .i64)) .nil,[none], .nil,[],[]⟩ (a3 (dF n)) u1 m1
def mj(n:Nat)(a0:az)(a1:Int):Option az:=bd (dF n a0 a1 (-1)) λaW=>cJ (λk32 (fL:Int) (iM:az)=>cn (decide (fL<(aW.length:Int))) (gu (bM fL aW.length)<|bd (kZ n iM.B (aW.getD (Int.toNat fL) default)) λeD=>lt ({iM with B:=eD.1}:az) λg8=>k32 (wr .i64 (fL+1)) g8) (some iM)) n 0 a0
def BW(n:Nat):CT:=cV (tW n [(7, .loop [(.slot 6,(.v (.int .i64))),(.via 2, .box 87 (.v (.st 25)))])] [mT n,sA n]) (gy 106 [.s 25, .i] [.s 25]) (a2 (mj n)) u1 m1
def pc(n:Nat)(a0:bE)(a1:Int):Option Bool:=some ((wr .i64 a0.To)==a1)
def Dn(n:Nat):CT:=cV (tW n [] []) ⟨212,[(3, .v (.int .i64))], .cons (.v (.st 12)) (.cons (.cW 0) .nil), .cons (.v .bool) .nil,[], .nil,[],[]⟩ (λx=>pc n x.2.1 x.1) u1 m1
def gT(n:Nat)(a0:ay)(mM:Int):Option (List Int):=bd (ew n a0.bj) λaW=>cJ (λGi (eE:(List Int)) (eD:Int)=>cn (decide (eD<(aW.length:Int))) (gu (bM eD aW.length)<|bd (dw n a0 (aW.getD (Int.toNat eD) default)) λqf=>bd (pc n qf.1 mM) λl6=>cn (l6) (gu (gO eE.length 1 4)<|lt (eE++([(aW.getD (Int.toNat eD) default)]):List Int) λvK=>Gi vK (wr .i64 (eD+1))) (Gi eE (wr .i64 (eD+1)))) (some eE)) n ([]) 0
def pz(n:Nat):CT:=cV (tW n [(7, .loop [(.slot 5,(.row 32 1 (.int .u32))),(.slot 14,(.v (.int .i64)))])] [mW n,gH n,Dn n]) ⟨128,[(3, .v (.int .i64))], .cons (.v (.st 13)) (.cons (.fn (.func 212) .nil (.cons (.cW 0) .nil)) .nil), .cons (.v (.sl (.int .u32))) .nil,[], .nil,[],[]⟩ (λx=>gT n x.2.1 x.1) u1 m1
def oK(n:Nat)(a0:ay)(a1:Int):Option (List Int):=bd (gT n a0 a1) λaW=>some aW
def FB(n:Nat):CT:=cV (tW n [] [pz n]) (gy 151 [.s 13, .i] [.v (.sl (.int .u32))]) (a2 (oK n)) u1 m1
def ql(n:Nat)(a0:ay)(a1:bE):Option Int:=bd (dw n a0 a1.bh) λaW=>bd (jD n a0 a1.Region a1.bh) λbS=>bd (kD n a0 a1.bh) λgG=>cn ((!gG)) (some 4) (cn ((((decide (8<=a1.By)||decide (8<=a1.To))||(a1.By==a1.To))||(a1.Region==0))) (some 2) (cn (((a1.bh !=0)&&(((aW.1.Region !=a1.Region)||(aW.1.To !=a1.By))||(a1.bF&&(!aW.1.bF))))) (some 12) (cn ((bS.2||(a1.bF&&decide (0<bS.1)))) (some 5) (some 0))))
def Er(n:Nat):CT:=cV (tW n [] [gH n,pE n,qA n]) (gy 231 [.s 13, .s 12] [.i]) (a2 (ql n)) u1 m1
def kF(n:Nat)(a0:ay)(a1:bE):Option (ay×Int×Int):=bd (ql n a0 a1) λaW=>cn ((aW !=0)) (some (a0,0,aW)) (bd (jb n a0.bj) λbS=>bd (bY n bS.2.1) λgG=>cn (((!gG.2)||decide (16<=gG.1))) (some (a0,0,7)) (lt ({a0 with bj:=bS.1}:ay) λiH=>gu (bM gG.1 16)<|lt ({iH with aI:=(dy iH.aI (Int.toNat gG.1) a1)}:ay) λfR=>some (fR,bS.2.1,0)))
def Dp(n:Nat):CT:=cV (tW n [] [Er n,vY n,dA n]) (gy 199 [.s 13, .s 12] [.t [.s 13, .w, .i]]) (a2 (kF n)) u3 m3
def gI(n:Nat)(a0:ay)(a1:(List Int)):Option ay:=cJ (λk28 (iH:Int) (fI:ay)=>cn (decide (iH<(a1.length:Int))) (gu (bM iH a1.length)<|bd (iQ n fI.bj (a1.getD (Int.toNat iH) default)) λdL=>lt ({fI with bj:=dL.1}:ay) λeE=>k28 (wr .i64 (iH+1)) eE) (some fI)) n 0 a0
def zM(n:Nat):CT:=cV (tW n [(5, .loop [(.slot 9,(.v (.int .i64))),(.via 2, .box 53 (.v (.st 13)))])] [w7 n]) (gy 235 [.s 13, .v (.sl (.int .u32))] [.s 13]) (a2 (gI n)) u1 m1
def kE(n:Nat)(a0:bE)(a1:Int):Option Bool:=some (a0.bh==a1)
def cZ(n:Nat)(a0:ay)(mM:Int):Option (List Int):=bd (ew n a0.bj) λaW=>cJ (λGi (eE:(List Int)) (eD:Int)=>cn (decide (eD<(aW.length:Int))) (gu (bM eD aW.length)<|bd (dw n a0 (aW.getD (Int.toNat eD) default)) λqf=>bd (kE n qf.1 mM) λl6=>cn (l6) (gu (gO eE.length 1 4)<|lt (eE++([(aW.getD (Int.toNat eD) default)]):List Int) λvK=>Gi vK (wr .i64 (eD+1))) (Gi eE (wr .i64 (eD+1)))) (some eE)) n ([]) 0
def ga:Nat->Int->(List (Int×Bool))->ay->Option (List (Int×Bool))
 |0,_,_,_ =>none
 |n+1,a0,a1,a2=>
 lt (qF a1 a0 true:(List (Int×Bool))) λaW=>
 bd (cZ n a2 a0) λbS=>
 cJ (λGi (q9:Int) (eD:(List (Int×Bool)))=>
 cn (decide (q9<(bS.length:Int))) (
 gu (bM q9 bS.length)<|
 bd (ga n (bS.getD (Int.toNat q9) default) eD a2) λqf=>
 Gi (wr .i64 (q9+1)) qf) (
 some eD)) n 0 aW
def eZ(n:Nat)(a0:ay)(a1:Int):Option (ay×(List Int)×Int):=bd (aU n a0.bj a1) λaW=>cn ((!aW)) (some (a0,([]:List Int),4)) (bd (ga n a1 ([]:List (Int×Bool)) a0) λgG=>bd (ew n a0.bj) λiH=>cJ (λRh (eD:(List Int)) (iU:Int)=>cn (decide (iU<(iH.length:Int))) (gu (bM iU iH.length)<|cn ((qQ gG (iH.getD (Int.toNat iU) default) false)) (gu (gO eD.length 1 4)<|lt (eD++([(iH.getD (Int.toNat iU) default)]):List Int) λo9=>Rh o9 (wr .i64 (iU+1))) (Rh eD (wr .i64 (iU+1)))) (bd (gI n a0 eD) λvJ=>some (vJ,eD,0))) n ([]) 0)
namespace H
instance:Mc Tryz.prog 336 32 4 .u32:=⟨⟨by kernel_rfl,by kernel_rfl⟩⟩
instance:Mc Tryz.prog 344 5 23 .u8:=⟨⟨by kernel_rfl,by kernel_rfl⟩⟩
instance:Yx Tryz.prog 4 (Value.bool false):=⟨by kernel_rfl⟩
instance:Yx Tryz.prog 23 .nilFunc:=⟨by kernel_rfl⟩
theorem Kg(x y:eX):Value.bool (Ig [(0,some .u32),(1,none),(2,none)] (dg.enc x) (dg.enc y))= .bool (xX x y):=congrArg Value.bool (by show((x.gen==y.gen)&&((x.ox==y.ox)&&((x.mZ==y.mZ)&&true)))=(x.gen==y.gen&&x.ox==y.ox&&x.mZ==y.mZ);simp[Bool.and_assoc])
theorem R3{n a0 a1 r}(h:rT n a0 a1=some r):FnV Tryz.prog 132 [.int .i64 a0, .int .u32 a1] (.int .u32 r):=by unfold rT at h;refine xI Tryz.func132 (by kernel_rfl) rfl Tryz.ntmps132 rfl (λcx qT hpre hro=>?_);refine SC 8 rf ?_;refine cO rfl (Wr rfl rfl (by decide)) ?_;refine SL 8 rf ?_;have h:=sj h;subst h;exact RV rf (rt rf rn) rf
theorem pX{n a0 r}(h:bY n a0=some r):FnV Tryz.prog 42 [.int .u32 a0] (.tuple #[.int .i64 r.1, .bool r.2]):=by
 unfold bY at h;refine xI Tryz.func42 (by kernel_rfl) rfl Tryz.ntmps42 rfl (λcx qT hpre hro=>?_);refine SC 9 rf ?_;refine cO rfl (afq rfl rfl) ?_;refine SL 11 rf ?_;refine GB rf rf rf (λhb=>dK rfl) ?_;refine GB rf rf rf (λhb=>UG (PA rfl hb) rfl) ?_;refine cO rfl (Ws rfl rfl) ?_;refine cO rfl (dK rfl) ?_;refine GB rf rf rf (λhb=>dK rfl) ?_;refine GB rf rf rf (λhb=>P1 (PA rfl hb) rfl (by decide)) ?_;refine GB rf rf rf (λhb=>acy (PA rfl hb) rfl) ?_;refine cO rfl (Ws rfl rfl) ?_;refine SL 2 rf ?_;refine Qn h rf (λhc h=>?_) λhc h=>?_
 ·refine SC 8 rf ?_;have h:=sj h;subst h;exact RV rf (rt rf (rt rf rn)) rf
 ·refine SC 10 rf ?_;have h:=sj h;subst h;exact RV rf (rt rf (rt rf rn)) rf
theorem rI{n a0 a1 r}(h:aU n a0 a1=some r):FnV Tryz.prog 18 [.agg (bA.enc a0).toArray, .int .u32 a1] (.bool r):=by unfold aU at h;refine xI Tryz.func18 (by kernel_rfl) rfl Tryz.ntmps18 rfl (λcx qT hpre hro=>?_);refine SC 2 rf ?_;refine W1 rf (qx bA a0 rfl rfl) λb2=>?_;obtain⟨aW,Lt,h⟩:=vG h;refine SL 6 rf ?_;refine CV (pX Lt) rf rf ?_;obtain⟨T6,h⟩:=rH h;obtain⟨gG,TU,h⟩:=uS h;refine SL 11 rf ?_;refine GB rf rf rf (λhb=>dK rfl) ?_;refine GB rf rf rf (λhb=>Dj rfl) ?_;refine GB rf rf rf (λhb=>Di (m:=(Int.toNat aW.1)) (PA rfl hb) (PA rfl hb) (dH (Ls T6 hb)).1 (dH (Ls T6 hb)).2) ?_;refine GB rf rf rf (λhb=>nH (M:=dg) (fg.c0 (aY.idx (L:=dg) (m:=32) (k:=3) ((Int.toNat aW.1)) (dH (Ls T6 hb)).2 rfl)) (PA rfl hb) rfl) ?_;refine GB rf rf rf (λhb=>dK rfl) ?_;refine GB rf rf rf (λhb=>P1 (PA rfl hb) rfl (by decide)) ?_;refine GB rf rf rf (λhb=>s8 (cs:=dg.enc gG) (RL (PA rfl hb) (RL rfl rfl)) (by rw[TU];rfl)) ?_;refine GB rf rf rf (λhb=>UC (Wu (cs:=dg.enc (a0.aI (Int.toNat aW.1))) (ds:=dg.enc gG) (PA rfl hb) (PA rfl hb) rfl rfl) (Kg _ _)) ?_;refine cO rfl (Mb rfl rfl) ?_;refine SL 4 rf ?_;have h:=sj h;subst h;exact RV rf (rt rf rn) rf
theorem Ip{n a0 a1 r}(h:nT n a0 a1=some r):FnV Tryz.prog 126 [.agg (bA.enc a0).toArray, .int .i64 a1] (.tuple #[.int .u32 r.1, .bool r.2]):=by
 unfold nT at h;refine xI Tryz.func126 (by kernel_rfl) rfl Tryz.ntmps126 rfl (λcx qT hpre hro=>?_);refine SC 2 rf ?_;refine W1 rf (qx bA a0 rfl rfl) λb2=>?_;obtain⟨ah4,h⟩:=rH h;refine SL 10 rf ?_;refine GB rf rf rf (λhb=>dK rfl) ?_;refine GB rf rf rf (λhb=>UG (PA rfl hb) rfl) ?_;refine cO rfl (Ws rfl rfl) ?_;refine cO rfl (dK rfl) ?_;refine GB rf rf rf (λhb=>dK rfl) ?_;refine GB rf rf rf (λhb=>Dj rfl) ?_;refine GB rf rf rf (λhb=>Di (m:=(Int.toNat a1)) (PA rfl hb) (PA rfl hb) (dH (Ls ah4 hb)).1 (dH (Ls ah4 hb)).2) ?_;refine GB rf rf rf (λhb=>GM (PA rfl hb)) ?_;refine GB rf rf rf (λhb=>ajh ((fg.c0 (aY.idx (L:=dg) (m:=32) (k:=3) ((Int.toNat a1)) (dH (Ls ah4 hb)).2 rfl)).comp p8) (PA rfl hb)) ?_;refine GB rf rf rf (λhb=>Iy (PA rfl hb)) ?_;refine cO rfl (Ws rfl rfl) ?_;refine SL 2 rf ?_;refine Qn h rf (λhc h=>?_) λhc h=>?_
 ·refine SC 8 rf ?_;have h:=sj h;subst h;exact RV rf (rt rf (rt rf rn)) rf
 ·obtain⟨T6,h⟩:=rH h;obtain⟨gG,TU,h⟩:=vG h;refine SC 7 rf ?_;refine cO rfl (Di (m:=(Int.toNat a1)) rfl rfl (dH T6).1 (dH T6).2) ?_;refine cO rfl (GM rfl) ?_;refine cO rfl (Iz ((fg.c0 (aY.idx (L:=dg) (m:=32) (k:=3) ((Int.toNat a1)) (dH T6).2 rfl)).comp nB) rfl) ?_;refine CV (R3 TU) rf rf ?_;refine SL 5 rf ?_;have h:=sj h;subst h;exact RV rf (rt rf (rt rf rn)) rf
theorem E4{n a0 a1 r}(h:iQ n a0 a1=some r):FnV Tryz.prog 255 [.agg (bA.enc a0).toArray, .int .u32 a1] (.tuple #[.agg (bA.enc r.1).toArray, .bool r.2]):=by
 unfold iQ at h;refine xI Tryz.func255 (by kernel_rfl) rfl Tryz.ntmps255 rfl (λcx qT hpre hro=>?_);refine SC 2 rf ?_;refine W1 rf (qx bA a0 rfl rfl) λb2=>?_;refine W1 rf (zD (L:=bA) (z:=lP) ⟨by kernel_rfl⟩) λb4=>?_;obtain⟨aW,Lt,h⟩:=vG h;refine SL 6 rf ?_;refine cO rfl (nH (M:=bA) (aY.id (L:=bA)) rfl rfl) ?_;refine cO rfl (dK rfl) ?_;refine CV (rI Lt) rf rf ?_;refine SL 3 rf ?_;refine Qn h rf (λhc h=>?_) λhc h=>?_
 ·refine SC 2 rf ?_;refine cO rfl (nH (M:=bA) (aY.id (L:=bA)) rfl rfl) ?_;refine W0 (zC (M:=bA) (aY.id (L:=bA)) a0 a0 rfl rfl rfl rfl rfl) ?_;refine SL 5 rf ?_;have h:=sj h;subst h;exact RV rf (ra rf (lD _ _) (rt rf rn)) rf
 ·
  obtain⟨bS,aaV,h⟩:=vG h;refine SC 5 rf ?_;refine CV (pX aaV) rf rf ?_;obtain⟨JR,h⟩:=rH h;refine SL 11 rf ?_;refine cO rfl (Di (m:=(Int.toNat bS.1)) rfl rfl (dH JR).1 (dH JR).2) ?_;obtain⟨iH,XA,h⟩:=uS h;refine SL 8 rf ?_;refine W0 (zC (M:=LB) ((fg.c0 (aY.idx (L:=dg) (m:=32) (k:=3) ((Int.toNat bS.1)) (dH JR).2 rfl)).comp p8) false iH XA rfl rfl rfl rfl) ?_;refine SL 8 rf ?_;refine cO rfl (Iz ((fg.c0 (aY.idx (L:=dg) (m:=32) (k:=3) ((Int.toNat bS.1)) (dH JR).2 rfl)).comp nB) rfl) ?_;refine SL 3 rf ?_;refine Qn h rf (λhc h=>?_) λhc h=>?_
  ·obtain⟨fI,Rm,h⟩:=uS h;refine SC 4 rf ?_;refine W0 (zC (M:=LB) ((fg.c0 (aY.idx (L:=dg) (m:=32) (k:=3) ((Int.toNat bS.1)) (dH JR).2 rfl)).comp tI) true fI Rm rfl rfl rfl rfl) ?_;refine SL 4 rf ?_;refine cO rfl (nH (M:=bA) (aY.id (L:=bA)) rfl rfl) ?_;refine W0 (zC (M:=bA) (aY.id (L:=bA)) fI fI rfl rfl rfl rfl rfl) ?_;refine SL 4 rf ?_;have h:=sj h;subst h;exact RV rf (ra rf (lD _ _) (rt rf rn)) rf
  ·obtain⟨fR,aoe,h⟩:=uS h;refine SC 4 rf ?_;refine cO rfl (Iz ((fg.c0 (aY.idx (L:=dg) (m:=32) (k:=3) ((Int.toNat bS.1)) (dH JR).2 rfl)).comp nB) rfl) ?_;refine SL 3 rf ?_;refine W0 (zC (M:=(LI .u32)) ((fg.c0 (aY.idx (L:=dg) (m:=32) (k:=3) ((Int.toNat bS.1)) (dH JR).2 rfl)).comp nB) (wr .u32 (((iH.aI (Int.toNat bS.1)).gen)+1)) fR aoe rfl rfl rfl rfl) ?_;refine SL 4 rf ?_;refine cO rfl (nH (M:=bA) (aY.id (L:=bA)) rfl rfl) ?_;refine W0 (zC (M:=bA) (aY.id (L:=bA)) fR fR rfl rfl rfl rfl rfl) ?_;refine SL 4 rf ?_;have h:=sj h;subst h;exact RV rf (ra rf (lD _ _) (rt rf rn)) rf
theorem uZ{n a0 r}(h:ew n a0=some r):Bw.Fn (α:=Value) Tryz.prog 115 [.agg (bA.enc a0).toArray] (λ_ =>True) [] (λv=>wI v r.length) (λv=>v) (λv=>[nF v 32 1 (LI .u32) r]):=by
 unfold ew at h;refine xI Tryz.func115 (by kernel_rfl) rfl Tryz.ntmps115 rfl (λcx qT hpre hro=>?_);refine SC 2 rf ?_;refine W1 rf (qx bA a0 rfl rfl) λb1=>?_;refine SL 15 rf ?_;refine GL 32 1 (LI .u32) ?_;obtain⟨ahE,aa9,h⟩:=Rc h;refine LO (β:=(List Int)×Int×Value) [1] [0,1] (λ(m32,eC,dL,Qe)=>[(3,Qe),(7, .int .i64 dL)]) (λ(m32,eC,dL,Qe)=>[nF Qe 32 1 (LI .u32) eC, .cells b1 29 (bA.enc a0)]) (λ(m32,eC,dL,Qe)=>wI Qe eC.length/\cJ ahE m32 eC dL=some r) (n,[],0, .slice none 0 0) ⟨⟨_,_,rfl⟩,h⟩ rf rf rf ?_;rintro m32 ⟨eC,dL,Qe⟩ ⟨alA,h⟩;replace h:=NJ aa9 h;obtain⟨m32,rfl,h⟩:=h;refine SC 6 rf ?_;refine Qn h rf (λhc h=>?_) λhc h=>?_
 ·
  obtain⟨eD,aoa,h⟩:=vG h;refine SC 12 rf ?_;refine cO rfl (nH (M:=bA) (aY.id (L:=bA)) rfl rfl) ?_;refine cO rfl (dK rfl) ?_;refine CV (Ip aoa) rf rf ?_;refine SL 12 rf ?_;refine Qn h rf (λhc h=>?_) λhc h=>?_
  ·obtain⟨XG,h⟩:=rH h;obtain⟨l7,alo,h⟩:=uS h;refine SC 3 rf ?_;refine zA rfl (IB (LI .u32) eD.1 rfl rfl rfl rfl (by decide) (by decide)) (λb19 _ =>?_);refine zA rfl (GU (sz:=1) (L:=(LI .u32)) (xs:=eC) (y:=eD.1) (bytes:=4) rfl rfl rfl (ld XG).1 (ld XG).2) (λv37 aa0=>?_);rw[← alo]at aa0;rw[← alo];refine SL 8 rf ?_;exact LN [1,2] (l7,wr .i64 (dL+1),v37) ⟨aa0,h⟩ rf rf rf
  ·refine SC 7 rf ?_;exact LN [0,1] (eC,wr .i64 (dL+1),Qe) ⟨alA,h⟩ rf rf rf
 ·refine SC 12 rf ?_;have h:=sj h;subst h;exact CD Qe rfl (.tmp rfl .nil) alA rfl (ks:=[0]) rfl (by decide)
theorem E3{n a0 a1 r}(h:dw n a0 a1=some r):FnV Tryz.prog 83 [.agg (aF.enc a0).toArray, .int .u32 a1] (.tuple #[.agg (cq.enc r.1).toArray, .int .i64 r.2]):=by
 unfold dw at h;refine xI Tryz.func83 (by kernel_rfl) rfl Tryz.ntmps83 rfl (λcx qT hpre hro=>?_);refine SC 2 rf ?_;refine W1 rf (qx aF a0 rfl rfl) λb2=>?_;refine W1 rf (zD (L:=cq) (z:=lK) ⟨by kernel_rfl⟩) λb4=>?_;obtain⟨aW,Lt,h⟩:=vG h;refine SL 7 rf ?_;refine cO rfl (nH (M:=bA) ig rfl rfl) ?_;refine cO rfl (dK rfl) ?_;refine CV (rI Lt) rf rf ?_;refine SL 3 rf ?_;refine Qn h rf (λhc h=>?_) λhc h=>?_
 ·obtain⟨bS,aaV,h⟩:=uS h;refine SC 2 rf ?_;refine cO rfl (s8 (cs:=cq.enc bS) rfl (by rw[aaV];rfl)) ?_;refine W0 (zC (M:=cq) (aY.id (L:=cq)) bS bS rfl rfl rfl rfl rfl) ?_;refine SL 5 rf ?_;have h:=sj h;subst h;exact RV rf (ra rf (lD _ _) (rt rf rn)) rf
 ·obtain⟨gG,TU,h⟩:=vG h;refine SC 5 rf ?_;refine CV (pX TU) rf rf ?_;obtain⟨Rv,h⟩:=rH h;obtain⟨fI,Rm,h⟩:=uS h;refine SL 11 rf ?_;refine cO rfl (Sb (m:=(Int.toNat gG.1)) rfl rfl (dH Rv).1 (dH Rv).2) ?_;refine cO rfl (nH (M:=cq) (vh.comp (aY.idx (L:=cq) (m:=16) (k:=5) ((Int.toNat gG.1)) (dH Rv).2 rfl)) rfl rfl) ?_;refine W0 (zC (M:=cq) (aY.id (L:=cq)) (a0.aI (Int.toNat gG.1)) fI Rm rfl rfl rfl rfl) ?_;refine SL 4 rf ?_;have h:=sj h;subst h;exact RV rf (ra rf (lD _ _) (rt rf rn)) rf
theorem AF{n a0 a1 r K}[CG K]{v1}(f1:Fz K v1 (LI .u32) a1)(h:gI n a0 a1=some r):FnW Tryz.prog 235 [.agg (aF.enc a0).toArray,v1] K (.agg (aF.enc r).toArray):=by
 unfold gI at h;refine fo Tryz.func235 (by kernel_rfl) rfl Tryz.ntmps235 rfl λcx _ hro qT hpre=>?_;refine SC 2 rf ?_;refine W1 rf (qx aF a0 rfl rfl) λb2=>?_;refine W1 rf (zD (L:=aF) (z:=eI) ⟨by kernel_rfl⟩) λb4=>?_;refine SL 6 rf ?_;refine cO rfl (wG f1 rfl) ?_;refine SL 4 rf ?_;obtain⟨anY,alG,h⟩:=Rc h;refine LO (β:=Int×ay) [2,4,7,8] [0,1] (λ(m27,iH,fI)=>[(9, .int .i64 iH)]) (λ(m27,iH,fI)=>[.cells b4 53 (aF.enc eI), .cells b2 53 (aF.enc fI)]) (λ(m27,iH,fI)=>cJ anY m27 iH fI=some r) (n,0,a0) h rf rf rf ?_;rintro m27 ⟨iH,fI⟩ h;replace h:=NJ alG h;obtain⟨m27,rfl,h⟩:=h;refine SC 6 rf ?_;refine Qn h rf (λhc h=>?_) λhc h=>?_
 ·obtain⟨ah3,h⟩:=rH h;refine SC 6 rf ?_;refine cO rfl (AO (m:=(Int.toNat iH)) f1 rfl rfl rfl (dH ah3).1 (dH ah3).2) ?_;refine cO rfl (Dh f1 (aY.idx (L:=(LI .u32)) (m:=(a1.length)) (k:=1) ((Int.toNat iH)) (dH ah3).2 rfl) rfl) ?_;obtain⟨dL,aob,h⟩:=vG h;obtain⟨eE,TS,h⟩:=uS h;refine SL 5 rf ?_;refine cO rfl (nH (M:=bA) ig rfl rfl) ?_;refine cO rfl (dK rfl) ?_;refine CV (E4 aob) rf rf ?_;refine SL 4 rf ?_;refine W0 (zC (M:=bA) ig dL.1 eE TS rfl rfl rfl rfl) ?_;refine SL 7 rf ?_;exact LN [0,1] (wr .i64 (iH+1),eE) h rf rf rf
 ·refine SC 7 rf ?_;refine cO rfl (nH (M:=aF) (aY.id (L:=aF)) rfl rfl) ?_;refine W0 (zC (M:=aF) (aY.id (L:=aF)) fI fI rfl rfl rfl rfl rfl) ?_;refine SL 3 rf ?_;have h:=sj h;subst h;exact RV rf (ra rf (lD _ _) rn) rf
theorem yc{n a0 a1 r q1}(h:kE n a0 a1=some r):Bw.Fn (α:=Unit) Tryz.prog 234 [.agg (cq.enc a0).toArray,gk q1 0] (YA (cy [.cells q1 32 ((LI .u32).enc a1)]) (λ_ =>True)) [.cells q1 32 ((LI .u32).enc a1)] (λ_ =>True) (λ_ =>(.bool r)) (λ_ =>[.cells q1 32 ((LI .u32).enc a1)]):=by unfold kE at h;refine xI Tryz.func234 (by kernel_rfl) rfl Tryz.ntmps234 rfl (λcx qT hpre hro=>?_);refine SC 2 rf ?_;refine W1 rf (qx cq a0 rfl rfl) λb2=>?_;refine SL 6 rf ?_;refine cO rfl (Iz wj rfl) ?_;refine cO rfl (Iz (aY.id (L:=(LI .u32))) rfl) ?_;refine SL 5 rf ?_;have h:=sj h;subst h;exact CD () rfl (.tmp rfl .nil) trivial rfl (ks:=[1]) rfl (by decide)
theorem nL{n a0 mM r Ts}(h:cZ n a0 mM=some r):FnC Tryz.prog 128 [.agg (aF.enc a0).toArray, .func (.func 234) #[] #[gk Ts 0]] (λ_ =>True) [.cells Ts 32 ((LI .u32).enc mM)] (λJ v ho=>∃u0,v=(u0)/\ho=[.cells Ts 32 ((LI .u32).enc mM)]/\Fz J u0 (LI .u32) (r)):=by
 unfold cZ at h;refine xI Tryz.func128 (by kernel_rfl) rfl Tryz.ntmps128 rfl (λcx qT hpre hro=>?_);refine SC 2 rf ?_;refine W1 rf (qx aF a0 rfl rfl) λb2=>?_;obtain⟨aW,Lt,h⟩:=vG h;refine SL 12 rf ?_;refine cO rfl (nH (M:=bA) ig rfl rfl) ?_;refine zA rfl (Wy (uZ Lt) rfl (λ_ _ _ =>trivial)) (λv23 ahZ=>?_);dsimp only[List.cons_append,List.nil_append];refine cO rfl (wG (Fz.row (e:=32) (sz:=1) (L:=(LI .u32)) (xs:=aW) rfl ahZ) rfl) ?_;refine SL 4 rf ?_;refine GL 32 1 (LI .u32) ?_;obtain⟨ahD,aa8,h⟩:=Rc h;refine LO (β:=(List Int)×Int×Value) [1,2,12,13] [0,1,2,3] (λ(m36,eE,eD,SY)=>[(5,SY),(14, .int .i64 eD)]) (λ(m36,eE,eD,SY)=>[nF SY 32 1 (LI .u32) eE,nF v23 32 1 (LI .u32) aW, .cells b2 53 (aF.enc a0), .cells Ts 32 ((LI .u32).enc mM)]) (λ(m36,eE,eD,SY)=>wI SY eE.length/\cJ ahD m36 eE eD=some r) (n,[],0, .slice none 0 0) ⟨⟨_,_,rfl⟩,h⟩ rf rf rf ?_;rintro m36 ⟨eE,eD,SY⟩ ⟨alz,h⟩;replace h:=NJ aa8 h;obtain⟨m36,rfl,h⟩:=h;refine SC 6 rf ?_;refine Qn h rf (λhc h=>?_) λhc h=>?_
 ·
  obtain⟨T5,h⟩:=rH h;refine SC 6 rf ?_;refine cO rfl (AO (m:=(Int.toNat eD)) (Fz.row (e:=32) (sz:=1) (L:=(LI .u32)) (xs:=aW) rfl ahZ) rfl rfl rfl (dH T5).1 (dH T5).2) ?_;refine cO rfl (Dh (Fz.row (e:=32) (sz:=1) (L:=(LI .u32)) (xs:=aW) rfl ahZ) (aY.idx (L:=(LI .u32)) (m:=(aW.length)) (k:=1) ((Int.toNat eD)) (dH T5).2 rfl) rfl) ?_;obtain⟨qf,ahS,h⟩:=vG h;refine SL 5 rf ?_;refine cO rfl (nH (M:=aF) (aY.id (L:=aF)) rfl rfl) ?_;refine cO rfl (dK rfl) ?_;refine CV (E3 ahS) rf rf ?_;refine SL 3 rf ?_;refine W1 rf (zD (L:=cq) (z:=lK) ⟨by kernel_rfl⟩) λb8=>?_;refine W0 (zC (M:=cq) (aY.id (L:=cq)) qf.1 qf.1 rfl rfl rfl rfl rfl) ?_;obtain⟨l6,TR,h⟩:=vG h;refine SL 6 rf ?_;refine cO rfl (nH (M:=cq) (aY.id (L:=cq)) rfl rfl) ?_;refine zA rfl (CI (K:=(λ_ =>True)) (qd:=[.cells Ts 32 ((LI .u32).enc mM)]) (rest:=[.cells b8 50 (cq.enc qf.1),nF SY 32 1 (LI .u32) eE,nF v23 32 1 (LI .u32) aW, .cells b2 53 (aF.enc a0)]) (ks:=[4,0,1,2,3]) (yc TR) rfl rfl rfl rfl (by decide)) (λ_ _ =>?_);dsimp only[List.cons_append,List.nil_append];refine SL 2 rf ?_;refine Qn h rf (λhc h=>?_) λhc h=>?_
  ·obtain⟨XF,h⟩:=rH h;obtain⟨vK,alm,h⟩:=uS h;refine SC 3 rf ?_;refine zA rfl (IB (LI .u32) (aW.getD (Int.toNat eD) default) rfl rfl rfl rfl (by decide) (by decide)) (λb29 _ =>?_);refine zA rfl (GU (sz:=1) (L:=(LI .u32)) (xs:=eE) (y:=(aW.getD (Int.toNat eD) default)) (bytes:=4) rfl rfl rfl (ld XF).1 (ld XF).2) (λv43 aly=>?_);rw[← alm]at aly;rw[← alm];refine SL 8 rf ?_;exact LN [3,4,5,1] (vK,wr .i64 (eD+1),v43) ⟨aly,h⟩ rf rf rf
  ·refine SC 7 rf ?_;exact LN [2,3,4,0] (eE,wr .i64 (eD+1),SY) ⟨alz,h⟩ rf rf rf
 ·refine SC 12 rf ?_;have h:=sj h;subst h;refine Iu (R:=[nF SY 32 1 (LI .u32) eE]) (H':=[.cells Ts 32 ((LI .u32).enc mM)]) (ks:=[0,3]) rfl (by decide) ?_;have p45:Fz (Hs [.ext (cy [nF SY 32 1 (LI .u32) eE]) (Hs [nF SY 32 1 (LI .u32) eE])]) SY (LI .u32) eE:=(Fz.row (e:=32) (sz:=1) (L:=(LI .u32)) (xs:=eE) rfl alz).mono G9;exact CD (SY,[.cells Ts 32 ((LI .u32).enc mM)],cy [nF SY 32 1 (LI .u32) eE],Hs [nF SY 32 1 (LI .u32) eE]) rfl (.tmp rfl .nil) ⟨_,rfl,rfl,p45⟩ rfl (ks:=[0,1]) rfl (by decide)
theorem zy{n a0 a1 a2 r}{q1 m1:Nat}{q2:Nat}{q3:Nat}(h:ga n a0 a1 a2=some r):Bw.Fn (α:=Unit) Tryz.prog 233 [.int .u32 a0,gk q1 0,gk q2 0,gk q3 0] (YA (cy [.cells q1 336 [.map (some m1)],Mp m1 .u32 Value.bool a1, .cells q2 53 (aF.enc a2), .cells q3 292 [.func (.func 233) #[] #[gk q1 0,gk q2 0,gk q3 0]]]) (λ_ =>True)) [.cells q1 336 [.map (some m1)],Mp m1 .u32 Value.bool a1, .cells q2 53 (aF.enc a2), .cells q3 292 [.func (.func 233) #[] #[gk q1 0,gk q2 0,gk q3 0]]] (λ_ =>True) (λ_ =>(.tuple #[])) (λ_ =>[.cells q1 336 [.map (some m1)],Mp m1 .u32 Value.bool r, .cells q2 53 (aF.enc a2), .cells q3 292 [.func (.func 233) #[] #[gk q1 0,gk q2 0,gk q3 0]]]):=by
 induction n generalizing a0 a1 a2 r q1 m1 q2 q3 with
 |zero=>cases h
 |succ n ih=>
 rw[ga]at h;refine xI Tryz.func233 (by kernel_rfl) rfl Tryz.ntmps233 rfl (λcx qT hpre hro=>?_);refine SC 2 rf ?_;refine W1 rf (qx (LI .u32) a0 rfl rfl) λb4=>?_;obtain⟨aW,Lt,h⟩:=uS h;refine SL 4 rf ?_;refine cO rfl (lG rfl rfl) ?_;refine cO rfl (Iz (aY.id (L:=(LI .u32))) rfl) ?_;refine Jv (P8 true rfl rfl rfl rfl) (λ_ _ =>?_);rw[← Lt];obtain⟨bS,aaV,h⟩:=vG h;refine SL 4 rf ?_;refine cO rfl (nH (M:=aF) (aY.id (L:=aF)) rfl rfl) ?_;refine cO rfl (u9 rfl) ?_;refine zA rfl (CI (K:=(λ_ =>True)) (qd:=[.cells b4 32 ((LI .u32).enc a0)]) (rest:=[.cells q1 336 [.map (some m1)],Mp m1 .u32 Value.bool aW, .cells q2 53 (aF.enc a2), .cells q3 292 [.func (.func 233) #[] #[gk q1 0,gk q2 0,gk q3 0]]]) (ks:=[0,1,2,3,4]) (nL aaV) rfl rfl rfl rfl (by decide)) (λ⟨w23,apg,aiT,J25⟩ aok=>?_);obtain⟨Qe,rfl,rfl,f27⟩:=aok;replace f27:Fz (Hs [.ext aiT J25]) w23 (LI .u32) bS:=f27;dsimp only[List.cons_append,List.nil_append];refine cO rfl (wG f27 rfl) ?_;refine SL 4 rf ?_;obtain⟨ahD,aa8,h⟩:=Rc h;refine LO (β:=Int×(List (Int×Bool))) [3,11,12] [0,1,2,3,4,5] (λ(m36,q9,eD)=>[(13, .int .i64 q9)]) (λ(m36,q9,eD)=>[.ext aiT J25, .cells b4 32 ((LI .u32).enc a0), .cells q1 336 [.map (some m1)],Mp m1 .u32 Value.bool eD, .cells q2 53 (aF.enc a2), .cells q3 292 [.func (.func 233) #[] #[gk q1 0,gk q2 0,gk q3 0]]]) (λ(m36,q9,eD)=>cJ ahD m36 q9 eD=some r) (n,0,aW) h rf rf rf ?_;rintro m36 ⟨q9,eD⟩ h;replace h:=NJ aa8 h;obtain⟨m36,rfl,h⟩:=h;refine SC 6 rf ?_;refine Qn h rf (λhc h=>?_) λhc h=>?_
 ·obtain⟨T5,h⟩:=rH h;refine SC 6 rf ?_;refine cO rfl (AO (m:=(Int.toNat q9)) f27 rfl rfl rfl (dH T5).1 (dH T5).2) ?_;refine cO rfl (Dh f27 (aY.idx (L:=(LI .u32)) (m:=(bS.length)) (k:=1) ((Int.toNat q9)) (dH T5).2 rfl) rfl) ?_;obtain⟨qf,ahS,h⟩:=vG h;refine SL 4 rf ?_;refine cO rfl (lG rfl rfl) ?_;refine cO rfl (dK rfl) ?_;refine zA rfl (CI (K:=(λ_ =>True)) (qd:=[.cells q1 336 [.map (some m1)],Mp m1 .u32 Value.bool eD, .cells q2 53 (aF.enc a2), .cells q3 292 [.func (.func 233) #[] #[gk q1 0,gk q2 0,gk q3 0]]]) (rest:=[.ext aiT J25, .cells b4 32 ((LI .u32).enc a0)]) (ks:=[2,3,4,5,0,1]) (ih ahS) rfl rfl rfl rfl (by decide)) (λ_ _ =>?_);dsimp only[List.cons_append,List.nil_append];refine SL 7 rf ?_;exact LN [4,5,0,1,2,3] (wr .i64 (q9+1),qf) h rf rf rf
 ·refine SC 4 rf ?_;have h:=sj h;subst h;exact ack () rfl .nil trivial rfl (ks:=[2,3,4,5]) rfl (by decide)
theorem Bm{n a0 a1 r}(h:eZ n a0 a1=some r):FnB Tryz.prog 200 [.agg (aF.enc a0).toArray, .int .u32 a1] (λ_ =>True) (λJ v=>∃u1,v=(.tuple #[.agg (aF.enc r.1).toArray,u1, .int .i64 r.2.2])/\Fz J u1 (LI .u32) (r.2.1)):=by
 unfold eZ at h;refine xI Tryz.func200 (by kernel_rfl) rfl Tryz.ntmps200 rfl (λcx qT hpre hro=>?_);refine SC 2 rf ?_;refine W1 rf (qx aF a0 rfl rfl) λb2=>?_;refine W1 rf (zD (L:=aF) (z:=eI) ⟨by kernel_rfl⟩) λb4=>?_;obtain⟨aW,Lt,h⟩:=vG h;refine SL 8 rf ?_;refine cO rfl (nH (M:=bA) ig rfl rfl) ?_;refine cO rfl (dK rfl) ?_;refine CV (rI Lt) rf rf ?_;refine SL 3 rf ?_;refine Qn h rf (λhc h=>?_) λhc h=>?_
 ·refine SC 2 rf ?_;refine cO rfl (nH (M:=aF) (aY.id (L:=aF)) rfl rfl) ?_;refine W0 (zC (M:=aF) (aY.id (L:=aF)) a0 a0 rfl rfl rfl rfl rfl) ?_;refine SL 6 rf ?_;have h:=sj h;subst h;refine Iu (R:=[]) (H':=[.cells b4 53 (aF.enc a0)]) (ks:=[0]) rfl (by decide) ?_;have p22:Fz (Hs [.ext (cy []) (Hs [])]) (.slice none 0 0) (LI .u32) ([]:List Int):=(Fz.nil (A:=Hs []) (L:=(LI .u32))).mono G9;exact CD (.tuple #[.agg (aF.enc a0).toArray, .slice none 0 0, .int .i64 4],cy [],Hs []) rfl (.agg rfl inferInstance inferInstance (lD _ _) (.tmp rfl (.tmp rfl .nil))) ⟨_,rfl,p22⟩ rfl (ks:=[0]) rfl (by decide)
 ·
  refine SC 4 rf ?_;refine zA rfl (Me .u32 Value.bool) (λb18 _ =>?_);refine W1 rf (ta (hz:=(⟨by kernel_rfl⟩:kz Tryz.prog 336 [.map none]))) λb7=>?_;refine W0 (vg (n:=1) (cs':=[.map (some b18)]) rfl rfl rfl rfl (by decide) (AT rfl) rfl) ?_;refine SL 4 rf ?_;refine W1 rf (ta (hz:=(⟨by kernel_rfl⟩:kz Tryz.prog 292 [.nilFunc]))) λb8=>?_;refine SL 5 rf ?_;refine W0 (vg (n:=1) (cs':=[.func (.func 233) #[] #[gk b7 0,gk b2 0,gk b8 0]]) rfl rfl rfl rfl (by decide) (AT rfl) rfl) ?_;obtain⟨gG,TU,h⟩:=vG h;refine SL 4 rf ?_;refine cO rfl (lG rfl rfl) ?_;refine cO rfl (dK rfl) ?_;refine zA rfl (CI (K:=(λ_ =>True)) (qd:=[.cells b7 336 [.map (some b18)],Mp b18 .u32 Value.bool ([]:List (Int×Bool)), .cells b2 53 (aF.enc a0), .cells b8 292 [.func (.func 233) #[] #[gk b7 0,gk b2 0,gk b8 0]]]) (rest:=[.cells b4 53 (aF.enc eI)]) (ks:=[1,2,4,0,3]) (zy TU) rfl rfl rfl rfl (by decide)) (λ_ _ =>?_);dsimp only[List.cons_append,List.nil_append];obtain⟨iH,XA,h⟩:=vG h;refine SL 11 rf ?_;refine cO rfl (nH (M:=bA) ig rfl rfl) ?_;refine zA rfl (Wy (uZ XA) rfl (λ_ _ _ =>trivial)) (λyL tn=>?_);dsimp only[List.cons_append,List.nil_append];refine cO rfl (wG (Fz.row (e:=32) (sz:=1) (L:=(LI .u32)) (xs:=iH) rfl tn) rfl) ?_;refine SL 4 rf ?_;refine GL 32 1 (LI .u32) ?_;obtain⟨anX,alF,h⟩:=Rc h;refine LO (β:=(List Int)×Int×Value) [2,4,7,25,26] [0,1,2,3,4,5,6] (λ(m39,eD,iU,SW)=>[(9,SW),(27, .int .i64 iU)]) (λ(m39,eD,iU,SW)=>[nF SW 32 1 (LI .u32) eD,nF yL 32 1 (LI .u32) iH, .cells b7 336 [.map (some b18)],Mp b18 .u32 Value.bool gG, .cells b2 53 (aF.enc a0), .cells b8 292 [.func (.func 233) #[] #[gk b7 0,gk b2 0,gk b8 0]], .cells b4 53 (aF.enc eI)]) (λ(m39,eD,iU,SW)=>wI SW eD.length/\cJ anX m39 eD iU=some r) (n,[],0, .slice none 0 0) ⟨⟨_,_,rfl⟩,h⟩ rf rf rf ?_;rintro m39 ⟨eD,iU,SW⟩ ⟨ahY,h⟩;replace h:=NJ alF h;obtain⟨m39,rfl,h⟩:=h;refine SC 6 rf ?_;refine Qn h rf (λhc h=>?_) λhc h=>?_
  ·
   obtain⟨XF,h⟩:=rH h;refine SC 6 rf ?_;refine cO rfl (AO (m:=(Int.toNat iU)) (Fz.row (e:=32) (sz:=1) (L:=(LI .u32)) (xs:=iH) rfl tn) rfl rfl rfl (dH XF).1 (dH XF).2) ?_;refine cO rfl (Dh (Fz.row (e:=32) (sz:=1) (L:=(LI .u32)) (xs:=iH) rfl tn) (aY.idx (L:=(LI .u32)) (m:=(iH.length)) (k:=1) ((Int.toNat iU)) (dH XF).2 rfl) rfl) ?_;refine SL 5 rf ?_;refine cO rfl (lG rfl rfl) ?_;refine cO rfl (dK rfl) ?_;refine cO rfl (X6 false rfl rfl) ?_;refine SL 2 rf ?_;refine Qn h rf (λhc h=>?_) λhc h=>?_
   ·obtain⟨alL,h⟩:=rH h;obtain⟨o9,ahR,h⟩:=uS h;refine SC 3 rf ?_;refine zA rfl (IB (LI .u32) (iH.getD (Int.toNat iU) default) rfl rfl rfl rfl (by decide) (by decide)) (λb36 _ =>?_);refine zA rfl (GU (sz:=1) (L:=(LI .u32)) (xs:=eD) (y:=(iH.getD (Int.toNat iU) default)) (bytes:=4) rfl rfl rfl (ld alL).1 (ld alL).2) (λv44 alx=>?_);rw[← ahR]at alx;rw[← ahR];refine SL 8 rf ?_;exact LN [1,2,3,4,5,6,7] (o9,wr .i64 (iU+1),v44) ⟨alx,h⟩ rf rf rf
   ·refine SC 7 rf ?_;exact LN [0,1,2,3,4,5,6] (eD,wr .i64 (iU+1),SW) ⟨ahY,h⟩ rf rf rf
  ·obtain⟨vJ,an8,h⟩:=vG h;refine SC 7 rf ?_;refine cO rfl (nH (M:=aF) (aY.id (L:=aF)) rfl rfl) ?_;refine cO rfl (dK rfl) ?_;refine CV (AF (K:=(Hs [nF SW 32 1 (LI .u32) eD])) ((Fz.row (e:=32) (sz:=1) (L:=(LI .u32)) (xs:=eD) rfl ahY).mono G9) an8) rf rf ?_;refine cO rfl (dK rfl) ?_;refine W0 (zC (M:=aF) (aY.id (L:=aF)) vJ vJ rfl rfl rfl rfl rfl) ?_;refine SL 5 rf ?_;have h:=sj h;subst h;refine Iu (R:=[nF SW 32 1 (LI .u32) eD]) (H':=[.cells b4 53 (aF.enc vJ)]) (ks:=[0,6]) rfl (by decide) ?_;have p47:Fz (Hs [.ext (cy [nF SW 32 1 (LI .u32) eD]) (Hs [nF SW 32 1 (LI .u32) eD])]) SW (LI .u32) eD:=(Fz.row (e:=32) (sz:=1) (L:=(LI .u32)) (xs:=eD) rfl ahY).mono G9;exact CD (.tuple #[.agg (aF.enc vJ).toArray,SW, .int .i64 0],cy [nF SW 32 1 (LI .u32) eD],Hs [nF SW 32 1 (LI .u32) eD]) rfl (.agg rfl inferInstance inferInstance (lD _ _) (.tmp rfl (.tmp rfl .nil))) ⟨_,rfl,p47⟩ rfl (ks:=[0]) rfl (by decide)
end H
def tA(n:Nat):Ct Tryz.prog sg:=XV (G:=sg) ⟨200,[], .cons (.v (.st 13)) (.cons (.v (.int .u32)) .nil), .cons (.sE (.cons (.v (.st 13)) (.cons (.v (.sl (.int .u32))) (.cons (.v (.int .i64)) .nil)))) .nil,[], .nil,[],[]⟩ (λx=>eZ n x.1 x.2.1) (λz=>(z.1,(z.2.1,(z.2.2,())))) (eI,[],0) (by kernel_rfl) (VX (λ_ =>rfl) (λ_ =>rfl) rfl λρ R x z vs hg hz hv=>by
 letI:bW ((Ty.int .u32).L sg):=inferInstanceAs (bW (LI .u32));obtain⟨cs,r1,e_1,h0,v1⟩:=HJ hv rfl;obtain⟨r2,e_2,v2⟩:=OP v1;have e_0:r2=[]:=v2;subst e_0 e_2 e_1;have h5:aF.fz (Hs R) cs x.1:=h0;exact⟨_,aeL (H.Bm hz) (λ_ _ =>trivial) (by rw[show aF.enc x.1=cs from(bW.iff.1 h5).symm];rfl),λJ v ⟨u,e,h⟩=>by
  subst e;exact⟨_,_,rfl,⟨_,rfl,_,_,rfl,Il (t:= .st 13) ((bW.iff (L:=aF)).2 rfl) rfl,_,_,rfl,afG (e:= .int .u32) (h.mono λ_ q=>q.2),_,_,rfl,rfl,rfl⟩,rfl⟩⟩)
def sG(n:Nat)(a0:bE)(a1:Int):Option Bool:=some (a0.Region==a1)
def Dm(n:Nat):CT:=cV (tW n [] []) ⟨258,[(32, .v (.int .u32))], .cons (.v (.st 12)) (.cons (.cW 0) .nil), .cons (.v .bool) .nil,[], .nil,[],[]⟩ (λx=>sG n x.2.1 x.1) u1 m1
def gS(n:Nat)(a0:ay)(mM:Int):Option (List Int):=bd (ew n a0.bj) λaW=>cJ (λGi (eE:(List Int)) (eD:Int)=>cn (decide (eD<(aW.length:Int))) (gu (bM eD aW.length)<|bd (dw n a0 (aW.getD (Int.toNat eD) default)) λqf=>bd (sG n qf.1 mM) λl6=>cn (l6) (gu (gO eE.length 1 4)<|lt (eE++([(aW.getD (Int.toNat eD) default)]):List Int) λvK=>Gi vK (wr .i64 (eD+1))) (Gi eE (wr .i64 (eD+1)))) (some eE)) n ([]) 0
def pq(n:Nat):CT:=cV (tW n [(7, .loop [(.slot 5,(.row 32 1 (.int .u32))),(.slot 14,(.v (.int .i64)))])] [mW n,gH n,Dm n]) ⟨128,[(32, .v (.int .u32))], .cons (.v (.st 13)) (.cons (.fn (.func 258) .nil (.cons (.cW 0) .nil)) .nil), .cons (.v (.sl (.int .u32))) .nil,[], .nil,[],[]⟩ (λx=>gS n x.2.1 x.1) u1 m1
def kU(n:Nat)(a0:ay)(a1:Int):Option (List Int):=bd (gS n a0 a1) λaW=>some aW
def su(n:Nat):CT:=cV (tW n [] [pq n]) (gy 247 [.s 13, .w] [.v (.sl (.int .u32))]) (a2 (kU n)) u1 m1
def l8(n:Nat)(a0:ay)(a1:Int):Option ay:=bd (kU n a0 a1) λaW=>bd (gI n a0 aW) λfL=>some fL
def BQ(n:Nat):CT:=cV (tW n [] [su n,zM n]) (gy 222 [.s 13, .w] [.s 13]) (a2 (l8 n)) u1 m1
def kY(n:Nat)(a0:ai):Option (List Int):=cJ (λMB (eC:(List Int)) (dL:Int)=>cn (decide (dL<32)) (gu (bM dL 32)<|cn (((a0.B.Is (Int.toNat dL))==1)) (bd (eM n a0.B dL) λg8=>gu (gO eC.length 1 8)<|lt (eC++([g8]):List Int) λiU=>MB iU (wr .i64 (dL+1))) (MB eC (wr .i64 (dL+1)))) (some eC)) n ([]) 0
def pb(n:Nat):CT:=cV (tW n [(7, .loop [(.slot 3,(.row 3 1 (.int .i64))),(.slot 4,(.v (.int .i64)))])] [kT n]) ⟨79,[], .cons (.v (.st 21)) .nil, .cons (.row 3 1 (.int .i64)) .nil,[none], .nil,[],[]⟩ (a1 (kY n)) u1 m1
def oN(n:Nat)(a0:ai)(a1:Int):Option (bL×Int):=bd (br n a0.B a1) λaW=>cn (decide (aW<0)) (lt ({Up:=0,cu:=0,E:=bD,bC:=(λ_ =>0)}:bL) λbS=>some (bS,4)) (gu (bM aW 32)<|lt ((a0.R (Int.toNat aW)):bL) λeE=>some (eE,0))
def ye(n:Nat):CT:=cV (tW n [] [cC n]) (gy 80 [.s 21, .i] [.t [.s 20, .i]]) (a2 (oN n)) u2 m2
def mg(n:Nat)(a0:av)(a1:Int):Option Int:=bd (bY n a1) λaW=>gu (bM aW.1 32)<|bd (aU n a0.bj.og ((a0.cP (Int.toNat aW.1)).Up)) λgG=>cn (gG) (some ((a0.cP (Int.toNat aW.1)).Up)) (some 0)
def y5(n:Nat):CT:=cV (tW n [] [dA n,bH n]) (gy 92 [.s 8, .w] [.w]) (a2 (mg n)) u1 m1
def eF(n:Nat)(a0:av)(a1:Int):Option (aS×Int):=bd (aU n a0.bj.og a1) λaW=>cn ((!aW)) (lt ({Up:=0,cu:=0,E:=dJ,bC:=(λ_ =>0)}:aS) λbS=>some (bS,4)) (bd (bY n a1) λfL=>gu (bM fL.1 32)<|lt ((a0.cP (Int.toNat fL.1)):aS) λgF=>bd (mg n a0 a1) λg8=>lt ({gF with Up:=g8}:aS) λl7=>some (l7,0))
def ij(n:Nat):CT:=cV (tW n [] [bH n,dA n,y5 n]) (gy 39 [.s 8, .w] [.t [.s 7, .i]]) (a2 (eF n)) u2 m2
def l9(n:Nat)(a0:pK):Option (List Int):=bd (ew n a0.og) λaW=>some aW
def qh(n:Nat):CT:=cV (tW n [] [mW n]) ⟨78,[], .cons (.v (.st 4)) .nil, .cons (.row 32 1 (.int .u32)) .nil,[none], .nil,[],[]⟩ (a1 (l9 n)) u1 m1
def Al(n:Nat)(a0:av)(a1:ai):Option Bool:=bd (l9 n a0.bj) λaW=>bd (kY n a1) λfI=>cn (((aW.length:Int)!=(fI.length:Int))) (some false) (eU (λMB (dL:Int)=>cn (decide (dL<(aW.length:Int))) (gu (bM dL aW.length)<|gu (bM dL fI.length)<|gu (!(((wr .i64 (aW.getD (Int.toNat dL) default))!=(fI.getD (Int.toNat dL) default))==false)||bM dL aW.length)<|cl (((wr .i64 (aW.getD (Int.toNat dL) default))!=(fI.getD (Int.toNat dL) default))==false) (aU n a0.bj.og (aW.getD (Int.toNat dL) default)) default λiU=>cn ((((wr .i64 (aW.getD (Int.toNat dL) default))!=(fI.getD (Int.toNat dL) default))||(!iU))) (some false) (gu (bM dL aW.length)<|bd (eF n a0 (aW.getD (Int.toNat dL) default)) λqf=>gu (bM dL fI.length)<|bd (oN n a1 (fI.getD (Int.toNat dL) default)) λyH=>cl ((((qf.2!=0)||((wr .i64 qf.1.Up)!=yH.1.Up))||(qf.1.cu !=yH.1.cu))==false) (Am n qf.1.E yH.1.E) default λQq=>cn (((((qf.2!=0)||((wr .i64 qf.1.Up)!=yH.1.Up))||(qf.1.cu !=yH.1.cu))||(!Qq))) (some false) (eU (λk67 (UQ:Int)=>cn (decide (UQ<8)) (gu (bM UQ 8)<|gu (bM UQ 8)<|cn (((wr .i64 (qf.1.bC (Int.toNat UQ)))!=(yH.1.bC (Int.toNat UQ)))) (some false) (k67 (wr .i64 (UQ+1)))) (MB (wr .i64 (dL+1)))) n 0))) (some true)) n 0)
def Ou(n:Nat):CT:=cV (tW n [(11, .loop [(.slot 7,(.v (.int .i64)))]),(29, .loop [(.slot 12,(.v (.int .i64)))])] [qh n,pb n,bH n,ij n,ye n,Ov n]) (gy 35 [.s 8, .s 21] [.b]) (a2 (Al n)) u1 m1
def jr(n:Nat)(a0:ai)(a1:Int)(a2:bL):Option (ai×Int):=bd (br n a0.B a1) λaW=>cn (decide (aW<0)) (some (a0,4)) (cl ((decide (a2.cu<0)||decide (64<a2.cu))==false) (dS n a2.E) default λeC=>cn (((decide (a2.cu<0)||decide (64<a2.cu))||(!eC))) (some (a0,2)) (gu (bM aW 32)<|lt ({a2 with Up:=(a0.R (Int.toNat aW)).Up}:bL) λgF=>gu (bM aW 32)<|lt ({a0 with R:=(dy a0.R (Int.toNat aW) gF)}:ai) λl7=>some (l7,0)))
def FH(n:Nat):CT:=cV (tW n [] [cC n,wW n]) (gy 61 [.s 21, .i, .s 20] [.t [.s 21, .i]]) (a3 (jr n)) u2 m2
def bJ(n:Nat)(a0:ai)(a1:Int):Option Bool:=bd (br n a0.B a1) λaW=>some (decide (0<=aW))
def cz(n:Nat):CT:=cV (tW n [] [cC n]) (gy 70 [.s 21, .i] [.b]) (a2 (bJ n)) u1 m1
def fS(n:Nat)(a0:ai)(a1:Int)(a2:Int):Option (ai×Int×Int):=cl ((a1 !=0)==true) (bJ n a0 a1) default λaW=>cn (((a1 !=0)&&(!aW))) (some (a0,0,4)) (cn ((decide (a2<0)||decide (64<a2))) (some (a0,0,2)) (bd (iO n a0.B) λfL=>cn ((fL.2==0)) (some (a0,0,7)) (lt ({a0 with B:=fL.1}:ai) λgF=>bd (br n fL.1 fL.2) λg8=>lt ({Up:=a1,cu:=a2,E:=bD,bC:=(λ_ =>0)}:bL) λl7=>gu (bM g8 32)<|lt ({gF with R:=(dy gF.R (Int.toNat g8) l7)}:ai) λl6=>some (l6,fL.2,0))))
def FJ(n:Nat):CT:=cV (tW n [] [cz n,wX n,cC n]) (gy 102 [.s 21, .i, .i] [.t [.s 21, .i, .i]]) (a3 (fS n)) u3 m3
def dR(n:Nat)(a0:ai)(a1:Int)(a2:Int):Option Bool:=eU (λzu (bS:Int)=>cn ((bS !=0)) (bd (br n a0.B bS) λfR=>gu (bM fR 32)<|cn ((((a0.R (Int.toNat fR)).Up)==a1)) (some (a1 !=0)) (zu ((a0.R (Int.toNat fR)).Up))) (some false)) n a2
def qB(n:Nat):CT:=cV (tW n [(3, .loop [(.slot 2,(.v (.int .i64)))])] [cC n]) (gy 110 [.s 21, .i, .i] [.b]) (a3 (dR n)) u1 m1
def kJ(n:Nat)(a0:ai)(a1:Int)(a2:Int):Option (ai×Int):=bd (bJ n a0 a1) λaW=>cl (((!aW)==false)&&((a2 !=0)==true)) (bJ n a0 a2) default λbS=>cn (((!aW)||((a2 !=0)&&(!bS)))) (some (a0,4)) (cl (((a2 !=0)==true)&&((a2==a1)==false)) (dR n a0 a1 a2) default λfR=>cn (((a2 !=0)&&((a2==a1)||fR))) (some (a0,12)) (bd (br n a0.B a1) λdL=>gu (bM dL 32)<|lt ({a0 with R:=(dy a0.R (Int.toNat dL) ({(a0.R (Int.toNat dL))with Up:=a2}))}:ai) λgF=>some (gF,0)))
def Dy(n:Nat):CT:=cV (tW n [] [cz n,qB n,cC n]) (gy 109 [.s 21, .i, .i] [.t [.s 21, .i]]) (a3 (kJ n)) u2 m2
def iN(n:Nat)(a0:ai)(a1:Int):Option (ai×Int):=bd (br n a0.B a1) λaW=>cn (decide (aW<0)) (some (a0,4)) (bd (kZ n a0.B a1) λfI=>lt ({a0 with B:=fI.1}:ai) λfR=>lt ({Up:=0,cu:=0,E:=bD,bC:=(λ_ =>0)}:bL) λiM=>gu (bM aW 32)<|lt ({fR with R:=(dy fR.R (Int.toNat aW) iM)}:ai) λq9=>cJ (λk51 (mG:Int) (vJ:ai)=>cn (decide (mG<32)) (gu (bM mG 32)<|cn ((((vJ.R (Int.toNat mG)).Up)==a1)) (gu (bM mG 32)<|lt ({vJ with R:=(dy vJ.R (Int.toNat mG) ({(vJ.R (Int.toNat mG))with Up:=0}))}:ai) λD5=>k51 (wr .i64 (mG+1)) D5) (k51 (wr .i64 (mG+1)) vJ)) (some (vJ,0))) n 0 q9)
def Ez(n:Nat):CT:=cV (tW n [(15, .loop [(.slot 7,(.v (.int .i64))),(.via 2, .box 78 (.v (.st 21)))])] [cC n,sA n]) (gy 125 [.s 21, .i] [.t [.s 21, .i]]) (a2 (iN n)) u2 m2
def rM(n:Nat)(a0:Int):Option Bool:=some (decide (0<=a0)&&decide (a0<=64))
def D6(n:Nat):CT:=cV (tW n [] []) (gy 248 [.i] [.b]) (a1 (rM n)) u1 m1
def kV(n:Nat)(a0:av)(a1:Int)(a2:Int):Option (av×Int×Int):=cl ((a1 !=0)==true) (aU n a0.bj.og a1) default λaW=>cn (((a1 !=0)&&(!aW))) (some (a0,0,4)) (bd (rM n a2) λfI=>cn ((!fI)) (some (a0,0,2)) (bd (jb n a0.bj.og) λiM=>cn ((!iM.2.2)) (some (a0,0,7)) (lt ({a0 with bj:={a0.bj with og:=iM.1}}:av) λq9=>bd (bY n iM.2.1) λl7=>lt ({Up:=a1,cu:=a2,E:=dJ,bC:=(λ_ =>0)}:aS) λiU=>gu (bM l7.1 32)<|lt ({q9 with cP:=(dy q9.cP (Int.toNat l7.1) iU)}:av) λgR=>some (gR,iM.2.1,0))))
def FD(n:Nat):CT:=cV (tW n [] [bH n,D6 n,vY n,dA n]) (gy 214 [.s 8, .w, .i] [.t [.s 8, .w, .i]]) (a3 (kV n)) u3 m3
def gP(n:Nat)(a0:av)(a1:Int)(a2:aS):Option (av×Int):=bd (aU n a0.bj.og a1) λaW=>cn ((!aW)) (some (a0,4)) (bd (rM n a2.cu) λfI=>cl ((!fI)==false) (kP n a2.E) default λfL=>cn (((!fI)||(!fL))) (some (a0,2)) (bd (bY n a1) λgF=>gu (bM gF.1 32)<|lt ({a2 with Up:=(a0.cP (Int.toNat gF.1)).Up}:aS) λeD=>gu (bM gF.1 32)<|lt ({a0 with cP:=(dy a0.cP (Int.toNat gF.1) eD)}:av) λqz=>some (qz,0)))
def sw(n:Nat):CT:=cV (tW n [] [bH n,D6 n,vZ n,dA n]) (gy 220 [.s 8, .w, .s 7] [.t [.s 8, .i]]) (a3 (gP n)) u2 m2
def iV(n:Nat)(a0:av)(a1:Int)(a2:Int):Option (av×Int):=bd (aU n a0.bj.og a1) λaW=>cl (((!aW)==false)&&((a2 !=0)==true)) (aU n a0.bj.og a2) default λbS=>cn (((!aW)||((a2 !=0)&&(!bS)))) (some (a0,4)) (eU (λk30 (eC:Int)=>cn ((eC !=0)) (cn ((eC==a1)) (some (a0,12)) (bd (mg n a0 eC) λeD=>k30 eD)) (bd (bY n a1) λg8=>gu (bM g8.1 32)<|lt ({a0 with cP:=(dy a0.cP (Int.toNat g8.1) ({(a0.cP (Int.toNat g8.1))with Up:=a2}))}:av) λiU=>some (iU,0))) n a2)
def vL(n:Nat):CT:=cV (tW n [(9, .loop [(.slot 8,(.v (.int .u32))),(.via 6, .box 41 (.unk 480))])] [bH n,y5 n,dA n]) (gy 227 [.s 8, .w, .w] [.t [.s 8, .i]]) (a3 (iV n)) u2 m2
def jF(n:Nat)(a0:av)(a1:Int):Option (av×Int):=bd (iQ n a0.bj.og a1) λaW=>cn ((!aW.2)) (some (a0,4)) (lt ({a0 with bj:={a0.bj with og:=aW.1}}:av) λfI=>bd (bY n a1) λfL=>lt ({Up:=0,cu:=0,E:=dJ,bC:=(λ_ =>0)}:aS) λiM=>gu (bM fL.1 32)<|lt ({fI with cP:=(dy fI.cP (Int.toNat fL.1) iM)}:av) λq9=>some (q9,0))
def Es(n:Nat):CT:=cV (tW n [] [w7 n,dA n]) (gy 252 [.s 8, .w] [.t [.s 8, .i]]) (a2 (jF n)) u2 m2
def uQ(n:Nat)(a0:ai)(a1:Int):Option Int:=bd (oN n a0 a1) λaW=>some aW.1.Up
def zQ(n:Nat):CT:=cV (tW n [] [ye n]) (gy 100 [.s 21, .i] [.i]) (a2 (uQ n)) u1 m1
def zZ(n:Nat)(a0:ai)(a1:Int):Option (List Int):=bd (kY n a0) λaW=>cJ (λGi (eE:(List Int)) (eD:Int)=>cn (decide (eD<(aW.length:Int))) (bd (bJ n a0 a1) λqz=>gu (!(qz==true)||bM eD aW.length)<|cl (qz==true) (uQ n a0 (aW.getD (Int.toNat eD) default)) default λl6=>cn ((qz&&(l6==a1))) (gu (bM eD aW.length)<|gu (gO eE.length 1 8)<|lt (eE++([(aW.getD (Int.toNat eD) default)]):List Int) λo9=>Gi o9 (wr .i64 (eD+1))) (Gi eE (wr .i64 (eD+1)))) (some eE)) n ([]) 0
def Ol(n:Nat):CT:=cV (tW n [(9, .loop [(.slot 5,(.row 3 1 (.int .i64))),(.slot 7,(.v (.int .i64)))])] [pb n,cz n,zQ n]) ⟨124,[], .cons (.v (.st 21)) (.cons (.v (.int .i64)) .nil), .cons (.row 3 1 (.int .i64)) .nil,[none], .nil,[],[]⟩ (a2 (zZ n)) u1 m1
def iv:Nat->ai->Int->Option (List Int)
 |0,_,_ =>none
 |n+1,a0,a1=>
 bd (bJ n a0 a1) λaW=>
 cn ((!aW)) (
 some ([]:List Int)) (
 bd (zZ n a0 a1) λiH=>
 cJ (λk38 (gF:(List Int)) (g8:Int)=>
 cn (decide (g8<(iH.length:Int))) (
 gu (bM g8 iH.length)<|
 bd (iv n a0 (iH.getD (Int.toNat g8) default)) λl6=>
 gu (gO gF.length l6.length 8)<|
 lt (gF++l6:List Int) λmG=>
 k38 mG (wr .i64 (g8+1))) (
 some gF)) n ([a1]:List Int) 0)
def jU:Fs:=⟨105,[], .cons (.v (.st 21)) (.cons (.v (.int .i64)) .nil), .cons (.row 3 1 (.int .i64)) .nil,[none], .nil,[],[]⟩
def yS(z:(List Int)):HL sg (bz jU.dZ):=(λz=>(z,())) z
theorem Eg:∀n,UO Tryz.prog jU (RV (G:=sg) jU (λ(x:HI sg jU)=>iv n x.1 x.2.1) yS) (λ_ _ =>False)
 |0=>abu (λ_ =>rfl)
 |n+1=>RC (tb:=(tW n [(13, .loop [(.slot 5,(.row 3 1 (.int .i64))),(.slot 7,(.v (.int .i64)))])] [cz n,Ol n,XV (G:=sg) jU (λ(x:HI sg jU)=>iv n x.1 x.2.1) yS ([]) (by kernel_rfl) (Eg n)])) (n:=3000) (s:=jU) (um:=λy=>y.1) (λ_ =>rfl) (λx=>by refine Eq.trans ?_ (iv.eq_2 ..).symm;kernel_rfl)
def qJ(n:Nat):Ct Tryz.prog sg:=XV (G:=sg) jU (λ(x:HI sg jU)=>iv n x.1 x.2.1) yS ([]) (by kernel_rfl) (Eg n)
def z6(n:Nat)(a0:ai)(a1:Int):Option (ai×(List Int)×Int):=bd (iv n a0 a1) λaW=>cJ (λRh (eD:Int) (g8:ai)=>cn (decide (eD<(aW.length:Int))) (gu (bM eD aW.length)<|bd (iN n g8 (aW.getD (Int.toNat eD) default)) λvK=>Rh (wr .i64 (eD+1)) vK.1) (cn (((aW.length:Int)==0)) (some (g8,([]:List Int),4)) (some (g8,aW,0)))) n 0 a0
def Om(n:Nat):CT:=cV (tW n [(7, .loop [(.slot 8,(.v (.int .i64))),(.via 2, .box 78 (.v (.st 21)))])] [qJ n,Ez n]) (gy 107 [.s 21, .i] [.t [.s 21, .v (.sl (.int .i64)), .i]]) (a2 (z6 n)) u3 m3
def pN(n:Nat)(a0:ai)(a1:Int)(a2:Int):Option Bool:=bd (bJ n a0 a1) λaW=>cl (aW==true) (bJ n a0 a2) default λbS=>cl (((aW&&bS)==true)&&((a1==a2)==false)) (dR n a0 a1 a2) default λgG=>some ((aW&&bS)&&((a1==a2)||gG))
def y8(n:Nat):CT:=cV (tW n [] [cz n,qB n]) (gy 108 [.s 21, .i, .i] [.b]) (a3 (pN n)) u1 m1
def iw:Nat->ai->Int->Option Int
 |0,_,_ =>none
 |n+1,a0,a1=>
 bd (bJ n a0 a1) λaW=>
 cn ((!aW)) (
 some 0) (
 bd (uQ n a0 a1) λbS=>
 bd (iw n a0 bS) λgG=>
 some (wr .i64 (1+gG)))
def jV:Fs:=⟨101,[], .cons (.v (.st 21)) (.cons (.v (.int .i64)) .nil), .cons (.v (.int .i64)) .nil,[], .nil,[],[]⟩
def yT(z:Int):HL sg (bz jV.dZ):=(λz=>(z,())) z
theorem Eh:∀n,UO Tryz.prog jV (RV (G:=sg) jV (λ(x:HI sg jV)=>iw n x.1 x.2.1) yT) (λ_ _ =>False)
 |0=>abu (λ_ =>rfl)
 |n+1=>RC (tb:=(tW n [] [cz n,zQ n,XV (G:=sg) jV (λ(x:HI sg jV)=>iw n x.1 x.2.1) yT (0) (by kernel_rfl) (Eh n)])) (n:=3000) (s:=jV) (um:=λy=>y.1) (λ_ =>rfl) (λx=>by refine Eq.trans ?_ (iw.eq_2 ..).symm;kernel_rfl)
def D8(n:Nat):Ct Tryz.prog sg:=XV (G:=sg) jV (λ(x:HI sg jV)=>iw n x.1 x.2.1) yT (0) (by kernel_rfl) (Eh n)
def yq(n:Nat)(a0:ai)(a1:Int)(a2:Int):Option (ai×Int):=bd (bJ n a0 a1) λaW=>cl ((!aW)==false) (bJ n a0 a2) default λbS=>cn (((!aW)||(!bS))) (some (a0,4)) (bd (uQ n a0 a1) λfR=>cl ((fR !=0)==false) (pN n a0 a1 a2) default λeC=>cn (((fR !=0)||eC)) (some (a0,12)) (bd (kJ n a0 a1 a2) λeE=>bd (iv n eE.1 a1) λl6=>eU (λk48 (mG:Int)=>cn (decide (mG<(l6.length:Int))) (gu (bM mG l6.length)<|bd (iw n eE.1 (l6.getD (Int.toNat mG) default)) λuA=>cn (decide (6<uA)) (some (a0,8)) (k48 (wr .i64 (mG+1)))) (some (eE.1,eE.2))) n 0))
def MR(n:Nat):CT:=cV (tW n [(17, .loop [(.slot 11,(.v (.int .i64))),(.via 6, .box 78 (.unk 448))])] [cz n,zQ n,y8 n,Dy n,qJ n,D8 n]) (gy 63 [.s 21, .i, .i] [.t [.s 21, .i]]) (a3 (yq n)) u2 m2
def wK(n:Nat)(a0:ai)(a1:Int):Option (ai×Int):=bd (bJ n a0 a1) λaW=>cn ((!aW)) (some (a0,4)) (bd (iv n a0 a1) λeC=>cJ (λk46 (l6:Int) (gR:ai)=>cn (decide (l6<(eC.length:Int))) (gu (bM l6 eC.length)<|bd (br n a0.B (eC.getD (Int.toNat l6) default)) λBO=>cJ (λk64 (zJ:Int) (uz:ai)=>cn (decide (zJ<8)) (gu (bM BO 32)<|gu (bM zJ 8)<|cl ((((a0.R (Int.toNat BO)).bC (Int.toNat zJ))!=0)==true) (dR n a0 ((a0.R (Int.toNat BO)).bC (Int.toNat zJ)) a1) default λNk=>cn (((((a0.R (Int.toNat BO)).bC (Int.toNat zJ))!=0)&&Nk)) (gu (bM BO 32)<|gu (bM zJ 8)<|lt ({uz with R:=(dy uz.R (Int.toNat BO) ({(uz.R (Int.toNat BO))with bC:=(dy ((uz.R (Int.toNat BO)).bC) (Int.toNat zJ) 0)}))}:ai) λOe=>k64 (wr .i64 (zJ+1)) Oe) (k64 (wr .i64 (zJ+1)) uz)) (k46 (wr .i64 (l6+1)) uz)) n 0 gR) (bd (br n a0.B a1) λJD=>gu (bM JD 32)<|lt ({gR with R:=(dy gR.R (Int.toNat JD) ({(gR.R (Int.toNat JD))with Up:=0}))}:ai) λYE=>some (YE,0))) n 0 a0)
def I6(n:Nat):CT:=cV (tW n [(13, .loop [(.slot 8,(.v (.int .i64))),(.via 6, .box 78 (.v (.st 21)))]),(21, .loop [(.slot 10,(.v (.int .i64))),(.via 6, .box 78 (.v (.st 21)))])] [cz n,qJ n,cC n,qB n]) (gy 64 [.s 21, .i] [.t [.s 21, .i]]) (a2 (wK n)) u2 m2
def qp(n:Nat)(a0:ai)(a1:Int)(a2:Int):Option (ai×Int×Int):=cl ((a1==0)==false) (bJ n a0 a1) default λaW=>cl (((((a1==0)||aW)&&decide (0<=a2))&&decide (a2<=64))==true) (iw n a0 a1) default λbS=>cn ((((((a1==0)||aW)&&decide (0<=a2))&&decide (a2<=64))&&decide (5<bS))) (some (a0,0,8)) (bd (fS n a0 a1 a2) λfR=>some (fR.1,fR.2.1,fR.2.2))
def Qt(n:Nat):CT:=cV (tW n [] [cz n,D8 n,FJ n]) (gy 59 [.s 21, .i, .i] [.t [.s 21, .i, .i]]) (a3 (qp n)) u3 m3
def iX:Nat->ai->Int->Option Int
 |0,_,_ =>none
 |n+1,a0,a1=>
 bd (bJ n a0 a1) λaW=>
 cl (aW==true) (uQ n a0 a1) default λbS=>
 cn ((aW&&(bS !=0))) (
 bd (uQ n a0 a1) λgG=>
 bd (iX n a0 gG) λiH=>
 some iH) (
 bd (bJ n a0 a1) λfI=>
 cn (fI) (
 some a1) (
 some 0))
def lA:Fs:=⟨58,[], .cons (.v (.st 21)) (.cons (.v (.int .i64)) .nil), .cons (.v (.int .i64)) .nil,[], .nil,[],[]⟩
def Ag(z:Int):HL sg (bz lA.dZ):=(λz=>(z,())) z
theorem Gn:∀n,UO Tryz.prog lA (RV (G:=sg) lA (λ(x:HI sg lA)=>iX n x.1 x.2.1) Ag) (λ_ _ =>False)
 |0=>abu (λ_ =>rfl)
 |n+1=>RC (tb:=(tW n [] [cz n,zQ n,XV (G:=sg) lA (λ(x:HI sg lA)=>iX n x.1 x.2.1) Ag (0) (by kernel_rfl) (Gn n)])) (n:=3000) (s:=lA) (um:=λy=>y.1) (λ_ =>rfl) (λx=>by refine Eq.trans ?_ (iX.eq_2 ..).symm;kernel_rfl)
def sy(n:Nat):Ct Tryz.prog sg:=XV (G:=sg) lA (λ(x:HI sg lA)=>iX n x.1 x.2.1) Ag (0) (by kernel_rfl) (Gn n)
def oA(n:Nat)(a0:av)(a1:Int):Option (av×Int):=some (a0,a1)
def w9(n:Nat):CT:=cV (tW n [] []) ⟨127,[], .cons (.v (.st 8)) (.cons (.v (.int .u32)) .nil), .cons (.fn (.func 133) .nil (.cons (.box 41 (.v (.st 8))) (.cons (.box 32 (.v (.int .u32))) .nil))) .nil,[none,none], .nil,[],[]⟩ (a2 (oA n)) u2 m2
def nW(n:Nat)(a1:av)(a2:Int):Option (List Int):=eU (λk41 (q9:Int)=>bd (eF n a1 q9) λvK=>cn (((vK.2!=0)||(vK.1.Up==0))==false) (yl vK.1.Up<|k41 vK.1.Up) (some [])) n a2
def tS(n:Nat):It Tryz.prog sg:=mkI (tX n [(1, .loop [(.via 2, .box 32 (.v (.int .u32)))])] [ij n] [] []) 3000 133 (.cons (.box 41 (.v (.st 8))) (.cons (.box 32 (.v (.int .u32))) .nil)) (.cons (.v (.int .u32)) .nil) (.int .nil) (B:=Int) (λy=>(y,())) (λx=>(x.1)) (λx=>nW n x.1 x.2.1) (λ_ =>rfl) (by kernel_rfl) (λx=>by kernel_rfl)
def jZ(n:Nat)(a0:av)(a1:Int):Option Int:=bd (aU n a0.bj.og a1) λaW=>cn ((!aW)) (some 0) (bd (oA n a0 a1) λbS=>bd (nW n bS.1 bS.2) λeC=>tQ (λ(Ui:Int) k31 (dL:Int)=>lt (Ui:Int) λg8=>lt (wr .i64 (dL+1):Int) λiU=>k31 iU) (λ(dL:Int)=>some dL) eC 1)
def xd(n:Nat):CT:=cV (tX n [(11, .loop [(.via 5, .box 3 (.v (.int .i64)))])] [bH n,w9 n] [] [tS n]) (gy 215 [.s 8, .w] [.i]) (a2 (jZ n)) u1 m1
def ju(n:Nat)(a0:av)(a1:Int):Option Int:=bd (aU n a0.bj.og a1) λaW=>cn ((!aW)) (some 0) (bd (oA n a0 a1) λbS=>bd (nW n bS.1 bS.2) λeC=>tQ (λ(Ui:Int) k31 (dL:Int)=>lt (Ui:Int) λg8=>k31 g8) (λ(dL:Int)=>some dL) eC a1)
def lJ(n:Nat):CT:=cV (tX n [(9, .loop [(.via 3, .box 32 (.v (.int .u32)))])] [bH n,w9 n] [] [tS n]) (gy 116 [.s 8, .w] [.w]) (a2 (ju n)) u1 m1
def mQ(n:Nat)(a0:av)(a1:Int)(a2:Int):Option Bool:=bd (aU n a0.bj.og a1) λaW=>cl ((!aW)==false) (aU n a0.bj.og a2) default λbS=>cn (((!aW)||(!bS))) (some false) (lt ((a1==a2):Bool) λgG=>bd (oA n a0 a2) λiH=>bd (nW n iH.1 iH.2) λiM=>tQ (λ(e38:Int) MB (gF:Bool)=>lt (e38:Int) λiU=>lt ((gF||(iU==a1)):Bool) λqf=>MB qf) (λ(gF:Bool)=>some gF) iM gG)
def sC(n:Nat):CT:=cV (tX n [(11, .loop [(.via 7, .box 4 (.v .bool))])] [bH n,w9 n] [] [tS n]) (gy 225 [.s 8, .w, .w] [.b]) (a3 (mQ n)) u1 m1
def xH(n:Nat)(a0:av)(a1:Int)(a2:Int):Option (av×Int×Int):=bd (kV n a0 a1 a2) λaW=>cl (((aW.2.2==0)||(aW.2.2==7))==true) (jZ n a0 a1) default λdL=>cn ((((aW.2.2==0)||(aW.2.2==7))&&decide (6<=dL))) (some (a0,0,8)) (some (aW.1,aW.2.1,aW.2.2))
def Ow(n:Nat):CT:=cV (tW n [] [FD n,xd n]) (gy 179 [.s 8, .w, .i] [.t [.s 8, .w, .i]]) (a3 (xH n)) u3 m3
def jY(n:Nat)(a0:Int)(a1:av)(a2:Int):Option Bool:=bd (eF n a1 a0) λaW=>some (aW.1.Up !=a2)
def A8(n:Nat):CT:=cV (tW n [] [ij n]) ⟨265,[(41, .v (.st 8)),(32, .v (.int .u32))], .cons (.v (.int .u32)) (.cons (.cW 0) (.cons (.cW 1) .nil)), .cons (.v .bool) .nil,[], .nil,[],[]⟩ (λx=>jY n x.2.2.1 x.1 x.2.1) u1 m1
def g9(n:Nat)(a0:(List Int))(mM:av)(vI:Int):Option Int:=eU (λzu (bS:Int)=>cn (decide (bS<(a0.length:Int))) (gu (bM bS a0.length)<|bd (jY n (a0.getD (Int.toNat bS) default) mM vI) λeC=>cn (eC) (some bS) (zu (wr .i64 (bS+1)))) (some (-1))) n 0
def gM(n:Nat)(a0:(List Int))(mM:av)(vI:Int):Option (Int×List Int):=bd (g9 n a0 mM vI) λi=>some (i,a0)
def jA(n:Nat)(a0:(List Int))(mM:av)(vI:Int):Option (Int×List Int):=eU (λzu (bS:Int)=>cn (decide (bS<(a0.length:Int))) (gu (bM bS a0.length)<|bd (jY n (a0.getD (Int.toNat bS) default) mM vI) λeC=>cn (eC) (some (bS,a0)) (zu (wr .i64 (bS+1)))) (some (-1,a0))) n 0
theorem o8(n:Nat)(a0:(List Int))(mM:av)(vI:Int):jA n a0 mM vI=gM n a0 mM vI:=(Rd (λK i=>by simp only[amu,amt,agb];rfl) n 0).symm
def oZ(n:Nat):CT:=cV (tW n [(5, .loop [(.slot 8,(.v (.int .i64)))])] [A8 n]) ⟨257,[(41, .v (.st 8)),(32, .v (.int .u32))], .cons (.row 32 1 (.int .u32)) (.cons (.fn (.func 265) .nil (.cons (.cW 0) (.cons (.cW 1) .nil))) .nil), .cons (.v (.int .i64)) (.cons (.row 32 1 (.int .u32)) .nil),[some 2], .nil,[],[[0]]⟩ (λx=>gM n x.2.2.1 x.1 x.2.1) u2 m2 (hW:=λx=>Eq.trans (b:=jA n x.2.2.1 x.1 x.2.1) (by kernel_rfl) (o8 ..))
def eP(n:Nat)(a0:(List Int))(mM:av)(vI:Int):Option (List Int):=bd (g9 n a0 mM vI) λaW=>cn ((aW==(-1))) (some a0) (sU (λk34 (fL:(List Int)) (dL:Int) (eE:Int)=>cn (decide (eE<(fL.length:Int))) (gu (bM eE fL.length)<|bd (jY n (fL.getD (Int.toNat eE) default) mM vI) λl7=>cn ((!l7)) (gu (bM dL fL.length)<|lt ((fL.set (Int.toNat dL) (fL.getD (Int.toNat eE) default)):List Int) λqz=>k34 qz (wr .i64 (dL+1)) (wr .i64 (eE+1))) (k34 fL dL (wr .i64 (eE+1)))) (gu (bM dL (fL.length+1))<|lt (fL.take (Int.toNat dL)++List.replicate (fL.length-(Int.toNat dL)) 0:List Int) λgR=>gu (bM dL (gR.length+1))<|lt (gR.take (Int.toNat dL):List Int) λxY=>some xY)) n a0 aW (wr .i64 (aW+1)))
def jT(n:Nat)(a0:(List Int))(mM:av)(vI:Int):Option (List Int):=bd (gM n a0 mM vI) λxr=>cn ((xr.1==(-1))) (some xr.2) (sU (λk34 (fL:(List Int)) (dL:Int) (eE:Int)=>cn (decide (eE<(fL.length:Int))) (gu (bM eE fL.length)<|bd (jY n (fL.getD (Int.toNat eE) default) mM vI) λl7=>cn ((!l7)) (gu (bM dL fL.length)<|lt ((fL.set (Int.toNat dL) (fL.getD (Int.toNat eE) default)):List Int) λqz=>k34 qz (wr .i64 (dL+1)) (wr .i64 (eE+1))) (k34 fL dL (wr .i64 (eE+1)))) (gu (bM dL (fL.length+1))<|lt (fL.take (Int.toNat dL)++List.replicate (fL.length-(Int.toNat dL)) 0:List Int) λgR=>gu (bM dL (gR.length+1))<|lt (gR.take (Int.toNat dL):List Int) λxY=>some xY)) n xr.2 xr.1 (wr .i64 (xr.1+1)))
theorem pC(n:Nat)(a0:(List Int))(mM:av)(vI:Int):jT n a0 mM vI=eP n a0 mM vI:=agb
def pA(n:Nat):CT:=cV (tW n [(11, .loop [(.slot 0,(.row 32 1 (.int .u32))),(.slot 5,(.v (.int .i64))),(.slot 6,(.v (.int .i64)))]),(1000041, .join [] [])] [oZ n,A8 n]) ⟨264,[(41, .v (.st 8)),(32, .v (.int .u32))], .cons (.row 32 1 (.int .u32)) (.cons (.fn (.func 265) .nil (.cons (.cW 0) (.cons (.cW 1) .nil))) .nil), .cons (.row 32 1 (.int .u32)) .nil,[none], .nil,[],[]⟩ (λx=>eP n x.2.2.1 x.1 x.2.1) u1 m1 (hW:=λx=>Eq.trans (b:=jT n x.2.2.1 x.1 x.2.1) (by kernel_rfl) (pC ..))
def yA(n:Nat)(a0:av)(a1:Int):Option (List Int):=bd (aU n a0.bj.og a1) λaW=>cn ((!aW)) (some ([]:List Int)) (bd (l9 n a0.bj) λgG=>bd (eP n gG a0 a1) λeC=>some eC)
def MW(n:Nat):CT:=cV (tW n [] [bH n,qh n,pA n]) ⟨262,[], .cons (.v (.st 8)) (.cons (.v (.int .u32)) .nil), .cons (.row 32 1 (.int .u32)) .nil,[none], .nil,[],[]⟩ (a2 (yA n)) u1 m1
def oz(n:Nat)(a0:av)(a1:Int):Option (Int×av):=some (a1,a0)
def w8(n:Nat):CT:=cV (tW n [] []) ⟨251,[], .cons (.v (.st 8)) (.cons (.v (.int .u32)) .nil), .cons (.fn (.func 261) .nil (.cons (.box 32 (.v (.int .u32))) (.cons (.box 41 (.v (.st 8))) .nil))) .nil,[none,none], .nil,[],[]⟩ (a2 (oz n)) u2 m2
def jh(n:Nat)(a0:(List Int)):Option (List Int):=sU (λMB (eC:(List Int)) (iM:Int) (dL:Int)=>cn (decide (iM<dL)) (gu (bM dL eC.length)<|gu (bM iM eC.length)<|gu (bM iM eC.length)<|lt ((eC.set (Int.toNat iM) (eC.getD (Int.toNat dL) default)):List Int) λiU=>gu (bM dL iU.length)<|lt ((iU.set (Int.toNat dL) (eC.getD (Int.toNat iM) default)):List Int) λl6=>MB l6 (wr .i64 (iM+1)) (wr .i64 (dL-1))) (some eC)) n a0 0 (wr .i64 ((a0.length:Int)-1))
namespace H
theorem Bn{n a0 r v0}(f0:wI v0 a0.length)(h:jh n a0=some r):Bw.Fn (α:=Value) Tryz.prog 263 [v0] (YA (cy [nF v0 32 1 (LI .u32) a0]) (λ_ =>True)) [nF v0 32 1 (LI .u32) a0] (λv=>v=v0/\wI v r.length) (λv=> .tuple #[]) (λv=>[nF v 32 1 (LI .u32) r]):=by
 unfold jh at h;refine xI Tryz.func263 (by kernel_rfl) rfl Tryz.ntmps263 rfl (λcx qT hpre hro=>?_);refine SC 3 rf ?_;refine cO rfl (wG (Fz.row (e:=32) (sz:=1) (L:=(LI .u32)) (xs:=a0) rfl f0) rfl) ?_;refine SL 6 rf ?_;obtain⟨ahE,aa9,h⟩:=ak1 h;refine LO (β:=(List Int)×Int×Int) [] [0] (λ(m32,eC,iM,dL)=>[(0,v0),(2, .int .i64 iM),(3, .int .i64 dL)]) (λ(m32,eC,iM,dL)=>[nF v0 32 1 (LI .u32) eC]) (λ(m32,eC,iM,dL)=>wI v0 eC.length/\sU ahE m32 eC iM dL=some r) (n,a0,0,wr .i64 ((a0.length:Int)-1)) ⟨f0,h⟩ rf rf rf ?_;rintro m32 ⟨eC,iM,dL⟩ ⟨TV,h⟩;replace h:=afS aa9 h;obtain⟨m32,rfl,h⟩:=h;refine SC 8 rf ?_;refine Qn h rf (λhc h=>?_) λhc h=>?_
 ·
  refine SC 4 rf ?_;obtain⟨ah2,h⟩:=rH h;obtain⟨XG,h⟩:=rH h;obtain⟨aev,h⟩:=rH h;obtain⟨iU,aln,h⟩:=uS h;obtain⟨T4,h⟩:=rH h;obtain⟨l6,TR,h⟩:=uS h;refine PZ aaw (.MA [] [(0,[0]),(1,[2]),(2,[0]),(3,[3]),(4,[0]),(5,[3]),(6,[18,19]),(7,[20]),(8,[0]),(9,[2]),(10,[22,23]),(11,[24]),(12,[14,15])] (.alt 13 [21,26] (.MA [(2,[0]),(3,[3])] [(14,[16,17])] (.alt 15 [25,27] (.fin [] []) .no)) .no)) (by kernel_rfl) ?_;refine T0 ?_;refine NS 6 rf ?_;refine NV rf rf (AO (m:=(Int.toNat dL)) (Fz.row (e:=32) (sz:=1) (L:=(LI .u32)) (xs:=eC) rfl TV) rfl rfl rfl (dH ah2).1 (dH ah2).2) ?_;refine NV rf rf (Dh (Fz.row (e:=32) (sz:=1) (L:=(LI .u32)) (xs:=eC) rfl TV) (aY.idx (L:=(LI .u32)) (m:=(eC.length)) (k:=1) ((Int.toNat dL)) (dH ah2).2 rfl) rfl) ?_;refine NS 2 rf ?_;refine NV rf rf (AO (m:=(Int.toNat iM)) (Fz.row (e:=32) (sz:=1) (L:=(LI .u32)) (xs:=eC) rfl TV) rfl rfl rfl (dH XG).1 (dH XG).2) ?_;refine NV rf rf (Dh (Fz.row (e:=32) (sz:=1) (L:=(LI .u32)) (xs:=eC) rfl TV) (aY.idx (L:=(LI .u32)) (m:=(eC.length)) (k:=1) ((Int.toNat iM)) (dH XG).2 rfl) rfl) ?_;refine NV rf rf (AO (m:=(Int.toNat iM)) (Fz.row (e:=32) (sz:=1) (L:=(LI .u32)) (xs:=eC) rfl TV) rfl rfl rfl (dH aev).1 (dH aev).2) ?_;refine kQ ?_;refine X0 rf (UJ (sz:=1) (M:=(LI .u32)) (Int.toNat iM) (aY.idx (L:=(LI .u32)) (m:=(eC.length)) (k:=1) ((Int.toNat iM)) (dH aev).2 rfl) (eC.getD (Int.toNat dL) default) iU aln rfl rfl rfl rfl (dH aev).2 rfl rfl) ?_;have aa0:wI v0 iU.length:=by rw[aln,List.length_set];exact TV
  refine yE ?_ ?_
  ·exact RE 2 rf rf
  refine NV rf rf (AO (m:=(Int.toNat dL)) (Fz.row (e:=32) (sz:=1) (L:=(LI .u32)) (xs:=iU) rfl aa0) rfl rfl rfl (dH T4).1 (dH T4).2) ?_;refine kQ ?_;refine X0 rf (UJ (sz:=1) (M:=(LI .u32)) (Int.toNat dL) (aY.idx (L:=(LI .u32)) (m:=(iU.length)) (k:=1) ((Int.toNat dL)) (dH T4).2 rfl) (eC.getD (Int.toNat iM) default) l6 TR rfl rfl rfl rfl (dH T4).2 rfl rfl) ?_;have aoi:wI v0 l6.length:=by rw[TR,List.length_set];exact aa0
  refine F00 ?_;refine SX 10 rf ?_;exact LN [0] (l6,wr .i64 (iM+1),wr .i64 (dL-1)) ⟨aoi,h⟩ rf rf rf
 ·refine SC 4 rf ?_;have h:=sj h;subst h;exact ack v0 rfl .nil ⟨rfl,TV⟩ rfl (ks:=[0]) rfl (by decide)
end H
def Bi(n:Nat):Ct Tryz.prog sg:=XV (G:=sg) ⟨263,[], .cons (.row 32 1 (.int .u32)) .nil, .cons (.sE .nil) (.cons (.row 32 1 (.int .u32)) .nil),[some 0], .nil,[],[[0]]⟩ (λx=>jh n x.1) (λz=>(z,())) ([]) (by kernel_rfl) (letI:bW ((Ty.int .u32).L sg):=inferInstanceAs (bW (LI .u32));XM (t:= .int .u32) rfl λv0 a0 r h0 h=>H.Bn h0 h)
def nV(n:Nat)(a1:Int)(a2:av):Option (List Int):=eU (λRh (dL:(List Int))=>cn (decide (0<(dL.length:Int))) (gu (bM (wr .i64 ((dL.length:Int)-1)) dL.length)<|yl (dL.getD (Int.toNat (wr .i64 ((dL.length:Int)-1))) default)<|bd (yA n a2 (dL.getD (Int.toNat (wr .i64 ((dL.length:Int)-1))) default)) λvJ=>bd (jh n vJ) λuA=>gu (bM (wr .i64 ((dL.length:Int)-1)) (dL.length+1))<|lt (dL.take (Int.toNat (wr .i64 ((dL.length:Int)-1))):List Int) λD5=>gu (gO D5.length uA.length 4)<|lt (D5++uA:List Int) λYi=>Rh Yi) (some [])) n ([a1]:List Int)
def tR(n:Nat):It Tryz.prog sg:=mkI (tX n [(3, .loop [(.slot 4,(.row 32 1 (.int .u32)))]),(1000031, .join [] [])] [MW n,Bi n] [] []) 3000 261 (.cons (.box 32 (.v (.int .u32))) (.cons (.box 41 (.v (.st 8))) .nil)) (.cons (.v (.int .u32)) .nil) (.int .nil) (B:=Int) (λy=>(y,())) (λx=>(x.1)) (λx=>nV n x.1 x.2.1) (λ_ =>rfl) (by kernel_rfl) (λx=>by kernel_rfl)
def fG(n:Nat)(mM:Int)(vI:av):Option (List Int):=bd (nV n mM vI) λaW=>tQ (λ(e34:Int) Xx (fR:(List Int))=>lt (e34:Int) λq9=>gu (gO fR.length 1 4)<|lt (fR++([q9]):List Int) λl7=>Xx l7) (λ(fR:(List Int))=>some fR) aW ([]:List Int)
def nK(n:Nat):CT:=cV (tX n [(5, .loop [(.via 2, .box 207 (.row 32 1 (.int .u32)))])] [] [] [tR n]) (gy 260 [.pR, .fn (.func 261) .nil (.cons (.box 32 (.v (.int .u32))) (.cons (.box 41 (.v (.st 8))) .nil))] [.v (.sl (.int .u32))]) (a2 (fG n)) u1 m1
def iC(n:Nat)(R8:Int)(UB:av):Option (List Int):=bd (fG n R8 UB) λaW=>some aW
def qj(n:Nat):CT:=cV (tW n [] [nK n]) (gy 250 [.fn (.func 261) .nil (.cons (.box 32 (.v (.int .u32))) (.cons (.box 41 (.v (.st 8))) .nil))] [.v (.sl (.int .u32))]) (a2 (iC n)) u1 m1
def qv(n:Nat)(a0:av)(a1:Int):Option (List Int):=bd (aU n a0.bj.og a1) λaW=>cn ((!aW)) (some ([]:List Int)) (bd (oz n a0 a1) λgG=>bd (iC n gG.1 gG.2) λfL=>some fL)
def xb(n:Nat):CT:=cV (tW n [] [bH n,w8 n,qj n]) (gy 221 [.s 8, .w] [.v (.sl (.int .u32))]) (a2 (qv n)) u1 m1
def yB(n:Nat)(a0:av)(a1:Int):Option (av×(List Int)×Int):=bd (qv n a0 a1) λaW=>cn (((aW.length:Int)==0)) (some (a0,([]:List Int),4)) (cJ (λk47 (gR:Int) (vK:av)=>cn (decide (gR<(aW.length:Int))) (gu (bM gR aW.length)<|bd (jF n vK (aW.getD (Int.toNat gR) default)) λyH=>k47 (wr .i64 (gR+1)) yH.1) (some (vK,aW,0))) n 0 a0)
def MX(n:Nat):CT:=cV (tW n [(11, .loop [(.slot 19,(.v (.int .i64))),(.via 2, .box 41 (.v (.st 8)))])] [xb n,Es n]) (gy 223 [.s 8, .w] [.t [.s 8, .v (.sl (.int .u32)), .i]]) (a2 (yB n)) u3 m3
def yz(n:Nat)(a0:av)(a1:Int):Option Int:=bd (oz n a0 a1) λaW=>bd (nV n aW.1 aW.2) λfR=>tQ (λ(e35:Int) k30 (iM:Int)=>lt (e35:Int) λeD=>bd (jZ n a0 eD) λl7=>bd (jZ n a0 a1) λiU=>lt ((if iM<wr .i64 ((wr .i64 (l7-iU))+1)then wr .i64 ((wr .i64 (l7-iU))+1)else iM):Int) λqz=>k30 qz) (λ(iM:Int)=>some iM) fR 0
def MV(n:Nat):CT:=cV (tX n [(7, .loop [(.via 5, .box 3 (.v (.int .i64)))])] [w8 n,xd n] [] [tR n]) (gy 226 [.s 8, .w] [.i]) (a2 (yz n)) u1 m1
def wD(n:Nat)(a0:av)(a1:Int)(a2:Int):Option (av×Int):=bd (aU n a0.bj.og a1) λaW=>cl ((!aW)==false) (aU n a0.bj.og a2) default λbS=>cn (((!aW)||(!bS))) (some (a0,4)) (bd (ju n a0 a1) λfR=>cl ((fR !=a1)==false) (mQ n a0 a1 a2) default λeC=>cn (((fR !=a1)||eC)) (some (a0,12)) (bd (jZ n a0 a2) λeE=>bd (yz n a0 a1) λgF=>cn (decide (6<(wr .i64 (eE+gF)))) (some (a0,8)) (bd (iV n a0 a1 a2) λl7=>some (l7.1,l7.2))))
def KT(n:Nat):CT:=cV (tW n [] [bH n,lJ n,sC n,xd n,MV n,vL n]) (gy 193 [.s 8, .w, .w] [.t [.s 8, .i]]) (a3 (wD n)) u2 m2
def qw(n:Nat)(a0:Int)(a1:Int)(a2:av):Option Bool:=cl ((a0 !=a1)==true) (mQ n a2 a0 a1) default λaW=>some ((a0 !=a1)&&aW)
def KU(n:Nat):CT:=cV (tW n [] [sC n]) ⟨253,[(32, .v (.int .u32)),(41, .v (.st 8))], .cons (.v (.int .u32)) (.cons (.cW 0) (.cons (.cW 1) .nil)), .cons (.v .bool) .nil,[], .nil,[],[]⟩ (λx=>qw n x.2.2.1 x.1 x.2.1) u1 m1
def tV(n:Nat)(a0:av)(a1:Int):Option (av×Int):=bd (aU n a0.bj.og a1) λaW=>cn ((!aW)) (some (a0,4)) (bd (oz n a0 a1) λeC=>bd (nV n eC.1 eC.2) λgF=>tQ (λ(e49:Int) k44 (gR:av)=>lt (e49:Int) λBO=>bd (eF n gR BO) λuA=>cJ (λk74 (yY:Int) (A2:aS)=>cn (decide (yY<8)) (gu (bM yY 8)<|bd (qw n (uA.1.bC (Int.toNat yY)) a1 a0) λMN=>cn (MN) (gu (bM yY 8)<|lt ({A2 with bC:=(dy A2.bC (Int.toNat yY) 0)}:aS) λMz=>k74 (wr .i64 (yY+1)) Mz) (k74 (wr .i64 (yY+1)) A2)) (bd (gP n gR BO A2) λEm=>k44 Em.1)) n 0 uA.1) (λ(gR:av)=>bd (iV n gR a1 0) λOd=>some (Od.1,Od.2)) gF a0)
def Ox(n:Nat):CT:=cV (tX n [(13, .loop [(.via 7, .box 41 (.v (.st 8)))]),(19, .loop [(.slot 34,(.v (.int .i64))),(.via 9, .box 38 (.v (.st 7)))])] [bH n,w8 n,ij n,KU n,sw n,vL n] [] [tR n]) (gy 224 [.s 8, .w] [.t [.s 8, .i]]) (a2 (tV n)) u2 m2
def oQ(n:Nat)(a0:aR)(a1:Int):Option Int:=eU (λzu (bS:Int)=>cn (decide (bS<(a0.cS.length:Int))) (gu (bM bS a0.cS.length)<|cn (((a0.cS.getD (Int.toNat bS) default)==a1)) (some bS) (zu (wr .i64 (bS+1)))) (some (-1))) n 0
def A5(n:Nat):CT:=cV (tW n [(5, .loop [(.slot 5,(.v (.int .i64)))])] []) (gy 112 [.s 23, .i] [.i]) (a2 (oQ n)) u1 m1
def iD(n:Nat)(a0:aR)(a1:ai)(a2:Int):Option bT:=bd (iX n a1 a2) λaW=>bd (oQ n a0 aW) λbS=>cl ((decide (bS<0))==false) (bJ n a1 a2) default λgG=>cn ((decide (bS<0)||(!gG))) (lt ({dx:=0,gj:=0,kR:=(λ_ =>false)}:bT) λiH=>some iH) (gu (bM bS a0.tJ.length)<|lt ((a0.tJ.getD (Int.toNat bS) default):bT) λfL=>some fL)
def kS(n:Nat):CT:=cV (tW n [] [sy n,A5 n,cz n]) (gy 71 [.s 23, .s 21, .i] [.s 22]) (a3 (iD n)) u1 m1
def iP(n:Nat)(a0:bN)(a1:av)(a2:Int):Option cK:=bd (ju n a1 a2) λaW=>bd (bY n aW) λbS=>gu (!((!bS.2)==false)||bM bS.1 32)<|cn (((!bS.2)||(((a0.aI (Int.toNat bS.1)).root)!=aW))) (lt ({dx:=0,gj:=0,dU:=0}:cK) λiH=>some iH) (gu (bM bS.1 32)<|lt ((a0.aI (Int.toNat bS.1)).own:cK) λfR=>some fR)
def lI(n:Nat):CT:=cV (tW n [] [lJ n,dA n]) (gy 82 [.s 11, .s 8, .w] [.s 9]) (a3 (iP n)) u1 m1
def Ak(n:Nat)(a0:av)(a1:ai)(a2:bN)(a3:aR):Option Bool:=bd (kY n a1) λaW=>eU (λXx (fR:Int)=>cn (decide (fR<(aW.length:Int))) (gu (bM fR aW.length)<|bd (iP n a2 a0 (wr .u32 (aW.getD (Int.toNat fR) default))) λeE=>gu (bM fR aW.length)<|bd (iD n a3 a1 (aW.getD (Int.toNat fR) default)) λq9=>cJ (λRh (l7:Int) (iU:Int)=>cn (decide (iU<8)) (gu (bM iU 8)<|cn ((q9.kR (Int.toNat iU))) (gu (decide (0<=iU))<|Rh (orI .u8 l7 (FX .u8 1 iU)) (wr .i64 (iU+1))) (Rh l7 (wr .i64 (iU+1)))) (cn (((((wr .i64 eE.dx)!=q9.dx)||((wr .i64 eE.gj)!=q9.gj))||(eE.dU !=l7))) (some false) (Xx (wr .i64 (fR+1))))) n 0 0) (some true)) n 0
def Ot(n:Nat):CT:=cV (tW n [(7, .loop [(.slot 10,(.v (.int .i64)))]),(17, .loop [(.slot 13,(.v (.int .u8))),(.slot 14,(.v (.int .i64)))])] [pb n,lI n,kS n]) (gy 36 [.s 8, .s 21, .s 11, .s 23] [.b]) (a4 (Ak n)) u1 m1
def kX(n:Nat)(a0:aR)(a1:Int)(a2:bT):Option aR:=gu (gO ([]:List Int).length a0.cS.length 8)<|lt (([]:List Int)++a0.cS:List Int) λfI=>gu (gO ([]:List bT).length a0.tJ.length 24)<|lt (([]:List bT)++a0.tJ:List bT) λgF=>lt ({cS:=fI,tJ:=gF}:aR) λg8=>bd (oQ n a0 a1) λqz=>cn (decide (qz<0)) (gu (gO fI.length 1 8)<|lt (fI++([a1]):List Int) λl6=>lt ({({cS:=fI,tJ:=gF}:aR)with cS:=l6}:aR) λo9=>gu (gO gF.length 1 24)<|lt (gF++([a2]):List bT) λmG=>lt ({({({cS:=fI,tJ:=gF}:aR)with cS:=l6})with tJ:=mG}:aR) λBO=>lt (({{({cS:=fI,tJ:=gF}:aR)with cS:=l6}with tJ:=mG}):aR) λyH=>some yH) (gu (bM qz gF.length)<|lt ((gF.set (Int.toNat qz) a2):List bT) λD5=>lt (({({cS:=fI,tJ:=gF}:aR)with tJ:=D5}):aR) λWH=>some WH)
namespace H
abbrev cG:dI aR:=dI.via (LP (WC (LI .i64)) (WC aK)) (λx=>(x.cS,x.tJ))
def fV:List Value:=[.slice none 0 0]++([.slice none 0 0])
theorem lH{A:World->Prop}:cG.fz A fV iF:=⟨_,_,rfl,⟨_,rfl,Fz.nil⟩,⟨_,rfl,Fz.nil⟩⟩
theorem yF:aY cG (WC (LI .i64)) 0 (λx=>x.cS) (λx v=>{x with cS:=v}):=(aY.fst aY.id).via _ _ _ 0 rfl (λ_ =>rfl) (λ_ _ =>rfl)
theorem zE:aY cG (WC aK) 1 (λx=>x.tJ) (λx v=>{x with tJ:=v}):=(aY.snd aY.id).via _ _ _ 1 rfl (λ_ =>rfl) (λ_ _ =>rfl)
theorem JY{n:Nat}{a0:aR}{a1:Int}{r:Int}{R:List aO}(hg:WD sg (Hs R)){wg:List Value}(f0:(cG).fz (Hs R) wg a0)(h:oQ n a0 a1=some r):FnW Tryz.prog 112 [.agg wg.toArray, .int .i64 a1] (Hs R) (.int .i64 r):=by
 obtain⟨c1,c2,e0,k0,k1⟩:=f0;exact Fn.pre (zx (ct:=A5 n) (qd:=[]) (ρ:=λ_ =>none) (x:=(a0,a1,())) (y:=(r,())) ⟨r,h,rfl⟩ hg (λJ hJ=>⟨_,_,rfl,Il (t:= .st 23) (dI.mono _ hJ ⟨c1,c2,e0,Xs k0,Xs k1⟩) rfl,_,_,rfl,rfl,rfl⟩) rfl rfl (λJ _ r o e=>by cases e) (λ_ _ =>rfl) λJ σ u us ⟨_,_,e,h1,_⟩=>by
  cases e;have h1:[u]=[.int .i64 _]:=h1;cases h1;rfl) λw hw=>λw' hs=>CG.ok w w' hw hs
theorem GD{n a0 a1 a2 r}{R:List aO}(hg:WD sg (Hs R)){wg}(f0:(cG).fz (Hs R) wg a0)(h:kX n a0 a1 a2=some r):FnB Tryz.prog 104 [A wg, .int .i64 a1, .agg (aK.enc a2).toArray] (Hs R) (λJ v=>∃u0,v=(A u0)/\(cG).fz (λw=>(Hs R) w/\J w) u0 (r)):=by
 unfold kX at h;refine fo Tryz.func104 (by kernel_rfl) rfl Tryz.ntmps104 rfl λcx _ hro qT hpre=>?_;refine SC 2 rf ?_;refine W1 rf (P9 rfl) λb3=>?_;refine W1 rf (qx aK a2 rfl rfl) λb5=>?_;refine W1 rf (ta (hz:=(⟨by kernel_rfl⟩:kz Tryz.prog 82 fV))) λb6=>?_;refine SL 2 rf ?_;obtain⟨Rv,h⟩:=rH h;obtain⟨fI,Rm,h⟩:=uS h;obtain⟨XH,h⟩:=rH h;obtain⟨gF,Xz,h⟩:=uS h;obtain⟨g8,ahT,h⟩:=uS h;refine GL 194 10 aK ?_;refine GL 3 1 (LI .i64) ?_;refine CU (α:=Value×Value×Value×Value×(List Value)×Nat) [1,3,5,6] rf (λ(v21,yL,Qe,ya,Wh,b7)=>[(7,gk b7 0)]) (λ(v21,yL,Qe,ya,Wh,b7)=>[.cells b7 82 ([yL]++[ya]),nF ya 194 10 aK gF,nF yL 3 1 (LI .i64) fI, .cells b6 82 fV, .cells b5 194 (aK.enc a2), .cells b3 82 wg]) (λ(v21,yL,Qe,ya,Wh,b7)=>Fz (Hs R) v21 (LI .i64) a0.cS/\wI yL fI.length/\Fz (Hs R) Qe aK a0.tJ/\wI ya gF.length/\(cG).fz (Hs [nF yL 3 1 (LI .i64) fI,nF ya 194 10 aK gF]) Wh g8) ?_ ?_
 ·
  refine PZ aaw (.MA [] [(0,[3]),(1,[9]),(3,[3]),(4,[12])] (.alt 2 [10] (.MA [(3,[3]),(4,[12])] [] (.alt 5 [13] (.MA [] [(6,[11,14])] (.alt 7 [] (.MA [(6,[11,14])] [] (.alt 8 [7,15] (.fin [] []) .no)) .no)) (.alt 7 [] (.MA [(3,[3]),(4,[12])] [] (.alt 5 [13] (.MA [] [(6,[11,14])] (.alt 8 [7,15] (.fin [] []) .no)) .no)) .no))) (.alt 7 [] (.MA [(0,[3]),(1,[9]),(3,[3]),(4,[12])] [] (.alt 2 [10] (.MA [(3,[3]),(4,[12])] [] (.alt 5 [13] (.MA [] [(6,[11,14])] (.alt 8 [7,15] (.fin [] []) .no)) .no)) .no)) .no))) (by kernel_rfl) ?_;refine T0 ?_;refine NS 1 rf ?_;obtain⟨v21,aaX,f22⟩:=yF.sl f0;refine NV rf rf (lG rfl aaX) ?_;refine NS 1 rf ?_;obtain⟨Qe,aaW,f29⟩:=zE.sl f0;refine NV rf rf (lG rfl aaW) ?_;refine kQ ?_;refine X2 rf rf (GR (sz:=1) (L:=(LI .i64)) (xs:=([]:List Int)) (ys:=a0.cS) (bytes:=8) f22 rfl rfl rfl (ld Rv).1 (ld Rv).2) (λyL tn=>?_) ?_
  ·
   rw[← Rm]at tn;rw[← Rm];refine yE ?_ ?_
   ·refine RSn 1 rf rf ?_;refine RO rf rf (lG rfl aaW) rf ?_;exact xT
   refine kQ ?_;refine X2 rf rf (GR (sz:=10) (L:=aK) (xs:=([]:List bT)) (ys:=a0.tJ) (bytes:=24) f29 rfl rfl rfl (ld XH).1 (ld XH).2) (λya tT=>?_) ?_
   ·
    rw[← Xz]at tT;rw[← Xz];refine T0 ?_;obtain⟨Wh,Pv,f37⟩:∃cc,([yL]++[ya])=cc/\(cG).fz (Hs [nF yL 3 1 (LI .i64) fI,nF ya 194 10 aK gF]) cc g8:=⟨_,rfl,by rw[ahT];exact⟨_,_,rfl,⟨_,rfl,(Fz.row (e:=3) (sz:=1) (L:=(LI .i64)) (xs:=fI) rfl tn).mono G9⟩,⟨_,rfl,(Fz.row (e:=194) (sz:=10) (L:=aK) (xs:=gF) rfl tT).mono G9⟩⟩⟩;refine NV rf rf (s8 (cs:=Wh) rfl (by rw[← Pv];first|rfl|(have Vj:=(Fz.row (e:=3) (sz:=1) (L:=(LI .i64)) (xs:=fI) rfl tn).sl.cells;have Vk:=(Fz.row (e:=3) (sz:=1) (L:=(LI .i64)) (xs:=fI) rfl tn).sl.size;generalize yL=vz0 at Vj Vk ⊢;have ZR:=(Fz.row (e:=194) (sz:=10) (L:=aK) (xs:=gF) rfl tT).sl.cells;have ZS:=(Fz.row (e:=194) (sz:=10) (L:=aK) (xs:=gF) rfl tT).sl.size;generalize ya=vz1 at ZR ZS ⊢;simp[tE,cY,show∀k i,(Value.int k i).cells= #[Value.int k i]fromλ_ _ =>rfl,show∀q,(Value.bool q).cells= #[Value.bool q]fromλ_ =>rfl,show∀a,(Value.agg a).cells=a fromλ_ =>rfl,Vj,Vk,ZR,ZS];try rfl))) ?_;refine kQ ?_;refine X1 rf rf (ta (hz:=(⟨by kernel_rfl⟩:kz Tryz.prog 82 fV))) λb7 _ =>?_;refine yE ?_ ?_
    ·refine RO rf rf (s8 (cs:=Wh) rfl (by rw[← Pv];first|rfl|(have Vj:=(Fz.row (e:=3) (sz:=1) (L:=(LI .i64)) (xs:=fI) rfl tn).sl.cells;have Vk:=(Fz.row (e:=3) (sz:=1) (L:=(LI .i64)) (xs:=fI) rfl tn).sl.size;generalize yL=vz0 at Vj Vk ⊢;have ZR:=(Fz.row (e:=194) (sz:=10) (L:=aK) (xs:=gF) rfl tT).sl.cells;have ZS:=(Fz.row (e:=194) (sz:=10) (L:=aK) (xs:=gF) rfl tT).sl.size;generalize ya=vz1 at ZR ZS ⊢;simp[tE,cY,show∀k i,(Value.int k i).cells= #[Value.int k i]fromλ_ _ =>rfl,show∀q,(Value.bool q).cells= #[Value.bool q]fromλ_ =>rfl,show∀a,(Value.agg a).cells=a fromλ_ =>rfl,Vj,Vk,ZR,ZS];try rfl))) rf ?_;exact xT
    refine kQ ?_;refine X0 rf (Md (cs':=([yL]++[ya])) ([yL]++[ya]) (aY.id (L:=cG)) (v:=({cS:=fI,tJ:=gF}:aR)) (r:=(show(cG).fz (Hs []) fV iF from lH)) (rv:=(show(cG).fz (Hs [nF yL 3 1 (LI .i64) fI,nF ya 194 10 aK gF]) ([yL]++[ya]) ({cS:=fI,tJ:=gF}:aR)from⟨_,_,rfl,⟨_,rfl,(Fz.row (e:=3) (sz:=1) (L:=(LI .i64)) (xs:=fI) rfl tn).mono G9⟩,⟨_,rfl,(Fz.row (e:=194) (sz:=10) (L:=aK) (xs:=gF) rfl tT).mono G9⟩⟩)) rfl rfl (by rw[← Pv];rfl) rfl rfl) ?_;refine F00 ?_;exact CE [0,2,1,3,4,5] (v21,yL,Qe,ya,Wh,b7) ⟨f22,tn,f29,tT,f37⟩ rf rf rf
   refine X2 rf rf (ta (hz:=(⟨by kernel_rfl⟩:kz Tryz.prog 82 fV))) (λb7 _ =>?_) ?_
   ·
    refine yE ?_ ?_
    ·refine RSn 1 rf rf ?_;refine RO rf rf (lG rfl aaW) rf ?_;exact xT
    refine kQ ?_;refine X1 rf rf (GR (sz:=10) (L:=aK) (xs:=([]:List bT)) (ys:=a0.tJ) (bytes:=24) f29 rfl rfl rfl (ld XH).1 (ld XH).2) λya tT=>?_;rw[← Xz]at tT;rw[← Xz];refine T0 ?_;obtain⟨Wh,Pv,f37⟩:∃cc,([yL]++[ya])=cc/\(cG).fz (Hs [nF yL 3 1 (LI .i64) fI,nF ya 194 10 aK gF]) cc g8:=⟨_,rfl,by rw[ahT];exact⟨_,_,rfl,⟨_,rfl,(Fz.row (e:=3) (sz:=1) (L:=(LI .i64)) (xs:=fI) rfl tn).mono G9⟩,⟨_,rfl,(Fz.row (e:=194) (sz:=10) (L:=aK) (xs:=gF) rfl tT).mono G9⟩⟩⟩;refine NV rf rf (s8 (cs:=Wh) rfl (by rw[← Pv];first|rfl|(have Vj:=(Fz.row (e:=3) (sz:=1) (L:=(LI .i64)) (xs:=fI) rfl tn).sl.cells;have Vk:=(Fz.row (e:=3) (sz:=1) (L:=(LI .i64)) (xs:=fI) rfl tn).sl.size;generalize yL=vz0 at Vj Vk ⊢;have ZR:=(Fz.row (e:=194) (sz:=10) (L:=aK) (xs:=gF) rfl tT).sl.cells;have ZS:=(Fz.row (e:=194) (sz:=10) (L:=aK) (xs:=gF) rfl tT).sl.size;generalize ya=vz1 at ZR ZS ⊢;simp[tE,cY,show∀k i,(Value.int k i).cells= #[Value.int k i]fromλ_ _ =>rfl,show∀q,(Value.bool q).cells= #[Value.bool q]fromλ_ =>rfl,show∀a,(Value.agg a).cells=a fromλ_ =>rfl,Vj,Vk,ZR,ZS];try rfl))) ?_;refine kQ ?_;refine X0 rf (Md (cs':=([yL]++[ya])) ([yL]++[ya]) (aY.id (L:=cG)) (v:=({cS:=fI,tJ:=gF}:aR)) (r:=(show(cG).fz (Hs []) fV iF from lH)) (rv:=(show(cG).fz (Hs [nF yL 3 1 (LI .i64) fI,nF ya 194 10 aK gF]) ([yL]++[ya]) ({cS:=fI,tJ:=gF}:aR)from⟨_,_,rfl,⟨_,rfl,(Fz.row (e:=3) (sz:=1) (L:=(LI .i64)) (xs:=fI) rfl tn).mono G9⟩,⟨_,rfl,(Fz.row (e:=194) (sz:=10) (L:=aK) (xs:=gF) rfl tT).mono G9⟩⟩)) rfl rfl (by rw[← Pv];rfl) rfl rfl) ?_;refine F00 ?_;exact CE [0,2,1,3,4,5] (v21,yL,Qe,ya,Wh,b7) ⟨f22,tn,f29,tT,f37⟩ rf rf rf
   exact acG
  refine X2 rf rf (ta (hz:=(⟨by kernel_rfl⟩:kz Tryz.prog 82 fV))) (λb7 _ =>?_) ?_
  ·
   refine yE ?_ ?_
   ·refine RSn 1 rf rf ?_;refine RO rf rf (lG rfl aaX) rf ?_;refine RSn 1 rf rf ?_;refine RO rf rf (lG rfl aaW) rf ?_;exact xT
   refine kQ ?_;refine X1 rf rf (GR (sz:=1) (L:=(LI .i64)) (xs:=([]:List Int)) (ys:=a0.cS) (bytes:=8) f22 rfl rfl rfl (ld Rv).1 (ld Rv).2) λyL tn=>?_;rw[← Rm]at tn;rw[← Rm];refine yE ?_ ?_
   ·refine RSn 1 rf rf ?_;refine RO rf rf (lG rfl aaW) rf ?_;exact xT
   refine kQ ?_;refine X1 rf rf (GR (sz:=10) (L:=aK) (xs:=([]:List bT)) (ys:=a0.tJ) (bytes:=24) f29 rfl rfl rfl (ld XH).1 (ld XH).2) λya tT=>?_;rw[← Xz]at tT;rw[← Xz];refine T0 ?_;obtain⟨Wh,Pv,f37⟩:∃cc,([yL]++[ya])=cc/\(cG).fz (Hs [nF yL 3 1 (LI .i64) fI,nF ya 194 10 aK gF]) cc g8:=⟨_,rfl,by rw[ahT];exact⟨_,_,rfl,⟨_,rfl,(Fz.row (e:=3) (sz:=1) (L:=(LI .i64)) (xs:=fI) rfl tn).mono G9⟩,⟨_,rfl,(Fz.row (e:=194) (sz:=10) (L:=aK) (xs:=gF) rfl tT).mono G9⟩⟩⟩;refine NV rf rf (s8 (cs:=Wh) rfl (by rw[← Pv];first|rfl|(have Vj:=(Fz.row (e:=3) (sz:=1) (L:=(LI .i64)) (xs:=fI) rfl tn).sl.cells;have Vk:=(Fz.row (e:=3) (sz:=1) (L:=(LI .i64)) (xs:=fI) rfl tn).sl.size;generalize yL=vz0 at Vj Vk ⊢;have ZR:=(Fz.row (e:=194) (sz:=10) (L:=aK) (xs:=gF) rfl tT).sl.cells;have ZS:=(Fz.row (e:=194) (sz:=10) (L:=aK) (xs:=gF) rfl tT).sl.size;generalize ya=vz1 at ZR ZS ⊢;simp[tE,cY,show∀k i,(Value.int k i).cells= #[Value.int k i]fromλ_ _ =>rfl,show∀q,(Value.bool q).cells= #[Value.bool q]fromλ_ =>rfl,show∀a,(Value.agg a).cells=a fromλ_ =>rfl,Vj,Vk,ZR,ZS];try rfl))) ?_;refine kQ ?_;refine X0 rf (Md (cs':=([yL]++[ya])) ([yL]++[ya]) (aY.id (L:=cG)) (v:=({cS:=fI,tJ:=gF}:aR)) (r:=(show(cG).fz (Hs []) fV iF from lH)) (rv:=(show(cG).fz (Hs [nF yL 3 1 (LI .i64) fI,nF ya 194 10 aK gF]) ([yL]++[ya]) ({cS:=fI,tJ:=gF}:aR)from⟨_,_,rfl,⟨_,rfl,(Fz.row (e:=3) (sz:=1) (L:=(LI .i64)) (xs:=fI) rfl tn).mono G9⟩,⟨_,rfl,(Fz.row (e:=194) (sz:=10) (L:=aK) (xs:=gF) rfl tT).mono G9⟩⟩)) rfl rfl (by rw[← Pv];rfl) rfl rfl) ?_;refine F00 ?_;exact CE [0,2,1,3,4,5] (v21,yL,Qe,ya,Wh,b7) ⟨f22,tn,f29,tT,f37⟩ rf rf rf
  exact acG
 ·
  rintro⟨v21,yL,Qe,ya,Wh,b7⟩ ⟨f22,tn,f29,tT,f37⟩;obtain⟨qz,an9,h⟩:=vG h;refine SC 2 rf ?_;refine cO rfl (ud rfl (dI.len _ f0)) ?_;refine cO rfl (dK rfl) ?_;refine CV (JY (R:=R) hg (mo f0) an9) rf rf ?_;refine SL 10 rf ?_;refine Qn h rf (λhc h=>?_) λhc h=>?_
  ·obtain⟨T4,h⟩:=rH h;obtain⟨l6,TR,h⟩:=uS h;obtain⟨o9,ahR,h⟩:=uS h;refine SC 3 rf ?_;refine cO rfl (lG rfl rfl) ?_;refine cO rfl (dK rfl) ?_;refine zA rfl (IB (LI .i64) a1 rfl rfl rfl rfl (by decide) (by decide)) (λb24 _ =>?_);refine zA rfl (GU (sz:=1) (L:=(LI .i64)) (xs:=fI) (y:=a1) (bytes:=8) rfl rfl rfl (ld T4).1 (ld T4).2) (λYj XB=>?_);rw[← TR]at XB;rw[← TR];refine cO rfl (Dj rfl) ?_;refine W0 (Md (cs':=([Yj]++[ya])) ([Yj]) yF (v:=l6) (r:=(show(cG).fz (λ_ =>False) ([yL]++[ya]) ({cS:=fI,tJ:=gF}:aR)from⟨_,_,rfl,⟨_,rfl,⟨tn,λ_ h=>h.elim⟩⟩,⟨_,rfl,(Fz.row (e:=194) (sz:=10) (L:=aK) (xs:=gF) rfl tT).mono (λ_ h=>h.elim)⟩⟩)) (rv:=(⟨_,rfl,(Fz.row (e:=3) (sz:=1) (L:=(LI .i64)) (xs:=l6) rfl XB)⟩:((WC (LI .i64))).fz (Hs [nF Yj 3 1 (LI .i64) l6]) ([Yj]) l6)) rfl rfl (Fz.row (e:=3) (sz:=1) (L:=(LI .i64)) (xs:=l6) rfl XB).sl.cells rfl rfl) ?_;obtain⟨alK,h⟩:=rH h;obtain⟨mG,alk,h⟩:=uS h;obtain⟨BO,apa,h⟩:=uS h;refine SL 5 rf ?_;refine cO rfl (lG rfl rfl) ?_;refine cO rfl (nH (M:=aK) (aY.id (L:=aK)) rfl rfl) ?_;refine zA rfl (IB aK a2 rfl rfl rfl rfl (by decide) (by decide)) (λb30 _ =>?_);refine zA rfl (GU (sz:=10) (L:=aK) (xs:=gF) (y:=a2) (bytes:=24) rfl rfl rfl (ld alK).1 (ld alK).2) (λv46 aaZ=>?_);rw[← alk]at aaZ;rw[← alk];refine cO rfl (Dj rfl) ?_;refine W0 (Md (cs':=([Yj]++[v46])) ([v46]) zE (v:=mG) (r:=(show(cG).fz (λ_ =>False) ([Yj]++[ya]) ({({cS:=fI,tJ:=gF}:aR)with cS:=l6})from⟨_,_,rfl,⟨_,rfl,(Fz.row (e:=3) (sz:=1) (L:=(LI .i64)) (xs:=l6) rfl XB).mono (λ_ h=>h.elim)⟩,⟨_,rfl,⟨tT,λ_ h=>h.elim⟩⟩⟩)) (rv:=(⟨_,rfl,(Fz.row (e:=194) (sz:=10) (L:=aK) (xs:=mG) rfl aaZ)⟩:((WC aK)).fz (Hs [nF v46 194 10 aK mG]) ([v46]) mG)) rfl rfl (Fz.row (e:=194) (sz:=10) (L:=aK) (xs:=mG) rfl aaZ).sl.cells rfl rfl) ?_;obtain⟨yH,an7,h⟩:=uS h;refine SL 4 rf ?_;refine cO rfl (ud rfl (dI.len _ (show(cG).fz (Hs [nF Yj 3 1 (LI .i64) l6,nF v46 194 10 aK mG]) ([Yj]++[v46]) ({{({cS:=fI,tJ:=gF}:aR)with cS:=l6}with tJ:=mG})from⟨_,_,rfl,⟨_,rfl,(Fz.row (e:=3) (sz:=1) (L:=(LI .i64)) (xs:=l6) rfl XB).mono G9⟩,⟨_,rfl,(Fz.row (e:=194) (sz:=10) (L:=aK) (xs:=mG) rfl aaZ).mono G9⟩⟩))) ?_;refine ST (C:=(Hs [nF Yj 3 1 (LI .i64) l6,nF v46 194 10 aK mG])) yH (aY.id (L:=cG)) lH (mo (show(cG).fz (Hs [nF Yj 3 1 (LI .i64) l6,nF v46 194 10 aK mG]) ([Yj]++[v46]) ({{({cS:=fI,tJ:=gF}:aR)with cS:=l6}with tJ:=mG})from⟨_,_,rfl,⟨_,rfl,(Fz.row (e:=3) (sz:=1) (L:=(LI .i64)) (xs:=l6) rfl XB).mono G9⟩,⟨_,rfl,(Fz.row (e:=194) (sz:=10) (L:=aK) (xs:=mG) rfl aaZ).mono G9⟩⟩)) an7 rf rf rf rf λc50 f51=>?_;refine SL 4 rf ?_;have h:=sj h;subst h;exact RBu (R:=[nF v46 194 10 aK mG,nF Yj 3 1 (LI .i64) l6]) [3,4] rf rf (ra rf (dI.len _ f51) rn) ⟨_,rfl,(mo f51)⟩
  ·
   obtain⟨aeu,h⟩:=rH h;obtain⟨D5,alj,h⟩:=uS h;refine SC 5 rf ?_;refine cO rfl (lG rfl rfl) ?_;refine cO rfl (dK rfl) ?_;refine cO rfl (nH (M:=aK) (aY.id (L:=aK)) rfl rfl) ?_;refine cO rfl (AO (m:=(Int.toNat qz)) (Fz.row (e:=194) (sz:=10) (L:=aK) (xs:=gF) rfl tT) rfl rfl rfl (dH aeu).1 (dH aeu).2) ?_;refine W0 (UJ (sz:=10) (M:=aK) (Int.toNat qz) (aY.idx (L:=aK) (m:=(gF.length)) (k:=10) ((Int.toNat qz)) (dH aeu).2 rfl) a2 D5 alj rfl rfl rfl rfl (dH aeu).2 rfl rfl) ?_;have alw:wI ya D5.length:=by rw[alj,List.length_set];exact tT
   obtain⟨WH,an6,h⟩:=uS h;refine SL 4 rf ?_;refine cO rfl (ud rfl (dI.len _ (show(cG).fz (Hs [nF yL 3 1 (LI .i64) fI,nF ya 194 10 aK D5]) ([yL]++[ya]) ({({cS:=fI,tJ:=gF}:aR)with tJ:=D5})from⟨_,_,rfl,⟨_,rfl,(Fz.row (e:=3) (sz:=1) (L:=(LI .i64)) (xs:=fI) rfl tn).mono G9⟩,⟨_,rfl,(Fz.row (e:=194) (sz:=10) (L:=aK) (xs:=D5) rfl alw).mono G9⟩⟩))) ?_;refine ST (C:=(Hs [nF yL 3 1 (LI .i64) fI,nF ya 194 10 aK D5])) WH (aY.id (L:=cG)) lH (mo (show(cG).fz (Hs [nF yL 3 1 (LI .i64) fI,nF ya 194 10 aK D5]) ([yL]++[ya]) ({({cS:=fI,tJ:=gF}:aR)with tJ:=D5})from⟨_,_,rfl,⟨_,rfl,(Fz.row (e:=3) (sz:=1) (L:=(LI .i64)) (xs:=fI) rfl tn).mono G9⟩,⟨_,rfl,(Fz.row (e:=194) (sz:=10) (L:=aK) (xs:=D5) rfl alw).mono G9⟩⟩)) an6 rf rf rf rf λc57 f58=>?_;refine SL 3 rf ?_;have h:=sj h;subst h;exact RBu (R:=[nF ya 194 10 aK D5,nF yL 3 1 (LI .i64) fI]) [1,2] rf rf (ra rf (dI.len _ f58) rn) ⟨_,rfl,(mo f58)⟩
end H
def yd(n:Nat):Ct Tryz.prog sg:=XV (G:=sg) ⟨104,[], .cons (.v (.st 23)) (.cons (.v (.int .i64)) (.cons (.v (.st 22)) .nil)), .cons (.v (.st 23)) .nil,[], .nil,[],[]⟩ (λx=>kX n x.1 x.2.1 x.2.2.1) (λz=>(z,())) (iF) (by kernel_rfl) (VX (λ_ =>rfl) (λ_ =>rfl) rfl λρ R x z vs hg hz hv=>by
 obtain⟨cs,r1,e_1,⟨c1,c2,e0,h0,h1⟩,v1⟩:=HJ hv rfl;obtain⟨r2,e_2,v2⟩:=OP v1;obtain⟨cr,r3,e_3,h2,v3⟩:=HJ v2 rfl;have e_0:r3=[]:=v3;subst e_0 e_3 e_2 e_1;obtain rfl:=(bW.iff (L:=aK)).1 h2;exact⟨_,H.GD hg ⟨c1,c2,e0,ahv h0,ahv h1⟩ hz,λJ v ⟨u,e,d1,d2,e1,k0,k1⟩=>by
  subst e;exact⟨_,_,rfl,Il (t:= .st 23) ⟨d1,d2,e1,Xs k0,Xs k1⟩ rfl,rfl⟩⟩)
def xw(n:Nat)(a0:ai)(a1:Int):Option Int:=bd (bJ n a0 a1) λaW=>cn ((!aW)) (some 4) (bd (iX n a0 a1) λbS=>cn ((bS !=a1)) (some 12) (some 0))
def FG(n:Nat):CT:=cV (tW n [] [cz n,sy n]) (gy 103 [.s 21, .i] [.i]) (a2 (xw n)) u1 m1
def dM(n:Nat)(a0:aR)(a1:ai)(a2:Int)(a3:Int)(a4:Int):Option (aR×Int):=bd (xw n a1 a2) λaW=>lt (λ(bS:Int)=>cn ((bS !=0)) (some (a0,bS)) (lt ({dx:=a4,gj:=0,kR:=(λ_ =>false)}:bT) λeC=>lt (λ(fL:bT)=>lt (λ(eE:bT)=>bd (kX n a0 a2 eE) λg8=>some (g8,0)) λj32=>cn ((a4==3)) (gu (bM a3 8)<|lt ({fL with kR:=(dy fL.kR (Int.toNat a3) true)}:bT) λeD=>j32 eD) (j32 fL)) λj29=>cn ((a4==1)) (lt ({eC with gj:=a3}:bT) λdL=>j29 dL) (j29 eC))) λj23=>cn ((((aW==0)&&(a4 !=2))&&(decide (a3<0)||decide (7<a3)))) (j23 2) (j23 aW)
def qk(n:Nat):CT:=cV (tW n [(8, .join [(.slot 12,(.v (.int .i64)))] []),(18, .join [(.via 13, .box 194 (.v (.st 22)))] []),(22, .join [(.via 13, .box 194 (.v (.st 22)))] [])] [FG n,yd n]) (gy 60 [.s 23, .s 21, .i, .i, .i] [.t [.s 23, .i]]) (λx=>dM n x.1 x.2.1 x.2.2.1 x.2.2.2.1 x.2.2.2.2.1) u2 m2
def jq(n:Nat)(a0:aR)(a1:ai)(a2:Int)(a3:Int)(a4:Bool):Option (aR×Int×Int):=bd (xw n a1 a2) λaW=>bd (iD n a0 a1 a2) λbS=>lt (λ(gG:Int)=>lt (λ(fI:Int)=>lt (λ(eC:Int)=>cn ((eC !=0)) (some (a0,0,eC)) (gu (bM a3 8)<|lt ({bS with kR:=(dy bS.kR (Int.toNat a3) a4)}:bT) λeD=>cJ (λk41 (iU:Int) (qz:Int)=>cn (decide (qz<8)) (gu (bM qz 8)<|cn ((eD.kR (Int.toNat qz))) (k41 (wr .i64 (iU+1)) (wr .i64 (qz+1))) (k41 iU (wr .i64 (qz+1)))) (bd (kX n a0 a2 eD) λo9=>some (o9,iU,0))) n 0 0)) λj28=>gu (!((fI==0)==true)||bM a3 8)<|cn (((fI==0)&&((bS.kR (Int.toNat a3))==a4))) (cn (a4) (j28 7) (j28 5)) (j28 fI)) λj26=>cn (((gG==0)&&(decide (a3<0)||decide (7<a3)))) (j26 2) (j26 gG)) λj24=>cn (((aW==0)&&(bS.dx !=3))) (j24 12) (j24 aW)
def sx(n:Nat):CT:=cV (tW n [(10, .join [(.slot 13,(.v (.int .i64)))] []),(14, .join [(.slot 13,(.v (.int .i64)))] []),(22, .join [(.slot 13,(.v (.int .i64)))] []),(33, .loop [(.slot 15,(.v (.int .i64))),(.slot 16,(.v (.int .i64)))])] [FG n,kS n,yd n]) (gy 67 [.s 23, .s 21, .i, .i, .b] [.t [.s 23, .i, .i]]) (λx=>jq n x.1 x.2.1 x.2.2.1 x.2.2.2.1 x.2.2.2.2.1) u3 m3
def jJ(n:Nat)(a0:aR)(a1:ai)(a2:Int)(a3:Bool):Option (List Int):=bd (kY n a1) λaW=>cJ (λGi (eE:(List Int)) (eD:Int)=>cn (decide (eD<(aW.length:Int))) (gu (bM eD aW.length)<|bd (iD n a0 a1 (aW.getD (Int.toNat eD) default)) λqf=>gu (!((((qf.dx==3)&&decide (0<=a2))&&decide (a2<8))==true)||bM (lY .i64 a2 7) 8)<|gu (bM eD aW.length)<|bd (iX n a1 (aW.getD (Int.toNat eD) default)) λvK=>gu (bM eD aW.length)<|cn (((vK==(aW.getD (Int.toNat eD) default))&&(((!a3)&&((qf.dx==1)&&(qf.gj==a2)))||(a3&&((((qf.dx==3)&&decide (0<=a2))&&decide (a2<8))&&(qf.kR (Int.toNat (lY .i64 a2 7)))))))) (gu (bM eD aW.length)<|gu (gO eE.length 1 8)<|lt (eE++([(aW.getD (Int.toNat eD) default)]):List Int) λvJ=>Gi vJ (wr .i64 (eD+1))) (Gi eE (wr .i64 (eD+1)))) (some eE)) n ([]) 0
def Ey(n:Nat):CT:=cV (tW n [(9, .loop [(.slot 9,(.row 3 1 (.int .i64))),(.slot 11,(.v (.int .i64)))])] [pb n,kS n,sy n]) ⟨114,[], .cons (.v (.st 23)) (.cons (.v (.st 21)) (.cons (.v (.int .i64)) (.cons (.v .bool) .nil))), .cons (.row 3 1 (.int .i64)) .nil,[none], .nil,[],[]⟩ (a4 (jJ n)) u1 m1
def Aa(n:Nat)(a0:Int):Option Int:=gu (decide (0<=(lY .i64 a0 7)))<|some (FX .u8 1 (lY .i64 a0 7))
def Hu(n:Nat):CT:=cV (tW n [] []) (gy 211 [.i] [.v (.int .u8)]) (a1 (Aa n)) u1 m1
def rm(n:Nat)(a0:cK)(a1:Int):Option Bool:=cl ((((a0.dx==3)&&decide (0<=a1))&&decide (a1<8))==true) (Aa n a1) default λaW=>some ((((a0.dx==3)&&decide (0<=a1))&&decide (a1<8))&&((lY .u8 a0.dU aW)!=0))
def FK(n:Nat):CT:=cV (tW n [] [Hu n]) ⟨210,[(3, .v (.int .i64))], .cons (.v (.st 9)) (.cons (.cW 0) .nil), .cons (.v .bool) .nil,[], .nil,[],[]⟩ (λx=>rm n x.2.1 x.1) u1 m1
def jy(n:Nat)(a0:bN)(a1:av)(ai1:Int):Option (List Int):=bd (l9 n a1.bj) λaW=>cJ (λGi (eE:(List Int)) (eD:Int)=>cn (decide (eD<(aW.length:Int))) (gu (bM eD aW.length)<|bd (ju n a1 (aW.getD (Int.toNat eD) default)) λqf=>cl ((qf==(aW.getD (Int.toNat eD) default))==true) (iP n a0 a1 (aW.getD (Int.toNat eD) default)) default λl6=>cl ((qf==(aW.getD (Int.toNat eD) default))==true) (rm n l6 ai1) default λgR=>cn (((qf==(aW.getD (Int.toNat eD) default))&&gR)) (gu (gO eE.length 1 4)<|lt (eE++([(aW.getD (Int.toNat eD) default)]):List Int) λo9=>Gi o9 (wr .i64 (eD+1))) (Gi eE (wr .i64 (eD+1)))) (some eE)) n ([]) 0
def rZ(n:Nat):CT:=cV (tW n [(7, .loop [(.slot 7,(.row 32 1 (.int .u32))),(.slot 14,(.v (.int .i64)))])] [qh n,lJ n,lI n,FK n]) ⟨209,[(3, .v (.int .i64))], .cons (.v (.st 11)) (.cons (.v (.st 8)) (.cons (.fn (.func 210) .nil (.cons (.cW 0) .nil)) .nil)), .cons (.v (.sl (.int .u32))) .nil,[], .nil,[],[]⟩ (λx=>jy n x.2.1 x.2.2.1 x.1) u1 m1
def qN(n:Nat)(a0:bN)(a1:av)(a2:Int):Option (List Int):=bd (jy n a0 a1 a2) λaW=>some aW
def JF(n:Nat):CT:=cV (tW n [] [rZ n]) (gy 150 [.s 11, .s 8, .i] [.v (.sl (.int .u32))]) (a3 (qN n)) u1 m1
def jW(n:Nat)(a0:bN)(a1:av)(a2:Int)(a3:Int)(a4:cK):Option (bN×Int):=bd (aU n a1.bj.og a2) λaW=>cn ((!aW)) (some (a0,4)) (bd (ju n a1 a2) λbS=>cn ((bS !=a2)) (some (a0,12)) (cn ((decide (a3<0)||decide (8<=a3))) (some (a0,2)) (bd (bY n a2) λgG=>lt ({root:=a2,own:=a4}:pP) λiH=>gu (bM gG.1 32)<|lt ({a0 with aI:=(dy a0.aI (Int.toNat gG.1) iH)}:bN) λfR=>some (fR,0))))
def sB(n:Nat):CT:=cV (tW n [] [bH n,lJ n,dA n]) (gy 228 [.s 11, .s 8, .w, .i, .s 9] [.t [.s 11, .i]]) (λx=>jW n x.1 x.2.1 x.2.2.1 x.2.2.2.1 x.2.2.2.2.1) u2 m2
def rq(n:Nat)(a0:bN)(a1:av)(a2:Int)(a3:Int):Option (bN×Int):=bd (Aa n a3) λaW=>lt ({dx:=3,gj:=0,dU:=aW}:cK) λbS=>bd (jW n a0 a1 a2 a3 bS) λgG=>some (gG.1,gG.2)
def FM(n:Nat):CT:=cV (tW n [] [Hu n,sB n]) (gy 194 [.s 11, .s 8, .w, .i] [.t [.s 11, .i]]) (a4 (rq n)) u2 m2
def jX(n:Nat)(a0:bN)(a1:av)(a2:Int)(a3:Int)(a4:Bool):Option (bN×Int×Int):=bd (iP n a0 a1 a2) λaW=>bd (jW n a0 a1 a2 a3 aW) λbS=>bd (Aa n a3) λgG=>cl ((bS.2==4)==false) (aU n a1.bj.og a2) default λiH=>cl (((bS.2==4)==false)&&(iH==true)) (ju n a1 a2) default λfI=>cn (((bS.2==4)||(iH&&(fI !=a2)))) (some (a0,0,bS.2)) (cn ((aW.dx !=3)) (some (a0,0,12)) (cn ((bS.2!=0)) (some (a0,0,bS.2)) (cn ((((lY .u8 aW.dU gG)!=0)&&a4)) (some (a0,0,7)) (cn (((!((lY .u8 aW.dU gG)!=0))&&(!a4))) (some (a0,0,5)) (bd (Aa n a3) λfR=>lt ({aW with dU:=JC .u8 aW.dU fR}:cK) λeC=>bd (jW n bS.1 a1 a2 a3 eC) λfL=>some (fL.1,eC.dU,fL.2))))))
def A6(n:Nat):CT:=cV (tW n [] [lI n,sB n,Hu n,bH n,lJ n]) (gy 229 [.s 11, .s 8, .w, .i, .b] [.t [.s 11, .v (.int .u8), .i]]) (λx=>jX n x.1 x.2.1 x.2.2.1 x.2.2.2.1 x.2.2.2.2.1) u3 m3
def qM(n:Nat)(a0:bN)(a1:av)(a2:Int)(a3:Int):Option (bN×Int):=bd (jX n a0 a1 a2 a3 true) λaW=>some (aW.1,aW.2.2)
def A7(n:Nat):CT:=cV (tW n [] [A6 n]) (gy 197 [.s 11, .s 8, .w, .i] [.t [.s 11, .i]]) (a4 (qM n)) u2 m2
def wB(n:Nat)(a0:bN)(a1:av)(a2:Int):Option (bN×Int):=lt ({dx:=2,gj:=0,dU:=0}:cK) λaW=>bd (jW n a0 a1 a2 0 aW) λbS=>some (bS.1,bS.2)
def KQ(n:Nat):CT:=cV (tW n [] [sB n]) (gy 201 [.s 11, .s 8, .w] [.t [.s 11, .i]]) (a3 (wB n)) u2 m2
def tN(n:Nat)(a0:cK)(a1:Int):Option Bool:=some ((a0.dx==1)&&((wr .i64 a0.gj)==a1))
def EA(n:Nat):CT:=cV (tW n [] []) ⟨240,[(3, .v (.int .i64))], .cons (.v (.st 9)) (.cons (.cW 0) .nil), .cons (.v .bool) .nil,[], .nil,[],[]⟩ (λx=>tN n x.2.1 x.1) u1 m1
def iZ(n:Nat)(a0:bN)(a1:av)(ai1:Int):Option (List Int):=bd (l9 n a1.bj) λaW=>cJ (λGi (eE:(List Int)) (eD:Int)=>cn (decide (eD<(aW.length:Int))) (gu (bM eD aW.length)<|bd (ju n a1 (aW.getD (Int.toNat eD) default)) λqf=>cl ((qf==(aW.getD (Int.toNat eD) default))==true) (iP n a0 a1 (aW.getD (Int.toNat eD) default)) default λl6=>cl ((qf==(aW.getD (Int.toNat eD) default))==true) (tN n l6 ai1) default λgR=>cn (((qf==(aW.getD (Int.toNat eD) default))&&gR)) (gu (gO eE.length 1 4)<|lt (eE++([(aW.getD (Int.toNat eD) default)]):List Int) λo9=>Gi o9 (wr .i64 (eD+1))) (Gi eE (wr .i64 (eD+1)))) (some eE)) n ([]) 0
def rB(n:Nat):CT:=cV (tW n [(7, .loop [(.slot 7,(.row 32 1 (.int .u32))),(.slot 14,(.v (.int .i64)))])] [qh n,lJ n,lI n,EA n]) ⟨209,[(3, .v (.int .i64))], .cons (.v (.st 11)) (.cons (.v (.st 8)) (.cons (.fn (.func 240) .nil (.cons (.cW 0) .nil)) .nil)), .cons (.v (.sl (.int .u32))) .nil,[], .nil,[],[]⟩ (λx=>iZ n x.2.1 x.2.2.1 x.1) u1 m1
def pQ(n:Nat)(a0:bN)(a1:av)(a2:Int):Option (List Int):=bd (iZ n a0 a1 a2) λaW=>some aW
def Hv(n:Nat):CT:=cV (tW n [] [rB n]) (gy 208 [.s 11, .s 8, .i] [.v (.sl (.int .u32))]) (a3 (pQ n)) u1 m1
def oR(n:Nat)(a0:bN)(a1:av)(a2:Int)(a3:Int):Option (bN×Int):=lt ({dx:=1,gj:=wr .u8 a3,dU:=0}:cK) λaW=>bd (jW n a0 a1 a2 a3 aW) λbS=>some (bS.1,bS.2)
def JG(n:Nat):CT:=cV (tW n [] [sB n]) (gy 216 [.s 11, .s 8, .w, .i] [.t [.s 11, .i]]) (a4 (oR n)) u2 m2
def nk(n:Nat)(a0:Int):Option Int:=gu (bM a0 256)<|some (wr .i64 (Lib.pop8 a0))
def zR(n:Nat):CT:=cV (tW n [] []) (gy 254 [.v (.int .u8)] [.i]) (a1 (nk n)) u1 m1
def uo(n:Nat)(a0:bN)(a1:av)(a2:Int)(a3:Int):Option (bN×Int×Int):=bd (jX n a0 a1 a2 a3 false) λaW=>bd (nk n aW.2.1) λbS=>some (aW.1,bS,aW.2.2)
def JH(n:Nat):CT:=cV (tW n [] [A6 n,zR n]) (gy 230 [.s 11, .s 8, .w, .i] [.t [.s 11, .i, .i]]) (a4 (uo n)) u3 m3
end
end Go.Proofs.Z
namespace Go.Proofs.Z
open Go Go.Bw
def fP(i g:Int):Int:=i+256*g+1
theorem Gl{n:Nat}{i g:Int}(h0:0<=i)(h1:i<32)(g0:0<=g)(g1:g<=8388607):rT n i g=some (fP i g):=by unfold rT fP;rw[Zt (b:=8) 8 rfl (by decide),Fy (x:=g*_) (by omega) (by omega),Fy (x:=i) (by omega) (by omega),Fy (x:=g*_ +i) (by omega) (by omega),Fy (by omega) (by omega)];congr 1;omega
theorem rN{n:Nat}{w:aD}{i:Int}(h0:0<=i)(h1:i<32)(g0:0<=w.gE i.toNat)(g1:w.gE i.toNat<=8388607):eM n w i=some (fP i (w.gE i.toNat)):=by unfold eM fP;rw[au (bG h0 (by omega)),aL (x:=256*_) (by omega) (by omega),aL (x:=i+_) (by omega) (by omega),aL (by omega) (by omega)]
def Qg(h:Int):Bool:=decide (1<=h%256/\h%256<=32/\h/256<=8388607)
def mH(h:Int):Int:=if Qg h then h%256-1 else 0
theorem fN(h:Int):0<=mH h/\mH h<32:=by
 unfold mH Qg;split
 ·rename_i h1;simp at h1;omega
 ·omega
theorem qm{n:Nat}{h:Int}(h0:0<=h)(h1:h<4294967296):bY n h=some (mH h,Qg h):=by
 unfold bY;have e1:lY .u32 h 255=h%256:=ab6 8 h0 (by simpa[IntKind.up,IntKind.signed,IntKind.bits]using h1) rfl (by decide);have e2:FW .u32 h 8=h/256:=QG 8 rfl (by decide);rw[e1,e2,aL (x:=h%256) (by omega) (by omega),aL (x:=h%256-1) (by omega) (by omega)];by_cases hb:Qg h=true
 ·have hb':=hb
  simp only[Qg,decide_eq_true_eq]at hb';rw[ae (by simp;omega)];simp[mH,hb]
 ·have hb':=hb
  simp only[Qg,decide_eq_true_eq]at hb';rw[ak (by simp;omega)];simp[mH,hb]
structure RB(b:bn)(w:aD):Prop where
 gen:∀i,i<32->(b.aI i).gen=w.gE i
 iss:∀i,i<32->(b.aI i).ox=(w.Is i==1)
 ret:∀i,i<32->(b.aI i).mZ=(w.Is i==2)
 kin:∀i,i<32->w.Is i=0\/w.Is i=1\/w.Is i=2
 oh:∀i,i<32->0<=w.gE i/\w.gE i<=8388607
theorem VQ{n:Nat}{b:bn}{w:aD}(r:RB b w){h:Int}(h0:0<=h)(h1:h<4294967296):
  aU n b h=some (Qg h&&(w.Is (mH h).toNat==1)&&(w.gE (mH h).toNat==h/256)):=by
 unfold aU;obtain⟨hs0,hs1⟩:=fN h;rw[ah (qm h0 h1),au (by rw[bG hs0 (by simpa using hs1)];simp)];simp only[lt];have hi:(mH h).toNat<32:=by omega
 have e2:FW .u32 h 8=h/256:=QG 8 rfl (by decide);rw[e2];simp only[xX,r.gen _ hi,r.iss _ hi,r.ret _ hi];have hk:=r.kin _ hi;congr 1;rcases hk with hk|hk|hk<;>simp[hk,Bool.and_comm,Bool.and_left_comm,Bool.and_assoc]
theorem H9{h:Int}(h0:0<=h)(hb:Qg h=true):fP (mH h) (h/256)=h:=by have hb':=hb;simp only[Qg,decide_eq_true_eq]at hb';simp only[mH,hb,if_true,fP];omega
theorem o6{i g:Int}(h0:0<=i)(h1:i<32)(g0:0<=g)(g1:g<=8388607):Qg (fP i g)=true/\mH (fP i g)=i/\fP i g/256=g/\0<fP i g/\fP i g<4294967296:=by
 have e:Qg (fP i g)=true:=apw (by unfold fP;omega);refine⟨e,?_,?_,?_,?_⟩
 ·unfold mH;rw[aps e];unfold fP;omega
 all_goals (unfold fP;omega)
def aM(w:aD)(h:Int):Bool:=Qg h&&(w.Is (mH h).toNat==1)&&(w.gE (mH h).toNat==h/256)
theorem dk{n:Nat}(hn:40<=n){b:bn}{w:aD}(r:RB b w){h:Int}(h0:0<=h):br n w h=some (if aM w h then mH h else -1):=by
 unfold br;refine fK (λx=>0<=x/\x<=32/\(aM w h=true->x<=mH h)) (λx=>(32-x).toNat) (λo=>o=some (if aM w h then mH h else -1)) ?_ n 0 ⟨by omega,by omega,λ_ =>(fN h).1⟩ (by omega);rintro k x ⟨x0,x1,hx⟩ ih;obtain⟨s0,s1⟩:=fN h;by_cases hc:x<32
 ·rw[ak (by simpa using hc),au (bG x0 (by omega))]
  have hg:=r.oh x.toNat (by omega);rw[ck (rN x0 hc hg.1 hg.2)];by_cases he:(w.Is x.toNat==1&&fP x (w.gE x.toNat)==h)=true
  ·have he':=he
   simp only[apv,beq_iff_eq]at he';obtain⟨e1,e2⟩:=he';rw[ak (by simp[e1,e2])];obtain⟨q1,q2,q3,q4,q5⟩:=o6 x0 hc hg.1 hg.2;rw[e2]at q1 q2 q3;have:aM w h=true:=by simp[aM,q1,q2,q3,e1]
   simp[this,q2]
  ·rw[ae (by
    cases h1:(w.Is x.toNat==1)with
    |false=>simp
    |true=>simpa[h1]using he),aL (by omega) (by omega)]
   refine ih _ ⟨by omega,by omega,λhg'=>?_⟩ (by omega);have h2:=hx hg';have:x≠mH h:=by rintro rfl;refine he ?_;simp only[aM,apv,beq_iff_eq]at hg';simp[hg'.1.2,hg'.2,H9 h0 hg'.1.1]
   omega
 ·rw[ae (by simpa using hc)]
  have:aM w h=false:=by
   cases hgw:aM w h with
   |false=>rfl
   |true=>have:=hx hgw;omega
  simp[this]
def v5(w:aD)(h:Int):aD:=if w.gE (mH h).toNat=8388607 then{w with Is:=dy w.Is (mH h).toNat 2}else{gE:=dy w.gE (mH h).toNat (w.gE (mH h).toNat+1),Is:=dy w.Is (mH h).toNat 0}
theorem OD{α:Type}(G:Nat->α)(i:Nat)(a b:α):dy (dy G i a) i b=dy G i b:=by funext q;unfold dy;split<;>rfl
theorem Tm{n:Nat}(hn:40<=n){b:bn}{w:aD}(r:RB b w){h:Int}(h0:0<=h):kZ n w h=some (if aM w h then v5 w h else w,aM w h):=by
 unfold kZ;obtain⟨s0,s1⟩:=fN h;rw[ah (dk hn r h0)];cases hg:aM w h with
 |false=>rfl
 |true=>
  have hr:=r.oh (mH h).toNat (by omega);simp only[if_true];rw[ae (by simpa using s0),au (bG s0 (by simpa using s1))];simp only[lt,au (bG s0 (show mH h<((32:Nat):Int)by simpa using s1))];unfold v5;by_cases hl:w.gE (mH h).toNat=8388607
  ·rw[ak (by simpa using hl)];simp[hl,OD]
  ·rw[ae (by simpa using hl),aL (by omega) (by omega)];simp[hl]
theorem UW{n:Nat}{b:bn}{w:aD}(r:RB b w){h:Int}(h0:0<=h)(h1:h<4294967296):
  ∃b',iQ n b h=some (b',aM w h)/\RB b' (if aM w h then v5 w h else w):=by
 unfold iQ;obtain⟨s0,s1⟩:=fN h;have hi:(mH h).toNat<32:=by omega
 rw[ah (VQ r h0 h1)];show∃b',cn (!aM w h) _ _ =_ /\_;cases hg:aM w h with
 |false=>exact⟨b,rfl,r⟩
 |true=>
  rw[ae (b:= !true) rfl,ah (qm h0 h1),au (bG s0 (by simpa using s1))];simp only[lt];have aoq:=r.gen _ hi;have hr:=r.oh _ hi;have aop:w.Is (mH h).toNat=1:=by simp only[aM,apv,beq_iff_eq]at hg;exact hg.1.2
  have apf:(b.aI (mH h).toNat).mZ=false:=by rw[r.ret _ hi,aop];rfl
  simp only[pI,aoq,OD];unfold v5;by_cases hl:w.gE (mH h).toNat=8388607
  ·rw[ak (by simpa using hl)]
   refine⟨_,rfl,?_⟩;simp only[if_true,hl];refine⟨?_,?_,?_,?_,?_⟩<;>intro i Yt<;>by_cases e:i=(mH h).toNat
   all_goals (try subst e)
   all_goals simp[bK, *,r.gen,r.iss,r.ret,r.kin,r.oh]
   all_goals (first|exact(r.kin i Yt)|exact r.oh i Yt)
  ·rw[ae (by simpa using hl),Fy (by omega) (by omega)]
   refine⟨_,rfl,?_⟩;simp only[if_true,apt hl];refine⟨?_,?_,?_,?_,?_⟩<;>intro i Yt<;>by_cases e:i=(mH h).toNat
   all_goals (try subst e)
   all_goals simp[bK, *,r.gen,r.iss,r.ret,r.kin,r.oh]
   all_goals (first|exact(r.kin i Yt)|exact r.oh i Yt|omega)
def CZ(w:aD)(f:Nat):Prop:=f<=32/\(∀j,j<f->w.Is j≠0)/\(f<32->w.Is f=0)
theorem LM(w:aD):∃f,CZ w f:=by
 have key:∀k,k<=32->(∃f,CZ w f)\/(∀j,j<k->w.Is j≠0):=by
  intro k
  induction k with
  |zero=>intro _;exact .inr (λj hj=>absurd hj (Nat.not_lt_zero _))
  |succ k ih=>
   intro hk;rcases ih (by omega)with h|h
   ·exact .inl h
   ·by_cases e:w.Is k=0
    ·exact .inl ⟨k,by omega,h,λ_ =>e⟩
    ·refine .inr (λj hj=>?_)
     by_cases e2:j=k
     ·subst e2;exact e
     ·exact h j (by omega)
 rcases key 32 (Nat.le_refl _)with h|h
 ·exact h
 ·exact⟨32,Nat.le_refl _,h,λh=>absurd h (Nat.lt_irrefl _)⟩
def mq(w:aD)(f:Nat):aD:={w with Is:=dy w.Is f 1}
theorem Cb{n:Nat}(hn:40<=n){b:bn}{w:aD}(r:RB b w){f:Nat}(hf:CZ w f):
  iO n w=some (if f<32 then(mq w f,fP f (w.gE f))else(w,0)):=by
 unfold iO;obtain⟨f1,f2,f3⟩:=hf;refine fK (λx=>0<=x/\x<=(f:Int)) (λx=>(32-x).toNat) (λo=>o=some (if f<32 then(mq w f,fP f (w.gE f))else(w,0))) ?_ n 0 ⟨by omega,by omega⟩ (by omega);rintro k x ⟨x0,x1⟩ ih;by_cases hc:x<32
 ·rw[ak (by simpa using hc),au (bG x0 (by omega))]
  by_cases he:w.Is x.toNat=0
  ·have e:x=(f:Int):=by
    rcases Int.lt_or_lt_of_ne (a:=x) (b:=f)|>λh=>(Decidable.em (x=f))with h|h
    ·exact h
    ·exact absurd he (f2 x.toNat (by omega))
   subst e;simp only[apx]at he ⊢;rw[ak (by simpa using he),au (bG x0 (by omega)),aJ,ah (rN (w:={w with Is:=dy w.Is f 1}) x0 hc (r.oh f (by omega)).1 (r.oh f (by omega)).2),aps (by omega)];rfl
  ·rw[ae (by simpa using he),aL (by omega) (by omega)]
   refine ih _ ⟨by omega,?_⟩ (by omega);rcases Decidable.em (x=f)with h|h
   ·subst h;exact absurd (f3 (by omega)) (by simpa using he)
   ·omega
 ·rw[ae (by simpa using hc),apt (by omega)]
theorem Lr{n:Nat}(hn:40<=n){b:bn}{w:aD}(r:RB b w){f:Nat}(hf:CZ w f):
  ∃b',jb n b=some (b',if f<32 then fP f (w.gE f)else 0,decide (f<32))/\RB b' (if f<32 then mq w f else w):=by
 unfold jb;obtain⟨f1,f2,f3⟩:=hf;refine fK (λx=>0<=x/\x<=(f:Int)) (λx=>(32-x).toNat) (λo=>∃b',o=some (b',if f<32 then fP f (w.gE f)else 0,decide (f<32))/\RB b' (if f<32 then mq w f else w)) ?_ n 0 ⟨by omega,by omega⟩ (by omega);rintro k x ⟨x0,x1⟩ ih;by_cases hc:x<32
 ·have hi:x.toNat<32:=by omega
  rw[ak (by simpa using hc),au (bG x0 (by omega)),aJ];by_cases he:w.Is x.toNat=0
  ·have e:x=(f:Int):=by
    rcases Decidable.em (x=f)with h|h
    ·exact h
    ·exact absurd he (f2 x.toNat (by omega))
   subst e;simp only[apx]at he hi ⊢;rw[ae (by simp[r.iss f hi,r.ret f hi,he]),au (bG x0 (by omega)),aJ,ah (Gl x0 hc (by rw[r.gen f hi];exact(r.oh f hi).1) (by rw[r.gen f hi];exact(r.oh f hi).2)),aps hi,aps hi];refine⟨_,by rw[r.gen f hi,apw hi],?_⟩;refine⟨?_,?_,?_,?_,?_⟩<;>intro i Yt<;>by_cases e:i=f
   all_goals (try subst e)
   all_goals simp[mq,bK, *,r.gen,r.iss,r.ret,r.kin,r.oh]
   all_goals (first|exact(r.kin i Yt)|exact r.oh i Yt|(rw[r.ret _ Yt,he];rfl))
  ·rw[ak (by
    rcases r.kin _ hi with h|h|h
    ·exact absurd h he
    ·simp[r.iss _ hi,h]
    ·simp[r.ret _ hi,h]),aL (by omega) (by omega)]
   refine ih _ ⟨by omega,?_⟩ (by omega);rcases Decidable.em (x=f)with h|h
   ·subst h;exact absurd (f3 (by omega)) (by simpa using he)
   ·omega
 ·rw[ae (by simpa using hc),apt (by omega),apt (by omega)]
  exact⟨b,by rw[apD (by omega)],r⟩
theorem amy{n:Nat}{b:bn}{w:aD}(r:RB b w){i:Int}(h0:0<=i)(h1:i<32):nT n b i=some (if w.Is i.toNat=1 then fP i (w.gE i.toNat)else 0,w.Is i.toNat==1):=by
 have hi:i.toNat<32:=by omega
 unfold nT;rw[au (by rw[bG h0 (by omega)];simp)];by_cases e:w.Is i.toNat=1
 ·rw[ae (by simp[r.iss _ hi,e];omega),au (bG h0 (by omega)),ah (Gl h0 h1 (by rw[r.gen _ hi];exact(r.oh _ hi).1) (by rw[r.gen _ hi];exact(r.oh _ hi).2)),r.gen _ hi]
  simp[e]
 ·rw[ak (by simp[r.iss _ hi,e])]
  simp[e]
def aN(w:aD):Nat->List Int
 |0=>[]
 |k+1=>aN w k++(if w.Is k=1 then[fP k (w.gE k)]else[])
theorem fZ(w:aD)(k:Nat):(aN w k).length<=k:=by
 induction k with
 |zero=>simp[aN]
 |succ k ih=>simp only[aN,List.length_append];split<;>simp<;>omega
theorem wL{n:Nat}(hn:40<=n){b:bn}{w:aD}(r:RB b w):ew n b=some (aN w 32):=by
 unfold ew;refine dY (λ(l:List Int) (x:Int)=>∃k:Nat,x=k/\k<=32/\l=aN w k) (λ_ (x:Int)=>(32-x).toNat) (λo=>o=some (aN w 32)) ?_ n [] 0 ⟨0,rfl,by omega,rfl⟩ (by omega);rintro kk l x ⟨k,rfl,hk,rfl⟩ ih;by_cases hc:k<32
 ·rw[ak (by simp;omega),ah (amy r (by omega) (by omega))]
  simp only[apx];by_cases e:w.Is k=1
  ·rw[ak (by simpa using e),au (fq (by have:=fZ w k;omega) (by have:=fZ w k;omega)),aJ,aL (by omega) (by omega)]
   exact ih _ _ ⟨k+1,by omega,by omega,by simp[aN,e]⟩ (by omega)
  ·rw[ae (by simpa using e),aL (by omega) (by omega)]
   exact ih _ _ ⟨k+1,by omega,by omega,by simp[aN,e]⟩ (by omega)
 ·rw[ae (by simp;omega)]
  obtain rfl:k=32:=by omega
  rfl
end Go.Proofs.Z
namespace Go.Proofs.Z
open Go Go.Bw
def aT(w:aD)(h:Int):Prop:=0<=h/\aM w h=true
theorem lX{w:aD}{h:Int}:aM w h=true↔Qg h=true/\w.Is (mH h).toNat=1/\w.gE (mH h).toNat=h/256:=by unfold aM;rw[apv,apv,beq_iff_eq,beq_iff_eq,and_assoc]
theorem K7{h:Int}(hb:Qg h=true):h<4294967296:=by unfold Qg at hb;simp only[decide_eq_true_eq]at hb;omega
theorem Cj{b:bn}{w:aD}(r:RB b w):∀(k:Nat),k<=32->∀x,x∈aN w k↔aT w x/\mH x<k
 |0,_,x=>⟨λh=>(by cases h),λh=>absurd h.2 (by have:=(fN x).1;omega)⟩
 |k+1,hk,x=>by
  have ih:=Cj r k (by omega) x;have hr:=r.oh k (by omega);obtain⟨q1,q2,q3,q4,q5⟩:=o6 (i:=k) (g:=w.gE k) (by omega) (by omega) hr.1 hr.2;have hx:=fN x;rw[aN,List.mem_append,ih];constructor
  ·rintro(h|h)
   ·exact⟨h.1,by omega⟩
   ·split at h
    ·rename_i hi
     have e:=List.mem_singleton.1 h;subst e;exact⟨⟨by omega,lX.2 ⟨q1,by rw[q2];exact hi,by rw[q2,q3];rfl⟩⟩,by omega⟩
    ·cases h
  ·rintro⟨h1,h2⟩
   by_cases e:mH x<k
   ·exact .inl ⟨h1,e⟩
   ·have e1:mH x=k:=by omega
    obtain⟨g1,g2,g3⟩:=lX.1 h1.2;have e2:(mH x).toNat=k:=by omega
    rw[e2]at g2 g3;refine .inr ?_;rw[aps g2,List.mem_singleton,g3, ← e1,H9 h1.1 g1]
theorem An{b:bn}{w:aD}(r:RB b w):∀(k:Nat),k<=32->(aN w k).Nodup
 |0,_ =>List.nodup_nil
 |k+1,hk=>by
  rw[aN,List.nodup_append];refine⟨An r k (by omega),by split<;>simp,λa ha c hc e=>?_⟩;split at hc
  ·have e1:=List.mem_singleton.1 hc
   have hr:=r.oh k (by omega);obtain⟨q1,q2,q3,q4,q5⟩:=o6 (i:=k) (g:=w.gE k) (by omega) (by omega) hr.1 hr.2;have:=((Cj r k (by omega) a).1 ha).2;rw[e,e1,q2]at this;omega
  ·cases hc
theorem bX{b:bn}{w:aD}(r:RB b w)(x:Int):x∈aN w 32↔aT w x:=by rw[Cj r 32 (Nat.le_refl _)];have:=fN x;exact⟨λh=>h.1,λh=>⟨h,by omega⟩⟩
def sP(w:aD)(h:Int):Prop:=0<=h/\Qg h=true/\(h/256<w.gE (mH h).toNat\/(h/256=w.gE (mH h).toNat/\w.Is (mH h).toNat≠0))
theorem mw{b:bn}{w:aD}(r:RB b w){f:Nat}(hf:CZ w f)(hl:f<32)(x:Int):aT (mq w f) x↔aT w x\/x=fP f (w.gE f):=by
 have hr:=r.oh f hl;obtain⟨q1,q2,q3,q4,q5⟩:=o6 (i:=f) (g:=w.gE f) (by omega) (by omega) hr.1 hr.2;have hx:=fN x;unfold aT;rw[lX,lX];show 0<=x/\Qg x=true/\dy w.Is f 1 (mH x).toNat=1/\w.gE (mH x).toNat=x/256↔_;rw[bK];by_cases e:(mH x).toNat=f
 ·rw[aps e,e]
  constructor
  ·rintro⟨h1,h2,_,h4⟩
   refine .inr ?_;have:=H9 h1 h2;rw[← this,h4];congr 1;omega
  ·rintro(⟨h1,h2,h3,h4⟩|h)
   ·exact absurd (hf.2.2 hl) (by omega)
   ·subst h;exact⟨by omega,q1,rfl,by rw[q3]⟩
 ·rw[apt e]
  refine⟨λh=> .inl h,λh=>h.elim _root_.id λh=>?_⟩;subst h;exact absurd (by rw[q2];rfl) e
theorem xC{w:aD}{f:Nat}(x:Int)(h:sP w x):sP (mq w f) x:=by
 obtain⟨h1,h2,h3⟩:=h;refine⟨h1,h2,?_⟩;show x/256<w.gE (mH x).toNat\/(x/256=w.gE (mH x).toNat/\dy w.Is f 1 (mH x).toNat≠0);rw[bK];split
 ·exact h3.imp _root_.id λh=>⟨h.1,by omega⟩
 ·exact h3
theorem Lf{b:bn}{w:aD}(r:RB b w){f:Nat}(hf:CZ w f)(hl:f<32):¬sP w (fP f (w.gE f)):=by
 have hr:=r.oh f hl;obtain⟨q1,q2,q3,q4,q5⟩:=o6 (i:=f) (g:=w.gE f) (by omega) (by omega) hr.1 hr.2;rintro⟨_,_,h⟩;rw[q2,q3]at h;have:=hf.2.2 hl;rcases h with h|h
 ·exact absurd h (by simp)
 ·exact h.2 this
theorem XI{b:bn}{w:aD}(r:RB b w){h:Int}(h0:0<=h)(x:Int):aT (if aM w h then v5 w h else w) x↔aT w x/\x≠h:=by
 cases hg:aM w h with
 |false=>refine⟨λhx=>⟨hx,λe=>?_⟩,λhx=>hx.1⟩;subst e;have h2:aM w x=true:=hx.2;rw[h2]at hg;cases hg
 |true=>
  rw[aps rfl];obtain⟨g1,g2,g3⟩:=lX.1 hg;have hr:=r.oh (mH h).toNat (by have:=fN h;omega);have hx:=fN x;have hh:=fN h;have key:∀w',v5 w h=w'->(∀j,j≠(mH h).toNat->w'.Is j=w.Is j/\w'.gE j=w.gE j)->w'.Is (mH h).toNat≠1->(aT w' x↔aT w x/\x≠h):=by
   intro w' _ k1 k2;unfold aT;rw[lX,lX];by_cases e:(mH x).toNat=(mH h).toNat
   ·constructor
    ·rintro⟨_,_,h3,_⟩;rw[e]at h3;exact absurd h3 k2
    ·rintro⟨⟨h1,h2,h3,h4⟩,h5⟩
     refine absurd ?_ h5;rw[← H9 h1 h2, ← H9 h0 g1, ← h4, ← g3,e];congr 1;omega
   ·rw[(k1 _ e).1,(k1 _ e).2]
    exact⟨λhx=>⟨hx,λe2=>e (by rw[e2])⟩,λhx=>hx.1⟩
  refine key _ rfl (λj hj=>?_) ?_
  ·unfold v5
   split
   ·exact⟨jx _ _ hj,rfl⟩
   ·exact⟨jx _ _ hj,jx _ _ hj⟩
  ·unfold v5
   split
   ·show dy w.Is _ 2 _ ≠1;rw[pI];decide
   ·show dy w.Is _ 0 _ ≠1;rw[pI];decide
theorem HM{w:aD}{h:Int}(x:Int)(hp:sP w x):sP (if aM w h then v5 w h else w) x:=by
 cases hg:aM w h with
 |false=>exact hp
 |true=>
  rw[aps rfl];obtain⟨h1,h2,h3⟩:=hp;refine⟨h1,h2,?_⟩;unfold v5;split
  ·show x/256<w.gE (mH x).toNat\/(x/256=w.gE (mH x).toNat/\dy w.Is (mH h).toNat 2 (mH x).toNat≠0)
   rw[bK];split
   ·exact h3.imp _root_.id λh=>⟨h.1,by decide⟩
   ·exact h3
  ·show x/256<dy w.gE (mH h).toNat _ (mH x).toNat\/(x/256=dy w.gE (mH h).toNat _ (mH x).toNat/\dy w.Is (mH h).toNat 0 (mH x).toNat≠0)
   rw[bK,bK];split
   ·rename_i e
    rw[e]at h3;left;omega
   ·exact h3
end Go.Proofs.Z
namespace Go.Bw
open Go
section
variable {β:Type}
theorem NI(l:List (Int×β))(k:Int)(v:β):(qF l k v).map Prod.fst=if k∈l.map Prod.fst then l.map Prod.fst else l.map Prod.fst++[k]:=by
 induction l with
 |nil=>simp[qF]
 |cons p r ih=>
  unfold qF;by_cases h:k=p.1
  ·subst h;simp
  ·have:(k==p.1)=false:=by simpa using h
   rw[this,cond_false,List.map_cons,ih];by_cases h2:k∈r.map Prod.fst
   ·rw[aps h2,aps (by simp[h2])];rfl
   ·rw[apt h2,apt (by rw[List.map_cons,List.mem_cons];exactλhh=>hh.elim h h2)];rfl
theorem ad7{l:List (Int×β)}{k:Int}{z:β}(h:k∉l.map Prod.fst):qQ l k z=z:=by
 have:jt l k=none:=by
  induction l with
  |nil=>rfl
  |cons p r ih=>
   rw[List.map_cons,List.mem_cons,not_or]at h;unfold jt;have e:(k==p.1)=false:=by simpa using h.1
   rw[e,cond_false,ih h.2];rfl
 unfold qQ;rw[this];rfl
theorem aax{l:List (Int×β)}{k:Int}{z:β}(h:k∈l.map Prod.fst):(k,qQ l k z)∈l:=by
 unfold qQ;cases hm:jt l k with
 |some q=>have:=C6 (j:=q.1) (y:=q.2) hm;exact List.mem_of_getElem? this
 |none=>
  exfalso
  induction l with
  |nil=>simp at h
  |cons p r ih=>
   unfold jt at hm;by_cases e:k=p.1
   ·have:(k==p.1)=true:=by simpa using e
    rw[this]at hm;simp at hm
   ·have e2:(k==p.1)=false:=by simpa using e
    rw[e2]at hm;simp only[cond_false,Option.map_eq_none_iff]at hm;rw[List.map_cons,List.mem_cons]at h;exact ih (h.elim (λhh=>absurd hh e) _root_.id) hm
theorem Q7{l:List (Int×β)}(k:Int)(v:β)(h:(l.map Prod.fst).Nodup):((qF l k v).map Prod.fst).Nodup:=by
 rw[NI];split
 ·exact h
 ·rename_i hk
  rw[List.nodup_append];refine⟨h,by simp,λa ha b hb e=>hk ?_⟩;have:b=k:=by simpa using hb
  rw[← this, ← e];exact ha
theorem O8{l:List (Int×β)}{k:Int}{v:β}{x:Int}:x∈(qF l k v).map Prod.fst↔x∈l.map Prod.fst\/x=k:=by
 rw[NI];split
 ·rename_i h
  exact⟨.inl,λhh=>hh.elim _root_.id λe=>e▸h⟩
 ·simp
end
structure DN(l:List (Int×Bool))(S:Int->Prop):Prop where
 nd:(l.map Prod.fst).Nodup
 tr:∀p∈l,p.2=true
 mem:∀k,k∈l.map Prod.fst↔S k
theorem DN.nil:DN [] (λ_ =>False):=⟨by simp,by simp,by simp⟩
theorem DN.get{l:List (Int×Bool)}{S:Int->Prop}(h:DN l S)(k:Int):qQ l k false=true↔S k:=by
 rw[← h.mem k];by_cases hk:k∈l.map Prod.fst
 ·exact⟨λ_ =>hk,λ_ =>h.tr _ (aax hk)⟩
 ·rw[ad7 hk];exact⟨λhh=>(by cases hh),λhh=>absurd hh hk⟩
theorem agM{l:List (Int×Bool)}{k:Int}(h:∀p∈l,p.2=true):∀p∈qF l k true,p.2=true:=by
 induction l with
 |nil=>intro p hp;rw[qF,List.mem_singleton]at hp;rw[hp]
 |cons q r ih=>
  intro p hp;unfold qF at hp;cases e:k==q.1 with
  |true=>
   rw[e,cond_true,List.mem_cons]at hp;rcases hp with rfl|hp
   ·rfl
   ·exact h p (by simp[hp])
  |false=>
   rw[e,cond_false,List.mem_cons]at hp;rcases hp with rfl|hp
   ·exact h p (by simp)
   ·exact ih (λz hz=>h z (by simp[hz])) p hp
theorem DN.set{l:List (Int×Bool)}{S T:Int->Prop}(h:DN l S){k:Int}(hT:∀x,T x↔S x\/x=k):DN (qF l k true) T:=
 ⟨Q7 k true h.nd,agM h.tr,λx=>by rw[O8,h.mem,hT]⟩
theorem DN.congr{l:List (Int×Bool)}{S T:Int->Prop}(h:DN l S)(hT:∀x,T x↔S x):DN l T:=⟨h.nd,h.tr,λx=>by rw[h.mem,hT]⟩
end Go.Bw
namespace Go.Proofs.Z
open Go Go.Bw
structure P6(x:bE):Prop where
 region:0<=x.Region/\x.Region<4294967296
 by_:0<=x.By/\x.By<256
 to:0<=x.To/\x.To<256
 N5:0<=x.bh/\x.bh<4294967296
def C5(x:bE):cB:=⟨x.Region,x.By,x.To,x.bF,x.bh⟩
theorem adZ{n:Nat}{x:bE}(h:P6 x):Gg n x=some (C5 x):=by unfold Gg C5;have h1:=h.region;have h2:=h.by_;have h3:=h.to;have h4:=h.N5;rw[aL (by omega) (by omega),aL (by omega) (by omega),aL (by omega) (by omega),aL (by omega) (by omega)];rfl
structure RT(k:ay)(w:az):Prop where
 bj:RB k.bj w.B
 Sr:∀i,i<16->w.B.Is i=1->w.T i=C5 (k.aI i)/\P6 (k.aI i)
 hi:∀i,16<=i->i<32->w.B.Is i=0
 ab:∀i,i<32->0<=(w.T i).bh
def aZ(h:Int):Nat:=(mH h).toNat
theorem iW(h:Int):aZ h<32:=by have:=fN h;unfold aZ;omega
theorem U1(h:Int):(aZ h:Int)=mH h:=by have:=fN h;unfold aZ;omega
theorem gW{w:aD}{h:Int}(hg:aM w h=true):Qg h=true/\w.Is (aZ h)=1/\w.gE (aZ h)=h/256:=lX.1 hg
theorem RT.JP{k:ay}{w:az}(r:RT k w){i:Nat}(hi:i<32)(h:w.B.Is i=1):i<16:=by
 rcases Nat.lt_or_ge i 16 with h1|h1
 ·exact h1
 ·have:=r.hi i h1 hi;omega
theorem nU{n:Nat}{b:bn}{w:aD}(r:RB b w){h:Int}(h0:0<=h)(h1:h<4294967296):aU n b h=some (aM w h):=VQ r h0 h1
theorem PC{n:Nat}{k:ay}{w:az}(r:RT k w){h:Int}(h0:0<=h)(h1:h<4294967296):dw n k h=some (if aM w.B h=true then(k.aI (aZ h),0)else(⟨0,0,0,false,0⟩,4)):=by
 unfold dw;rw[ah (nU r.bj h0 h1)];cases hg:aM w.B h with
 |false=>rfl
 |true=>obtain⟨g1,g2,g3⟩:=gW hg;have Ry:=r.JP (iW h) g2;have hr:=fN h;have hn:=U1 h;rw[ae (b:= !true) rfl,ah (qm h0 h1),au (bG hr.1 (by omega)),aJ,aps rfl];rfl
theorem Xb{n:Nat}(hn:40<=n){k:ay}{w:az}(r:RT k w){h:Int}(h0:0<=h):gV n w h=some (if aM w.B h=true then(C5 (k.aI (aZ h)),0)else(⟨0,0,0,false,0⟩,4)):=by
 unfold gV;have hr:=fN h;rw[ah (dk hn r.bj h0)];cases hg:aM w.B h with
 |false=>rfl
 |true=>obtain⟨g1,g2,g3⟩:=gW hg;rw[aps rfl,ae (by simp;omega),au (bG hr.1 (by omega)),aJ,aps rfl];have:=(r.Sr (aZ h) (r.JP (iW h) g2) g2).1;unfold aZ at this ⊢;rw[this]
def dz(w:aD)(p:Nat->Bool):Nat->List Int
 |0=>[]
 |k+1=>dz w p k++(if w.Is k=1/\p k=true then[fP k (w.gE k)]else[])
theorem sH{b:bn}{w:aD}(r:RB b w)(p:Nat->Bool):∀k,k<=32->(aN w k).filter (λh=>p (aZ h))=dz w p k
 |0,_ =>rfl
 |k+1,hk=>by
  have hr:=r.oh k (by omega);obtain⟨q1,q2,q3,q4,q5⟩:=o6 (i:=k) (g:=w.gE k) (by omega) (by omega) hr.1 hr.2;have hs:aZ (fP k (w.gE k))=k:=by unfold aZ;rw[q2];rfl
  rw[aN,dz,List.filter_append,sH r p k (by omega)];congr 1;by_cases h1:w.Is k=1
  ·by_cases h2:p k=true
   ·rw[aps h1,aps ⟨h1,h2⟩];simp[hs,h2]
   ·rw[aps h1,apt (λh=>h2 h.2)];simp[hs,h2]
  ·rw[apt h1,apt (λh=>h1 h.1)];rfl
theorem pJ(w:aD)(p:Nat->Bool):∀k,(dz w p k).length<=k
 |0=>Nat.le_refl _
 |k+1=>by have:=pJ w p k;simp only[dz,List.length_append];split<;>simp<;>omega
theorem wk{w:aD}{p q:Nat->Bool}(h:∀i,i<32->w.Is i=1->p i=q i):∀k,k<=32->dz w p k=dz w q k
 |0,_ =>rfl
 |k+1,hk=>by
  rw[dz,dz,wk h k (by omega)];congr 1;by_cases h1:w.Is k=1
  ·rw[h k (by omega) h1]
  ·rw[apt (λh=>h1 h.1),apt (λh=>h1 h.1)]
theorem zm{b:bn}{w:aD}(r:RB b w){p:Nat->Bool}{x:Int}:x∈dz w p 32↔aT w x/\p (aZ x)=true:=by rw[← sH r p 32 (Nat.le_refl _),List.mem_filter,bX r]
theorem EG{n:Nat}(hn:40<=n){k:ay}{w:az}(r:RT k w)(P:bE->Option Bool)(Q:bE->Bool)(hP:∀x,P6 x->P x=some (Q x)):
  cJ (λRh (eD:(List Int)) (iU:Int)=>cn (decide (iU<((aN w.B 32).length:Int))) (gu (bM iU (aN w.B 32).length)<|bd (dw n k ((aN w.B 32).getD (Int.toNat iU) default)) λvK=>bd (P vK.1) λo9=>cn (o9) (gu (gO eD.length 1 4)<|lt (eD++([((aN w.B 32).getD (Int.toNat iU) default)]):List Int) λmG=>Rh mG (wr .i64 (iU+1))) (Rh eD (wr .i64 (iU+1)))) (some eD)) n ([]) 0=some (dz w.B (λi=>Q (k.aI i)) 32):=by
 have hlen:=fZ w.B 32;rw[← sH r.bj _ 32 (Nat.le_refl _)];refine dY (λ(o:List Int) (i:Int)=>0<=i/\i<=(aN w.B 32).length/\o=((aN w.B 32).take i.toNat).filter (λh=>Q (k.aI (aZ h)))) (λ_ i=>(((aN w.B 32).length:Int)-i).toNat) (λo=>o=some ((aN w.B 32).filter (λh=>Q (k.aI (aZ h))))) ?_ n [] 0 ⟨by omega,by omega,rfl⟩ (by omega);rintro kk o i ⟨i0,i1,rfl⟩ ih;obtain⟨i,rfl⟩:=Int.eq_ofNat_of_zero_le i0;rw[apx];by_cases c:i<(aN w.B 32).length
 ·have hgd:(aN w.B 32).getD i default=(aN w.B 32)[i]:=by rw[List.getD,apB c];rfl
  have hm:=(bX r.bj _).1 (List.getElem_mem c);have ht:(aN w.B 32).take (i+1)=(aN w.B 32).take i++[(aN w.B 32)[i]]:=apC c;have hfl:(((aN w.B 32).take i).filter (λh=>Q (k.aI (aZ h)))).length<=32:=Nat.le_trans (List.length_filter_le _ _) (by rw[List.length_take];omega);generalize(aN w.B 32)[i]=z at *;obtain⟨g1,g2,g3⟩:=gW hm.2;have htr:=(r.Sr (aZ z) (r.JP (iW z) g2) g2).2;rw[ak (by simpa using c),au (bG (by omega) (by omega)),hgd,ah (PC r hm.1 (K7 g1)),aps hm.2];dsimp only;rw[ah (hP _ htr),aL (by omega) (by omega)];have e1:((i:Int)+1).toNat=i+1:=by omega
  cases hq:Q (k.aI (aZ z))with
  |true=>rw[ak rfl,au (fq (by omega) (by omega)),aJ];refine ih _ _ ⟨by omega,by omega,?_⟩ (by omega);rw[e1,ht,List.filter_append];simp[hq]
  |false=>rw[ae rfl];refine ih _ _ ⟨by omega,by omega,?_⟩ (by omega);rw[e1,ht,List.filter_append];simp[hq]
 ·rw[ae (by simpa using c),List.take_of_length_le (by omega)]
theorem aah{n:Nat}(hn:40<=n){k:ay}{w:az}(r:RT k w)(g:Int):kU n k g=some (dz w.B (λi=>(k.aI i).Region==g) 32):=by unfold kU gS;rw[ah (wL (by omega) r.bj)];exact(ah (EG hn r (λx=>sG n x g) (λx=>x.Region==g) λ_ _ =>rfl)).trans rfl
theorem ahi{n:Nat}(hn:40<=n){k:ay}{w:az}(r:RT k w)(t:Int):oK n k t=some (dz w.B (λi=>(k.aI i).To==t) 32):=by
 unfold oK gT;rw[ah (wL (by omega) r.bj)];exact(ah (EG hn r (λx=>pc n x t) (λx=>x.To==t) λx hx=>by
  have:=hx.to;unfold pc;rw[aL (by omega) (by omega)])).trans rfl
theorem Rg{n:Nat}(hn:40<=n){k:ay}{w:az}(r:RT k w)(h:Int):cZ n k h=some (dz w.B (λi=>(k.aI i).bh==h) 32):=by unfold cZ;rw[ah (wL (by omega) r.bj)];exact EG hn r (λx=>kE n x h) (λx=>x.bh==h) λ_ _ =>rfl
def kW(k:ay)(g a:Int)(i:Nat):Bool:=(k.aI i).Region==g&&(k.aI i).bh==a
def nY(k:ay)(g a:Int)(l:List Int):Bool:=l.any λh=>kW k g a (aZ h)&&(k.aI (aZ h)).bF
theorem K8{n:Nat}(hn:40<=n){k:ay}{w:az}(r:RT k w)(g a:Int):jD n k g a=some (((dz w.B (kW k g a) 32).length:Int),nY k g a (aN w.B 32)):=by
 suffices hk:eB n k g a false=some ((aN w.B 32).filter (λh=>kW k g a (aZ h)),nY k g a (aN w.B 32))by unfold jD;rw[ah hk, ← sH r.bj _ 32 (Nat.le_refl _)]
 unfold eB;have hlen:=fZ w.B 32;rw[ah (wL (by omega) r.bj)];refine rR (λ(o:List Int) (i:Int) (m:Bool)=>0<=i/\i<=(aN w.B 32).length/\o=((aN w.B 32).take i.toNat).filter (λh=>kW k g a (aZ h))/\m=nY k g a ((aN w.B 32).take i.toNat)) (λ_ i _ =>(((aN w.B 32).length:Int)-i).toNat) (λo=>o=some ((aN w.B 32).filter (λh=>kW k g a (aZ h)),nY k g a (aN w.B 32))) ?_ n [] 0 false ⟨by omega,by omega,rfl,rfl⟩ (by omega);rintro kk o i m ⟨i0,i1,rfl,rfl⟩ ih;obtain⟨i,rfl⟩:=Int.eq_ofNat_of_zero_le i0;rw[apx];by_cases c:i<(aN w.B 32).length
 ·have hgd:(aN w.B 32).getD i default=(aN w.B 32)[i]:=by rw[List.getD,apB c];rfl
  have hm:=(bX r.bj _).1 (List.getElem_mem c);have ht:(aN w.B 32).take (i+1)=(aN w.B 32).take i++[(aN w.B 32)[i]]:=apC c;have hfl:(((aN w.B 32).take i).filter (λh=>kW k g a (aZ h))).length<=32:=Nat.le_trans (List.length_filter_le _ _) (by rw[List.length_take];omega);generalize(aN w.B 32)[i]=z at *;obtain⟨g1,g2,g3⟩:=gW hm.2;rw[ak (by simpa using c),au (bG (by omega) (by omega)),hgd,ah (PC r hm.1 (K7 g1)),aps hm.2];dsimp only;have h1:mX n (k.aI (aZ z)) g a (nY k g a ((aN w.B 32).take i))=some (kW k g a (aZ z),nY k g a ((aN w.B 32).take (i+1))):=by unfold mX;rw[aJ,ht];simp[nY,kW]
  rw[ah h1,aL (by omega) (by omega)];have e1:((i:Int)+1).toNat=i+1:=by omega
  cases hq:kW k g a (aZ z)with
  |true=>rw[ak rfl,au (fq (by omega) (by omega)),aJ];refine ih _ _ _ ⟨by omega,by omega,?_,by rw[e1]⟩ (by omega);rw[e1,ht,List.filter_append];simp[hq]
  |false=>rw[ae rfl];refine ih _ _ _ ⟨by omega,by omega,?_,by rw[e1]⟩ (by omega);rw[e1,ht,List.filter_append];simp[hq]
 ·rw[ae (by simpa using c),List.take_of_length_le (by omega)]
theorem Uw{k:ay}{w:az}(r:RT k w){g a:Int}:nY k g a (aN w.B 32)=true↔∃x,aT w.B x/\kW k g a (aZ x)=true/\(k.aI (aZ x)).bF=true:=by unfold nY;rw[List.any_eq_true];refine exists_congr λx=>?_;rw[bX r.bj,apv]
def v8(k:ay)(w:az)(g a:Int):Bool:= !(dz w.B (kW k g a) 32).isEmpty
theorem WX{k:ay}{w:az}(r:RT k w){g a:Int}:v8 k w g a=true↔∃x,aT w.B x/\kW k g a (aZ x)=true:=by
 unfold v8;rw[Bool.not_eq_true', ← Bool.not_eq_true,List.isEmpty_iff];constructor
 ·intro h
  cases hl:dz w.B (kW k g a) 32 with
  |nil=>exact absurd hl h
  |cons x t=>exact⟨x,(zm r.bj).1 (by rw[hl];simp)⟩
 ·rintro⟨x,hx⟩ h
  have:=(zm r.bj (p:=kW k g a)).2 hx;rw[h]at this;cases this
def Ss(w:az)(a:Int):Bool:=(a==0)||aM w.B a
theorem LC{n:Nat}{k:ay}{w:az}(r:RT k w){a:Int}(h0:0<=a)(h1:a<4294967296):kD n k a=some (Ss w a):=by unfold kD Ss;rw[ck (nU r.bj h0 h1)];cases a==0<;>rfl
def tM(k:ay)(w:az)(g a:Int):Bool:=Ss w a&& !nY k g a (aN w.B 32)
def rh(k:ay)(w:az)(g a:Int):Bool:=Ss w a&& !v8 k w g a
theorem Lb{n:Nat}(hn:40<=n){k:ay}{w:az}(r:RT k w)(g:Int){a:Int}(h0:0<=a)(h1:a<4294967296):jE n k g a=some (tM k w g a):=by unfold jE tM;rw[ah (K8 hn r g a),ah (LC r h0 h1)]
theorem Hi{n:Nat}(hn:40<=n){k:ay}{w:az}(r:RT k w)(g:Int){a:Int}(h0:0<=a)(h1:a<4294967296):jg n k g a=some (rh k w g a):=by unfold jg;rw[ah (K8 hn r g a),ah (LC r h0 h1)];unfold rh v8;cases dz w.B (kW k g a) 32<;>simp;omega
end Go.Proofs.Z
namespace Go.Proofs.Z
open Go Go.Bw
theorem V3{b:bn}{w:aD}(r:RB b w){p:Nat->Prop}:(∃x,aT w x/\p (aZ x))↔∃i,i<32/\w.Is i=1/\p i:=by
 constructor
 ·rintro⟨x,hx,hp⟩
  exact⟨aZ x,iW x,(gW hx.2).2.1,hp⟩
 ·rintro⟨i,hi,h1,hp⟩
  have hr:=r.oh i hi;obtain⟨q1,q2,q3,q4,q5⟩:=o6 (i:=i) (g:=w.gE i) (by omega) (by omega) hr.1 hr.2;have hs:aZ (fP i (w.gE i))=i:=by unfold aZ;rw[q2];rfl
  have hs':(mH (fP i (w.gE i))).toNat=i:=hs;exact⟨fP i (w.gE i),⟨by omega,lX.2 ⟨q1,by rw[hs'];exact h1,by rw[hs',q3]⟩⟩,by rw[hs];exact hp⟩
theorem Cm{b:bn}{w:aD}(r:RB b w){i:Nat}(hi:i<32)(h1:w.Is i=1):aT w (fP i (w.gE i))/\aZ (fP i (w.gE i))=i/\0<fP i (w.gE i)/\fP i (w.gE i)<4294967296:=by
 have hr:=r.oh i hi;obtain⟨q1,q2,q3,q4,q5⟩:=o6 (i:=i) (g:=w.gE i) (by omega) (by omega) hr.1 hr.2;have hs:aZ (fP i (w.gE i))=i:=by unfold aZ;rw[q2];rfl
 have hs':(mH (fP i (w.gE i))).toNat=i:=hs;exact⟨⟨by omega,lX.2 ⟨q1,by rw[hs'];exact h1,by rw[hs',q3]⟩⟩,hs,q4,q5⟩
theorem iR{w:aD}{x:Int}(h:aT w x):fP (aZ x) (w.gE (aZ x))=x:=by obtain⟨g1,g2,g3⟩:=gW h.2;rw[g3,U1,H9 h.1 g1]
theorem Jf{n:Nat}{k:ay}{w:az}(r:RT k w){i:Nat}(hi:i<32)(g a:Int):mh n w i g a=some ((w.B.Is i==1)&&kW k g a i):=by
 unfold mh;have hin:bM (i:Int) 32=true:=bG (by omega) (by omega);rw[hin,au rfl,au (by simp),au (by simp),apx];by_cases h1:w.B.Is i=1
 ·rw[(r.Sr i (r.JP hi h1) h1).1]
  simp[h1,kW,C5]
 ·have:(w.B.Is i==1)=false:=by simpa using h1
  simp[this]
theorem anT{k:ay}{w:az}(r:RT k w){i:Nat}(hi:i<32)(h1:w.B.Is i=1):(w.T i).bF=(k.aI i).bF:=by rw[(r.Sr i (r.JP hi h1) h1).1];rfl
theorem QZ{k:ay}{w:az}{a:Int}:((a==0)||decide (0<=(bif (a==0)==false then(if aM w.B a=true then mH a else -1)else default)))=Ss w a:=by
 unfold Ss;have:=fN a;cases h:a==0 with
 |true=>rfl
 |false=>
  cases hg:aM w.B a with
  |true=>simp;omega
  |false=>simp
theorem ym{n:Nat}(hn:40<=n){k:ay}{w:az}(r:RT k w)(g:Int){a:Int}(h0:0<=a):eu n w g a=some (tM k w g a):=by
 unfold eu;refine fK (λ(i:Int)=>0<=i/\i<=32/\∀j:Nat,(j:Int)<i->¬(w.B.Is j=1/\kW k g a j=true/\(k.aI j).bF=true)) (λi=>(32-i).toNat) (λo=>o=some (tM k w g a)) ?_ n 0 ⟨by omega,by omega,λj hj=>by omega⟩ (by omega);rintro kk i ⟨i0,i1,hno⟩ ih;obtain⟨i,rfl⟩:=Int.eq_ofNat_of_zero_le i0;have hm:=Uw r (g:=g) (a:=a);rw[V3 r.bj (p:=λi=>kW k g a i=true/\(k.aI i).bF=true)]at hm;by_cases c:i<32
 ·rw[ak (by simp;omega),ah (Jf r c g a),au (by rw[bG (by omega) (by omega)];simp),apx]
  by_cases h1:w.B.Is i=1
  ·rw[anT r c h1]
   by_cases h2:(kW k g a i&&(k.aI i).bF)=true
   ·rw[ak (by simp[h1];simpa using h2)]
    rw[apv]at h2;unfold tM;rw[hm.2 ⟨i,c,h1,h2.1,h2.2⟩];simp
   ·rw[ae (by simpa[h1]using h2),aL (by omega) (by omega)]
    refine ih _ ⟨by omega,by omega,λj hj hh=>?_⟩ (by omega);by_cases e:j=i
    ·subst e;exact h2 (by rw[hh.2.1,hh.2.2];rfl)
    ·exact hno j (by omega) hh
  ·rw[ae (by simp[h1]),aL (by omega) (by omega)]
   refine ih _ ⟨by omega,by omega,λj hj hh=>?_⟩ (by omega);by_cases e:j=i
   ·subst e;exact h1 hh.1
   ·exact hno j (by omega) hh
 ·rw[ae (by simp;omega),ck (dk hn r.bj h0),QZ (k:=k)]
  have:nY k g a (aN w.B 32)=false:=by
   cases h:nY k g a (aN w.B 32)with
   |false=>rfl
   |true=>obtain⟨j,j1,j2,j3⟩:=hm.1 h;exact absurd ⟨j2,j3⟩ (hno j (by omega))
  unfold tM;rw[this];simp
theorem wv{n:Nat}(hn:40<=n){k:ay}{w:az}(r:RT k w)(g:Int){a:Int}(h0:0<=a):dW n w g a=some (rh k w g a):=by
 unfold dW;refine fK (λ(i:Int)=>0<=i/\i<=32/\∀j:Nat,(j:Int)<i->¬(w.B.Is j=1/\kW k g a j=true)) (λi=>(32-i).toNat) (λo=>o=some (rh k w g a)) ?_ n 0 ⟨by omega,by omega,λj hj=>by omega⟩ (by omega);rintro kk i ⟨i0,i1,hno⟩ ih;obtain⟨i,rfl⟩:=Int.eq_ofNat_of_zero_le i0;have hm:=WX r (g:=g) (a:=a);rw[V3 r.bj (p:=λi=>kW k g a i=true)]at hm;by_cases c:i<32
 ·rw[ak (by simp;omega),ah (Jf r c g a)]
  by_cases h2:((w.B.Is i==1)&&kW k g a i)=true
  ·rw[ak h2]
   rw[apv,beq_iff_eq]at h2;unfold rh;rw[hm.2 ⟨i,c,h2.1,h2.2⟩];simp
  ·rw[ae (by simpa using h2),aL (by omega) (by omega)]
   refine ih _ ⟨by omega,by omega,λj hj hh=>?_⟩ (by omega);by_cases e:j=i
   ·subst e;exact h2 (by rw[hh.1,hh.2];rfl)
   ·exact hno j (by omega) hh
 ·rw[ae (by simp;omega),ck (dk hn r.bj h0),QZ (k:=k)]
  have:v8 k w g a=false:=by
   cases h:v8 k w g a with
   |false=>rfl
   |true=>obtain⟨j,j1,j2⟩:=hm.1 h;exact absurd j2 (hno j (by omega))
  unfold rh;rw[this];simp
def Lm(k:ay)(w:az)(x:bE):Int:=bif !Ss w x.bh then 4 else bif (((decide (8<=x.By)||decide (8<=x.To))||(x.By==x.To))||(x.Region==0))then 2 else bif ((x.bh !=0)&&((((k.aI (aZ x.bh)).Region !=x.Region)||((k.aI (aZ x.bh)).To !=x.By))||(x.bF&&(!(k.aI (aZ x.bh)).bF))))then 12 else bif (nY k x.Region x.bh (aN w.B 32)||(x.bF&&v8 k w x.Region x.bh))then 5 else 0
theorem WW{k:ay}{w:az}{g a:Int}:decide (0<((dz w.B (kW k g a) 32).length:Int))=v8 k w g a:=by unfold v8;cases dz w.B (kW k g a) 32<;>simp
theorem aea{n:Nat}(hn:40<=n){k:ay}{w:az}(r:RT k w){x:bE}(hx:P6 x):ql n k x=some (Lm k w x):=by
 unfold ql;obtain⟨a0,a1⟩:=hx.N5;rw[ah (PC r a0 a1),ah (K8 hn r x.Region x.bh),ah (LC r a0 a1)];unfold Lm;dsimp only;rw[WW];cases ho:Ss w x.bh with
 |false=>rw[ak (b:= !false) rfl,Bool.not_false,cond_true]
 |true=>
  rw[ae (b:= !true) rfl,Bool.not_true,cond_false];cases h2:(((decide (8<=x.By)||decide (8<=x.To))||(x.By==x.To))||(x.Region==0))with
  |true=>rw[ak rfl,cond_true]
  |false=>
   rw[ae rfl,cond_false];have e3:((x.bh !=0)&&((((if aM w.B x.bh=true then(k.aI (aZ x.bh),(0:Int))else((⟨0,0,0,false,0⟩:bE),4)).1.Region !=x.Region)||((if aM w.B x.bh=true then(k.aI (aZ x.bh),(0:Int))else((⟨0,0,0,false,0⟩:bE),4)).1.To !=x.By))||(x.bF&&(!(if aM w.B x.bh=true then(k.aI (aZ x.bh),(0:Int))else((⟨0,0,0,false,0⟩:bE),4)).1.bF))))=
     ((x.bh !=0)&&((((k.aI (aZ x.bh)).Region !=x.Region)||((k.aI (aZ x.bh)).To !=x.By))||(x.bF&&(!(k.aI (aZ x.bh)).bF)))):=by
    by_cases h0:x.bh=0
    ·simp[h0]
    ·have:aM w.B x.bh=true:=by
      unfold Ss at ho;rw[Bool.or_eq_true]at ho;exact ho.resolve_left (by simpa using h0)
     rw[aps this]
   rw[e3];cases h3:((x.bh !=0)&&((((k.aI (aZ x.bh)).Region !=x.Region)||((k.aI (aZ x.bh)).To !=x.By))||(x.bF&&(!(k.aI (aZ x.bh)).bF))))with
   |true=>rw[ak rfl,cond_true]
   |false=>
    rw[ae rfl,cond_false];cases h4:(nY k x.Region x.bh (aN w.B 32)||(x.bF&&v8 k w x.Region x.bh))with
    |true=>rw[ak rfl,cond_true]
    |false=>rw[ae rfl,cond_false]
theorem RT.first{k:ay}{w:az}(r:RT k w){f:Nat}(hf:CZ w.B f):f<=16:=by
 rcases Nat.lt_or_ge 16 f with h|h
 ·exact absurd (r.hi 16 (Nat.le_refl _) (by decide)) (hf.2.1 16 h)
 ·exact h
structure LD(k:ay)(w:az)(x:bE)(k':ay)(w':az)(m e:Int):Prop where
 bad:e≠0->k'=k/\w'=w/\m=0
 aik:e=0->∃f,CZ w.B f/\f<16/\k'.aI=dy k.aI f x/\w'=⟨mq w.B f,dy w.T f (C5 x)⟩/\RB k'.bj (mq w.B f)/\m=fP f (w.B.gE f)/\Lm k w x=0
theorem aeg{n:Nat}(hn:40<=n){k:ay}{w:az}(r:RT k w){x:bE}(hx:P6 x):
  ∃k' w' m e,kF n k x=some (k',m,e)/\kI n w (C5 x)=some (w',m,e)/\LD k w x k' w' m e:=by
 obtain⟨a0,a1⟩:=hx.N5;obtain⟨f,hf⟩:=LM w.B;have apk:=r.first hf
 have hr:=r.bj.oh f (by omega);obtain⟨q1,q2,q3,q4,q5⟩:=o6 (i:=f) (g:=w.B.gE f) (by omega) (by omega) hr.1 hr.2;obtain⟨b',i1,i2⟩:=Lr (n:=n) hn r.bj hf;simp only[show f<32 by omega,if_true,decide_true]at i1 i2;have hP:kF n k x=some (if Lm k w x≠0 then(k,0,Lm k w x)else if f<16 then({bj:=b',aI:=dy k.aI f x},fP f (w.B.gE f),0)else(k,0,7)):=by
  unfold kF;rw[ah (aea hn r hx)];by_cases hm:Lm k w x=0
  ·rw[ae (by simp[hm]),apt (by simp[hm]),ah i1]
   dsimp only;rw[ah (qm (by omega) q5),q2,q1];by_cases Ry:f<16
   ·rw[ae (by simp;omega),aJ,au (bG (by dsimp only;omega) (by dsimp only;omega)),aJ,aps Ry];rfl
   ·rw[ak (by simp;omega),apt Ry]
  ·rw[ak (by simpa using hm),aps hm]
 have hR:kI n w (C5 x)=some (if Lm k w x≠0 then(w,0,Lm k w x)else if f<16 then(⟨mq w.B f,dy w.T f (C5 x)⟩,fP f (w.B.gE f),0)else(w,0,7)):=by
  unfold kI;show cl ((x.bh !=0)==true) (br n w.B x.bh) default _ =_;have Qk:=fN x.bh;rw[ck (dk hn r.bj a0)];have e1:((C5 x).bh !=0&&decide ((bif ((x.bh !=0)==true)then(if aM w.B x.bh=true then mH x.bh else -1)else default)<0))= !Ss w x.bh:=by
   show(x.bh !=0&&_)=_;unfold Ss;by_cases h0:x.bh=0
   ·simp[h0]
   ·have h1:(x.bh !=0)=true:=by simpa using h0
    have h2:(x.bh==0)=false:=by simpa using h0
    rw[h1,h2];cases aM w.B x.bh with
    |true=>simp;omega
    |false=>rfl
  rw[e1];unfold Lm;cases ho:Ss w x.bh with
  |false=>rw[ak (b:= !false) rfl,Bool.not_false,cond_true,aps (by decide)]
  |true=>
   rw[ae (b:= !true) rfl,Bool.not_true,cond_false];have e2:(((decide (7<(C5 x).By)||decide (7<(C5 x).To))||((C5 x).By==(C5 x).To))||((C5 x).Region==0))=(((decide (8<=x.By)||decide (8<=x.To))||(x.By==x.To))||(x.Region==0)):=by have p1:decide (7<(C5 x).By)=decide (8<=x.By):=decide_eq_decide.2 (by show 7<x.By↔_;omega);have p2:decide (7<(C5 x).To)=decide (8<=x.To):=decide_eq_decide.2 (by show 7<x.To↔_;omega);rw[p1,p2];rfl
   rw[e2];cases h2:(((decide (8<=x.By)||decide (8<=x.To))||(x.By==x.To))||(x.Region==0))with
   |true=>rw[ak rfl,cond_true,aps (by decide)]
   |false=>
    rw[ae rfl,cond_false,aJ];have Bf:(bd (eu n w (C5 x).Region (C5 x).bh) λeC=>cl (((!eC)==false)&&((C5 x).bF==true)) (dW n w (C5 x).Region (C5 x).bh) default λfL=>cn (((!eC)||((C5 x).bF&&(!fL)))) (some (w,(0:Int),(5:Int))) (bd (iO n w.B) λiM=>cl ((iM.2==0)==false) (br n iM.1 iM.2) default λdL=>cn (((iM.2==0)||decide (15<dL))) (some (w,0,7)) (lt ({w with B:=iM.1}:az) λeE=>bd (br n iM.1 iM.2) λgF=>gu (bM gF 32)<|lt ({eE with T:=(dy eE.T (Int.toNat gF) (C5 x))}:az) λeD=>some (eD,iM.2,0))))=
      some (bif (nY k x.Region x.bh (aN w.B 32)||(x.bF&&v8 k w x.Region x.bh))then(w,0,5)else if f<16 then(⟨mq w.B f,dy w.T f (C5 x)⟩,fP f (w.B.gE f),0)else(w,0,7)):=by
     show bd (eu n w x.Region x.bh) _ =_;rw[ah (ym hn r x.Region a0)];show cl (_ &&(x.bF==true)) (dW n w x.Region x.bh) default _ =_;rw[ck (wv hn r x.Region a0)];have e5:((!tM k w x.Region x.bh)||((C5 x).bF&&(!(bif (((!tM k w x.Region x.bh)==false)&&(x.bF==true))then rh k w x.Region x.bh else default))))=(nY k x.Region x.bh (aN w.B 32)||(x.bF&&v8 k w x.Region x.bh)):=by show(_ ||(x.bF&&_))=_;unfold tM rh;rw[ho];cases nY k x.Region x.bh (aN w.B 32)<;>cases x.bF<;>cases v8 k w x.Region x.bh<;>rfl
     rw[e5];cases h4:(nY k x.Region x.bh (aN w.B 32)||(x.bF&&v8 k w x.Region x.bh))with
     |true=>rw[ak rfl,cond_true]
     |false=>
      have alJ:aM (mq w.B f) (fP f (w.B.gE f))=true:=((mw r.bj hf (by omega) _).2 (.inr rfl)).2;have ahW:=dk (n:=n) hn i2 (h:=fP f (w.B.gE f)) (by omega);rw[alJ,aps rfl,q2]at ahW;rw[ae rfl,cond_false,ah (Cb hn r.bj hf),aps (by omega)];dsimp only;rw[ck ahW];have hne:(fP f (w.B.gE f)==0)=false:=by simp;omega
      rw[hne];by_cases Ry:f<16
      ·rw[ae (by simp;omega),aJ,ah ahW,au (bG (by omega) (by omega)),aJ,aps Ry];rfl
      ·rw[ak (by simp;omega),apt Ry]
    have alO:∀(c:Int),c≠0->True:=λ_ _ =>trivial;by_cases h0:x.bh=0
    ·have e3:((x.bh !=0)&&((((k.aI (aZ x.bh)).Region !=x.Region)||((k.aI (aZ x.bh)).To !=x.By))||(x.bF&&(!(k.aI (aZ x.bh)).bF))))=false:=by simp[h0]
     rw[e3,cond_false];refine(ae (by show(x.bh !=0)=false;simp[h0])).trans (Bf.trans ?_);cases(nY k x.Region x.bh (aN w.B 32)||(x.bF&&v8 k w x.Region x.bh))<;>simp
    ·have hg:aM w.B x.bh=true:=by
      unfold Ss at ho;rw[Bool.or_eq_true]at ho;exact ho.resolve_left (by simpa using h0)
     obtain⟨g1,g2,g3⟩:=gW hg;have ht:=(r.Sr (aZ x.bh) (r.JP (iW _) g2) g2).1;have alr:=dk (n:=n) hn r.bj (h:=x.bh) a0;rw[hg,aps rfl]at alr;refine(ak (by show(x.bh !=0)=true;simpa using h0)).trans ?_;show bd (br n w.B x.bh) _ =_;rw[ah alr,au (bG Qk.1 (by omega)),aJ];show cn ((((w.T (aZ x.bh)).Region !=x.Region||(w.T (aZ x.bh)).To !=x.By)||(x.bF&& !(w.T (aZ x.bh)).bF))) _ _ =_;rw[ht];have h1:(x.bh !=0)=true:=by simpa using h0
     rw[h1,Bool.true_and];show cn ((((k.aI (aZ x.bh)).Region !=x.Region||(k.aI (aZ x.bh)).To !=x.By)||(x.bF&& !(k.aI (aZ x.bh)).bF))) _ _ =_;cases h3:((((k.aI (aZ x.bh)).Region !=x.Region||(k.aI (aZ x.bh)).To !=x.By)||(x.bF&& !(k.aI (aZ x.bh)).bF)))with
     |true=>rw[ak rfl,cond_true,aps (by decide)]
     |false=>rw[ae rfl,cond_false];refine Bf.trans ?_;cases(nY k x.Region x.bh (aN w.B 32)||(x.bF&&v8 k w x.Region x.bh))<;>simp
 rw[hP,hR];by_cases hm:Lm k w x=0
 ·simp only[hm,ne_eq,not_true_eq_false,if_false]
  by_cases Ry:f<16
  ·simp only[Ry,if_true]
   exact⟨_,_,_,_,rfl,rfl,λh=>absurd rfl h,λ_ =>⟨f,hf,Ry,rfl,rfl,i2,rfl,hm⟩⟩
  ·simp only[Ry,if_false]
   exact⟨_,_,_,_,rfl,rfl,λ_ =>⟨rfl,rfl,rfl⟩,λh=>(by cases h)⟩
 ·simp only[hm,ne_eq,not_false_eq_true,if_true]
  exact⟨_,_,_,_,rfl,rfl,λ_ =>⟨rfl,rfl,rfl⟩,λh=>absurd h hm⟩
theorem LD.rt{k:ay}{w:az}{x:bE}{k':ay}{w':az}{m e:Int}(h:LD k w x k' w' m e)(r:RT k w)(hx:P6 x):RT k' w':=by
 by_cases he:e=0
 ·obtain⟨f,h1,h2,h3,h4,h5,h6,h7⟩:=h.aik he
  subst h4;refine⟨h5,λi hi hs=>?_,λi hi hl=>?_,λi hi=>?_⟩
  ·rw[h3]
   show dy w.T f (C5 x) i=_ /\_;rw[bK,bK];by_cases e1:i=f
   ·rw[aps e1,aps e1];exact⟨rfl,hx⟩
   ·rw[apt e1,apt e1]
    exact r.Sr i hi (by rw[← hs];exact(jx _ _ e1).symm)
  ·show dy w.B.Is f 1 i=0
   rw[jx _ _ (by omega)];exact r.hi i hi hl
  ·show 0<=(dy w.T f (C5 x) i).bh
   rw[bK];split
   ·exact hx.N5.1
   ·exact r.ab i hi
 ·obtain⟨rfl,rfl,_⟩:=h.bad he
  exact r
end Go.Proofs.Z
namespace Go.Proofs.Z
open Go Go.Bw
def Bz(w:aD)(h:Int):aD:=if aM w h=true then v5 w h else w
theorem I8{w:aD}{h:Int}{i:Nat}(hi:i≠aZ h):(v5 w h).Is i=w.Is i/\(v5 w h).gE i=w.gE i:=by
 unfold v5;split
 ·exact⟨jx _ _ hi,rfl⟩
 ·exact⟨jx _ _ hi,jx _ _ hi⟩
theorem KX(w:aD)(h:Int):(v5 w h).Is (aZ h)≠1:=by
 unfold v5;split
 ·show dy w.Is (aZ h) 2 (aZ h)≠1;rw[pI];decide
 ·show dy w.Is (aZ h) 0 (aZ h)≠1;rw[pI];decide
theorem Oz{w:aD}{h:Int}{i:Nat}(hi:(Bz w h).Is i=1):w.Is i=1/\(Bz w h).gE i=w.gE i:=by
 unfold Bz at *;cases hg:aM w h with
 |false=>rw[hg]at hi;exact⟨hi,by simp⟩
 |true=>
  rw[hg,aps rfl]at hi;rw[aps rfl];by_cases e:i=aZ h
  ·subst e;exact absurd hi (KX w h)
  ·have:=I8 (w:=w) (h:=h) e
   exact⟨by rw[← this.1];exact hi,this.2⟩
theorem FQ:∀(l:List Int) {w:aD} {i:Nat},(l.foldl Bz w).Is i=1->w.Is i=1/\(l.foldl Bz w).gE i=w.gE i
 |[],_,_,h=>⟨h,rfl⟩
 |x::l,w,i,h=>by obtain⟨h1,h2⟩:=FQ l (w:=Bz w x) h;obtain⟨h3,h4⟩:=Oz h1;exact⟨h3,h2.trans h4⟩
theorem Qu:∀(l:List Int) {w:aD} {x:Int},sP w x->sP (l.foldl Bz w) x
 |[],_,_,h=>h
 |y::l,w,x,h=>Qu l (HM (h:=y) x h)
theorem RT.agA{n:Nat}{k:ay}{w:az}(r:RT k w){h:Int}(h0:0<=h)(h1:h<4294967296):
  ∃b',iQ n k.bj h=some (b',aM w.B h)/\RT {k with bj:=b'} {w with B:=Bz w.B h}:=by
 obtain⟨b',e,r'⟩:=UW (n:=n) r.bj h0 h1;refine⟨b',e,r',λi hi hs=>?_,λi hi hl=>?_,r.ab⟩
 ·exact r.Sr i hi (Oz hs).1
 ·show(Bz w.B h).Is i=0
  unfold Bz;cases hg:aM w.B h with
  |false=>exact r.hi i hi hl
  |true=>obtain⟨g1,g2,g3⟩:=gW hg;have:=r.JP (iW h) g2;rw[aps rfl,(I8 (w:=w.B) (h:=h) (by omega)).1];exact r.hi i hi hl
theorem KL{n:Nat}:∀(l:List Int) {k:ay} {w:az},RT k w->(∀h∈l,0<=h/\h<4294967296)->l.length<=100->200<=n->
  ∃k',gI n k l=some k'/\RT k' {w with B:=l.foldl Bz w.B}/\k'.aI=k.aI:=by
 intro l k w r hl hlen hn;unfold gI;refine dY (λ(i:Int) (k':ay)=>0<=i/\i<=l.length/\RT k' {w with B:=(l.take i.toNat).foldl Bz w.B}/\k'.aI=k.aI) (λi _ =>((l.length:Int)-i).toNat) (λo=>∃k',o=some k'/\RT k' {w with B:=l.foldl Bz w.B}/\k'.aI=k.aI) ?_ n 0 k ⟨by omega,by omega,r,rfl⟩ (by omega);rintro kk i k' ⟨i0,i1,r',hs⟩ ih;obtain⟨i,rfl⟩:=Int.eq_ofNat_of_zero_le i0;rw[apx]at r';by_cases c:i<l.length
 ·have hgd:l.getD i default=l[i]:=by rw[List.getD,apB c];rfl
  have hh:=hl _ (List.getElem_mem c);have ht:l.take (i+1)=l.take i++[l[i]]:=apC c;obtain⟨b',e,r2⟩:=r'.agA (n:=n) hh.1 hh.2;rw[ak (by simpa using c),au (bG (by omega) (by omega)),apx,hgd,ah e,aJ,aL (by omega) (by omega)];have e1:((i:Int)+1).toNat=i+1:=by omega
  refine ih _ _ ⟨by omega,by omega,?_,hs⟩ (by omega);rw[e1,ht,List.foldl_append];exact r2
 ·rw[ae (by simpa using c)]
  rw[List.take_of_length_le (by omega)]at r';exact⟨k',rfl,r',hs⟩
theorem F5{n:Nat}(hn:40<=n){b:bn}{w:aD}(r:RB b w){h:Int}(h0:0<=h):kZ n w h=some (Bz w h,aM w h):=Tm hn r h0
theorem B9{n:Nat}(hn:40<=n){k:ay}{w:az}(r:RT k w)(g t:Int):
  dF n w g t=some (dz w.B (λi=>(decide (g<0)||(k.aI i).Region==g)&&(decide (t<0)||(k.aI i).To==t)) 32):=by
 unfold dF;refine dY (λ(o:List Int) (i:Int)=>0<=i/\i<=32/\o=dz w.B (λi=>(decide (g<0)||(k.aI i).Region==g)&&(decide (t<0)||(k.aI i).To==t)) i.toNat) (λ_ i=>(32-i).toNat) (λo=>o=some (dz w.B (λi=>(decide (g<0)||(k.aI i).Region==g)&&(decide (t<0)||(k.aI i).To==t)) 32)) ?_ n [] 0 ⟨by omega,by omega,rfl⟩ (by omega);rintro kk o i ⟨i0,i1,rfl⟩ ih;obtain⟨i,rfl⟩:=Int.eq_ofNat_of_zero_le i0;rw[apx];by_cases c:i<32
 ·have hr:=r.bj.oh i c
  have hlen:=pJ w.B (λi=>(decide (g<0)||(k.aI i).Region==g)&&(decide (t<0)||(k.aI i).To==t)) i;have e1:((i:Int)+1).toNat=i+1:=by omega
  have hin:bM (i:Int) 32=true:=bG (by omega) (by omega);rw[ak (by simp;omega),hin,au rfl,au (by simp),au (by simp),aL (by omega) (by omega)];by_cases h1:w.B.Is i=1
  ·rw[(r.Sr i (r.JP c h1) h1).1]
   by_cases h2:((decide (g<0)||(k.aI i).Region==g)&&(decide (t<0)||(k.aI i).To==t))=true
   ·rw[ak (by simp only[h1,C5,beq_self_eq_true,Bool.true_and];exact h2),ah (rN (by omega) (by omega) hr.1 hr.2),au (fq (by omega) (by omega)),aJ]
    refine ih _ _ ⟨by omega,by omega,?_⟩ (by omega);rw[e1,dz,aps ⟨h1,h2⟩];rfl
   ·rw[ae (by simp only[h1,C5,beq_self_eq_true,Bool.true_and];simpa using h2)]
    refine ih _ _ ⟨by omega,by omega,?_⟩ (by omega);rw[e1,dz,apt (λh=>h2 h.2),List.append_nil]
  ·have:(w.B.Is i==1)=false:=by simpa using h1
   rw[ae (by simp[this])];refine ih _ _ ⟨by omega,by omega,?_⟩ (by omega);rw[e1,dz,apt (λh=>h1 h.1),List.append_nil]
 ·obtain rfl:i=32:=by omega
  rw[ae (by simp)]
theorem HF{b:bn}{w:aD}(r:RB b w){p:Nat->Bool}:∀h∈dz w p 32,0<=h/\h<4294967296:=λh hh=>by have:=((zm r).1 hh).1;exact⟨this.1,K7 (gW this.2).1⟩
theorem abT{n:Nat}(hn:200<=n){k:ay}{w:az}(r:RT k w){g:Int}(hg:0<=g):
  ∃k',l8 n k g=some k'/\mj n w g=some {w with B:=(dz w.B (λi=>(k.aI i).Region==g) 32).foldl Bz w.B}/\
   RT k' {w with B:=(dz w.B (λi=>(k.aI i).Region==g) 32).foldl Bz w.B}/\k'.aI=k.aI:=by
 have DG:=HF r.bj (p:=λi=>(k.aI i).Region==g);have hlen:=pJ w.B (λi=>(k.aI i).Region==g) 32;obtain⟨k',e1,e2,e3⟩:=KL (n:=n) _ r DG (by omega) hn;refine⟨k',?_,?_,e2,e3⟩
 ·unfold l8
  rw[ah (aah (by omega) r g),ah e1]
 ·have hl:dF n w g (-1)=some (dz w.B (λi=>(k.aI i).Region==g) 32):=by
   refine(B9 (by omega) r g (-1)).trans (congrArg some (wk (λi _ _ =>?_) 32 (Nat.le_refl _)));have:decide (g<0)=false:=by simpa using hg
   simp[this]
  unfold mj;rw[ah hl];generalize dz w.B (λi=>(k.aI i).Region==g) 32=l at *;refine dY (λ(i:Int) (w':az)=>0<=i/\i<=l.length/\w'={w with B:=(l.take i.toNat).foldl Bz w.B}/\∃k',RT k' w') (λi _ =>((l.length:Int)-i).toNat) (λo=>o=some ({w with B:=l.foldl Bz w.B}:az)) ?_ n 0 w ⟨by omega,by omega,rfl,k,r⟩ (by omega);rintro kk i w' ⟨i0,i1,rfl,k2,r'⟩ ih;obtain⟨i,rfl⟩:=Int.eq_ofNat_of_zero_le i0;rw[apx]at *;by_cases c:i<l.length
  ·have hgd:l.getD i default=l[i]:=by rw[List.getD,apB c];rfl
   have hh:=DG _ (List.getElem_mem c);have ht:l.take (i+1)=l.take i++[l[i]]:=apC c;obtain⟨b',_,r2⟩:=r'.agA (n:=n) hh.1 hh.2;rw[ak (by simpa using c),au (bG (by omega) (by omega)),hgd,ah (F5 (by omega) r'.bj hh.1),aJ,aL (by omega) (by omega)];have e1:((i:Int)+1).toNat=i+1:=by omega
   refine ih _ _ ⟨by omega,by omega,?_,_,r2⟩ (by omega);rw[e1,ht,List.foldl_append];rfl
  ·rw[ae (by simpa using c),List.take_of_length_le (by omega)]
def Xw(k:ay)(w:az)(i j:Nat):Prop:=j<32/\w.B.Is j=1/\(k.aI j).bh=fP i (w.B.gE i)
inductive MG(k:ay)(w:az)(i0:Nat):Nat->Prop where
 |self:MG k w i0 i0
 |kid {i j:Nat}:MG k w i0 i->Xw k w i j->MG k w i0 j
theorem MG.ahz{k:ay}{w:az}{i0 j:Nat}(h:MG k w i0 j)(h0:i0<32)(h1:w.B.Is i0=1):j<32/\w.B.Is j=1:=by
 cases h with
 |self=>exact⟨h0,h1⟩
 |kid _ hk=>exact⟨hk.1,hk.2.1⟩
theorem MG.head{k:ay}{w:az}{i0 c j:Nat}(hc:Xw k w i0 c)(h:MG k w c j):MG k w i0 j:=by
 induction h with
 |self=>exact .kid .self hc
 |kid _ hk ih=>exact .kid ih hk
theorem MG.L3{k:ay}{w:az}{i0 j:Nat}(h:MG k w i0 j):j=i0\/∃c,Xw k w i0 c/\MG k w c j:=by
 induction h with
 |self=>exact .inl rfl
 |kid _ hk ih=>
  rcases ih with rfl|⟨c,h1,h2⟩
  ·exact .inr ⟨_,hk, .self⟩
  ·exact .inr ⟨c,h1, .kid h2 hk⟩
structure TT(k:ay)(w:az):Prop where
 Tz:∀i,i<32->w.B.Is i=1->(k.aI i).bh=0\/sP w.B (k.aI i).bh
 ag5:∃ρ:Nat->Nat,∀i j,i<32->w.B.Is i=1->Xw k w i j->ρ i<ρ j
def DK(p:Nat->Bool):Nat->Nat
 |0=>0
 |k+1=>DK p k+(if p k=true then 1 else 0)
theorem Gz(p:Nat->Bool):∀k,DK p k<=k
 |0=>Nat.le_refl _
 |k+1=>by have:=Gz p k;simp only[DK];split<;>omega
theorem NW{p q:Nat->Bool}(h:∀i,p i=true->q i=true):∀k,DK p k<=DK q k
 |0=>Nat.le_refl _
 |k+1=>by
  have:=NW h k;simp only[DK];by_cases e:p k=true
  ·rw[aps e,aps (h k e)];omega
  ·rw[apt e];omega
theorem yC{p q:Nat->Bool}(h:∀i,p i=true->q i=true){c:Nat}(hp:p c=false)(hq:q c=true):∀k,c<k->DK p k<DK q k
 |0,hc=>absurd hc (Nat.not_lt_zero _)
 |k+1,hc=>by
  simp only[DK];by_cases e:c=k
  ·subst e
   have:=NW h c;rw[hp,hq];simp;omega
  ·have:=yC h hp hq k (by omega)
   by_cases e2:p k=true
   ·rw[aps e2,aps (h k e2)];omega
   ·rw[apt e2];omega
theorem Po{k:ay}{w:az}(r:RT k w){i:Nat}{x:Int}:x∈dz w.B (λj=>(k.aI j).bh==fP i (w.B.gE i)) 32↔aT w.B x/\Xw k w i (aZ x):=by rw[zm r.bj,beq_iff_eq];exact⟨λh=>⟨h.1,iW x,(gW h.1.2).2.1,h.2⟩,λh=>⟨h.1,h.2.2.2⟩⟩
theorem abx{k:ay}{w:az}(r:RT k w){ρ:Nat->Nat}(hρ:∀i j,i<32->w.B.Is i=1->Xw k w i j->ρ i<ρ j):
  ∀(d i n:Nat),i<32->w.B.Is i=1->DK (λj=>decide (ρ i<ρ j)) 32<=d->50+d<n->∀(goes:List (Int×Bool)) (S:Int->Prop),DN goes S->
   ∃goes',ga n (fP i (w.B.gE i)) goes k=some goes'/\DN goes' (λx=>S x\/∃j,MG k w i j/\x=fP j (w.B.gE j)):=by
 intro d
 induction d with
 |zero=>
  intro i n hi h1 hd hn goes S hS;obtain⟨n,rfl⟩:∃m,n=m+1:=⟨n-1,by omega⟩;rw[ga,aJ,ah (Rg (by omega) r _)];have hno:dz w.B (λj=>(k.aI j).bh==fP i (w.B.gE i)) 32=[]:=by
   cases hl:dz w.B (λj=>(k.aI j).bh==fP i (w.B.gE i)) 32 with
   |nil=>rfl
   |cons x t=>have:=(Po r (i:=i) (x:=x)).1 (by rw[hl];simp);have h2:=hρ i (aZ x) hi h1 this.2;have h3:=yC (p:=λ_ =>false) (q:=λj=>decide (ρ i<ρ j)) (λ_ h=>by cases h) (c:=aZ x) rfl (by simpa using h2) 32 (iW x);omega
  rw[hno];obtain⟨n,rfl⟩:∃m,n=m+1:=⟨n-1,by omega⟩;refine⟨_,rfl,hS.set λx=>?_⟩;refine or_congr_right ⟨λ⟨j,hj,e⟩=>?_,λe=>⟨i, .self,e⟩⟩;rcases hj.L3 with rfl|⟨c,hc,_⟩
  ·exact e
  ·have wC:=Cm r.bj hc.1 hc.2.1
   have:=(Po r (i:=i) (x:=fP c (w.B.gE c))).2 ⟨wC.1,by rw[wC.2.1];exact hc⟩;rw[hno]at this;cases this
 |succ d ihd=>
  intro i n hi h1 hd hn goes S hS;obtain⟨n,rfl⟩:∃m,n=m+1:=⟨n-1,by omega⟩;rw[ga,aJ,ah (Rg (by omega) r _)];have hmem:=λx=>Po r (i:=i) (x:=x);have hlen:=pJ w.B (λj=>(k.aI j).bh==fP i (w.B.gE i)) 32;generalize dz w.B (λj=>(k.aI j).bh==fP i (w.B.gE i)) 32=t at *;have hS1:DN (qF goes (fP i (w.B.gE i)) true) (λx=>S x\/x=fP i (w.B.gE i)):=hS.set λx=>Iff.rfl;refine dY (λ(m:Int) (g:List (Int×Bool))=>0<=m/\m<=t.length/\DN g (λx=>(S x\/x=fP i (w.B.gE i))\/∃c∈t.take m.toNat,∃j,MG k w (aZ c) j/\x=fP j (w.B.gE j))) (λm _ =>((t.length:Int)-m).toNat)
   (λo=>∃g',o=some g'/\DN g' (λx=>S x\/∃j,MG k w i j/\x=fP j (w.B.gE j))) ?_ n 0 _ ⟨by omega,by omega,hS1.congr λx=>by simp⟩ (by omega)
  rintro kk m g ⟨m0,m1,hg⟩ ih;obtain⟨m,rfl⟩:=Int.eq_ofNat_of_zero_le m0;rw[apx]at hg;by_cases c:m<t.length
  ·have hgd:t.getD m default=t[m]:=by rw[List.getD,apB c];rfl
   have hh:=(hmem _).1 (List.getElem_mem c);have ht:t.take (m+1)=t.take m++[t[m]]:=apC c;have hk:=hρ i _ hi h1 hh.2;have wC:=(gW hh.1.2).2.1;have aew:DK (λj=>decide (ρ (aZ t[m])<ρ j)) 32<=d:=by have:=yC (p:=λj=>decide (ρ (aZ t[m])<ρ j)) (q:=λj=>decide (ρ i<ρ j)) (λj hj=>by simp at hj ⊢;omega) (c:=aZ t[m]) (by simp) (by simpa using hk) 32 (iW _);omega
   obtain⟨g',e1,e2⟩:=ihd (aZ t[m]) n (iW _) wC aew (by omega) g _ hg;rw[iR hh.1]at e1;rw[ak (by simpa using c),au (bG (by omega) (by omega)),apx,hgd,ah e1,aL (by omega) (by omega)];have e3:((m:Int)+1).toNat=m+1:=by omega
   refine ih _ _ ⟨by omega,by omega,e2.congr λx=>?_⟩ (by omega);rw[e3,ht];constructor
   ·rintro(h|⟨c',hc',h⟩)
    ·exact .inl (.inl h)
    ·rcases List.mem_append.1 hc' with h2|h2
     ·exact .inl (.inr ⟨c',h2,h⟩)
     ·rw[List.mem_singleton.1 h2]at h;exact .inr h
   ·rintro((h|⟨c',hc',h⟩)|h)
    ·exact .inl h
    ·exact .inr ⟨c',apz _ hc',h⟩
    ·exact .inr ⟨_,apy _ (by simp),h⟩
  ·rw[ae (by simpa using c)]
   rw[List.take_of_length_le (by omega)]at hg;refine⟨g,rfl,hg.congr λx=>?_⟩;constructor
   ·rintro(h|⟨j,hj,rfl⟩)
    ·exact .inl (.inl h)
    ·rcases hj.L3 with rfl|⟨c',h3,h4⟩
     ·exact .inl (.inr rfl)
     ·have wC:=Cm r.bj h3.1 h3.2.1
      exact .inr ⟨_,(hmem (fP c' (w.B.gE c'))).2 ⟨wC.1,by rw[wC.2.1];exact h3⟩,j,by rw[wC.2.1];exact h4,rfl⟩
   ·rintro((h|h)|⟨c',hc',j,hj,h⟩)
    ·exact .inl h
    ·exact .inr ⟨i, .self,h⟩
    ·exact .inr ⟨j,hj.head ((hmem _).1 hc').2,h⟩
end Go.Proofs.Z
namespace Go.Proofs.Z
open Go Go.Bw
structure ajq(k:ay)(w:az)(h:Int)(k':ay)(w':az)(l:List Int)(e:Int):Prop where
 no:aM w.B h=false->k'=k/\w'=w/\l=[]/\e=4
 yes:aM w.B h=true->e=0/\RT k' w'/\k'.aI=k.aI/\w'={w with B:=l.foldl Bz w.B}/\∃g:Nat->Bool,(∀i,i<32->(g i=true↔MG k w (aZ h) i))/\l=dz w.B g 32
theorem W9{n:Nat}(hn:300<=n){k:ay}{w:az}(r:RT k w){h:Int}(h0:0<=h)(hg:aM w.B h=true):
  ∃g:Nat->Bool,(∀i,i<32->(g i=true↔MG k w (aZ h) i))/\fY n w h=some ({w with B:=(dz w.B g 32).foldl Bz w.B},dz w.B g 32,0):=by
 obtain⟨g1,g2,g3⟩:=gW hg;have Qk:=fN h;have hs:=dk (n:=n) (by omega) r.bj h0;rw[hg,aps rfl]at hs;unfold fY;rw[ah hs,ae (by simp;omega),ah hs,au (bG Qk.1 (by omega)),aJ];have hi0:(mH h).toNat=aZ h:=rfl;rw[hi0];have hl0:=iW h;generalize aZ h=i0 at *;have aoy:(∀i,dy (λ_ =>false) i0 true i=true->MG k w i0 i):=λi hi=>by
  rw[bK]at hi;split at hi
  ·rename_i e;rw[e];exact .self
  ·cases hi
 refine dY (λ(fA:Bool) (goes:Nat->Bool)=>(∀i,goes i=true->MG k w i0 i)/\goes i0=true/\(fA=false->∀j,j<32->w.B.Is j=1->goes j=false->aM w.B (k.aI j).bh=true->goes (aZ (k.aI j).bh)=false))
  (λfA goes=>(if fA=true then 1 else 0)+2*DK (λj=> !goes j) 32)
  (λo=>∃g:Nat->Bool,(∀i,i<32->(g i=true↔MG k w i0 i))/\o=some (({w with B:=(dz w.B g 32).foldl Bz w.B}:az),dz w.B g 32,(0:Int))) ?_ n true _
  ⟨aoy,pI _ _ _,λh=>(by cases h)⟩ (by have:=Gz (λj=> !(dy (λ_ =>false) i0 true j)) 32;simp only[if_true];omega)
 rintro kk fA goes ⟨q1,q2,q3⟩ ih;cases fA with
 |true=>
  rw[ak rfl];refine rR (λ(m2:Bool) (i:Int) (gg:Nat->Bool)=>0<=i/\i<=32/\(∀i,gg i=true->MG k w i0 i)/\gg i0=true/\
    (m2=false->gg=goes/\∀j:Nat,(j:Int)<i->w.B.Is j=1->goes j=false->aM w.B (k.aI j).bh=true->goes (aZ (k.aI j).bh)=false)/\
    (m2=true->DK (λj=> !gg j) 32<DK (λj=> !goes j) 32)) (λ_ i _ =>(32-i).toNat)
   (λo=>∃g:Nat->Bool,(∀i,i<32->(g i=true↔MG k w i0 i))/\o=some (({w with B:=(dz w.B g 32).foldl Bz w.B}:az),dz w.B g 32,(0:Int))) ?_ n false 0 goes
   ⟨by omega,by omega,q1,q2,λ_ =>⟨rfl,λj hj=>by omega⟩,λh=>by cases h⟩ (by omega)
  rintro k2 m2 i gg ⟨i0',i1,p1,p2,p3,p4⟩ Sz;obtain⟨i,rfl⟩:=Int.eq_ofNat_of_zero_le i0';by_cases c:i<32
  ·have hin:bM (i:Int) 32=true:=bG (by omega) (by omega)
   have ha:=r.ab i c;rw[ak (by simp;omega),hin,au rfl,apx,ah (dk (by omega) r.bj ha),au rfl,au (by simp)];have hsr:=fN (w.T i).bh;have hgu:∀b:Bool,(!((b&&decide (0<=(if aM w.B (w.T i).bh=true then mH (w.T i).bh else -1)))==true)||bM (if aM w.B (w.T i).bh=true then mH (w.T i).bh else -1) 32)=true:=λb=>by
    cases hq:aM w.B (w.T i).bh with
    |true=>have:bM (mH (w.T i).bh) 32=true:=bG hsr.1 (by omega);simp[this]
    |false=>simp
   rw[au (hgu _)];have af0:((((w.B.Is i==1)&&(!(gg i)))&&decide (0<=(if aM w.B (w.T i).bh=true then mH (w.T i).bh else -1)))&&(gg (Int.toNat (if aM w.B (w.T i).bh=true then mH (w.T i).bh else -1))))=true↔
     w.B.Is i=1/\gg i=false/\aM w.B (k.aI i).bh=true/\gg (aZ (k.aI i).bh)=true:=by
    by_cases h1:w.B.Is i=1
    ·have ht:(w.T i).bh=(k.aI i).bh:=by rw[(r.Sr i (r.JP c h1) h1).1];rfl
     rw[ht]at hsr ⊢;cases hq:aM w.B (k.aI i).bh with
     |true=>simp[h1,hsr.1,aZ]
     |false=>simp
    ·have:(w.B.Is i==1)=false:=by simpa using h1
     simp[h1]
   by_cases hc:w.B.Is i=1/\gg i=false/\aM w.B (k.aI i).bh=true/\gg (aZ (k.aI i).bh)=true
   ·rw[ak (af0.2 hc),au rfl,aJ,aL (by omega) (by omega)]
    obtain⟨c1,c2,c3,c4⟩:=hc;have aog:=(r.Sr i (r.JP c c1) c1).2;have Qj:=iR ⟨aog.N5.1,c3⟩;have aew:=yC (p:=λj=> !(dy gg i true j)) (q:=λj=> !gg j) (λj hj=>by
     rw[bK]at hj;split at hj
     ·cases hj
     ·exact hj) (c:=i) (by rw[pI];rfl) (by rw[c2];rfl) 32 c
    refine Sz _ _ _ ⟨by omega,by omega,λj hj=>?_,?_,λh=>(by cases h),λ_ =>?_⟩ (by omega)
    ·rw[bK]at hj
     split at hj
     ·rename_i e;rw[e]
      exact .kid (p1 _ c4) ⟨c,c1,Qj.symm⟩
     ·exact p1 j hj
    ·rw[bK];split
     ·rfl
     ·exact p2
    ·cases m2 with
     |true=>exact Nat.lt_trans aew (p4 rfl)
     |false=>rw[← (p3 rfl).1];exact aew
   ·rw[ae (by rw[← Bool.not_eq_true];exactλh=>hc (af0.1 h)),aL (by omega) (by omega)]
    refine Sz _ _ _ ⟨by omega,by omega,p1,p2,λh=>⟨(p3 h).1,λj hj h1 h2 h3=>?_⟩,p4⟩ (by omega);by_cases e:j=i
    ·subst e
     rw[(p3 h).1]at hc;cases hq:goes (aZ (k.aI j).bh)with
     |false=>rfl
     |true=>exact absurd ⟨h1,h2,h3,hq⟩ hc
    ·exact(p3 h).2 j (by omega) h1 h2 h3
  ·rw[ae (by simp;omega)]
   refine ih _ _ ⟨p1,p2,λh j hj h1 h2 h3=>?_⟩ ?_
   ·rw[(p3 h).1]at h2 ⊢
    exact(p3 h).2 j (by omega) h1 h2 h3
   ·cases m2 with
    |true=>have:=p4 rfl;simp only[if_true];omega
    |false=>rw[(p3 rfl).1];simp
 |false=>
  rw[ae rfl];have hD:∀i,i<32->(goes i=true↔MG k w i0 i):=λi _ =>⟨q1 i,λhd=>by
   induction hd with
   |self=>exact q2
   |@kid a j hd hk ihd=>
    have hla:=hd.ahz hl0 g2;have pU:=ihd hla.1;cases hq:goes j with
    |true=>rfl
    |false=>
     have hh:=Cm r.bj hla.1 hla.2;have:=q3 rfl j hk.1 hk.2.1 hq (by rw[hk.2.2];exact hh.1.2);rw[hk.2.2,hh.2.1,pU]at this;cases this⟩
  refine⟨goes,hD,?_⟩;refine rR (λ(l:List Int) (i:Int) (w':az)=>0<=i/\i<=32/\l=dz w.B goes i.toNat/\w'={w with B:=(dz w.B goes i.toNat).foldl Bz w.B}/\∃k',RT k' w') (λ_ i _ =>(32-i).toNat)
   (λo=>o=some (({w with B:=(dz w.B goes 32).foldl Bz w.B}:az),dz w.B goes 32,(0:Int))) ?_ n [] 0 w ⟨by omega,by omega,rfl,rfl,k,r⟩ (by omega)
  rintro k2 l i w' ⟨i0',i1,rfl,rfl,k',r'⟩ Sz;obtain⟨i,rfl⟩:=Int.eq_ofNat_of_zero_le i0';rw[apx]at *;by_cases c:i<32
  ·have hr:=r.bj.oh i c
   have hlen:=pJ w.B goes i;have e1:((i:Int)+1).toNat=i+1:=by omega
   rw[ak (by simp;omega),au (bG (by omega) (by omega))];cases hq:goes i with
   |true=>
    have hlv:=((hD i c).1 hq).ahz hl0 g2;have hof:=rN (n:=n) (w:=w.B) (i:=i) (by omega) (by omega) hr.1 hr.2;have hh:=Cm r.bj c hlv.2;obtain⟨b',_,r2⟩:=r'.agA (n:=n) (h:=fP i (w.B.gE i)) (by omega) hh.2.2.2;rw[ak rfl,ah hof,au (fq (by omega) (by omega)),aJ,ah hof,ah (F5 (by omega) r'.bj (by show(0:Int)<=fP i (w.B.gE i);omega)),aJ,aL (by omega) (by omega)];have et:dz w.B goes (i+1)=dz w.B goes i++[fP i (w.B.gE i)]:=by rw[dz,aps ⟨hlv.2,hq⟩]
    refine Sz _ _ _ ⟨by omega,by omega,by rw[e1,et];rfl,?_,_,r2⟩ (by omega);rw[e1,et,List.foldl_append];rfl
   |false=>
    have et:dz w.B goes (i+1)=dz w.B goes i:=by rw[dz,apt (λh=>by rw[hq]at h;cases h.2),List.append_nil]
    rw[ae rfl,aL (by omega) (by omega)];exact Sz _ _ _ ⟨by omega,by omega,by rw[e1,et],by rw[e1,et],_,r'⟩ (by omega)
  ·obtain rfl:i=32:=by omega
   rw[ae (by simp)]
theorem ZG{n:Nat}(hn:300<=n){k:ay}{w:az}(r:RT k w)(t:TT k w){h:Int}(h0:0<=h)(h1:h<4294967296):
  ∃k' w' l e,eZ n k h=some (k',l,e)/\fY n w h=some (w',l,e)/\ajq k w h k' w' l e:=by
 cases hg:aM w.B h with
 |false=>
  refine⟨k,w,[],4,?_,?_,λ_ =>⟨rfl,rfl,rfl,rfl⟩,λh=>(by rw[hg]at h;cases h)⟩
  ·unfold eZ
   rw[ah (nU r.bj h0 h1),hg];rfl
  ·unfold fY
   have hs:=dk (n:=n) (by omega) r.bj h0;rw[hg,apt (by decide)]at hs;rw[ah hs];rfl
 |true=>
  obtain⟨g,hD,hR⟩:=W9 hn r h0 hg;obtain⟨g1,g2,g3⟩:=gW hg;obtain⟨ρ,hρ⟩:=t.ag5;have hc:=Gz (λj=>decide (ρ (aZ h)<ρ j)) 32;obtain⟨goes,e1,e2⟩:=abx r hρ 32 (aZ h) n (iW h) g2 hc (by omega) [] _ DN.nil;rw[iR ⟨h0,hg⟩]at e1;have aor:(aN w.B 32).filter (λx=>qQ goes x false)=dz w.B g 32:=by
   rw[← sH r.bj g 32 (Nat.le_refl _)];refine List.filter_congr λx hx=>?_;have MC:=(bX r.bj x).1 hx;rw[Bool.eq_iff_iff,e2.get,hD _ (iW x)];constructor
   ·rintro(h|⟨j,hj,rfl⟩)
    ·exact h.elim
    ·have hl:=hj.ahz (iW h) g2
     rw[(Cm r.bj hl.1 hl.2).2.1];exact hj
   ·intro hd
    exact .inr ⟨aZ x,hd,(iR MC).symm⟩
  have DG:=HF r.bj (p:=g);have hlen:=pJ w.B g 32;obtain⟨k',w1,w2,w3⟩:=KL (n:=n) _ r DG (by omega) (by omega);refine⟨k',_,_,_,?_,hR,λh=>(by rw[hg]at h;cases h),λ_ =>⟨rfl,w2,w3,rfl,g,hD,rfl⟩⟩;unfold eZ;have Ao:=fZ w.B 32;rw[ah (nU r.bj h0 h1),hg,ae (b:= !true) rfl,ah e1,ah (wL (by omega) r.bj)];refine dY (λ(o:List Int) (i:Int)=>0<=i/\i<=(aN w.B 32).length/\o=((aN w.B 32).take i.toNat).filter (λx=>qQ goes x false)) (λ_ i=>(((aN w.B 32).length:Int)-i).toNat) (λo=>o=some (k',dz w.B g 32,0)) ?_ n [] 0 ⟨by omega,by omega,rfl⟩ (by omega);rintro kk o i ⟨i0,i1,rfl⟩ ih;obtain⟨i,rfl⟩:=Int.eq_ofNat_of_zero_le i0;rw[apx];by_cases c:i<(aN w.B 32).length
  ·have hgd:(aN w.B 32).getD i default=(aN w.B 32)[i]:=by rw[List.getD,apB c];rfl
   have ht:(aN w.B 32).take (i+1)=(aN w.B 32).take i++[(aN w.B 32)[i]]:=apC c;have hfl:(((aN w.B 32).take i).filter (λx=>qQ goes x false)).length<=32:=Nat.le_trans (List.length_filter_le _ _) (by rw[List.length_take];omega);have e3:((i:Int)+1).toNat=i+1:=by omega
   rw[ak (by simpa using c),au (bG (by omega) (by omega)),hgd,aL (by omega) (by omega)];generalize(aN w.B 32)[i]=z at *;cases hq:qQ goes z false with
   |true=>rw[ak rfl,au (fq (by omega) (by omega)),aJ];refine ih _ _ ⟨by omega,by omega,?_⟩ (by omega);rw[e3,ht,List.filter_append];simp[hq]
   |false=>rw[ae rfl];refine ih _ _ ⟨by omega,by omega,?_⟩ (by omega);rw[e3,ht,List.filter_append];simp[hq]
  ·rw[ae (by simpa using c),List.take_of_length_le (by omega),aor,ah w1]
end Go.Proofs.Z
namespace Go.Proofs.Z
open Go Go.Bw
theorem TT.afB{k k':ay}{w:az}(t:TT k w)(l:List Int)(hs:k'.aI=k.aI):TT k' {w with B:=l.foldl Bz w.B}:=by
 refine⟨λi hi h1=>?_,?_⟩
 ·rw[hs]
  exact(t.Tz i hi (FQ l h1).1).imp _root_.id (Qu l)
 ·obtain⟨ρ,hρ⟩:=t.ag5
  refine⟨ρ,λi j hi h1 hk=>?_⟩;obtain⟨k1,k2,k3⟩:=hk;rw[hs]at k3;have hi1:=FQ l h1;have hj1:=FQ l k2;exact hρ i j hi hi1.1 ⟨k1,hj1.1,by rw[k3];show fP i ((l.foldl Bz w.B).gE i)=_;rw[hi1.2]⟩
def Zk(ρ:Nat->Nat):Nat->Nat
 |0=>0
 |k+1=>Zk ρ k+ρ k
theorem OG(ρ:Nat->Nat){j:Nat}:∀k,j<k->ρ j<=Zk ρ k
 |0,h=>absurd h (Nat.not_lt_zero _)
 |k+1,h=>by
  simp only[Zk];by_cases e:j=k
  ·subst e;omega
  ·have:=OG ρ (j:=j) k (by omega);omega
theorem tU{w:aD}{x:Int}(h:aT w x):sP w x:=by obtain⟨g1,g2,g3⟩:=gW h.2;exact⟨h.1,g1, .inr ⟨g3.symm,by show w.Is (aZ x)≠0;omega⟩⟩
theorem TT.anW{k:ay}{w:az}{x:bE}{k':ay}{w':az}{m e:Int}(t:TT k w)(r:RT k w)(hx:P6 x)(h:LD k w x k' w' m e):TT k' w':=by
 by_cases he:e=0
 ·obtain⟨f,h1,h2,h3,h4,h5,h6,h7⟩:=h.aik he
  subst h4;have hok:Ss w x.bh=true:=by
   unfold Lm at h7;cases ho:Ss w x.bh with
   |true=>rfl
   |false=>rw[ho,Bool.not_false,cond_true]at h7;exact absurd h7 (by decide)
  have hr:=r.bj.oh f (by omega);have hfree:=h1.2.2 (by omega);have hax:x.bh=0\/aT w.B x.bh:=by unfold Ss at hok;rw[Bool.or_eq_true,beq_iff_eq]at hok;exact hok.imp _root_.id λhg=>⟨hx.N5.1,hg⟩
  have hpos:=(o6 (i:=f) (g:=w.B.gE f) (by omega) (by omega) hr.1 hr.2);have hnew:∀a,(a=0\/sP w.B a)->a≠fP f (w.B.gE f):=λa ha e=>by
   rcases ha with ha|ha
   ·have:=hpos.2.2.2.1;omega
   ·subst e;exact Lf r.bj h1 (by omega) ha
  refine⟨λi hi hs=>?_,?_⟩
  ·rw[h3,bK]
   by_cases e1:i=f
   ·rw[aps e1]
    exact hax.imp _root_.id λhg=>xC _ (tU hg)
   ·rw[apt e1]
    have hs':w.B.Is i=1:=by rw[← hs];exact(jx _ _ e1).symm
    exact(t.Tz i hi hs').imp _root_.id (xC _)
  ·obtain⟨ρ,hρ⟩:=t.ag5
   refine⟨dy ρ f (1+Zk ρ 32),λi j hi hs hk=>?_⟩;obtain⟨k1,k2,k3⟩:=hk;rw[h3,bK]at k3;replace k3:(if j=f then x else k.aI j).bh=fP i (w.B.gE i):=k3;rw[bK,bK];by_cases ej:j=f
   ·rw[aps ej]at k3
    rw[aps ej];have hif:i≠f:=λe=>by subst e;exact hnew _ (hax.imp _root_.id tU) k3
    rw[apt hif];have:=OG ρ 32 hi;omega
   ·rw[apt ej]at k3
    rw[apt ej];have hj':w.B.Is j=1:=by rw[← k2];exact(jx _ _ ej).symm
    by_cases ei:i=f
    ·subst ei
     exact absurd k3 (hnew _ (t.Tz j k1 hj'))
    ·rw[apt ei]
     have hi':w.B.Is i=1:=by rw[← hs];exact(jx _ _ ei).symm
     exact hρ i j hi hi' ⟨k1,hj',k3⟩
 ·obtain⟨rfl,rfl,_⟩:=h.bad he
  exact t
theorem ajq.next{k:ay}{w:az}{h:Int}{k':ay}{w':az}{l:List Int}{e:Int}(p:ajq k w h k' w' l e)(r:RT k w)(t:TT k w):RT k' w'/\TT k' w':=by
 cases hg:aM w.B h with
 |false=>obtain⟨rfl,rfl,_⟩:=p.no hg;exact⟨r,t⟩
 |true=>obtain⟨_,h1,h2,h3,_⟩:=p.yes hg;subst h3;exact⟨h1,t.afB l h2⟩
def zU(k:ay)(w:az)(h:Int):bE:=bif aM w.B h then k.aI (aZ h)else⟨0,0,0,false,0⟩
theorem aeE{n:Nat}{k:ay}{w:az}(r:RT k w){h:Int}(h0:0<=h)(h1:h<4294967296):dw n k h=some (zU k w h,bif aM w.B h then 0 else 4):=by rw[PC r h0 h1];unfold zU;cases aM w.B h<;>rfl
theorem Kl{n:Nat}(hn:40<=n){k:ay}{w:az}(r:RT k w){h:Int}(h0:0<=h):gV n w h=some (C5 (zU k w h),bif aM w.B h then 0 else 4):=by rw[Xb hn r h0];unfold zU;cases aM w.B h<;>rfl
theorem K4{k:ay}{w:az}(r:RT k w)(h:Int):P6 (zU k w h):=by
 unfold zU;cases hg:aM w.B h with
 |false=>exact⟨⟨Int.le_refl 0,by show(0:Int)<_;decide⟩,⟨Int.le_refl 0,by show(0:Int)<_;decide⟩,⟨Int.le_refl 0,by show(0:Int)<_;decide⟩,⟨Int.le_refl 0,by show(0:Int)<_;decide⟩⟩
 |true=>obtain⟨g1,g2,g3⟩:=gW hg;exact(r.Sr _ (r.JP (iW h) g2) g2).2
theorem eqT(x:cB):mB x x=true:=by unfold mB;simp
theorem Zx{n:Nat}(hn:200<=n){k:ay}{w:az}(r:RT k w):Aj n k w=some true:=by
 unfold Aj;refine fK (λ(i:Int)=>0<=i/\i<=32) (λi=>(32-i).toNat) (λo=>o=some true) ?_ n 0 ⟨by omega,by omega⟩ (by omega);rintro kk i ⟨i0,i1⟩ ih;by_cases c:i<32
 ·have hr:=r.bj.oh i.toNat (by omega)
  obtain⟨q1,q2,q3,q4,q5⟩:=o6 (i:=i) (g:=w.B.gE i.toNat) i0 c hr.1 hr.2;rw[ak (by simpa using c),ah (rN i0 c hr.1 hr.2)];generalize fP i (w.B.gE i.toNat)=h at *;have ht:=K4 r h;rw[Fy (by omega) (by omega),ah (aeE r (by omega) q5),ah (Kl (by omega) r (by omega))];have h1:=ht.region;have e1:((bif aM w.B h then(0:Int)else 4)!=(bif aM w.B h then 0 else 4))=false:=by simp
  dsimp only;rw[ck (adZ ht),aL (x:=(zU k w h).Region) (by omega) (by omega),e1];rw[ck (Lb (by omega) r _ (by omega) q5),ck (ym (by omega) r _ (by omega)),ck (Hi (by omega) r _ (by omega) q5),ck (wv (by omega) r _ (by omega))];rw[ae ?_,aL (by omega) (by omega)]
  ·exact ih _ ⟨by omega,by omega⟩ (by omega)
  ·cases aM w.B h<;>simp[eqT]
 ·rw[ae (by simpa using c)]
theorem aam{i:Nat}(h:je.B.Is i=1):False:=absurd (show(0:Int)=1 from h) (by decide)
theorem afW:RT eI je/\TT eI je:=
 ⟨⟨⟨λi _ =>rfl,λi _ =>rfl,λi _ =>rfl,λi _ => .inl rfl,λi _ =>⟨Int.le_refl 0,show(0:Int)<=8388607 by decide⟩⟩,λi _ h=>(aam h).elim,λi _ _ =>rfl,λi _ =>Int.le_refl _⟩,λi _ h=>(aam h).elim,λ_ =>0,λi j _ h=>(aam h).elim⟩
end Go.Proofs.Z
namespace Go.Proofs.Z
open Go Go.Bw
end Go.Proofs.Z
namespace Go.Proofs.Z
open Go Go.Bw
abbrev Rn:=aB
structure se(l:List Rn):Prop where
 oh:∀y∈l,0<=y.At/\1<=y.N/\y.At+y.N<=64
 pw:l.Pairwise λy z=>y.At+y.N<z.At
def dO(l:List Rn)(p:Int):Prop:=∃y∈l,y.At<=p/\p<y.At+y.N
def Ko(at_ k:Int):Prop:=1<=k/\0<=at_/\at_+k<=64
instance(a k:Int):Decidable (Ko a k):=by unfold Ko;infer_instance
def BB(x:Int):Prop:= -9223372036854775808<=x/\x<=9223372036854775807
theorem se.nil:se []:=⟨by simp, .nil⟩
theorem RY:∀{l:List Rn} {lo:Int},se l->(∀y∈l,lo<=y.At)->lo<=65->(l.length:Int)*2<=65-lo
 |[],lo,_,_,h=>by simp;omega
 |y::r,lo,h,hl,_ =>by obtain⟨h1,h2⟩:=List.pairwise_cons.1 h.pw;have hy:=h.oh y (by simp);have hy':=hl y (by simp);have:=RY (l:=r) (lo:=y.At+y.N+1) ⟨λz hz=>h.oh z (by simp[hz]),h2⟩ (λz hz=>by have:=h1 z hz;omega) (by omega);simp only[List.length_cons];omega
theorem se.len{l:List Rn}(h:se l):l.length<=32:=by have:=RY (lo:=0) h (λy hy=>(h.oh y hy).1) (by omega);omega
theorem se.two{l:List Rn}(h:se l){y z:Rn}(hy:y∈l)(hz:z∈l):y=z\/y.At+y.N<z.At\/z.At+z.N<y.At:=by
 have:=h.pw;clear h
 induction l with
 |nil=>simp at hy
 |cons x r ih=>
  obtain⟨h1,h2⟩:=List.pairwise_cons.1 this;rcases List.mem_cons.1 hy with rfl|hy'<;>rcases List.mem_cons.1 hz with rfl|hz'
  ·exact .inl rfl
  ·exact .inr (.inl (h1 z hz'))
  ·exact .inr (.inr (h1 y hy'))
  ·exact ih hy' hz' h2
theorem kj(p:Int):¬dO [] p:=by simp[dO]
theorem tP{y:Rn}{r:List Rn}{p:Int}:dO (y::r) p↔(y.At<=p/\p<y.At+y.N)\/dO r p:=by simp[dO]
theorem ku{l r:List Rn}{p:Int}:dO (l++r) p↔dO l p\/dO r p:=by simp[dO,or_and_right,exists_or]
theorem se.YP{l:List Rn}(h:se l){at_ k:Int}(hk:1<=k)(hm:∀p,at_<=p->p<at_+k->dO l p):∃y∈l,y.At<=at_/\at_+k<=y.At+y.N:=by
 obtain⟨y,hy,h1,h2⟩:=hm at_ (by omega) (by omega);refine⟨y,hy,h1,?_⟩;refine Int.not_lt.1 λhlt=>?_;obtain⟨z,hz,h3,h4⟩:=hm (y.At+y.N) (by omega) (by omega);rcases h.two hy hz with rfl|h5|h5
 ·omega
 ·omega
 ·have:=h.oh z hz;omega
theorem acd{n:Nat}{l:List Rn}(hl:l.length<=100)(hn:110<=n):∃xs,mY n l=some xs/\xs.map Prod.snd=l:=by
 unfold mY;have key:∀(m x:Nat),x<=l.length->l.length-x<m->∃xs,eU (λGi (iM:Int)=>cn (decide (iM<(l.length:Int))) (gu (bM iM l.length)<|lt ((l.getD (Int.toNat iM) default):aB) λqf=>yl (iM,qf)<|Gi (wr .i64 (iM+1))) (some [])) m (x:Int)=some xs/\xs.map Prod.snd=l.drop x:=by
  intro m
  induction m with
  |zero=>intro x _ h;omega
  |succ m ih=>
   intro x hx hm;simp only[eU];by_cases hc:x<l.length
   ·rw[ak (by simpa using hc),au (bG (by omega) (by omega)),aJ,aL (by omega) (by omega)]
    obtain⟨xs,h1,h2⟩:=ih (x+1) (by omega) (by omega);have e:((x:Int)+1)=((x+1:Nat):Int):=by omega
    rw[e,h1];refine⟨_,rfl,?_⟩;rw[List.map_cons,h2,List.drop_eq_getElem_cons hc,apx,List.getD,apB hc];rfl
   ·rw[ae (by simpa using hc)]
    exact⟨[],rfl,by rw[List.drop_eq_nil_of_le (by omega)];rfl⟩
 obtain⟨xs,h1,h2⟩:=key n 0 (by omega) (by omega);exact⟨xs,h1,by simpa using h2⟩
theorem V8(n:Nat)(r:cL):sK n r=some r.l:=rfl
theorem aaD{n:Nat}{at_ k:Int}(ha:BB at_)(hk:BB k):∃b,sM n ⟨at_,k⟩=some b/\(b=true↔Ko at_ k):=by
 obtain⟨a1,a2⟩:=ha;obtain⟨k1,k2⟩:=hk;refine⟨_,rfl,?_⟩;show((decide (1<=k)&&decide (0<=at_))&&decide (at_<=wr .i64 (64-k)))=true↔_;unfold Ko;by_cases h:1<=k
 ·rw[aL (by omega) (by omega)];simp;omega
 ·simp[h]
theorem Ih{n:Nat}{y:Rn}(h:0<=y.At/\1<=y.N/\y.At+y.N<=64):cE n y=some (y.At+y.N):=by unfold cE;rw[aL (by omega) (by omega)]
def VI(y x:Rn):Prop:=y.At<=x.At/\x.At+x.N<=y.At+y.N
instance(y x:Rn):Decidable (VI y x):=by unfold VI;infer_instance
theorem aa2{n:Nat}{y x:Rn}(hy:0<=y.At/\1<=y.N/\y.At+y.N<=64)(hx:Ko x.At x.N):sN n y x=some (decide (VI y x)):=by
 unfold sN Ko at *;rw[ck (Ih (by omega)),ck (Ih hy)];congr 1;unfold VI;by_cases he:vm x y=true
 ·have:x.At=y.At/\x.N=y.N:=by simpa[vm]using he
  simp[he,this.1,this.2]
 ·by_cases h1:y.At<=x.At
  ·simp[he,h1]
  ·simp[he,h1]
theorem aaR{n:Nat}(hn:110<=n){l:List Rn}(hl:se l){x:Rn}(hx:Ko x.At x.N):∃v,dG n l x=some v/\((v= -1/\∀y∈l,¬VI y x)\/∃i,∃h:i<l.length,v=(i:Int)/\VI l[i] x):=by
 unfold dG;have hlen:=hl.len;refine fK (λ(v:Int)=>0<=v/\v<=l.length/\∀y∈l.take v.toNat,¬VI y x) (λv=>((l.length:Int)-v).toNat) (λo=>∃v,o=some v/\((v= -1/\∀y∈l,¬VI y x)\/∃i,∃h:i<l.length,v=(i:Int)/\VI l[i] x)) ?_ n 0 ⟨by omega,by omega,by simp⟩ (by omega);rintro kk v ⟨v0,v1,hv⟩ ih;obtain⟨i,rfl⟩:=Int.eq_ofNat_of_zero_le v0;by_cases hc:i<l.length
 ·have hg:l.getD (Int.toNat (i:Int)) default=l[i]:=by rw[apx,List.getD,apB hc];rfl
  rw[ak (by simpa using hc),au (bG (by omega) (by omega)),hg,aL (by omega) (by omega)];rw[ah (show qo n l[i] x=some (decide (VI l[i] x))by unfold qo;rw[ah (aa2 (hl.oh _ (List.getElem_mem hc)) hx)])];by_cases he:VI l[i] x
  ·rw[ak (by simpa using he)]
   exact⟨_,rfl, .inr ⟨i,hc,rfl,he⟩⟩
  ·rw[ae (by simpa using he)]
   refine ih _ ⟨by omega,by omega,λy hy=>?_⟩ (by omega);have e:((i:Int)+1).toNat=i+1:=by omega
   rw[e,apC hc]at hy;rcases List.mem_append.1 hy with h|h
   ·exact hv y (by simpa using h)
   ·rw[List.mem_singleton.1 h];exact he
 ·rw[ae (by simpa using hc)]
  refine⟨-1,rfl, .inl ⟨rfl,λy hy=>hv y ?_⟩⟩;rw[List.take_of_length_le (by omega)];exact hy
theorem aeq{y x:Rn}(h:VI y x)(hx:Ko x.At x.N){l:List Rn}(hy:y∈l):∀p,x.At<=p->p<x.At+x.N->dO l p:=λp h1 h2=>⟨y,hy,by unfold VI at h;omega,by unfold VI at h;omega⟩
theorem akK{n:Nat}(k:Int):∃r,F1 n k=some r/\se r.l/\∀p,0<=p->p<64->(dO r.l p↔p<k):=by
 unfold F1;by_cases h1:(if 64<k then 64 else k)<1
 ·rw[ak (by simpa using h1)]
  refine⟨⟨[]⟩,rfl,se.nil,λp h2 h3=>⟨λh=>absurd h (kj p),λh=>?_⟩⟩;split at h1<;>omega
 ·rw[ae (by simpa using h1)]
  refine⟨⟨[⟨0,if 64<k then 64 else k⟩]⟩,rfl,⟨?_,List.pairwise_singleton _ _⟩,λp h2 h3=>?_⟩
  ·intro y hy
   obtain rfl:=List.mem_singleton.1 hy;show 0<=(0:Int)/\1<=(if 64<k then 64 else k)/\0+(if 64<k then 64 else k)<=64;split at h1<;>split<;>omega
  ·rw[tP]
   show(0<=p/\p<0+(if 64<k then 64 else k))\/dO [] p↔_;constructor
   ·rintro(h|h)
    ·split at h<;>omega
    ·exact absurd h (kj p)
   ·intro h;refine .inl ?_;split<;>omega
def Ud(k:Int)(y:Rn):Bool:=decide (1<=k)&&decide (k<=y.N)
def RI(k:Int)(l:List Rn):Int×Bool:=match l.find? (Ud k)with|some y=>(y.At,true)|none=>(0,false)
theorem aeM{n:Nat}(hn:110<=n){r:cL}(hr:se r.l)(k:Int):sL n r k=some (RI k r.l):=by
 unfold sL;rw[ah (V8 n r)];obtain⟨xs,h1,h2⟩:=acd (n:=n) (l:=r.l) (by have:=hr.len;omega) hn;rw[ah h1, ← h2];clear h1 h2 hr
 induction xs with
 |nil=>rfl
 |cons e xs ih=>
  show cn (Ud k e.2) (some (e.2.At,true)) _ =_;unfold RI;rw[List.map_cons,List.find?_cons];cases hf:Ud k e.2 with
  |true=>rfl
  |false=>exact ih
def inL(l:List Rn)(a k:Int):Prop:=Ko a k/\∀p,a<=p->p<a+k->dO l p
theorem aeN{l:List Rn}(hl:se l){k:Int}:(RI k l=(0,false)/\∀a,¬inL l a k)\/∃v,RI k l=(v,true)/\0<=v/\inL l v k/\∀a,a<v->¬inL l a k:=by
 unfold RI;cases hf:l.find? (Ud k)with
 |none=>refine .inl ⟨rfl,λa ⟨⟨o1,o2,o3⟩,h⟩=>?_⟩;obtain⟨y,hy,h1,h2⟩:=hl.YP o1 h;have:=List.find?_eq_none.1 hf y hy;refine this ?_;simp only[Ud,apv,decide_eq_true_eq];omega
 |some y=>
  obtain⟨hp,us,bs,e,hno⟩:=List.find?_eq_some_iff_append.1 hf;have hy:y∈l:=by rw[e];simp
  have hyr:=hl.oh y hy;simp only[Ud,apv,decide_eq_true_eq]at hp;refine .inr ⟨y.At,rfl,by omega,⟨⟨by omega,by omega,by omega⟩,λp h1 h2=>⟨y,hy,h1,by omega⟩⟩,λa ha ⟨⟨o1,o2,o3⟩,h⟩=>?_⟩;obtain⟨z,hz,h1,h2⟩:=hl.YP o1 h;have hzy:z∈us:=by
   rw[e]at hz;rcases List.mem_append.1 hz with hz|hz
   ·exact hz
   ·rcases List.mem_cons.1 hz with rfl|hz
    ·omega
    ·have hpw:=hl.pw
     rw[e]at hpw;have:=(List.pairwise_cons.1 (List.pairwise_append.1 hpw).2.1).1 z hz;omega
  have:=hno z hzy;simp only[Ud,Bool.not_eq_true',Bool.and_eq_false_iff,decide_eq_false_iff_not]at this;omega
theorem XW{n:Nat}{a b c:List Rn}(ha:a.length<=100)(hb:b.length<=100)(hc:c.length<=100):iB n a b c=some (a++b++c):=by
 unfold iB;have e1:wr .i64 (0+(a.length:Int))=a.length:=by rw[aL (by omega) (by omega)];omega
 have e2:wr .i64 ((a.length:Int)+b.length)=(a.length:Int)+b.length:=aL (by omega) (by omega);have e3:wr .i64 ((a.length:Int)+b.length+c.length)=(a.length:Int)+b.length+c.length:=aL (by omega) (by omega);rw[e1,e2,e3,ae (by simp),ae (by simp;omega),ae (by simp;omega)];have hg:fM n ((a.length:Int)+b.length+c.length)=some ():=by
  unfold fM;simp only[aJ];rw[ae (by simp;omega),aL (by omega) (by omega)];by_cases h0:0<(a.length:Int)+b.length+c.length
  ·rw[ak (by simp;omega),au]
   simp only[Pw,decide_eq_true_eq];omega
  ·rw[ae (by simp;omega)]
 rw[ah hg,au (fq (by simp;omega) (by simp;omega)),aJ,au (fq (by simp;omega) (by simp;omega)),aJ,au (fq (by simp;omega) (by simp;omega)),aJ];rfl
theorem se.cut{l:List Rn}(h:se l){i:Nat}(hi:i<l.length){left:List Rn}{at_ k:Int}(hk:1<=k)(hin:l[i].At<=at_/\at_+k<=l[i].At+l[i].N)
  (hl:se left)(hm:∀p,dO left p↔(l[i].At<=p/\p<l[i].At+l[i].N)/\¬(at_<=p/\p<at_+k))(hb:∀y∈left,l[i].At<=y.At/\y.At+y.N<=l[i].At+l[i].N):
  se (l.take i++left++l.drop (i+1))/\∀p,dO (l.take i++left++l.drop (i+1)) p↔dO l p/\¬(at_<=p/\p<at_+k):=by
 have e:l=l.take i++l[i]::l.drop (i+1):=by rw[← List.drop_eq_getElem_cons hi,List.take_append_drop]
 generalize hy:l[i]=y at *;have hpw:=h.pw;rw[e]at hpw;obtain⟨q1,q2,q3⟩:=List.pairwise_append.1 hpw;obtain⟨q4,q5⟩:=List.pairwise_cons.1 q2;have hyl:y∈l:=by rw[e];simp
 have hyr:=h.oh y hyl;refine⟨⟨?_,?_⟩,λp=>?_⟩
 ·intro z hz
  rcases List.mem_append.1 hz with hz|hz
  ·rcases List.mem_append.1 hz with hz|hz
   ·exact h.oh z (List.mem_of_mem_take hz)
   ·exact hl.oh z hz
  ·exact h.oh z (List.mem_of_mem_drop hz)
 ·refine List.pairwise_append.2 ⟨List.pairwise_append.2 ⟨q1,hl.pw,λa ha b hb'=>?_⟩,q5,λa ha b hb'=>?_⟩
  ·have:=q3 a ha y (by simp);have:=hb b hb';omega
  ·rcases List.mem_append.1 ha with ha|ha
   ·exact q3 a ha b (by simp[hb'])
   ·have:=q4 b hb';have:=hb a ha;omega
 ·have hp:dO l p↔dO (l.take i) p\/(y.At<=p/\p<y.At+y.N)\/dO (l.drop (i+1)) p:=by
   conv=>lhs;rw[e,ku,tP]
  rw[ku,ku,hm p,hp];have t1:dO (l.take i) p->p<y.At:=λ⟨z,hz,h1,h2⟩=>by have:=q3 z hz y (by simp);omega
  have t2:dO (l.drop (i+1)) p->y.At+y.N<p:=λ⟨z,hz,h1,h2⟩=>by have:=q4 z hz;omega
  constructor
  ·rintro((c|⟨c1,c2⟩)|c)
   ·have:=t1 c;exact⟨.inl c,by omega⟩
   ·exact⟨.inr (.inl c1),c2⟩
   ·have:=t2 c;exact⟨.inr (.inr c),by omega⟩
  ·rintro⟨c|c|c,d⟩
   ·exact .inl (.inl c)
   ·exact .inl (.inr ⟨c,d⟩)
   ·exact .inr c
theorem adf{n:Nat}(hn:110<=n){r:cL}(hr:se r.l){at_ k:Int}(ha:BB at_)(hk:BB k):
  ∃r' g,nO n r at_ k=some (r',g)/\(g=true↔inL r.l at_ k)/\(g=false->r'=r)/\(g=true->se r'.l/\∀p,dO r'.l p↔dO r.l p/\¬(at_<=p/\p<at_+k)):=by
 unfold nO;rw[aJ];obtain⟨b,hb,hb'⟩:=aaD (n:=n) ha hk;rw[ah hb];cases b with
 |false=>refine⟨r,false,rfl,⟨λh=>(by cases h),λh=>hb'.2 h.1⟩,λ_ =>rfl,λh=>(by cases h)⟩
 |true=>
  have ho:=hb'.1 rfl;obtain⟨o1,o2,o3⟩:=ho;obtain⟨v,h1,h2⟩:=aaR hn hr (x:=⟨at_,k⟩) ⟨o1,o2,o3⟩;rw[ae (b:= !true) rfl,ah h1];rcases h2 with⟨rfl,h2⟩|⟨i,hi,rfl,h2⟩
  ·refine⟨r,false,rfl,⟨λh=>(by cases h),λh=>?_⟩,λ_ =>rfl,λh=>(by cases h)⟩
   obtain⟨y,hy,h3,h4⟩:=hr.YP o1 h.2;exact absurd ⟨h3,h4⟩ (h2 y hy)
  ·have hlen:=hr.len
   have hyr:=hr.oh _ (List.getElem_mem hi);have hg:r.l.getD (Int.toNat (i:Int)) default=r.l[i]:=by rw[apx,List.getD,apB hi];rfl
   have hin:r.l[i].At<=at_/\at_+k<=r.l[i].At+r.l[i].N:=h2;have e1:wr .i64 ((i:Int)+1)=((i+1:Nat):Int):=by rw[aL (by omega) (by omega)];omega
   rw[ae (by simp),au (bG (by omega) (by omega)),aJ,hg];have fin:∀left:List Rn,left.length<=2->se left->(∀p,dO left p↔(r.l[i].At<=p/\p<r.l[i].At+r.l[i].N)/\¬(at_<=p/\p<at_+k))->(∀y∈left,r.l[i].At<=y.At/\y.At+y.N<=r.l[i].At+r.l[i].N)->
     ∃r' g,(gu (bM (i:Int) (r.l.length+1))<|gu (bM (wr .i64 ((i:Int)+1)) (r.l.length+1))<|bd (iB n (r.l.take (Int.toNat (i:Int))) left (r.l.drop (Int.toNat (wr .i64 ((i:Int)+1))))) λyY=>lt ({l:=yY}:cL) λMN=>some (MN,true))=some (r',g)/\
      (g=true↔inL r.l at_ k)/\(g=false->r'=r)/\(g=true->se r'.l/\∀p,dO r'.l p↔dO r.l p/\¬(at_<=p/\p<at_+k)):=λleft c1 c2 c3 c4=>by
    rw[e1,au (bG (by omega) (by omega)),au (bG (by omega) (by omega)),apx,apx,ah (XW (by rw[List.length_take];omega) (by omega) (by rw[List.length_drop];omega))];exact⟨_,true,rfl,⟨λ_ =>⟨⟨o1,o2,o3⟩,aeq (x:=⟨at_,k⟩) h2 ⟨o1,o2,o3⟩ (List.getElem_mem hi)⟩,λ_ =>rfl⟩,λh=>(by cases h),λ_ =>hr.cut hi o1 hin c2 c3 c4⟩
   generalize hy:r.l[i]=y at *;dsimp only[lt];have ex:cE n (⟨at_,k⟩:Rn)=some (at_+k):=Ih (y:=⟨at_,k⟩) ⟨o2,o1,o3⟩;have ey:cE n y=some (y.At+y.N):=Ih hyr;by_cases c1:y.At<at_
   ·rw[ak (by simpa using c1),aL (x:=at_-y.At) (by omega) (by omega),au (fq (by simp) (by simp)),ah ex,ah ey]
    by_cases c2:at_+k<y.At+y.N
    ·rw[ak (by simpa using c2),ah ex,ah ey,ah ex,aL (x:=y.At+y.N-(at_+k)) (by omega) (by omega),au (fq (by simp) (by simp))]
     refine fin [⟨y.At,at_-y.At⟩,⟨at_+k,y.At+y.N-(at_+k)⟩] (by simp) ⟨?_,?_⟩ (λp=>?_) ?_
     ·intro z hz
      simp only[List.nil_append,List.cons_append,List.mem_cons,List.not_mem_nil,or_false]at hz;rcases hz with rfl|rfl<;>dsimp only<;>omega
     ·refine List.pairwise_cons.2 ⟨λz hz=>?_,List.pairwise_singleton _ _⟩
      obtain rfl:=List.mem_singleton.1 hz;dsimp only;omega
     ·simp only[List.nil_append,List.cons_append,tP,kj,or_false];omega
     ·intro z hz
      simp only[List.nil_append,List.cons_append,List.mem_cons,List.not_mem_nil,or_false]at hz;rcases hz with rfl|rfl<;>dsimp only<;>omega
    ·rw[ae (by simpa using c2)]
     refine fin [⟨y.At,at_-y.At⟩] (by simp) ⟨?_,List.pairwise_singleton _ _⟩ (λp=>?_) ?_
     ·intro z hz
      obtain rfl:=List.mem_singleton.1 hz;dsimp only;omega
     ·simp only[List.nil_append,tP,kj,or_false];omega
     ·intro z hz
      obtain rfl:=List.mem_singleton.1 hz;dsimp only;omega
   ·rw[ae (by simpa using c1),ah ex,ah ey]
    by_cases c2:at_+k<y.At+y.N
    ·rw[ak (by simpa using c2),ah ex,ah ey,ah ex,aL (x:=y.At+y.N-(at_+k)) (by omega) (by omega),au (fq (by simp) (by simp))]
     refine fin [⟨at_+k,y.At+y.N-(at_+k)⟩] (by simp) ⟨?_,List.pairwise_singleton _ _⟩ (λp=>?_) ?_
     ·intro z hz
      obtain rfl:=List.mem_singleton.1 hz;dsimp only;omega
     ·simp only[List.nil_append,tP,kj,or_false];omega
     ·intro z hz
      obtain rfl:=List.mem_singleton.1 hz;dsimp only;omega
    ·rw[ae (by simpa using c2)]
     refine fin _ (by simp) se.nil (λp=>?_) (by simp);simp only[kj,false_iff];omega
end Go.Proofs.Z
namespace Go.Proofs.Z
open Go Go.Bw
structure GI(l:List Rn)(at_ k:Int)(pre rest:List Rn)(put:Bool)(out:List Rn)(x:Rn):Prop where
 e:l=pre++rest
 qu:∀p,dO pre p->¬(at_<=p/\p<at_+k)
 lo:x.At<=at_/\(x.At=at_\/∃z∈pre,z.At+z.N=at_)
 hi:at_+k<=x.At+x.N/\(x.At+x.N=at_+k\/∃z∈pre,z.At+z.N=x.At+x.N)
 oh:0<=x.At/\1<=x.N/\x.At+x.N<=64
 off:put=false->se (out++[x])/\(∀z∈out,z∈pre)/\∀p,dO (out++[x]) p↔dO pre p\/(at_<=p/\p<at_+k)
 on:put=true->se out/\(∀z∈out,z∈pre\/z=x)/\(∃z∈pre,x.At+x.N<z.At)/\∀p,dO out p↔dO pre p\/(at_<=p/\p<at_+k)
theorem uY{l:List Rn}{y:Rn}(h:se l)(hy:0<=y.At/\1<=y.N/\y.At+y.N<=64)(ha:∀z∈l,z.At+z.N<y.At):se (l++[y]):=
 ⟨λz hz=>by
  rcases List.mem_append.1 hz with hz|hz
  ·exact h.oh z hz
  ·rw[List.mem_singleton.1 hz];exact hy,
  List.pairwise_append.2 ⟨h.pw,List.pairwise_singleton _ _,λa ha' b hb=>by rw[List.mem_singleton.1 hb];exact ha a ha'⟩⟩
theorem se.init{l:List Rn}{y:Rn}(h:se (l++[y])):se l:=⟨λz hz=>h.oh z (by simp[hz]),(List.pairwise_append.1 h.pw).1⟩
theorem se.ahF{l:List Rn}{y:Rn}(h:se (l++[y])):∀z∈l,z.At+z.N<y.At:=λz hz=>(List.pairwise_append.1 h.pw).2.2 z hz y (by simp)
theorem nj{y:Rn}{p:Int}:dO [y] p↔y.At<=p/\p<y.At+y.N:=by rw[tP];simp[dO]
def alX(r':cL)(g:Bool)(l:List Rn)(r:cL)(at_ k:Int):Prop:=(g=true↔∀p,at_<=p->p<at_+k->¬dO l p)/\(g=false->r'=r)/\(g=true->se r'.l/\∀p,dO r'.l p↔dO l p\/(at_<=p/\p<at_+k))
theorem aeB{n:Nat}{r:cL}{l:List Rn}(hl:se l){at_ k:Int}(ho:Ko at_ k):∀(xs:List (Int×Rn)) (pre:List Rn) (put:Bool) (out:List Rn) (x:Rn),GI l at_ k pre (xs.map Prod.snd) put out x->
  ∃r' g,aaO (λ(e56:Int×aB) k42 (iU:Bool) (qz:(List aB)) (gR:aB)=>lt (e56.1:Int) λD5=>lt (e56.2:aB) λA3=>bd (cE n A3) λYi=>cn (decide (Yi<gR.At)) (gu (gO qz.length 1 16)<|lt (qz++([A3]):List aB) λuz=>k42 iU uz gR) (bd (cE n gR) λQq=>cn (decide (Qq<A3.At)) (lt (λ(UR:Bool) (UQ:(List aB))=>gu (gO UQ.length 1 16)<|lt (UQ++([A3]):List aB) λJD=>k42 UR JD gR) λj67=>cn ((!iU)) (gu (gO qz.length 1 16)<|lt (qz++([gR]):List aB) λA2=>j67 true A2) (j67 iU qz)) (bd (cE n A3) λMN=>cn ((MN==gR.At)) (lt ({At:=A3.At,N:=wr .i64 (A3.N+gR.N)}:aB) λxZ=>k42 iU qz xZ) (bd (cE n gR) λMz=>cn ((A3.At==Mz)) (lt ({gR with N:=wr .i64 (gR.N+A3.N)}:aB) λKF=>k42 iU qz KF) (some (r,false)))))) (λ(iU:Bool) (qz:(List aB)) (gR:aB)=>cn ((!iU)) (gu (gO qz.length 1 16)<|lt (qz++([gR]):List aB) λKh=>lt ({l:=Kh}:cL) λWG=>some (WG,true)) (lt ({l:=qz}:cL) λQp=>some (Qp,true))) xs put out x=some (r',g)/\alX r' g l r at_ k:=by
 intro xs
 induction xs with
 |nil=>
  intro pre put out x h;have e:l=pre:=by have:=h.e;simpa using this
  subst e;show∃r' g,cn (!put) (gu (gO out.length 1 16)<|some ((⟨out++[x]⟩:cL),true)) (some ((⟨out⟩:cL),true))=some (r',g)/\_;have hfree:∀p,at_<=p->p<at_+k->¬dO l p:=λp h1 h2 hm=>h.qu p hm ⟨h1,h2⟩;cases put with
  |false=>obtain⟨c1,c2,c3⟩:=h.off rfl;have:=c1.init.len;rw[ak (b:= !false) rfl,au (fq (by omega) (by omega))];exact⟨_,true,rfl,⟨λ_ =>hfree,λ_ =>rfl⟩,λh=>(by cases h),λ_ =>⟨c1,c3⟩⟩
  |true=>obtain⟨c1,c2,c3,c4⟩:=h.on rfl;rw[ae (b:= !true) rfl];exact⟨_,true,rfl,⟨λ_ =>hfree,λ_ =>rfl⟩,λh=>(by cases h),λ_ =>⟨c1,c4⟩⟩
 |cons q xs ih=>
  obtain⟨qi,y⟩:=q;intro pre put out x h;have he:l=(pre++[y])++xs.map Prod.snd:=by rw[h.e];simp
  have hyl:y∈l:=by rw[h.e];simp
  have hyr:=hl.oh y hyl;have hpre:∀z∈pre,z.At+z.N<y.At:=λz hz=>by have hpw:=hl.pw;rw[he]at hpw;exact(List.pairwise_append.1 (List.pairwise_append.1 hpw).1).2.2 z hz y (by simp)
  have hzr:∀z∈pre,0<=z.At/\1<=z.N/\z.At+z.N<=64:=λz hz=>hl.oh z (by rw[h.e];simp[hz]);obtain⟨o1,o2,o3⟩:=ho;obtain⟨lo1,lo2⟩:=h.lo;obtain⟨hi1,Yt⟩:=h.hi;have hxr:=h.oh;have ey:cE n y=some (y.At+y.N):=Ih hyr;have ex:cE n x=some (x.At+x.N):=Ih hxr;have hfree:(∀p,y.At<=p->p<y.At+y.N->¬(at_<=p/\p<at_+k))->∀p,dO (pre++[y]) p->¬(at_<=p/\p<at_+k):=λhy p hp=>by
   rcases ku.1 hp with hp|hp
   ·exact h.qu p hp
   ·obtain⟨h1,h2⟩:=nj.1 hp;exact hy p h1 h2
  have Lv:∀{z},z∈pre->z∈pre++[y]:=λhz=>by simp[hz]
  have hlo:x.At=at_\/∃z∈pre++[y],z.At+z.N=at_:=lo2.imp id λ⟨z,hz,e⟩=>⟨z,Lv hz,e⟩;have hhi:x.At+x.N=at_+k\/∃z∈pre++[y],z.At+z.N=x.At+x.N:=Yt.imp id λ⟨z,hz,e⟩=>⟨z,Lv hz,e⟩;have hmy:∀p,dO (pre++[y]) p↔dO pre p\/(y.At<=p/\p<y.At+y.N):=λp=>by rw[ku,nj]
  have hput:put=true->x.At+x.N<y.At:=λhp=>by obtain⟨z,hz,h1⟩:=(h.on hp).2.2.1;have:=hpre z hz;have:=hzr z hz;omega
  simp only[aaO];dsimp only[lt];rw[ah ey];by_cases c1:y.At+y.N<x.At
  ·have hf:put=false:=by
    cases put with
    |false=>rfl
    |true=>have:=hput rfl;omega
   subst hf;obtain⟨d1,d2,d3⟩:=h.off rfl;have hlen:=d1.init.len;rw[ak (by simpa using c1),au (fq (by omega) (by omega))];refine ih (pre++[y]) false (out++[y]) x ⟨he,hfree λp h1 h2=>by omega,⟨lo1,hlo⟩,⟨hi1,hhi⟩,hxr,λ_ =>⟨?_,?_,λp=>?_⟩,λh=>by cases h⟩
   ·refine uY (uY d1.init hyr λz hz=>hpre z (d2 z hz)) hxr λz hz=>?_
    rcases List.mem_append.1 hz with hz|hz
    ·exact d1.ahF z hz
    ·rw[List.mem_singleton.1 hz];exact c1
   ·intro z hz
    rcases List.mem_append.1 hz with hz|hz
    ·exact Lv (d2 z hz)
    ·rw[List.mem_singleton.1 hz];simp
   ·have:=d3 p
    rw[ku,nj]at this ⊢;rw[ku,nj,hmy];constructor
    ·rintro((c|c)|c)
     ·rcases this.1 (.inl c)with c|c
      ·exact .inl (.inl c)
      ·exact .inr c
     ·exact .inl (.inr c)
     ·rcases this.1 (.inr c)with c|c
      ·exact .inl (.inl c)
      ·exact .inr c
    ·rintro((c|c)|c)
     ·rcases this.2 (.inl c)with c|c
      ·exact .inl (.inl c)
      ·exact .inr c
     ·exact .inl (.inr c)
     ·rcases this.2 (.inr c)with c|c
      ·exact .inl (.inl c)
      ·exact .inr c
  rw[ae (by simpa using c1),ah ex];by_cases c2:x.At+x.N<y.At
  ·rw[ak (by simpa using c2)]
   have hfr:=hfree λp h1 h2=>by omega
   cases put with
   |false=>
    obtain⟨d1,d2,d3⟩:=h.off rfl;have hlen:=d1.init.len;have aa6:=d1.len;rw[ak (b:= !false) rfl,au (fq (by omega) (by omega)),au (fq (by omega) (by omega))];refine ih (pre++[y]) true (out++[x]++[y]) x ⟨he,hfr,⟨lo1,hlo⟩,⟨hi1,hhi⟩,hxr,λh=>(by cases h),λ_ =>⟨?_,?_,⟨y,by simp,c2⟩,λp=>?_⟩⟩
    ·refine uY d1 hyr λz hz=>?_
     rcases List.mem_append.1 hz with hz|hz
     ·exact hpre z (d2 z hz)
     ·rw[List.mem_singleton.1 hz];exact c2
    ·intro z hz
     simp only[List.mem_append,List.mem_singleton]at hz;rcases hz with(hz|hz)|hz
     ·exact .inl (Lv (d2 z hz))
     ·exact .inr hz
     ·exact .inl (by simp[hz])
    ·rw[ku,nj,d3 p,hmy]
     constructor
     ·rintro((c|c)|c)
      ·exact .inl (.inl c)
      ·exact .inr c
      ·exact .inl (.inr c)
     ·rintro((c|c)|c)
      ·exact .inl (.inl c)
      ·exact .inr c
      ·exact .inl (.inr c)
   |true=>
    obtain⟨d1,d2,d3,d4⟩:=h.on rfl;have hlen:=d1.len;rw[ae (b:= !true) rfl,au (fq (by omega) (by omega))];refine ih (pre++[y]) true (out++[y]) x ⟨he,hfr,⟨lo1,hlo⟩,⟨hi1,hhi⟩,hxr,λh=>(by cases h),λ_ =>⟨?_,?_,⟨y,by simp,c2⟩,λp=>?_⟩⟩
    ·refine uY d1 hyr λz hz=>?_
     rcases d2 z hz with hz|rfl
     ·exact hpre z hz
     ·exact c2
    ·intro z hz
     rcases List.mem_append.1 hz with hz|hz
     ·exact(d2 z hz).imp Lv id
     ·exact .inl (by simp[List.mem_singleton.1 hz])
    ·rw[ku,nj,d4 p,hmy]
     constructor
     ·rintro((c|c)|c)
      ·exact .inl (.inl c)
      ·exact .inr c
      ·exact .inl (.inr c)
     ·rintro((c|c)|c)
      ·exact .inl (.inl c)
      ·exact .inr c
      ·exact .inl (.inr c)
  have hf:put=false:=by
   cases put with
   |false=>rfl
   |true=>have:=hput rfl;omega
  subst hf;obtain⟨d1,d2,d3⟩:=h.off rfl;rw[ae (by simpa using c2),ah ey];by_cases c3:y.At+y.N=x.At
  ·rw[ak (by simpa using c3),aL (by omega) (by omega)]
   have hat:x.At=at_:=by
    rcases lo2 with e|⟨z,hz,e⟩
    ·exact e
    ·have:=hpre z hz;omega
   refine ih (pre++[y]) false out ⟨y.At,y.N+x.N⟩ ⟨he,hfree λp h1 h2=>by omega,⟨by dsimp only;omega, .inr ⟨y,by simp,by omega⟩⟩,⟨by dsimp only;omega,?_⟩,by dsimp only;omega,λ_ =>⟨?_,λz hz=>Lv (d2 z hz),λp=>?_⟩,λh=>by cases h⟩
   ·rcases hhi with e|⟨z,hz,e⟩
    ·exact .inl (by dsimp only;omega)
    ·exact .inr ⟨z,hz,by dsimp only;omega⟩
   ·exact uY d1.init (by dsimp only;omega) λz hz=>hpre z (d2 z hz)
   ·have:=d3 p
    rw[ku,nj]at this ⊢;rw[hmy];dsimp only;constructor
    ·rintro(c|c)
     ·rcases this.1 (.inl c)with c|c
      ·exact .inl (.inl c)
      ·exact .inr c
     ·by_cases hp:p<x.At
      ·exact .inl (.inr (by omega))
      ·rcases this.1 (.inr (by omega))with c|c
       ·exact .inl (.inl c)
       ·exact .inr c
    ·rintro((c|c)|c)
     ·rcases this.2 (.inl c)with c|c
      ·exact .inl c
      ·exact .inr (by omega)
     ·exact .inr (by omega)
     ·exact .inr (by omega)
  rw[ae (by simpa using c3),ah ex];by_cases c4:y.At=x.At+x.N
  ·rw[ak (by simpa using c4),aL (by omega) (by omega)]
   refine ih (pre++[y]) false out ⟨x.At,x.N+y.N⟩ ⟨he,hfree λp h1 h2=>by omega,⟨lo1,hlo⟩,⟨by dsimp only;omega, .inr ⟨y,by simp,by dsimp only;omega⟩⟩,by dsimp only;omega,λ_ =>⟨?_,λz hz=>Lv (d2 z hz),λp=>?_⟩,λh=>by cases h⟩
   ·exact uY d1.init (by dsimp only;omega) λz hz=>d1.ahF z hz
   ·have:=d3 p
    rw[ku,nj]at this ⊢;rw[hmy];dsimp only;constructor
    ·rintro(c|c)
     ·rcases this.1 (.inl c)with c|c
      ·exact .inl (.inl c)
      ·exact .inr c
     ·by_cases hp:p<x.At+x.N
      ·rcases this.1 (.inr (by omega))with c|c
       ·exact .inl (.inl c)
       ·exact .inr c
      ·exact .inl (.inr (by omega))
    ·rintro((c|c)|c)
     ·rcases this.2 (.inl c)with c|c
      ·exact .inl c
      ·exact .inr (by omega)
     ·exact .inr (by omega)
     ·exact .inr (by omega)
  rw[ae (by simpa using c4)];refine⟨r,false,rfl,⟨λh=>(by cases h),λhno=>?_⟩,λ_ =>rfl,λh=>(by cases h)⟩;have g1:y.At<at_+k:=by
   rcases Yt with e|⟨z,hz,e⟩
   ·omega
   ·have:=hpre z hz;omega
  have g2:at_<y.At+y.N:=by
   rcases lo2 with e|⟨z,hz,e⟩
   ·omega
   ·have:=hpre z hz;omega
  by_cases g3:at_<=y.At
  ·exact absurd ⟨y,hyl,by omega,by omega⟩ (hno y.At g3 g1)
  ·exact absurd ⟨y,hyl,by omega,by omega⟩ (hno at_ (by omega) (by omega))
theorem VR{n:Nat}(hn:110<=n){r:cL}(hr:se r.l){at_ k:Int}(ha:BB at_)(hk:BB k):
  ∃r' g,pL n r at_ k=some (r',g)/\(g=true↔Ko at_ k/\∀p,at_<=p->p<at_+k->¬dO r.l p)/\(g=false->r'=r)/\(g=true->se r'.l/\∀p,dO r'.l p↔dO r.l p\/(at_<=p/\p<at_+k)):=by
 unfold pL;rw[aJ];obtain⟨b,hb,hb'⟩:=aaD (n:=n) ha hk;rw[ah hb];cases b with
 |false=>exact⟨r,false,rfl,⟨λh=>(by cases h),λh=>hb'.2 h.1⟩,λ_ =>rfl,λh=>(by cases h)⟩
 |true=>
  have ho:=hb'.1 rfl;obtain⟨o1,o2,o3⟩:=ho;rw[ae (b:= !true) rfl,ah (V8 n r)];obtain⟨xs,h1,h2⟩:=acd (n:=n) (l:=r.l) (by have:=hr.len;omega) hn;rw[ah h1];obtain⟨r',g,h3,h4,h5,h6⟩:=aeB (n:=n) (r:=r) hr (at_:=at_) (k:=k) ⟨o1,o2,o3⟩ xs [] false [] ⟨at_,k⟩ ⟨by simpa using h2.symm,λp hp=>absurd hp (kj p),⟨Int.le_refl _, .inl rfl⟩,⟨Int.le_refl _, .inl rfl⟩,⟨o2,o1,o3⟩,
   λ_ =>⟨uY se.nil ⟨o2,o1,o3⟩ (by simp),by simp,λp=>by rw[List.nil_append,nj];simp[kj]⟩,λh=>by cases h⟩
  exact⟨r',g,h3,⟨λhg=>⟨⟨o1,o2,o3⟩,h4.1 hg⟩,λhg=>h4.2 hg.2⟩,h5,h6⟩
end Go.Proofs.Z
namespace Go.Proofs.Z
open Go Go.Bw
def ov(y:Rn)(i:Int):Int:=if i<=y.At then 0 else if y.At+y.N<=i then y.N else i-y.At
def Bb(l:List Rn)(i:Int):Int:=(l.map λy=>ov y i).sum
theorem zW(y:Rn)(l:List Rn)(i:Int):Bb (y::l) i=ov y i+Bb l i:=rfl
theorem xk:∀{l:List Rn},se l->Bb l 0=0
 |[],_ =>rfl
 |y::r,h=>by have hy:=h.oh y (by simp);rw[zW,xk ⟨λz hz=>h.oh z (by simp[hz]),(List.pairwise_cons.1 h.pw).2⟩];unfold ov;rw[aps hy.1];rfl
theorem xl:∀{l:List Rn},se l->∀i:Int,(dO l i->Bb l (i+1)=Bb l i+1)/\(¬dO l i->Bb l (i+1)=Bb l i)
 |[],_,i=>⟨λh=>absurd h (kj i),λ_ =>rfl⟩
 |y::r,h,i=>by
  obtain⟨h1,h2⟩:=List.pairwise_cons.1 h.pw;have hy:=h.oh y (by simp);obtain⟨i1,i2⟩:=xl (l:=r) ⟨λz hz=>h.oh z (by simp[hz]),h2⟩ i;rw[zW,zW,tP];by_cases c:y.At<=i/\i<y.At+y.N
  ·have hn:¬dO r i:=λ⟨z,hz,a,b⟩=>by have:=h1 z hz;omega
   rw[i2 hn];refine⟨λ_ =>?_,λhh=>absurd (.inl c) hh⟩;unfold ov;rw[apt (by omega)];split<;>split<;>omega
  ·have e:ov y (i+1)=ov y i:=by
    unfold ov
    (repeat' split)<;>omega
   rw[e];refine⟨λhh=>?_,λhh=>?_⟩
   ·rw[i1 (hh.resolve_left c)];omega
   ·rw[i2 λhm=>hh (.inr hm)]
def ep(l:List Rn):Int:=(l.map λy=>y.N).sum
theorem mP(y:Rn)(l:List Rn):ep (y::l)=y.N+ep l:=rfl
theorem ze:∀{l:List Rn},se l->Bb l 64=ep l
 |[],_ =>rfl
 |y::r,h=>by have hy:=h.oh y (by simp);rw[zW,mP,ze ⟨λz hz=>h.oh z (by simp[hz]),(List.pairwise_cons.1 h.pw).2⟩];unfold ov;rw[apt (by omega),aps hy.2.2]
theorem QC:∀{l:List Rn} {lo:Int},se l->(∀y∈l,lo<=y.At)->lo<=65->0<=ep l/\ep l<=65-lo
 |[],lo,_,_,h=>by simp[ep];omega
 |y::r,lo,h,hl,_ =>by obtain⟨h1,h2⟩:=List.pairwise_cons.1 h.pw;have hy:=h.oh y (by simp);have hy':=hl y (by simp);have:=QC (l:=r) (lo:=y.At+y.N+1) ⟨λz hz=>h.oh z (by simp[hz]),h2⟩ (λz hz=>by have:=h1 z hz;omega) (by omega);rw[mP];omega
theorem RR{n:Nat}:∀(xs:List (Int×Rn)) (s:Int),0<=s->s<=1000000-ep (xs.map Prod.snd)->(∀e∈xs,1<=e.2.N)->
  tQ (λ(e35:Int×aB) Xx (fL:Int)=>lt (e35.1:Int) λq9=>lt (e35.2:aB) λeD=>lt (wr .i64 (fL+eD.N):Int) λl7=>Xx l7) (λ(fL:Int)=>some fL) xs s=some (s+ep (xs.map Prod.snd))
 |[],s,_,_,_ =>by show some s=_;simp[ep]
 |e::xs,s,h0,h1,h2=>by
  have:=h2 e (by simp);have hs:0<=ep (xs.map Prod.snd):=by
   clear h1 h0;have h3:∀e∈xs,1<=e.2.N:=λe he=>h2 e (by simp[he]);clear h2 this
   induction xs with
   |nil=>simp[ep]
   |cons a xs ih=>have:=h3 a (by simp);have:=ih λe he=>h3 e (by simp[he]);rw[List.map_cons,mP];omega
  rw[List.map_cons,mP]at h1 ⊢;show tQ _ _ xs (wr .i64 (s+e.2.N))=_;rw[aL (by omega) (by omega),RR (n:=n) xs (s+e.2.N) (by omega) (by omega) (λe he=>h2 e (by simp[he]))];congr 1;omega
def jB(a:Nat->Int):Rn:=⟨a 0,a 1⟩
end Go.Proofs.Z
namespace Go.Proofs.Z
open Go Go.Bw
theorem WR{l m x:List Rn}(hl:se l)(hm:se m)(hx:se x)(h1:∀p,dO l p↔dO m p\/dO x p)(h2:∀p,dO m p->¬dO x p):ep l=ep m+ep x:=by
 have key:∀i:Nat,Bb l i=Bb m i+Bb x i:=by
  intro i
  induction i with
  |zero=>rw[Int.natCast_zero,xk hl,xk hm,xk hx];rfl
  |succ i ih=>
   have e:((i+1:Nat):Int)=(i:Int)+1:=by omega
   rw[e];obtain⟨a1,a2⟩:=xl hl i;obtain⟨b1,b2⟩:=xl hm i;obtain⟨c1,c2⟩:=xl hx i;by_cases c:dO m i
   ·rw[a1 ((h1 _).2 (.inl c)),b1 c,c2 (h2 _ c),ih];omega
   ·by_cases d:dO x i
    ·rw[a1 ((h1 _).2 (.inr d)),b2 c,c1 d,ih];omega
    ·rw[a2 (λh=>((h1 _).1 h).elim c d),b2 c,c2 d,ih]
 have:=key 64;rw[show((64:Nat):Int)=64 from rfl,ze hl,ze hm,ze hx]at this;exact this
theorem aeX{a k:Int}(h:Ko a k):se [(⟨a,k⟩:Rn)]:=uY (l:=[]) se.nil (by unfold Ko at h;exact⟨h.2.1,h.1,h.2.2⟩) (by simp)
theorem HR:∀(k:Nat) {t:List Int},t.Nodup->(∀p∈t,0<=p/\p<(k:Int))->t.length<=k
 |0,[],_,_ =>Nat.le_refl _
 |0,x::t,_,h=>by have:=h x (by simp);omega
 |k+1,t,hn,h=>by
  by_cases hk:(k:Int)∈t
  ·have h1:=HR k (hn.erase (k:Int)) λx hx=>by
    have h2:=h x (List.mem_of_mem_erase hx);have h3:x≠k:=λe=>by subst e;exact(List.Nodup.not_mem_erase hn) hx
    omega
   rw[List.length_erase_of_mem hk]at h1;omega
  ·have h1:=HR k hn λx hx=>by
    have h2:=h x hx;have h3:x≠k:=λe=>hk (e▸hx);omega
   omega
end Go.Proofs.Z
namespace Go.Proofs.Z
open Go Go.Bw
def vC(s a:Int):Bool:=(decide (1<=s)&&decide (s<=128))&&((((a==1)||(a==2))||(a==4))||(a==8))
theorem wz(n:Nat)(s a:Int):wA n s a=some (vC s a):=rfl
theorem RS{n:Nat}(hn:5<=n)(a:Int):ke n ([1,2,4,8]:List Int) a=some ((((a==1)||(a==2))||(a==4))||(a==8)):=by
 obtain⟨m,rfl⟩:∃m,n=m+5:=⟨n-5,by omega⟩;unfold ke sI;have e1:wr .i64 (0+1)=1:=by decide
 have e2:wr .i64 (1+1)=2:=by decide
 have e3:wr .i64 (2+1)=3:=by decide
 have e4:wr .i64 (3+1)=4:=by decide
 simp only[eU,e1,e2,e3,e4];by_cases h1:a=1
 ·subst h1;rfl
 by_cases h2:a=2
 ·subst h2;rfl
 by_cases h3:a=4
 ·subst h3;rfl
 by_cases h4:a=8
 ·subst h4;rfl
 have g1:(a==1)=false:=by simpa using h1
 have g2:(a==2)=false:=by simpa using h2
 have g3:(a==4)=false:=by simpa using h3
 have g4:(a==8)=false:=by simpa using h4
 simp[cn,gu,bM,bd,g1,g2,g3,g4]
theorem NF{n:Nat}(hn:5<=n)(s a:Int):oT n s a=some (vC s a):=by unfold oT;rw[ck (RS hn a)];unfold vC;cases h:(decide (1<=s)&&decide (s<=128))<;>simp
theorem De{x:Nat}{m:Nat}(hm:m<=3)(hx:x<2^62):Dg .i64 (x:Int) ((2^m-1:Nat):Int)=((x/2^m*2^m:Nat):Int):=by
 unfold Dg;have e1:(BitVec.ofInt 64 (x:Int)&&& ~~~BitVec.ofInt 64 ((2^m-1:Nat):Int)).toNat=x/2^m*2^m:=by
  refine Nat.eq_of_testBit_eq λi=>?_;have hb:(BitVec.ofInt 64 (x:Int)).toNat=x:=GF (k:= .i64) (by show x<2^64;omega);have hc:(BitVec.ofInt 64 ((2^m-1:Nat):Int)).toNat=2^m-1:=GF (k:= .i64) (by show 2^m-1<2^64;have:2^m<=2^3:=Nat.pow_le_pow_right (by decide) hm;omega);rw[BitVec.toNat_and,Nat.testBit_and,hb,Nat.testBit_mul_two_pow,Nat.testBit_div_two_pow,BitVec.testBit_toNat,BitVec.getLsbD_not, ← BitVec.testBit_toNat,hc,Nat.testBit_two_pow_sub_one];by_cases h1:m<=i
  ·have h2:¬i<m:=by omega
   rw[show i-m+m=i by omega];by_cases h3:i<64
   ·simp[h1,h2,h3]
   ·have:x.testBit i=false:=Nat.testBit_lt_two_pow (Nat.lt_of_lt_of_le hx (Nat.pow_le_pow_right (by decide) (by omega)))
    simp[h1,h2,this]
  ·have h2:i<m:=by omega
   simp[h1,h2]
 show IntKind.i64.wrap ((BitVec.ofInt 64 (x:Int)&&& ~~~BitVec.ofInt 64 ((2^m-1:Nat):Int)).toNat:Int)=_;rw[e1];have:x/2^m*2^m<=x:=Nat.div_mul_le_self _ _;exact aL (by omega) (by omega)
theorem OE{l:List (Nat->Int)}{i:Nat}(h:i<l.length):jB (l.getD i default)=(l.map jB)[i]'(by rw[List.length_map];exact h):=by rw[List.getD,apB h,List.getElem_map];rfl
theorem W3{n:Nat}(hn:100<=n){e:bg}{x:bR}(hl:x.aP.length<=90)(h1:e.aP=x.aP.map jB)(h2:e.lu=x.lu):Am n e x=some true:=by
 unfold Am;have hlen:e.aP.length=x.aP.length:=by rw[h1,List.length_map]
 rw[ae (by simp[hlen,h2])];refine fK (λ(i:Int)=>0<=i/\i<=e.aP.length) (λi=>((e.aP.length:Int)-i).toNat) (λo=>o=some true) ?_ n 0 ⟨by omega,by omega⟩ (by omega);rintro kk i ⟨i0,i1⟩ ih;obtain⟨i,rfl⟩:=Int.eq_ofNat_of_zero_le i0;by_cases c:i<e.aP.length
 ·have hg:e.aP.getD (Int.toNat (i:Int)) default=jB (x.aP.getD (Int.toNat (i:Int)) default):=by
   rw[apx,OE (show i<x.aP.length by omega),List.getD,apB c];simp[h1]
  have b1:bM (i:Int) e.aP.length=true:=bG (by omega) (by omega);have b2:bM (i:Int) x.aP.length=true:=bG (by omega) (by omega);rw[ak (by simpa using c),au b1,au b2,b1,b2,au (by simp),au (by simp),hg,ae (by simp[jB]),aL (by omega) (by omega)];exact ih _ ⟨by omega,by omega⟩ (by omega)
 ·rw[ae (by simpa using c)]
def Yw:Int->List Rn->List (Int×Rn)
 |_,[]=>[]
 |b,y::r=>(b,y)::Yw (b+32*y.N) r
def EH(l:List Rn):Prop:=∀y∈l,1<=y.N
theorem uN:∀{l:List Rn},EH l->0<=ep l
 |[],_ =>by simp[ep]
 |y::r,h=>by have:=h y (by simp);have:=uN (l:=r) λz hz=>h z (by simp[hz]);rw[mP];omega
theorem XX{n:Nat}{e:bg}(hn:e.aP.length<n)(hl:e.aP.length<=1000)(hp:EH e.aP)(hs:ep e.aP<=1000):jc n e=some (Yw 0 e.aP):=by
 unfold jc;have key:∀(m i:Nat) (b:Int),i<=e.aP.length->e.aP.length-i<m->0<=b->b+32*ep (e.aP.drop i)<=100000->cJ (λk39 (dL:Int) (eE:Int)=>cn (decide (eE<(e.aP.length:Int))) (gu (bM eE e.aP.length)<|lt ((e.aP.getD (Int.toNat eE) default):aB) λgR=>yl (dL,gR)<|k39 (wr .i64 (dL+(wr .i64 (gR.N*32)))) (wr .i64 (eE+1))) (some [])) m b (i:Int)=some (Yw b (e.aP.drop i)):=by
  intro m
  induction m with
  |zero=>intro i b _ h;omega
  |succ m ih=>
   intro i b hi hm hb hsum;simp only[cJ];by_cases c:i<e.aP.length
   ·have hg:e.aP.getD (Int.toNat (i:Int)) default=e.aP[i]:=by rw[apx,List.getD,apB c];rfl
    have hy:=hp _ (List.getElem_mem c);have hd:e.aP.drop i=e.aP[i]::e.aP.drop (i+1):=List.drop_eq_getElem_cons c;rw[hd,mP]at hsum;have hr:0<=ep (e.aP.drop (i+1)):=uN λz hz=>hp z (List.mem_of_mem_drop hz);rw[ak (by simpa using c),au (bG (by omega) (by omega)),aJ,hg,hd];rw[aL (x:=e.aP[i].N*32) (by omega) (by omega),aL (x:=b+e.aP[i].N*32) (by omega) (by omega),aL (x:=(i:Int)+1) (by omega) (by omega)];have e1:((i:Int)+1)=((i+1:Nat):Int):=by omega
    rw[e1,ih (i+1) (b+e.aP[i].N*32) (by omega) (by omega) (by omega) (by omega)];show some ((b,e.aP[i])::Yw (b+e.aP[i].N*32) (e.aP.drop (i+1)))=some ((b,e.aP[i])::Yw (b+32*e.aP[i].N) (e.aP.drop (i+1)));rw[Int.mul_comm]
   ·rw[ae (by simpa using c),List.drop_eq_nil_of_le (by omega)];rfl
 have:=key n 0 0 (by omega) (by omega) (by omega) (by rw[List.drop_zero];omega);simpa using this
theorem Kv:∀(l:List Rn) (b:Int),(Yw b l).map Prod.snd=l
 |[],_ =>rfl
 |y::r,b=>by rw[Yw,List.map_cons,Kv r]
theorem QV{n:Nat}{e:bg}(hn:e.aP.length<n)(hl:e.aP.length<=1000)(hp:EH e.aP)(hs:ep e.aP<=1000):fe n e=some (ep e.aP):=by unfold fe;rw[ah (show nt n e=some e from rfl),ah (XX hn hl hp hs)];have h0:=uN hp;refine(RR (n:=n) (Yw 0 e.aP) 0 (by omega) (by rw[Kv];omega) λq hq=>hp q.2 (by rw[← Kv e.aP 0];exact List.mem_map_of_mem hq)).trans ?_;rw[Kv];congr 1;omega
theorem aat{n:Nat}(hn:5<=n)(s a:Int):wE n s a=some (if vC s a then((s+31)/32,true)else(0,false)):=by
 unfold wE;rw[ah (NF hn s a)];cases h:vC s a with
 |false=>rfl
 |true=>
  have hs:1<=s/\s<=128:=by
   have h1:(decide (1<=s)&&decide (s<=128))=true:=by unfold vC at h;rw[apv]at h;exact h.1
   simpa using h1
  rw[ae (b:= !true) rfl,aL (x:=s+32) (by omega) (by omega),aL (x:=s+32-1) (by omega) (by omega),Qz (by omega),aL (by omega) (by omega),aps rfl];congr 3;omega
theorem QL{n:Nat}(hn:20<=n)(s a:Int):yt n s a=some (if vC s a then(s+31)/32 else 0):=by
 unfold yt;cases h:vC s a with
 |false=>obtain⟨m,rfl⟩:∃m,n=m+1:=⟨n-1,by omega⟩;simp only[eU];rw[ah (wz _ s a),h];rfl
 |true=>
  have hs:1<=s/\s<=128:=by
   have h1:(decide (1<=s)&&decide (s<=128))=true:=by unfold vC at h;rw[apv]at h;exact h.1
   simpa using h1
  rw[aps rfl];refine fK (λ(x:Int)=>0<=x/\x<=(s+31)/32) (λx=>((s+31)/32-x).toNat) (λo=>o=some ((s+31)/32)) ?_ n 0 ⟨by omega,by omega⟩ (by omega);rintro kk x ⟨x0,x1⟩ ih;rw[ah (wz _ s a),h,aL (x:=32*x) (by omega) (by omega)];by_cases c:32*x<s
  ·rw[ak (by simpa using c),aL (by omega) (by omega)]
   exact ih _ ⟨by omega,by omega⟩ (by omega)
  ·rw[ae (by simpa using c)]
   congr 1;omega
end Go.Proofs.Z
namespace Go.Proofs.Z
open Go Go.Bw
structure CY(l:List Rn):Prop where
 oh:∀y∈l,Ko y.At y.N
 pw:l.Pairwise λy z=>∀p,y.At<=p->p<y.At+y.N->¬(z.At<=p/\p<z.At+z.N)
theorem CY.nil:CY []:=⟨by simp, .nil⟩
theorem zw{l:List Rn}{y:Rn}:CY (l++[y])↔CY l/\Ko y.At y.N/\∀p,y.At<=p->p<y.At+y.N->¬dO l p:=by
 constructor
 ·rintro⟨h1,h2⟩
  obtain⟨p1,p2,p3⟩:=List.pairwise_append.1 h2;exact⟨⟨λz hz=>h1 z (by simp[hz]),p1⟩,h1 y (by simp),λp q1 q2 ⟨z,hz,q3,q4⟩=>p3 z hz y (by simp) p q3 q4 ⟨q1,q2⟩⟩
 ·rintro⟨⟨h1,h2⟩,h3,h4⟩
  refine⟨λz hz=>?_,List.pairwise_append.2 ⟨h2,List.pairwise_singleton _ _,λa ha b hb p q1 q2 q3=>?_⟩⟩
  ·rcases List.mem_append.1 hz with hz|hz
   ·exact h1 z hz
   ·rw[List.mem_singleton.1 hz];exact h3
  ·rw[List.mem_singleton.1 hb]at q3
   exact h4 p q3.1 q3.2 ⟨a,ha,q1,q2⟩
theorem CY.Yn{l:List Rn}(h:CY l):EH l:=λy hy=>(h.oh y hy).1
theorem xm:∀(l m:List Rn),ep (l++m)=ep l+ep m
 |[],m=>by simp[ep]
 |y::r,m=>by rw[List.cons_append,mP,mP,xm r m];omega
theorem QB{l:List Rn}(h:se l):∀i:Nat,Bb l i<=i
 |0=>by rw[Int.natCast_zero,xk h];exact Int.le_refl _
 |i+1=>by
  have:=QB h i;obtain⟨a,b⟩:=xl h i;have e:((i+1:Nat):Int)=(i:Int)+1:=by omega
  rw[e];by_cases c:dO l i
  ·rw[a c];omega
  ·rw[b c];omega
theorem Q9{n:Nat}(hn:110<=n){e:bg}(hl:e.aP.length<=80)(hr:∀y∈e.aP,BB y.At/\BB y.N):∃b,kP n e=some b/\(b=true↔CY e.aP/\ep e.aP<=64/\0<=e.lu/\e.lu<=32*ep e.aP):=by
 unfold kP;refine dY (λ(i:Int) (r:cL)=>0<=i/\i<=e.aP.length/\se r.l/\CY (e.aP.take i.toNat)/\(∀p,dO r.l p↔dO (e.aP.take i.toNat) p)/\ep r.l=ep (e.aP.take i.toNat)) (λi _ =>((e.aP.length:Int)-i).toNat)
  (λo=>∃b,o=some b/\(b=true↔CY e.aP/\ep e.aP<=64/\0<=e.lu/\e.lu<=32*ep e.aP)) ?_ n 0 oo ⟨by omega,by omega,se.nil,CY.nil,λp=>Iff.rfl,rfl⟩ (by omega)
 rintro kk i r ⟨i0,i1,hc,hg,hm,hs⟩ ih;obtain⟨i,rfl⟩:=Int.eq_ofNat_of_zero_le i0;rw[apx]at hg hm hs;by_cases c:i<e.aP.length
 ·have hgd:e.aP.getD (Int.toNat (i:Int)) default=e.aP[i]:=by rw[apx,List.getD,apB c];rfl
  have hy:=hr _ (List.getElem_mem c);have ht:e.aP.take (i+1)=e.aP.take i++[e.aP[i]]:=apC c;rw[ak (by simpa using c),au (bG (by omega) (by omega)),aJ,hgd];obtain⟨r',g,g1,g2,g3,g4⟩:=VR (n:=n) hn hc (at_:=e.aP[i].At) (k:=e.aP[i].N) hy.1 hy.2;rw[ah g1];have alI:g=true↔CY (e.aP.take (i+1)):=by rw[g2,ht,zw];exact⟨λ⟨a,b⟩=>⟨hg,a,λp q1 q2 q3=>b p q1 q2 ((hm p).2 q3)⟩,λ⟨_,a,b⟩=>⟨a,λp q1 q2 q3=>b p q1 q2 ((hm p).1 q3)⟩⟩
  cases g with
  |false=>refine⟨false,rfl,λh=>(by cases h),λ⟨h,_⟩=>?_⟩;rw[← List.take_append_drop (i+1) e.aP]at h;exact alI.2 ⟨λy hy=>h.oh y (apz _ hy),(List.pairwise_append.1 h.pw).1⟩
  |true=>
   obtain⟨c1,c2⟩:=g4 rfl;have ho:=(g2.1 rfl).1;rw[ae (b:= !true) rfl,aL (by omega) (by omega)];have e1:((i:Int)+1).toNat=i+1:=by omega
   refine ih _ _ ⟨by omega,by omega,c1,by rw[e1];exact alI.1 rfl,λp=>?_,?_⟩ (by omega)
   ·rw[e1,ht,ku,nj,c2 p,hm p]
   ·rw[e1,ht,xm, ← hs]
    rw[WR c1 hc (aeX ho) (λp=>by rw[c2 p,nj]) (λp hp hq=>(g2.1 rfl).2 p (nj.1 hq).1 (nj.1 hq).2 hp)]
 ·rw[ae (by simpa using c)]
  obtain rfl:i=e.aP.length:=by omega
  rw[List.take_length]at hg hm hs;have Rs:=QC (lo:=0) hc (λy hy=>(hc.oh y hy).1) (by omega);have h64:ep r.l<=64:=by rw[← ze hc];exact QB hc 64
  rw[ck (QV (n:=n) (by omega) (by omega) hg.Yn (by rw[← hs];omega))];refine⟨_,rfl,?_⟩;by_cases c0:0<=e.lu
  ·have e1:(bif decide (0<=e.lu)==true then ep e.aP else default)=ep e.aP:=by simp[c0]
   rw[e1,aL (by omega) (by omega)];simp only[c0,decide_true,Bool.true_and,decide_eq_true_eq,true_and, ← hs];exact⟨λh=>⟨hg,h64,by omega⟩,λh=>by omega⟩
  ·simp[c0]
end Go.Proofs.Z
