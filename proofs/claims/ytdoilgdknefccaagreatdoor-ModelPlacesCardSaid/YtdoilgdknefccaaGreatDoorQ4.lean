/- Part 4 of what a proof leans on; pruned and shortened by a program out of longer texts. -/
import Derived.Test.YtdoilgdknefccaaGreatDoorQ3
namespace Go.Rw
open Go Go.Bw Go.RowKit
variable {G:Sg} {P:Program}
theorem LH{α:Type}{k:Nat}{vs:List Value}{pre:World->Prop}{pW R:List aO}{p:α->Prop}{fv:α->Value}{fH:α->List aO}{w:World}(hc:Bw.Fn P k vs pre pW p fv fH)(hp:cC (cm (pW++R)) w.heap.size (pW++R) w)(hpre:pre w){Q:Ending->World->Prop}
  (h:∀i w',p i->bG (cm (pW++R)) w w'->cC (cm (pW++R)) w.heap.size (fH i++R) w'->Q (.returned (fv i)) w'):Calls P k vs.toArray w Q:=by
 have hap:=List.pairwise_append.1 hp.apart;have hin:cC (cm pW) w.heap.size pW w:=⟨λr hr=>hp.holds r (ao1 _ hr),λr hr b hb=>⟨.inl (bN.2 ⟨r,hr,hb⟩),(hp.own r (ao1 _ hr) b hb).2⟩,hap.1⟩;have hkeep:∀{w':World},bG (cm pW) w w'->∀r∈R,r.holds w'/\∀b∈r.eL,b<w'.heap.size:=λhsi r hr=>by have hlt:∀b∈r.eL,b<w.heap.size:=λb hb=>(hp.own r (ao0 _ hr) b hb).2;refine⟨aO.om (hp.holds r (ao0 _ hr)) hsi.size λb hb=>hsi.block b (hlt b hb) λhm=>?_,λb hb=>Nat.lt_of_lt_of_le (hlt b hb) hsi.size⟩;obtain⟨q,hq,hbq⟩:=bN.1 hm;exact hap.2.2 q hq r hr b hbq hb
 have hown:∀b∈cm pW,b∈cm (pW++R)\/w.heap.size<=b:=λb hb=>by obtain⟨q,hq,hbq⟩:=bN.1 hb;exact .inl (bN.2 ⟨q,ao1 _ hq,hbq⟩)
 refine(hc.calls w hpre hin).mono λe w' hq=>?_;obtain⟨i,hpi,he,hsi,hh⟩:=hq;subst he;have AY:=hkeep hsi;refine h i w' hpi ((bG.refl _ _).trans hsi hown) ⟨λr hm=>?_,λr hm b hb=>?_,List.pairwise_append.2 ⟨hh.apart,hap.2.1,λr h1 s h2 b hb Vf=>?_⟩⟩
 ·rcases List.mem_append.1 hm with h1|h1
  ·exact hh.holds r h1
  ·exact(AY r h1).1
 ·rcases List.mem_append.1 hm with h1|h1
  ·obtain⟨o,l⟩:=hh.own r h1 b hb
   refine⟨?_,l⟩;rcases o with o|o
   ·exact hown b o
   ·exact .inr o
  ·exact⟨(hp.own r (ao0 _ h1) b hb).1,(AY r h1).2 b hb⟩
 ·obtain⟨o,_⟩:=hh.own r h1 b hb
  rcases o with o|o
  ·obtain⟨q,hq,hbq⟩:=bN.1 o
   exact hap.2.2 q hq s h2 b hbq Vf
  ·exact absurd ((hp.own s (ao0 _ h2) b Vf).2) (by omega)
theorem Xi{k e sz:Nat}{t:Ty}[bR (t.L G)]{f:List (t.T G)->Option (List (t.T G))}(hn:(t.L G).n=sz)(hc:∀v0 a0 r,wv v0 a0.length->f a0=some r->Bw.Fn (α:=Value) P k [v0] (XY (cm [nr v0 e sz (t.L G) a0]) (λ_ =>True)) [nr v0 e sz (t.L G) a0] (λv=>v=v0/\wv v r.length) (λ_ => .tuple #[]) (λv=>[nr v e sz (t.L G) r])):
  Uk P ⟨k,[], .cons (.row e sz t) .nil, .cons (.rZ .nil) (.cons (.row e sz t) .nil),[some 0], .nil,[],[[0]]⟩ (RV _ (λx=>f x.1) (λz=>(z,()))) (λ_ _ =>False):=by
 intro ρ J HS HK X w vs x hv hO hrd hp hk hfr;refine⟨λy ⟨z,hz,e1⟩=>?_,λy h=>h.elim⟩;subst e1;obtain⟨v0,r0,rfl,h0,hr⟩:=hv;obtain rfl:r0=[]:=hr;cases hO with
 |cons ho hO2=>
  cases hO2;obtain⟨v1,ws,h1,rfl,h3,h4,h5⟩:=ho;have hv1:=xY h0 h1;subst hv1;have hws:ws=fQ (t.L G) x.1:=by exact(bR.iff.1 h4).trans (jz (t.L G) (x.1:List (t.T G))).symm
  subst hws;refine LH (pW:=[nr v0 e sz (t.L G) x.1]) (R:=HK++X) (hc v0 x.1 z h3 hz) hp (λ_ _ =>trivial) λi w' ⟨e2,h6⟩ hs HF=>?_;subst e2;refine⟨_,rfl,(bT.set (λ_ =>none) 0 i),J,[],_,[i],λ_ h=>h,?_, .cons ⟨i,_,bT.oe _ _ _,rfl,h6,bR.iff.2 (jz _ _),hn⟩ .nil,HF,hs,hk,λa b hab=>?_,λr hr=>by have hr:1<=r:=hr;simp[bT.set];omega⟩
  ·obtain⟨a0,cp,rfl⟩:=h6
   exact⟨_,_,rfl,⟨_,rfl,rfl⟩,_,_,rfl,⟨_,_,_,bT.oe _ _ _,rfl⟩,rfl⟩
  ·cases a with
   |zero=>cases hab;rw[bT.oe];exact h1.symm
   |succ a=>simp at hab
theorem aaY{k e sz:Nat}{t:Ty}[bR (t.L G)]{β:Type}{f:Int->Option β}(hn:(t.L G).n=sz)(hc:∀a1 r,f a1=some r->Bw.Fn (α:=Value) P k [.slice none 0 0, .int .i64 a1] (λ_ =>True) [] (λv=>wv v 0) (λv=>v) (λv=>[nr v e sz (t.L G) []])):
  Uk (G:=G) P ⟨k,[], .cons .pI (.cons (.v (.int .i64)) .nil), .cons (.row e sz t) .nil,[none], .nil,[],[]⟩ (RV _ (λx=>bd (f x.1) λ_ =>some []) (λz=>(z,()))) (λ_ _ =>False):=by
 intro ρ J HS HK X w vs x hv hO hrd hp hk hfr;refine⟨λy ⟨z,hz,e1⟩=>?_,λy h=>h.elim⟩;subst e1;obtain⟨r,hr,hz⟩:=vx hz;cases hz;obtain⟨u0,r0,rfl,h0,u1,r1,rfl,h1,h2⟩:=hv;cases h0;obtain rfl:r1=[]:=h2;have h1:[u1]=[Value.int .i64 x.1]:=h1;cases h1;cases hO;refine LH (pW:=[]) (R:=HK++X) (hc x.1 r hr) hp trivial λi w' hi hs HF=>?_;refine⟨_,rfl,(bT.set (λ_ =>none) 0 i),J,[],_,[],λ_ h=>h,?_, .cons ⟨i,_,bT.oe _ _ _,rfl,hi,bR.iff.2 (jz _ _),hn⟩ .nil,HF,hs,hk,λa b hab=>?_,λr hr=>by have hr:1<=r:=hr;simp[bT.set];omega⟩
 ·obtain⟨a0,cp,rfl⟩:=hi
  exact⟨_,_,rfl,⟨_,_,_,bT.oe _ _ _,rfl⟩,rfl⟩
 ·cases a with
  |zero=>cases hab
  |succ a=>simp at hab
def aok{k e sz:Nat}{t:Ty}{β:Type}(f:Int->Option β)(hf:(Ll P k).isSome=true)(ok:Uk (G:=G) P ⟨k,[], .cons .pI (.cons (.v (.int .i64)) .nil), .cons (.row e sz t) .nil,[none], .nil,[],[]⟩ (RV _ (λx=>bd (f x.1) λ_ =>some []) (λz=>(z,()))) (λ_ _ =>False)):Ct P G where
 s:=⟨k,[], .cons .pI (.cons (.v (.int .i64)) .nil), .cons (.row e sz t) .nil,[none], .nil,[],[]⟩
 R:=RV _ (λx=>bd (f x.1) λ_ =>some []) (λz=>(z,()))
 Rp:=λ_ _ =>False
 cp:=λx ko _ =>bd (f x.1) λ_ =>ko ([],())
 cg:=λ_ _ _ =>none
 cps:=λx ko kp z h=>by obtain⟨y,h1,h2⟩:=vx h;exact .inl ⟨([],()),⟨[],by show bd (f x.1) _ =_;rw[h1];rfl,rfl⟩,h2⟩
 cgs:=λg x k z h=>by cases h
 fn:=by
  cases h:Ll P k with
  |none=>rw[h]at hf;cases hf
  |some fi=>exact HJ h
 ok:=ok
theorem Vr{Z:Type}{s:Fs}{f:HI G s->Option Z}{mu:Z->HL G (br s.dW)}(h0:∀x:HI G s,(s.bl x).2.1=[])(h1:∀y:HL G (br s.dW),(iA (λm=>m) s.dW y 0).2.1=[])(h2:s.nm=[])
  (hc:∀(ρ:bT) (R:List aO) (x:HI G s) (z:Z) (vs:List Value),Wa G (Hs R)->f x=some z->rl (Hs R) ρ (s.bl x).1 vs->∃p,FnB P s.k vs (Hs R) p/\∀J v,p J v->rl (λw=>Hs R w/\J w) (λ_ =>none) (iA (λm=>m) s.dW (mu z) 0).1 [v]):Uk P s (RV s f mu) (λ_ _ =>False):=by
 intro ρ J HS HK X w vs x hv hO hrd hp hk hfr;refine⟨λy ⟨z,hz,e1⟩=>?_,λy h=>h.elim⟩;subst e1;rw[h0]at hO;cases hO;obtain⟨p,hF,hp1⟩:=hc ρ X x z vs (hk.gl.mono hk.to) hz (hv.mono hk.to);have hX:Hs X w:=λr hr=>⟨hp.holds r (ao0 _ (ao0 _ hr)),λb hb=>(hp.own r (ao0 _ (ao0 _ hr)) b hb).2⟩;refine LH (pW:=[]) (R:=HK++X) hF hp hX λi w' hi hs HF=>?_;obtain⟨q,q1,q2,q3⟩:=XW.one (J:=λw=>J w/\Hs X w) ⟨λw' hw=>⟨hk.to w' hw,hw⟩,hk.ex,hk.gl.mono λ_ h=>h.1⟩ (x:= .ext i.2.1 i.2.2) (w:=w') (HF.holds _ List.mem_cons_self) λb hb=>(HF.own _ List.mem_cons_self b hb).2;refine⟨_,rfl,λ_ =>none,_,[q],[],[],λ_ h=>h.1.1,(hp1 _ _ hi).mono λw h=>⟨h.1.2,h.2⟩,?_,?_,hs,q3,λa b hab=>(by rw[h2]at hab;cases hab),λ_ _ =>rfl⟩
 ·rw[h1];exact .nil
 ·have hx:=List.pairwise_cons.1 HF.apart
  have ht:cC _ w.heap.size (HK++X) w':=⟨λr hr=>HF.holds r (ao6 _ hr),λr hr=>HF.own r (ao6 _ hr),hx.2⟩;have:=ht.cons (r:=q) q1 (λb hb=>HF.own _ List.mem_cons_self b (by rw[← q2];exact hb)) λs hs b hb=>hx.1 s hs b (by rw[← q2];exact hb);exact this.qf List.perm_middle.symm
theorem zf{ct:Ct P G}{R pW:List aO}{ρ:bT}{x:HI G ct.s}{y:HL G (br ct.s.dW)}{v:Value}{vs:List Value}(hz:ct.R x y)(hgl:Wa G (Hs R))(hv:∀J:World->Prop,(∀w,J w->Hs R w)->rl J ρ (ct.s.bl x).1 vs)(h0:(ct.s.bl x).2.1=[])(h1:(iA (λm=>m) ct.s.dW y 0).2.1=[])
  (hro:∀J:World->Prop,(∀w,J w->Hs R w)->∀r o,ga (ct.s.ro x) r=some o->∃z∈pW,ro J ρ r o z)(hfr:ρ.fr (ct.s.bl x).2.2)(hout:∀(J:World->Prop) (σ:bT) u us,rl J σ (iA (λm=>m) ct.s.dW y 0).1 (u::us)->u=v):
  Bw.Fn (α:=Unit) P ct.s.k vs (XY (cm pW) (Hs R)) pW (λ_ =>True) (λ_ =>v) (λ_ =>pW):=by
 refine⟨λargs w=>?_,λw hpre hp=>?_⟩
 ·obtain⟨fn,k1,k2,k3⟩:=ct.fn
  obtain⟨code,k2⟩:=Option.isSome_iff_exists.1 k2;have k3:fn.name≠ "runtime.NumGoroutine" :=λe=>by rw[e]at k3;simp at k3
  simp[callFunc,k1,k2,k3,Go.mark]
 ·have qJ:∀b,b∈(List.range w.heap.size).filter (λb=> !decide (b∈cm pW))↔b<w.heap.size/\b∉cm pW:=λb=>by simp
  generalize(List.range w.heap.size).filter (λb=> !decide (b∈cm pW))=bs at qJ;have st:∀w1:World,(aO.ext bs λw'=>w.heap.size<=w'.heap.size/\∀b∈bs,w'.heap[b]? =w.heap[b]?).holds w1->w.heap.size<=w1.heap.size/\∀b∈bs,w1.heap[b]? =w.heap[b]? :=λw1 h=>h w1 (Nat.le_refl _) λ_ _ =>rfl;have hx:(aO.ext bs λw'=>w.heap.size<=w'.heap.size/\∀b∈bs,w'.heap[b]? =w.heap[b]?).holds w:=λw' h1 h2=>⟨h1,h2⟩;have hxb:(aO.ext bs λw'=>w.heap.size<=w'.heap.size/\∀b∈bs,w'.heap[b]? =w.heap[b]?).eL=bs:=rfl;generalize(aO.ext bs λw'=>w.heap.size<=w'.heap.size/\∀b∈bs,w'.heap[b]? =w.heap[b]?)=x0 at st hx hxb;have key:∀w',Hs [x0] w'->Hs R w':=λw' h=>by
   have h1:=st w' (h _ List.mem_cons_self).1;have h2:=hpre {w with heap:=w'.heap} ⟨rfl,rfl,rfl,h1.1,λk hk hn=>h1.2 k ((qJ k).2 ⟨hk,hn⟩)⟩
   exactλr hr=>⟨aO.om (h2 r hr).1 (Nat.le_refl _) λ_ _ =>rfl,(h2 r hr).2⟩
  have hk:XW G [x0] (Hs [x0]):=⟨λ_ h=>h,λw1 w2 h1 h2 b hb=>by
   have hb:b∈bs:=by simpa[cm,hxb]using hb
   rw[(st w1 (h1 _ List.mem_cons_self).1).2 b hb,(st w2 (h2 _ List.mem_cons_self).1).2 b hb],hgl.mono key⟩
  have hin:∀b∈cm pW,b∈cm ([]++(pW++[x0])):=λb hb=>by simp[cm]at hb ⊢;exact .inl hb
  have HF:cC (cm ([]++(pW++[x0]))) w.heap.size ([]++(pW++[x0])) w:=by
   refine(cC.cons (r:=x0) (⟨hp.holds,λr hr b hb=>⟨.inl (hin b (bN.2 ⟨r,hr,hb⟩)),(hp.own r hr b hb).2⟩,hp.apart⟩:cC (cm ([]++(pW++[x0]))) w.heap.size pW w) hx (λb hb=>?_) λs hs b hb Vf=>?_).qf (List.perm_append_comm (l₁:=[x0]))
   ·exact⟨.inl (bN.2 ⟨x0,by simp,hb⟩),((qJ b).1 (hxb▸hb)).1⟩
   ·exact((qJ b).1 (hxb▸hb)).2 (bN.2 ⟨s,hs,Vf⟩)
  refine((ct.ok ρ (Hs [x0]) [] pW [x0] w vs x (hv _ key) (by rw[h0];exact .nil) (hro _ key) HF hk hfr).1 y hz).mono λen w' hq=>?_;obtain⟨u,e1,σ,J',Y,HS',us,mJ,hr,hO,hp3,hsi,hkn,_,_⟩:=hq;rw[h1]at hO;cases hO;have hsub:pW.Sublist ([]++(pW++(Y++[x0]))):=by simp
  refine⟨(),trivial,e1.trans (by rw[hout _ _ _ _ hr]),⟨hsi.os,hsi.tape,hsi.output,hsi.size,λk hk hn=>?_⟩,⟨λr hr=>hp3.holds r (hsub.subset hr),λr hr b hb=>⟨.inl (bN.2 ⟨r,hr,hb⟩),(hp3.own r (hsub.subset hr) b hb).2⟩,hp3.apart.sublist hsub⟩⟩;exact(st w' (hp3.holds x0 (by simp))).2 k ((qJ k).2 ⟨hk,hn⟩)
theorem aaT{α:Type}[Inhabited α]{A:World->Prop}{v:Value}{L:dB α}[bR L]{xs:List α}(h:Fz A v L xs):DL A v L (fQ L xs) xs:=⟨h.sl,bR.iff.2 (jz L xs),h.ro⟩
theorem alr{α:Type}[Inhabited α]{A:World->Prop}{v:Value}{L:dB α}[bR L]{ws:List Value}{xs:List α}(h:DL A v L ws xs):Fz A v L xs:=by have e:ws=fQ L xs:=(bR.iff.1 h.eZ).trans (jz L xs).symm;subst e;exact⟨h.sl,h.ro⟩
theorem WW{α:Type}[Inhabited α]{A:World->Prop}{L:dB α}[bR L]{cs:List Value}{xs:List α}(h:(V9 L).eZ A cs xs):(PN L).eZ A cs xs:=by obtain⟨v,e,h⟩:=h;exact⟨v,_,e,aaT h⟩
theorem agW{α:Type}[Inhabited α]{A:World->Prop}{L:dB α}[bR L]{cs:List Value}{xs:List α}(h:(PN L).eZ A cs xs):(V9 L).eZ A cs xs:=by obtain⟨v,_,e,h⟩:=h;exact⟨v,e,alr h⟩
theorem ahQ{k:Nat}{vs:List Value}{K:World->Prop}{v:Value}(h:FnW P k vs K v):FnB P k vs K λ_ u=>u=v:=⟨h.enter,λw hw hp=>(h.calls w hw hp).mono λe w' hq=>by
 obtain⟨_,_,e1,h2,h3⟩:=hq;exact⟨(v,[],λ_ =>True),rfl,e1,h2,(h3:cC _ _ [] w').cons (r:= .ext [] λ_ =>True) (λ_ _ _ =>trivial) (λb hb=>by cases hb) λs hs=>by cases hs⟩⟩
theorem Fn.pre{α:Type}{k:Nat}{vs:List Value}{K K':World->Prop}{pW:List aO}{p:α->Prop}{fv:α->Value}{fH:α->List aO}(h:Bw.Fn P k vs K pW p fv fH)(m:∀w,K' w->K w):Bw.Fn P k vs K' pW p fv fH:=⟨h.enter,λw hw hp=>h.calls w (m w hw) hp⟩
theorem aei{k:Nat}{vs vs':List Value}{K K':World->Prop}{p:(World->Prop)->Value->Prop}(h:FnB P k vs K p)(m:∀w,K' w->K w)(e:vs=vs'):FnB P k vs' K' p:=by subst e;exact⟨h.enter,λw hw hp=>h.calls w (m w hw) hp⟩
theorem Hh{J:World->Prop}{ρ:bT}{b:AV G}{t:Ty}{x:t.T G}{vs:List Value}(h:rl J ρ (.cons (.dat t x) b) vs)(ha:t.ag=true):∃(cs r:List Value),vs= .agg cs.toArray::r/\(t.L G).eZ J cs x/\rl J ρ b r:=by obtain⟨u,r,rfl,⟨u',e,h1,h2,_⟩,h3⟩:=h;cases e;obtain⟨cs,rfl⟩:=h2 ha;exact⟨cs,r,rfl,h1,h3⟩
theorem Ou{J:World->Prop}{ρ:bT}{b:AV G}{k:IntKind}{i:Int}{vs:List Value}(h:rl J ρ (.cons (.int k i) b) vs):∃r:List Value,vs= .int k i::r/\rl J ρ b r:=by obtain⟨u,r,rfl,h1,h3⟩:=h;have h1:[u]=[.int k i]:=h1;cases h1;exact⟨r,rfl,h3⟩
theorem EK{J:World->Prop}{ρ:bT}{t:Ty}{x:t.T G}{cs:List Value}(h:(t.L G).eZ J cs x)(ha:t.ag=true):rl J ρ (.dat t x) [.agg cs.toArray]:=⟨_,rfl,h,λ_ =>⟨_,rfl⟩,λq=>by rw[ha]at q;cases q⟩
theorem afb{J:World->Prop}{ρ:bT}{e:Ty}[bR (e.L G)]{xs:List (e.T G)}{u:Value}(h:Fz J u (e.L G) xs):rl (G:=G) J ρ (.dat (.sl e) xs) [u]:=by obtain⟨a,cp,rfl⟩:=h.sl;exact⟨_,rfl,⟨_,_,rfl,aaT h⟩,nofun,λ_ =>rfl⟩
theorem afH{α β γ:Type}{a:Option α}{f:α->Option β}{h:β->Option γ}:bd (bd a f) h=bd a λy=>bd (f y) h:=by cases a<;>rfl
theorem alT{α β:Type}{c:Bool}{a b:Option α}{h:α->Option β}:bd (cn c a b) h=cn c (bd a h) (bd b h):=by cases c<;>rfl
theorem alS{α β:Type}{c:Bool}{a:Option α}{h:α->Option β}:bd (gu c a) h=gu c (bd a h):=by cases c<;>rfl
theorem QS{α β:Type}{F:(Int->Option α)->Int->Option α}{F':(Int->Option β)->Int->Option β}{h:α->Option β}(k:∀K i,bd (F K i) h=F' (λi=>bd (K i) h) i):∀(n:Nat) (i:Int),bd (fK F n i) h=fK F' n i
 |0,_ =>rfl
 |n+1,i=>by show bd (F (fK F n) i) h=F' (fK F' n) i;rw[k,funext λi=>QS k n i]
end Go.Rw
namespace Go.Proofs.Z
open Go Go.Bw
instance:ke Tryz.prog 3 ([.int .i64 0]):=⟨by kernel_rfl⟩
instance:sR Tryz.prog 4:=⟨by kernel_rfl⟩
instance:sR Tryz.prog 23:=⟨by kernel_rfl⟩
instance:sR Tryz.prog 24:=⟨by kernel_rfl⟩
instance:ke Tryz.prog 24 ([.int .u32 0]):=⟨by kernel_rfl⟩
instance:wu Tryz.prog 30 3:=⟨by kernel_rfl⟩
instance:Gk Tryz.prog 30 0 0:=⟨by kernel_rfl⟩
instance:Gk Tryz.prog 30 1 1:=⟨by kernel_rfl⟩
instance:TPl Tryz.prog 30 [(0,1),(1,1),(2,1)]:=⟨by kernel_rfl⟩
instance:Uf Tryz.prog 30 [(0,some .u32),(1,none),(2,none)]:=⟨by kernel_rfl⟩
instance:ke Tryz.prog 30 ([.int .u32 0, .bool false, .bool false]):=⟨by kernel_rfl⟩
instance:Dz Tryz.prog 31 32 30 3:=⟨by kernel_rfl⟩
instance:wu Tryz.prog 33 96:=⟨by kernel_rfl⟩
instance:Gk Tryz.prog 33 0 0:=⟨by kernel_rfl⟩
instance:sR Tryz.prog 36:=⟨by kernel_rfl⟩
instance:zo Tryz.prog 36 110 2:=⟨by kernel_rfl⟩
instance:PF Tryz.prog 36 110 2 16:=⟨by kernel_rfl⟩
instance:wu Tryz.prog 38 2:=⟨by kernel_rfl⟩
instance:TPl Tryz.prog 38 [(0,1),(1,1)]:=⟨by kernel_rfl⟩
instance:ke Tryz.prog 38 ([.slice none 0 0, .int .i64 0]):=⟨by kernel_rfl⟩
instance:wu Tryz.prog 53 5:=⟨by kernel_rfl⟩
instance:TPl Tryz.prog 53 [(0,1),(1,1),(2,1),(3,1),(4,1)]:=⟨by kernel_rfl⟩
instance:ke Tryz.prog 53 ([.int .u32 0, .int .u8 0, .int .u8 0, .bool false, .int .u32 0]):=⟨by kernel_rfl⟩
instance:Dz Tryz.prog 54 16 53 5:=⟨by kernel_rfl⟩
instance:wu Tryz.prog 56 176:=⟨by kernel_rfl⟩
instance:sR Tryz.prog 81:=⟨by kernel_rfl⟩
instance:zo Tryz.prog 81 3 1:=⟨by kernel_rfl⟩
instance:PF Tryz.prog 81 3 1 8:=⟨by kernel_rfl⟩
instance:sR Tryz.prog 82:=⟨by kernel_rfl⟩
instance:zo Tryz.prog 82 190 10:=⟨by kernel_rfl⟩
instance:PF Tryz.prog 82 190 10 24:=⟨by kernel_rfl⟩
instance:wu Tryz.prog 84 2:=⟨by kernel_rfl⟩
instance:Gk Tryz.prog 84 0 0:=⟨by kernel_rfl⟩
instance:Gk Tryz.prog 84 1 1:=⟨by kernel_rfl⟩
instance:TPl Tryz.prog 84 [(0,1),(1,1)]:=⟨by kernel_rfl⟩
instance:ke Tryz.prog 84 ([.slice none 0 0, .slice none 0 0]):=⟨by kernel_rfl⟩
instance:wu Tryz.prog 110 2:=⟨by kernel_rfl⟩
instance:ke Tryz.prog 110 ([.int .i64 0, .int .i64 0]):=⟨by kernel_rfl⟩
instance:wu Tryz.prog 190 10:=⟨by kernel_rfl⟩
instance:ke Tryz.prog 190 ([.int .i64 0, .int .i64 0, .bool false, .bool false, .bool false, .bool false, .bool false, .bool false, .bool false, .bool false]):=⟨by kernel_rfl⟩
instance:zo Tryz.prog 248 24 1:=⟨by kernel_rfl⟩
instance:PF Tryz.prog 248 24 1 4:=⟨by kernel_rfl⟩
instance:sR Tryz.prog 262:=⟨by kernel_rfl⟩
instance:sR Tryz.prog 316:=⟨by kernel_rfl⟩
theorem Z3:Tryz.prog.follows .mixedOrders=true:=by kernel_rfl
end Go.Proofs.Z
namespace Go.Proofs.Z
open Go Go.Bw
def tb:Tb:=⟨[(7,[(0,0),(1,1),(2,2),(3,3)]),(8,[(0,0),(1,1),(2,2),(3,3)]),(13,[(0,0),(1,1)]),(14,[(0,0),(1,1)]),(18,[(0,0)]),(19,[(0,0)]),(26,[(0,0),(1,1),(2,2),(3,3),(4,4),(5,5)]),(27,[(0,0),(1,1),(2,2),(3,3),(4,4),(5,5)]),(29,[(0,0),(1,1),(2,2)]),(30,[(0,0),(1,1),(2,2)]),(32,[(0,0)]),(33,[(0,0)]),(34,[(0,0)]),(35,[(0,0)]),(37,[(0,0),(1,1)]),(38,[(0,0),(1,1)]),(40,[(0,0),(1,1),(2,2),(3,4)]),(41,[(0,0),(1,1),(2,2),(3,4)]),(43,[(0,0),(1,96)]),(44,[(0,0),(1,96)]),(45,[(0,0),(1,1),(2,2)]),(46,[(0,0),(1,1),(2,2)]),(47,[(0,0),(1,1)]),(48,[(0,0),(1,1)]),(50,[(0,0)]),(51,[(0,0)]),(52,[(0,0),(1,1),(2,2),(3,3),(4,4)]),(53,[(0,0),(1,1),(2,2),(3,3),(4,4)]),(55,[(0,0),(1,96)]),(56,[(0,0),(1,96)]),(57,[(0,0),(1,480),(2,608)]),(58,[(0,0),(1,480),(2,608)]),(59,[(0,0),(1,1),(2,2),(3,3)]),(60,[(0,0),(1,1),(2,2),(3,3)]),(62,[(0,0),(1,16),(2,17),(3,18)]),(63,[(0,0),(1,16),(2,17),(3,18)]),(66,[(0,0),(1,784),(2,936),(3,944)]),(67,[(0,0),(1,784),(2,936),(3,944)]),(70,[(0,0),(1,32)]),(71,[(0,0),(1,32)]),(73,[(0,0),(1,1)]),(74,[(0,0),(1,1)]),(76,[(0,0),(1,1),(2,2),(3,4)]),(77,[(0,0),(1,1),(2,2),(3,4)]),(79,[(0,0),(1,64)]),(80,[(0,0),(1,64)]),(83,[(0,0),(1,1)]),(84,[(0,0),(1,1)]),(85,[(0,0),(1,1),(2,2),(3,3),(4,4)]),(86,[(0,0),(1,1),(2,2),(3,3),(4,4)]),(88,[(0,0),(1,64)]),(89,[(0,0),(1,64)]),(90,[(0,0),(1,448),(2,450)]),(91,[(0,0),(1,448),(2,450)]),(93,[(0,0),(1,1)]),(94,[(0,0),(1,1)]),(98,[(0,0),(1,674),(2,690),(3,698),(4,706),(5,738)]),(99,[(0,0),(1,674),(2,690),(3,698),(4,706),(5,738)]),(101,[(0,0)]),(102,[(0,0)]),(104,[(0,0)]),(105,[(0,0)]),(107,[(0,0),(1,1)]),(108,[(0,0),(1,1)]),(109,[(0,0),(1,1)]),(110,[(0,0),(1,1)]),(115,[(0,0),(1,1),(2,2)]),(116,[(0,0),(1,1),(2,2)]),(119,[(0,0),(1,1),(2,2)]),(120,[(0,0),(1,1),(2,2)]),(123,[(0,0),(1,1),(2,2),(3,3),(4,4),(5,5)]),(124,[(0,0),(1,1),(2,2),(3,3),(4,4),(5,5)]),(142,[(0,0),(1,952),(2,953),(3,959),(4,961),(5,962),(6,963)]),(143,[(0,0),(1,952),(2,953),(3,959),(4,961),(5,962),(6,963)]),(189,[(0,0),(1,1),(2,2)]),(190,[(0,0),(1,1),(2,2)]),(196,[(0,0),(1,1),(2,2),(3,3)]),(197,[(0,0),(1,1),(2,2),(3,3)]),(229,[(0,0),(1,1),(2,2),(3,3)]),(230,[(0,0),(1,1),(2,2),(3,3)]),(240,[(0,0),(1,1),(2,2),(3,3),(4,4),(5,5),(6,6),(7,7),(8,8),(9,9),(10,10)]),(241,[(0,0),(1,1),(2,2),(3,3),(4,4),(5,5),(6,6),(7,7),(8,8),(9,9),(10,10)])],[(2, .i64),(3, .i64),(5, .u8),(6, .u8),(12, .u64),(21, .i32),(23, .u32),(24, .u32),(25, .u64),(114, .i64),(154, .u64),(234, .u8),(235, .u8),(238, .i32),(239, .i32)]⟩
instance:RL Tryz.prog tb:=⟨by kernel_rfl⟩
end Go.Proofs.Z
namespace Go.Bw
open Go Go.RowKit
section
variable {P:Program} {N:Nat} {c:Cx} {F:gp} {H:List aO} {d:Option Tmp} {ty:TypeId} {ps:String} {af:Array Edge} {g:Option (Nat×Bool)} {β:Type} {b:Nat} {q:IntKind} {E:β->Value} {l:List (Int×β)} {f:aO->List aO}
theorem H9{x y z:Operand}{t kt e:TypeId}{k:Int}{v:Value}(u:β)[ht:LV P t kt e q](hx:ev F x=some (.map (some b)))(hy:ev F y=some (.int q k))(hz:ev F z=some v)[hm:JO H b β q E l f](hv:v=E u):
  RX (α:=Unit) P N c ⟨d, .insert t x y z,ty,ps,af,g⟩ F H (λ_ =>True) (λ_ =>undef) (λ_ =>f (Mp b q E (qw l k u))):=λD a w next Q hst hk=>by
 subst hv;obtain⟨es,clock,h1,h2⟩:=hm.aeb hst.hp;obtain⟨t1,t2⟩:=ht.ok;have hf:=vp (k:=k) w t2 h2;have hc:∀em,(Instr.checkKey em 10000 kt (.int q k)).run P w= .ok () w:=λem=>MapKept.run_checkKey (k:= .int q k) t2 (show q=q from rfl) em 9999;cases hm1:ji l k with
 |none=>obtain⟨p1,p2⟩:=hm.put hst h1 (h2.push k u);refine tK (by simp) (w':=w.putObj b (.map (es.push ⟨.int q k,E u,clock⟩) (clock+1))) ?_ (hk () _ trivial p1 (by rw[Hw hm1];exact p2));rw[hm1]at hf;simp[execOp,bz hst.fr hx,bz hst.fr hy,bz hst.fr hz,Instr.mapUpdate,run_underlying t1,MapKept.run_getObj_map h1,hc,hf,MapKept.run_setObj_map _ h1,Result.andThen,World.putObj]
 |some p=>
  have hg:=CR (j:=p.1) (y:=p.2) hm1;obtain⟨p1,p2⟩:=hm.put hst h1 (h2.modify p.1 k u);refine tK (by simp) (w':=w.putObj b (.map (es.modify p.1 λe=>{e with key:= .int q k,val:=E u}) clock)) ?_ (hk () _ trivial p1 (by rw[Hv (j:=p.1) (y:=p.2) hm1];exact p2));rw[hm1]at hf;have hkey:((es[p.1]?).map (·.key))=some (.int q k):=by
   have:(es.toList.map λe=>(e.key,e.val))[p.1]? =some (Value.int q k,E p.2):=by rw[h2.kv,List.getElem?_map,hg];rfl
   rw[List.getElem?_map,Array.getElem?_toList]at this;cases he:es[p.1]? with
   |none=>simp[he]at this
   |some e0=>simp[he]at this;simp[this.1]
  simp[execOp,bz hst.fr hx,bz hst.fr hy,bz hst.fr hz,Instr.mapUpdate,run_underlying t1,MapKept.run_getObj_map h1,hc,hf,hkey,MapKept.run_keyThatStays (show MapKept.IsKey (.int q) (.int q k)from rfl),MapKept.run_setObj_map _ h1,Result.andThen,World.putObj]
theorem Aq{l:List (Int×Value)}{x y:Operand}{t kt e:TypeId}{k:Int}(z v:Value)(bb:Bool)[ht:LV P t kt e q][hz:XU P e z](hx:ev F x=some (.map (some b)))(hy:ev F y=some (.int q k))[hm:JO H b Value q (λv=>v) l f](h1:qG l k z=v)(h2:y7 l k=bb):
  VS P N c ⟨d, .lookup t x y true,ty,ps,af,g⟩ F H (.tuple #[v, .bool bb]):=by
 subst h1 h2;haveI:XU P e ((λv:Value=>v) z):=hz;exact Ub (E:=λv:Value=>v) z hx hy
theorem UY{u0 u1 u2 z:Value}{k:Int}(h0:¬k=0)(h1:¬k=1)(h2:¬k=2):qG (qw (qw (qw [] 0 u0) 1 u1) 2 u2) k z=z/\y7 (qw (qw (qw [] 0 u0) 1 u1) 2 u2) k=false:=by
 show qG [(0,u0),(1,u1),(2,u2)] k z=z/\y7 [(0,u0),(1,u1),(2,u2)] k=false;have e0:(k==0)=false:=by simpa using h0
 have e1:(k==1)=false:=by simpa using h1
 have e2:(k==2)=false:=by simpa using h2
 simp[qG,y7,ji,e0,e1,e2]
end
end Go.Bw
namespace Go.Proofs.Z
open Go Go.Bw Go.Rw Go.RowKit
noncomputable section
theorem Rm:ajd Tryz.prog 217 114 1 (λ(e:Int)=>([.int .i64 e]:List Value)):=by
 have hf:=Tryz.func217;refine⟨λargs w=>?_,λb w=>?_,λb Tb xs e w hn hb=>?_⟩
 ·have h1:Tryz.f217.name≠ "runtime.NumGoroutine" :=by
   intro h;have:(Tryz.f217.name== "runtime.NumGoroutine")=false:=by kernel_rfl
   rw[h]at this;simp at this
  have h2:Tryz.f217.body.isSome=true:=by kernel_rfl
  obtain⟨code,h2⟩:=Option.isSome_iff_exists.1 h2;simp[callFunc,hf,h1,h2,Go.mark]
 ·refine callsDIn_of_wpSIn hf rfl trivial λc₀ cs hu=>?_
  apply wpSIn_seq;apply wpSIn_region;simp[wpOpsSIn,go_sem,recoverD,hu,Tryz.ntmps217,Exit.thenS];apply wpSIn_seq;apply wpSIn_region;simp[wpOpsSIn,go_sem,recoverD,hu,Tryz.ntmps217,Exit.thenS];refine wpSIn_cond (t:=false) (by simp[Act.eval,Array.replicate]) ?_;simp only[Bool.false_eq_true,if_false];refine wpSIn_of_wpIn rfl (wpIn_skip ?_);cases c₀;simp_all[bodyPostS,results,bG.refl]
 ·have hi:Tryz.prog.underlying 114=some (.int .i64):=by kernel_rfl
  refine callsDIn_of_wpSIn hf rfl trivial λc₀ cs hu=>?_;apply wpSIn_seq;apply wpSIn_region;simp[wpOpsSIn,go_sem,recoverD,hu,Tryz.ntmps217,Exit.thenS];refine wpSIn_of_wpIn rfl ?_;have key:WP Tryz.prog Tryz.f217.ntmps ⟨none,w,[b]⟩ [] (match Tryz.f217.body with
   |some (.seq _ y)=>y
   |_ => .skip) (λen a' w'=>(en= .normal\/en= .ret)/\a'.defers=[]/\bG [b] w w'/\w'.heap[b]? =some (.cells ((λ(e:Int)=>([.int .i64 e]:List Value)) e).toArray Tb (0,0))) [(2, .iface 114 (.int .i64 e)),(0,fW b 0)] [.cells b Tb xs]:=by
   refine Ao ?_;refine rI ?_;refine cJ rfl (dH rfl) ?_;refine cJ (v:= .bool true) rfl (bp (by simp) λa w hf _ _ =>by
    have h6:=hf 6 _ rfl;have he:=run_equal_held_nil (P:=Tryz.prog) w 20 114 (.int .i64 e) (by kernel_rfl);simp[execOp,go_sem,Act.eval,h6,eqGuard,binOp,he]) ?_
   refine Ap ?_;refine wm ?_;refine RH rfl (λhc=>?_) (λhc=>?_);rotate_left
   ·cases hc
   refine Ao ?_;refine rI ?_;refine cJ rfl (dH rfl) ?_;refine cJ (v:= .tuple #[.int .i64 e, .bool true]) rfl (bp (by simp) λa w hf _ _ =>by simp[execOp,bz hf (x:= .tmp 9) rfl,Instr.typeAssert,run_underlying hi]) ?_;refine cJ rfl (dH rfl) ?_;refine cJ rfl (tY rfl rfl) ?_;refine cJ rfl (tY rfl rfl) ?_;refine cJ rfl (wE rfl) ?_;refine cJ rfl (wE rfl) ?_;refine Ap ?_;refine wm ?_;refine Ao ?_;refine Ao ?_;refine rI ?_;refine cJ rfl (dH rfl) ?_;refine cJ rfl (H7 rfl) ?_;refine Ap ?_;refine wm ?_;refine RH rfl (λhc=>?_) (λhc=>?_)
   ·cases hc
   refine J8 ?_;refine wm ?_;haveI:Ue Tryz.prog 114 1:=⟨by kernel_rfl⟩;refine rI ?_;refine cJ rfl (dH rfl) ?_;refine cJ rfl (dH rfl) ?_;refine cJ rfl (Cr rfl) ?_;refine I8 (uX (n:=1) (vs:=[.int .i64 e]) (cs':=[.int .i64 e]) rfl rfl rfl rfl (by rw[hn];decide) (Aw rfl) (by
    match xs,hn with
    |[_],_ =>rfl)) (λ_ _ =>?_)
   refine Ap ?_
   exactλa w' hst=>⟨.inl rfl,hst.df,hst.si,hst.hp.holds (.cells b Tb ((λ(e:Int)=>([.int .i64 e]:List Value)) e)) (by simp)⟩
  refine wpIn_mono (key _ w ⟨by simp[Tryz.ntmps217],λd v h=>?_,rfl,bG.refl _ _,?_⟩) λen a' w' ⟨h1,h2,h3,h4⟩=>?_
  ·simp only[lk]at h
   cases h0:Nat.beq 2 d with
   |true=>rw[h0]at h;obtain rfl:=aoW h0;cases h;simp
   |false=>
    rw[h0]at h;simp only[cond_false]at h;cases h00:Nat.beq 0 d with
    |true=>rw[h00]at h;obtain rfl:=aoW h00;cases h;simp
    |false=>rw[h00]at h;cases h
  ·refine(cC.nil _ _ _).cons hb (λb' hb'=>?_) (λs hs=>by cases hs)
   have e2:b'=b:=by simpa[aO.eL]using hb'
   subst e2;exact⟨.inl (by simp),(ao2.1 hb).1⟩
  ·rcases h1 with rfl|rfl
   ·exact⟨h2,_,rfl,_,by simp[results];rfl,⟨_,rfl⟩,rfl,h3,h4⟩
   ·exact⟨h2,_,rfl,_,by simp[results];rfl,⟨_,rfl⟩,rfl,h3,h4⟩
theorem Ag:ajd Tryz.prog 47 114 3 (λ(e:Int)=>(eD.enc ⟨e,0,0⟩:List Value)):=by
 have hf:=Tryz.func47;refine⟨λargs w=>?_,λb w=>?_,λb Tb xs e w hn hb=>?_⟩
 ·have h1:Tryz.f47.name≠ "runtime.NumGoroutine" :=by
   intro h;have:(Tryz.f47.name== "runtime.NumGoroutine")=false:=by kernel_rfl
   rw[h]at this;simp at this
  have h2:Tryz.f47.body.isSome=true:=by kernel_rfl
  obtain⟨code,h2⟩:=Option.isSome_iff_exists.1 h2;simp[callFunc,hf,h1,h2,Go.mark]
 ·refine callsDIn_of_wpSIn hf rfl trivial λc₀ cs hu=>?_
  apply wpSIn_seq;apply wpSIn_region;simp[wpOpsSIn,go_sem,recoverD,hu,Tryz.ntmps47,Exit.thenS];apply wpSIn_seq;apply wpSIn_region;simp[wpOpsSIn,go_sem,recoverD,hu,Tryz.ntmps47,Exit.thenS];refine wpSIn_cond (t:=false) (by simp[Act.eval,Array.replicate]) ?_;simp only[Bool.false_eq_true,if_false];refine wpSIn_of_wpIn rfl (wpIn_skip ?_);cases c₀;simp_all[bodyPostS,results,bG.refl]
 ·have hi:Tryz.prog.underlying 114=some (.int .i64):=by kernel_rfl
  refine callsDIn_of_wpSIn hf rfl trivial λc₀ cs hu=>?_;apply wpSIn_seq;apply wpSIn_region;simp[wpOpsSIn,go_sem,recoverD,hu,Tryz.ntmps47,Exit.thenS];refine wpSIn_of_wpIn rfl ?_;have key:WP Tryz.prog Tryz.f47.ntmps ⟨none,w,[b]⟩ [] (match Tryz.f47.body with
   |some (.seq _ y)=>y
   |_ => .skip) (λen a' w'=>(en= .normal\/en= .ret)/\a'.defers=[]/\bG [b] w w'/\w'.heap[b]? =some (.cells ((λ(e:Int)=>(eD.enc ⟨e,0,0⟩:List Value)) e).toArray Tb (0,0))) [(1, .iface 114 (.int .i64 e)),(0,fW b 0)] [.cells b Tb xs]:=by
   refine Ao ?_;refine rI ?_;refine cJ rfl (dH rfl) ?_;refine cJ (v:= .bool true) rfl (bp (by simp) λa w hf _ _ =>by
    have h6:=hf 5 _ rfl;have he:=run_equal_held_nil (P:=Tryz.prog) w 20 114 (.int .i64 e) (by kernel_rfl);simp[execOp,go_sem,Act.eval,h6,eqGuard,binOp,he]) ?_
   refine Ap ?_;refine wm ?_;refine RH rfl (λhc=>?_) (λhc=>?_);rotate_left
   ·cases hc
   refine Ao ?_;refine rI ?_;refine cJ rfl (dH rfl) ?_;refine cJ (v:= .tuple #[.int .i64 e, .bool true]) rfl (bp (by simp) λa w hf _ _ =>by simp[execOp,bz hf (x:= .tmp 8) rfl,Instr.typeAssert,run_underlying hi]) ?_;refine cJ rfl (dH rfl) ?_;refine cJ rfl (tY rfl rfl) ?_;refine cJ rfl (tY rfl rfl) ?_;refine cJ rfl (wE rfl) ?_;refine cJ rfl (wE rfl) ?_;refine Ap ?_;refine wm ?_;refine Ao ?_;refine Ao ?_;refine rI ?_;refine cJ rfl (dH rfl) ?_;refine cJ rfl (H7 rfl) ?_;refine Ap ?_;refine wm ?_;refine RH rfl (λhc=>?_) (λhc=>?_)
   ·cases hc
   refine J8 ?_;refine wm ?_;haveI:Ue Tryz.prog 116 3:=⟨by kernel_rfl⟩;haveI:ke Tryz.prog 116 vl:=⟨by kernel_rfl⟩;haveI:TPl Tryz.prog 116 [(0,1),(1,1),(2,1)]:=⟨by kernel_rfl⟩;refine rI ?_;refine cJ rfl (dH rfl) ?_;refine cJ rfl (sQ (cs:=eD.enc ⟨e,0,0⟩) rfl rfl) ?_;refine I8 (uX (n:=3) (vs:=eD.enc ⟨e,0,0⟩) (cs':=eD.enc ⟨e,0,0⟩) rfl rfl rfl rfl (by rw[hn];decide) (Aw rfl) (by
    match xs,hn with
    |[_,_,_],_ =>rfl)) (λ_ _ =>?_)
   refine Ap ?_
   exactλa w' hst=>⟨.inl rfl,hst.df,hst.si,hst.hp.holds (.cells b Tb ((λ(e:Int)=>(eD.enc ⟨e,0,0⟩:List Value)) e)) (by simp)⟩
  refine wpIn_mono (key _ w ⟨by simp[Tryz.ntmps47],λd v h=>?_,rfl,bG.refl _ _,?_⟩) λen a' w' ⟨h1,h2,h3,h4⟩=>?_
  ·simp only[lk]at h
   cases h0:Nat.beq 1 d with
   |true=>rw[h0]at h;obtain rfl:=aoW h0;cases h;simp
   |false=>
    rw[h0]at h;simp only[cond_false]at h;cases h00:Nat.beq 0 d with
    |true=>rw[h00]at h;obtain rfl:=aoW h00;cases h;simp
    |false=>rw[h00]at h;cases h
  ·refine(cC.nil _ _ _).cons hb (λb' hb'=>?_) (λs hs=>by cases hs)
   have e2:b'=b:=by simpa[aO.eL]using hb'
   subst e2;exact⟨.inl (by simp),(ao2.1 hb).1⟩
  ·rcases h1 with rfl|rfl
   ·exact⟨h2,_,rfl,_,by simp[results];rfl,⟨_,rfl⟩,rfl,h3,h4⟩
   ·exact⟨h2,_,rfl,_,by simp[results];rfl,⟨_,rfl⟩,rfl,h3,h4⟩
def eks:List (Ek Tryz.prog sg):=[⟨217,114,1,λ(e:Int)=>([.int .i64 e]:List Value),λe=> .int .i64 e,λ_ _ e=>⟨.int .i64 e,rfl,rfl⟩,Rm⟩,⟨47,114,3,λ(e:Int)=>(eD.enc ⟨e,0,0⟩:List Value),λe=> .dat (.st 32) (⟨e,0,0⟩:aA),λJ _ e=>⟨.agg (eD.enc ⟨e,0,0⟩).toArray,⟨_,rfl,bR.iff (L:=eD) (J:=J)|>.2 rfl,λ_ =>⟨_,rfl⟩,nofun⟩,rfl⟩,Ag⟩]
abbrev CT:=Ct Tryz.prog sg
abbrev eK:Sh:= .box 143 (.st (.part 952 (.v (.st 17)) (.part 1 (.v (.int .i64)) (.part 6 (.v (.st 0)) (.part 2 (.v (.st 5)) (.part 1 (.v (.int .i64)) (.part 1 (.v .bool) (.part 1 (.row 110 2 (.st 5)) .nil))))))))
def g7{R:Type}(y:bB×Int×aN×aB×Int×Bool×(List aB)×R):aq:=⟨y.1,y.2.1,y.2.2.1,y.2.2.2.1,y.2.2.2.2.1,y.2.2.2.2.2.1,y.2.2.2.2.2.2.1⟩
def h7{R:Type}(z:aq)(r:R):bB×Int×aN×aB×Int×Bool×(List aB)×R:=(z.av,z.aE,z.c,z.run,z.pJ,z.Gf,z.gO,r)
def vw0:VwA sg:=⟨[(.int .i64),(.st 17),(.int .i64),(.st 0),(.st 5),(.int .i64), .bool,(.sl (.st 5))],λB n e=>cH (λk x0 (x1:aq)=>B (λe=>k e.1 (g7 e.2)) (x0,h7 x1 ())) n e.1 (g7 e.2),λ_ _ =>rfl,λ_ _ _ =>rfl⟩
abbrev tW(n:Nat)(h:List (Nat×Hn))(cs:List (Ct Tryz.prog sg)):Ba Tryz.prog sg:=ajN tt zt n h cs [] [] eks
abbrev tX(n:Nat)(h:List (Nat×Hn))(cs:List (Ct Tryz.prog sg))(vs:List (Nat×VwA sg))(its:List (It Tryz.prog sg)):Ba Tryz.prog sg:=ajN tt zt n h cs vs its eks
def u9(x y:aB):Bool:=x.At==y.At&&x.N==y.N
def xM(x y:eR):Bool:=x.gen==y.gen&&x.oh==y.oh&&x.mR==y.mR
def bZ(n:Nat):Ct Tryz.prog sg:=afl (tW n [] []) 219 114 (by kernel_rfl) (λx=>by kernel_rfl)
def bO(n:Nat):Ct Tryz.prog sg:=afl (tW n [] []) 48 114 (by kernel_rfl) (λx=>by kernel_rfl)
def JS(n:Nat)(a0:Int):Option cG:=cn (decide ((if 64<a0 then 64 else a0)<1)) (lt ({l:=[]}:cG) λbg=>some bg) (lt ({At:=0,N:=(if 64<a0 then 64 else a0)}:aB) λeP=>lt ({l:=([eP]:List aB)}:cG) λjl=>some jl)
def Wg(n:Nat):CT:=cV (tW n [] []) (gN 7 [.i] [.s 30]) (a1 (JS n)) u1 m1
def AW(n:Nat)(a0:(List aB)):Option (List aB):=some a0
def Fb(n:Nat):CT:=cV (tW n [] []) ⟨76,[], .cons (.v (.sl (.st 5))) .nil, .cons (.fn (.func 99) .nil (.cons (.box 36 (.v (.sl (.st 5)))) .nil)) .nil,[none], .nil,[],[]⟩ (a1 (AW n)) u1 m1
def su(n:Nat)(a0:cG):Option (List aB):=bd (AW n a0.l) λgH=>some gH
def yP(n:Nat):CT:=cV (tW n [] [Fb n]) ⟨40,[], .cons (.v (.st 30)) .nil, .cons (.fn (.func 99) .nil (.cons (.box 36 (.v (.sl (.st 5)))) .nil)) .nil,[none], .nil,[],[]⟩ (a1 (su n)) u1 m1
def mQ(n:Nat)(a1:(List aB)):Option (List (Int×aB)):=fK (λFT (jl:Int)=>cn (decide (jl<(a1.length:Int))) (gu (bQ jl a1.length)<|lt ((a1.getD (Int.toNat jl) default):aB) λrL=>yl (jl,rL)<|FT (wr .i64 (jl+1))) (some [])) n 0
def vV(n:Nat):It Tryz.prog sg:=mkI (tX n [(3, .loop [(.slot 7,(.v (.int .i64)))])] [] [] []) 3000 99 (.cons (.box 36 (.v (.sl (.st 5)))) .nil) (.cons (.v (.int .i64)) (.cons (.v (.st 5)) .nil)) (.int (.st (G:=sg) (i:=5) (λ(x:aB)=>dB.enc cM x) (λJ cs x=>bR.iff (L:=cM)) .nil)) (B:=Int×aB) (λy=>(y.1,(y.2,()))) (λx=>(x.1,x.2.1)) (λx=>mQ n x.1) (λ_ =>rfl) (by kernel_rfl) (λx=>by kernel_rfl)
def sw(n:Nat)(a0:cG)(a1:Int):Option (Int×Bool):=bd (su n a0) λbg=>bd (mQ n bg) λfX=>sH (λ(P4:Int×aB) k28 (u27:Unit)=>lt (P4.1:Int) λew=>lt (P4.2:aB) λjN=>cn ((decide (1<=a1)&&decide (a1<=jN.N))) (some (jN.At,true)) (k28 ())) (λ(u27:Unit)=>some (0,false)) fX ()
def GV(n:Nat):CT:=cV (tX n [(5, .loop [(.via 4, .box 3 (.unk 1)),(.via 5, .box 4 (.unk 1))])] [yP n] [] [vV n]) (gN 20 [.s 30, .i] [.t [.i, .b]]) (a2 (sw n)) u2 m2
def cy(n:Nat)(a0:aB):Option Int:=some (wr .i64 (a0.At+a0.N))
def wL(n:Nat):CT:=cV (tW n [] []) (gN 45 [.s 5] [.i]) (a1 (cy n)) u1 m1
def sx(n:Nat)(a0:aB):Option Bool:=some ((decide (1<=a0.N)&&decide (0<=a0.At))&&decide (a0.At<=(wr .i64 (64-a0.N))))
def BB(n:Nat):CT:=cV (tW n [] []) (gN 41 [.s 5] [.b]) (a1 (sx n)) u1 m1
def fF(n:Nat)(a1:Int):Option Unit:=lt (λ(u21:Unit)=>cn (decide (0<(wr .i64 (a1-0)))) (gu (O9 (wr .i64 (a1-0)) 16)<|some ()) (some ())) λR2=>cn (decide (a1<0)) (none) (R2 ())
namespace H
theorem yI{n a1 r}(h:fF n a1=some r):Bw.Fn (α:=Value) Tryz.prog 77 [.slice none 0 0, .int .i64 a1] (λ_ =>True) [] (λv=>wv v 0) (λv=>v) (λv=>[nr v 110 2 cM []]):=by
 unfold fF at h;refine xw Tryz.func77 (by kernel_rfl) rfl Tryz.ntmps77 rfl (λcx qJ hpre hro=>?_);refine SC 5 rf ?_;obtain⟨R2,anQ,h⟩:=uL h;refine CU (α:=Unit) [0,1] rf (λu21=>[]) (λu21=>[]) (λu21=>R2 u21=some r) ?_ ?_
 ·
  refine SC 6 rf ?_;refine P5 h rf (λhc h=>?_) λhc h=>?_
  ·cases h
  ·refine J8 ?_;exact CE [] (()) h rf rf rf
 ·
  rintro u21 h;replace h:R2 u21=some r:=h;replace h:=akC anQ h;refine SC 5 rf ?_;refine cJ rfl (V4 rfl) ?_;refine cJ rfl (dH rfl) ?_;refine cJ rfl (wo (Fz.nil (A:=Hs []) (L:=LB)) rfl) ?_;refine cJ rfl (T9 (abW rfl rfl rfl) rfl) ?_;refine SL 10 rf ?_;refine P5 h rf (λhc h=>?_) λhc h=>?_
  ·obtain⟨Jz,h⟩:=rm h;refine SC 3 rf ?_;refine cJ rfl (V4 rfl) ?_;refine cJ rfl (NN rfl rfl) ?_;refine cJ rfl (dH rfl) ?_;refine zh rfl (aeZ (q:= .i64) (bytes:=16) cM (by kernel_rfl) rfl rfl Jz) (λ⟨b24,aol⟩ _ =>?_);refine cJ rfl (dH rfl) ?_;refine cJ rfl (wo (Fz.nil (A:=Hs []) (L:=LB)) rfl) ?_;refine cJ rfl (ab2 rfl rfl) ?_;refine SL 10 rf ?_;have h:=sj h;subst h;exact Cq (.slice (some ⟨b24,0,none⟩) 0 aol) rfl (.tmp rfl .nil) ⟨_,_,rfl⟩ rfl (ks:=[0]) rfl (by decide)
  ·refine SC 9 rf ?_;refine aeF 110 2 cM ?_;have h:=sj h;subst h;exact Cq (.slice none 0 0) rfl (.tmp rfl .nil) ⟨_,_,rfl⟩ rfl (ks:=[0]) rfl (by decide)
end H
def yx(n:Nat):Ct Tryz.prog sg:=
 letI:bR ((Ty.st 5).L sg):=inferInstanceAs (bR cM)
 aok (λa=>fF n a) (by kernel_rfl) (aaY (t:= .st 5) rfl λa1 r h=>H.yI h)
def rh(n:Nat)(a0:(List (List aB))):Option (List aB):=cH (λk27 (gH:Int) (iv:Int)=>cn (decide (iv<(a0.length:Int))) (gu (bQ iv a0.length)<|cn (decide ((wr .i64 (gH+((a0.getD (Int.toNat iv) default).length:Int)))<0)) (none) (k27 (wr .i64 (gH+((a0.getD (Int.toNat iv) default).length:Int))) (wr .i64 (iv+1)))) (bd (fF n gH) λeJ=>cH (λk45 (rL:(List aB)) (vC:Int)=>cn (decide (vC<(a0.length:Int))) (gu (bQ vC a0.length)<|gu (gw rL.length (a0.getD (Int.toNat vC) default).length 16)<|lt (rL++(a0.getD (Int.toNat vC) default):List aB) λtC=>k45 tC (wr .i64 (vC+1))) (some rL)) n ([]:List aB) 0)) n 0 0
def BA(n:Nat):CT:=cV (tW n [(7, .loop [(.slot 3,(.v (.int .i64))),(.slot 11,(.v (.int .i64)))]),(23, .loop [(.slot 6,(.row 110 2 (.st 5))),(.slot 27,(.v (.int .i64)))])] [yx n]) ⟨46,[], .cons (.v (.sl (.sl (.st 5)))) .nil, .cons (.row 110 2 (.st 5)) .nil,[none], .nil,[],[]⟩ (a1 (rh n)) u1 m1
def sy(n:Nat)(a0:aB)(a1:aB):Option Bool:=cl (((u9 a1 a0)==false)&&((decide (a0.At<=a1.At))==true)) (cy n a1) default λbg=>cl (((u9 a1 a0)==false)&&((decide (a0.At<=a1.At))==true)) (cy n a0) default λbV=>some ((u9 a1 a0)||(decide (a0.At<=a1.At)&&decide (bg<=bV)))
def GX(n:Nat):CT:=cV (tW n [] [wL n]) (gN 43 [.s 5, .s 5] [.b]) (a2 (sy n)) u1 m1
def qd(n:Nat)(a0:aB)(a1:aB):Option Bool:=bd (sy n a0 a1) λbg=>some bg
def Ei(n:Nat):CT:=cV (tW n [] [GX n]) ⟨42,[(110, .v (.st 5))], .cons (.v (.st 5)) (.cons (.cQ 0) .nil), .cons (.v .bool) .nil,[], .nil,[],[]⟩ (λx=>qd n x.2.1 x.1) u1 m1
def dD(n:Nat)(a0:(List aB))(mE:aB):Option Int:=fK (λzX (bV:Int)=>cn (decide (bV<(a0.length:Int))) (gu (bQ bV a0.length)<|bd (qd n (a0.getD (Int.toNat bV) default) mE) λeP=>cn (eP) (some bV) (zX (wr .i64 (bV+1)))) (some (-1))) n 0
def oA(n:Nat):CT:=cV (tW n [(5, .loop [(.slot 8,(.v (.int .i64)))])] [Ei n]) ⟨44,[(110, .v (.st 5))], .cons (.v (.sl (.st 5))) (.cons (.fn (.func 42) .nil (.cons (.cQ 0) .nil)) .nil), .cons (.v (.int .i64)) .nil,[], .nil,[],[]⟩ (λx=>dD n x.2.1 x.1) u1 m1
def ia(n:Nat)(RF:(List aB))(T8:(List aB))(aeD:(List aB)):Option (List aB):=cn (decide ((wr .i64 (0+(RF.length:Int)))<0)) (none) (cn (decide ((wr .i64 ((wr .i64 (0+(RF.length:Int)))+(T8.length:Int)))<0)) (none) (cn (decide ((wr .i64 ((wr .i64 ((wr .i64 (0+(RF.length:Int)))+(T8.length:Int)))+(aeD.length:Int)))<0)) (none) (bd (fF n (wr .i64 ((wr .i64 ((wr .i64 (0+(RF.length:Int)))+(T8.length:Int)))+(aeD.length:Int)))) λbg=>gu (gw ([]:List aB).length RF.length 16)<|lt (([]:List aB)++RF:List aB) λiB=>gu (gw iB.length T8.length 16)<|lt (iB++T8:List aB) λdZ=>gu (gw dZ.length aeD.length 16)<|lt (dZ++aeD:List aB) λew=>some ew)))
def nI(n:Nat)(a0:cG)(a1:Int)(a2:Int):Option (cG×Bool):=lt ({At:=a1,N:=a2}:aB) λbg=>bd (sx n bg) λbV=>cn ((!bV)) (some (a0,false)) (bd (dD n a0.l bg) λgj=>cn (decide (gj<0)) (some (a0,false)) (gu (bQ gj a0.l.length)<|lt ((a0.l.getD (Int.toNat gj) default):aB) λjN=>lt (λ(kX:(List aB))=>lt (λ(Bx:(List aB))=>gu (bQ gj (a0.l.length+1))<|gu (bQ (wr .i64 (gj+1)) (a0.l.length+1))<|bd (ia n (a0.l.take (Int.toNat gj)) Bx (a0.l.drop (Int.toNat (wr .i64 (gj+1))))) λxS=>lt ({l:=xS}:cG) λMs=>some (Ms,true)) λj51=>bd (cy n bg) λyN=>bd (cy n jN) λx53=>cn (decide (yN<x53)) (bd (cy n bg) λDT=>bd (cy n jN) λAI=>bd (cy n bg) λWc=>lt ({At:=DT,N:=wr .i64 (AI-Wc)}:aB) λXI=>gu (gw kX.length 1 16)<|lt (kX++([XI]):List aB) λuo=>j51 uo) (j51 kX)) λj40=>cn (decide (jN.At<bg.At)) (lt ({At:=jN.At,N:=wr .i64 (bg.At-jN.At)}:aB) λgy=>gu (gw ([]:List aB).length 1 16)<|lt (([]:List aB)++([gy]):List aB) λxN=>j40 xN) (j40 ([]:List aB))))
theorem ag1{n:Nat}{a b c:List aB}:rh (n+4) [a,b,c]=ia n a b c:=by kernel_rfl
def tF(n:Nat)(a0:cG)(a1:Int)(a2:Int):Option (cG×Bool):=lt ({At:=a1,N:=a2}:aB) λbg=>bd (sx n bg) λbV=>cn ((!bV)) (some (a0,false)) (bd (dD n a0.l bg) λgj=>cn (decide (gj<0)) (some (a0,false)) (gu (bQ gj a0.l.length)<|lt ((a0.l.getD (Int.toNat gj) default):aB) λjN=>lt (λ(kX:(List aB))=>lt (λ(Bx:(List aB))=>gu (bQ gj (a0.l.length+1))<|gu (bQ (wr .i64 (gj+1)) (a0.l.length+1))<|bd (rh (n+4) [a0.l.take (Int.toNat gj),Bx,a0.l.drop (Int.toNat (wr .i64 (gj+1)))]) λxS=>lt ({l:=xS}:cG) λMs=>some (Ms,true)) λj51=>bd (cy n bg) λyN=>bd (cy n jN) λx53=>cn (decide (yN<x53)) (bd (cy n bg) λDT=>bd (cy n jN) λAI=>bd (cy n bg) λWc=>lt ({At:=DT,N:=wr .i64 (AI-Wc)}:aB) λXI=>gu (gw kX.length 1 16)<|lt (kX++([XI]):List aB) λuo=>j51 uo) (j51 kX)) λj40=>cn (decide (jN.At<bg.At)) (lt ({At:=jN.At,N:=wr .i64 (bg.At-jN.At)}:aB) λgy=>gu (gw ([]:List aB).length 1 16)<|lt (([]:List aB)++([gy]):List aB) λxN=>j40 xN) (j40 ([]:List aB))))
theorem HR(n:Nat)(a0:cG)(a1:Int)(a2:Int):tF n a0 a1 a2=nI n a0 a1 a2:=by unfold tF nI;simp only[ag1]
def GU(n:Nat):CT:=cV (tW n [(24, .join [(.slot 12,(.row 110 2 (.st 5)))] []),(28, .join [(.slot 12,(.row 110 2 (.st 5)))] [])] [BB n,oA n,wL n,BA (n+4)]) (gN 21 [.s 30, .i, .i] [.t [.s 30, .b]]) (a3 (nI n)) u2 m2 (hW:=λx=>Eq.trans (b:=tF n x.1 x.2.1 x.2.2.1) (by kernel_rfl) (HR ..))
def pC(n:Nat)(a0:cG)(a1:Int)(a2:Int):Option (cG×Bool):=lt ({At:=a1,N:=a2}:aB) λbg=>bd (sx n bg) λbV=>cn ((!bV)) (some (a0,false)) (bd (su n a0) λiB=>bd (mQ n iB) λdZ=>aan (λ(e56:Int×aB) k42 (kX:Bool) (qn:(List aB)) (gy:aB)=>lt (e56.1:Int) λDT=>lt (e56.2:aB) λAI=>bd (cy n AI) λXI=>cn (decide (XI<gy.At)) (gu (gw qn.length 1 16)<|lt (qn++([AI]):List aB) λuo=>k42 kX uo gy) (bd (cy n gy) λSb=>cn (decide (Sb<AI.At)) (lt (λ(Um:Bool) (x64:(List aB))=>gu (gw x64.length 1 16)<|lt (x64++([AI]):List aB) λJh=>k42 Um Jh gy) λj67=>cn ((!kX)) (gu (gw qn.length 1 16)<|lt (qn++([gy]):List aB) λAH=>j67 true AH) (j67 kX qn)) (bd (cy n AI) λMs=>cn ((Ms==gy.At)) (lt ({At:=AI.At,N:=wr .i64 (AI.N+gy.N)}:aB) λNY=>k42 kX qn NY) (bd (cy n gy) λPO=>cn ((AI.At==PO)) (lt ({gy with N:=wr .i64 (gy.N+AI.N)}:aB) λKh=>k42 kX qn Kh) (some (a0,false)))))) (λ(kX:Bool) (qn:(List aB)) (gy:aB)=>cn ((!kX)) (gu (gw qn.length 1 16)<|lt (qn++([gy]):List aB) λKg=>lt ({l:=Kg}:cG) λx87=>some (x87,true)) (lt ({l:=qn}:cG) λMZ=>some (MZ,true))) dZ false ([]:List aB) bg)
def yQ(n:Nat):CT:=cV (tX n [(15, .loop [(.via 10, .box 4 (.v .bool)),(.via 9, .box 36 (.row 110 2 (.st 5))),(.via 8, .box 110 (.v (.st 5))),(.via 6, .box 102 (.unk 1)),(.via 7, .box 4 (.unk 1))]),(30, .join [(.via 10, .box 4 (.v .bool)),(.via 9, .box 36 (.row 110 2 (.st 5)))] [])] [BB n,yP n,wL n] [] [vV n]) (gN 34 [.s 30, .i, .i] [.t [.s 30, .b]]) (a3 (pC n)) u2 m2
def eH(n:Nat)(a0:bP):Option (List Int):=cH (λNt (eP:(List Int)) (dZ:Int)=>cn (decide (dZ<(a0.aU.length:Int))) (cH (λk46 (lJ:(List Int)) (oT:Int)=>gu (bQ dZ a0.aU.length)<|cn (decide (oT<(wr .i64 (32*((a0.aU.getD (Int.toNat dZ) default) 1))))) (gu (bQ dZ a0.aU.length)<|gu (gw lJ.length 1 8)<|lt (lJ++([wr .i64 ((wr .i64 (32*((a0.aU.getD (Int.toNat dZ) default) 0)))+oT)]):List Int) λDT=>k46 DT (wr .i64 (oT+1))) (Nt lJ (wr .i64 (dZ+1)))) n eP 0) (some eP)) n ([]) 0
def pe(n:Nat):CT:=cV (tW n [(7, .loop [(.slot 3,(.row 3 1 (.int .i64))),(.slot 4,(.v (.int .i64)))]),(13, .loop [(.slot 3,(.row 3 1 (.int .i64))),(.slot 5,(.v (.int .i64)))])] []) ⟨17,[], .cons (.v (.st 19)) .nil, .cons (.row 3 1 (.int .i64)) .nil,[none], .nil,[],[]⟩ (a1 (eH n)) u1 m1
def j8(n:Nat)(a0:aT):Option aT:=some a0
def rY(n:Nat):CT:=cV (tW n [] []) ⟨75,[], .cons (.v (.st 6)) .nil, .cons (.fn (.func 98) .nil (.cons (.box 38 (.v (.st 6))) .nil)) .nil,[none], .nil,[],[]⟩ (a1 (j8 n)) u1 m1
def iV(n:Nat)(a1:aT):Option (List (Int×aB)):=cH (λk39 (dZ:Int) (eJ:Int)=>cn (decide (eJ<(a1.aU.length:Int))) (gu (bQ eJ a1.aU.length)<|lt ((a1.aU.getD (Int.toNat eJ) default):aB) λgy=>yl (dZ,gy)<|k39 (wr .i64 (dZ+(wr .i64 (gy.N*32)))) (wr .i64 (eJ+1))) (some [])) n 0 0
def qH(n:Nat):It Tryz.prog sg:=mkI (tX n [(5, .loop [(.slot 3,(.v (.int .i64))),(.slot 9,(.v (.int .i64)))])] [] [] []) 3000 98 (.cons (.box 38 (.v (.st 6))) .nil) (.cons (.v (.int .i64)) (.cons (.v (.st 5)) .nil)) (.int (.st (G:=sg) (i:=5) (λ(x:aB)=>dB.enc cM x) (λJ cs x=>bR.iff (L:=cM)) .nil)) (B:=Int×aB) (λy=>(y.1,(y.2,()))) (λx=>(x.1,x.2.1)) (λx=>iV n x.1) (λ_ =>rfl) (by kernel_rfl) (λx=>by kernel_rfl)
def ld(n:Nat)(a0:aT)(a1:Int):Option (Int×Bool):=bd (j8 n a0) λbg=>bd (iV n bg) λfX=>sH (λ(P4:Int×aB) k28 (u27:Unit)=>lt (P4.1:Int) λew=>lt (P4.2:aB) λjN=>cn ((decide (ew<=a1)&&decide (a1<(wr .i64 (ew+(wr .i64 (jN.N*32))))))) (lt (wr .i64 ((wr .i64 ((wr .i64 (jN.At*32))+a1))-ew):Int) λkX=>some (kX,true)) (k28 ())) (λ(u27:Unit)=>some (0,false)) fX ()
def A3(n:Nat):CT:=cV (tX n [(5, .loop [(.via 4, .box 3 (.unk 1)),(.via 5, .box 4 (.unk 1))])] [rY n] [] [qH n]) (gN 36 [.s 6, .i] [.t [.i, .b]]) (a2 (ld n)) u2 m2
def we(n:Nat)(a0:Int)(a1:Int):Option Bool:=some ((decide (1<=a0)&&decide (a0<=128))&&((((a1==1)||(a1==2))||(a1==4))||(a1==8)))
def BG(n:Nat):CT:=cV (tW n [] []) (gN 78 [.i, .i] [.b]) (a2 (we n)) u1 m1
def yb(n:Nat)(a0:Int)(a1:Int):Option Int:=fK (λzX (bV:Int)=>bd (we n a0 a1) λiB=>cn ((iB&&decide ((wr .i64 (32*bV))<a0))) (zX (wr .i64 (bV+1))) (some bV)) n 0
def Mx(n:Nat):CT:=cV (tW n [(5, .loop [(.slot 5,(.v (.int .i64)))])] [BG n]) (gN 49 [.i, .i] [.i]) (a2 (yb n)) u1 m1
def oV(n:Nat)(a0:bP)(a1:Int)(a2:Int):Option Int:=bd (eH n a0) λbg=>fK (λk29 (iB:Int)=>bd (we n a1 a2) λdZ=>cn ((dZ&&decide ((wr .i64 (iB+a1))<=(bg.length:Int)))) (gu (a2 !=0)<|cn (((Int.tmod iB a2)==0)) (some iB) (k29 (wr .i64 (iB+1)))) (some (-1))) n a0.jW
def Dm(n:Nat):CT:=cV (tW n [(7, .loop [(.slot 8,(.v (.int .i64)))])] [pe n,BG n]) (gN 52 [.s 19, .i, .i] [.i]) (a3 (oV n)) u1 m1
def dP(n:Nat)(a0:bP):Option Bool:=sF (λk31 (iB:Int) (eP:Int) (gj:(Nat->Bool))=>cn (decide (eP<(a0.aU.length:Int))) (gu (bQ eP a0.aU.length)<|gu (bQ eP a0.aU.length)<|cn (((((decide (((a0.aU.getD (Int.toNat eP) default) 1)<1)||decide (64<((a0.aU.getD (Int.toNat eP) default) 1)))||decide (((a0.aU.getD (Int.toNat eP) default) 0)<0))||decide (63<((a0.aU.getD (Int.toNat eP) default) 0)))||decide (64<(wr .i64 (((a0.aU.getD (Int.toNat eP) default) 0)+((a0.aU.getD (Int.toNat eP) default) 1)))))) (some false) (cH (λk47 (oT:Int) (xN:(Nat->Bool))=>cn (decide (oT<(wr .i64 (((a0.aU.getD (Int.toNat eP) default) 0)+((a0.aU.getD (Int.toNat eP) default) 1))))) (gu (bQ oT 64)<|cn ((xN (Int.toNat oT))) (some false) (gu (bQ oT 64)<|lt ((dm xN (Int.toNat oT) true):(Nat->Bool)) λtC=>k47 (wr .i64 (oT+1)) tC)) (k31 (wr .i64 (iB+((a0.aU.getD (Int.toNat eP) default) 1))) (wr .i64 (eP+1)) xN)) n ((a0.aU.getD (Int.toNat eP) default) 0) gj)) (some (decide (0<=a0.jW)&&decide (a0.jW<=(wr .i64 (32*iB)))))) n 0 0 (λ_ =>false)
def wN(n:Nat):CT:=cV (tW n [(9, .loop [(.slot 4,(.v (.int .i64))),(.slot 5,(.v (.int .i64))),(.via 3, .box 209 (.v (.ou 64 .bool)))]),(21, .loop [(.slot 8,(.v (.int .i64))),(.via 3, .box 209 (.v (.ou 64 .bool)))])] []) (gN 53 [.s 19] [.b]) (a1 (dP n)) u1 m1
def eW(n:Nat)(a0:aT):Option Int:=bd (j8 n a0) λbg=>bd (iV n bg) λfX=>sH (λ(e35:Int×aB) k29 (gj:Int)=>lt (e35.1:Int) λs9=>lt (e35.2:aB) λew=>lt (wr .i64 (gj+ew.N):Int) λnt=>k29 nt) (λ(gj:Int)=>some gj) fX 0
def mw(n:Nat):CT:=cV (tX n [(7, .loop [(.via 3, .box 3 (.v (.int .i64)))])] [rY n] [] [qH n]) (gN 158 [.s 6] [.i]) (a1 (eW n)) u1 m1
def kM(n:Nat)(a0:aT):Option Bool:=cH (λk38 (g8:Int) (s9:cG)=>cn (decide (g8<(a0.aU.length:Int))) (gu (bQ g8 a0.aU.length)<|lt ((a0.aU.getD (Int.toNat g8) default):aB) λlJ=>bd (pC n s9 lJ.At lJ.N) λgy=>cn ((!gy.2)) (some false) (k38 (wr .i64 (g8+1)) gy.1)) (cl ((decide (0<=a0.jW))==true) (eW n a0) default λyN=>some (decide (0<=a0.jW)&&decide (a0.jW<=(wr .i64 (yN*32)))))) n 0 n9
def vR(n:Nat):CT:=cV (tW n [(7, .loop [(.slot 11,(.v (.int .i64))),(.via 3, .box 102 (.v (.st 30)))])] [yQ n,mw n]) (gN 121 [.s 6] [.b]) (a1 (kM n)) u1 m1
def so(n:Nat)(a0:(List Int))(a1:Int):Option Int:=fK (λzX (bV:Int)=>cn (decide (bV<(a0.length:Int))) (gu (bQ bV a0.length)<|cn ((a1==(a0.getD (Int.toNat bV) default))) (some bV) (zX (wr .i64 (bV+1)))) (some (-1))) n 0
def Dc(n:Nat):CT:=cV (tW n [(5, .loop [(.slot 8,(.v (.int .i64)))])] []) (gN 248 [.v (.sl (.int .i64)), .i] [.i]) (a2 (so n)) u1 m1
def jX(n:Nat)(a0:(List Int))(a1:Int):Option Bool:=bd (so n a0 a1) λbg=>some (decide (0<=bg))
def zA(n:Nat):CT:=cV (tW n [] [Dc n]) (gN 232 [.v (.sl (.int .i64)), .i] [.b]) (a2 (jX n)) u1 m1
def oK(n:Nat)(a0:Int)(a1:Int):Option Bool:=cl ((decide (1<=a0)&&decide (a0<=128))==true) (jX n ([1,2,4,8]:List Int) a1) default λiB=>some ((decide (1<=a0)&&decide (a0<=128))&&iB)
def AQ(n:Nat)(a0:Int)(a1:Int):Option Bool:=cn (decide (1<=a0)&&decide (a0<=128)) (bd (jX n ([1,2,4,8]:List Int) a1) λx=>some x) (some false)
theorem JC(n:Nat)(a0 a1:Int):AQ n a0 a1=oK n a0 a1:=aim
def AP(n:Nat):CT:=cV (tW n [] [zA n]) (gN 194 [.i, .i] [.b]) (a2 (oK n)) u1 m1 (hW:=λx=>Eq.trans (b:=AQ n x.1 x.2.1) (by kernel_rfl) (JC ..))
def wk(n:Nat)(a0:Int)(a1:Int):Option (Int×Bool):=bd (oK n a0 a1) λbg=>cn ((!bg)) (some (0,false)) (some (wr .i64 (Int.tdiv (wr .i64 ((wr .i64 (a0+32))-1)) 32),true))
def Kw(n:Nat):CT:=cV (tW n [] [AP n]) (gN 155 [.i, .i] [.t [.i, .b]]) (a2 (wk n)) u2 m2
def ng(n:Nat)(a0:Int)(a1:Int):Option Int:=some (C2 .i64 (wr .i64 ((wr .i64 (a0+a1))-1)) (wr .i64 (a1-1)))
def zE(n:Nat):CT:=cV (tW n [] []) ⟨195,[(3, .v (.int .i64))], .cons (.v (.int .i64)) (.cons (.cQ 0) .nil), .cons (.v (.int .i64)) .nil,[], .nil,[],[]⟩ (λx=>ng n x.2.1 x.1) u1 m1
def mj(n:Nat)(a0:aT)(a1:Int)(a2:Int):Option (Int×Bool):=bd (oK n a1 a2) λbg=>cn ((!bg)) (some (0,false)) (bd (ng n a0.jW a2) λbV=>bd (eW n a0) λgH=>cn (decide ((wr .i64 (gH*32))<(wr .i64 (bV+a1)))) (some (0,false)) (some (bV,true)))
def uH(n:Nat):CT:=cV (tW n [] [AP n,zE n,mw n]) (gN 157 [.s 6, .i, .i] [.t [.i, .b]]) (a3 (mj n)) u2 m2
def jK(n:Nat)(a0:aT)(a1:aB):Option aT:=gu (gw a0.aU.length 1 16)<|lt (a0.aU++([a1]):List aB) λiv=>bd (eW n a0) λgj=>lt ({aU:=iv,jW:=wr .i64 (gj*32)}:aT) λjl=>some jl
namespace H
theorem xA{a0 K}[Cs K]{v0}(f0:Fz K v0 cM a0):FnW Tryz.prog 196 [v0] K (AZ v0):=by refine xw Tryz.func196 (by kernel_rfl) rfl Tryz.ntmps196 rfl (λcx qJ hpre hro=>?_);haveI:=ag7 qJ hpre;refine SC 9 rf ?_;refine cJ rfl (wo f0 rfl) ?_;refine cJ rfl (dH rfl) ?_;refine cJ rfl (wo f0 rfl) ?_;refine cJ rfl (ab3 f0 rfl rfl rfl) ?_;refine SL 4 rf ?_;skip;skip;exact RV rf (rt rf rn) rf
abbrev kW:dB aT:=dB.via (LP (V9 cM) (LI .i64)) (λx=>(x.aU,x.jW))
def lI:List Value:=[.slice none 0 0]++([.int .i64 0])
theorem pY{A:World->Prop}:kW.eZ A lI dG:=⟨_,_,rfl,⟨_,rfl,Fz.nil⟩,rfl⟩
theorem CJ:aW kW (V9 cM) 0 (λx=>x.aU) (λx v=>{x with aU:=v}):=(aW.fst aW.id).via _ _ _ 0 rfl (λ_ =>rfl) (λ_ _ =>rfl)
theorem A9{n:Nat}{a0:aT}{r:Int}{R:List aO}(hg:Wa sg (Hs R)){vX:List Value}(f0:(kW).eZ (Hs R) vX a0)(h:eW n a0=some r):FnW Tryz.prog 158 [.agg vX.toArray] (Hs R) (.int .i64 r):=by
 obtain⟨c1,c2,e0,k0,k1⟩:=f0;exact Fn.pre (zf (ct:=mw n) (pW:=[]) (ρ:=λ_ =>none) (x:=(a0,())) (y:=(r,())) ⟨r,h,rfl⟩ hg (λJ hJ=>⟨_,_,rfl,EK (t:= .st 6) (dB.mono _ hJ ⟨c1,c2,e0,WW k0,k1⟩) rfl,rfl⟩) rfl rfl (λJ _ r o e=>by cases e) (λ_ _ =>rfl) λJ σ u us ⟨_,_,e,h1,_⟩=>by
  cases e;have h1:[u]=[.int .i64 _]:=h1;cases h1;rfl) λw hw=>λw' hs=>Cs.ok w w' hw hs
theorem Ch{n a0 a1 r}{R:List aO}(hg:Wa sg (Hs R)){vX}(f0:(kW).eZ (Hs R) vX a0)(h:jK n a0 a1=some r):FnB Tryz.prog 159 [A vX, .agg (cM.enc a1).toArray] (Hs R) (λJ v=>∃u0,v=(A u0)/\(kW).eZ (λw=>(Hs R) w/\J w) u0 (r)):=by
 unfold jK at h;refine fo Tryz.func159 (by kernel_rfl) rfl Tryz.ntmps159 rfl λcx _ hro qJ hpre=>?_;refine SC 2 rf ?_;refine W1 rf (PI rfl) λb2=>?_;refine W1 rf (qk cM a1 rfl rfl) λb3=>?_;refine W1 rf (sS (hz:=(⟨by kernel_rfl⟩:ke Tryz.prog 38 lI))) λb4=>?_;refine SL 3 rf ?_;obtain⟨Jz,h⟩:=rm h;obtain⟨iv,W6,h⟩:=uL h;obtain⟨gj,anF,h⟩:=vx h;obtain⟨jl,anE,h⟩:=uL h;refine Py Z3 (.Mg [] [(0,[2]),(1,[5]),(2,[6]),(3,[3]),(6,[2])] (.alt 4 [8] (.Mg [(0,[2]),(1,[5]),(2,[6]),(6,[2])] [] (.alt 5 [7,9] (.Mg [(6,[2])] [(7,[11]),(8,[12]),(9,[10,13])] (.alt 10 [4,14] (.fin [] []) .no)) .no)) .no)) (by kernel_rfl) ?_;refine T0 ?_;refine NS 1 rf ?_;obtain⟨v21,aaw,f22⟩:=CJ.sl f0;refine NV rf rf (lz rfl aaw) ?_;refine NC rf rf (xA (K:=(Hs R)) (f22.mono GL)) rf ?_;refine NV rf rf (nA (M:=cM) (aW.id (L:=cM)) rfl rfl) ?_;refine NV rf rf (tV rfl (dB.len _ f0)) ?_;refine kN ?_;refine X1 rf rf (Ia cM a1 rfl rfl rfl rfl (by decide) (by decide)) λb9 _ =>?_;refine yq ?_ ?_
 ·refine RSn 1 rf rf ?_;refine RO rf rf (lz rfl aaw) rf ?_;refine RO rf rf (PE (xA (K:=(Hs R)) (f22.mono GL)) rfl kn) rf ?_;refine RO rf rf (tV rfl (dB.len _ f0)) rf ?_;exact xI
 refine kN ?_;refine X1 rf rf (ack (sz:=2) (L:=cM) (xs:=a0.aU) (y:=a1) (bytes:=16) f22 rfl rfl rfl (kU Jz).1 (kU Jz).2) λv25 adZ=>?_;rw[← W6]at adZ;rw[← W6];refine yq ?_ ?_
 ·refine RO rf rf (tV rfl (dB.len _ f0)) rf ?_;exact xI
 refine NC rf rf (A9 (R:=R) hg (mo f0) anF) rf ?_;refine NS 1 rf ?_;obtain⟨c30,anY,f31⟩:∃cc,([v25]++((LI .i64).enc (wr .i64 (gj*32))))=cc/\(kW).eZ (Hs [nr v25 110 2 cM iv]) cc jl:=⟨_,rfl,by rw[anE];exact⟨_,_,rfl,⟨_,rfl,(Fz.row (e:=110) (sz:=2) (L:=cM) (xs:=iv) rfl adZ).mono GL⟩,fl⟩⟩;refine NV rf rf (sQ (cs:=c30) rfl (by rw[← anY];first|rfl|(have UN:=(Fz.row (e:=110) (sz:=2) (L:=cM) (xs:=iv) rfl adZ).sl.cells;have UO:=(Fz.row (e:=110) (sz:=2) (L:=cM) (xs:=iv) rfl adZ).sl.size;generalize v25=vz0 at UN UO ⊢;simp[tn,cU,show∀k i,(Value.int k i).cells= #[Value.int k i]fromλ_ _ =>rfl,show∀q,(Value.bool q).cells= #[Value.bool q]fromλ_ =>rfl,show∀a,(Value.agg a).cells=a fromλ_ =>rfl,UN,UO];try rfl))) ?_;refine kN ?_;obtain⟨c32,anX,f33⟩:=sto (C:=(Hs [nr v25 110 2 cM iv])) (x':=jl) (aW.id (L:=kW)) pY (mo f31) rf;refine X0 rf (RXs anX rf rf rf rf) ?_;refine F00 ?_;refine SX 2 rf ?_;have h:=sj h;subst h;exact RBu (R:=[nr v25 110 2 cM iv]) [0] rf rf (ra rf (dB.len _ f33) rn) ⟨_,rfl,(mo f33)⟩
end H
def BH(n:Nat):Ct Tryz.prog sg:=Xr (G:=sg) ⟨159,[], .cons (.v (.st 6)) (.cons (.v (.st 5)) .nil), .cons (.v (.st 6)) .nil,[], .nil,[],[]⟩ (λx=>jK n x.1 x.2.1) (λz=>(z,())) (dG) (by kernel_rfl) (Vr (λ_ =>rfl) (λ_ =>rfl) rfl λρ R x z vs hg hz hv=>by
 obtain⟨cs,r1,e_1,⟨c1,c2,e0,h0,h1⟩,v1⟩:=Hh hv rfl;obtain⟨cr,r2,e_2,h2,v2⟩:=Hh v1 rfl;have e_0:r2=[]:=v2;subst e_0 e_2 e_1;obtain rfl:=(bR.iff (L:=cM)).1 h2;exact⟨_,H.Ch hg ⟨c1,c2,e0,agW h0,h1⟩ hz,λJ v ⟨u,e,d1,d2,e1,k0,k1⟩=>by
  subst e;exact⟨_,_,rfl,EK (t:= .st 6) ⟨d1,d2,e1,WW k0,k1⟩ rfl,rfl⟩⟩)
def nf(n:Nat)(a0:aT)(a1:Int)(a2:Int):Option (aT×Int×Bool):=bd (mj n a0 a1 a2) λbg=>cn (bg.2) (lt ({a0 with jW:=wr .i64 (bg.1+a1)}:aT) λbV=>some (bV,bg.1,bg.2)) (some (a0,bg.1,bg.2))
def Dp(n:Nat):CT:=cV (tW n [] [uH n]) (gN 160 [.s 6, .i, .i] [.t [.s 6, .i, .b]]) (a3 (nf n)) u3 m3
def rF(n:Nat)(a0:Int)(a1:Int):Option Int:=some (wr .u32 ((wr .u32 ((KI .u32 a1 8)+(wr .u32 a0)))+1))
def IJ(n:Nat):CT:=cV (tW n [] []) (gN 241 [.i, .w] [.w]) (a2 (rF n)) u1 m1
def bW(n:Nat)(a0:Int):Option (Int×Bool):=cn (((decide ((wr .i64 ((wr .i64 (lV .u32 a0 255))-1))<0)||decide (32<=(wr .i64 ((wr .i64 (lV .u32 a0 255))-1))))||decide (8388607<(Fw .u32 a0 8)))) (some (0,false)) (some (wr .i64 ((wr .i64 (lV .u32 a0 255))-1),true))
def dw(n:Nat):CT:=cV (tW n [] []) (gN 39 [.w] [.t [.i, .b]]) (a1 (bW n)) u2 m2
def aV(n:Nat)(a0:bn)(a1:Int):Option Bool:=bd (bW n a1) λbg=>gu (!(bg.2==true)||bQ bg.1 32)<|lt ({gen:=Fw .u32 a1 8,oh:=true,mR:=false}:eR) λgH=>some (bg.2&&(xM (a0.aI (Int.toNat bg.1)) gH))
def bJ(n:Nat):CT:=cV (tW n [] [dw n]) (gN 18 [.s 3, .w] [.b]) (a2 (aV n)) u1 m1
def nL(n:Nat)(a0:bn)(a1:Int):Option (Int×Bool):=gu (!((decide (a1<0)||decide (32<=a1))==false)||bQ a1 32)<|cn (((decide (a1<0)||decide (32<=a1))||(!((a0.aI (Int.toNat a1)).oh)))) (some (0,false)) (gu (bQ a1 32)<|bd (rF n a1 ((a0.aI (Int.toNat a1)).gen)) λgH=>some (gH,true))
def G5(n:Nat):CT:=cV (tW n [] [IJ n]) (gN 214 [.s 3, .i] [.t [.w, .b]]) (a2 (nL n)) u2 m2
def iU(n:Nat)(a0:bn):Option (bn×Int×Bool):=fK (λzX (bV:Int)=>cn (decide (bV<32)) (gu (bQ bV 32)<|lt ((a0.aI (Int.toNat bV)):eR) λeP=>cn ((eP.oh||eP.mR)) (zX (wr .i64 (bV+1))) (gu (bQ bV 32)<|lt ({a0 with aI:=(dm a0.aI (Int.toNat bV) ({(a0.aI (Int.toNat bV))with oh:=true}))}:bn) λjl=>bd (rF n bV eP.gen) λdZ=>some (jl,dZ,true))) (some (a0,0,false))) n 0
def vY(n:Nat)(a0 b0:bn)(zX:Int->Option (bn×Int×Bool))(bV:Int):Option (bn×Int×Bool):=cn (decide (bV<32)) (gu (bQ bV 32)<|lt ((a0.aI (Int.toNat bV)):eR) λeP=>cn ((eP.oh||eP.mR)) (zX (wr .i64 (bV+1))) (gu (bQ bV 32)<|lt ({b0 with aI:=(dm b0.aI (Int.toNat bV) ({(b0.aI (Int.toNat bV))with oh:=true}))}:bn) λjl=>bd (rF n bV eP.gen) λdZ=>some (jl,dZ,true))) (some (b0,0,false))
def vT(n:Nat)(a0:bn):Option (bn×Int×Bool):=cH (λkk x b=>vY n a0 b (λx=>kk x b) x) n 0 a0
theorem Dv(n:Nat)(a0:bn):vT n a0=iU n a0:=OR (vY n a0) n 0 a0
def vQ(n:Nat):CT:=cV (tW n [(5, .loop [(.slot 9,(.v (.int .i64))),(.via 1, .box 33 (.v (.st 3))),(.via 2, .box 33 (.unk 96))])] [IJ n]) (gN 210 [.s 3] [.t [.s 3, .w, .b]]) (a1 (iU n)) u3 m3 (hW:=λx=>Eq.trans (b:=vT n x.1) (by kernel_rfl) (Dv ..))
def iF(n:Nat)(a0:bn)(a1:Int):Option (bn×Bool):=bd (aV n a0 a1) λbg=>cn ((!bg)) (some (a0,false)) (bd (bW n a1) λbV=>gu (bQ bV.1 32)<|lt ({a0 with aI:=(dm a0.aI (Int.toNat bV.1) ({(a0.aI (Int.toNat bV.1))with oh:=false}))}:bn) λiv=>cn ((((iv.aI (Int.toNat bV.1)).gen)==8388607)) (lt ({iv with aI:=(dm iv.aI (Int.toNat bV.1) ({(iv.aI (Int.toNat bV.1))with mR:=true}))}:bn) λfX=>some (fX,true)) (lt ({iv with aI:=(dm iv.aI (Int.toNat bV.1) ({(iv.aI (Int.toNat bV.1))with gen:=wr .u32 (((iv.aI (Int.toNat bV.1)).gen)+1)}))}:bn) λiB=>some (iB,true)))
def wT(n:Nat):CT:=cV (tW n [] [bJ n,dw n]) (gN 242 [.s 3, .w] [.t [.s 3, .b]]) (a2 (iF n)) u2 m2
def ef(n:Nat)(a0:bn):Option (List Int):=cH (λNt (eP:(List Int)) (dZ:Int)=>cn (decide (dZ<32)) (bd (nL n a0 dZ) λew=>cn (ew.2) (gu (gw eP.length 1 4)<|lt (eP++([ew.1]):List Int) λnt=>Nt nt (wr .i64 (dZ+1))) (Nt eP (wr .i64 (dZ+1)))) (some eP)) n ([]) 0
def mO(n:Nat):CT:=cV (tW n [(7, .loop [(.slot 3,(.row 24 1 (.int .u32))),(.slot 7,(.v (.int .i64)))])] [G5 n]) ⟨119,[], .cons (.v (.st 3)) .nil, .cons (.row 24 1 (.int .u32)) .nil,[none], .nil,[],[]⟩ (a1 (ef n)) u1 m1
def fk(n:Nat)(a0:aD)(a1:Int):Option Int:=gu (bQ a1 32)<|some (wr .i64 ((wr .i64 (a1+(wr .i64 (256*(a0.gA (Int.toNat a1))))))+1))
def mH(n:Nat):CT:=cV (tW n [] []) (gN 19 [.s 18, .i] [.i]) (a2 (fk n)) u1 m1
def bq(n:Nat)(a0:aD)(a1:Int):Option Int:=fK (λzX (bV:Int)=>cn (decide (bV<32)) (gu (bQ bV 32)<|cl (((a0.Is (Int.toNat bV))==1)==true) (fk n a0 bV) default λeP=>cn ((((a0.Is (Int.toNat bV))==1)&&(eP==a1))) (some bV) (zX (wr .i64 (bV+1)))) (some (-1))) n 0
def cu(n:Nat):CT:=cV (tW n [(5, .loop [(.slot 5,(.v (.int .i64)))])] [mH n]) (gN 38 [.s 18, .i] [.i]) (a2 (bq n)) u1 m1
def kT(n:Nat)(a0:aD)(a1:Int):Option (aD×Bool):=bd (bq n a0 a1) λbg=>cn (decide (bg<0)) (some (a0,false)) (gu (bQ bg 32)<|lt ({a0 with Is:=(dm a0.Is (Int.toNat bg) 0)}:aD) λgH=>gu (bQ bg 32)<|cn (((gH.gA (Int.toNat bg))==8388607)) (gu (bQ bg 32)<|lt ({gH with Is:=(dm gH.Is (Int.toNat bg) 2)}:aD) λiB=>some (iB,true)) (gu (bQ bg 32)<|gu (bQ bg 32)<|lt ({gH with gA:=(dm gH.gA (Int.toNat bg) (wr .i64 ((gH.gA (Int.toNat bg))+1)))}:aD) λjl=>some (jl,true)))
def rV(n:Nat):CT:=cV (tW n [] [cu n]) (gN 94 [.s 18, .i] [.t [.s 18, .b]]) (a2 (kT n)) u2 m2
def iE(n:Nat)(a0:aD):Option (aD×Int):=fK (λzX (bV:Int)=>cn (decide (bV<32)) (gu (bQ bV 32)<|cn (((a0.Is (Int.toNat bV))==0)) (gu (bQ bV 32)<|lt ({a0 with Is:=(dm a0.Is (Int.toNat bV) 1)}:aD) λgj=>bd (fk n gj bV) λjl=>some (gj,jl)) (zX (wr .i64 (bV+1)))) (some (a0,0))) n 0
def xE(n:Nat)(a0 b0:aD)(zX:Int->Option (aD×Int))(bV:Int):Option (aD×Int):=cn (decide (bV<32)) (gu (bQ bV 32)<|cn (((b0.Is (Int.toNat bV))==0)) (gu (bQ bV 32)<|lt ({b0 with Is:=(dm b0.Is (Int.toNat bV) 1)}:aD) λgj=>bd (fk n gj bV) λjl=>some (gj,jl)) (zX (wr .i64 (bV+1)))) (some (b0,0))
def w5(n:Nat)(a0:aD):Option (aD×Int):=cH (λkk x b=>xE n a0 b (λx=>kk x b) x) n 0 a0
theorem EJ(n:Nat)(a0:aD):w5 n a0=iE n a0:=OR (xE n a0) n 0 a0
def wO(n:Nat):CT:=cV (tW n [(5, .loop [(.slot 4,(.v (.int .i64))),(.via 1, .box 71 (.v (.st 18))),(.via 2, .box 71 (.unk 64))])] [mH n]) (gN 96 [.s 18] [.t [.s 18, .i]]) (a1 (iE n)) u2 m2 (hW:=λx=>Eq.trans (b:=w5 n x.1) (by kernel_rfl) (EJ ..))
def iC(n:Nat)(a0:az)(a1:Int):Option (cS×Int):=bd (bq n a0.B a1) λbg=>cn (decide (bg<0)) (lt ({Region:=0,By:=0,To:=0,bF:=false,bh:=0}:cS) λbV=>some (bV,4)) (gu (bQ bg 32)<|lt ((a0.T (Int.toNat bg)):cS) λiv=>some (iv,0))
def wM(n:Nat):CT:=cV (tW n [] [cu n]) (gN 64 [.s 25, .i] [.t [.s 24, .i]]) (a2 (iC n)) u2 m2
def fS(n:Nat)(a0:az)(a1:Int):Option (az×(List Int)×Int):=bd (bq n a0.B a1) λbg=>cn (decide (bg<0)) (some (a0,([]:List Int),4)) (bd (bq n a0.B a1) λgH=>gu (bQ gH 32)<|lt ((dm (λ_ =>false) (Int.toNat gH) true):(Nat->Bool)) λfX=>cH (λNt (jl:Bool) (dZ:(Nat->Bool))=>cn (jl) (sF (λk44 (rL:Bool) (lJ:Int) (gy:(Nat->Bool))=>cn (decide (lJ<32)) (gu (bQ lJ 32)<|bd (bq n a0.B ((a0.T (Int.toNat lJ)).bh)) λvB=>gu (bQ lJ 32)<|gu (!(((a0.B.Is (Int.toNat lJ))==1)==true)||bQ lJ 32)<|gu (!(((((a0.B.Is (Int.toNat lJ))==1)&&(!(gy (Int.toNat lJ))))&&decide (0<=vB))==true)||bQ vB 32)<|cn ((((((a0.B.Is (Int.toNat lJ))==1)&&(!(gy (Int.toNat lJ))))&&decide (0<=vB))&&(gy (Int.toNat vB)))) (gu (bQ lJ 32)<|lt ((dm gy (Int.toNat lJ) true):(Nat->Bool)) λx51=>k44 true (wr .i64 (lJ+1)) x51) (k44 rL (wr .i64 (lJ+1)) gy)) (Nt rL gy)) n false 0 dZ) (sF (λk66 (uo:(List Int)) (Sb:Int) (Um:az)=>cn (decide (Sb<32)) (gu (bQ Sb 32)<|cn ((dZ (Int.toNat Sb))) (bd (fk n a0.B Sb) λxS=>gu (gw uo.length 1 8)<|lt (uo++([xS]):List Int) λNZ=>bd (fk n a0.B Sb) λJh=>bd (kT n Um.B Jh) λXH=>lt ({Um with B:=XH.1}:az) λX4=>k66 NZ (wr .i64 (Sb+1)) X4) (k66 uo (wr .i64 (Sb+1)) Um)) (some (Um,uo,0))) n ([]) 0 a0)) n true fX)
def tf(n:Nat):CT:=cV (tW n [(13, .loop [(.slot 8,(.v .bool)),(.via 7, .box 219 (.v (.ou 32 .bool)))]),(19, .loop [(.slot 8,(.v .bool)),(.slot 9,(.v (.int .i64))),(.via 7, .box 219 (.v (.ou 32 .bool)))]),(37, .loop [(.slot 11,(.row 3 1 (.int .i64))),(.slot 13,(.v (.int .i64))),(.via 12, .box 89 (.v (.st 25)))])] [cu n,mH n,rV n]) (gN 65 [.s 25, .i] [.t [.s 25, .v (.sl (.int .i64)), .i]]) (a2 (fS n)) u3 m3
def l7(n:Nat)(a0:az)(a1:Int)(a2:Int)(a3:Int):Option Bool:=gu (bQ a1 32)<|gu (!(((a0.B.Is (Int.toNat a1))==1)==true)||bQ a1 32)<|gu (!((((a0.B.Is (Int.toNat a1))==1)&&(((a0.T (Int.toNat a1)).Region)==a2))==true)||bQ a1 32)<|some ((((a0.B.Is (Int.toNat a1))==1)&&(((a0.T (Int.toNat a1)).Region)==a2))&&(((a0.T (Int.toNat a1)).bh)==a3))
def ux(n:Nat):CT:=cV (tW n [] []) (gN 100 [.s 25, .i, .i, .i] [.b]) (a4 (l7 n)) u1 m1
def eG(n:Nat)(a0:az)(a1:Int)(a2:Int):Option Bool:=fK (λzX (bV:Int)=>cn (decide (bV<32)) (bd (l7 n a0 bV a1 a2) λiB=>gu (!(iB==true)||bQ bV 32)<|cn ((iB&&(a0.T (Int.toNat bV)).bF)) (some false) (zX (wr .i64 (bV+1)))) (cl ((a2==0)==false) (bq n a0.B a2) default λgj=>some ((a2==0)||decide (0<=gj)))) n 0
def pc(n:Nat):CT:=cV (tW n [(5, .loop [(.slot 7,(.v (.int .i64)))])] [ux n,cu n]) (gN 81 [.s 25, .i, .i] [.b]) (a3 (eG n)) u1 m1
def eu(n:Nat)(a0:az)(a1:Int)(a2:Int):Option Bool:=fK (λzX (bV:Int)=>cn (decide (bV<32)) (bd (l7 n a0 bV a1 a2) λiB=>cn (iB) (some false) (zX (wr .i64 (bV+1)))) (cl ((a2==0)==false) (bq n a0.B a2) default λeP=>some ((a2==0)||decide (0<=eP)))) n 0
def oP(n:Nat):CT:=cV (tW n [(5, .loop [(.slot 7,(.v (.int .i64)))])] [ux n,cu n]) (gN 82 [.s 25, .i, .i] [.b]) (a3 (eu n)) u1 m1
def kE(n:Nat)(a0:az)(a1:cS):Option (az×Int×Int):=cl ((a1.bh !=0)==true) (bq n a0.B a1.bh) default λbg=>cn (((a1.bh !=0)&&decide (bg<0))) (some (a0,0,4)) (cn ((((decide (7<a1.By)||decide (7<a1.To))||(a1.By==a1.To))||(a1.Region==0))) (some (a0,0,2)) (lt (λ(u22:Unit)=>bd (eG n a0 a1.Region a1.bh) λeP=>cl (((!eP)==false)&&(a1.bF==true)) (eu n a0 a1.Region a1.bh) default λgj=>cn (((!eP)||(a1.bF&&(!gj)))) (some (a0,0,5)) (bd (iE n a0.B) λjl=>cl ((jl.2==0)==false) (bq n jl.1 jl.2) default λdZ=>cn (((jl.2==0)||decide (15<dZ))) (some (a0,0,7)) (lt ({a0 with B:=jl.1}:az) λeJ=>bd (bq n jl.1 jl.2) λg8=>gu (bQ g8 32)<|lt ({eJ with T:=(dm eJ.T (Int.toNat g8) a1)}:az) λew=>some (ew,jl.2,0)))) λj23=>cn ((a1.bh !=0)) (bd (bq n a0.B a1.bh) λiv=>gu (bQ iv 32)<|lt ((a0.T (Int.toNat iv)):cS) λiB=>cn ((((iB.Region !=a1.Region)||(iB.To !=a1.By))||(a1.bF&&(!iB.bF)))) (some (a0,0,12)) (j23 ())) (j23 ())))
def Dk(n:Nat):CT:=cV (tW n [(18, .join [(.via 4, .box 89 (.v (.st 25)))] [])] [cu n,pc n,oP n,wO n]) (gN 68 [.s 25, .s 24] [.t [.s 25, .i, .i]]) (a2 (kE n)) u3 m3
def dA(n:Nat)(a0:az)(a1:Int)(a2:Int):Option (List Int):=cH (λNt (eP:(List Int)) (dZ:Int)=>cn (decide (dZ<32)) (gu (bQ dZ 32)<|gu (!((((a0.B.Is (Int.toNat dZ))==1)==true)&&((decide (a1<0))==false))||bQ dZ 32)<|gu (!(((((a0.B.Is (Int.toNat dZ))==1)&&(decide (a1<0)||(((a0.T (Int.toNat dZ)).Region)==a1)))==true)&&((decide (a2<0))==false))||bQ dZ 32)<|cn (((((a0.B.Is (Int.toNat dZ))==1)&&(decide (a1<0)||(((a0.T (Int.toNat dZ)).Region)==a1)))&&(decide (a2<0)||(((a0.T (Int.toNat dZ)).To)==a2)))) (bd (fk n a0.B dZ) λkX=>gu (gw eP.length 1 8)<|lt (eP++([kX]):List Int) λrL=>Nt rL (wr .i64 (dZ+1))) (Nt eP (wr .i64 (dZ+1)))) (some eP)) n ([]) 0
def mM(n:Nat):CT:=cV (tW n [(7, .loop [(.slot 7,(.row 3 1 (.int .i64))),(.slot 8,(.v (.int .i64)))])] [mH n]) ⟨80,[], .cons (.v (.st 25)) (.cons (.v (.int .i64)) (.cons (.v (.int .i64)) .nil)), .cons (.row 3 1 (.int .i64)) .nil,[none], .nil,[],[]⟩ (a3 (dA n)) u1 m1
def l8(n:Nat)(a0:az)(a1:Int):Option az:=bd (dA n a0 a1 (-1)) λbg=>cH (λk32 (gj:Int) (jl:az)=>cn (decide (gj<(bg.length:Int))) (gu (bQ gj bg.length)<|bd (kT n jl.B (bg.getD (Int.toNat gj) default)) λew=>lt ({jl with B:=ew.1}:az) λjN=>k32 (wr .i64 (gj+1)) jN) (some jl)) n 0 a0
def BF(n:Nat):CT:=cV (tW n [(7, .loop [(.slot 6,(.v (.int .i64))),(.via 2, .box 89 (.v (.st 25)))])] [mM n,rV n]) (gN 89 [.s 25, .i] [.s 25]) (a2 (l8 n)) u1 m1
def dz(n:Nat)(a0:ay)(a1:Int):Option (bE×Int):=bd (aV n a0.bj a1) λbg=>cn ((!bg)) (lt ({Region:=0,By:=0,To:=0,bF:=false,bh:=0}:bE) λbV=>some (bV,4)) (bd (bW n a1) λgH=>gu (bQ gH.1 16)<|lt ((a0.aI (Int.toNat gH.1)):bE) λfX=>some (fX,0))
def iw(n:Nat):CT:=cV (tW n [] [bJ n,dw n]) (gN 174 [.s 13, .w] [.t [.s 12, .i]]) (a2 (dz n)) u2 m2
def oU(n:Nat)(a0:bE)(a1:Int):Option Bool:=some ((wr .i64 a0.To)==a1)
def Da(n:Nat):CT:=cV (tW n [] []) ⟨189,[(3, .v (.int .i64))], .cons (.v (.st 12)) (.cons (.cQ 0) .nil), .cons (.v .bool) .nil,[], .nil,[],[]⟩ (λx=>oU n x.2.1 x.1) u1 m1
def gK(n:Nat)(a0:ay)(mE:Int):Option (List Int):=bd (ef n a0.bj) λbg=>cH (λFT (eJ:(List Int)) (ew:Int)=>cn (decide (ew<(bg.length:Int))) (gu (bQ ew bg.length)<|bd (dz n a0 (bg.getD (Int.toNat ew) default)) λrL=>bd (oU n rL.1 mE) λlJ=>cn (lJ) (gu (gw eJ.length 1 4)<|lt (eJ++([(bg.getD (Int.toNat ew) default)]):List Int) λvC=>FT vC (wr .i64 (ew+1))) (FT eJ (wr .i64 (ew+1)))) (some eJ)) n ([]) 0
def oY(n:Nat):CT:=cV (tW n [(7, .loop [(.slot 5,(.row 24 1 (.int .u32))),(.slot 14,(.v (.int .i64)))])] [mO n,iw n,Da n]) ⟨188,[(3, .v (.int .i64))], .cons (.v (.st 13)) (.cons (.fn (.func 189) .nil (.cons (.cQ 0) .nil)) .nil), .cons (.v (.sl (.int .u32))) .nil,[], .nil,[],[]⟩ (λx=>gK n x.2.1 x.1) u1 m1
def oC(n:Nat)(a0:ay)(a1:Int):Option (List Int):=bd (gK n a0 a1) λbg=>some bg
def E9(n:Nat):CT:=cV (tW n [] [oY n]) (gN 123 [.s 13, .i] [.v (.sl (.int .u32))]) (a2 (oC n)) u1 m1
def ku(n:Nat)(a0:ay)(a1:Int):Option Bool:=cl ((a1==0)==false) (aV n a0.bj a1) default λbg=>some ((a1==0)||bg)
def qo(n:Nat):CT:=cV (tW n [] [bJ n]) (gN 240 [.s 13, .w] [.b]) (a2 (ku n)) u1 m1
def mP(n:Nat)(a0:bE)(a1:Int)(a2:Int)(a3:Bool):Option (Bool×Bool):=lt ((a3||(((a0.Region==a1)&&(a0.bh==a2))&&a0.bF)):Bool) λbg=>some (((a0.Region==a1)&&(a0.bh==a2)),bg)
def zy(n:Nat):CT:=cV (tW n [] []) ⟨253,[(24, .v (.int .u32)),(24, .v (.int .u32))], .cons (.v (.st 12)) (.cons (.cQ 0) (.cons (.cQ 1) (.cons (.box 4 (.v .bool)) .nil))), .cons (.v .bool) (.cons (.box 4 (.v .bool)) .nil),[some 2], .nil,[],[[3]]⟩ (λx=>mP n x.2.2.1 x.1 x.2.1 x.2.2.2.1) u2 m2
def ep(n:Nat)(a0:ay)(mE:Int)(vA:Int)(abL:Bool):Option ((List Int)×Bool):=bd (ef n a0.bj) λbg=>sF (λk39 (g8:(List Int)) (jN:Int) (nt:Bool)=>cn (decide (jN<(bg.length:Int))) (gu (bQ jN bg.length)<|bd (dz n a0 (bg.getD (Int.toNat jN) default)) λgy=>bd (mP n gy.1 mE vA nt) λvC=>cn (vC.1) (gu (gw g8.length 1 4)<|lt (g8++([(bg.getD (Int.toNat jN) default)]):List Int) λxN=>k39 xN (wr .i64 (jN+1)) vC.2) (k39 g8 (wr .i64 (jN+1)) vC.2)) (some (g8,nt))) n ([]) 0 abL
def oa(n:Nat):CT:=cV (tW n [(7, .loop [(.slot 5,(.row 24 1 (.int .u32))),(.slot 14,(.v (.int .i64))),(.cap 1 2, .box 4 (.v .bool))])] [mO n,iw n,zy n]) ⟨188,[(24, .v (.int .u32)),(24, .v (.int .u32))], .cons (.v (.st 13)) (.cons (.fn (.func 253) .nil (.cons (.cQ 0) (.cons (.cQ 1) (.cons (.box 4 (.v .bool)) .nil)))) .nil), .cons (.v (.sl (.int .u32))) (.cons (.box 4 (.v .bool)) .nil),[some 2], .nil,[],[[1,2]]⟩ (λx=>ep n x.2.2.1 x.1 x.2.1 x.2.2.2.1) u2 m2
def jv(n:Nat)(a0:ay)(a1:Int)(a2:Int):Option (Int×Bool):=bd (ep n a0 a1 a2 false) λbg=>some ((bg.1.length:Int),bg.2)
def o9(n:Nat):CT:=cV (tW n [] [oa n]) (gN 239 [.s 13, .w, .w] [.t [.i, .b]]) (a3 (jv n)) u2 m2
def p9(n:Nat)(a0:ay)(a1:bE):Option Int:=bd (dz n a0 a1.bh) λbg=>bd (jv n a0 a1.Region a1.bh) λbV=>bd (ku n a0 a1.bh) λgH=>cn ((!gH)) (some 4) (cn ((((decide (8<=a1.By)||decide (8<=a1.To))||(a1.By==a1.To))||(a1.Region==0))) (some 2) (cn (((a1.bh !=0)&&(((bg.1.Region !=a1.Region)||(bg.1.To !=a1.By))||(a1.bF&&(!bg.1.bF))))) (some 12) (cn ((bV.2||(a1.bF&&decide (0<bV.1)))) (some 5) (some 0))))
def Ee(n:Nat):CT:=cV (tW n [] [iw n,o9 n,qo n]) (gN 209 [.s 13, .s 12] [.i]) (a2 (p9 n)) u1 m1
def kz(n:Nat)(a0:ay)(a1:bE):Option (ay×Int×Int):=bd (p9 n a0 a1) λbg=>cn ((bg !=0)) (some (a0,0,bg)) (bd (iU n a0.bj) λbV=>bd (bW n bV.2.1) λgH=>cn (((!gH.2)||decide (16<=gH.1))) (some (a0,0,7)) (lt ({a0 with bj:=bV.1}:ay) λiv=>gu (bQ gH.1 16)<|lt ({iv with aI:=(dm iv.aI (Int.toNat gH.1) a1)}:ay) λiB=>some (iB,bV.2.1,0)))
def Db(n:Nat):CT:=cV (tW n [] [Ee n,vQ n,dw n]) (gN 175 [.s 13, .s 12] [.t [.s 13, .w, .i]]) (a2 (kz n)) u3 m3
def gB(n:Nat)(a0:ay)(a1:(List Int)):Option ay:=cH (λk28 (iv:Int) (fX:ay)=>cn (decide (iv<(a1.length:Int))) (gu (bQ iv a1.length)<|bd (iF n fX.bj (a1.getD (Int.toNat iv) default)) λdZ=>lt ({fX with bj:=dZ.1}:ay) λeJ=>k28 (wr .i64 (iv+1)) eJ) (some fX)) n 0 a0
def zx(n:Nat):CT:=cV (tW n [(5, .loop [(.slot 9,(.v (.int .i64))),(.via 2, .box 56 (.v (.st 13)))])] [wT n]) (gN 213 [.s 13, .v (.sl (.int .u32))] [.s 13]) (a2 (gB n)) u1 m1
def kx(n:Nat)(a0:bE)(a1:Int):Option Bool:=some (a0.bh==a1)
def cY(n:Nat)(a0:ay)(mE:Int):Option (List Int):=bd (ef n a0.bj) λbg=>cH (λFT (eJ:(List Int)) (ew:Int)=>cn (decide (ew<(bg.length:Int))) (gu (bQ ew bg.length)<|bd (dz n a0 (bg.getD (Int.toNat ew) default)) λrL=>bd (kx n rL.1 mE) λlJ=>cn (lJ) (gu (gw eJ.length 1 4)<|lt (eJ++([(bg.getD (Int.toNat ew) default)]):List Int) λvC=>FT vC (wr .i64 (ew+1))) (FT eJ (wr .i64 (ew+1)))) (some eJ)) n ([]) 0
def fT:Nat->Int->(List (Int×Bool))->ay->Option (List (Int×Bool))
 |0,_,_,_ =>none
 |n+1,a0,a1,a2=>
 lt (qw a1 a0 true:(List (Int×Bool))) λbg=>
 bd (cY n a2 a0) λbV=>
 cH (λFT (s9:Int) (ew:(List (Int×Bool)))=>
 cn (decide (s9<(bV.length:Int))) (
 gu (bQ s9 bV.length)<|
 bd (fT n (bV.getD (Int.toNat s9) default) ew a2) λrL=>
 FT (wr .i64 (s9+1)) rL) (
 some ew)) n 0 bg
def eU(n:Nat)(a0:ay)(a1:Int):Option (ay×(List Int)×Int):=bd (aV n a0.bj a1) λbg=>cn ((!bg)) (some (a0,([]:List Int),4)) (bd (fT n a1 ([]:List (Int×Bool)) a0) λgH=>bd (ef n a0.bj) λiv=>cH (λk40 (ew:(List Int)) (kX:Int)=>cn (decide (kX<(iv.length:Int))) (gu (bQ kX iv.length)<|cn ((qG gH (iv.getD (Int.toNat kX) default) false)) (gu (gw ew.length 1 4)<|lt (ew++([(iv.getD (Int.toNat kX) default)]):List Int) λoT=>k40 oT (wr .i64 (kX+1))) (k40 ew (wr .i64 (kX+1)))) (bd (gB n a0 ew) λvB=>some (vB,ew,0))) n ([]) 0)
namespace H
instance:LV Tryz.prog 316 24 4 .u32:=⟨⟨by kernel_rfl,by kernel_rfl⟩⟩
instance:LV Tryz.prog 328 5 28 .u8:=⟨⟨by kernel_rfl,by kernel_rfl⟩⟩
instance:XU Tryz.prog 4 (Value.bool false):=⟨by kernel_rfl⟩
instance:XU Tryz.prog 28 .nilFunc:=⟨by kernel_rfl⟩
theorem JP(x y:eR):Value.bool (HP [(0,some .u32),(1,none),(2,none)] (cZ.enc x) (cZ.enc y))= .bool (xM x y):=congrArg Value.bool (by show((x.gen==y.gen)&&((x.oh==y.oh)&&((x.mR==y.mR)&&true)))=(x.gen==y.gen&&x.oh==y.oh&&x.mR==y.mR);simp[Bool.and_assoc])
theorem RA{n a0 a1 r}(h:rF n a0 a1=some r):FnV Tryz.prog 241 [.int .i64 a0, .int .u32 a1] (.int .u32 r):=by unfold rF at h;refine xw Tryz.func241 (by kernel_rfl) rfl Tryz.ntmps241 rfl (λcx qJ hpre hro=>?_);refine SC 8 rf ?_;refine cJ rfl (VY rfl rfl (by decide)) ?_;refine SL 8 rf ?_;have h:=sj h;subst h;exact RV rf (rt rf rn) rf
theorem pN{n a0 r}(h:bW n a0=some r):FnV Tryz.prog 39 [.int .u32 a0] (.tuple #[.int .i64 r.1, .bool r.2]):=by
 unfold bW at h;refine xw Tryz.func39 (by kernel_rfl) rfl Tryz.ntmps39 rfl (λcx qJ hpre hro=>?_);refine SC 9 rf ?_;refine cJ rfl (aeW rfl rfl) ?_;refine SL 11 rf ?_;refine GB rf rf rf (λhb=>dH rfl) ?_;refine GB rf rf rf (λhb=>Ud (Pd rfl hb) rfl) ?_;refine cJ rfl (VZ rfl rfl) ?_;refine cJ rfl (dH rfl) ?_;refine GB rf rf rf (λhb=>dH rfl) ?_;refine GB rf rf rf (λhb=>PA (Pd rfl hb) rfl (by decide)) ?_;refine GB rf rf rf (λhb=>ab0 (Pd rfl hb) rfl) ?_;refine cJ rfl (VZ rfl rfl) ?_;refine SL 2 rf ?_;refine P5 h rf (λhc h=>?_) λhc h=>?_
 ·refine SC 8 rf ?_;have h:=sj h;subst h;exact RV rf (rt rf (rt rf rn)) rf
 ·refine SC 10 rf ?_;have h:=sj h;subst h;exact RV rf (rt rf (rt rf rn)) rf
theorem rq{n a0 a1 r}(h:aV n a0 a1=some r):FnV Tryz.prog 18 [.agg (bw.enc a0).toArray, .int .u32 a1] (.bool r):=by unfold aV at h;refine xw Tryz.func18 (by kernel_rfl) rfl Tryz.ntmps18 rfl (λcx qJ hpre hro=>?_);refine SC 2 rf ?_;refine W1 rf (qk bw a0 rfl rfl) λb2=>?_;obtain⟨bg,La,h⟩:=vx h;refine SL 6 rf ?_;refine CV (pN La) rf rf ?_;obtain⟨Tx,h⟩:=rm h;obtain⟨gH,Tm,h⟩:=uL h;refine SL 11 rf ?_;refine GB rf rf rf (λhb=>dH rfl) ?_;refine GB rf rf rf (λhb=>C5 rfl) ?_;refine GB rf rf rf (λhb=>C4 (m:=(Int.toNat bg.1)) (Pd rfl hb) (Pd rfl hb) (dF (K9 Tx hb)).1 (dF (K9 Tx hb)).2) ?_;refine GB rf rf rf (λhb=>nA (M:=cZ) (eX.c0 (aW.idx (L:=cZ) (m:=32) (k:=3) ((Int.toNat bg.1)) (dF (K9 Tx hb)).2 rfl)) (Pd rfl hb) rfl) ?_;refine GB rf rf rf (λhb=>dH rfl) ?_;refine GB rf rf rf (λhb=>PA (Pd rfl hb) rfl (by decide)) ?_;refine GB rf rf rf (λhb=>sQ (cs:=cZ.enc gH) (Rj (Pd rfl hb) (Rj rfl rfl)) (by rw[Tm];rfl)) ?_;refine GB rf rf rf (λhb=>T9 (V1 (cs:=cZ.enc (a0.aI (Int.toNat bg.1))) (ds:=cZ.enc gH) (Pd rfl hb) (Pd rfl hb) rfl rfl) (JP _ _)) ?_;refine cJ rfl (LU rfl rfl) ?_;refine SL 4 rf ?_;have h:=sj h;subst h;exact RV rf (rt rf rn) rf
theorem HX{n a0 a1 r}(h:nL n a0 a1=some r):FnV Tryz.prog 214 [.agg (bw.enc a0).toArray, .int .i64 a1] (.tuple #[.int .u32 r.1, .bool r.2]):=by
 unfold nL at h;refine xw Tryz.func214 (by kernel_rfl) rfl Tryz.ntmps214 rfl (λcx qJ hpre hro=>?_);refine SC 2 rf ?_;refine W1 rf (qk bw a0 rfl rfl) λb2=>?_;obtain⟨ahw,h⟩:=rm h;refine SL 10 rf ?_;refine GB rf rf rf (λhb=>dH rfl) ?_;refine GB rf rf rf (λhb=>Ud (Pd rfl hb) rfl) ?_;refine cJ rfl (VZ rfl rfl) ?_;refine cJ rfl (dH rfl) ?_;refine GB rf rf rf (λhb=>dH rfl) ?_;refine GB rf rf rf (λhb=>C5 rfl) ?_;refine GB rf rf rf (λhb=>C4 (m:=(Int.toNat a1)) (Pd rfl hb) (Pd rfl hb) (dF (K9 ahw hb)).1 (dF (K9 ahw hb)).2) ?_;refine GB rf rf rf (λhb=>Gj (Pd rfl hb)) ?_;refine GB rf rf rf (λhb=>aiN ((eX.c0 (aW.idx (L:=cZ) (m:=32) (k:=3) ((Int.toNat a1)) (dF (K9 ahw hb)).2 rfl)).comp pR) (Pd rfl hb)) ?_;refine GB rf rf rf (λhb=>H7 (Pd rfl hb)) ?_;refine cJ rfl (VZ rfl rfl) ?_;refine SL 2 rf ?_;refine P5 h rf (λhc h=>?_) λhc h=>?_
 ·refine SC 8 rf ?_;have h:=sj h;subst h;exact RV rf (rt rf (rt rf rn)) rf
 ·obtain⟨Tx,h⟩:=rm h;obtain⟨gH,Tm,h⟩:=vx h;refine SC 7 rf ?_;refine cJ rfl (C4 (m:=(Int.toNat a1)) rfl rfl (dF Tx).1 (dF Tx).2) ?_;refine cJ rfl (Gj rfl) ?_;refine cJ rfl (H8 ((eX.c0 (aW.idx (L:=cZ) (m:=32) (k:=3) ((Int.toNat a1)) (dF Tx).2 rfl)).comp nj) rfl) ?_;refine CV (RA Tm) rf rf ?_;refine SL 5 rf ?_;have h:=sj h;subst h;exact RV rf (rt rf (rt rf rn)) rf
theorem EO{n a0 a1 r}(h:iF n a0 a1=some r):FnV Tryz.prog 242 [.agg (bw.enc a0).toArray, .int .u32 a1] (.tuple #[.agg (bw.enc r.1).toArray, .bool r.2]):=by
 unfold iF at h;refine xw Tryz.func242 (by kernel_rfl) rfl Tryz.ntmps242 rfl (λcx qJ hpre hro=>?_);refine SC 2 rf ?_;refine W1 rf (qk bw a0 rfl rfl) λb2=>?_;refine W1 rf (zl (L:=bw) (z:=lE) ⟨by kernel_rfl⟩) λb4=>?_;obtain⟨bg,La,h⟩:=vx h;refine SL 6 rf ?_;refine cJ rfl (nA (M:=bw) (aW.id (L:=bw)) rfl rfl) ?_;refine cJ rfl (dH rfl) ?_;refine CV (rq La) rf rf ?_;refine SL 3 rf ?_;refine P5 h rf (λhc h=>?_) λhc h=>?_
 ·refine SC 2 rf ?_;refine cJ rfl (nA (M:=bw) (aW.id (L:=bw)) rfl rfl) ?_;refine W0 (zk (M:=bw) (aW.id (L:=bw)) a0 a0 rfl rfl rfl rfl rfl) ?_;refine SL 5 rf ?_;have h:=sj h;subst h;exact RV rf (ra rf (lq _ _) (rt rf rn)) rf
 ·
  obtain⟨bV,aau,h⟩:=vx h;refine SC 5 rf ?_;refine CV (pN aau) rf rf ?_;obtain⟨Jz,h⟩:=rm h;refine SL 11 rf ?_;refine cJ rfl (C4 (m:=(Int.toNat bV.1)) rfl rfl (dF Jz).1 (dF Jz).2) ?_;obtain⟨iv,W6,h⟩:=uL h;refine SL 8 rf ?_;refine W0 (zk (M:=LB) ((eX.c0 (aW.idx (L:=cZ) (m:=32) (k:=3) ((Int.toNat bV.1)) (dF Jz).2 rfl)).comp pR) false iv W6 rfl rfl rfl rfl) ?_;refine SL 8 rf ?_;refine cJ rfl (H8 ((eX.c0 (aW.idx (L:=cZ) (m:=32) (k:=3) ((Int.toNat bV.1)) (dF Jz).2 rfl)).comp nj) rfl) ?_;refine SL 3 rf ?_;refine P5 h rf (λhc h=>?_) λhc h=>?_
  ·obtain⟨fX,Q2,h⟩:=uL h;refine SC 4 rf ?_;refine W0 (zk (M:=LB) ((eX.c0 (aW.idx (L:=cZ) (m:=32) (k:=3) ((Int.toNat bV.1)) (dF Jz).2 rfl)).comp tw) true fX Q2 rfl rfl rfl rfl) ?_;refine SL 4 rf ?_;refine cJ rfl (nA (M:=bw) (aW.id (L:=bw)) rfl rfl) ?_;refine W0 (zk (M:=bw) (aW.id (L:=bw)) fX fX rfl rfl rfl rfl rfl) ?_;refine SL 4 rf ?_;have h:=sj h;subst h;exact RV rf (ra rf (lq _ _) (rt rf rn)) rf
  ·obtain⟨iB,anG,h⟩:=uL h;refine SC 4 rf ?_;refine cJ rfl (H8 ((eX.c0 (aW.idx (L:=cZ) (m:=32) (k:=3) ((Int.toNat bV.1)) (dF Jz).2 rfl)).comp nj) rfl) ?_;refine SL 3 rf ?_;refine W0 (zk (M:=(LI .u32)) ((eX.c0 (aW.idx (L:=cZ) (m:=32) (k:=3) ((Int.toNat bV.1)) (dF Jz).2 rfl)).comp nj) (wr .u32 (((iv.aI (Int.toNat bV.1)).gen)+1)) iB anG rfl rfl rfl rfl) ?_;refine SL 4 rf ?_;refine cJ rfl (nA (M:=bw) (aW.id (L:=bw)) rfl rfl) ?_;refine W0 (zk (M:=bw) (aW.id (L:=bw)) iB iB rfl rfl rfl rfl rfl) ?_;refine SL 4 rf ?_;have h:=sj h;subst h;exact RV rf (ra rf (lq _ _) (rt rf rn)) rf
theorem uT{n a0 r}(h:ef n a0=some r):Bw.Fn (α:=Value) Tryz.prog 119 [.agg (bw.enc a0).toArray] (λ_ =>True) [] (λv=>wv v r.length) (λv=>v) (λv=>[nr v 24 1 (LI .u32) r]):=by
 unfold ef at h;refine xw Tryz.func119 (by kernel_rfl) rfl Tryz.ntmps119 rfl (λcx qJ hpre hro=>?_);refine SC 2 rf ?_;refine W1 rf (qk bw a0 rfl rfl) λb1=>?_;refine SL 15 rf ?_;refine Gi 24 1 (LI .u32) ?_;obtain⟨ag5,aaI,h⟩:=QO h;refine LO (β:=(List Int)×Int×Value) [1] [0,1] (λ(m32,eP,dZ,PS)=>[(3,PS),(7, .int .i64 dZ)]) (λ(m32,eP,dZ,PS)=>[nr PS 24 1 (LI .u32) eP, .cells b1 33 (bw.enc a0)]) (λ(m32,eP,dZ,PS)=>wv PS eP.length/\cH ag5 m32 eP dZ=some r) (n,[],0, .slice none 0 0) ⟨⟨_,_,rfl⟩,h⟩ rf rf rf ?_;rintro m32 ⟨eP,dZ,PS⟩ ⟨ak1,h⟩;replace h:=Np aaI h;obtain⟨m32,rfl,h⟩:=h;refine SC 6 rf ?_;refine P5 h rf (λhc h=>?_) λhc h=>?_
 ·
  obtain⟨ew,anC,h⟩:=vx h;refine SC 12 rf ?_;refine cJ rfl (nA (M:=bw) (aW.id (L:=bw)) rfl rfl) ?_;refine cJ rfl (dH rfl) ?_;refine CV (HX anC) rf rf ?_;refine SL 12 rf ?_;refine P5 h rf (λhc h=>?_) λhc h=>?_
  ·obtain⟨Xc,h⟩:=rm h;obtain⟨nt,akQ,h⟩:=uL h;refine SC 3 rf ?_;refine zh rfl (Ia (LI .u32) ew.1 rfl rfl rfl rfl (by decide) (by decide)) (λb19 _ =>?_);refine zh rfl (Gp (sz:=1) (L:=(LI .u32)) (xs:=eP) (y:=ew.1) (bytes:=4) rfl rfl rfl (kU Xc).1 (kU Xc).2) (λv37 aaz=>?_);rw[← akQ]at aaz;rw[← akQ];refine SL 8 rf ?_;exact LN [1,2] (nt,wr .i64 (dZ+1),v37) ⟨aaz,h⟩ rf rf rf
  ·refine SC 7 rf ?_;exact LN [0,1] (eP,wr .i64 (dZ+1),PS) ⟨ak1,h⟩ rf rf rf
 ·refine SC 12 rf ?_;have h:=sj h;subst h;exact Cq PS rfl (.tmp rfl .nil) ak1 rfl (ks:=[0]) rfl (by decide)
theorem EN{n a0 a1 r}(h:dz n a0 a1=some r):FnV Tryz.prog 174 [.agg (aF.enc a0).toArray, .int .u32 a1] (.tuple #[.agg (ck.enc r.1).toArray, .int .i64 r.2]):=by
 unfold dz at h;refine xw Tryz.func174 (by kernel_rfl) rfl Tryz.ntmps174 rfl (λcx qJ hpre hro=>?_);refine SC 2 rf ?_;refine W1 rf (qk aF a0 rfl rfl) λb2=>?_;refine W1 rf (zl (L:=ck) (z:=lD) ⟨by kernel_rfl⟩) λb4=>?_;obtain⟨bg,La,h⟩:=vx h;refine SL 7 rf ?_;refine cJ rfl (nA (M:=bw) gU rfl rfl) ?_;refine cJ rfl (dH rfl) ?_;refine CV (rq La) rf rf ?_;refine SL 3 rf ?_;refine P5 h rf (λhc h=>?_) λhc h=>?_
 ·obtain⟨bV,aau,h⟩:=uL h;refine SC 2 rf ?_;refine cJ rfl (sQ (cs:=ck.enc bV) rfl (by rw[aau];rfl)) ?_;refine W0 (zk (M:=ck) (aW.id (L:=ck)) bV bV rfl rfl rfl rfl rfl) ?_;refine SL 5 rf ?_;have h:=sj h;subst h;exact RV rf (ra rf (lq _ _) (rt rf rn)) rf
 ·obtain⟨gH,Tm,h⟩:=vx h;refine SC 5 rf ?_;refine CV (pN Tm) rf rf ?_;obtain⟨Q8,h⟩:=rm h;obtain⟨fX,Q2,h⟩:=uL h;refine SL 11 rf ?_;refine cJ rfl (RI (m:=(Int.toNat gH.1)) rfl rfl (dF Q8).1 (dF Q8).2) ?_;refine cJ rfl (nA (M:=ck) (uY.comp (aW.idx (L:=ck) (m:=16) (k:=5) ((Int.toNat gH.1)) (dF Q8).2 rfl)) rfl rfl) ?_;refine W0 (zk (M:=ck) (aW.id (L:=ck)) (a0.aI (Int.toNat gH.1)) fX Q2 rfl rfl rfl rfl) ?_;refine SL 4 rf ?_;have h:=sj h;subst h;exact RV rf (ra rf (lq _ _) (rt rf rn)) rf
theorem Ai{n a0 a1 r K}[Cs K]{v1}(f1:Fz K v1 (LI .u32) a1)(h:gB n a0 a1=some r):FnW Tryz.prog 213 [.agg (aF.enc a0).toArray,v1] K (.agg (aF.enc r).toArray):=by
 unfold gB at h;refine fo Tryz.func213 (by kernel_rfl) rfl Tryz.ntmps213 rfl λcx _ hro qJ hpre=>?_;refine SC 2 rf ?_;refine W1 rf (qk aF a0 rfl rfl) λb2=>?_;refine W1 rf (zl (L:=aF) (z:=eC) ⟨by kernel_rfl⟩) λb4=>?_;refine SL 6 rf ?_;refine cJ rfl (wo f1 rfl) ?_;refine SL 4 rf ?_;obtain⟨anp,ak6,h⟩:=QO h;refine LO (β:=Int×ay) [2,4,7,8] [0,1] (λ(m27,iv,fX)=>[(9, .int .i64 iv)]) (λ(m27,iv,fX)=>[.cells b4 56 (aF.enc eC), .cells b2 56 (aF.enc fX)]) (λ(m27,iv,fX)=>cH anp m27 iv fX=some r) (n,0,a0) h rf rf rf ?_;rintro m27 ⟨iv,fX⟩ h;replace h:=Np ak6 h;obtain⟨m27,rfl,h⟩:=h;refine SC 6 rf ?_;refine P5 h rf (λhc h=>?_) λhc h=>?_
 ·obtain⟨ahv,h⟩:=rm h;refine SC 6 rf ?_;refine cJ rfl (Ar (m:=(Int.toNat iv)) f1 rfl rfl rfl (dF ahv).1 (dF ahv).2) ?_;refine cJ rfl (C3 f1 (aW.idx (L:=(LI .u32)) (m:=(a1.length)) (k:=1) ((Int.toNat iv)) (dF ahv).2 rfl) rfl) ?_;obtain⟨dZ,anD,h⟩:=vx h;obtain⟨eJ,Tl,h⟩:=uL h;refine SL 5 rf ?_;refine cJ rfl (nA (M:=bw) gU rfl rfl) ?_;refine cJ rfl (dH rfl) ?_;refine CV (EO anD) rf rf ?_;refine SL 4 rf ?_;refine W0 (zk (M:=bw) gU dZ.1 eJ Tl rfl rfl rfl rfl) ?_;refine SL 7 rf ?_;exact LN [0,1] (wr .i64 (iv+1),eJ) h rf rf rf
 ·refine SC 7 rf ?_;refine cJ rfl (nA (M:=aF) (aW.id (L:=aF)) rfl rfl) ?_;refine W0 (zk (M:=aF) (aW.id (L:=aF)) fX fX rfl rfl rfl rfl rfl) ?_;refine SL 3 rf ?_;have h:=sj h;subst h;exact RV rf (ra rf (lq _ _) rn) rf
theorem xQ{n a0 a1 r q1}(h:kx n a0 a1=some r):Bw.Fn (α:=Unit) Tryz.prog 212 [.agg (ck.enc a0).toArray,fW q1 0] (XY (cm [.cells q1 24 ((LI .u32).enc a1)]) (λ_ =>True)) [.cells q1 24 ((LI .u32).enc a1)] (λ_ =>True) (λ_ =>(.bool r)) (λ_ =>[.cells q1 24 ((LI .u32).enc a1)]):=by unfold kx at h;refine xw Tryz.func212 (by kernel_rfl) rfl Tryz.ntmps212 rfl (λcx qJ hpre hro=>?_);refine SC 2 rf ?_;refine W1 rf (qk ck a0 rfl rfl) λb2=>?_;refine SL 6 rf ?_;refine cJ rfl (H8 vZ rfl) ?_;refine cJ rfl (H8 (aW.id (L:=(LI .u32))) rfl) ?_;refine SL 5 rf ?_;have h:=sj h;subst h;exact Cq () rfl (.tmp rfl .nil) trivial rfl (ks:=[1]) rfl (by decide)
theorem nF{n a0 mE r SO}(h:cY n a0 mE=some r):FnC Tryz.prog 188 [.agg (aF.enc a0).toArray, .func (.func 212) #[] #[fW SO 0]] (λ_ =>True) [.cells SO 24 ((LI .u32).enc mE)] (λJ v ho=>∃u0,v=(u0)/\ho=[.cells SO 24 ((LI .u32).enc mE)]/\Fz J u0 (LI .u32) (r)):=by
 unfold cY at h;refine xw Tryz.func188 (by kernel_rfl) rfl Tryz.ntmps188 rfl (λcx qJ hpre hro=>?_);refine SC 2 rf ?_;refine W1 rf (qk aF a0 rfl rfl) λb2=>?_;obtain⟨bg,La,h⟩:=vx h;refine SL 12 rf ?_;refine cJ rfl (nA (M:=bw) gU rfl rfl) ?_;refine zh rfl (V5 (uT La) rfl (λ_ _ _ =>trivial)) (λv23 ahr=>?_);dsimp only[List.cons_append,List.nil_append];refine cJ rfl (wo (Fz.row (e:=24) (sz:=1) (L:=(LI .u32)) (xs:=bg) rfl ahr) rfl) ?_;refine SL 4 rf ?_;refine Gi 24 1 (LI .u32) ?_;obtain⟨ag4,aaH,h⟩:=QO h;refine LO (β:=(List Int)×Int×Value) [1,2,12,13] [0,1,2,3] (λ(m36,eJ,ew,So)=>[(5,So),(14, .int .i64 ew)]) (λ(m36,eJ,ew,So)=>[nr So 24 1 (LI .u32) eJ,nr v23 24 1 (LI .u32) bg, .cells b2 56 (aF.enc a0), .cells SO 24 ((LI .u32).enc mE)]) (λ(m36,eJ,ew,So)=>wv So eJ.length/\cH ag4 m36 eJ ew=some r) (n,[],0, .slice none 0 0) ⟨⟨_,_,rfl⟩,h⟩ rf rf rf ?_;rintro m36 ⟨eJ,ew,So⟩ ⟨ak0,h⟩;replace h:=Np aaH h;obtain⟨m36,rfl,h⟩:=h;refine SC 6 rf ?_;refine P5 h rf (λhc h=>?_) λhc h=>?_
 ·
  obtain⟨Tw,h⟩:=rm h;refine SC 6 rf ?_;refine cJ rfl (Ar (m:=(Int.toNat ew)) (Fz.row (e:=24) (sz:=1) (L:=(LI .u32)) (xs:=bg) rfl ahr) rfl rfl rfl (dF Tw).1 (dF Tw).2) ?_;refine cJ rfl (C3 (Fz.row (e:=24) (sz:=1) (L:=(LI .u32)) (xs:=bg) rfl ahr) (aW.idx (L:=(LI .u32)) (m:=(bg.length)) (k:=1) ((Int.toNat ew)) (dF Tw).2 rfl) rfl) ?_;obtain⟨rL,ahk,h⟩:=vx h;refine SL 5 rf ?_;refine cJ rfl (nA (M:=aF) (aW.id (L:=aF)) rfl rfl) ?_;refine cJ rfl (dH rfl) ?_;refine CV (EN ahk) rf rf ?_;refine SL 3 rf ?_;refine W1 rf (zl (L:=ck) (z:=lD) ⟨by kernel_rfl⟩) λb8=>?_;refine W0 (zk (M:=ck) (aW.id (L:=ck)) rL.1 rL.1 rfl rfl rfl rfl rfl) ?_;obtain⟨lJ,Tk,h⟩:=vx h;refine SL 6 rf ?_;refine cJ rfl (nA (M:=ck) (aW.id (L:=ck)) rfl rfl) ?_;refine zh rfl (Cv (K:=(λ_ =>True)) (pW:=[.cells SO 24 ((LI .u32).enc mE)]) (rest:=[.cells b8 53 (ck.enc rL.1),nr So 24 1 (LI .u32) eJ,nr v23 24 1 (LI .u32) bg, .cells b2 56 (aF.enc a0)]) (ks:=[4,0,1,2,3]) (xQ Tk) rfl rfl rfl rfl (by decide)) (λ_ _ =>?_);dsimp only[List.cons_append,List.nil_append];refine SL 2 rf ?_;refine P5 h rf (λhc h=>?_) λhc h=>?_
  ·obtain⟨Xb,h⟩:=rm h;obtain⟨vC,akO,h⟩:=uL h;refine SC 3 rf ?_;refine zh rfl (Ia (LI .u32) (bg.getD (Int.toNat ew) default) rfl rfl rfl rfl (by decide) (by decide)) (λb29 _ =>?_);refine zh rfl (Gp (sz:=1) (L:=(LI .u32)) (xs:=eJ) (y:=(bg.getD (Int.toNat ew) default)) (bytes:=4) rfl rfl rfl (kU Xb).1 (kU Xb).2) (λv43 akZ=>?_);rw[← akO]at akZ;rw[← akO];refine SL 8 rf ?_;exact LN [3,4,5,1] (vC,wr .i64 (ew+1),v43) ⟨akZ,h⟩ rf rf rf
  ·refine SC 7 rf ?_;exact LN [2,3,4,0] (eJ,wr .i64 (ew+1),So) ⟨ak0,h⟩ rf rf rf
 ·refine SC 12 rf ?_;have h:=sj h;subst h;refine HZ (R:=[nr So 24 1 (LI .u32) eJ]) (H':=[.cells SO 24 ((LI .u32).enc mE)]) (ks:=[0,3]) rfl (by decide) ?_;have p45:Fz (Hs [.ext (cm [nr So 24 1 (LI .u32) eJ]) (Hs [nr So 24 1 (LI .u32) eJ])]) So (LI .u32) eJ:=(Fz.row (e:=24) (sz:=1) (L:=(LI .u32)) (xs:=eJ) rfl ak0).mono GL;exact Cq (So,[.cells SO 24 ((LI .u32).enc mE)],cm [nr So 24 1 (LI .u32) eJ],Hs [nr So 24 1 (LI .u32) eJ]) rfl (.tmp rfl .nil) ⟨_,rfl,rfl,p45⟩ rfl (ks:=[0,1]) rfl (by decide)
theorem zg{n a0 a1 a2 r}{q1 m1:Nat}{q2:Nat}{q3:Nat}(h:fT n a0 a1 a2=some r):Bw.Fn (α:=Unit) Tryz.prog 211 [.int .u32 a0,fW q1 0,fW q2 0,fW q3 0] (XY (cm [.cells q1 316 [.map (some m1)],Mp m1 .u32 Value.bool a1, .cells q2 56 (aF.enc a2), .cells q3 262 [.func (.func 211) #[] #[fW q1 0,fW q2 0,fW q3 0]]]) (λ_ =>True)) [.cells q1 316 [.map (some m1)],Mp m1 .u32 Value.bool a1, .cells q2 56 (aF.enc a2), .cells q3 262 [.func (.func 211) #[] #[fW q1 0,fW q2 0,fW q3 0]]] (λ_ =>True) (λ_ =>(.tuple #[])) (λ_ =>[.cells q1 316 [.map (some m1)],Mp m1 .u32 Value.bool r, .cells q2 56 (aF.enc a2), .cells q3 262 [.func (.func 211) #[] #[fW q1 0,fW q2 0,fW q3 0]]]):=by
 induction n generalizing a0 a1 a2 r q1 m1 q2 q3 with
 |zero=>cases h
 |succ n ih=>
 rw[fT]at h;refine xw Tryz.func211 (by kernel_rfl) rfl Tryz.ntmps211 rfl (λcx qJ hpre hro=>?_);refine SC 2 rf ?_;refine W1 rf (qk (LI .u32) a0 rfl rfl) λb4=>?_;obtain⟨bg,La,h⟩:=uL h;refine SL 4 rf ?_;refine cJ rfl (lz rfl rfl) ?_;refine cJ rfl (H8 (aW.id (L:=(LI .u32))) rfl) ?_;refine I8 (PG true rfl rfl rfl rfl) (λ_ _ =>?_);rw[← La];obtain⟨bV,aau,h⟩:=vx h;refine SL 4 rf ?_;refine cJ rfl (nA (M:=aF) (aW.id (L:=aF)) rfl rfl) ?_;refine cJ rfl (uV rfl) ?_;refine zh rfl (Cv (K:=(λ_ =>True)) (pW:=[.cells b4 24 ((LI .u32).enc a0)]) (rest:=[.cells q1 316 [.map (some m1)],Mp m1 .u32 Value.bool bg, .cells q2 56 (aF.enc a2), .cells q3 262 [.func (.func 211) #[] #[fW q1 0,fW q2 0,fW q3 0]]]) (ks:=[0,1,2,3,4]) (nF aau) rfl rfl rfl rfl (by decide)) (λ⟨w23,aoJ,ain,J25⟩ anM=>?_);obtain⟨PS,rfl,rfl,f27⟩:=anM;replace f27:Fz (Hs [.ext ain J25]) w23 (LI .u32) bV:=f27;dsimp only[List.cons_append,List.nil_append];refine cJ rfl (wo f27 rfl) ?_;refine SL 4 rf ?_;obtain⟨ag4,aaH,h⟩:=QO h;refine LO (β:=Int×(List (Int×Bool))) [3,11,12] [0,1,2,3,4,5] (λ(m36,s9,ew)=>[(13, .int .i64 s9)]) (λ(m36,s9,ew)=>[.ext ain J25, .cells b4 24 ((LI .u32).enc a0), .cells q1 316 [.map (some m1)],Mp m1 .u32 Value.bool ew, .cells q2 56 (aF.enc a2), .cells q3 262 [.func (.func 211) #[] #[fW q1 0,fW q2 0,fW q3 0]]]) (λ(m36,s9,ew)=>cH ag4 m36 s9 ew=some r) (n,0,bg) h rf rf rf ?_;rintro m36 ⟨s9,ew⟩ h;replace h:=Np aaH h;obtain⟨m36,rfl,h⟩:=h;refine SC 6 rf ?_;refine P5 h rf (λhc h=>?_) λhc h=>?_
 ·obtain⟨Tw,h⟩:=rm h;refine SC 6 rf ?_;refine cJ rfl (Ar (m:=(Int.toNat s9)) f27 rfl rfl rfl (dF Tw).1 (dF Tw).2) ?_;refine cJ rfl (C3 f27 (aW.idx (L:=(LI .u32)) (m:=(bV.length)) (k:=1) ((Int.toNat s9)) (dF Tw).2 rfl) rfl) ?_;obtain⟨rL,ahk,h⟩:=vx h;refine SL 4 rf ?_;refine cJ rfl (lz rfl rfl) ?_;refine cJ rfl (dH rfl) ?_;refine zh rfl (Cv (K:=(λ_ =>True)) (pW:=[.cells q1 316 [.map (some m1)],Mp m1 .u32 Value.bool ew, .cells q2 56 (aF.enc a2), .cells q3 262 [.func (.func 211) #[] #[fW q1 0,fW q2 0,fW q3 0]]]) (rest:=[.ext ain J25, .cells b4 24 ((LI .u32).enc a0)]) (ks:=[2,3,4,5,0,1]) (ih ahk) rfl rfl rfl rfl (by decide)) (λ_ _ =>?_);dsimp only[List.cons_append,List.nil_append];refine SL 7 rf ?_;exact LN [4,5,0,1,2,3] (wr .i64 (s9+1),rL) h rf rf rf
 ·refine SC 4 rf ?_;have h:=sj h;subst h;exact abP () rfl .nil trivial rfl (ks:=[2,3,4,5]) rfl (by decide)
theorem A7{n a0 a1 r}(h:eU n a0 a1=some r):FnB Tryz.prog 176 [.agg (aF.enc a0).toArray, .int .u32 a1] (λ_ =>True) (λJ v=>∃u1,v=(.tuple #[.agg (aF.enc r.1).toArray,u1, .int .i64 r.2.2])/\Fz J u1 (LI .u32) (r.2.1)):=by
 unfold eU at h;refine xw Tryz.func176 (by kernel_rfl) rfl Tryz.ntmps176 rfl (λcx qJ hpre hro=>?_);refine SC 2 rf ?_;refine W1 rf (qk aF a0 rfl rfl) λb2=>?_;refine W1 rf (zl (L:=aF) (z:=eC) ⟨by kernel_rfl⟩) λb4=>?_;obtain⟨bg,La,h⟩:=vx h;refine SL 8 rf ?_;refine cJ rfl (nA (M:=bw) gU rfl rfl) ?_;refine cJ rfl (dH rfl) ?_;refine CV (rq La) rf rf ?_;refine SL 3 rf ?_;refine P5 h rf (λhc h=>?_) λhc h=>?_
 ·refine SC 2 rf ?_;refine cJ rfl (nA (M:=aF) (aW.id (L:=aF)) rfl rfl) ?_;refine W0 (zk (M:=aF) (aW.id (L:=aF)) a0 a0 rfl rfl rfl rfl rfl) ?_;refine SL 6 rf ?_;have h:=sj h;subst h;refine HZ (R:=[]) (H':=[.cells b4 56 (aF.enc a0)]) (ks:=[0]) rfl (by decide) ?_;have p22:Fz (Hs [.ext (cm []) (Hs [])]) (.slice none 0 0) (LI .u32) ([]:List Int):=(Fz.nil (A:=Hs []) (L:=(LI .u32))).mono GL;exact Cq (.tuple #[.agg (aF.enc a0).toArray, .slice none 0 0, .int .i64 4],cm [],Hs []) rfl (.agg rfl inferInstance inferInstance (lq _ _) (.tmp rfl (.tmp rfl .nil))) ⟨_,rfl,p22⟩ rfl (ks:=[0]) rfl (by decide)
 ·
  refine SC 4 rf ?_;refine zh rfl (LX .u32 Value.bool) (λb18 _ =>?_);refine W1 rf (sS (hz:=(⟨by kernel_rfl⟩:ke Tryz.prog 316 [.map none]))) λb7=>?_;refine W0 (uX (n:=1) (cs':=[.map (some b18)]) rfl rfl rfl rfl (by decide) (Aw rfl) rfl) ?_;refine SL 4 rf ?_;refine W1 rf (sS (hz:=(⟨by kernel_rfl⟩:ke Tryz.prog 262 [.nilFunc]))) λb8=>?_;refine SL 5 rf ?_;refine W0 (uX (n:=1) (cs':=[.func (.func 211) #[] #[fW b7 0,fW b2 0,fW b8 0]]) rfl rfl rfl rfl (by decide) (Aw rfl) rfl) ?_;obtain⟨gH,Tm,h⟩:=vx h;refine SL 4 rf ?_;refine cJ rfl (lz rfl rfl) ?_;refine cJ rfl (dH rfl) ?_;refine zh rfl (Cv (K:=(λ_ =>True)) (pW:=[.cells b7 316 [.map (some b18)],Mp b18 .u32 Value.bool ([]:List (Int×Bool)), .cells b2 56 (aF.enc a0), .cells b8 262 [.func (.func 211) #[] #[fW b7 0,fW b2 0,fW b8 0]]]) (rest:=[.cells b4 56 (aF.enc eC)]) (ks:=[1,2,4,0,3]) (zg Tm) rfl rfl rfl rfl (by decide)) (λ_ _ =>?_);dsimp only[List.cons_append,List.nil_append];obtain⟨iv,W6,h⟩:=vx h;refine SL 11 rf ?_;refine cJ rfl (nA (M:=bw) gU rfl rfl) ?_;refine zh rfl (V5 (uT W6) rfl (λ_ _ _ =>trivial)) (λyz sZ=>?_);dsimp only[List.cons_append,List.nil_append];refine cJ rfl (wo (Fz.row (e:=24) (sz:=1) (L:=(LI .u32)) (xs:=iv) rfl sZ) rfl) ?_;refine SL 4 rf ?_;refine Gi 24 1 (LI .u32) ?_;obtain⟨ano,ak5,h⟩:=QO h;refine LO (β:=(List Int)×Int×Value) [2,4,7,25,26] [0,1,2,3,4,5,6] (λ(m39,ew,kX,Sm)=>[(9,Sm),(27, .int .i64 kX)]) (λ(m39,ew,kX,Sm)=>[nr Sm 24 1 (LI .u32) ew,nr yz 24 1 (LI .u32) iv, .cells b7 316 [.map (some b18)],Mp b18 .u32 Value.bool gH, .cells b2 56 (aF.enc a0), .cells b8 262 [.func (.func 211) #[] #[fW b7 0,fW b2 0,fW b8 0]], .cells b4 56 (aF.enc eC)]) (λ(m39,ew,kX,Sm)=>wv Sm ew.length/\cH ano m39 ew kX=some r) (n,[],0, .slice none 0 0) ⟨⟨_,_,rfl⟩,h⟩ rf rf rf ?_;rintro m39 ⟨ew,kX,Sm⟩ ⟨ahq,h⟩;replace h:=Np ak5 h;obtain⟨m39,rfl,h⟩:=h;refine SC 6 rf ?_;refine P5 h rf (λhc h=>?_) λhc h=>?_
  ·
   obtain⟨Xb,h⟩:=rm h;refine SC 6 rf ?_;refine cJ rfl (Ar (m:=(Int.toNat kX)) (Fz.row (e:=24) (sz:=1) (L:=(LI .u32)) (xs:=iv) rfl sZ) rfl rfl rfl (dF Xb).1 (dF Xb).2) ?_;refine cJ rfl (C3 (Fz.row (e:=24) (sz:=1) (L:=(LI .u32)) (xs:=iv) rfl sZ) (aW.idx (L:=(LI .u32)) (m:=(iv.length)) (k:=1) ((Int.toNat kX)) (dF Xb).2 rfl) rfl) ?_;refine SL 5 rf ?_;refine cJ rfl (lz rfl rfl) ?_;refine cJ rfl (dH rfl) ?_;refine cJ rfl (Xy false rfl rfl) ?_;refine SL 2 rf ?_;refine P5 h rf (λhc h=>?_) λhc h=>?_
   ·obtain⟨alb,h⟩:=rm h;obtain⟨oT,ahj,h⟩:=uL h;refine SC 3 rf ?_;refine zh rfl (Ia (LI .u32) (iv.getD (Int.toNat kX) default) rfl rfl rfl rfl (by decide) (by decide)) (λb36 _ =>?_);refine zh rfl (Gp (sz:=1) (L:=(LI .u32)) (xs:=ew) (y:=(iv.getD (Int.toNat kX) default)) (bytes:=4) rfl rfl rfl (kU alb).1 (kU alb).2) (λv44 akY=>?_);rw[← ahj]at akY;rw[← ahj];refine SL 8 rf ?_;exact LN [1,2,3,4,5,6,7] (oT,wr .i64 (kX+1),v44) ⟨akY,h⟩ rf rf rf
   ·refine SC 7 rf ?_;exact LN [0,1,2,3,4,5,6] (ew,wr .i64 (kX+1),Sm) ⟨ahq,h⟩ rf rf rf
  ·obtain⟨vB,anA,h⟩:=vx h;refine SC 7 rf ?_;refine cJ rfl (nA (M:=aF) (aW.id (L:=aF)) rfl rfl) ?_;refine cJ rfl (dH rfl) ?_;refine CV (Ai (K:=(Hs [nr Sm 24 1 (LI .u32) ew])) ((Fz.row (e:=24) (sz:=1) (L:=(LI .u32)) (xs:=ew) rfl ahq).mono GL) anA) rf rf ?_;refine cJ rfl (dH rfl) ?_;refine W0 (zk (M:=aF) (aW.id (L:=aF)) vB vB rfl rfl rfl rfl rfl) ?_;refine SL 5 rf ?_;have h:=sj h;subst h;refine HZ (R:=[nr Sm 24 1 (LI .u32) ew]) (H':=[.cells b4 56 (aF.enc vB)]) (ks:=[0,6]) rfl (by decide) ?_;have p47:Fz (Hs [.ext (cm [nr Sm 24 1 (LI .u32) ew]) (Hs [nr Sm 24 1 (LI .u32) ew])]) Sm (LI .u32) ew:=(Fz.row (e:=24) (sz:=1) (L:=(LI .u32)) (xs:=ew) rfl ahq).mono GL;exact Cq (.tuple #[.agg (aF.enc vB).toArray,Sm, .int .i64 0],cm [nr Sm 24 1 (LI .u32) ew],Hs [nr Sm 24 1 (LI .u32) ew]) rfl (.agg rfl inferInstance inferInstance (lq _ _) (.tmp rfl (.tmp rfl .nil))) ⟨_,rfl,p47⟩ rfl (ks:=[0]) rfl (by decide)
end H
def td(n:Nat):Ct Tryz.prog sg:=Xr (G:=sg) ⟨176,[], .cons (.v (.st 13)) (.cons (.v (.int .u32)) .nil), .cons (.rZ (.cons (.v (.st 13)) (.cons (.v (.sl (.int .u32))) (.cons (.v (.int .i64)) .nil)))) .nil,[], .nil,[],[]⟩ (λx=>eU n x.1 x.2.1) (λz=>(z.1,(z.2.1,(z.2.2,())))) (eC,[],0) (by kernel_rfl) (Vr (λ_ =>rfl) (λ_ =>rfl) rfl λρ R x z vs hg hz hv=>by
 letI:bR ((Ty.int .u32).L sg):=inferInstanceAs (bR (LI .u32));obtain⟨cs,r1,e_1,h0,v1⟩:=Hh hv rfl;obtain⟨r2,e_2,v2⟩:=Ou v1;have e_0:r2=[]:=v2;subst e_0 e_2 e_1;have h5:aF.eZ (Hs R) cs x.1:=h0;exact⟨_,aei (H.A7 hz) (λ_ _ =>trivial) (by rw[show aF.enc x.1=cs from(bR.iff.1 h5).symm];rfl),λJ v ⟨u,e,h⟩=>by
  subst e;exact⟨_,_,rfl,⟨_,rfl,_,_,rfl,EK (t:= .st 13) ((bR.iff (L:=aF)).2 rfl) rfl,_,_,rfl,afb (e:= .int .u32) (h.mono λ_ q=>q.2),_,_,rfl,rfl,rfl⟩,rfl⟩⟩)
def r8(n:Nat)(a0:bE)(a1:Int):Option Bool:=some (a0.Region==a1)
def C9(n:Nat):CT:=cV (tW n [] []) ⟨247,[(24, .v (.int .u32))], .cons (.v (.st 12)) (.cons (.cQ 0) .nil), .cons (.v .bool) .nil,[], .nil,[],[]⟩ (λx=>r8 n x.2.1 x.1) u1 m1
def gJ(n:Nat)(a0:ay)(mE:Int):Option (List Int):=bd (ef n a0.bj) λbg=>cH (λFT (eJ:(List Int)) (ew:Int)=>cn (decide (ew<(bg.length:Int))) (gu (bQ ew bg.length)<|bd (dz n a0 (bg.getD (Int.toNat ew) default)) λrL=>bd (r8 n rL.1 mE) λlJ=>cn (lJ) (gu (gw eJ.length 1 4)<|lt (eJ++([(bg.getD (Int.toNat ew) default)]):List Int) λvC=>FT vC (wr .i64 (ew+1))) (FT eJ (wr .i64 (ew+1)))) (some eJ)) n ([]) 0
def oX(n:Nat):CT:=cV (tW n [(7, .loop [(.slot 5,(.row 24 1 (.int .u32))),(.slot 14,(.v (.int .i64)))])] [mO n,iw n,C9 n]) ⟨188,[(24, .v (.int .u32))], .cons (.v (.st 13)) (.cons (.fn (.func 247) .nil (.cons (.cQ 0) .nil)) .nil), .cons (.v (.sl (.int .u32))) .nil,[], .nil,[],[]⟩ (λx=>gJ n x.2.1 x.1) u1 m1
def kO(n:Nat)(a0:ay)(a1:Int):Option (List Int):=bd (gJ n a0 a1) λbg=>some bg
def rR(n:Nat):CT:=cV (tW n [] [oX n]) (gN 230 [.s 13, .w] [.v (.sl (.int .u32))]) (a2 (kO n)) u1 m1
def lY(n:Nat)(a0:ay)(a1:Int):Option ay:=bd (kO n a0 a1) λbg=>bd (gB n a0 bg) λgj=>some gj
def Bz(n:Nat):CT:=cV (tW n [] [rR n,zx n]) (gN 199 [.s 13, .w] [.s 13]) (a2 (lY n)) u1 m1
def lX(n:Nat)(a0:ay)(a1:Int)(a2:Int):Option Bool:=bd (jv n a0 a1 a2) λbg=>bd (ku n a0 a2) λbV=>some (bV&&(!bg.2))
def ur(n:Nat):CT:=cV (tW n [] [o9 n,qo n]) (gN 224 [.s 13, .w, .w] [.b]) (a3 (lX n)) u1 m1
def kZ(n:Nat)(a0:ay)(a1:Int)(a2:Int):Option Bool:=bd (jv n a0 a1 a2) λbg=>bd (ku n a0 a2) λbV=>some (bV&&(bg.1==0))
def ta(n:Nat):CT:=cV (tW n [] [o9 n,qo n]) (gN 226 [.s 13, .w, .w] [.b]) (a3 (kZ n)) u1 m1
def kS(n:Nat)(a0:ai)(a1:Int):Option (bL×Int):=bd (bq n a0.B a1) λbg=>cn (decide (bg<0)) (lt ({Up:=0,cE:=0,E:=bA,bC:=(λ_ =>0)}:bL) λbV=>some (bV,4)) (gu (bQ bg 32)<|lt ((a0.R (Int.toNat bg)):bL) λeJ=>some (eJ,0))
def xU(n:Nat):CT:=cV (tW n [] [cu n]) (gN 16 [.s 21, .i] [.t [.s 20, .i]]) (a2 (kS n)) u2 m2
def lZ(n:Nat)(a0:au)(a1:Int):Option Int:=bd (bW n a1) λbg=>gu (bQ bg.1 32)<|bd (aV n a0.bj.oz ((a0.cL (Int.toNat bg.1)).Up)) λgH=>cn (gH) (some ((a0.cL (Int.toNat bg.1)).Up)) (some 0)
def yO(n:Nat):CT:=cV (tW n [] [dw n,bJ n]) (gN 74 [.s 8, .w] [.w]) (a2 (lZ n)) u1 m1
def eY(n:Nat)(a0:au)(a1:Int):Option (aR×Int):=bd (aV n a0.bj.oz a1) λbg=>cn ((!bg)) (lt ({Up:=0,cE:=0,E:=dG,bC:=(λ_ =>0)}:aR) λbV=>some (bV,4)) (bd (bW n a1) λgj=>gu (bQ gj.1 32)<|lt ((a0.cL (Int.toNat gj.1)):aR) λg8=>bd (lZ n a0 a1) λjN=>lt ({g8 with Up:=jN}:aR) λnt=>some (nt,0))
def iM(n:Nat):CT:=cV (tW n [] [bJ n,dw n,yO n]) (gN 35 [.s 8, .w] [.t [.s 7, .i]]) (a2 (eY n)) u2 m2
def jg(n:Nat)(a0:ai)(a1:Int)(a2:bL):Option (ai×Int):=bd (bq n a0.B a1) λbg=>cn (decide (bg<0)) (some (a0,4)) (cl ((decide (a2.cE<0)||decide (64<a2.cE))==false) (dP n a2.E) default λeP=>cn (((decide (a2.cE<0)||decide (64<a2.cE))||(!eP))) (some (a0,2)) (gu (bQ bg 32)<|lt ({a2 with Up:=(a0.R (Int.toNat bg)).Up}:bL) λg8=>gu (bQ bg 32)<|lt ({a0 with R:=(dm a0.R (Int.toNat bg) g8)}:ai) λnt=>some (nt,0)))
def Ff(n:Nat):CT:=cV (tW n [] [cu n,wN n]) (gN 57 [.s 21, .i, .s 20] [.t [.s 21, .i]]) (a3 (jg n)) u2 m2
def bH(n:Nat)(a0:ai)(a1:Int):Option Bool:=bd (bq n a0.B a1) λbg=>some (decide (0<=bg))
def cq(n:Nat):CT:=cV (tW n [] [cu n]) (gN 66 [.s 21, .i] [.b]) (a2 (bH n)) u1 m1
def fM(n:Nat)(a0:ai)(a1:Int)(a2:Int):Option (ai×Int×Int):=cl ((a1 !=0)==true) (bH n a0 a1) default λbg=>cn (((a1 !=0)&&(!bg))) (some (a0,0,4)) (cn ((decide (a2<0)||decide (64<a2))) (some (a0,0,2)) (bd (iE n a0.B) λgj=>cn ((gj.2==0)) (some (a0,0,7)) (lt ({a0 with B:=gj.1}:ai) λg8=>bd (bq n gj.1 gj.2) λjN=>lt ({Up:=a1,cE:=a2,E:=bA,bC:=(λ_ =>0)}:bL) λnt=>gu (bQ jN 32)<|lt ({g8 with R:=(dm g8.R (Int.toNat jN) nt)}:ai) λlJ=>some (lJ,gj.2,0))))
def Fg(n:Nat):CT:=cV (tW n [] [cq n,wO n,cu n]) (gN 85 [.s 21, .i, .i] [.t [.s 21, .i, .i]]) (a3 (fM n)) u3 m3
def dO(n:Nat)(a0:ai)(a1:Int)(a2:Int):Option Bool:=fK (λzX (bV:Int)=>cn ((bV !=0)) (bd (bq n a0.B bV) λiB=>gu (bQ iB 32)<|cn ((((a0.R (Int.toNat iB)).Up)==a1)) (some (a1 !=0)) (zX ((a0.R (Int.toNat iB)).Up))) (some false)) n a2
def qp(n:Nat):CT:=cV (tW n [(3, .loop [(.slot 2,(.v (.int .i64)))])] [cu n]) (gN 93 [.s 21, .i, .i] [.b]) (a3 (dO n)) u1 m1
def kF(n:Nat)(a0:ai)(a1:Int)(a2:Int):Option (ai×Int):=bd (bH n a0 a1) λbg=>cl (((!bg)==false)&&((a2 !=0)==true)) (bH n a0 a2) default λbV=>cn (((!bg)||((a2 !=0)&&(!bV)))) (some (a0,4)) (cl (((a2 !=0)==true)&&((a2==a1)==false)) (dO n a0 a1 a2) default λiB=>cn (((a2 !=0)&&((a2==a1)||iB))) (some (a0,12)) (bd (bq n a0.B a1) λdZ=>gu (bQ dZ 32)<|lt ({a0 with R:=(dm a0.R (Int.toNat dZ) ({(a0.R (Int.toNat dZ))with Up:=a2}))}:ai) λg8=>some (g8,0)))
def Dl(n:Nat):CT:=cV (tW n [] [cq n,qp n,cu n]) (gN 92 [.s 21, .i, .i] [.t [.s 21, .i]]) (a3 (kF n)) u2 m2
def iD(n:Nat)(a0:ai)(a1:Int):Option (ai×Int):=bd (bq n a0.B a1) λbg=>cn (decide (bg<0)) (some (a0,4)) (bd (kT n a0.B a1) λfX=>lt ({a0 with B:=fX.1}:ai) λiB=>lt ({Up:=0,cE:=0,E:=bA,bC:=(λ_ =>0)}:bL) λjl=>gu (bQ bg 32)<|lt ({iB with R:=(dm iB.R (Int.toNat bg) jl)}:ai) λs9=>cH (λk51 (my:Int) (vB:ai)=>cn (decide (my<32)) (gu (bQ my 32)<|cn ((((vB.R (Int.toNat my)).Up)==a1)) (gu (bQ my 32)<|lt ({vB with R:=(dm vB.R (Int.toNat my) ({(vB.R (Int.toNat my))with Up:=0}))}:ai) λDT=>k51 (wr .i64 (my+1)) DT) (k51 (wr .i64 (my+1)) vB)) (some (vB,0))) n 0 s9)
def Em(n:Nat):CT:=cV (tW n [(15, .loop [(.slot 7,(.v (.int .i64))),(.via 2, .box 80 (.v (.st 21)))])] [cu n,rV n]) (gN 102 [.s 21, .i] [.t [.s 21, .i]]) (a2 (iD n)) u2 m2
def oF(n:Nat)(a0:ai):Option (List Int):=cH (λNt (eP:(List Int)) (dZ:Int)=>cn (decide (dZ<32)) (gu (bQ dZ 32)<|cn (((a0.B.Is (Int.toNat dZ))==1)) (bd (fk n a0.B dZ) λjN=>gu (gw eP.length 1 8)<|lt (eP++([jN]):List Int) λkX=>Nt kX (wr .i64 (dZ+1))) (Nt eP (wr .i64 (dZ+1)))) (some eP)) n ([]) 0
def xV(n:Nat):CT:=cV (tW n [(7, .loop [(.slot 3,(.row 3 1 (.int .i64))),(.slot 4,(.v (.int .i64)))])] [mH n]) ⟨103,[], .cons (.v (.st 21)) .nil, .cons (.row 3 1 (.int .i64)) .nil,[none], .nil,[],[]⟩ (a1 (oF n)) u1 m1
def nH(n:Nat)(a0:pA):Option (List Int):=bd (ef n a0.oz) λbg=>some bg
def tE(n:Nat):CT:=cV (tW n [] [mO n]) ⟨120,[], .cons (.v (.st 4)) .nil, .cons (.row 24 1 (.int .u32)) .nil,[none], .nil,[],[]⟩ (a1 (nH n)) u1 m1
def rA(n:Nat)(a0:Int):Option Bool:=some (decide (0<=a0)&&decide (a0<=64))
def DU(n:Nat):CT:=cV (tW n [] []) (gN 231 [.i] [.b]) (a1 (rA n)) u1 m1
def kP(n:Nat)(a0:au)(a1:Int)(a2:Int):Option (au×Int×Int):=cl ((a1 !=0)==true) (aV n a0.bj.oz a1) default λbg=>cn (((a1 !=0)&&(!bg))) (some (a0,0,4)) (bd (rA n a2) λfX=>cn ((!fX)) (some (a0,0,2)) (bd (iU n a0.bj.oz) λjl=>cn ((!jl.2.2)) (some (a0,0,7)) (lt ({a0 with bj:={a0.bj with oz:=jl.1}}:au) λs9=>bd (bW n jl.2.1) λnt=>lt ({Up:=a1,cE:=a2,E:=dG,bC:=(λ_ =>0)}:aR) λkX=>gu (bQ nt.1 32)<|lt ({s9 with cL:=(dm s9.cL (Int.toNat nt.1) kX)}:au) λgy=>some (gy,jl.2.1,0))))
def Fa(n:Nat):CT:=cV (tW n [] [bJ n,DU n,vQ n,dw n]) (gN 191 [.s 8, .w, .i] [.t [.s 8, .w, .i]]) (a3 (kP n)) u3 m3
def gF(n:Nat)(a0:au)(a1:Int)(a2:aR):Option (au×Int):=bd (aV n a0.bj.oz a1) λbg=>cn ((!bg)) (some (a0,4)) (bd (rA n a2.cE) λfX=>cl ((!fX)==false) (kM n a2.E) default λgj=>cn (((!fX)||(!gj))) (some (a0,2)) (bd (bW n a1) λg8=>gu (bQ g8.1 32)<|lt ({a2 with Up:=(a0.cL (Int.toNat g8.1)).Up}:aR) λew=>gu (bQ g8.1 32)<|lt ({a0 with cL:=(dm a0.cL (Int.toNat g8.1) ew)}:au) λqn=>some (qn,0)))
def rS(n:Nat):CT:=cV (tW n [] [bJ n,DU n,vR n,dw n]) (gN 197 [.s 8, .w, .s 7] [.t [.s 8, .i]]) (a3 (gF n)) u2 m2
def iN(n:Nat)(a0:au)(a1:Int)(a2:Int):Option (au×Int):=bd (aV n a0.bj.oz a1) λbg=>cl (((!bg)==false)&&((a2 !=0)==true)) (aV n a0.bj.oz a2) default λbV=>cn (((!bg)||((a2 !=0)&&(!bV)))) (some (a0,4)) (fK (λk30 (eP:Int)=>cn ((eP !=0)) (cn ((eP==a1)) (some (a0,12)) (bd (lZ n a0 eP) λew=>k30 ew)) (bd (bW n a1) λjN=>gu (bQ jN.1 32)<|lt ({a0 with cL:=(dm a0.cL (Int.toNat jN.1) ({(a0.cL (Int.toNat jN.1))with Up:=a2}))}:au) λkX=>some (kX,0))) n a2)
def vD(n:Nat):CT:=cV (tW n [(9, .loop [(.slot 8,(.v (.int .u32))),(.via 6, .box 44 (.unk 480))])] [bJ n,yO n,dw n]) (gN 205 [.s 8, .w, .w] [.t [.s 8, .i]]) (a3 (iN n)) u2 m2
def jx(n:Nat)(a0:au)(a1:Int):Option (au×Int):=bd (iF n a0.bj.oz a1) λbg=>cn ((!bg.2)) (some (a0,4)) (lt ({a0 with bj:={a0.bj with oz:=bg.1}}:au) λfX=>bd (bW n a1) λgj=>lt ({Up:=0,cE:=0,E:=dG,bC:=(λ_ =>0)}:aR) λjl=>gu (bQ gj.1 32)<|lt ({fX with cL:=(dm fX.cL (Int.toNat gj.1) jl)}:au) λs9=>some (s9,0))
def Ef(n:Nat):CT:=cV (tW n [] [wT n,dw n]) (gN 235 [.s 8, .w] [.t [.s 8, .i]]) (a2 (jx n)) u2 m2
def uK(n:Nat)(a0:ai)(a1:Int):Option Int:=bd (kS n a0 a1) λbg=>some bg.1.Up
def zC(n:Nat):CT:=cV (tW n [] [xU n]) (gN 83 [.s 21, .i] [.i]) (a2 (uK n)) u1 m1
def zL(n:Nat)(a0:ai)(a1:Int):Option (List Int):=bd (oF n a0) λbg=>cH (λFT (eJ:(List Int)) (ew:Int)=>cn (decide (ew<(bg.length:Int))) (bd (bH n a0 a1) λqn=>gu (!(qn==true)||bQ ew bg.length)<|cl (qn==true) (uK n a0 (bg.getD (Int.toNat ew) default)) default λlJ=>cn ((qn&&(lJ==a1))) (gu (bQ ew bg.length)<|gu (gw eJ.length 1 8)<|lt (eJ++([(bg.getD (Int.toNat ew) default)]):List Int) λoT=>FT oT (wr .i64 (ew+1))) (FT eJ (wr .i64 (ew+1)))) (some eJ)) n ([]) 0
def N6(n:Nat):CT:=cV (tW n [(9, .loop [(.slot 5,(.row 3 1 (.int .i64))),(.slot 7,(.v (.int .i64)))])] [xV n,cq n,zC n]) ⟨101,[], .cons (.v (.st 21)) (.cons (.v (.int .i64)) .nil), .cons (.row 3 1 (.int .i64)) .nil,[none], .nil,[],[]⟩ (a2 (zL n)) u1 m1
def gX:Nat->ai->Int->Option (List Int)
 |0,_,_ =>none
 |n+1,a0,a1=>
 bd (bH n a0 a1) λbg=>
 cn ((!bg)) (
 some ([]:List Int)) (
 bd (zL n a0 a1) λiv=>
 cH (λk38 (g8:(List Int)) (jN:Int)=>
 cn (decide (jN<(iv.length:Int))) (
 gu (bQ jN iv.length)<|
 bd (gX n a0 (iv.getD (Int.toNat jN) default)) λlJ=>
 gu (gw g8.length lJ.length 8)<|
 lt (g8++lJ:List Int) λmy=>
 k38 my (wr .i64 (jN+1))) (
 some g8)) n ([a1]:List Int) 0)
def jO:Fs:=⟨88,[], .cons (.v (.st 21)) (.cons (.v (.int .i64)) .nil), .cons (.row 3 1 (.int .i64)) .nil,[none], .nil,[],[]⟩
def yF(z:(List Int)):HL sg (br jO.dW):=(λz=>(z,())) z
theorem D6:∀n,Uk Tryz.prog jO (RV (G:=sg) jO (λ(x:HI sg jO)=>gX n x.1 x.2.1) yF) (λ_ _ =>False)
 |0=>aaZ (λ_ =>rfl)
 |n+1=>Rd (tb:=(tW n [(13, .loop [(.slot 5,(.row 3 1 (.int .i64))),(.slot 7,(.v (.int .i64)))])] [cq n,N6 n,Xr (G:=sg) jO (λ(x:HI sg jO)=>gX n x.1 x.2.1) yF ([]) (by kernel_rfl) (D6 n)])) (n:=3000) (s:=jO) (um:=λy=>y.1) (λ_ =>rfl) (λx=>by refine Eq.trans ?_ (gX.eq_2 ..).symm;kernel_rfl)
def qA(n:Nat):Ct Tryz.prog sg:=Xr (G:=sg) jO (λ(x:HI sg jO)=>gX n x.1 x.2.1) yF ([]) (by kernel_rfl) (D6 n)
def zM(n:Nat)(a0:ai)(a1:Int):Option (ai×(List Int)×Int):=bd (gX n a0 a1) λbg=>cH (λk40 (ew:Int) (jN:ai)=>cn (decide (ew<(bg.length:Int))) (gu (bQ ew bg.length)<|bd (iD n jN (bg.getD (Int.toNat ew) default)) λvC=>k40 (wr .i64 (ew+1)) vC.1) (cn (((bg.length:Int)==0)) (some (jN,([]:List Int),4)) (some (jN,bg,0)))) n 0 a0
def N7(n:Nat):CT:=cV (tW n [(7, .loop [(.slot 8,(.v (.int .i64))),(.via 2, .box 80 (.v (.st 21)))])] [qA n,Em n]) (gN 90 [.s 21, .i] [.t [.s 21, .v (.sl (.int .i64)), .i]]) (a2 (zM n)) u3 m3
def pE(n:Nat)(a0:ai)(a1:Int)(a2:Int):Option Bool:=bd (bH n a0 a1) λbg=>cl (bg==true) (bH n a0 a2) default λbV=>cl (((bg&&bV)==true)&&((a1==a2)==false)) (dO n a0 a1 a2) default λgH=>some ((bg&&bV)&&((a1==a2)||gH))
def yR(n:Nat):CT:=cV (tW n [] [cq n,qp n]) (gN 91 [.s 21, .i, .i] [.b]) (a3 (pE n)) u1 m1
def gY:Nat->ai->Int->Option Int
 |0,_,_ =>none
 |n+1,a0,a1=>
 bd (bH n a0 a1) λbg=>
 cn ((!bg)) (
 some 0) (
 bd (uK n a0 a1) λbV=>
 bd (gY n a0 bV) λgH=>
 some (wr .i64 (1+gH)))
def jP:Fs:=⟨84,[], .cons (.v (.st 21)) (.cons (.v (.int .i64)) .nil), .cons (.v (.int .i64)) .nil,[], .nil,[],[]⟩
def yG(z:Int):HL sg (br jP.dW):=(λz=>(z,())) z
theorem D8:∀n,Uk Tryz.prog jP (RV (G:=sg) jP (λ(x:HI sg jP)=>gY n x.1 x.2.1) yG) (λ_ _ =>False)
 |0=>aaZ (λ_ =>rfl)
 |n+1=>Rd (tb:=(tW n [] [cq n,zC n,Xr (G:=sg) jP (λ(x:HI sg jP)=>gY n x.1 x.2.1) yG (0) (by kernel_rfl) (D8 n)])) (n:=3000) (s:=jP) (um:=λy=>y.1) (λ_ =>rfl) (λx=>by refine Eq.trans ?_ (gY.eq_2 ..).symm;kernel_rfl)
def DV(n:Nat):Ct Tryz.prog sg:=Xr (G:=sg) jP (λ(x:HI sg jP)=>gY n x.1 x.2.1) yG (0) (by kernel_rfl) (D8 n)
def ya(n:Nat)(a0:ai)(a1:Int)(a2:Int):Option (ai×Int):=bd (bH n a0 a1) λbg=>cl ((!bg)==false) (bH n a0 a2) default λbV=>cn (((!bg)||(!bV))) (some (a0,4)) (bd (uK n a0 a1) λiB=>cl ((iB !=0)==false) (pE n a0 a1 a2) default λeP=>cn (((iB !=0)||eP)) (some (a0,12)) (bd (kF n a0 a1 a2) λeJ=>bd (gX n eJ.1 a1) λlJ=>fK (λk48 (my:Int)=>cn (decide (my<(lJ.length:Int))) (gu (bQ my lJ.length)<|bd (gY n eJ.1 (lJ.getD (Int.toNat my) default)) λtC=>cn (decide (6<tC)) (some (a0,8)) (k48 (wr .i64 (my+1)))) (some (eJ.1,eJ.2))) n 0))
def Mw(n:Nat):CT:=cV (tW n [(17, .loop [(.slot 11,(.v (.int .i64))),(.via 6, .box 80 (.unk 448))])] [cq n,zC n,yR n,Dl n,qA n,DV n]) (gN 59 [.s 21, .i, .i] [.t [.s 21, .i]]) (a3 (ya n)) u2 m2
def wA(n:Nat)(a0:ai)(a1:Int):Option (ai×Int):=bd (bH n a0 a1) λbg=>cn ((!bg)) (some (a0,4)) (bd (gX n a0 a1) λeP=>cH (λk46 (lJ:Int) (gy:ai)=>cn (decide (lJ<(eP.length:Int))) (gu (bQ lJ eP.length)<|bd (bq n a0.B (eP.getD (Int.toNat lJ) default)) λBx=>cH (λk64 (zv:Int) (uo:ai)=>cn (decide (zv<8)) (gu (bQ Bx 32)<|gu (bQ zv 8)<|cl ((((a0.R (Int.toNat Bx)).bC (Int.toNat zv))!=0)==true) (dO n a0 ((a0.R (Int.toNat Bx)).bC (Int.toNat zv)) a1) default λDQ=>cn (((((a0.R (Int.toNat Bx)).bC (Int.toNat zv))!=0)&&DQ)) (gu (bQ Bx 32)<|gu (bQ zv 8)<|lt ({uo with R:=(dm uo.R (Int.toNat Bx) ({(uo.R (Int.toNat Bx))with bC:=(dm ((uo.R (Int.toNat Bx)).bC) (Int.toNat zv) 0)}))}:ai) λNZ=>k64 (wr .i64 (zv+1)) NZ) (k64 (wr .i64 (zv+1)) uo)) (k46 (wr .i64 (lJ+1)) uo)) n 0 gy) (bd (bq n a0.B a1) λJh=>gu (bQ Jh 32)<|lt ({gy with R:=(dm gy.R (Int.toNat Jh) ({(gy.R (Int.toNat Jh))with Up:=0}))}:ai) λX4=>some (X4,0))) n 0 a0)
def II(n:Nat):CT:=cV (tW n [(13, .loop [(.slot 8,(.v (.int .i64))),(.via 6, .box 80 (.v (.st 21)))]),(21, .loop [(.slot 10,(.v (.int .i64))),(.via 6, .box 80 (.v (.st 21)))])] [cq n,qA n,cu n,qp n]) (gN 60 [.s 21, .i] [.t [.s 21, .i]]) (a2 (wA n)) u2 m2
def qe(n:Nat)(a0:ai)(a1:Int)(a2:Int):Option (ai×Int×Int):=cl ((a1==0)==false) (bH n a0 a1) default λbg=>cl (((((a1==0)||bg)&&decide (0<=a2))&&decide (a2<=64))==true) (gY n a0 a1) default λbV=>cn ((((((a1==0)||bg)&&decide (0<=a2))&&decide (a2<=64))&&decide (5<bV))) (some (a0,0,8)) (bd (fM n a0 a1 a2) λiB=>some (iB.1,iB.2.1,iB.2.2))
def P9(n:Nat):CT:=cV (tW n [] [cq n,DV n,Fg n]) (gN 55 [.s 21, .i, .i] [.t [.s 21, .i, .i]]) (a3 (qe n)) u3 m3
def iQ:Nat->ai->Int->Option Int
 |0,_,_ =>none
 |n+1,a0,a1=>
 bd (bH n a0 a1) λbg=>
 cl (bg==true) (uK n a0 a1) default λbV=>
 cn ((bg&&(bV !=0))) (
 bd (uK n a0 a1) λgH=>
 bd (iQ n a0 gH) λiv=>
 some iv) (
 bd (bH n a0 a1) λfX=>
 cn (fX) (
 some a1) (
 some 0))
def lf:Fs:=⟨54,[], .cons (.v (.st 21)) (.cons (.v (.int .i64)) .nil), .cons (.v (.int .i64)) .nil,[], .nil,[],[]⟩
def zV(z:Int):HL sg (br lf.dW):=(λz=>(z,())) z
theorem FY:∀n,Uk Tryz.prog lf (RV (G:=sg) lf (λ(x:HI sg lf)=>iQ n x.1 x.2.1) zV) (λ_ _ =>False)
 |0=>aaZ (λ_ =>rfl)
 |n+1=>Rd (tb:=(tW n [] [cq n,zC n,Xr (G:=sg) lf (λ(x:HI sg lf)=>iQ n x.1 x.2.1) zV (0) (by kernel_rfl) (FY n)])) (n:=3000) (s:=lf) (um:=λy=>y.1) (λ_ =>rfl) (λx=>by refine Eq.trans ?_ (iQ.eq_2 ..).symm;kernel_rfl)
def rU(n:Nat):Ct Tryz.prog sg:=Xr (G:=sg) lf (λ(x:HI sg lf)=>iQ n x.1 x.2.1) zV (0) (by kernel_rfl) (FY n)
def oq(n:Nat)(a0:au)(a1:Int):Option (au×Int):=some (a0,a1)
def wV(n:Nat):CT:=cV (tW n [] []) ⟨201,[], .cons (.v (.st 8)) (.cons (.v (.int .u32)) .nil), .cons (.fn (.func 236) .nil (.cons (.box 44 (.v (.st 8))) (.cons (.box 24 (.v (.int .u32))) .nil))) .nil,[none,none], .nil,[],[]⟩ (a2 (oq n)) u2 m2
def nN(n:Nat)(a1:au)(a2:Int):Option (List Int):=fK (λk41 (s9:Int)=>bd (eY n a1 s9) λvC=>cn (((vC.2!=0)||(vC.1.Up==0))==false) (yl vC.1.Up<|k41 vC.1.Up) (some [])) n a2
def tN(n:Nat):It Tryz.prog sg:=mkI (tX n [(1, .loop [(.via 2, .box 24 (.v (.int .u32)))])] [iM n] [] []) 3000 236 (.cons (.box 44 (.v (.st 8))) (.cons (.box 24 (.v (.int .u32))) .nil)) (.cons (.v (.int .u32)) .nil) (.int .nil) (B:=Int) (λy=>(y,())) (λx=>(x.1)) (λx=>nN n x.1 x.2.1) (λ_ =>rfl) (by kernel_rfl) (λx=>by kernel_rfl)
def jT(n:Nat)(a0:au)(a1:Int):Option Int:=bd (aV n a0.bj.oz a1) λbg=>cn ((!bg)) (some 0) (bd (oq n a0 a1) λbV=>bd (nN n bV.1 bV.2) λeP=>sH (λ(P4:Int) k31 (dZ:Int)=>lt (P4:Int) λjN=>lt (wr .i64 (dZ+1):Int) λkX=>k31 kX) (λ(dZ:Int)=>some dZ) eP 1)
def wX(n:Nat):CT:=cV (tX n [(11, .loop [(.via 5, .box 3 (.v (.int .i64)))])] [bJ n,wV n] [] [tN n]) (gN 192 [.s 8, .w] [.i]) (a2 (jT n)) u1 m1
def jj(n:Nat)(a0:au)(a1:Int):Option Int:=bd (aV n a0.bj.oz a1) λbg=>cn ((!bg)) (some 0) (bd (oq n a0 a1) λbV=>bd (nN n bV.1 bV.2) λeP=>sH (λ(P4:Int) k31 (dZ:Int)=>lt (P4:Int) λjN=>k31 jN) (λ(dZ:Int)=>some dZ) eP a1)
def lB(n:Nat):CT:=cV (tX n [(9, .loop [(.via 3, .box 24 (.v (.int .u32)))])] [bJ n,wV n] [] [tN n]) (gN 165 [.s 8, .w] [.w]) (a2 (jj n)) u1 m1
def mI(n:Nat)(a0:au)(a1:Int)(a2:Int):Option Bool:=bd (aV n a0.bj.oz a1) λbg=>cl ((!bg)==false) (aV n a0.bj.oz a2) default λbV=>cn (((!bg)||(!bV))) (some false) (lt ((a1==a2):Bool) λgH=>bd (oq n a0 a2) λiv=>bd (nN n iv.1 iv.2) λjl=>sH (λ(e38:Int) Nt (g8:Bool)=>lt (e38:Int) λkX=>lt ((g8||(kX==a1)):Bool) λrL=>Nt rL) (λ(g8:Bool)=>some g8) jl gH)
def rX(n:Nat):CT:=cV (tX n [(11, .loop [(.via 7, .box 4 (.v .bool))])] [bJ n,wV n] [] [tN n]) (gN 203 [.s 8, .w, .w] [.b]) (a3 (mI n)) u1 m1
def xu(n:Nat)(a0:au)(a1:Int)(a2:Int):Option (au×Int×Int):=bd (kP n a0 a1 a2) λbg=>cl (((bg.2.2==0)||(bg.2.2==7))==true) (jT n a0 a1) default λdZ=>cn ((((bg.2.2==0)||(bg.2.2==7))&&decide (6<=dZ))) (some (a0,0,8)) (some (bg.1,bg.2.1,bg.2.2))
def N8(n:Nat):CT:=cV (tW n [] [Fa n,wX n]) (gN 152 [.s 8, .w, .i] [.t [.s 8, .w, .i]]) (a3 (xu n)) u3 m3
def jS(n:Nat)(a0:Int)(a1:au)(a2:Int):Option Bool:=bd (eY n a1 a0) λbg=>some (bg.1.Up !=a2)
def AO(n:Nat):CT:=cV (tW n [] [iM n]) ⟨256,[(44, .v (.st 8)),(24, .v (.int .u32))], .cons (.v (.int .u32)) (.cons (.cQ 0) (.cons (.cQ 1) .nil)), .cons (.v .bool) .nil,[], .nil,[],[]⟩ (λx=>jS n x.2.2.1 x.1 x.2.1) u1 m1
def gQ(n:Nat)(a0:(List Int))(mE:au)(vA:Int):Option Int:=fK (λzX (bV:Int)=>cn (decide (bV<(a0.length:Int))) (gu (bQ bV a0.length)<|bd (jS n (a0.getD (Int.toNat bV) default) mE vA) λeP=>cn (eP) (some bV) (zX (wr .i64 (bV+1)))) (some (-1))) n 0
def gE(n:Nat)(a0:(List Int))(mE:au)(vA:Int):Option (Int×List Int):=bd (gQ n a0 mE vA) λi=>some (i,a0)
def jt(n:Nat)(a0:(List Int))(mE:au)(vA:Int):Option (Int×List Int):=fK (λzX (bV:Int)=>cn (decide (bV<(a0.length:Int))) (gu (bQ bV a0.length)<|bd (jS n (a0.getD (Int.toNat bV) default) mE vA) λeP=>cn (eP) (some (bV,a0)) (zX (wr .i64 (bV+1)))) (some (-1,a0))) n 0
theorem oS(n:Nat)(a0:(List Int))(mE:au)(vA:Int):jt n a0 mE vA=gE n a0 mE vA:=(QS (λK i=>by simp only[alT,alS,afH];rfl) n 0).symm
def oQ(n:Nat):CT:=cV (tW n [(5, .loop [(.slot 8,(.v (.int .i64)))])] [AO n]) ⟨246,[(44, .v (.st 8)),(24, .v (.int .u32))], .cons (.row 24 1 (.int .u32)) (.cons (.fn (.func 256) .nil (.cons (.cQ 0) (.cons (.cQ 1) .nil))) .nil), .cons (.v (.int .i64)) (.cons (.row 24 1 (.int .u32)) .nil),[some 2], .nil,[],[[0]]⟩ (λx=>gE n x.2.2.1 x.1 x.2.1) u2 m2 (hW:=λx=>Eq.trans (b:=jt n x.2.2.1 x.1 x.2.1) (by kernel_rfl) (oS ..))
def eI(n:Nat)(a0:(List Int))(mE:au)(vA:Int):Option (List Int):=bd (gQ n a0 mE vA) λbg=>cn ((bg==(-1))) (some a0) (sF (λk34 (gj:(List Int)) (dZ:Int) (eJ:Int)=>cn (decide (eJ<(gj.length:Int))) (gu (bQ eJ gj.length)<|bd (jS n (gj.getD (Int.toNat eJ) default) mE vA) λnt=>cn ((!nt)) (gu (bQ dZ gj.length)<|lt ((gj.set (Int.toNat dZ) (gj.getD (Int.toNat eJ) default)):List Int) λqn=>k34 qn (wr .i64 (dZ+1)) (wr .i64 (eJ+1))) (k34 gj dZ (wr .i64 (eJ+1)))) (gu (bQ dZ (gj.length+1))<|lt (gj.take (Int.toNat dZ)++List.replicate (gj.length-(Int.toNat dZ)) 0:List Int) λgy=>gu (bQ dZ (gy.length+1))<|lt (gy.take (Int.toNat dZ):List Int) λxN=>some xN)) n a0 bg (wr .i64 (bg+1)))
def jL(n:Nat)(a0:(List Int))(mE:au)(vA:Int):Option (List Int):=bd (gE n a0 mE vA) λxr=>cn ((xr.1==(-1))) (some xr.2) (sF (λk34 (gj:(List Int)) (dZ:Int) (eJ:Int)=>cn (decide (eJ<(gj.length:Int))) (gu (bQ eJ gj.length)<|bd (jS n (gj.getD (Int.toNat eJ) default) mE vA) λnt=>cn ((!nt)) (gu (bQ dZ gj.length)<|lt ((gj.set (Int.toNat dZ) (gj.getD (Int.toNat eJ) default)):List Int) λqn=>k34 qn (wr .i64 (dZ+1)) (wr .i64 (eJ+1))) (k34 gj dZ (wr .i64 (eJ+1)))) (gu (bQ dZ (gj.length+1))<|lt (gj.take (Int.toNat dZ)++List.replicate (gj.length-(Int.toNat dZ)) 0:List Int) λgy=>gu (bQ dZ (gy.length+1))<|lt (gy.take (Int.toNat dZ):List Int) λxN=>some xN)) n xr.2 xr.1 (wr .i64 (xr.1+1)))
theorem o6(n:Nat)(a0:(List Int))(mE:au)(vA:Int):jL n a0 mE vA=eI n a0 mE vA:=afH
def oZ(n:Nat):CT:=cV (tW n [(11, .loop [(.slot 0,(.row 24 1 (.int .u32))),(.slot 5,(.v (.int .i64))),(.slot 6,(.v (.int .i64)))]),(1000041, .join [] [])] [oQ n,AO n]) ⟨255,[(44, .v (.st 8)),(24, .v (.int .u32))], .cons (.row 24 1 (.int .u32)) (.cons (.fn (.func 256) .nil (.cons (.cQ 0) (.cons (.cQ 1) .nil))) .nil), .cons (.row 24 1 (.int .u32)) .nil,[none], .nil,[],[]⟩ (λx=>eI n x.2.2.1 x.1 x.2.1) u1 m1 (hW:=λx=>Eq.trans (b:=jL n x.2.2.1 x.1 x.2.1) (by kernel_rfl) (o6 ..))
def yj(n:Nat)(a0:au)(a1:Int):Option (List Int):=bd (aV n a0.bj.oz a1) λbg=>cn ((!bg)) (some ([]:List Int)) (bd (nH n a0.bj) λgH=>bd (eI n gH a0 a1) λeP=>some eP)
def MB(n:Nat):CT:=cV (tW n [] [bJ n,tE n,oZ n]) ⟨251,[], .cons (.v (.st 8)) (.cons (.v (.int .u32)) .nil), .cons (.row 24 1 (.int .u32)) .nil,[none], .nil,[],[]⟩ (a2 (yj n)) u1 m1
def oo(n:Nat)(a0:au)(a1:Int):Option (Int×au):=some (a1,a0)
def wU(n:Nat):CT:=cV (tW n [] []) ⟨234,[], .cons (.v (.st 8)) (.cons (.v (.int .u32)) .nil), .cons (.fn (.func 250) .nil (.cons (.box 24 (.v (.int .u32))) (.cons (.box 44 (.v (.st 8))) .nil))) .nil,[none,none], .nil,[],[]⟩ (a2 (oo n)) u2 m2
def ja(n:Nat)(a0:(List Int)):Option (List Int):=sF (λNt (eP:(List Int)) (jl:Int) (dZ:Int)=>cn (decide (jl<dZ)) (gu (bQ dZ eP.length)<|gu (bQ jl eP.length)<|gu (bQ jl eP.length)<|lt ((eP.set (Int.toNat jl) (eP.getD (Int.toNat dZ) default)):List Int) λkX=>gu (bQ dZ kX.length)<|lt ((kX.set (Int.toNat dZ) (eP.getD (Int.toNat jl) default)):List Int) λlJ=>Nt lJ (wr .i64 (jl+1)) (wr .i64 (dZ-1))) (some eP)) n a0 0 (wr .i64 ((a0.length:Int)-1))
namespace H
theorem A8{n a0 r v0}(f0:wv v0 a0.length)(h:ja n a0=some r):Bw.Fn (α:=Value) Tryz.prog 252 [v0] (XY (cm [nr v0 24 1 (LI .u32) a0]) (λ_ =>True)) [nr v0 24 1 (LI .u32) a0] (λv=>v=v0/\wv v r.length) (λv=> .tuple #[]) (λv=>[nr v 24 1 (LI .u32) r]):=by
 unfold ja at h;refine xw Tryz.func252 (by kernel_rfl) rfl Tryz.ntmps252 rfl (λcx qJ hpre hro=>?_);refine SC 3 rf ?_;refine cJ rfl (wo (Fz.row (e:=24) (sz:=1) (L:=(LI .u32)) (xs:=a0) rfl f0) rfl) ?_;refine SL 6 rf ?_;obtain⟨ag5,aaI,h⟩:=aku h;refine LO (β:=(List Int)×Int×Int) [] [0] (λ(m32,eP,jl,dZ)=>[(0,v0),(2, .int .i64 jl),(3, .int .i64 dZ)]) (λ(m32,eP,jl,dZ)=>[nr v0 24 1 (LI .u32) eP]) (λ(m32,eP,jl,dZ)=>wv v0 eP.length/\sF ag5 m32 eP jl dZ=some r) (n,a0,0,wr .i64 ((a0.length:Int)-1)) ⟨f0,h⟩ rf rf rf ?_;rintro m32 ⟨eP,jl,dZ⟩ ⟨Tn,h⟩;replace h:=afn aaI h;obtain⟨m32,rfl,h⟩:=h;refine SC 8 rf ?_;refine P5 h rf (λhc h=>?_) λhc h=>?_
 ·
  refine SC 4 rf ?_;obtain⟨ahu,h⟩:=rm h;obtain⟨Xc,h⟩:=rm h;obtain⟨ad3,h⟩:=rm h;obtain⟨kX,akP,h⟩:=uL h;obtain⟨Tv,h⟩:=rm h;obtain⟨lJ,Tk,h⟩:=uL h;refine Py Z3 (.Mg [] [(0,[0]),(1,[2]),(2,[0]),(3,[3]),(4,[0]),(5,[3]),(6,[18,19]),(7,[20]),(8,[0]),(9,[2]),(10,[22,23]),(11,[24]),(12,[14,15])] (.alt 13 [21,26] (.Mg [(2,[0]),(3,[3])] [(14,[16,17])] (.alt 15 [25,27] (.fin [] []) .no)) .no)) (by kernel_rfl) ?_;refine T0 ?_;refine NS 6 rf ?_;refine NV rf rf (Ar (m:=(Int.toNat dZ)) (Fz.row (e:=24) (sz:=1) (L:=(LI .u32)) (xs:=eP) rfl Tn) rfl rfl rfl (dF ahu).1 (dF ahu).2) ?_;refine NV rf rf (C3 (Fz.row (e:=24) (sz:=1) (L:=(LI .u32)) (xs:=eP) rfl Tn) (aW.idx (L:=(LI .u32)) (m:=(eP.length)) (k:=1) ((Int.toNat dZ)) (dF ahu).2 rfl) rfl) ?_;refine NS 2 rf ?_;refine NV rf rf (Ar (m:=(Int.toNat jl)) (Fz.row (e:=24) (sz:=1) (L:=(LI .u32)) (xs:=eP) rfl Tn) rfl rfl rfl (dF Xc).1 (dF Xc).2) ?_;refine NV rf rf (C3 (Fz.row (e:=24) (sz:=1) (L:=(LI .u32)) (xs:=eP) rfl Tn) (aW.idx (L:=(LI .u32)) (m:=(eP.length)) (k:=1) ((Int.toNat jl)) (dF Xc).2 rfl) rfl) ?_;refine NV rf rf (Ar (m:=(Int.toNat jl)) (Fz.row (e:=24) (sz:=1) (L:=(LI .u32)) (xs:=eP) rfl Tn) rfl rfl rfl (dF ad3).1 (dF ad3).2) ?_;refine kN ?_;refine X0 rf (Ug (sz:=1) (M:=(LI .u32)) (Int.toNat jl) (aW.idx (L:=(LI .u32)) (m:=(eP.length)) (k:=1) ((Int.toNat jl)) (dF ad3).2 rfl) (eP.getD (Int.toNat dZ) default) kX akP rfl rfl rfl rfl (dF ad3).2 rfl rfl) ?_;have aaz:wv v0 kX.length:=by rw[akP,List.length_set];exact Tn
  refine yq ?_ ?_
  ·exact RE 2 rf rf
  refine NV rf rf (Ar (m:=(Int.toNat dZ)) (Fz.row (e:=24) (sz:=1) (L:=(LI .u32)) (xs:=kX) rfl aaz) rfl rfl rfl (dF Tv).1 (dF Tv).2) ?_;refine kN ?_;refine X0 rf (Ug (sz:=1) (M:=(LI .u32)) (Int.toNat dZ) (aW.idx (L:=(LI .u32)) (m:=(kX.length)) (k:=1) ((Int.toNat dZ)) (dF Tv).2 rfl) (eP.getD (Int.toNat jl) default) lJ Tk rfl rfl rfl rfl (dF Tv).2 rfl rfl) ?_;have anK:wv v0 lJ.length:=by rw[Tk,List.length_set];exact aaz
  refine F00 ?_;refine SX 10 rf ?_;exact LN [0] (lJ,wr .i64 (jl+1),wr .i64 (dZ-1)) ⟨anK,h⟩ rf rf rf
 ·refine SC 4 rf ?_;have h:=sj h;subst h;exact abP v0 rfl .nil ⟨rfl,Tn⟩ rfl (ks:=[0]) rfl (by decide)
end H
def A2(n:Nat):Ct Tryz.prog sg:=Xr (G:=sg) ⟨252,[], .cons (.row 24 1 (.int .u32)) .nil, .cons (.rZ .nil) (.cons (.row 24 1 (.int .u32)) .nil),[some 0], .nil,[],[[0]]⟩ (λx=>ja n x.1) (λz=>(z,())) ([]) (by kernel_rfl) (letI:bR ((Ty.int .u32).L sg):=inferInstanceAs (bR (LI .u32));Xi (t:= .int .u32) rfl λv0 a0 r h0 h=>H.A8 h0 h)
def nM(n:Nat)(a1:Int)(a2:au):Option (List Int):=fK (λk40 (dZ:(List Int))=>cn (decide (0<(dZ.length:Int))) (gu (bQ (wr .i64 ((dZ.length:Int)-1)) dZ.length)<|yl (dZ.getD (Int.toNat (wr .i64 ((dZ.length:Int)-1))) default)<|bd (yj n a2 (dZ.getD (Int.toNat (wr .i64 ((dZ.length:Int)-1))) default)) λvB=>bd (ja n vB) λtC=>gu (bQ (wr .i64 ((dZ.length:Int)-1)) (dZ.length+1))<|lt (dZ.take (Int.toNat (wr .i64 ((dZ.length:Int)-1))):List Int) λDT=>gu (gw DT.length tC.length 4)<|lt (DT++tC:List Int) λXI=>k40 XI) (some [])) n ([a1]:List Int)
def tM(n:Nat):It Tryz.prog sg:=mkI (tX n [(3, .loop [(.slot 4,(.row 24 1 (.int .u32)))]),(1000031, .join [] [])] [MB n,A2 n] [] []) 3000 250 (.cons (.box 24 (.v (.int .u32))) (.cons (.box 44 (.v (.st 8))) .nil)) (.cons (.v (.int .u32)) .nil) (.int .nil) (B:=Int) (λy=>(y,())) (λx=>(x.1)) (λx=>nM n x.1 x.2.1) (λ_ =>rfl) (by kernel_rfl) (λx=>by kernel_rfl)
def fC(n:Nat)(mE:Int)(vA:au):Option (List Int):=bd (nM n mE vA) λbg=>sH (λ(e34:Int) k29 (iB:(List Int))=>lt (e34:Int) λs9=>gu (gw iB.length 1 4)<|lt (iB++([s9]):List Int) λnt=>k29 nt) (λ(iB:(List Int))=>some iB) bg ([]:List Int)
def nE(n:Nat):CT:=cV (tX n [(5, .loop [(.via 2, .box 248 (.row 24 1 (.int .u32)))])] [] [] [tM n]) (gN 249 [.pI, .fn (.func 250) .nil (.cons (.box 24 (.v (.int .u32))) (.cons (.box 44 (.v (.st 8))) .nil))] [.v (.sl (.int .u32))]) (a2 (fC n)) u1 m1
def ic(n:Nat)(RF:Int)(T8:au):Option (List Int):=bd (fC n RF T8) λbg=>some bg
def pZ(n:Nat):CT:=cV (tW n [] [nE n]) (gN 233 [.fn (.func 250) .nil (.cons (.box 24 (.v (.int .u32))) (.cons (.box 44 (.v (.st 8))) .nil))] [.v (.sl (.int .u32))]) (a2 (ic n)) u1 m1
def qh(n:Nat)(a0:au)(a1:Int):Option (List Int):=bd (aV n a0.bj.oz a1) λbg=>cn ((!bg)) (some ([]:List Int)) (bd (oo n a0 a1) λgH=>bd (ic n gH.1 gH.2) λgj=>some gj)
def wW(n:Nat):CT:=cV (tW n [] [bJ n,wU n,pZ n]) (gN 198 [.s 8, .w] [.v (.sl (.int .u32))]) (a2 (qh n)) u1 m1
def ym(n:Nat)(a0:au)(a1:Int):Option (au×(List Int)×Int):=bd (qh n a0 a1) λbg=>cn (((bg.length:Int)==0)) (some (a0,([]:List Int),4)) (cH (λk47 (gy:Int) (vC:au)=>cn (decide (gy<(bg.length:Int))) (gu (bQ gy bg.length)<|bd (jx n vC (bg.getD (Int.toNat gy) default)) λBh=>k47 (wr .i64 (gy+1)) Bh.1) (some (vC,bg,0))) n 0 a0)
def MC(n:Nat):CT:=cV (tW n [(11, .loop [(.slot 19,(.v (.int .i64))),(.via 2, .box 44 (.v (.st 8)))])] [wW n,Ef n]) (gN 200 [.s 8, .w] [.t [.s 8, .v (.sl (.int .u32)), .i]]) (a2 (ym n)) u3 m3
def yh(n:Nat)(a0:au)(a1:Int):Option Int:=bd (oo n a0 a1) λbg=>bd (nM n bg.1 bg.2) λiB=>sH (λ(e35:Int) k30 (jl:Int)=>lt (e35:Int) λew=>bd (jT n a0 ew) λnt=>bd (jT n a0 a1) λkX=>lt ((if jl<wr .i64 ((wr .i64 (nt-kX))+1)then wr .i64 ((wr .i64 (nt-kX))+1)else jl):Int) λqn=>k30 qn) (λ(jl:Int)=>some jl) iB 0
def MA(n:Nat):CT:=cV (tX n [(7, .loop [(.via 5, .box 3 (.v (.int .i64)))])] [wU n,wX n] [] [tM n]) (gN 204 [.s 8, .w] [.i]) (a2 (yh n)) u1 m1
def wj(n:Nat)(a0:au)(a1:Int)(a2:Int):Option (au×Int):=bd (aV n a0.bj.oz a1) λbg=>cl ((!bg)==false) (aV n a0.bj.oz a2) default λbV=>cn (((!bg)||(!bV))) (some (a0,4)) (bd (jj n a0 a1) λiB=>cl ((iB !=a1)==false) (mI n a0 a1 a2) default λeP=>cn (((iB !=a1)||eP)) (some (a0,12)) (bd (jT n a0 a2) λeJ=>bd (yh n a0 a1) λg8=>cn (decide (6<(wr .i64 (eJ+g8)))) (some (a0,8)) (bd (iN n a0 a1 a2) λnt=>some (nt.1,nt.2))))
def Ku(n:Nat):CT:=cV (tW n [] [bJ n,lB n,rX n,wX n,MA n,vD n]) (gN 167 [.s 8, .w, .w] [.t [.s 8, .i]]) (a3 (wj n)) u2 m2
def qj(n:Nat)(a0:Int)(a1:Int)(a2:au):Option Bool:=cl ((a0 !=a1)==true) (mI n a2 a0 a1) default λbg=>some ((a0 !=a1)&&bg)
def Kv(n:Nat):CT:=cV (tW n [] [rX n]) ⟨237,[(24, .v (.int .u32)),(44, .v (.st 8))], .cons (.v (.int .u32)) (.cons (.cQ 0) (.cons (.cQ 1) .nil)), .cons (.v .bool) .nil,[], .nil,[],[]⟩ (λx=>qj n x.2.2.1 x.1 x.2.1) u1 m1
def tQ(n:Nat)(a0:au)(a1:Int):Option (au×Int):=bd (aV n a0.bj.oz a1) λbg=>cn ((!bg)) (some (a0,4)) (bd (oo n a0 a1) λeP=>bd (nM n eP.1 eP.2) λg8=>sH (λ(e49:Int) k44 (gy:au)=>lt (e49:Int) λBx=>bd (eY n gy Bx) λtC=>cH (λk74 (xS:Int) (AH:aR)=>cn (decide (xS<8)) (gu (bQ xS 8)<|bd (qj n (tC.1.bC (Int.toNat xS)) a1 a0) λMs=>cn (Ms) (gu (bQ xS 8)<|lt ({AH with bC:=(dm AH.bC (Int.toNat xS) 0)}:aR) λPO=>k74 (wr .i64 (xS+1)) PO) (k74 (wr .i64 (xS+1)) AH)) (bd (gF n gy Bx AH) λGO=>k44 GO.1)) n 0 tC.1) (λ(gy:au)=>bd (iN n gy a1 0) λNU=>some (NU.1,NU.2)) g8 a0)
def N9(n:Nat):CT:=cV (tX n [(13, .loop [(.via 7, .box 44 (.v (.st 8)))]),(19, .loop [(.slot 34,(.v (.int .i64))),(.via 9, .box 41 (.v (.st 7)))])] [bJ n,wU n,iM n,Kv n,rS n,vD n] [] [tM n]) (gN 202 [.s 8, .w] [.t [.s 8, .i]]) (a2 (tQ n)) u2 m2
def oH(n:Nat)(a0:aS)(a1:Int):Option Int:=fK (λzX (bV:Int)=>cn (decide (bV<(a0.cR.length:Int))) (gu (bQ bV a0.cR.length)<|cn (((a0.cR.getD (Int.toNat bV) default)==a1)) (some bV) (zX (wr .i64 (bV+1)))) (some (-1))) n 0
def AK(n:Nat):CT:=cV (tW n [(5, .loop [(.slot 5,(.v (.int .i64)))])] []) (gN 95 [.s 23, .i] [.i]) (a2 (oH n)) u1 m1
def kR(n:Nat)(a0:aS)(a1:Int)(a2:bS):Option aS:=gu (gw ([]:List Int).length a0.cR.length 8)<|lt (([]:List Int)++a0.cR:List Int) λfX=>gu (gw ([]:List bS).length a0.tA.length 24)<|lt (([]:List bS)++a0.tA:List bS) λg8=>lt ({cR:=fX,tA:=g8}:aS) λjN=>bd (oH n a0 a1) λqn=>cn (decide (qn<0)) (gu (gw fX.length 1 8)<|lt (fX++([a1]):List Int) λlJ=>lt ({({cR:=fX,tA:=g8}:aS)with cR:=lJ}:aS) λoT=>gu (gw g8.length 1 24)<|lt (g8++([a2]):List bS) λmy=>lt ({({({cR:=fX,tA:=g8}:aS)with cR:=lJ})with tA:=my}:aS) λBx=>lt (({{({cR:=fX,tA:=g8}:aS)with cR:=lJ}with tA:=my}):aS) λBh=>some Bh) (gu (bQ qn g8.length)<|lt ((g8.set (Int.toNat qn) a2):List bS) λDT=>lt (({({cR:=fX,tA:=g8}:aS)with tA:=DT}):aS) λWc=>some Wc)
namespace H
abbrev cB:dB aS:=dB.via (LP (V9 (LI .i64)) (V9 aK)) (λx=>(x.cR,x.tA))
def fP:List Value:=[.slice none 0 0]++([.slice none 0 0])
theorem lA{A:World->Prop}:cB.eZ A fP iq:=⟨_,_,rfl,⟨_,rfl,Fz.nil⟩,⟨_,rfl,Fz.nil⟩⟩
theorem yt:aW cB (V9 (LI .i64)) 0 (λx=>x.cR) (λx v=>{x with cR:=v}):=(aW.fst aW.id).via _ _ _ 0 rfl (λ_ =>rfl) (λ_ _ =>rfl)
theorem zm:aW cB (V9 aK) 1 (λx=>x.tA) (λx v=>{x with tA:=v}):=(aW.snd aW.id).via _ _ _ 1 rfl (λ_ =>rfl) (λ_ _ =>rfl)
theorem JD{n:Nat}{a0:aS}{a1:Int}{r:Int}{R:List aO}(hg:Wa sg (Hs R)){vX:List Value}(f0:(cB).eZ (Hs R) vX a0)(h:oH n a0 a1=some r):FnW Tryz.prog 95 [.agg vX.toArray, .int .i64 a1] (Hs R) (.int .i64 r):=by
 obtain⟨c1,c2,e0,k0,k1⟩:=f0;exact Fn.pre (zf (ct:=AK n) (pW:=[]) (ρ:=λ_ =>none) (x:=(a0,a1,())) (y:=(r,())) ⟨r,h,rfl⟩ hg (λJ hJ=>⟨_,_,rfl,EK (t:= .st 23) (dB.mono _ hJ ⟨c1,c2,e0,WW k0,WW k1⟩) rfl,_,_,rfl,rfl,rfl⟩) rfl rfl (λJ _ r o e=>by cases e) (λ_ _ =>rfl) λJ σ u us ⟨_,_,e,h1,_⟩=>by
  cases e;have h1:[u]=[.int .i64 _]:=h1;cases h1;rfl) λw hw=>λw' hs=>Cs.ok w w' hw hs
theorem Gb{n a0 a1 a2 r}{R:List aO}(hg:Wa sg (Hs R)){vX}(f0:(cB).eZ (Hs R) vX a0)(h:kR n a0 a1 a2=some r):FnB Tryz.prog 87 [A vX, .int .i64 a1, .agg (aK.enc a2).toArray] (Hs R) (λJ v=>∃u0,v=(A u0)/\(cB).eZ (λw=>(Hs R) w/\J w) u0 (r)):=by
 unfold kR at h;refine fo Tryz.func87 (by kernel_rfl) rfl Tryz.ntmps87 rfl λcx _ hro qJ hpre=>?_;refine SC 2 rf ?_;refine W1 rf (PI rfl) λb3=>?_;refine W1 rf (qk aK a2 rfl rfl) λb5=>?_;refine W1 rf (sS (hz:=(⟨by kernel_rfl⟩:ke Tryz.prog 84 fP))) λb6=>?_;refine SL 2 rf ?_;obtain⟨Q8,h⟩:=rm h;obtain⟨fX,Q2,h⟩:=uL h;obtain⟨Xd,h⟩:=rm h;obtain⟨g8,W5,h⟩:=uL h;obtain⟨jN,ahl,h⟩:=uL h;refine Gi 190 10 aK ?_;refine Gi 3 1 (LI .i64) ?_;refine CU (α:=Value×Value×Value×Value×(List Value)×Nat) [1,3,5,6] rf (λ(v21,yz,PS,xO,VN,b7)=>[(7,fW b7 0)]) (λ(v21,yz,PS,xO,VN,b7)=>[.cells b7 84 ([yz]++[xO]),nr xO 190 10 aK g8,nr yz 3 1 (LI .i64) fX, .cells b6 84 fP, .cells b5 190 (aK.enc a2), .cells b3 84 vX]) (λ(v21,yz,PS,xO,VN,b7)=>Fz (Hs R) v21 (LI .i64) a0.cR/\wv yz fX.length/\Fz (Hs R) PS aK a0.tA/\wv xO g8.length/\(cB).eZ (Hs [nr yz 3 1 (LI .i64) fX,nr xO 190 10 aK g8]) VN jN) ?_ ?_
 ·
  refine Py Z3 (.Mg [] [(0,[3]),(1,[9]),(3,[3]),(4,[12])] (.alt 2 [10] (.Mg [(3,[3]),(4,[12])] [] (.alt 5 [13] (.Mg [] [(6,[11,14])] (.alt 7 [] (.Mg [(6,[11,14])] [] (.alt 8 [7,15] (.fin [] []) .no)) .no)) (.alt 7 [] (.Mg [(3,[3]),(4,[12])] [] (.alt 5 [13] (.Mg [] [(6,[11,14])] (.alt 8 [7,15] (.fin [] []) .no)) .no)) .no))) (.alt 7 [] (.Mg [(0,[3]),(1,[9]),(3,[3]),(4,[12])] [] (.alt 2 [10] (.Mg [(3,[3]),(4,[12])] [] (.alt 5 [13] (.Mg [] [(6,[11,14])] (.alt 8 [7,15] (.fin [] []) .no)) .no)) .no)) .no))) (by kernel_rfl) ?_;refine T0 ?_;refine NS 1 rf ?_;obtain⟨v21,aaw,f22⟩:=yt.sl f0;refine NV rf rf (lz rfl aaw) ?_;refine NS 1 rf ?_;obtain⟨PS,aav,f29⟩:=zm.sl f0;refine NV rf rf (lz rfl aav) ?_;refine kN ?_;refine X2 rf rf (Gn (sz:=1) (L:=(LI .i64)) (xs:=([]:List Int)) (ys:=a0.cR) (bytes:=8) f22 rfl rfl rfl (kU Q8).1 (kU Q8).2) (λyz sZ=>?_) ?_
  ·
   rw[← Q2]at sZ;rw[← Q2];refine yq ?_ ?_
   ·refine RSn 1 rf rf ?_;refine RO rf rf (lz rfl aav) rf ?_;exact xI
   refine kN ?_;refine X2 rf rf (Gn (sz:=10) (L:=aK) (xs:=([]:List bS)) (ys:=a0.tA) (bytes:=24) f29 rfl rfl rfl (kU Xd).1 (kU Xd).2) (λxO tO=>?_) ?_
   ·
    rw[← W5]at tO;rw[← W5];refine T0 ?_;obtain⟨VN,O8,f37⟩:∃cc,([yz]++[xO])=cc/\(cB).eZ (Hs [nr yz 3 1 (LI .i64) fX,nr xO 190 10 aK g8]) cc jN:=⟨_,rfl,by rw[ahl];exact⟨_,_,rfl,⟨_,rfl,(Fz.row (e:=3) (sz:=1) (L:=(LI .i64)) (xs:=fX) rfl sZ).mono GL⟩,⟨_,rfl,(Fz.row (e:=190) (sz:=10) (L:=aK) (xs:=g8) rfl tO).mono GL⟩⟩⟩;refine NV rf rf (sQ (cs:=VN) rfl (by rw[← O8];first|rfl|(have UN:=(Fz.row (e:=3) (sz:=1) (L:=(LI .i64)) (xs:=fX) rfl sZ).sl.cells;have UO:=(Fz.row (e:=3) (sz:=1) (L:=(LI .i64)) (xs:=fX) rfl sZ).sl.size;generalize yz=vz0 at UN UO ⊢;have Zl:=(Fz.row (e:=190) (sz:=10) (L:=aK) (xs:=g8) rfl tO).sl.cells;have Zm:=(Fz.row (e:=190) (sz:=10) (L:=aK) (xs:=g8) rfl tO).sl.size;generalize xO=vz1 at Zl Zm ⊢;simp[tn,cU,show∀k i,(Value.int k i).cells= #[Value.int k i]fromλ_ _ =>rfl,show∀q,(Value.bool q).cells= #[Value.bool q]fromλ_ =>rfl,show∀a,(Value.agg a).cells=a fromλ_ =>rfl,UN,UO,Zl,Zm];try rfl))) ?_;refine kN ?_;refine X1 rf rf (sS (hz:=(⟨by kernel_rfl⟩:ke Tryz.prog 84 fP))) λb7 _ =>?_;refine yq ?_ ?_
    ·refine RO rf rf (sQ (cs:=VN) rfl (by rw[← O8];first|rfl|(have UN:=(Fz.row (e:=3) (sz:=1) (L:=(LI .i64)) (xs:=fX) rfl sZ).sl.cells;have UO:=(Fz.row (e:=3) (sz:=1) (L:=(LI .i64)) (xs:=fX) rfl sZ).sl.size;generalize yz=vz0 at UN UO ⊢;have Zl:=(Fz.row (e:=190) (sz:=10) (L:=aK) (xs:=g8) rfl tO).sl.cells;have Zm:=(Fz.row (e:=190) (sz:=10) (L:=aK) (xs:=g8) rfl tO).sl.size;generalize xO=vz1 at Zl Zm ⊢;simp[tn,cU,show∀k i,(Value.int k i).cells= #[Value.int k i]fromλ_ _ =>rfl,show∀q,(Value.bool q).cells= #[Value.bool q]fromλ_ =>rfl,show∀a,(Value.agg a).cells=a fromλ_ =>rfl,UN,UO,Zl,Zm];try rfl))) rf ?_;exact xI
    refine kN ?_;refine X0 rf (LW (cs':=([yz]++[xO])) ([yz]++[xO]) (aW.id (L:=cB)) (v:=({cR:=fX,tA:=g8}:aS)) (r:=(show(cB).eZ (Hs []) fP iq from lA)) (rv:=(show(cB).eZ (Hs [nr yz 3 1 (LI .i64) fX,nr xO 190 10 aK g8]) ([yz]++[xO]) ({cR:=fX,tA:=g8}:aS)from⟨_,_,rfl,⟨_,rfl,(Fz.row (e:=3) (sz:=1) (L:=(LI .i64)) (xs:=fX) rfl sZ).mono GL⟩,⟨_,rfl,(Fz.row (e:=190) (sz:=10) (L:=aK) (xs:=g8) rfl tO).mono GL⟩⟩)) rfl rfl (by rw[← O8];rfl) rfl rfl) ?_;refine F00 ?_;exact CE [0,2,1,3,4,5] (v21,yz,PS,xO,VN,b7) ⟨f22,sZ,f29,tO,f37⟩ rf rf rf
   refine X2 rf rf (sS (hz:=(⟨by kernel_rfl⟩:ke Tryz.prog 84 fP))) (λb7 _ =>?_) ?_
   ·
    refine yq ?_ ?_
    ·refine RSn 1 rf rf ?_;refine RO rf rf (lz rfl aav) rf ?_;exact xI
    refine kN ?_;refine X1 rf rf (Gn (sz:=10) (L:=aK) (xs:=([]:List bS)) (ys:=a0.tA) (bytes:=24) f29 rfl rfl rfl (kU Xd).1 (kU Xd).2) λxO tO=>?_;rw[← W5]at tO;rw[← W5];refine T0 ?_;obtain⟨VN,O8,f37⟩:∃cc,([yz]++[xO])=cc/\(cB).eZ (Hs [nr yz 3 1 (LI .i64) fX,nr xO 190 10 aK g8]) cc jN:=⟨_,rfl,by rw[ahl];exact⟨_,_,rfl,⟨_,rfl,(Fz.row (e:=3) (sz:=1) (L:=(LI .i64)) (xs:=fX) rfl sZ).mono GL⟩,⟨_,rfl,(Fz.row (e:=190) (sz:=10) (L:=aK) (xs:=g8) rfl tO).mono GL⟩⟩⟩;refine NV rf rf (sQ (cs:=VN) rfl (by rw[← O8];first|rfl|(have UN:=(Fz.row (e:=3) (sz:=1) (L:=(LI .i64)) (xs:=fX) rfl sZ).sl.cells;have UO:=(Fz.row (e:=3) (sz:=1) (L:=(LI .i64)) (xs:=fX) rfl sZ).sl.size;generalize yz=vz0 at UN UO ⊢;have Zl:=(Fz.row (e:=190) (sz:=10) (L:=aK) (xs:=g8) rfl tO).sl.cells;have Zm:=(Fz.row (e:=190) (sz:=10) (L:=aK) (xs:=g8) rfl tO).sl.size;generalize xO=vz1 at Zl Zm ⊢;simp[tn,cU,show∀k i,(Value.int k i).cells= #[Value.int k i]fromλ_ _ =>rfl,show∀q,(Value.bool q).cells= #[Value.bool q]fromλ_ =>rfl,show∀a,(Value.agg a).cells=a fromλ_ =>rfl,UN,UO,Zl,Zm];try rfl))) ?_;refine kN ?_;refine X0 rf (LW (cs':=([yz]++[xO])) ([yz]++[xO]) (aW.id (L:=cB)) (v:=({cR:=fX,tA:=g8}:aS)) (r:=(show(cB).eZ (Hs []) fP iq from lA)) (rv:=(show(cB).eZ (Hs [nr yz 3 1 (LI .i64) fX,nr xO 190 10 aK g8]) ([yz]++[xO]) ({cR:=fX,tA:=g8}:aS)from⟨_,_,rfl,⟨_,rfl,(Fz.row (e:=3) (sz:=1) (L:=(LI .i64)) (xs:=fX) rfl sZ).mono GL⟩,⟨_,rfl,(Fz.row (e:=190) (sz:=10) (L:=aK) (xs:=g8) rfl tO).mono GL⟩⟩)) rfl rfl (by rw[← O8];rfl) rfl rfl) ?_;refine F00 ?_;exact CE [0,2,1,3,4,5] (v21,yz,PS,xO,VN,b7) ⟨f22,sZ,f29,tO,f37⟩ rf rf rf
   exact ab8
  refine X2 rf rf (sS (hz:=(⟨by kernel_rfl⟩:ke Tryz.prog 84 fP))) (λb7 _ =>?_) ?_
  ·
   refine yq ?_ ?_
   ·refine RSn 1 rf rf ?_;refine RO rf rf (lz rfl aaw) rf ?_;refine RSn 1 rf rf ?_;refine RO rf rf (lz rfl aav) rf ?_;exact xI
   refine kN ?_;refine X1 rf rf (Gn (sz:=1) (L:=(LI .i64)) (xs:=([]:List Int)) (ys:=a0.cR) (bytes:=8) f22 rfl rfl rfl (kU Q8).1 (kU Q8).2) λyz sZ=>?_;rw[← Q2]at sZ;rw[← Q2];refine yq ?_ ?_
   ·refine RSn 1 rf rf ?_;refine RO rf rf (lz rfl aav) rf ?_;exact xI
   refine kN ?_;refine X1 rf rf (Gn (sz:=10) (L:=aK) (xs:=([]:List bS)) (ys:=a0.tA) (bytes:=24) f29 rfl rfl rfl (kU Xd).1 (kU Xd).2) λxO tO=>?_;rw[← W5]at tO;rw[← W5];refine T0 ?_;obtain⟨VN,O8,f37⟩:∃cc,([yz]++[xO])=cc/\(cB).eZ (Hs [nr yz 3 1 (LI .i64) fX,nr xO 190 10 aK g8]) cc jN:=⟨_,rfl,by rw[ahl];exact⟨_,_,rfl,⟨_,rfl,(Fz.row (e:=3) (sz:=1) (L:=(LI .i64)) (xs:=fX) rfl sZ).mono GL⟩,⟨_,rfl,(Fz.row (e:=190) (sz:=10) (L:=aK) (xs:=g8) rfl tO).mono GL⟩⟩⟩;refine NV rf rf (sQ (cs:=VN) rfl (by rw[← O8];first|rfl|(have UN:=(Fz.row (e:=3) (sz:=1) (L:=(LI .i64)) (xs:=fX) rfl sZ).sl.cells;have UO:=(Fz.row (e:=3) (sz:=1) (L:=(LI .i64)) (xs:=fX) rfl sZ).sl.size;generalize yz=vz0 at UN UO ⊢;have Zl:=(Fz.row (e:=190) (sz:=10) (L:=aK) (xs:=g8) rfl tO).sl.cells;have Zm:=(Fz.row (e:=190) (sz:=10) (L:=aK) (xs:=g8) rfl tO).sl.size;generalize xO=vz1 at Zl Zm ⊢;simp[tn,cU,show∀k i,(Value.int k i).cells= #[Value.int k i]fromλ_ _ =>rfl,show∀q,(Value.bool q).cells= #[Value.bool q]fromλ_ =>rfl,show∀a,(Value.agg a).cells=a fromλ_ =>rfl,UN,UO,Zl,Zm];try rfl))) ?_;refine kN ?_;refine X0 rf (LW (cs':=([yz]++[xO])) ([yz]++[xO]) (aW.id (L:=cB)) (v:=({cR:=fX,tA:=g8}:aS)) (r:=(show(cB).eZ (Hs []) fP iq from lA)) (rv:=(show(cB).eZ (Hs [nr yz 3 1 (LI .i64) fX,nr xO 190 10 aK g8]) ([yz]++[xO]) ({cR:=fX,tA:=g8}:aS)from⟨_,_,rfl,⟨_,rfl,(Fz.row (e:=3) (sz:=1) (L:=(LI .i64)) (xs:=fX) rfl sZ).mono GL⟩,⟨_,rfl,(Fz.row (e:=190) (sz:=10) (L:=aK) (xs:=g8) rfl tO).mono GL⟩⟩)) rfl rfl (by rw[← O8];rfl) rfl rfl) ?_;refine F00 ?_;exact CE [0,2,1,3,4,5] (v21,yz,PS,xO,VN,b7) ⟨f22,sZ,f29,tO,f37⟩ rf rf rf
  exact ab8
 ·
  rintro⟨v21,yz,PS,xO,VN,b7⟩ ⟨f22,sZ,f29,tO,f37⟩;obtain⟨qn,anB,h⟩:=vx h;refine SC 2 rf ?_;refine cJ rfl (tV rfl (dB.len _ f0)) ?_;refine cJ rfl (dH rfl) ?_;refine CV (JD (R:=R) hg (mo f0) anB) rf rf ?_;refine SL 10 rf ?_;refine P5 h rf (λhc h=>?_) λhc h=>?_
  ·obtain⟨Tv,h⟩:=rm h;obtain⟨lJ,Tk,h⟩:=uL h;obtain⟨oT,ahj,h⟩:=uL h;refine SC 3 rf ?_;refine cJ rfl (lz rfl rfl) ?_;refine cJ rfl (dH rfl) ?_;refine zh rfl (Ia (LI .i64) a1 rfl rfl rfl rfl (by decide) (by decide)) (λb24 _ =>?_);refine zh rfl (Gp (sz:=1) (L:=(LI .i64)) (xs:=fX) (y:=a1) (bytes:=8) rfl rfl rfl (kU Tv).1 (kU Tv).2) (λXJ W7=>?_);rw[← Tk]at W7;rw[← Tk];refine cJ rfl (C5 rfl) ?_;refine W0 (LW (cs':=([XJ]++[xO])) ([XJ]) yt (v:=lJ) (r:=(show(cB).eZ (λ_ =>False) ([yz]++[xO]) ({cR:=fX,tA:=g8}:aS)from⟨_,_,rfl,⟨_,rfl,⟨sZ,λ_ h=>h.elim⟩⟩,⟨_,rfl,(Fz.row (e:=190) (sz:=10) (L:=aK) (xs:=g8) rfl tO).mono (λ_ h=>h.elim)⟩⟩)) (rv:=(⟨_,rfl,(Fz.row (e:=3) (sz:=1) (L:=(LI .i64)) (xs:=lJ) rfl W7)⟩:((V9 (LI .i64))).eZ (Hs [nr XJ 3 1 (LI .i64) lJ]) ([XJ]) lJ)) rfl rfl (Fz.row (e:=3) (sz:=1) (L:=(LI .i64)) (xs:=lJ) rfl W7).sl.cells rfl rfl) ?_;obtain⟨ala,h⟩:=rm h;obtain⟨my,akN,h⟩:=uL h;obtain⟨Bx,aoD,h⟩:=uL h;refine SL 5 rf ?_;refine cJ rfl (lz rfl rfl) ?_;refine cJ rfl (nA (M:=aK) (aW.id (L:=aK)) rfl rfl) ?_;refine zh rfl (Ia aK a2 rfl rfl rfl rfl (by decide) (by decide)) (λb30 _ =>?_);refine zh rfl (Gp (sz:=10) (L:=aK) (xs:=g8) (y:=a2) (bytes:=24) rfl rfl rfl (kU ala).1 (kU ala).2) (λv46 aay=>?_);rw[← akN]at aay;rw[← akN];refine cJ rfl (C5 rfl) ?_;refine W0 (LW (cs':=([XJ]++[v46])) ([v46]) zm (v:=my) (r:=(show(cB).eZ (λ_ =>False) ([XJ]++[xO]) ({({cR:=fX,tA:=g8}:aS)with cR:=lJ})from⟨_,_,rfl,⟨_,rfl,(Fz.row (e:=3) (sz:=1) (L:=(LI .i64)) (xs:=lJ) rfl W7).mono (λ_ h=>h.elim)⟩,⟨_,rfl,⟨tO,λ_ h=>h.elim⟩⟩⟩)) (rv:=(⟨_,rfl,(Fz.row (e:=190) (sz:=10) (L:=aK) (xs:=my) rfl aay)⟩:((V9 aK)).eZ (Hs [nr v46 190 10 aK my]) ([v46]) my)) rfl rfl (Fz.row (e:=190) (sz:=10) (L:=aK) (xs:=my) rfl aay).sl.cells rfl rfl) ?_;obtain⟨Bh,anz,h⟩:=uL h;refine SL 4 rf ?_;refine cJ rfl (tV rfl (dB.len _ (show(cB).eZ (Hs [nr XJ 3 1 (LI .i64) lJ,nr v46 190 10 aK my]) ([XJ]++[v46]) ({{({cR:=fX,tA:=g8}:aS)with cR:=lJ}with tA:=my})from⟨_,_,rfl,⟨_,rfl,(Fz.row (e:=3) (sz:=1) (L:=(LI .i64)) (xs:=lJ) rfl W7).mono GL⟩,⟨_,rfl,(Fz.row (e:=190) (sz:=10) (L:=aK) (xs:=my) rfl aay).mono GL⟩⟩))) ?_;refine ST (C:=(Hs [nr XJ 3 1 (LI .i64) lJ,nr v46 190 10 aK my])) Bh (aW.id (L:=cB)) lA (mo (show(cB).eZ (Hs [nr XJ 3 1 (LI .i64) lJ,nr v46 190 10 aK my]) ([XJ]++[v46]) ({{({cR:=fX,tA:=g8}:aS)with cR:=lJ}with tA:=my})from⟨_,_,rfl,⟨_,rfl,(Fz.row (e:=3) (sz:=1) (L:=(LI .i64)) (xs:=lJ) rfl W7).mono GL⟩,⟨_,rfl,(Fz.row (e:=190) (sz:=10) (L:=aK) (xs:=my) rfl aay).mono GL⟩⟩)) anz rf rf rf rf λc50 f51=>?_;refine SL 4 rf ?_;have h:=sj h;subst h;exact RBu (R:=[nr v46 190 10 aK my,nr XJ 3 1 (LI .i64) lJ]) [3,4] rf rf (ra rf (dB.len _ f51) rn) ⟨_,rfl,(mo f51)⟩
  ·
   obtain⟨ad2,h⟩:=rm h;obtain⟨DT,akM,h⟩:=uL h;refine SC 5 rf ?_;refine cJ rfl (lz rfl rfl) ?_;refine cJ rfl (dH rfl) ?_;refine cJ rfl (nA (M:=aK) (aW.id (L:=aK)) rfl rfl) ?_;refine cJ rfl (Ar (m:=(Int.toNat qn)) (Fz.row (e:=190) (sz:=10) (L:=aK) (xs:=g8) rfl tO) rfl rfl rfl (dF ad2).1 (dF ad2).2) ?_;refine W0 (Ug (sz:=10) (M:=aK) (Int.toNat qn) (aW.idx (L:=aK) (m:=(g8.length)) (k:=10) ((Int.toNat qn)) (dF ad2).2 rfl) a2 DT akM rfl rfl rfl rfl (dF ad2).2 rfl rfl) ?_;have akX:wv xO DT.length:=by rw[akM,List.length_set];exact tO
   obtain⟨Wc,anx,h⟩:=uL h;refine SL 4 rf ?_;refine cJ rfl (tV rfl (dB.len _ (show(cB).eZ (Hs [nr yz 3 1 (LI .i64) fX,nr xO 190 10 aK DT]) ([yz]++[xO]) ({({cR:=fX,tA:=g8}:aS)with tA:=DT})from⟨_,_,rfl,⟨_,rfl,(Fz.row (e:=3) (sz:=1) (L:=(LI .i64)) (xs:=fX) rfl sZ).mono GL⟩,⟨_,rfl,(Fz.row (e:=190) (sz:=10) (L:=aK) (xs:=DT) rfl akX).mono GL⟩⟩))) ?_;refine ST (C:=(Hs [nr yz 3 1 (LI .i64) fX,nr xO 190 10 aK DT])) Wc (aW.id (L:=cB)) lA (mo (show(cB).eZ (Hs [nr yz 3 1 (LI .i64) fX,nr xO 190 10 aK DT]) ([yz]++[xO]) ({({cR:=fX,tA:=g8}:aS)with tA:=DT})from⟨_,_,rfl,⟨_,rfl,(Fz.row (e:=3) (sz:=1) (L:=(LI .i64)) (xs:=fX) rfl sZ).mono GL⟩,⟨_,rfl,(Fz.row (e:=190) (sz:=10) (L:=aK) (xs:=DT) rfl akX).mono GL⟩⟩)) anx rf rf rf rf λc57 f58=>?_;refine SL 3 rf ?_;have h:=sj h;subst h;exact RBu (R:=[nr xO 190 10 aK DT,nr yz 3 1 (LI .i64) fX]) [1,2] rf rf (ra rf (dB.len _ f58) rn) ⟨_,rfl,(mo f58)⟩
end H
def xT(n:Nat):Ct Tryz.prog sg:=Xr (G:=sg) ⟨87,[], .cons (.v (.st 23)) (.cons (.v (.int .i64)) (.cons (.v (.st 22)) .nil)), .cons (.v (.st 23)) .nil,[], .nil,[],[]⟩ (λx=>kR n x.1 x.2.1 x.2.2.1) (λz=>(z,())) (iq) (by kernel_rfl) (Vr (λ_ =>rfl) (λ_ =>rfl) rfl λρ R x z vs hg hz hv=>by
 obtain⟨cs,r1,e_1,⟨c1,c2,e0,h0,h1⟩,v1⟩:=Hh hv rfl;obtain⟨r2,e_2,v2⟩:=Ou v1;obtain⟨cr,r3,e_3,h2,v3⟩:=Hh v2 rfl;have e_0:r3=[]:=v3;subst e_0 e_3 e_2 e_1;obtain rfl:=(bR.iff (L:=aK)).1 h2;exact⟨_,H.Gb hg ⟨c1,c2,e0,agW h0,agW h1⟩ hz,λJ v ⟨u,e,d1,d2,e1,k0,k1⟩=>by
  subst e;exact⟨_,_,rfl,EK (t:= .st 23) ⟨d1,d2,e1,WW k0,WW k1⟩ rfl,rfl⟩⟩)
def xh(n:Nat)(a0:ai)(a1:Int):Option Int:=bd (bH n a0 a1) λbg=>cn ((!bg)) (some 4) (bd (iQ n a0 a1) λbV=>cn ((bV !=a1)) (some 12) (some 0))
def Fe(n:Nat):CT:=cV (tW n [] [cq n,rU n]) (gN 86 [.s 21, .i] [.i]) (a2 (xh n)) u1 m1
def dI(n:Nat)(a0:aS)(a1:ai)(a2:Int)(a3:Int)(a4:Int):Option (aS×Int):=bd (xh n a1 a2) λbg=>lt (λ(bV:Int)=>cn ((bV !=0)) (some (a0,bV)) (lt ({dx:=a4,gT:=0,lH:=(λ_ =>false)}:bS) λeP=>lt (λ(gj:bS)=>lt (λ(eJ:bS)=>bd (kR n a0 a2 eJ) λjN=>some (jN,0)) λj32=>cn ((a4==3)) (gu (bQ a3 8)<|lt ({gj with lH:=(dm gj.lH (Int.toNat a3) true)}:bS) λew=>j32 ew) (j32 gj)) λj29=>cn ((a4==1)) (lt ({eP with gT:=a3}:bS) λdZ=>j29 dZ) (j29 eP))) λj23=>cn ((((bg==0)&&(a4 !=2))&&(decide (a3<0)||decide (7<a3)))) (j23 2) (j23 bg)
def p7(n:Nat):CT:=cV (tW n [(8, .join [(.slot 12,(.v (.int .i64)))] []),(18, .join [(.via 13, .box 190 (.v (.st 22)))] []),(22, .join [(.via 13, .box 190 (.v (.st 22)))] [])] [Fe n,xT n]) (gN 56 [.s 23, .s 21, .i, .i, .i] [.t [.s 23, .i]]) (λx=>dI n x.1 x.2.1 x.2.2.1 x.2.2.2.1 x.2.2.2.2.1) u2 m2
def iK(n:Nat)(a0:aS)(a1:ai)(a2:Int):Option bS:=bd (iQ n a1 a2) λbg=>bd (oH n a0 bg) λbV=>cl ((decide (bV<0))==false) (bH n a1 a2) default λgH=>cn ((decide (bV<0)||(!gH))) (lt ({dx:=0,gT:=0,lH:=(λ_ =>false)}:bS) λiv=>some iv) (gu (bQ bV a0.tA.length)<|lt ((a0.tA.getD (Int.toNat bV) default):bS) λgj=>some gj)
def mG(n:Nat):CT:=cV (tW n [] [rU n,AK n,cq n]) (gN 67 [.s 23, .s 21, .i] [.s 22]) (a3 (iK n)) u1 m1
def jf(n:Nat)(a0:aS)(a1:ai)(a2:Int)(a3:Int)(a4:Bool):Option (aS×Int×Int):=bd (xh n a1 a2) λbg=>bd (iK n a0 a1 a2) λbV=>lt (λ(gH:Int)=>lt (λ(fX:Int)=>lt (λ(eP:Int)=>cn ((eP !=0)) (some (a0,0,eP)) (gu (bQ a3 8)<|lt ({bV with lH:=(dm bV.lH (Int.toNat a3) a4)}:bS) λew=>cH (λk41 (kX:Int) (qn:Int)=>cn (decide (qn<8)) (gu (bQ qn 8)<|cn ((ew.lH (Int.toNat qn))) (k41 (wr .i64 (kX+1)) (wr .i64 (qn+1))) (k41 kX (wr .i64 (qn+1)))) (bd (kR n a0 a2 ew) λoT=>some (oT,kX,0))) n 0 0)) λj28=>gu (!((fX==0)==true)||bQ a3 8)<|cn (((fX==0)&&((bV.lH (Int.toNat a3))==a4))) (cn (a4) (j28 7) (j28 5)) (j28 fX)) λj26=>cn (((gH==0)&&(decide (a3<0)||decide (7<a3)))) (j26 2) (j26 gH)) λj24=>cn (((bg==0)&&(bV.dx !=3))) (j24 12) (j24 bg)
def rT(n:Nat):CT:=cV (tW n [(10, .join [(.slot 13,(.v (.int .i64)))] []),(14, .join [(.slot 13,(.v (.int .i64)))] []),(22, .join [(.slot 13,(.v (.int .i64)))] []),(33, .loop [(.slot 15,(.v (.int .i64))),(.slot 16,(.v (.int .i64)))])] [Fe n,mG n,xT n]) (gN 63 [.s 23, .s 21, .i, .i, .b] [.t [.s 23, .i, .i]]) (λx=>jf n x.1 x.2.1 x.2.2.1 x.2.2.2.1 x.2.2.2.2.1) u3 m3
def jB(n:Nat)(a0:aS)(a1:ai)(a2:Int)(a3:Bool):Option (List Int):=bd (oF n a1) λbg=>cH (λFT (eJ:(List Int)) (ew:Int)=>cn (decide (ew<(bg.length:Int))) (gu (bQ ew bg.length)<|bd (iK n a0 a1 (bg.getD (Int.toNat ew) default)) λrL=>gu (!((((rL.dx==3)&&decide (0<=a2))&&decide (a2<8))==true)||bQ (lV .i64 a2 7) 8)<|gu (bQ ew bg.length)<|bd (iQ n a1 (bg.getD (Int.toNat ew) default)) λvC=>gu (bQ ew bg.length)<|cn (((vC==(bg.getD (Int.toNat ew) default))&&(((!a3)&&((rL.dx==1)&&(rL.gT==a2)))||(a3&&((((rL.dx==3)&&decide (0<=a2))&&decide (a2<8))&&(rL.lH (Int.toNat (lV .i64 a2 7)))))))) (gu (bQ ew bg.length)<|gu (gw eJ.length 1 8)<|lt (eJ++([(bg.getD (Int.toNat ew) default)]):List Int) λvB=>FT vB (wr .i64 (ew+1))) (FT eJ (wr .i64 (ew+1)))) (some eJ)) n ([]) 0
def El(n:Nat):CT:=cV (tW n [(9, .loop [(.slot 9,(.row 3 1 (.int .i64))),(.slot 11,(.v (.int .i64)))])] [xV n,mG n,rU n]) ⟨97,[], .cons (.v (.st 23)) (.cons (.v (.st 21)) (.cons (.v (.int .i64)) (.cons (.v .bool) .nil))), .cons (.row 3 1 (.int .i64)) .nil,[none], .nil,[],[]⟩ (a4 (jB n)) u1 m1
def jh(n:Nat)(a0:bM)(a1:au)(a2:Int):Option cF:=bd (jj n a1 a2) λbg=>bd (bW n bg) λbV=>gu (!((!bV.2)==false)||bQ bV.1 32)<|cn (((!bV.2)||(((a0.aI (Int.toNat bV.1)).root)!=bg))) (lt ({dx:=0,gT:=0,dR:=0}:cF) λiv=>some iv) (gu (bQ bV.1 32)<|lt ((a0.aI (Int.toNat bV.1)).own:cF) λiB=>some iB)
def nu(n:Nat):CT:=cV (tW n [] [lB n,dw n]) (gN 173 [.s 11, .s 8, .w] [.s 9]) (a3 (jh n)) u1 m1
def zQ(n:Nat)(a0:Int):Option Int:=gu (decide (0<=(lV .i64 a0 7)))<|some (KI .u8 1 (lV .i64 a0 7))
def G1(n:Nat):CT:=cV (tW n [] []) (gN 187 [.i] [.v (.int .u8)]) (a1 (zQ n)) u1 m1
def qT(n:Nat)(a0:cF)(a1:Int):Option Bool:=cl ((((a0.dx==3)&&decide (0<=a1))&&decide (a1<8))==true) (zQ n a1) default λbg=>some ((((a0.dx==3)&&decide (0<=a1))&&decide (a1<8))&&((lV .u8 a0.dR bg)!=0))
def Fh(n:Nat):CT:=cV (tW n [] [G1 n]) ⟨186,[(3, .v (.int .i64))], .cons (.v (.st 9)) (.cons (.cQ 0) .nil), .cons (.v .bool) .nil,[], .nil,[],[]⟩ (λx=>qT n x.2.1 x.1) u1 m1
def jq(n:Nat)(a0:bM)(a1:au)(aix:Int):Option (List Int):=bd (nH n a1.bj) λbg=>cH (λFT (eJ:(List Int)) (ew:Int)=>cn (decide (ew<(bg.length:Int))) (gu (bQ ew bg.length)<|bd (jj n a1 (bg.getD (Int.toNat ew) default)) λrL=>cl ((rL==(bg.getD (Int.toNat ew) default))==true) (jh n a0 a1 (bg.getD (Int.toNat ew) default)) default λlJ=>cl ((rL==(bg.getD (Int.toNat ew) default))==true) (qT n lJ aix) default λgy=>cn (((rL==(bg.getD (Int.toNat ew) default))&&gy)) (gu (gw eJ.length 1 4)<|lt (eJ++([(bg.getD (Int.toNat ew) default)]):List Int) λoT=>FT oT (wr .i64 (ew+1))) (FT eJ (wr .i64 (ew+1)))) (some eJ)) n ([]) 0
def rM(n:Nat):CT:=cV (tW n [(7, .loop [(.slot 7,(.row 24 1 (.int .u32))),(.slot 14,(.v (.int .i64)))])] [tE n,lB n,nu n,Fh n]) ⟨185,[(3, .v (.int .i64))], .cons (.v (.st 11)) (.cons (.v (.st 8)) (.cons (.fn (.func 186) .nil (.cons (.cQ 0) .nil)) .nil)), .cons (.v (.sl (.int .u32))) .nil,[], .nil,[],[]⟩ (λx=>jq n x.2.1 x.2.2.1 x.1) u1 m1
def qE(n:Nat)(a0:bM)(a1:au)(a2:Int):Option (List Int):=bd (jq n a0 a1 a2) λbg=>some bg
def Jk(n:Nat):CT:=cV (tW n [] [rM n]) (gN 122 [.s 11, .s 8, .i] [.v (.sl (.int .u32))]) (a3 (qE n)) u1 m1
def jQ(n:Nat)(a0:bM)(a1:au)(a2:Int)(a3:Int)(a4:cF):Option (bM×Int):=bd (aV n a1.bj.oz a2) λbg=>cn ((!bg)) (some (a0,4)) (bd (jj n a1 a2) λbV=>cn ((bV !=a2)) (some (a0,12)) (cn ((decide (a3<0)||decide (8<=a3))) (some (a0,2)) (bd (bW n a2) λgH=>lt ({root:=a2,own:=a4}:pG) λiv=>gu (bQ gH.1 32)<|lt ({a0 with aI:=(dm a0.aI (Int.toNat gH.1) iv)}:bM) λiB=>some (iB,0))))
def rW(n:Nat):CT:=cV (tW n [] [bJ n,lB n,dw n]) (gN 206 [.s 11, .s 8, .w, .i, .s 9] [.t [.s 11, .i]]) (λx=>jQ n x.1 x.2.1 x.2.2.1 x.2.2.2.1 x.2.2.2.2.1) u2 m2
def qU(n:Nat)(a0:bM)(a1:au)(a2:Int)(a3:Int):Option (bM×Int):=bd (zQ n a3) λbg=>lt ({dx:=3,gT:=0,dR:=bg}:cF) λbV=>bd (jQ n a0 a1 a2 a3 bV) λgH=>some (gH.1,gH.2)
def Fj(n:Nat):CT:=cV (tW n [] [G1 n,rW n]) (gN 168 [.s 11, .s 8, .w, .i] [.t [.s 11, .i]]) (a4 (qU n)) u2 m2
def jR(n:Nat)(a0:bM)(a1:au)(a2:Int)(a3:Int)(a4:Bool):Option (bM×Int×Int):=bd (jh n a0 a1 a2) λbg=>bd (jQ n a0 a1 a2 a3 bg) λbV=>bd (zQ n a3) λgH=>cl ((bV.2==4)==false) (aV n a1.bj.oz a2) default λiv=>cl (((bV.2==4)==false)&&(iv==true)) (jj n a1 a2) default λfX=>cn (((bV.2==4)||(iv&&(fX !=a2)))) (some (a0,0,bV.2)) (cn ((bg.dx !=3)) (some (a0,0,12)) (cn ((bV.2!=0)) (some (a0,0,bV.2)) (cn ((((lV .u8 bg.dR gH)!=0)&&a4)) (some (a0,0,7)) (cn (((!((lV .u8 bg.dR gH)!=0))&&(!a4))) (some (a0,0,5)) (bd (zQ n a3) λiB=>lt ({bg with dR:=Jg .u8 bg.dR iB}:cF) λeP=>bd (jQ n bV.1 a1 a2 a3 eP) λgj=>some (gj.1,eP.dR,gj.2))))))
def AL(n:Nat):CT:=cV (tW n [] [nu n,rW n,G1 n,bJ n,lB n]) (gN 207 [.s 11, .s 8, .w, .i, .b] [.t [.s 11, .v (.int .u8), .i]]) (λx=>jR n x.1 x.2.1 x.2.2.1 x.2.2.2.1 x.2.2.2.2.1) u3 m3
def qD(n:Nat)(a0:bM)(a1:au)(a2:Int)(a3:Int):Option (bM×Int):=bd (jR n a0 a1 a2 a3 true) λbg=>some (bg.1,bg.2.2)
def AN(n:Nat):CT:=cV (tW n [] [AL n]) (gN 171 [.s 11, .s 8, .w, .i] [.t [.s 11, .i]]) (a4 (qD n)) u2 m2
def wg(n:Nat)(a0:bM)(a1:au)(a2:Int):Option (bM×Int):=lt ({dx:=2,gT:=0,dR:=0}:cF) λbg=>bd (jQ n a0 a1 a2 0 bg) λbV=>some (bV.1,bV.2)
def Kr(n:Nat):CT:=cV (tW n [] [rW n]) (gN 177 [.s 11, .s 8, .w] [.t [.s 11, .i]]) (a3 (wg n)) u2 m2
def tJ(n:Nat)(a0:cF)(a1:Int):Option Bool:=some ((a0.dx==1)&&((wr .i64 a0.gT)==a1))
def En(n:Nat):CT:=cV (tW n [] []) ⟨221,[(3, .v (.int .i64))], .cons (.v (.st 9)) (.cons (.cQ 0) .nil), .cons (.v .bool) .nil,[], .nil,[],[]⟩ (λx=>tJ n x.2.1 x.1) u1 m1
def iR(n:Nat)(a0:bM)(a1:au)(aix:Int):Option (List Int):=bd (nH n a1.bj) λbg=>cH (λFT (eJ:(List Int)) (ew:Int)=>cn (decide (ew<(bg.length:Int))) (gu (bQ ew bg.length)<|bd (jj n a1 (bg.getD (Int.toNat ew) default)) λrL=>cl ((rL==(bg.getD (Int.toNat ew) default))==true) (jh n a0 a1 (bg.getD (Int.toNat ew) default)) default λlJ=>cl ((rL==(bg.getD (Int.toNat ew) default))==true) (tJ n lJ aix) default λgy=>cn (((rL==(bg.getD (Int.toNat ew) default))&&gy)) (gu (gw eJ.length 1 4)<|lt (eJ++([(bg.getD (Int.toNat ew) default)]):List Int) λoT=>FT oT (wr .i64 (ew+1))) (FT eJ (wr .i64 (ew+1)))) (some eJ)) n ([]) 0
def qZ(n:Nat):CT:=cV (tW n [(7, .loop [(.slot 7,(.row 24 1 (.int .u32))),(.slot 14,(.v (.int .i64)))])] [tE n,lB n,nu n,En n]) ⟨185,[(3, .v (.int .i64))], .cons (.v (.st 11)) (.cons (.v (.st 8)) (.cons (.fn (.func 221) .nil (.cons (.cQ 0) .nil)) .nil)), .cons (.v (.sl (.int .u32))) .nil,[], .nil,[],[]⟩ (λx=>iR n x.2.1 x.2.2.1 x.1) u1 m1
def pH(n:Nat)(a0:bM)(a1:au)(a2:Int):Option (List Int):=bd (iR n a0 a1 a2) λbg=>some bg
def G2(n:Nat):CT:=cV (tW n [] [qZ n]) (gN 184 [.s 11, .s 8, .i] [.v (.sl (.int .u32))]) (a3 (pH n)) u1 m1
def oI(n:Nat)(a0:bM)(a1:au)(a2:Int)(a3:Int):Option (bM×Int):=lt ({dx:=1,gT:=wr .u8 a3,dR:=0}:cF) λbg=>bd (jQ n a0 a1 a2 a3 bg) λbV=>some (bV.1,bV.2)
def Jl(n:Nat):CT:=cV (tW n [] [rW n]) (gN 193 [.s 11, .s 8, .w, .i] [.t [.s 11, .i]]) (a4 (oI n)) u2 m2
def mY(n:Nat)(a0:Int):Option Int:=gu (bQ a0 256)<|some (wr .i64 (Lib.pop8 a0))
def zD(n:Nat):CT:=cV (tW n [] []) (gN 238 [.v (.int .u8)] [.i]) (a1 (mY n)) u1 m1
def uf(n:Nat)(a0:bM)(a1:au)(a2:Int)(a3:Int):Option (bM×Int×Int):=bd (jR n a0 a1 a2 a3 false) λbg=>bd (mY n bg.2.1) λbV=>some (bg.1,bV,bg.2.2)
def Jm(n:Nat):CT:=cV (tW n [] [AL n,zD n]) (gN 208 [.s 11, .s 8, .w, .i] [.t [.s 11, .i, .i]]) (a4 (uf n)) u3 m3
end
end Go.Proofs.Z
namespace Go.Proofs.Z
open Go Go.Bw
def fL(i g:Int):Int:=i+256*g+1
theorem FW{n:Nat}{i g:Int}(h0:0<=i)(h1:i<32)(g0:0<=g)(g1:g<=8388607):rF n i g=some (fL i g):=by unfold rF fL;rw[YV (b:=8) 8 rfl (by decide),Kq (x:=g*_) (by omega) (by omega),Kq (x:=i) (by omega) (by omega),Kq (x:=g*_ +i) (by omega) (by omega),Kq (by omega) (by omega)];congr 1;omega
theorem tH{n:Nat}{w:aD}{i:Int}(h0:0<=i)(h1:i<32)(g0:0<=w.gA i.toNat)(g1:w.gA i.toNat<=8388607):fk n w i=some (fL i (w.gA i.toNat)):=by unfold fk fL;rw[ax (bK h0 (by omega)),aL (x:=256*_) (by omega) (by omega),aL (x:=i+_) (by omega) (by omega),aL (by omega) (by omega)]
def PU(h:Int):Bool:=decide (1<=h%256/\h%256<=32/\h/256<=8388607)
def mz(h:Int):Int:=if PU h then h%256-1 else 0
theorem fG(h:Int):0<=mz h/\mz h<32:=by
 unfold mz PU;split
 ·rename_i h1;simp at h1;omega
 ·omega
theorem qb{n:Nat}{h:Int}(h0:0<=h)(h1:h<4294967296):bW n h=some (mz h,PU h):=by
 unfold bW;have e1:lV .u32 h 255=h%256:=abF 8 h0 (by simpa[IntKind.up,IntKind.signed,IntKind.bits]using h1) rfl (by decide);have e2:Fw .u32 h 8=h/256:=Qm 8 rfl (by decide);rw[e1,e2,aL (x:=h%256) (by omega) (by omega),aL (x:=h%256-1) (by omega) (by omega)];by_cases hb:PU h=true
 ·have hb':=hb
  simp only[PU,decide_eq_true_eq]at hb';rw[ae (by simp;omega)];simp[mz,hb]
 ·have hb':=hb
  simp only[PU,decide_eq_true_eq]at hb';rw[ak (by simp;omega)];simp[mz,hb]
structure RB(b:bn)(w:aD):Prop where
 gen:∀i,i<32->(b.aI i).gen=w.gA i
 iss:∀i,i<32->(b.aI i).oh=(w.Is i==1)
 ret:∀i,i<32->(b.aI i).mR=(w.Is i==2)
 kin:∀i,i<32->w.Is i=0\/w.Is i=1\/w.Is i=2
 nW:∀i,i<32->0<=w.gA i/\w.gA i<=8388607
theorem Vl{n:Nat}{b:bn}{w:aD}(r:RB b w){h:Int}(h0:0<=h)(h1:h<4294967296):
  aV n b h=some (PU h&&(w.Is (mz h).toNat==1)&&(w.gA (mz h).toNat==h/256)):=by
 unfold aV;obtain⟨hs0,hs1⟩:=fG h;rw[ah (qb h0 h1),ax (by rw[bK hs0 (by simpa using hs1)];simp)];simp only[lt];have hi:(mz h).toNat<32:=by omega
 have e2:Fw .u32 h 8=h/256:=Qm 8 rfl (by decide);rw[e2];simp only[xM,r.gen _ hi,r.iss _ hi,r.ret _ hi];have hk:=r.kin _ hi;congr 1;rcases hk with hk|hk|hk<;>simp[hk,Bool.and_comm,Bool.and_left_comm,Bool.and_assoc]
theorem HG{h:Int}(h0:0<=h)(hb:PU h=true):fL (mz h) (h/256)=h:=by have hb':=hb;simp only[PU,decide_eq_true_eq]at hb';simp only[mz,hb,if_true,fL];omega
theorem pB{i g:Int}(h0:0<=i)(h1:i<32)(g0:0<=g)(g1:g<=8388607):PU (fL i g)=true/\mz (fL i g)=i/\fL i g/256=g/\0<fL i g/\fL i g<4294967296:=by
 have e:PU (fL i g)=true:=aoY (by unfold fL;omega);refine⟨e,?_,?_,?_,?_⟩
 ·unfold mz;rw[aoU e];unfold fL;omega
 all_goals (unfold fL;omega)
def aM(w:aD)(h:Int):Bool:=PU h&&(w.Is (mz h).toNat==1)&&(w.gA (mz h).toNat==h/256)
theorem cW{n:Nat}(hn:40<=n){b:bn}{w:aD}(r:RB b w){h:Int}(h0:0<=h):bq n w h=some (if aM w h then mz h else -1):=by
 unfold bq;refine je (λx=>0<=x/\x<=32/\(aM w h=true->x<=mz h)) (λx=>(32-x).toNat) (λo=>o=some (if aM w h then mz h else -1)) ?_ n 0 ⟨by omega,by omega,λ_ =>(fG h).1⟩ (by omega);rintro k x ⟨x0,x1,hx⟩ ih;obtain⟨s0,s1⟩:=fG h;by_cases hc:x<32
 ·rw[ak (by simpa using hc),ax (bK x0 (by omega))]
  have hg:=r.nW x.toNat (by omega);rw[cK (tH x0 hc hg.1 hg.2)];by_cases he:(w.Is x.toNat==1&&fL x (w.gA x.toNat)==h)=true
  ·have he':=he
   simp only[aoX,beq_iff_eq]at he';obtain⟨e1,e2⟩:=he';rw[ak (by simp[e1,e2])];obtain⟨q1,q2,q3,q4,q5⟩:=pB x0 hc hg.1 hg.2;rw[e2]at q1 q2 q3;have:aM w h=true:=by simp[aM,q1,q2,q3,e1]
   simp[this,q2]
  ·rw[ae (by
    cases h1:(w.Is x.toNat==1)with
    |false=>simp
    |true=>simpa[h1]using he),aL (by omega) (by omega)]
   refine ih _ ⟨by omega,by omega,λhg'=>?_⟩ (by omega);have h2:=hx hg';have:x≠mz h:=by rintro rfl;refine he ?_;simp only[aM,aoX,beq_iff_eq]at hg';simp[hg'.1.2,hg'.2,HG h0 hg'.1.1]
   omega
 ·rw[ae (by simpa using hc)]
  have:aM w h=false:=by
   cases hgw:aM w h with
   |false=>rfl
   |true=>have:=hx hgw;omega
  simp[this]
def vS(w:aD)(h:Int):aD:=if w.gA (mz h).toNat=8388607 then{w with Is:=dm w.Is (mz h).toNat 2}else{gA:=dm w.gA (mz h).toNat (w.gA (mz h).toNat+1),Is:=dm w.Is (mz h).toNat 0}
theorem Oh{α:Type}(G:Nat->α)(i:Nat)(a b:α):dm (dm G i a) i b=dm G i b:=by funext q;unfold dm;split<;>rfl
theorem SJ{n:Nat}(hn:40<=n){b:bn}{w:aD}(r:RB b w){h:Int}(h0:0<=h):kT n w h=some (if aM w h then vS w h else w,aM w h):=by
 unfold kT;obtain⟨s0,s1⟩:=fG h;rw[ah (cW hn r h0)];cases hg:aM w h with
 |false=>rfl
 |true=>
  have hr:=r.nW (mz h).toNat (by omega);simp only[if_true];rw[ae (by simpa using s0),ax (bK s0 (by simpa using s1))];simp only[lt,ax (bK s0 (show mz h<((32:Nat):Int)by simpa using s1))];unfold vS;by_cases hl:w.gA (mz h).toNat=8388607
  ·rw[ak (by simpa using hl)];simp[hl,Oh]
  ·rw[ae (by simpa using hl),aL (by omega) (by omega)];simp[hl]
theorem Uo{n:Nat}{b:bn}{w:aD}(r:RB b w){h:Int}(h0:0<=h)(h1:h<4294967296):
  ∃b',iF n b h=some (b',aM w h)/\RB b' (if aM w h then vS w h else w):=by
 unfold iF;obtain⟨s0,s1⟩:=fG h;have hi:(mz h).toNat<32:=by omega
 rw[ah (Vl r h0 h1)];show∃b',cn (!aM w h) _ _ =_ /\_;cases hg:aM w h with
 |false=>exact⟨b,rfl,r⟩
 |true=>
  rw[ae (b:= !true) rfl,ah (qb h0 h1),ax (bK s0 (by simpa using s1))];simp only[lt];have anS:=r.gen _ hi;have hr:=r.nW _ hi;have anR:w.Is (mz h).toNat=1:=by simp only[aM,aoX,beq_iff_eq]at hg;exact hg.1.2
  have aoI:(b.aI (mz h).toNat).mR=false:=by rw[r.ret _ hi,anR];rfl
  simp only[pq,anS,Oh];unfold vS;by_cases hl:w.gA (mz h).toNat=8388607
  ·rw[ak (by simpa using hl)]
   refine⟨_,rfl,?_⟩;simp only[if_true,hl];refine⟨?_,?_,?_,?_,?_⟩<;>intro i XR<;>by_cases e:i=(mz h).toNat
   all_goals (try subst e)
   all_goals simp[bI, *,r.gen,r.iss,r.ret,r.kin,r.nW]
   all_goals (first|exact(r.kin i XR)|exact r.nW i XR)
  ·rw[ae (by simpa using hl),Kq (by omega) (by omega)]
   refine⟨_,rfl,?_⟩;simp only[if_true,aoV hl];refine⟨?_,?_,?_,?_,?_⟩<;>intro i XR<;>by_cases e:i=(mz h).toNat
   all_goals (try subst e)
   all_goals simp[bI, *,r.gen,r.iss,r.ret,r.kin,r.nW]
   all_goals (first|exact(r.kin i XR)|exact r.nW i XR|omega)
def CM(w:aD)(f:Nat):Prop:=f<=32/\(∀j,j<f->w.Is j≠0)/\(f<32->w.Is f=0)
theorem Lp(w:aD):∃f,CM w f:=by
 have key:∀k,k<=32->(∃f,CM w f)\/(∀j,j<k->w.Is j≠0):=by
  intro k
  induction k with
  |zero=>intro _;exact .inr (λj hj=>absurd hj (Nat.not_lt_zero _))
  |succ k ih=>
   intro hk;rcases ih (by omega)with h|h
   ·exact .inl h
   ·by_cases e:w.Is k=0
    ·exact .inl ⟨k,by omega,h,λ_ =>e⟩
    ·refine .inr (λj hj=>?_)
     by_cases e2:j=k
     ·subst e2;exact e
     ·exact h j (by omega)
 rcases key 32 (Nat.le_refl _)with h|h
 ·exact h
 ·exact⟨32,Nat.le_refl _,h,λh=>absurd h (Nat.lt_irrefl _)⟩
def mg(w:aD)(f:Nat):aD:={w with Is:=dm w.Is f 1}
theorem BV{n:Nat}(hn:40<=n){b:bn}{w:aD}(r:RB b w){f:Nat}(hf:CM w f):
  iE n w=some (if f<32 then(mg w f,fL f (w.gA f))else(w,0)):=by
 unfold iE;obtain⟨f1,f2,f3⟩:=hf;refine je (λx=>0<=x/\x<=(f:Int)) (λx=>(32-x).toNat) (λo=>o=some (if f<32 then(mg w f,fL f (w.gA f))else(w,0))) ?_ n 0 ⟨by omega,by omega⟩ (by omega);rintro k x ⟨x0,x1⟩ ih;by_cases hc:x<32
 ·rw[ak (by simpa using hc),ax (bK x0 (by omega))]
  by_cases he:w.Is x.toNat=0
  ·have e:x=(f:Int):=by
    rcases Int.lt_or_lt_of_ne (a:=x) (b:=f)|>λh=>(Decidable.em (x=f))with h|h
    ·exact h
    ·exact absurd he (f2 x.toNat (by omega))
   subst e;simp only[aoZ]at he ⊢;rw[ak (by simpa using he),ax (bK x0 (by omega)),aJ,ah (tH (w:={w with Is:=dm w.Is f 1}) x0 hc (r.nW f (by omega)).1 (r.nW f (by omega)).2),aoU (by omega)];rfl
  ·rw[ae (by simpa using he),aL (by omega) (by omega)]
   refine ih _ ⟨by omega,?_⟩ (by omega);rcases Decidable.em (x=f)with h|h
   ·subst h;exact absurd (f3 (by omega)) (by simpa using he)
   ·omega
 ·rw[ae (by simpa using hc),aoV (by omega)]
theorem K8{n:Nat}(hn:40<=n){b:bn}{w:aD}(r:RB b w){f:Nat}(hf:CM w f):
  ∃b',iU n b=some (b',if f<32 then fL f (w.gA f)else 0,decide (f<32))/\RB b' (if f<32 then mg w f else w):=by
 unfold iU;obtain⟨f1,f2,f3⟩:=hf;refine je (λx=>0<=x/\x<=(f:Int)) (λx=>(32-x).toNat) (λo=>∃b',o=some (b',if f<32 then fL f (w.gA f)else 0,decide (f<32))/\RB b' (if f<32 then mg w f else w)) ?_ n 0 ⟨by omega,by omega⟩ (by omega);rintro k x ⟨x0,x1⟩ ih;by_cases hc:x<32
 ·have hi:x.toNat<32:=by omega
  rw[ak (by simpa using hc),ax (bK x0 (by omega)),aJ];by_cases he:w.Is x.toNat=0
  ·have e:x=(f:Int):=by
    rcases Decidable.em (x=f)with h|h
    ·exact h
    ·exact absurd he (f2 x.toNat (by omega))
   subst e;simp only[aoZ]at he hi ⊢;rw[ae (by simp[r.iss f hi,r.ret f hi,he]),ax (bK x0 (by omega)),aJ,ah (FW x0 hc (by rw[r.gen f hi];exact(r.nW f hi).1) (by rw[r.gen f hi];exact(r.nW f hi).2)),aoU hi,aoU hi];refine⟨_,by rw[r.gen f hi,aoY hi],?_⟩;refine⟨?_,?_,?_,?_,?_⟩<;>intro i XR<;>by_cases e:i=f
   all_goals (try subst e)
   all_goals simp[mg,bI, *,r.gen,r.iss,r.ret,r.kin,r.nW]
   all_goals (first|exact(r.kin i XR)|exact r.nW i XR|(rw[r.ret _ XR,he];rfl))
  ·rw[ak (by
    rcases r.kin _ hi with h|h|h
    ·exact absurd h he
    ·simp[r.iss _ hi,h]
    ·simp[r.ret _ hi,h]),aL (by omega) (by omega)]
   refine ih _ ⟨by omega,?_⟩ (by omega);rcases Decidable.em (x=f)with h|h
   ·subst h;exact absurd (f3 (by omega)) (by simpa using he)
   ·omega
 ·rw[ae (by simpa using hc),aoV (by omega),aoV (by omega)]
  exact⟨b,by rw[ao5 (by omega)],r⟩
theorem alX{n:Nat}{b:bn}{w:aD}(r:RB b w){i:Int}(h0:0<=i)(h1:i<32):nL n b i=some (if w.Is i.toNat=1 then fL i (w.gA i.toNat)else 0,w.Is i.toNat==1):=by
 have hi:i.toNat<32:=by omega
 unfold nL;rw[ax (by rw[bK h0 (by omega)];simp)];by_cases e:w.Is i.toNat=1
 ·rw[ae (by simp[r.iss _ hi,e];omega),ax (bK h0 (by omega)),ah (FW h0 h1 (by rw[r.gen _ hi];exact(r.nW _ hi).1) (by rw[r.gen _ hi];exact(r.nW _ hi).2)),r.gen _ hi]
  simp[e]
 ·rw[ak (by simp[r.iss _ hi,e])]
  simp[e]
def aX(w:aD):Nat->List Int
 |0=>[]
 |k+1=>aX w k++(if w.Is k=1 then[fL k (w.gA k)]else[])
theorem gZ(w:aD)(k:Nat):(aX w k).length<=k:=by
 induction k with
 |zero=>simp[aX]
 |succ k ih=>simp only[aX,List.length_append];split<;>simp<;>omega
theorem wB{n:Nat}(hn:40<=n){b:bn}{w:aD}(r:RB b w):ef n b=some (aX w 32):=by
 unfold ef;refine dU (λ(l:List Int) (x:Int)=>∃k:Nat,x=k/\k<=32/\l=aX w k) (λ_ (x:Int)=>(32-x).toNat) (λo=>o=some (aX w 32)) ?_ n [] 0 ⟨0,rfl,by omega,rfl⟩ (by omega);rintro kk l x ⟨k,rfl,hk,rfl⟩ ih;by_cases hc:k<32
 ·rw[ak (by simp;omega),ah (alX r (by omega) (by omega))]
  simp only[aoZ];by_cases e:w.Is k=1
  ·rw[ak (by simpa using e),ax (eM (by have:=gZ w k;omega) (by have:=gZ w k;omega)),aJ,aL (by omega) (by omega)]
   exact ih _ _ ⟨k+1,by omega,by omega,by simp[aX,e]⟩ (by omega)
  ·rw[ae (by simpa using e),aL (by omega) (by omega)]
   exact ih _ _ ⟨k+1,by omega,by omega,by simp[aX,e]⟩ (by omega)
 ·rw[ae (by simp;omega)]
  obtain rfl:k=32:=by omega
  rfl
end Go.Proofs.Z
namespace Go.Proofs.Z
open Go Go.Bw
def aQ(w:aD)(h:Int):Prop:=0<=h/\aM w h=true
theorem lU{w:aD}{h:Int}:aM w h=true↔PU h=true/\w.Is (mz h).toNat=1/\w.gA (mz h).toNat=h/256:=by unfold aM;rw[aoX,aoX,beq_iff_eq,beq_iff_eq,and_assoc]
theorem KH{h:Int}(hb:PU h=true):h<4294967296:=by unfold PU at hb;simp only[decide_eq_true_eq]at hb;omega
theorem B6{b:bn}{w:aD}(r:RB b w):∀(k:Nat),k<=32->∀x,x∈aX w k↔aQ w x/\mz x<k
 |0,_,x=>⟨λh=>(by cases h),λh=>absurd h.2 (by have:=(fG x).1;omega)⟩
 |k+1,hk,x=>by
  have ih:=B6 r k (by omega) x;have hr:=r.nW k (by omega);obtain⟨q1,q2,q3,q4,q5⟩:=pB (i:=k) (g:=w.gA k) (by omega) (by omega) hr.1 hr.2;have hx:=fG x;rw[aX,List.mem_append,ih];constructor
  ·rintro(h|h)
   ·exact⟨h.1,by omega⟩
   ·split at h
    ·rename_i hi
     have e:=List.mem_singleton.1 h;subst e;exact⟨⟨by omega,lU.2 ⟨q1,by rw[q2];exact hi,by rw[q2,q3];rfl⟩⟩,by omega⟩
    ·cases h
  ·rintro⟨h1,h2⟩
   by_cases e:mz x<k
   ·exact .inl ⟨h1,e⟩
   ·have e1:mz x=k:=by omega
    obtain⟨g1,g2,g3⟩:=lU.1 h1.2;have e2:(mz x).toNat=k:=by omega
    rw[e2]at g2 g3;refine .inr ?_;rw[aoU g2,List.mem_singleton,g3, ← e1,HG h1.1 g1]
theorem zY{b:bn}{w:aD}(r:RB b w):∀(k:Nat),k<=32->(aX w k).Nodup
 |0,_ =>List.nodup_nil
 |k+1,hk=>by
  rw[aX,List.nodup_append];refine⟨zY r k (by omega),by split<;>simp,λa ha c hc e=>?_⟩;split at hc
  ·have e1:=List.mem_singleton.1 hc
   have hr:=r.nW k (by omega);obtain⟨q1,q2,q3,q4,q5⟩:=pB (i:=k) (g:=w.gA k) (by omega) (by omega) hr.1 hr.2;have:=((B6 r k (by omega) a).1 ha).2;rw[e,e1,q2]at this;omega
  ·cases hc
theorem bY{b:bn}{w:aD}(r:RB b w)(x:Int):x∈aX w 32↔aQ w x:=by rw[B6 r 32 (Nat.le_refl _)];have:=fG x;exact⟨λh=>h.1,λh=>⟨h,by omega⟩⟩
def sB(w:aD)(h:Int):Prop:=0<=h/\PU h=true/\(h/256<w.gA (mz h).toNat\/(h/256=w.gA (mz h).toNat/\w.Is (mz h).toNat≠0))
theorem mh{b:bn}{w:aD}(r:RB b w){f:Nat}(hf:CM w f)(hl:f<32)(x:Int):aQ (mg w f) x↔aQ w x\/x=fL f (w.gA f):=by
 have hr:=r.nW f hl;obtain⟨q1,q2,q3,q4,q5⟩:=pB (i:=f) (g:=w.gA f) (by omega) (by omega) hr.1 hr.2;have hx:=fG x;unfold aQ;rw[lU,lU];show 0<=x/\PU x=true/\dm w.Is f 1 (mz x).toNat=1/\w.gA (mz x).toNat=x/256↔_;rw[bI];by_cases e:(mz x).toNat=f
 ·rw[aoU e,e]
  constructor
  ·rintro⟨h1,h2,_,h4⟩
   refine .inr ?_;have:=HG h1 h2;rw[← this,h4];congr 1;omega
  ·rintro(⟨h1,h2,h3,h4⟩|h)
   ·exact absurd (hf.2.2 hl) (by omega)
   ·subst h;exact⟨by omega,q1,rfl,by rw[q3]⟩
 ·rw[aoV e]
  refine⟨λh=> .inl h,λh=>h.elim _root_.id λh=>?_⟩;subst h;exact absurd (by rw[q2];rfl) e
theorem xn{w:aD}{f:Nat}(x:Int)(h:sB w x):sB (mg w f) x:=by
 obtain⟨h1,h2,h3⟩:=h;refine⟨h1,h2,?_⟩;show x/256<w.gA (mz x).toNat\/(x/256=w.gA (mz x).toNat/\dm w.Is f 1 (mz x).toNat≠0);rw[bI];split
 ·exact h3.imp _root_.id λh=>⟨h.1,by omega⟩
 ·exact h3
theorem KX{b:bn}{w:aD}(r:RB b w){f:Nat}(hf:CM w f)(hl:f<32):¬sB w (fL f (w.gA f)):=by
 have hr:=r.nW f hl;obtain⟨q1,q2,q3,q4,q5⟩:=pB (i:=f) (g:=w.gA f) (by omega) (by omega) hr.1 hr.2;rintro⟨_,_,h⟩;rw[q2,q3]at h;have:=hf.2.2 hl;rcases h with h|h
 ·exact absurd h (by simp)
 ·exact h.2 this
theorem Xe{b:bn}{w:aD}(r:RB b w){h:Int}(h0:0<=h)(x:Int):aQ (if aM w h then vS w h else w) x↔aQ w x/\x≠h:=by
 cases hg:aM w h with
 |false=>refine⟨λhx=>⟨hx,λe=>?_⟩,λhx=>hx.1⟩;subst e;have h2:aM w x=true:=hx.2;rw[h2]at hg;cases hg
 |true=>
  rw[aoU rfl];obtain⟨g1,g2,g3⟩:=lU.1 hg;have hr:=r.nW (mz h).toNat (by have:=fG h;omega);have hx:=fG x;have hh:=fG h;have key:∀w',vS w h=w'->(∀j,j≠(mz h).toNat->w'.Is j=w.Is j/\w'.gA j=w.gA j)->w'.Is (mz h).toNat≠1->(aQ w' x↔aQ w x/\x≠h):=by
   intro w' _ k1 k2;unfold aQ;rw[lU,lU];by_cases e:(mz x).toNat=(mz h).toNat
   ·constructor
    ·rintro⟨_,_,h3,_⟩;rw[e]at h3;exact absurd h3 k2
    ·rintro⟨⟨h1,h2,h3,h4⟩,h5⟩
     refine absurd ?_ h5;rw[← HG h1 h2, ← HG h0 g1, ← h4, ← g3,e];congr 1;omega
   ·rw[(k1 _ e).1,(k1 _ e).2]
    exact⟨λhx=>⟨hx,λe2=>e (by rw[e2])⟩,λhx=>hx.1⟩
  refine key _ rfl (λj hj=>?_) ?_
  ·unfold vS
   split
   ·exact⟨jo _ _ hj,rfl⟩
   ·exact⟨jo _ _ hj,jo _ _ hj⟩
  ·unfold vS
   split
   ·show dm w.Is _ 2 _ ≠1;rw[pq];decide
   ·show dm w.Is _ 0 _ ≠1;rw[pq];decide
theorem Hj{w:aD}{h:Int}(x:Int)(hp:sB w x):sB (if aM w h then vS w h else w) x:=by
 cases hg:aM w h with
 |false=>exact hp
 |true=>
  rw[aoU rfl];obtain⟨h1,h2,h3⟩:=hp;refine⟨h1,h2,?_⟩;unfold vS;split
  ·show x/256<w.gA (mz x).toNat\/(x/256=w.gA (mz x).toNat/\dm w.Is (mz h).toNat 2 (mz x).toNat≠0)
   rw[bI];split
   ·exact h3.imp _root_.id λh=>⟨h.1,by decide⟩
   ·exact h3
  ·show x/256<dm w.gA (mz h).toNat _ (mz x).toNat\/(x/256=dm w.gA (mz h).toNat _ (mz x).toNat/\dm w.Is (mz h).toNat 0 (mz x).toNat≠0)
   rw[bI,bI];split
   ·rename_i e
    rw[e]at h3;left;omega
   ·exact h3
end Go.Proofs.Z
namespace Go.Bw
open Go
section
variable {β:Type}
theorem No(l:List (Int×β))(k:Int)(v:β):(qw l k v).map Prod.fst=if k∈l.map Prod.fst then l.map Prod.fst else l.map Prod.fst++[k]:=by
 induction l with
 |nil=>simp[qw]
 |cons p r ih=>
  unfold qw;by_cases h:k=p.1
  ·subst h;simp
  ·have:(k==p.1)=false:=by simpa using h
   rw[this,cond_false,List.map_cons,ih];by_cases h2:k∈r.map Prod.fst
   ·rw[aoU h2,aoU (by simp[h2])];rfl
   ·rw[aoV h2,aoV (by rw[List.map_cons,List.mem_cons];exactλhh=>hh.elim h h2)];rfl
theorem adD{l:List (Int×β)}{k:Int}{z:β}(h:k∉l.map Prod.fst):qG l k z=z:=by
 have:ji l k=none:=by
  induction l with
  |nil=>rfl
  |cons p r ih=>
   rw[List.map_cons,List.mem_cons,not_or]at h;unfold ji;have e:(k==p.1)=false:=by simpa using h.1
   rw[e,cond_false,ih h.2];rfl
 unfold qG;rw[this];rfl
theorem Z4{l:List (Int×β)}{k:Int}{z:β}(h:k∈l.map Prod.fst):(k,qG l k z)∈l:=by
 unfold qG;cases hm:ji l k with
 |some q=>have:=CR (j:=q.1) (y:=q.2) hm;exact List.mem_of_getElem? this
 |none=>
  exfalso
  induction l with
  |nil=>simp at h
  |cons p r ih=>
   unfold ji at hm;by_cases e:k=p.1
   ·have:(k==p.1)=true:=by simpa using e
    rw[this]at hm;simp at hm
   ·have e2:(k==p.1)=false:=by simpa using e
    rw[e2]at hm;simp only[cond_false,Option.map_eq_none_iff]at hm;rw[List.map_cons,List.mem_cons]at h;exact ih (h.elim (λhh=>absurd hh e) _root_.id) hm
theorem QJ{l:List (Int×β)}(k:Int)(v:β)(h:(l.map Prod.fst).Nodup):((qw l k v).map Prod.fst).Nodup:=by
 rw[No];split
 ·exact h
 ·rename_i hk
  rw[List.nodup_append];refine⟨h,by simp,λa ha b hb e=>hk ?_⟩;have:b=k:=by simpa using hb
  rw[← this, ← e];exact ha
theorem OM{l:List (Int×β)}{k:Int}{v:β}{x:Int}:x∈(qw l k v).map Prod.fst↔x∈l.map Prod.fst\/x=k:=by
 rw[No];split
 ·rename_i h
  exact⟨.inl,λhh=>hh.elim _root_.id λe=>e▸h⟩
 ·simp
end
structure DA(l:List (Int×Bool))(S:Int->Prop):Prop where
 nd:(l.map Prod.fst).Nodup
 tr:∀p∈l,p.2=true
 mem:∀k,k∈l.map Prod.fst↔S k
theorem DA.nil:DA [] (λ_ =>False):=⟨by simp,by simp,by simp⟩
theorem DA.get{l:List (Int×Bool)}{S:Int->Prop}(h:DA l S)(k:Int):qG l k false=true↔S k:=by
 rw[← h.mem k];by_cases hk:k∈l.map Prod.fst
 ·exact⟨λ_ =>hk,λ_ =>h.tr _ (Z4 hk)⟩
 ·rw[adD hk];exact⟨λhh=>(by cases hh),λhh=>absurd hh hk⟩
theorem agd{l:List (Int×Bool)}{k:Int}(h:∀p∈l,p.2=true):∀p∈qw l k true,p.2=true:=by
 induction l with
 |nil=>intro p hp;rw[qw,List.mem_singleton]at hp;rw[hp]
 |cons q r ih=>
  intro p hp;unfold qw at hp;cases e:k==q.1 with
  |true=>
   rw[e,cond_true,List.mem_cons]at hp;rcases hp with rfl|hp
   ·rfl
   ·exact h p (by simp[hp])
  |false=>
   rw[e,cond_false,List.mem_cons]at hp;rcases hp with rfl|hp
   ·exact h p (by simp)
   ·exact ih (λz hz=>h z (by simp[hz])) p hp
theorem DA.set{l:List (Int×Bool)}{S T:Int->Prop}(h:DA l S){k:Int}(hT:∀x,T x↔S x\/x=k):DA (qw l k true) T:=
 ⟨QJ k true h.nd,agd h.tr,λx=>by rw[OM,h.mem,hT]⟩
theorem DA.congr{l:List (Int×Bool)}{S T:Int->Prop}(h:DA l S)(hT:∀x,T x↔S x):DA l T:=⟨h.nd,h.tr,λx=>by rw[h.mem,hT]⟩
end Go.Bw
namespace Go.Proofs.Z
open Go Go.Bw
structure RK(x:bE):Prop where
 region:0<=x.Region/\x.Region<4294967296
 by_:0<=x.By/\x.By<256
 to:0<=x.To/\x.To<256
 RD:0<=x.bh/\x.bh<4294967296
def D2(x:bE):cS:=⟨x.Region,x.By,x.To,x.bF,x.bh⟩
structure RT(k:ay)(w:az):Prop where
 bj:RB k.bj w.B
 RY:∀i,i<16->w.B.Is i=1->w.T i=D2 (k.aI i)/\RK (k.aI i)
 hi:∀i,16<=i->i<32->w.B.Is i=0
 ab:∀i,i<32->0<=(w.T i).bh
def aY(h:Int):Nat:=(mz h).toNat
theorem iO(h:Int):aY h<32:=by have:=fG h;unfold aY;omega
theorem Uv(h:Int):(aY h:Int)=mz h:=by have:=fG h;unfold aY;omega
theorem gM{w:aD}{h:Int}(hg:aM w h=true):PU h=true/\w.Is (aY h)=1/\w.gA (aY h)=h/256:=lU.1 hg
theorem RT.Jv{k:ay}{w:az}(r:RT k w){i:Nat}(hi:i<32)(h:w.B.Is i=1):i<16:=by
 rcases Nat.lt_or_ge i 16 with h1|h1
 ·exact h1
 ·have:=r.hi i h1 hi;omega
theorem nZ{n:Nat}{b:bn}{w:aD}(r:RB b w){h:Int}(h0:0<=h)(h1:h<4294967296):aV n b h=some (aM w h):=Vl r h0 h1
theorem Pe{n:Nat}{k:ay}{w:az}(r:RT k w){h:Int}(h0:0<=h)(h1:h<4294967296):dz n k h=some (if aM w.B h=true then(k.aI (aY h),0)else(⟨0,0,0,false,0⟩,4)):=by
 unfold dz;rw[ah (nZ r.bj h0 h1)];cases hg:aM w.B h with
 |false=>rfl
 |true=>obtain⟨g1,g2,g3⟩:=gM hg;have Ra:=r.Jv (iO h) g2;have hr:=fG h;have hn:=Uv h;rw[ae (b:= !true) rfl,ah (qb h0 h1),ax (bK hr.1 (by omega)),aJ,aoU rfl];rfl
theorem WC{n:Nat}(hn:40<=n){k:ay}{w:az}(r:RT k w){h:Int}(h0:0<=h):iC n w h=some (if aM w.B h=true then(D2 (k.aI (aY h)),0)else(⟨0,0,0,false,0⟩,4)):=by
 unfold iC;have hr:=fG h;rw[ah (cW hn r.bj h0)];cases hg:aM w.B h with
 |false=>rfl
 |true=>obtain⟨g1,g2,g3⟩:=gM hg;rw[aoU rfl,ae (by simp;omega),ax (bK hr.1 (by omega)),aJ,aoU rfl];have:=(r.RY (aY h) (r.Jv (iO h) g2) g2).1;unfold aY at this ⊢;rw[this]
def dk(w:aD)(p:Nat->Bool):Nat->List Int
 |0=>[]
 |k+1=>dk w p k++(if w.Is k=1/\p k=true then[fL k (w.gA k)]else[])
theorem r9{b:bn}{w:aD}(r:RB b w)(p:Nat->Bool):∀k,k<=32->(aX w k).filter (λh=>p (aY h))=dk w p k
 |0,_ =>rfl
 |k+1,hk=>by
  have hr:=r.nW k (by omega);obtain⟨q1,q2,q3,q4,q5⟩:=pB (i:=k) (g:=w.gA k) (by omega) (by omega) hr.1 hr.2;have hs:aY (fL k (w.gA k))=k:=by unfold aY;rw[q2];rfl
  rw[aX,dk,List.filter_append,r9 r p k (by omega)];congr 1;by_cases h1:w.Is k=1
  ·by_cases h2:p k=true
   ·rw[aoU h1,aoU ⟨h1,h2⟩];simp[hs,h2]
   ·rw[aoU h1,aoV (λh=>h2 h.2)];simp[hs,h2]
  ·rw[aoV h1,aoV (λh=>h1 h.1)];rfl
theorem pz(w:aD)(p:Nat->Bool):∀k,(dk w p k).length<=k
 |0=>Nat.le_refl _
 |k+1=>by have:=pz w p k;simp only[dk,List.length_append];split<;>simp<;>omega
theorem v5{w:aD}{p q:Nat->Bool}(h:∀i,i<32->w.Is i=1->p i=q i):∀k,k<=32->dk w p k=dk w q k
 |0,_ =>rfl
 |k+1,hk=>by
  rw[dk,dk,v5 h k (by omega)];congr 1;by_cases h1:w.Is k=1
  ·rw[h k (by omega) h1]
  ·rw[aoV (λh=>h1 h.1),aoV (λh=>h1 h.1)]
theorem y8{b:bn}{w:aD}(r:RB b w){p:Nat->Bool}{x:Int}:x∈dk w p 32↔aQ w x/\p (aY x)=true:=by rw[← r9 r p 32 (Nat.le_refl _),List.mem_filter,bY r]
theorem Et{n:Nat}(hn:40<=n){k:ay}{w:az}(r:RT k w)(P:bE->Option Bool)(Q:bE->Bool)(hP:∀x,RK x->P x=some (Q x)):
  cH (λk40 (ew:(List Int)) (kX:Int)=>cn (decide (kX<((aX w.B 32).length:Int))) (gu (bQ kX (aX w.B 32).length)<|bd (dz n k ((aX w.B 32).getD (Int.toNat kX) default)) λvC=>bd (P vC.1) λoT=>cn (oT) (gu (gw ew.length 1 4)<|lt (ew++([((aX w.B 32).getD (Int.toNat kX) default)]):List Int) λmy=>k40 my (wr .i64 (kX+1))) (k40 ew (wr .i64 (kX+1)))) (some ew)) n ([]) 0=some (dk w.B (λi=>Q (k.aI i)) 32):=by
 have hlen:=gZ w.B 32;rw[← r9 r.bj _ 32 (Nat.le_refl _)];refine dU (λ(o:List Int) (i:Int)=>0<=i/\i<=(aX w.B 32).length/\o=((aX w.B 32).take i.toNat).filter (λh=>Q (k.aI (aY h)))) (λ_ i=>(((aX w.B 32).length:Int)-i).toNat) (λo=>o=some ((aX w.B 32).filter (λh=>Q (k.aI (aY h))))) ?_ n [] 0 ⟨by omega,by omega,rfl⟩ (by omega);rintro kk o i ⟨i0,i1,rfl⟩ ih;obtain⟨i,rfl⟩:=Int.eq_ofNat_of_zero_le i0;rw[aoZ];by_cases c:i<(aX w.B 32).length
 ·have hgd:(aX w.B 32).getD i default=(aX w.B 32)[i]:=by rw[List.getD,ao3 c];rfl
  have hm:=(bY r.bj _).1 (List.getElem_mem c);have ht:(aX w.B 32).take (i+1)=(aX w.B 32).take i++[(aX w.B 32)[i]]:=ao4 c;have hfl:(((aX w.B 32).take i).filter (λh=>Q (k.aI (aY h)))).length<=32:=Nat.le_trans (List.length_filter_le _ _) (by rw[List.length_take];omega);generalize(aX w.B 32)[i]=z at *;obtain⟨g1,g2,g3⟩:=gM hm.2;have htr:=(r.RY (aY z) (r.Jv (iO z) g2) g2).2;rw[ak (by simpa using c),ax (bK (by omega) (by omega)),hgd,ah (Pe r hm.1 (KH g1)),aoU hm.2];dsimp only;rw[ah (hP _ htr),aL (by omega) (by omega)];have e1:((i:Int)+1).toNat=i+1:=by omega
  cases hq:Q (k.aI (aY z))with
  |true=>rw[ak rfl,ax (eM (by omega) (by omega)),aJ];refine ih _ _ ⟨by omega,by omega,?_⟩ (by omega);rw[e1,ht,List.filter_append];simp[hq]
  |false=>rw[ae rfl];refine ih _ _ ⟨by omega,by omega,?_⟩ (by omega);rw[e1,ht,List.filter_append];simp[hq]
 ·rw[ae (by simpa using c),List.take_of_length_le (by omega)]
theorem ZL{n:Nat}(hn:40<=n){k:ay}{w:az}(r:RT k w)(g:Int):kO n k g=some (dk w.B (λi=>(k.aI i).Region==g) 32):=by unfold kO gJ;rw[ah (wB (by omega) r.bj)];exact(ah (Et hn r (λx=>r8 n x g) (λx=>x.Region==g) λ_ _ =>rfl)).trans rfl
theorem agK{n:Nat}(hn:40<=n){k:ay}{w:az}(r:RT k w)(t:Int):oC n k t=some (dk w.B (λi=>(k.aI i).To==t) 32):=by
 unfold oC gK;rw[ah (wB (by omega) r.bj)];exact(ah (Et hn r (λx=>oU n x t) (λx=>x.To==t) λx hx=>by
  have:=hx.to;unfold oU;rw[aL (by omega) (by omega)])).trans rfl
theorem QV{n:Nat}(hn:40<=n){k:ay}{w:az}(r:RT k w)(h:Int):cY n k h=some (dk w.B (λi=>(k.aI i).bh==h) 32):=by unfold cY;rw[ah (wB (by omega) r.bj)];exact Et hn r (λx=>kx n x h) (λx=>x.bh==h) λ_ _ =>rfl
def kQ(k:ay)(g a:Int)(i:Nat):Bool:=(k.aI i).Region==g&&(k.aI i).bh==a
def nP(k:ay)(g a:Int)(l:List Int):Bool:=l.any λh=>kQ k g a (aY h)&&(k.aI (aY h)).bF
theorem KJ{n:Nat}(hn:40<=n){k:ay}{w:az}(r:RT k w)(g a:Int):jv n k g a=some (((dk w.B (kQ k g a) 32).length:Int),nP k g a (aX w.B 32)):=by
 suffices hk:ep n k g a false=some ((aX w.B 32).filter (λh=>kQ k g a (aY h)),nP k g a (aX w.B 32))by unfold jv;rw[ah hk, ← r9 r.bj _ 32 (Nat.le_refl _)]
 unfold ep;have hlen:=gZ w.B 32;rw[ah (wB (by omega) r.bj)];refine rE (λ(o:List Int) (i:Int) (m:Bool)=>0<=i/\i<=(aX w.B 32).length/\o=((aX w.B 32).take i.toNat).filter (λh=>kQ k g a (aY h))/\m=nP k g a ((aX w.B 32).take i.toNat)) (λ_ i _ =>(((aX w.B 32).length:Int)-i).toNat) (λo=>o=some ((aX w.B 32).filter (λh=>kQ k g a (aY h)),nP k g a (aX w.B 32))) ?_ n [] 0 false ⟨by omega,by omega,rfl,rfl⟩ (by omega);rintro kk o i m ⟨i0,i1,rfl,rfl⟩ ih;obtain⟨i,rfl⟩:=Int.eq_ofNat_of_zero_le i0;rw[aoZ];by_cases c:i<(aX w.B 32).length
 ·have hgd:(aX w.B 32).getD i default=(aX w.B 32)[i]:=by rw[List.getD,ao3 c];rfl
  have hm:=(bY r.bj _).1 (List.getElem_mem c);have ht:(aX w.B 32).take (i+1)=(aX w.B 32).take i++[(aX w.B 32)[i]]:=ao4 c;have hfl:(((aX w.B 32).take i).filter (λh=>kQ k g a (aY h))).length<=32:=Nat.le_trans (List.length_filter_le _ _) (by rw[List.length_take];omega);generalize(aX w.B 32)[i]=z at *;obtain⟨g1,g2,g3⟩:=gM hm.2;rw[ak (by simpa using c),ax (bK (by omega) (by omega)),hgd,ah (Pe r hm.1 (KH g1)),aoU hm.2];dsimp only;have h1:mP n (k.aI (aY z)) g a (nP k g a ((aX w.B 32).take i))=some (kQ k g a (aY z),nP k g a ((aX w.B 32).take (i+1))):=by unfold mP;rw[aJ,ht];simp[nP,kQ]
  rw[ah h1,aL (by omega) (by omega)];have e1:((i:Int)+1).toNat=i+1:=by omega
  cases hq:kQ k g a (aY z)with
  |true=>rw[ak rfl,ax (eM (by omega) (by omega)),aJ];refine ih _ _ _ ⟨by omega,by omega,?_,by rw[e1]⟩ (by omega);rw[e1,ht,List.filter_append];simp[hq]
  |false=>rw[ae rfl];refine ih _ _ _ ⟨by omega,by omega,?_,by rw[e1]⟩ (by omega);rw[e1,ht,List.filter_append];simp[hq]
 ·rw[ae (by simpa using c),List.take_of_length_le (by omega)]
theorem T4{k:ay}{w:az}(r:RT k w){g a:Int}:nP k g a (aX w.B 32)=true↔∃x,aQ w.B x/\kQ k g a (aY x)=true/\(k.aI (aY x)).bF=true:=by unfold nP;rw[List.any_eq_true];refine exists_congr λx=>?_;rw[bY r.bj,aoX]
def vU(k:ay)(w:az)(g a:Int):Bool:= !(dk w.B (kQ k g a) 32).isEmpty
theorem Wr{k:ay}{w:az}(r:RT k w){g a:Int}:vU k w g a=true↔∃x,aQ w.B x/\kQ k g a (aY x)=true:=by
 unfold vU;rw[Bool.not_eq_true', ← Bool.not_eq_true,List.isEmpty_iff];constructor
 ·intro h
  cases hl:dk w.B (kQ k g a) 32 with
  |nil=>exact absurd hl h
  |cons x t=>exact⟨x,(y8 r.bj).1 (by rw[hl];simp)⟩
 ·rintro⟨x,hx⟩ h
  have:=(y8 r.bj (p:=kQ k g a)).2 hx;rw[h]at this;cases this
def RZ(w:az)(a:Int):Bool:=(a==0)||aM w.B a
theorem Lh{n:Nat}{k:ay}{w:az}(r:RT k w){a:Int}(h0:0<=a)(h1:a<4294967296):ku n k a=some (RZ w a):=by unfold ku RZ;rw[cK (nZ r.bj h0 h1)];cases a==0<;>rfl
def tI(k:ay)(w:az)(g a:Int):Bool:=RZ w a&& !nP k g a (aX w.B 32)
def qQ(k:ay)(w:az)(g a:Int):Bool:=RZ w a&& !vU k w g a
theorem Qu{n:Nat}(hn:40<=n){k:ay}{w:az}(r:RT k w)(g:Int){a:Int}(h0:0<=a)(h1:a<4294967296):lX n k g a=some (tI k w g a):=by unfold lX tI;rw[ah (KJ hn r g a),ah (Lh r h0 h1)]
theorem M0{n:Nat}(hn:40<=n){k:ay}{w:az}(r:RT k w)(g:Int){a:Int}(h0:0<=a)(h1:a<4294967296):kZ n k g a=some (qQ k w g a):=by unfold kZ;rw[ah (KJ hn r g a),ah (Lh r h0 h1)];unfold qQ vU;cases dk w.B (kQ k g a) 32<;>simp;omega
end Go.Proofs.Z
namespace Go.Proofs.Z
open Go Go.Bw
theorem Vz{b:bn}{w:aD}(r:RB b w){p:Nat->Prop}:(∃x,aQ w x/\p (aY x))↔∃i,i<32/\w.Is i=1/\p i:=by
 constructor
 ·rintro⟨x,hx,hp⟩
  exact⟨aY x,iO x,(gM hx.2).2.1,hp⟩
 ·rintro⟨i,hi,h1,hp⟩
  have hr:=r.nW i hi;obtain⟨q1,q2,q3,q4,q5⟩:=pB (i:=i) (g:=w.gA i) (by omega) (by omega) hr.1 hr.2;have hs:aY (fL i (w.gA i))=i:=by unfold aY;rw[q2];rfl
  have hs':(mz (fL i (w.gA i))).toNat=i:=hs;exact⟨fL i (w.gA i),⟨by omega,lU.2 ⟨q1,by rw[hs'];exact h1,by rw[hs',q3]⟩⟩,by rw[hs];exact hp⟩
theorem B8{b:bn}{w:aD}(r:RB b w){i:Nat}(hi:i<32)(h1:w.Is i=1):aQ w (fL i (w.gA i))/\aY (fL i (w.gA i))=i/\0<fL i (w.gA i)/\fL i (w.gA i)<4294967296:=by
 have hr:=r.nW i hi;obtain⟨q1,q2,q3,q4,q5⟩:=pB (i:=i) (g:=w.gA i) (by omega) (by omega) hr.1 hr.2;have hs:aY (fL i (w.gA i))=i:=by unfold aY;rw[q2];rfl
 have hs':(mz (fL i (w.gA i))).toNat=i:=hs;exact⟨⟨by omega,lU.2 ⟨q1,by rw[hs'];exact h1,by rw[hs',q3]⟩⟩,hs,q4,q5⟩
theorem iG{w:aD}{x:Int}(h:aQ w x):fL (aY x) (w.gA (aY x))=x:=by obtain⟨g1,g2,g3⟩:=gM h.2;rw[g3,Uv,HG h.1 g1]
theorem IP{n:Nat}{k:ay}{w:az}(r:RT k w){i:Nat}(hi:i<32)(g a:Int):l7 n w i g a=some ((w.B.Is i==1)&&kQ k g a i):=by
 unfold l7;have hin:bQ (i:Int) 32=true:=bK (by omega) (by omega);rw[hin,ax rfl,ax (by simp),ax (by simp),aoZ];by_cases h1:w.B.Is i=1
 ·rw[(r.RY i (r.Jv hi h1) h1).1]
  simp[h1,kQ,D2]
 ·have:(w.B.Is i==1)=false:=by simpa using h1
  simp[this]
theorem ank{k:ay}{w:az}(r:RT k w){i:Nat}(hi:i<32)(h1:w.B.Is i=1):(w.T i).bF=(k.aI i).bF:=by rw[(r.RY i (r.Jv hi h1) h1).1];rfl
theorem QC{k:ay}{w:az}{a:Int}:((a==0)||decide (0<=(bif (a==0)==false then(if aM w.B a=true then mz a else -1)else default)))=RZ w a:=by
 unfold RZ;have:=fG a;cases h:a==0 with
 |true=>rfl
 |false=>
  cases hg:aM w.B a with
  |true=>simp;omega
  |false=>simp
theorem BU{n:Nat}(hn:40<=n){k:ay}{w:az}(r:RT k w)(g:Int){a:Int}(h0:0<=a):eG n w g a=some (tI k w g a):=by
 unfold eG;refine je (λ(i:Int)=>0<=i/\i<=32/\∀j:Nat,(j:Int)<i->¬(w.B.Is j=1/\kQ k g a j=true/\(k.aI j).bF=true)) (λi=>(32-i).toNat) (λo=>o=some (tI k w g a)) ?_ n 0 ⟨by omega,by omega,λj hj=>by omega⟩ (by omega);rintro kk i ⟨i0,i1,hno⟩ ih;obtain⟨i,rfl⟩:=Int.eq_ofNat_of_zero_le i0;have hm:=T4 r (g:=g) (a:=a);rw[Vz r.bj (p:=λi=>kQ k g a i=true/\(k.aI i).bF=true)]at hm;by_cases c:i<32
 ·rw[ak (by simp;omega),ah (IP r c g a),ax (by rw[bK (by omega) (by omega)];simp),aoZ]
  by_cases h1:w.B.Is i=1
  ·rw[ank r c h1]
   by_cases h2:(kQ k g a i&&(k.aI i).bF)=true
   ·rw[ak (by simp[h1];simpa using h2)]
    rw[aoX]at h2;unfold tI;rw[hm.2 ⟨i,c,h1,h2.1,h2.2⟩];simp
   ·rw[ae (by simpa[h1]using h2),aL (by omega) (by omega)]
    refine ih _ ⟨by omega,by omega,λj hj hh=>?_⟩ (by omega);by_cases e:j=i
    ·subst e;exact h2 (by rw[hh.2.1,hh.2.2];rfl)
    ·exact hno j (by omega) hh
  ·rw[ae (by simp[h1]),aL (by omega) (by omega)]
   refine ih _ ⟨by omega,by omega,λj hj hh=>?_⟩ (by omega);by_cases e:j=i
   ·subst e;exact h1 hh.1
   ·exact hno j (by omega) hh
 ·rw[ae (by simp;omega),cK (cW hn r.bj h0),QC (k:=k)]
  have:nP k g a (aX w.B 32)=false:=by
   cases h:nP k g a (aX w.B 32)with
   |false=>rfl
   |true=>obtain⟨j,j1,j2,j3⟩:=hm.1 h;exact absurd ⟨j2,j3⟩ (hno j (by omega))
  unfold tI;rw[this];simp
theorem zK{n:Nat}(hn:40<=n){k:ay}{w:az}(r:RT k w)(g:Int){a:Int}(h0:0<=a):eu n w g a=some (qQ k w g a):=by
 unfold eu;refine je (λ(i:Int)=>0<=i/\i<=32/\∀j:Nat,(j:Int)<i->¬(w.B.Is j=1/\kQ k g a j=true)) (λi=>(32-i).toNat) (λo=>o=some (qQ k w g a)) ?_ n 0 ⟨by omega,by omega,λj hj=>by omega⟩ (by omega);rintro kk i ⟨i0,i1,hno⟩ ih;obtain⟨i,rfl⟩:=Int.eq_ofNat_of_zero_le i0;have hm:=Wr r (g:=g) (a:=a);rw[Vz r.bj (p:=λi=>kQ k g a i=true)]at hm;by_cases c:i<32
 ·rw[ak (by simp;omega),ah (IP r c g a)]
  by_cases h2:((w.B.Is i==1)&&kQ k g a i)=true
  ·rw[ak h2]
   rw[aoX,beq_iff_eq]at h2;unfold qQ;rw[hm.2 ⟨i,c,h2.1,h2.2⟩];simp
  ·rw[ae (by simpa using h2),aL (by omega) (by omega)]
   refine ih _ ⟨by omega,by omega,λj hj hh=>?_⟩ (by omega);by_cases e:j=i
   ·subst e;exact h2 (by rw[hh.1,hh.2];rfl)
   ·exact hno j (by omega) hh
 ·rw[ae (by simp;omega),cK (cW hn r.bj h0),QC (k:=k)]
  have:vU k w g a=false:=by
   cases h:vU k w g a with
   |false=>rfl
   |true=>obtain⟨j,j1,j2⟩:=hm.1 h;exact absurd j2 (hno j (by omega))
  unfold qQ;rw[this];simp
def K4(k:ay)(w:az)(x:bE):Int:=bif !RZ w x.bh then 4 else bif (((decide (8<=x.By)||decide (8<=x.To))||(x.By==x.To))||(x.Region==0))then 2 else bif ((x.bh !=0)&&((((k.aI (aY x.bh)).Region !=x.Region)||((k.aI (aY x.bh)).To !=x.By))||(x.bF&&(!(k.aI (aY x.bh)).bF))))then 12 else bif (nP k x.Region x.bh (aX w.B 32)||(x.bF&&vU k w x.Region x.bh))then 5 else 0
theorem Wq{k:ay}{w:az}{g a:Int}:decide (0<((dk w.B (kQ k g a) 32).length:Int))=vU k w g a:=by unfold vU;cases dk w.B (kQ k g a) 32<;>simp
theorem adG{n:Nat}(hn:40<=n){k:ay}{w:az}(r:RT k w){x:bE}(hx:RK x):p9 n k x=some (K4 k w x):=by
 unfold p9;obtain⟨a0,a1⟩:=hx.RD;rw[ah (Pe r a0 a1),ah (KJ hn r x.Region x.bh),ah (Lh r a0 a1)];unfold K4;dsimp only;rw[Wq];cases ho:RZ w x.bh with
 |false=>rw[ak (b:= !false) rfl,Bool.not_false,cond_true]
 |true=>
  rw[ae (b:= !true) rfl,Bool.not_true,cond_false];cases h2:(((decide (8<=x.By)||decide (8<=x.To))||(x.By==x.To))||(x.Region==0))with
  |true=>rw[ak rfl,cond_true]
  |false=>
   rw[ae rfl,cond_false];have e3:((x.bh !=0)&&((((if aM w.B x.bh=true then(k.aI (aY x.bh),(0:Int))else((⟨0,0,0,false,0⟩:bE),4)).1.Region !=x.Region)||((if aM w.B x.bh=true then(k.aI (aY x.bh),(0:Int))else((⟨0,0,0,false,0⟩:bE),4)).1.To !=x.By))||(x.bF&&(!(if aM w.B x.bh=true then(k.aI (aY x.bh),(0:Int))else((⟨0,0,0,false,0⟩:bE),4)).1.bF))))=
     ((x.bh !=0)&&((((k.aI (aY x.bh)).Region !=x.Region)||((k.aI (aY x.bh)).To !=x.By))||(x.bF&&(!(k.aI (aY x.bh)).bF)))):=by
    by_cases h0:x.bh=0
    ·simp[h0]
    ·have:aM w.B x.bh=true:=by
      unfold RZ at ho;rw[Bool.or_eq_true]at ho;exact ho.resolve_left (by simpa using h0)
     rw[aoU this]
   rw[e3];cases h3:((x.bh !=0)&&((((k.aI (aY x.bh)).Region !=x.Region)||((k.aI (aY x.bh)).To !=x.By))||(x.bF&&(!(k.aI (aY x.bh)).bF))))with
   |true=>rw[ak rfl,cond_true]
   |false=>
    rw[ae rfl,cond_false];cases h4:(nP k x.Region x.bh (aX w.B 32)||(x.bF&&vU k w x.Region x.bh))with
    |true=>rw[ak rfl,cond_true]
    |false=>rw[ae rfl,cond_false]
theorem RT.first{k:ay}{w:az}(r:RT k w){f:Nat}(hf:CM w.B f):f<=16:=by
 rcases Nat.lt_or_ge 16 f with h|h
 ·exact absurd (r.hi 16 (Nat.le_refl _) (by decide)) (hf.2.1 16 h)
 ·exact h
structure LD(k:ay)(w:az)(x:bE)(k':ay)(w':az)(m e:Int):Prop where
 bad:e≠0->k'=k/\w'=w/\m=0
 ahM:e=0->∃f,CM w.B f/\f<16/\k'.aI=dm k.aI f x/\w'=⟨mg w.B f,dm w.T f (D2 x)⟩/\RB k'.bj (mg w.B f)/\m=fL f (w.B.gA f)/\K4 k w x=0
theorem adO{n:Nat}(hn:40<=n){k:ay}{w:az}(r:RT k w){x:bE}(hx:RK x):
  ∃k' w' m e,kz n k x=some (k',m,e)/\kE n w (D2 x)=some (w',m,e)/\LD k w x k' w' m e:=by
 obtain⟨a0,a1⟩:=hx.RD;obtain⟨f,hf⟩:=Lp w.B;have aoN:=r.first hf
 have hr:=r.bj.nW f (by omega);obtain⟨q1,q2,q3,q4,q5⟩:=pB (i:=f) (g:=w.B.gA f) (by omega) (by omega) hr.1 hr.2;obtain⟨b',i1,i2⟩:=K8 (n:=n) hn r.bj hf;simp only[show f<32 by omega,if_true,decide_true]at i1 i2;have hP:kz n k x=some (if K4 k w x≠0 then(k,0,K4 k w x)else if f<16 then({bj:=b',aI:=dm k.aI f x},fL f (w.B.gA f),0)else(k,0,7)):=by
  unfold kz;rw[ah (adG hn r hx)];by_cases hm:K4 k w x=0
  ·rw[ae (by simp[hm]),aoV (by simp[hm]),ah i1]
   dsimp only;rw[ah (qb (by omega) q5),q2,q1];by_cases Ra:f<16
   ·rw[ae (by simp;omega),aJ,ax (bK (by dsimp only;omega) (by dsimp only;omega)),aJ,aoU Ra];rfl
   ·rw[ak (by simp;omega),aoV Ra]
  ·rw[ak (by simpa using hm),aoU hm]
 have hR:kE n w (D2 x)=some (if K4 k w x≠0 then(w,0,K4 k w x)else if f<16 then(⟨mg w.B f,dm w.T f (D2 x)⟩,fL f (w.B.gA f),0)else(w,0,7)):=by
  unfold kE;show cl ((x.bh !=0)==true) (bq n w.B x.bh) default _ =_;have PZ:=fG x.bh;rw[cK (cW hn r.bj a0)];have e1:((D2 x).bh !=0&&decide ((bif ((x.bh !=0)==true)then(if aM w.B x.bh=true then mz x.bh else -1)else default)<0))= !RZ w x.bh:=by
   show(x.bh !=0&&_)=_;unfold RZ;by_cases h0:x.bh=0
   ·simp[h0]
   ·have h1:(x.bh !=0)=true:=by simpa using h0
    have h2:(x.bh==0)=false:=by simpa using h0
    rw[h1,h2];cases aM w.B x.bh with
    |true=>simp;omega
    |false=>rfl
  rw[e1];unfold K4;cases ho:RZ w x.bh with
  |false=>rw[ak (b:= !false) rfl,Bool.not_false,cond_true,aoU (by decide)]
  |true=>
   rw[ae (b:= !true) rfl,Bool.not_true,cond_false];have e2:(((decide (7<(D2 x).By)||decide (7<(D2 x).To))||((D2 x).By==(D2 x).To))||((D2 x).Region==0))=(((decide (8<=x.By)||decide (8<=x.To))||(x.By==x.To))||(x.Region==0)):=by have p1:decide (7<(D2 x).By)=decide (8<=x.By):=decide_eq_decide.2 (by show 7<x.By↔_;omega);have p2:decide (7<(D2 x).To)=decide (8<=x.To):=decide_eq_decide.2 (by show 7<x.To↔_;omega);rw[p1,p2];rfl
   rw[e2];cases h2:(((decide (8<=x.By)||decide (8<=x.To))||(x.By==x.To))||(x.Region==0))with
   |true=>rw[ak rfl,cond_true,aoU (by decide)]
   |false=>
    rw[ae rfl,cond_false,aJ];have AY:(bd (eG n w (D2 x).Region (D2 x).bh) λeP=>cl (((!eP)==false)&&((D2 x).bF==true)) (eu n w (D2 x).Region (D2 x).bh) default λgj=>cn (((!eP)||((D2 x).bF&&(!gj)))) (some (w,(0:Int),(5:Int))) (bd (iE n w.B) λjl=>cl ((jl.2==0)==false) (bq n jl.1 jl.2) default λdZ=>cn (((jl.2==0)||decide (15<dZ))) (some (w,0,7)) (lt ({w with B:=jl.1}:az) λeJ=>bd (bq n jl.1 jl.2) λg8=>gu (bQ g8 32)<|lt ({eJ with T:=(dm eJ.T (Int.toNat g8) (D2 x))}:az) λew=>some (ew,jl.2,0))))=
      some (bif (nP k x.Region x.bh (aX w.B 32)||(x.bF&&vU k w x.Region x.bh))then(w,0,5)else if f<16 then(⟨mg w.B f,dm w.T f (D2 x)⟩,fL f (w.B.gA f),0)else(w,0,7)):=by
     show bd (eG n w x.Region x.bh) _ =_;rw[ah (BU hn r x.Region a0)];show cl (_ &&(x.bF==true)) (eu n w x.Region x.bh) default _ =_;rw[cK (zK hn r x.Region a0)];have e5:((!tI k w x.Region x.bh)||((D2 x).bF&&(!(bif (((!tI k w x.Region x.bh)==false)&&(x.bF==true))then qQ k w x.Region x.bh else default))))=(nP k x.Region x.bh (aX w.B 32)||(x.bF&&vU k w x.Region x.bh)):=by show(_ ||(x.bF&&_))=_;unfold tI qQ;rw[ho];cases nP k x.Region x.bh (aX w.B 32)<;>cases x.bF<;>cases vU k w x.Region x.bh<;>rfl
     rw[e5];cases h4:(nP k x.Region x.bh (aX w.B 32)||(x.bF&&vU k w x.Region x.bh))with
     |true=>rw[ak rfl,cond_true]
     |false=>
      have ak9:aM (mg w.B f) (fL f (w.B.gA f))=true:=((mh r.bj hf (by omega) _).2 (.inr rfl)).2;have aho:=cW (n:=n) hn i2 (h:=fL f (w.B.gA f)) (by omega);rw[ak9,aoU rfl,q2]at aho;rw[ae rfl,cond_false,ah (BV hn r.bj hf),aoU (by omega)];dsimp only;rw[cK aho];have hne:(fL f (w.B.gA f)==0)=false:=by simp;omega
      rw[hne];by_cases Ra:f<16
      ·rw[ae (by simp;omega),aJ,ah aho,ax (bK (by omega) (by omega)),aJ,aoU Ra];rfl
      ·rw[ak (by simp;omega),aoV Ra]
    have ale:∀(c:Int),c≠0->True:=λ_ _ =>trivial;by_cases h0:x.bh=0
    ·have e3:((x.bh !=0)&&((((k.aI (aY x.bh)).Region !=x.Region)||((k.aI (aY x.bh)).To !=x.By))||(x.bF&&(!(k.aI (aY x.bh)).bF))))=false:=by simp[h0]
     rw[e3,cond_false];refine(ae (by show(x.bh !=0)=false;simp[h0])).trans (AY.trans ?_);cases(nP k x.Region x.bh (aX w.B 32)||(x.bF&&vU k w x.Region x.bh))<;>simp
    ·have hg:aM w.B x.bh=true:=by
      unfold RZ at ho;rw[Bool.or_eq_true]at ho;exact ho.resolve_left (by simpa using h0)
     obtain⟨g1,g2,g3⟩:=gM hg;have ht:=(r.RY (aY x.bh) (r.Jv (iO _) g2) g2).1;have akT:=cW (n:=n) hn r.bj (h:=x.bh) a0;rw[hg,aoU rfl]at akT;refine(ak (by show(x.bh !=0)=true;simpa using h0)).trans ?_;show bd (bq n w.B x.bh) _ =_;rw[ah akT,ax (bK PZ.1 (by omega)),aJ];show cn ((((w.T (aY x.bh)).Region !=x.Region||(w.T (aY x.bh)).To !=x.By)||(x.bF&& !(w.T (aY x.bh)).bF))) _ _ =_;rw[ht];have h1:(x.bh !=0)=true:=by simpa using h0
     rw[h1,Bool.true_and];show cn ((((k.aI (aY x.bh)).Region !=x.Region||(k.aI (aY x.bh)).To !=x.By)||(x.bF&& !(k.aI (aY x.bh)).bF))) _ _ =_;cases h3:((((k.aI (aY x.bh)).Region !=x.Region||(k.aI (aY x.bh)).To !=x.By)||(x.bF&& !(k.aI (aY x.bh)).bF)))with
     |true=>rw[ak rfl,cond_true,aoU (by decide)]
     |false=>rw[ae rfl,cond_false];refine AY.trans ?_;cases(nP k x.Region x.bh (aX w.B 32)||(x.bF&&vU k w x.Region x.bh))<;>simp
 rw[hP,hR];by_cases hm:K4 k w x=0
 ·simp only[hm,ne_eq,not_true_eq_false,if_false]
  by_cases Ra:f<16
  ·simp only[Ra,if_true]
   exact⟨_,_,_,_,rfl,rfl,λh=>absurd rfl h,λ_ =>⟨f,hf,Ra,rfl,rfl,i2,rfl,hm⟩⟩
  ·simp only[Ra,if_false]
   exact⟨_,_,_,_,rfl,rfl,λ_ =>⟨rfl,rfl,rfl⟩,λh=>(by cases h)⟩
 ·simp only[hm,ne_eq,not_false_eq_true,if_true]
  exact⟨_,_,_,_,rfl,rfl,λ_ =>⟨rfl,rfl,rfl⟩,λh=>absurd h hm⟩
theorem LD.rt{k:ay}{w:az}{x:bE}{k':ay}{w':az}{m e:Int}(h:LD k w x k' w' m e)(r:RT k w)(hx:RK x):RT k' w':=by
 by_cases he:e=0
 ·obtain⟨f,h1,h2,h3,h4,h5,h6,h7⟩:=h.ahM he
  subst h4;refine⟨h5,λi hi hs=>?_,λi hi hl=>?_,λi hi=>?_⟩
  ·rw[h3]
   show dm w.T f (D2 x) i=_ /\_;rw[bI,bI];by_cases e1:i=f
   ·rw[aoU e1,aoU e1];exact⟨rfl,hx⟩
   ·rw[aoV e1,aoV e1]
    exact r.RY i hi (by rw[← hs];exact(jo _ _ e1).symm)
  ·show dm w.B.Is f 1 i=0
   rw[jo _ _ (by omega)];exact r.hi i hi hl
  ·show 0<=(dm w.T f (D2 x) i).bh
   rw[bI];split
   ·exact hx.RD.1
   ·exact r.ab i hi
 ·obtain⟨rfl,rfl,_⟩:=h.bad he
  exact r
end Go.Proofs.Z
namespace Go.Proofs.Z
open Go Go.Bw
def Bi(w:aD)(h:Int):aD:=if aM w h=true then vS w h else w
theorem IK{w:aD}{h:Int}{i:Nat}(hi:i≠aY h):(vS w h).Is i=w.Is i/\(vS w h).gA i=w.gA i:=by
 unfold vS;split
 ·exact⟨jo _ _ hi,rfl⟩
 ·exact⟨jo _ _ hi,jo _ _ hi⟩
theorem Ky(w:aD)(h:Int):(vS w h).Is (aY h)≠1:=by
 unfold vS;split
 ·show dm w.Is (aY h) 2 (aY h)≠1;rw[pq];decide
 ·show dm w.Is (aY h) 0 (aY h)≠1;rw[pq];decide
theorem Oc{w:aD}{h:Int}{i:Nat}(hi:(Bi w h).Is i=1):w.Is i=1/\(Bi w h).gA i=w.gA i:=by
 unfold Bi at *;cases hg:aM w h with
 |false=>rw[hg]at hi;exact⟨hi,by simp⟩
 |true=>
  rw[hg,aoU rfl]at hi;rw[aoU rfl];by_cases e:i=aY h
  ·subst e;exact absurd hi (Ky w h)
  ·have:=IK (w:=w) (h:=h) e
   exact⟨by rw[← this.1];exact hi,this.2⟩
theorem Fp:∀(l:List Int) {w:aD} {i:Nat},(l.foldl Bi w).Is i=1->w.Is i=1/\(l.foldl Bi w).gA i=w.gA i
 |[],_,_,h=>⟨h,rfl⟩
 |x::l,w,i,h=>by obtain⟨h1,h2⟩:=Fp l (w:=Bi w x) h;obtain⟨h3,h4⟩:=Oc h1;exact⟨h3,h2.trans h4⟩
theorem Qa:∀(l:List Int) {w:aD} {x:Int},sB w x->sB (l.foldl Bi w) x
 |[],_,_,h=>h
 |y::l,w,x,h=>Qa l (Hj (h:=y) x h)
theorem RT.af1{n:Nat}{k:ay}{w:az}(r:RT k w){h:Int}(h0:0<=h)(h1:h<4294967296):
  ∃b',iF n k.bj h=some (b',aM w.B h)/\RT {k with bj:=b'} {w with B:=Bi w.B h}:=by
 obtain⟨b',e,r'⟩:=Uo (n:=n) r.bj h0 h1;refine⟨b',e,r',λi hi hs=>?_,λi hi hl=>?_,r.ab⟩
 ·exact r.RY i hi (Oc hs).1
 ·show(Bi w.B h).Is i=0
  unfold Bi;cases hg:aM w.B h with
  |false=>exact r.hi i hi hl
  |true=>obtain⟨g1,g2,g3⟩:=gM hg;have:=r.Jv (iO h) g2;rw[aoU rfl,(IK (w:=w.B) (h:=h) (by omega)).1];exact r.hi i hi hl
theorem Ko{n:Nat}:∀(l:List Int) {k:ay} {w:az},RT k w->(∀h∈l,0<=h/\h<4294967296)->l.length<=100->200<=n->
  ∃k',gB n k l=some k'/\RT k' {w with B:=l.foldl Bi w.B}/\k'.aI=k.aI:=by
 intro l k w r hl hlen hn;unfold gB;refine dU (λ(i:Int) (k':ay)=>0<=i/\i<=l.length/\RT k' {w with B:=(l.take i.toNat).foldl Bi w.B}/\k'.aI=k.aI) (λi _ =>((l.length:Int)-i).toNat) (λo=>∃k',o=some k'/\RT k' {w with B:=l.foldl Bi w.B}/\k'.aI=k.aI) ?_ n 0 k ⟨by omega,by omega,r,rfl⟩ (by omega);rintro kk i k' ⟨i0,i1,r',hs⟩ ih;obtain⟨i,rfl⟩:=Int.eq_ofNat_of_zero_le i0;rw[aoZ]at r';by_cases c:i<l.length
 ·have hgd:l.getD i default=l[i]:=by rw[List.getD,ao3 c];rfl
  have hh:=hl _ (List.getElem_mem c);have ht:l.take (i+1)=l.take i++[l[i]]:=ao4 c;obtain⟨b',e,r2⟩:=r'.af1 (n:=n) hh.1 hh.2;rw[ak (by simpa using c),ax (bK (by omega) (by omega)),aoZ,hgd,ah e,aJ,aL (by omega) (by omega)];have e1:((i:Int)+1).toNat=i+1:=by omega
  refine ih _ _ ⟨by omega,by omega,?_,hs⟩ (by omega);rw[e1,ht,List.foldl_append];exact r2
 ·rw[ae (by simpa using c)]
  rw[List.take_of_length_le (by omega)]at r';exact⟨k',rfl,r',hs⟩
theorem FG{n:Nat}(hn:40<=n){b:bn}{w:aD}(r:RB b w){h:Int}(h0:0<=h):kT n w h=some (Bi w h,aM w h):=SJ hn r h0
theorem BS{n:Nat}(hn:40<=n){k:ay}{w:az}(r:RT k w)(g t:Int):
  dA n w g t=some (dk w.B (λi=>(decide (g<0)||(k.aI i).Region==g)&&(decide (t<0)||(k.aI i).To==t)) 32):=by
 unfold dA;refine dU (λ(o:List Int) (i:Int)=>0<=i/\i<=32/\o=dk w.B (λi=>(decide (g<0)||(k.aI i).Region==g)&&(decide (t<0)||(k.aI i).To==t)) i.toNat) (λ_ i=>(32-i).toNat) (λo=>o=some (dk w.B (λi=>(decide (g<0)||(k.aI i).Region==g)&&(decide (t<0)||(k.aI i).To==t)) 32)) ?_ n [] 0 ⟨by omega,by omega,rfl⟩ (by omega);rintro kk o i ⟨i0,i1,rfl⟩ ih;obtain⟨i,rfl⟩:=Int.eq_ofNat_of_zero_le i0;rw[aoZ];by_cases c:i<32
 ·have hr:=r.bj.nW i c
  have hlen:=pz w.B (λi=>(decide (g<0)||(k.aI i).Region==g)&&(decide (t<0)||(k.aI i).To==t)) i;have e1:((i:Int)+1).toNat=i+1:=by omega
  have hin:bQ (i:Int) 32=true:=bK (by omega) (by omega);rw[ak (by simp;omega),hin,ax rfl,ax (by simp),ax (by simp),aL (by omega) (by omega)];by_cases h1:w.B.Is i=1
  ·rw[(r.RY i (r.Jv c h1) h1).1]
   by_cases h2:((decide (g<0)||(k.aI i).Region==g)&&(decide (t<0)||(k.aI i).To==t))=true
   ·rw[ak (by simp only[h1,D2,beq_self_eq_true,Bool.true_and];exact h2),ah (tH (by omega) (by omega) hr.1 hr.2),ax (eM (by omega) (by omega)),aJ]
    refine ih _ _ ⟨by omega,by omega,?_⟩ (by omega);rw[e1,dk,aoU ⟨h1,h2⟩];rfl
   ·rw[ae (by simp only[h1,D2,beq_self_eq_true,Bool.true_and];simpa using h2)]
    refine ih _ _ ⟨by omega,by omega,?_⟩ (by omega);rw[e1,dk,aoV (λh=>h2 h.2),List.append_nil]
  ·have:(w.B.Is i==1)=false:=by simpa using h1
   rw[ae (by simp[this])];refine ih _ _ ⟨by omega,by omega,?_⟩ (by omega);rw[e1,dk,aoV (λh=>h1 h.1),List.append_nil]
 ·obtain rfl:i=32:=by omega
  rw[ae (by simp)]
theorem He{b:bn}{w:aD}(r:RB b w){p:Nat->Bool}:∀h∈dk w p 32,0<=h/\h<4294967296:=λh hh=>by have:=((y8 r).1 hh).1;exact⟨this.1,KH (gM this.2).1⟩
theorem abq{n:Nat}(hn:200<=n){k:ay}{w:az}(r:RT k w){g:Int}(hg:0<=g):
  ∃k',lY n k g=some k'/\l8 n w g=some {w with B:=(dk w.B (λi=>(k.aI i).Region==g) 32).foldl Bi w.B}/\
   RT k' {w with B:=(dk w.B (λi=>(k.aI i).Region==g) 32).foldl Bi w.B}/\k'.aI=k.aI:=by
 have Dt:=He r.bj (p:=λi=>(k.aI i).Region==g);have hlen:=pz w.B (λi=>(k.aI i).Region==g) 32;obtain⟨k',e1,e2,e3⟩:=Ko (n:=n) _ r Dt (by omega) hn;refine⟨k',?_,?_,e2,e3⟩
 ·unfold lY
  rw[ah (ZL (by omega) r g),ah e1]
 ·have hl:dA n w g (-1)=some (dk w.B (λi=>(k.aI i).Region==g) 32):=by
   refine(BS (by omega) r g (-1)).trans (congrArg some (v5 (λi _ _ =>?_) 32 (Nat.le_refl _)));have:decide (g<0)=false:=by simpa using hg
   simp[this]
  unfold l8;rw[ah hl];generalize dk w.B (λi=>(k.aI i).Region==g) 32=l at *;refine dU (λ(i:Int) (w':az)=>0<=i/\i<=l.length/\w'={w with B:=(l.take i.toNat).foldl Bi w.B}/\∃k',RT k' w') (λi _ =>((l.length:Int)-i).toNat) (λo=>o=some ({w with B:=l.foldl Bi w.B}:az)) ?_ n 0 w ⟨by omega,by omega,rfl,k,r⟩ (by omega);rintro kk i w' ⟨i0,i1,rfl,k2,r'⟩ ih;obtain⟨i,rfl⟩:=Int.eq_ofNat_of_zero_le i0;rw[aoZ]at *;by_cases c:i<l.length
  ·have hgd:l.getD i default=l[i]:=by rw[List.getD,ao3 c];rfl
   have hh:=Dt _ (List.getElem_mem c);have ht:l.take (i+1)=l.take i++[l[i]]:=ao4 c;obtain⟨b',_,r2⟩:=r'.af1 (n:=n) hh.1 hh.2;rw[ak (by simpa using c),ax (bK (by omega) (by omega)),hgd,ah (FG (by omega) r'.bj hh.1),aJ,aL (by omega) (by omega)];have e1:((i:Int)+1).toNat=i+1:=by omega
   refine ih _ _ ⟨by omega,by omega,?_,_,r2⟩ (by omega);rw[e1,ht,List.foldl_append];rfl
  ·rw[ae (by simpa using c),List.take_of_length_le (by omega)]
def W3(k:ay)(w:az)(i j:Nat):Prop:=j<32/\w.B.Is j=1/\(k.aI j).bh=fL i (w.B.gA i)
inductive Mk(k:ay)(w:az)(i0:Nat):Nat->Prop where
 |self:Mk k w i0 i0
 |kid {i j:Nat}:Mk k w i0 i->W3 k w i j->Mk k w i0 j
theorem Mk.ag0{k:ay}{w:az}{i0 j:Nat}(h:Mk k w i0 j)(h0:i0<32)(h1:w.B.Is i0=1):j<32/\w.B.Is j=1:=by
 cases h with
 |self=>exact⟨h0,h1⟩
 |kid _ hk=>exact⟨hk.1,hk.2.1⟩
theorem Mk.head{k:ay}{w:az}{i0 c j:Nat}(hc:W3 k w i0 c)(h:Mk k w c j):Mk k w i0 j:=by
 induction h with
 |self=>exact .kid .self hc
 |kid _ hk ih=>exact .kid ih hk
theorem Mk.LG{k:ay}{w:az}{i0 j:Nat}(h:Mk k w i0 j):j=i0\/∃c,W3 k w i0 c/\Mk k w c j:=by
 induction h with
 |self=>exact .inl rfl
 |kid _ hk ih=>
  rcases ih with rfl|⟨c,h1,h2⟩
  ·exact .inr ⟨_,hk, .self⟩
  ·exact .inr ⟨c,h1, .kid h2 hk⟩
structure TT(k:ay)(w:az):Prop where
 SU:∀i,i<32->w.B.Is i=1->(k.aI i).bh=0\/sB w.B (k.aI i).bh
 agy:∃ρ:Nat->Nat,∀i j,i<32->w.B.Is i=1->W3 k w i j->ρ i<ρ j
def Dx(p:Nat->Bool):Nat->Nat
 |0=>0
 |k+1=>Dx p k+(if p k=true then 1 else 0)
theorem F8(p:Nat->Bool):∀k,Dx p k<=k
 |0=>Nat.le_refl _
 |k+1=>by have:=F8 p k;simp only[Dx];split<;>omega
theorem ND{p q:Nat->Bool}(h:∀i,p i=true->q i=true):∀k,Dx p k<=Dx q k
 |0=>Nat.le_refl _
 |k+1=>by
  have:=ND h k;simp only[Dx];by_cases e:p k=true
  ·rw[aoU e,aoU (h k e)];omega
  ·rw[aoV e];omega
theorem yo{p q:Nat->Bool}(h:∀i,p i=true->q i=true){c:Nat}(hp:p c=false)(hq:q c=true):∀k,c<k->Dx p k<Dx q k
 |0,hc=>absurd hc (Nat.not_lt_zero _)
 |k+1,hc=>by
  simp only[Dx];by_cases e:c=k
  ·subst e
   have:=ND h c;rw[hp,hq];simp;omega
  ·have:=yo h hp hq k (by omega)
   by_cases e2:p k=true
   ·rw[aoU e2,aoU (h k e2)];omega
   ·rw[aoV e2];omega
theorem OZ{k:ay}{w:az}(r:RT k w){i:Nat}{x:Int}:x∈dk w.B (λj=>(k.aI j).bh==fL i (w.B.gA i)) 32↔aQ w.B x/\W3 k w i (aY x):=by rw[y8 r.bj,beq_iff_eq];exact⟨λh=>⟨h.1,iO x,(gM h.1.2).2.1,h.2⟩,λh=>⟨h.1,h.2.2.2⟩⟩
theorem aa2{k:ay}{w:az}(r:RT k w){ρ:Nat->Nat}(hρ:∀i j,i<32->w.B.Is i=1->W3 k w i j->ρ i<ρ j):
  ∀(d i n:Nat),i<32->w.B.Is i=1->Dx (λj=>decide (ρ i<ρ j)) 32<=d->50+d<n->∀(goes:List (Int×Bool)) (S:Int->Prop),DA goes S->
   ∃goes',fT n (fL i (w.B.gA i)) goes k=some goes'/\DA goes' (λx=>S x\/∃j,Mk k w i j/\x=fL j (w.B.gA j)):=by
 intro d
 induction d with
 |zero=>
  intro i n hi h1 hd hn goes S hS;obtain⟨n,rfl⟩:∃m,n=m+1:=⟨n-1,by omega⟩;rw[fT,aJ,ah (QV (by omega) r _)];have hno:dk w.B (λj=>(k.aI j).bh==fL i (w.B.gA i)) 32=[]:=by
   cases hl:dk w.B (λj=>(k.aI j).bh==fL i (w.B.gA i)) 32 with
   |nil=>rfl
   |cons x t=>have:=(OZ r (i:=i) (x:=x)).1 (by rw[hl];simp);have h2:=hρ i (aY x) hi h1 this.2;have h3:=yo (p:=λ_ =>false) (q:=λj=>decide (ρ i<ρ j)) (λ_ h=>by cases h) (c:=aY x) rfl (by simpa using h2) 32 (iO x);omega
  rw[hno];obtain⟨n,rfl⟩:∃m,n=m+1:=⟨n-1,by omega⟩;refine⟨_,rfl,hS.set λx=>?_⟩;refine or_congr_right ⟨λ⟨j,hj,e⟩=>?_,λe=>⟨i, .self,e⟩⟩;rcases hj.LG with rfl|⟨c,hc,_⟩
  ·exact e
  ·have uP:=B8 r.bj hc.1 hc.2.1
   have:=(OZ r (i:=i) (x:=fL c (w.B.gA c))).2 ⟨uP.1,by rw[uP.2.1];exact hc⟩;rw[hno]at this;cases this
 |succ d ihd=>
  intro i n hi h1 hd hn goes S hS;obtain⟨n,rfl⟩:∃m,n=m+1:=⟨n-1,by omega⟩;rw[fT,aJ,ah (QV (by omega) r _)];have hmem:=λx=>OZ r (i:=i) (x:=x);have hlen:=pz w.B (λj=>(k.aI j).bh==fL i (w.B.gA i)) 32;generalize dk w.B (λj=>(k.aI j).bh==fL i (w.B.gA i)) 32=t at *;have hS1:DA (qw goes (fL i (w.B.gA i)) true) (λx=>S x\/x=fL i (w.B.gA i)):=hS.set λx=>Iff.rfl;refine dU (λ(m:Int) (g:List (Int×Bool))=>0<=m/\m<=t.length/\DA g (λx=>(S x\/x=fL i (w.B.gA i))\/∃c∈t.take m.toNat,∃j,Mk k w (aY c) j/\x=fL j (w.B.gA j))) (λm _ =>((t.length:Int)-m).toNat)
   (λo=>∃g',o=some g'/\DA g' (λx=>S x\/∃j,Mk k w i j/\x=fL j (w.B.gA j))) ?_ n 0 _ ⟨by omega,by omega,hS1.congr λx=>by simp⟩ (by omega)
  rintro kk m g ⟨m0,m1,hg⟩ ih;obtain⟨m,rfl⟩:=Int.eq_ofNat_of_zero_le m0;rw[aoZ]at hg;by_cases c:m<t.length
  ·have hgd:t.getD m default=t[m]:=by rw[List.getD,ao3 c];rfl
   have hh:=(hmem _).1 (List.getElem_mem c);have ht:t.take (m+1)=t.take m++[t[m]]:=ao4 c;have hk:=hρ i _ hi h1 hh.2;have uP:=(gM hh.1.2).2.1;have ad4:Dx (λj=>decide (ρ (aY t[m])<ρ j)) 32<=d:=by have:=yo (p:=λj=>decide (ρ (aY t[m])<ρ j)) (q:=λj=>decide (ρ i<ρ j)) (λj hj=>by simp at hj ⊢;omega) (c:=aY t[m]) (by simp) (by simpa using hk) 32 (iO _);omega
   obtain⟨g',e1,e2⟩:=ihd (aY t[m]) n (iO _) uP ad4 (by omega) g _ hg;rw[iG hh.1]at e1;rw[ak (by simpa using c),ax (bK (by omega) (by omega)),aoZ,hgd,ah e1,aL (by omega) (by omega)];have e3:((m:Int)+1).toNat=m+1:=by omega
   refine ih _ _ ⟨by omega,by omega,e2.congr λx=>?_⟩ (by omega);rw[e3,ht];constructor
   ·rintro(h|⟨c',hc',h⟩)
    ·exact .inl (.inl h)
    ·rcases List.mem_append.1 hc' with h2|h2
     ·exact .inl (.inr ⟨c',h2,h⟩)
     ·rw[List.mem_singleton.1 h2]at h;exact .inr h
   ·rintro((h|⟨c',hc',h⟩)|h)
    ·exact .inl h
    ·exact .inr ⟨c',ao1 _ hc',h⟩
    ·exact .inr ⟨_,ao0 _ (by simp),h⟩
  ·rw[ae (by simpa using c)]
   rw[List.take_of_length_le (by omega)]at hg;refine⟨g,rfl,hg.congr λx=>?_⟩;constructor
   ·rintro(h|⟨j,hj,rfl⟩)
    ·exact .inl (.inl h)
    ·rcases hj.LG with rfl|⟨c',h3,h4⟩
     ·exact .inl (.inr rfl)
     ·have uP:=B8 r.bj h3.1 h3.2.1
      exact .inr ⟨_,(hmem (fL c' (w.B.gA c'))).2 ⟨uP.1,by rw[uP.2.1];exact h3⟩,j,by rw[uP.2.1];exact h4,rfl⟩
   ·rintro((h|h)|⟨c',hc',j,hj,h⟩)
    ·exact .inl h
    ·exact .inr ⟨i, .self,h⟩
    ·exact .inr ⟨j,hj.head ((hmem _).1 hc').2,h⟩
end Go.Proofs.Z
namespace Go.Proofs.Z
open Go Go.Bw
structure aiW(k:ay)(w:az)(h:Int)(k':ay)(w':az)(l:List Int)(e:Int):Prop where
 no:aM w.B h=false->k'=k/\w'=w/\l=[]/\e=4
 yes:aM w.B h=true->e=0/\RT k' w'/\k'.aI=k.aI/\w'={w with B:=l.foldl Bi w.B}/\∃g:Nat->Bool,(∀i,i<32->(g i=true↔Mk k w (aY h) i))/\l=dk w.B g 32
theorem Wz{n:Nat}(hn:300<=n){k:ay}{w:az}(r:RT k w){h:Int}(h0:0<=h)(hg:aM w.B h=true):
  ∃g:Nat->Bool,(∀i,i<32->(g i=true↔Mk k w (aY h) i))/\fS n w h=some ({w with B:=(dk w.B g 32).foldl Bi w.B},dk w.B g 32,0):=by
 obtain⟨g1,g2,g3⟩:=gM hg;have PZ:=fG h;have hs:=cW (n:=n) (by omega) r.bj h0;rw[hg,aoU rfl]at hs;unfold fS;rw[ah hs,ae (by simp;omega),ah hs,ax (bK PZ.1 (by omega)),aJ];have hi0:(mz h).toNat=aY h:=rfl;rw[hi0];have hl0:=iO h;generalize aY h=i0 at *;have an0:(∀i,dm (λ_ =>false) i0 true i=true->Mk k w i0 i):=λi hi=>by
  rw[bI]at hi;split at hi
  ·rename_i e;rw[e];exact .self
  ·cases hi
 refine dU (λ(fE:Bool) (goes:Nat->Bool)=>(∀i,goes i=true->Mk k w i0 i)/\goes i0=true/\(fE=false->∀j,j<32->w.B.Is j=1->goes j=false->aM w.B (k.aI j).bh=true->goes (aY (k.aI j).bh)=false))
  (λfE goes=>(if fE=true then 1 else 0)+2*Dx (λj=> !goes j) 32)
  (λo=>∃g:Nat->Bool,(∀i,i<32->(g i=true↔Mk k w i0 i))/\o=some (({w with B:=(dk w.B g 32).foldl Bi w.B}:az),dk w.B g 32,(0:Int))) ?_ n true _
  ⟨an0,pq _ _ _,λh=>(by cases h)⟩ (by have:=F8 (λj=> !(dm (λ_ =>false) i0 true j)) 32;simp only[if_true];omega)
 rintro kk fE goes ⟨q1,q2,q3⟩ ih;cases fE with
 |true=>
  rw[ak rfl];refine rE (λ(m2:Bool) (i:Int) (gg:Nat->Bool)=>0<=i/\i<=32/\(∀i,gg i=true->Mk k w i0 i)/\gg i0=true/\
    (m2=false->gg=goes/\∀j:Nat,(j:Int)<i->w.B.Is j=1->goes j=false->aM w.B (k.aI j).bh=true->goes (aY (k.aI j).bh)=false)/\
    (m2=true->Dx (λj=> !gg j) 32<Dx (λj=> !goes j) 32)) (λ_ i _ =>(32-i).toNat)
   (λo=>∃g:Nat->Bool,(∀i,i<32->(g i=true↔Mk k w i0 i))/\o=some (({w with B:=(dk w.B g 32).foldl Bi w.B}:az),dk w.B g 32,(0:Int))) ?_ n false 0 goes
   ⟨by omega,by omega,q1,q2,λ_ =>⟨rfl,λj hj=>by omega⟩,λh=>by cases h⟩ (by omega)
  rintro k2 m2 i gg ⟨i0',i1,p1,p2,p3,p4⟩ Ve;obtain⟨i,rfl⟩:=Int.eq_ofNat_of_zero_le i0';by_cases c:i<32
  ·have hin:bQ (i:Int) 32=true:=bK (by omega) (by omega)
   have ha:=r.ab i c;rw[ak (by simp;omega),hin,ax rfl,aoZ,ah (cW (by omega) r.bj ha),ax rfl,ax (by simp)];have hsr:=fG (w.T i).bh;have hgu:∀b:Bool,(!((b&&decide (0<=(if aM w.B (w.T i).bh=true then mz (w.T i).bh else -1)))==true)||bQ (if aM w.B (w.T i).bh=true then mz (w.T i).bh else -1) 32)=true:=λb=>by
    cases hq:aM w.B (w.T i).bh with
    |true=>have:bQ (mz (w.T i).bh) 32=true:=bK hsr.1 (by omega);simp[this]
    |false=>simp
   rw[ax (hgu _)];have afw:((((w.B.Is i==1)&&(!(gg i)))&&decide (0<=(if aM w.B (w.T i).bh=true then mz (w.T i).bh else -1)))&&(gg (Int.toNat (if aM w.B (w.T i).bh=true then mz (w.T i).bh else -1))))=true↔
     w.B.Is i=1/\gg i=false/\aM w.B (k.aI i).bh=true/\gg (aY (k.aI i).bh)=true:=by
    by_cases h1:w.B.Is i=1
    ·have ht:(w.T i).bh=(k.aI i).bh:=by rw[(r.RY i (r.Jv c h1) h1).1];rfl
     rw[ht]at hsr ⊢;cases hq:aM w.B (k.aI i).bh with
     |true=>simp[h1,hsr.1,aY]
     |false=>simp
    ·have:(w.B.Is i==1)=false:=by simpa using h1
     simp[h1]
   by_cases hc:w.B.Is i=1/\gg i=false/\aM w.B (k.aI i).bh=true/\gg (aY (k.aI i).bh)=true
   ·rw[ak (afw.2 hc),ax rfl,aJ,aL (by omega) (by omega)]
    obtain⟨c1,c2,c3,c4⟩:=hc;have anI:=(r.RY i (r.Jv c c1) c1).2;have PY:=iG ⟨anI.RD.1,c3⟩;have ad4:=yo (p:=λj=> !(dm gg i true j)) (q:=λj=> !gg j) (λj hj=>by
     rw[bI]at hj;split at hj
     ·cases hj
     ·exact hj) (c:=i) (by rw[pq];rfl) (by rw[c2];rfl) 32 c
    refine Ve _ _ _ ⟨by omega,by omega,λj hj=>?_,?_,λh=>(by cases h),λ_ =>?_⟩ (by omega)
    ·rw[bI]at hj
     split at hj
     ·rename_i e;rw[e]
      exact .kid (p1 _ c4) ⟨c,c1,PY.symm⟩
     ·exact p1 j hj
    ·rw[bI];split
     ·rfl
     ·exact p2
    ·cases m2 with
     |true=>exact Nat.lt_trans ad4 (p4 rfl)
     |false=>rw[← (p3 rfl).1];exact ad4
   ·rw[ae (by rw[← Bool.not_eq_true];exactλh=>hc (afw.1 h)),aL (by omega) (by omega)]
    refine Ve _ _ _ ⟨by omega,by omega,p1,p2,λh=>⟨(p3 h).1,λj hj h1 h2 h3=>?_⟩,p4⟩ (by omega);by_cases e:j=i
    ·subst e
     rw[(p3 h).1]at hc;cases hq:goes (aY (k.aI j).bh)with
     |false=>rfl
     |true=>exact absurd ⟨h1,h2,h3,hq⟩ hc
    ·exact(p3 h).2 j (by omega) h1 h2 h3
  ·rw[ae (by simp;omega)]
   refine ih _ _ ⟨p1,p2,λh j hj h1 h2 h3=>?_⟩ ?_
   ·rw[(p3 h).1]at h2 ⊢
    exact(p3 h).2 j (by omega) h1 h2 h3
   ·cases m2 with
    |true=>have:=p4 rfl;simp only[if_true];omega
    |false=>rw[(p3 rfl).1];simp
 |false=>
  rw[ae rfl];have hD:∀i,i<32->(goes i=true↔Mk k w i0 i):=λi _ =>⟨q1 i,λhd=>by
   induction hd with
   |self=>exact q2
   |@kid a j hd hk ihd=>
    have hla:=hd.ag0 hl0 g2;have pL:=ihd hla.1;cases hq:goes j with
    |true=>rfl
    |false=>
     have hh:=B8 r.bj hla.1 hla.2;have:=q3 rfl j hk.1 hk.2.1 hq (by rw[hk.2.2];exact hh.1.2);rw[hk.2.2,hh.2.1,pL]at this;cases this⟩
  refine⟨goes,hD,?_⟩;refine rE (λ(l:List Int) (i:Int) (w':az)=>0<=i/\i<=32/\l=dk w.B goes i.toNat/\w'={w with B:=(dk w.B goes i.toNat).foldl Bi w.B}/\∃k',RT k' w') (λ_ i _ =>(32-i).toNat)
   (λo=>o=some (({w with B:=(dk w.B goes 32).foldl Bi w.B}:az),dk w.B goes 32,(0:Int))) ?_ n [] 0 w ⟨by omega,by omega,rfl,rfl,k,r⟩ (by omega)
  rintro k2 l i w' ⟨i0',i1,rfl,rfl,k',r'⟩ Ve;obtain⟨i,rfl⟩:=Int.eq_ofNat_of_zero_le i0';rw[aoZ]at *;by_cases c:i<32
  ·have hr:=r.bj.nW i c
   have hlen:=pz w.B goes i;have e1:((i:Int)+1).toNat=i+1:=by omega
   rw[ak (by simp;omega),ax (bK (by omega) (by omega))];cases hq:goes i with
   |true=>
    have hlv:=((hD i c).1 hq).ag0 hl0 g2;have hof:=tH (n:=n) (w:=w.B) (i:=i) (by omega) (by omega) hr.1 hr.2;have hh:=B8 r.bj c hlv.2;obtain⟨b',_,r2⟩:=r'.af1 (n:=n) (h:=fL i (w.B.gA i)) (by omega) hh.2.2.2;rw[ak rfl,ah hof,ax (eM (by omega) (by omega)),aJ,ah hof,ah (FG (by omega) r'.bj (by show(0:Int)<=fL i (w.B.gA i);omega)),aJ,aL (by omega) (by omega)];have et:dk w.B goes (i+1)=dk w.B goes i++[fL i (w.B.gA i)]:=by rw[dk,aoU ⟨hlv.2,hq⟩]
    refine Ve _ _ _ ⟨by omega,by omega,by rw[e1,et];rfl,?_,_,r2⟩ (by omega);rw[e1,et,List.foldl_append];rfl
   |false=>
    have et:dk w.B goes (i+1)=dk w.B goes i:=by rw[dk,aoV (λh=>by rw[hq]at h;cases h.2),List.append_nil]
    rw[ae rfl,aL (by omega) (by omega)];exact Ve _ _ _ ⟨by omega,by omega,by rw[e1,et],by rw[e1,et],_,r'⟩ (by omega)
  ·obtain rfl:i=32:=by omega
   rw[ae (by simp)]
theorem Za{n:Nat}(hn:300<=n){k:ay}{w:az}(r:RT k w)(t:TT k w){h:Int}(h0:0<=h)(h1:h<4294967296):
  ∃k' w' l e,eU n k h=some (k',l,e)/\fS n w h=some (w',l,e)/\aiW k w h k' w' l e:=by
 cases hg:aM w.B h with
 |false=>
  refine⟨k,w,[],4,?_,?_,λ_ =>⟨rfl,rfl,rfl,rfl⟩,λh=>(by rw[hg]at h;cases h)⟩
  ·unfold eU
   rw[ah (nZ r.bj h0 h1),hg];rfl
  ·unfold fS
   have hs:=cW (n:=n) (by omega) r.bj h0;rw[hg,aoV (by decide)]at hs;rw[ah hs];rfl
 |true=>
  obtain⟨g,hD,hR⟩:=Wz hn r h0 hg;obtain⟨g1,g2,g3⟩:=gM hg;obtain⟨ρ,hρ⟩:=t.agy;have hc:=F8 (λj=>decide (ρ (aY h)<ρ j)) 32;obtain⟨goes,e1,e2⟩:=aa2 r hρ 32 (aY h) n (iO h) g2 hc (by omega) [] _ DA.nil;rw[iG ⟨h0,hg⟩]at e1;have anT:(aX w.B 32).filter (λx=>qG goes x false)=dk w.B g 32:=by
   rw[← r9 r.bj g 32 (Nat.le_refl _)];refine List.filter_congr λx hx=>?_;have GK:=(bY r.bj x).1 hx;rw[Bool.eq_iff_iff,e2.get,hD _ (iO x)];constructor
   ·rintro(h|⟨j,hj,rfl⟩)
    ·exact h.elim
    ·have hl:=hj.ag0 (iO h) g2
     rw[(B8 r.bj hl.1 hl.2).2.1];exact hj
   ·intro hd
    exact .inr ⟨aY x,hd,(iG GK).symm⟩
  have Dt:=He r.bj (p:=g);have hlen:=pz w.B g 32;obtain⟨k',w1,w2,w3⟩:=Ko (n:=n) _ r Dt (by omega) (by omega);refine⟨k',_,_,_,?_,hR,λh=>(by rw[hg]at h;cases h),λ_ =>⟨rfl,w2,w3,rfl,g,hD,rfl⟩⟩;unfold eU;have zZ:=gZ w.B 32;rw[ah (nZ r.bj h0 h1),hg,ae (b:= !true) rfl,ah e1,ah (wB (by omega) r.bj)];refine dU (λ(o:List Int) (i:Int)=>0<=i/\i<=(aX w.B 32).length/\o=((aX w.B 32).take i.toNat).filter (λx=>qG goes x false)) (λ_ i=>(((aX w.B 32).length:Int)-i).toNat) (λo=>o=some (k',dk w.B g 32,0)) ?_ n [] 0 ⟨by omega,by omega,rfl⟩ (by omega);rintro kk o i ⟨i0,i1,rfl⟩ ih;obtain⟨i,rfl⟩:=Int.eq_ofNat_of_zero_le i0;rw[aoZ];by_cases c:i<(aX w.B 32).length
  ·have hgd:(aX w.B 32).getD i default=(aX w.B 32)[i]:=by rw[List.getD,ao3 c];rfl
   have ht:(aX w.B 32).take (i+1)=(aX w.B 32).take i++[(aX w.B 32)[i]]:=ao4 c;have hfl:(((aX w.B 32).take i).filter (λx=>qG goes x false)).length<=32:=Nat.le_trans (List.length_filter_le _ _) (by rw[List.length_take];omega);have e3:((i:Int)+1).toNat=i+1:=by omega
   rw[ak (by simpa using c),ax (bK (by omega) (by omega)),hgd,aL (by omega) (by omega)];generalize(aX w.B 32)[i]=z at *;cases hq:qG goes z false with
   |true=>rw[ak rfl,ax (eM (by omega) (by omega)),aJ];refine ih _ _ ⟨by omega,by omega,?_⟩ (by omega);rw[e3,ht,List.filter_append];simp[hq]
   |false=>rw[ae rfl];refine ih _ _ ⟨by omega,by omega,?_⟩ (by omega);rw[e3,ht,List.filter_append];simp[hq]
  ·rw[ae (by simpa using c),List.take_of_length_le (by omega),anT,ah w1]
end Go.Proofs.Z
namespace Go.Proofs.Z
open Go Go.Bw
theorem TT.ae6{k k':ay}{w:az}(t:TT k w)(l:List Int)(hs:k'.aI=k.aI):TT k' {w with B:=l.foldl Bi w.B}:=by
 refine⟨λi hi h1=>?_,?_⟩
 ·rw[hs]
  exact(t.SU i hi (Fp l h1).1).imp _root_.id (Qa l)
 ·obtain⟨ρ,hρ⟩:=t.agy
  refine⟨ρ,λi j hi h1 hk=>?_⟩;obtain⟨k1,k2,k3⟩:=hk;rw[hs]at k3;have hi1:=Fp l h1;have hj1:=Fp l k2;exact hρ i j hi hi1.1 ⟨k1,hj1.1,by rw[k3];show fL i ((l.foldl Bi w.B).gA i)=_;rw[hi1.2]⟩
def YM(ρ:Nat->Nat):Nat->Nat
 |0=>0
 |k+1=>YM ρ k+ρ k
theorem Oj(ρ:Nat->Nat){j:Nat}:∀k,j<k->ρ j<=YM ρ k
 |0,h=>absurd h (Nat.not_lt_zero _)
 |k+1,h=>by
  simp only[YM];by_cases e:j=k
  ·subst e;omega
  ·have:=Oj ρ (j:=j) k (by omega);omega
theorem tP{w:aD}{x:Int}(h:aQ w x):sB w x:=by obtain⟨g1,g2,g3⟩:=gM h.2;exact⟨h.1,g1, .inr ⟨g3.symm,by show w.Is (aY x)≠0;omega⟩⟩
theorem TT.ann{k:ay}{w:az}{x:bE}{k':ay}{w':az}{m e:Int}(t:TT k w)(r:RT k w)(hx:RK x)(h:LD k w x k' w' m e):TT k' w':=by
 by_cases he:e=0
 ·obtain⟨f,h1,h2,h3,h4,h5,h6,h7⟩:=h.ahM he
  subst h4;have hok:RZ w x.bh=true:=by
   unfold K4 at h7;cases ho:RZ w x.bh with
   |true=>rfl
   |false=>rw[ho,Bool.not_false,cond_true]at h7;exact absurd h7 (by decide)
  have hr:=r.bj.nW f (by omega);have hfree:=h1.2.2 (by omega);have hax:x.bh=0\/aQ w.B x.bh:=by unfold RZ at hok;rw[Bool.or_eq_true,beq_iff_eq]at hok;exact hok.imp _root_.id λhg=>⟨hx.RD.1,hg⟩
  have hpos:=(pB (i:=f) (g:=w.B.gA f) (by omega) (by omega) hr.1 hr.2);have hnew:∀a,(a=0\/sB w.B a)->a≠fL f (w.B.gA f):=λa ha e=>by
   rcases ha with ha|ha
   ·have:=hpos.2.2.2.1;omega
   ·subst e;exact KX r.bj h1 (by omega) ha
  refine⟨λi hi hs=>?_,?_⟩
  ·rw[h3,bI]
   by_cases e1:i=f
   ·rw[aoU e1]
    exact hax.imp _root_.id λhg=>xn _ (tP hg)
   ·rw[aoV e1]
    have hs':w.B.Is i=1:=by rw[← hs];exact(jo _ _ e1).symm
    exact(t.SU i hi hs').imp _root_.id (xn _)
  ·obtain⟨ρ,hρ⟩:=t.agy
   refine⟨dm ρ f (1+YM ρ 32),λi j hi hs hk=>?_⟩;obtain⟨k1,k2,k3⟩:=hk;rw[h3,bI]at k3;replace k3:(if j=f then x else k.aI j).bh=fL i (w.B.gA i):=k3;rw[bI,bI];by_cases ej:j=f
   ·rw[aoU ej]at k3
    rw[aoU ej];have hif:i≠f:=λe=>by subst e;exact hnew _ (hax.imp _root_.id tP) k3
    rw[aoV hif];have:=Oj ρ 32 hi;omega
   ·rw[aoV ej]at k3
    rw[aoV ej];have hj':w.B.Is j=1:=by rw[← k2];exact(jo _ _ ej).symm
    by_cases ei:i=f
    ·subst ei
     exact absurd k3 (hnew _ (t.SU j k1 hj'))
    ·rw[aoV ei]
     have hi':w.B.Is i=1:=by rw[← hs];exact(jo _ _ ei).symm
     exact hρ i j hi hi' ⟨k1,hj',k3⟩
 ·obtain⟨rfl,rfl,_⟩:=h.bad he
  exact t
theorem aiW.next{k:ay}{w:az}{h:Int}{k':ay}{w':az}{l:List Int}{e:Int}(p:aiW k w h k' w' l e)(r:RT k w)(t:TT k w):RT k' w'/\TT k' w':=by
 cases hg:aM w.B h with
 |false=>obtain⟨rfl,rfl,_⟩:=p.no hg;exact⟨r,t⟩
 |true=>obtain⟨_,h1,h2,h3,_⟩:=p.yes hg;subst h3;exact⟨h1,t.ae6 l h2⟩
def A4(k:ay)(w:az)(h:Int):bE:=bif aM w.B h then k.aI (aY h)else⟨0,0,0,false,0⟩
theorem ahN{n:Nat}{k:ay}{w:az}(r:RT k w){h:Int}(h0:0<=h)(h1:h<4294967296):dz n k h=some (A4 k w h,bif aM w.B h then 0 else 4):=by rw[Pe r h0 h1];unfold A4;cases aM w.B h<;>rfl
theorem Oz{n:Nat}(hn:40<=n){k:ay}{w:az}(r:RT k w){h:Int}(h0:0<=h):iC n w h=some (D2 (A4 k w h),bif aM w.B h then 0 else 4):=by rw[WC hn r h0];unfold A4;cases aM w.B h<;>rfl
theorem Qf{k:ay}{w:az}(r:RT k w)(h:Int):RK (A4 k w h):=by
 unfold A4;cases hg:aM w.B h with
 |false=>exact⟨⟨Int.le_refl 0,by show(0:Int)<_;decide⟩,⟨Int.le_refl 0,by show(0:Int)<_;decide⟩,⟨Int.le_refl 0,by show(0:Int)<_;decide⟩,⟨Int.le_refl 0,by show(0:Int)<_;decide⟩⟩
 |true=>obtain⟨g1,g2,g3⟩:=gM hg;exact(r.RY _ (r.Jv (iO h) g2) g2).2
theorem ZS{i:Nat}(h:iX.B.Is i=1):False:=absurd (show(0:Int)=1 from h) (by decide)
theorem afr:RT eC iX/\TT eC iX:=
 ⟨⟨⟨λi _ =>rfl,λi _ =>rfl,λi _ =>rfl,λi _ => .inl rfl,λi _ =>⟨Int.le_refl 0,show(0:Int)<=8388607 by decide⟩⟩,λi _ h=>(ZS h).elim,λi _ _ =>rfl,λi _ =>Int.le_refl _⟩,λi _ h=>(ZS h).elim,λ_ =>0,λi j _ h=>(ZS h).elim⟩
end Go.Proofs.Z
namespace Go.Proofs.Z
open Go Go.Bw
end Go.Proofs.Z
namespace Go.Proofs.Z
open Go Go.Bw
abbrev Rn:=aB
structure rP(l:List Rn):Prop where
 nW:∀y∈l,0<=y.At/\1<=y.N/\y.At+y.N<=64
 pw:l.Pairwise λy z=>y.At+y.N<z.At
def dL(l:List Rn)(p:Int):Prop:=∃y∈l,y.At<=p/\p<y.At+y.N
def Jt(at_ k:Int):Prop:=1<=k/\0<=at_/\at_+k<=64
instance(a k:Int):Decidable (Jt a k):=by unfold Jt;infer_instance
def A0(x:Int):Prop:= -9223372036854775808<=x/\x<=9223372036854775807
theorem rP.nil:rP []:=⟨by simp, .nil⟩
theorem Rv:∀{l:List Rn} {lo:Int},rP l->(∀y∈l,lo<=y.At)->lo<=65->(l.length:Int)*2<=65-lo
 |[],lo,_,_,h=>by simp;omega
 |y::r,lo,h,hl,_ =>by obtain⟨h1,h2⟩:=List.pairwise_cons.1 h.pw;have hy:=h.nW y (by simp);have hy':=hl y (by simp);have:=Rv (l:=r) (lo:=y.At+y.N+1) ⟨λz hz=>h.nW z (by simp[hz]),h2⟩ (λz hz=>by have:=h1 z hz;omega) (by omega);simp only[List.length_cons];omega
theorem rP.len{l:List Rn}(h:rP l):l.length<=32:=by have:=Rv (lo:=0) h (λy hy=>(h.nW y hy).1) (by omega);omega
theorem rP.two{l:List Rn}(h:rP l){y z:Rn}(hy:y∈l)(hz:z∈l):y=z\/y.At+y.N<z.At\/z.At+z.N<y.At:=by
 have:=h.pw;clear h
 induction l with
 |nil=>simp at hy
 |cons x r ih=>
  obtain⟨h1,h2⟩:=List.pairwise_cons.1 this;rcases List.mem_cons.1 hy with rfl|hy'<;>rcases List.mem_cons.1 hz with rfl|hz'
  ·exact .inl rfl
  ·exact .inr (.inl (h1 z hz'))
  ·exact .inr (.inr (h1 y hy'))
  ·exact ih hy' hz' h2
theorem jY(p:Int):¬dL [] p:=by simp[dL]
theorem tL{y:Rn}{r:List Rn}{p:Int}:dL (y::r) p↔(y.At<=p/\p<y.At+y.N)\/dL r p:=by simp[dL]
theorem jZ{l r:List Rn}{p:Int}:dL (l++r) p↔dL l p\/dL r p:=by simp[dL,or_and_right,exists_or]
theorem rP.Yk{l:List Rn}(h:rP l){at_ k:Int}(hk:1<=k)(hm:∀p,at_<=p->p<at_+k->dL l p):∃y∈l,y.At<=at_/\at_+k<=y.At+y.N:=by
 obtain⟨y,hy,h1,h2⟩:=hm at_ (by omega) (by omega);refine⟨y,hy,h1,?_⟩;refine Int.not_lt.1 λhlt=>?_;obtain⟨z,hz,h3,h4⟩:=hm (y.At+y.N) (by omega) (by omega);rcases h.two hy hz with rfl|h5|h5
 ·omega
 ·omega
 ·have:=h.nW z hz;omega
theorem abJ{n:Nat}{l:List Rn}(hl:l.length<=100)(hn:110<=n):∃xs,mQ n l=some xs/\xs.map Prod.snd=l:=by
 unfold mQ;have key:∀(m x:Nat),x<=l.length->l.length-x<m->∃xs,fK (λFT (jl:Int)=>cn (decide (jl<(l.length:Int))) (gu (bQ jl l.length)<|lt ((l.getD (Int.toNat jl) default):aB) λrL=>yl (jl,rL)<|FT (wr .i64 (jl+1))) (some [])) m (x:Int)=some xs/\xs.map Prod.snd=l.drop x:=by
  intro m
  induction m with
  |zero=>intro x _ h;omega
  |succ m ih=>
   intro x hx hm;simp only[fK];by_cases hc:x<l.length
   ·rw[ak (by simpa using hc),ax (bK (by omega) (by omega)),aJ,aL (by omega) (by omega)]
    obtain⟨xs,h1,h2⟩:=ih (x+1) (by omega) (by omega);have e:((x:Int)+1)=((x+1:Nat):Int):=by omega
    rw[e,h1];refine⟨_,rfl,?_⟩;rw[List.map_cons,h2,List.drop_eq_getElem_cons hc,aoZ,List.getD,ao3 hc];rfl
   ·rw[ae (by simpa using hc)]
    exact⟨[],rfl,by rw[List.drop_eq_nil_of_le (by omega)];rfl⟩
 obtain⟨xs,h1,h2⟩:=key n 0 (by omega) (by omega);exact⟨xs,h1,by simpa using h2⟩
theorem VD(n:Nat)(r:cG):su n r=some r.l:=rfl
theorem aac{n:Nat}{at_ k:Int}(ha:A0 at_)(hk:A0 k):∃b,sx n ⟨at_,k⟩=some b/\(b=true↔Jt at_ k):=by
 obtain⟨a1,a2⟩:=ha;obtain⟨k1,k2⟩:=hk;refine⟨_,rfl,?_⟩;show((decide (1<=k)&&decide (0<=at_))&&decide (at_<=wr .i64 (64-k)))=true↔_;unfold Jt;by_cases h:1<=k
 ·rw[aL (by omega) (by omega)];simp;omega
 ·simp[h]
theorem HQ{n:Nat}{y:Rn}(h:0<=y.At/\1<=y.N/\y.At+y.N<=64):cy n y=some (y.At+y.N):=by unfold cy;rw[aL (by omega) (by omega)]
def Vd(y x:Rn):Prop:=y.At<=x.At/\x.At+x.N<=y.At+y.N
instance(y x:Rn):Decidable (Vd y x):=by unfold Vd;infer_instance
theorem aaB{n:Nat}{y x:Rn}(hy:0<=y.At/\1<=y.N/\y.At+y.N<=64)(hx:Jt x.At x.N):sy n y x=some (decide (Vd y x)):=by
 unfold sy Jt at *;rw[cK (HQ (by omega)),cK (HQ hy)];congr 1;unfold Vd;by_cases he:u9 x y=true
 ·have:x.At=y.At/\x.N=y.N:=by simpa[u9]using he
  simp[he,this.1,this.2]
 ·by_cases h1:y.At<=x.At
  ·simp[he,h1]
  ·simp[he,h1]
theorem aaq{n:Nat}(hn:110<=n){l:List Rn}(hl:rP l){x:Rn}(hx:Jt x.At x.N):∃v,dD n l x=some v/\((v= -1/\∀y∈l,¬Vd y x)\/∃i,∃h:i<l.length,v=(i:Int)/\Vd l[i] x):=by
 unfold dD;have hlen:=hl.len;refine je (λ(v:Int)=>0<=v/\v<=l.length/\∀y∈l.take v.toNat,¬Vd y x) (λv=>((l.length:Int)-v).toNat) (λo=>∃v,o=some v/\((v= -1/\∀y∈l,¬Vd y x)\/∃i,∃h:i<l.length,v=(i:Int)/\Vd l[i] x)) ?_ n 0 ⟨by omega,by omega,by simp⟩ (by omega);rintro kk v ⟨v0,v1,hv⟩ ih;obtain⟨i,rfl⟩:=Int.eq_ofNat_of_zero_le v0;by_cases hc:i<l.length
 ·have hg:l.getD (Int.toNat (i:Int)) default=l[i]:=by rw[aoZ,List.getD,ao3 hc];rfl
  rw[ak (by simpa using hc),ax (bK (by omega) (by omega)),hg,aL (by omega) (by omega)];rw[ah (show qd n l[i] x=some (decide (Vd l[i] x))by unfold qd;rw[ah (aaB (hl.nW _ (List.getElem_mem hc)) hx)])];by_cases he:Vd l[i] x
  ·rw[ak (by simpa using he)]
   exact⟨_,rfl, .inr ⟨i,hc,rfl,he⟩⟩
  ·rw[ae (by simpa using he)]
   refine ih _ ⟨by omega,by omega,λy hy=>?_⟩ (by omega);have e:((i:Int)+1).toNat=i+1:=by omega
   rw[e,ao4 hc]at hy;rcases List.mem_append.1 hy with h|h
   ·exact hv y (by simpa using h)
   ·rw[List.mem_singleton.1 h];exact he
 ·rw[ae (by simpa using hc)]
  refine⟨-1,rfl, .inl ⟨rfl,λy hy=>hv y ?_⟩⟩;rw[List.take_of_length_le (by omega)];exact hy
theorem adY{y x:Rn}(h:Vd y x)(hx:Jt x.At x.N){l:List Rn}(hy:y∈l):∀p,x.At<=p->p<x.At+x.N->dL l p:=λp h1 h2=>⟨y,hy,by unfold Vd at h;omega,by unfold Vd at h;omega⟩
theorem akd{n:Nat}(k:Int):∃r,JS n k=some r/\rP r.l/\∀p,0<=p->p<64->(dL r.l p↔p<k):=by
 unfold JS;by_cases h1:(if 64<k then 64 else k)<1
 ·rw[ak (by simpa using h1)]
  refine⟨⟨[]⟩,rfl,rP.nil,λp h2 h3=>⟨λh=>absurd h (jY p),λh=>?_⟩⟩;split at h1<;>omega
 ·rw[ae (by simpa using h1)]
  refine⟨⟨[⟨0,if 64<k then 64 else k⟩]⟩,rfl,⟨?_,List.pairwise_singleton _ _⟩,λp h2 h3=>?_⟩
  ·intro y hy
   obtain rfl:=List.mem_singleton.1 hy;show 0<=(0:Int)/\1<=(if 64<k then 64 else k)/\0+(if 64<k then 64 else k)<=64;split at h1<;>split<;>omega
  ·rw[tL]
   show(0<=p/\p<0+(if 64<k then 64 else k))\/dL [] p↔_;constructor
   ·rintro(h|h)
    ·split at h<;>omega
    ·exact absurd h (jY p)
   ·intro h;refine .inl ?_;split<;>omega
def TI(k:Int)(y:Rn):Bool:=decide (1<=k)&&decide (k<=y.N)
def Rh(k:Int)(l:List Rn):Int×Bool:=match l.find? (TI k)with|some y=>(y.At,true)|none=>(0,false)
theorem aej{n:Nat}(hn:110<=n){r:cG}(hr:rP r.l)(k:Int):sw n r k=some (Rh k r.l):=by
 unfold sw;rw[ah (VD n r)];obtain⟨xs,h1,h2⟩:=abJ (n:=n) (l:=r.l) (by have:=hr.len;omega) hn;rw[ah h1, ← h2];clear h1 h2 hr
 induction xs with
 |nil=>rfl
 |cons e xs ih=>
  show cn (TI k e.2) (some (e.2.At,true)) _ =_;unfold Rh;rw[List.map_cons,List.find?_cons];cases hf:TI k e.2 with
  |true=>rfl
  |false=>exact ih
def inL(l:List Rn)(a k:Int):Prop:=Jt a k/\∀p,a<=p->p<a+k->dL l p
theorem aek{l:List Rn}(hl:rP l){k:Int}:(Rh k l=(0,false)/\∀a,¬inL l a k)\/∃v,Rh k l=(v,true)/\0<=v/\inL l v k/\∀a,a<v->¬inL l a k:=by
 unfold Rh;cases hf:l.find? (TI k)with
 |none=>refine .inl ⟨rfl,λa ⟨⟨o1,o2,o3⟩,h⟩=>?_⟩;obtain⟨y,hy,h1,h2⟩:=hl.Yk o1 h;have:=List.find?_eq_none.1 hf y hy;refine this ?_;simp only[TI,aoX,decide_eq_true_eq];omega
 |some y=>
  obtain⟨hp,us,bs,e,hno⟩:=List.find?_eq_some_iff_append.1 hf;have hy:y∈l:=by rw[e];simp
  have hyr:=hl.nW y hy;simp only[TI,aoX,decide_eq_true_eq]at hp;refine .inr ⟨y.At,rfl,by omega,⟨⟨by omega,by omega,by omega⟩,λp h1 h2=>⟨y,hy,h1,by omega⟩⟩,λa ha ⟨⟨o1,o2,o3⟩,h⟩=>?_⟩;obtain⟨z,hz,h1,h2⟩:=hl.Yk o1 h;have hzy:z∈us:=by
   rw[e]at hz;rcases List.mem_append.1 hz with hz|hz
   ·exact hz
   ·rcases List.mem_cons.1 hz with rfl|hz
    ·omega
    ·have hpw:=hl.pw
     rw[e]at hpw;have:=(List.pairwise_cons.1 (List.pairwise_append.1 hpw).2.1).1 z hz;omega
  have:=hno z hzy;simp only[TI,Bool.not_eq_true',Bool.and_eq_false_iff,decide_eq_false_iff_not]at this;omega
theorem Xs{n:Nat}{a b c:List Rn}(ha:a.length<=100)(hb:b.length<=100)(hc:c.length<=100):ia n a b c=some (a++b++c):=by
 unfold ia;have e1:wr .i64 (0+(a.length:Int))=a.length:=by rw[aL (by omega) (by omega)];omega
 have e2:wr .i64 ((a.length:Int)+b.length)=(a.length:Int)+b.length:=aL (by omega) (by omega);have e3:wr .i64 ((a.length:Int)+b.length+c.length)=(a.length:Int)+b.length+c.length:=aL (by omega) (by omega);rw[e1,e2,e3,ae (by simp),ae (by simp;omega),ae (by simp;omega)];have hg:fF n ((a.length:Int)+b.length+c.length)=some ():=by
  unfold fF;simp only[aJ];rw[ae (by simp;omega),aL (by omega) (by omega)];by_cases h0:0<(a.length:Int)+b.length+c.length
  ·rw[ak (by simp;omega),ax]
   simp only[O9,decide_eq_true_eq];omega
  ·rw[ae (by simp;omega)]
 rw[ah hg,ax (eM (by simp;omega) (by simp;omega)),aJ,ax (eM (by simp;omega) (by simp;omega)),aJ,ax (eM (by simp;omega) (by simp;omega)),aJ];rfl
theorem rP.cut{l:List Rn}(h:rP l){i:Nat}(hi:i<l.length){left:List Rn}{at_ k:Int}(hk:1<=k)(hin:l[i].At<=at_/\at_+k<=l[i].At+l[i].N)
  (hl:rP left)(hm:∀p,dL left p↔(l[i].At<=p/\p<l[i].At+l[i].N)/\¬(at_<=p/\p<at_+k))(hb:∀y∈left,l[i].At<=y.At/\y.At+y.N<=l[i].At+l[i].N):
  rP (l.take i++left++l.drop (i+1))/\∀p,dL (l.take i++left++l.drop (i+1)) p↔dL l p/\¬(at_<=p/\p<at_+k):=by
 have e:l=l.take i++l[i]::l.drop (i+1):=by rw[← List.drop_eq_getElem_cons hi,List.take_append_drop]
 generalize hy:l[i]=y at *;have hpw:=h.pw;rw[e]at hpw;obtain⟨q1,q2,q3⟩:=List.pairwise_append.1 hpw;obtain⟨q4,q5⟩:=List.pairwise_cons.1 q2;have hyl:y∈l:=by rw[e];simp
 have hyr:=h.nW y hyl;refine⟨⟨?_,?_⟩,λp=>?_⟩
 ·intro z hz
  rcases List.mem_append.1 hz with hz|hz
  ·rcases List.mem_append.1 hz with hz|hz
   ·exact h.nW z (List.mem_of_mem_take hz)
   ·exact hl.nW z hz
  ·exact h.nW z (List.mem_of_mem_drop hz)
 ·refine List.pairwise_append.2 ⟨List.pairwise_append.2 ⟨q1,hl.pw,λa ha b hb'=>?_⟩,q5,λa ha b hb'=>?_⟩
  ·have:=q3 a ha y (by simp);have:=hb b hb';omega
  ·rcases List.mem_append.1 ha with ha|ha
   ·exact q3 a ha b (by simp[hb'])
   ·have:=q4 b hb';have:=hb a ha;omega
 ·have hp:dL l p↔dL (l.take i) p\/(y.At<=p/\p<y.At+y.N)\/dL (l.drop (i+1)) p:=by
   conv=>lhs;rw[e,jZ,tL]
  rw[jZ,jZ,hm p,hp];have t1:dL (l.take i) p->p<y.At:=λ⟨z,hz,h1,h2⟩=>by have:=q3 z hz y (by simp);omega
  have t2:dL (l.drop (i+1)) p->y.At+y.N<p:=λ⟨z,hz,h1,h2⟩=>by have:=q4 z hz;omega
  constructor
  ·rintro((c|⟨c1,c2⟩)|c)
   ·have:=t1 c;exact⟨.inl c,by omega⟩
   ·exact⟨.inr (.inl c1),c2⟩
   ·have:=t2 c;exact⟨.inr (.inr c),by omega⟩
  ·rintro⟨c|c|c,d⟩
   ·exact .inl (.inl c)
   ·exact .inl (.inr ⟨c,d⟩)
   ·exact .inr c
theorem acM{n:Nat}(hn:110<=n){r:cG}(hr:rP r.l){at_ k:Int}(ha:A0 at_)(hk:A0 k):
  ∃r' g,nI n r at_ k=some (r',g)/\(g=true↔inL r.l at_ k)/\(g=false->r'=r)/\(g=true->rP r'.l/\∀p,dL r'.l p↔dL r.l p/\¬(at_<=p/\p<at_+k)):=by
 unfold nI;rw[aJ];obtain⟨b,hb,hb'⟩:=aac (n:=n) ha hk;rw[ah hb];cases b with
 |false=>refine⟨r,false,rfl,⟨λh=>(by cases h),λh=>hb'.2 h.1⟩,λ_ =>rfl,λh=>(by cases h)⟩
 |true=>
  have ho:=hb'.1 rfl;obtain⟨o1,o2,o3⟩:=ho;obtain⟨v,h1,h2⟩:=aaq hn hr (x:=⟨at_,k⟩) ⟨o1,o2,o3⟩;rw[ae (b:= !true) rfl,ah h1];rcases h2 with⟨rfl,h2⟩|⟨i,hi,rfl,h2⟩
  ·refine⟨r,false,rfl,⟨λh=>(by cases h),λh=>?_⟩,λ_ =>rfl,λh=>(by cases h)⟩
   obtain⟨y,hy,h3,h4⟩:=hr.Yk o1 h.2;exact absurd ⟨h3,h4⟩ (h2 y hy)
  ·have hlen:=hr.len
   have hyr:=hr.nW _ (List.getElem_mem hi);have hg:r.l.getD (Int.toNat (i:Int)) default=r.l[i]:=by rw[aoZ,List.getD,ao3 hi];rfl
   have hin:r.l[i].At<=at_/\at_+k<=r.l[i].At+r.l[i].N:=h2;have e1:wr .i64 ((i:Int)+1)=((i+1:Nat):Int):=by rw[aL (by omega) (by omega)];omega
   rw[ae (by simp),ax (bK (by omega) (by omega)),aJ,hg];have fin:∀left:List Rn,left.length<=2->rP left->(∀p,dL left p↔(r.l[i].At<=p/\p<r.l[i].At+r.l[i].N)/\¬(at_<=p/\p<at_+k))->(∀y∈left,r.l[i].At<=y.At/\y.At+y.N<=r.l[i].At+r.l[i].N)->
     ∃r' g,(gu (bQ (i:Int) (r.l.length+1))<|gu (bQ (wr .i64 ((i:Int)+1)) (r.l.length+1))<|bd (ia n (r.l.take (Int.toNat (i:Int))) left (r.l.drop (Int.toNat (wr .i64 ((i:Int)+1))))) λxS=>lt ({l:=xS}:cG) λMs=>some (Ms,true))=some (r',g)/\
      (g=true↔inL r.l at_ k)/\(g=false->r'=r)/\(g=true->rP r'.l/\∀p,dL r'.l p↔dL r.l p/\¬(at_<=p/\p<at_+k)):=λleft c1 c2 c3 c4=>by
    rw[e1,ax (bK (by omega) (by omega)),ax (bK (by omega) (by omega)),aoZ,aoZ,ah (Xs (by rw[List.length_take];omega) (by omega) (by rw[List.length_drop];omega))];exact⟨_,true,rfl,⟨λ_ =>⟨⟨o1,o2,o3⟩,adY (x:=⟨at_,k⟩) h2 ⟨o1,o2,o3⟩ (List.getElem_mem hi)⟩,λ_ =>rfl⟩,λh=>(by cases h),λ_ =>hr.cut hi o1 hin c2 c3 c4⟩
   generalize hy:r.l[i]=y at *;dsimp only[lt];have ex:cy n (⟨at_,k⟩:Rn)=some (at_+k):=HQ (y:=⟨at_,k⟩) ⟨o2,o1,o3⟩;have ey:cy n y=some (y.At+y.N):=HQ hyr;by_cases c1:y.At<at_
   ·rw[ak (by simpa using c1),aL (x:=at_-y.At) (by omega) (by omega),ax (eM (by simp) (by simp)),ah ex,ah ey]
    by_cases c2:at_+k<y.At+y.N
    ·rw[ak (by simpa using c2),ah ex,ah ey,ah ex,aL (x:=y.At+y.N-(at_+k)) (by omega) (by omega),ax (eM (by simp) (by simp))]
     refine fin [⟨y.At,at_-y.At⟩,⟨at_+k,y.At+y.N-(at_+k)⟩] (by simp) ⟨?_,?_⟩ (λp=>?_) ?_
     ·intro z hz
      simp only[List.nil_append,List.cons_append,List.mem_cons,List.not_mem_nil,or_false]at hz;rcases hz with rfl|rfl<;>dsimp only<;>omega
     ·refine List.pairwise_cons.2 ⟨λz hz=>?_,List.pairwise_singleton _ _⟩
      obtain rfl:=List.mem_singleton.1 hz;dsimp only;omega
     ·simp only[List.nil_append,List.cons_append,tL,jY,or_false];omega
     ·intro z hz
      simp only[List.nil_append,List.cons_append,List.mem_cons,List.not_mem_nil,or_false]at hz;rcases hz with rfl|rfl<;>dsimp only<;>omega
    ·rw[ae (by simpa using c2)]
     refine fin [⟨y.At,at_-y.At⟩] (by simp) ⟨?_,List.pairwise_singleton _ _⟩ (λp=>?_) ?_
     ·intro z hz
      obtain rfl:=List.mem_singleton.1 hz;dsimp only;omega
     ·simp only[List.nil_append,tL,jY,or_false];omega
     ·intro z hz
      obtain rfl:=List.mem_singleton.1 hz;dsimp only;omega
   ·rw[ae (by simpa using c1),ah ex,ah ey]
    by_cases c2:at_+k<y.At+y.N
    ·rw[ak (by simpa using c2),ah ex,ah ey,ah ex,aL (x:=y.At+y.N-(at_+k)) (by omega) (by omega),ax (eM (by simp) (by simp))]
     refine fin [⟨at_+k,y.At+y.N-(at_+k)⟩] (by simp) ⟨?_,List.pairwise_singleton _ _⟩ (λp=>?_) ?_
     ·intro z hz
      obtain rfl:=List.mem_singleton.1 hz;dsimp only;omega
     ·simp only[List.nil_append,tL,jY,or_false];omega
     ·intro z hz
      obtain rfl:=List.mem_singleton.1 hz;dsimp only;omega
    ·rw[ae (by simpa using c2)]
     refine fin _ (by simp) rP.nil (λp=>?_) (by simp);simp only[jY,false_iff];omega
end Go.Proofs.Z
namespace Go.Proofs.Z
open Go Go.Bw
structure GI(l:List Rn)(at_ k:Int)(pre rest:List Rn)(put:Bool)(out:List Rn)(x:Rn):Prop where
 e:l=pre++rest
 qx:∀p,dL pre p->¬(at_<=p/\p<at_+k)
 lo:x.At<=at_/\(x.At=at_\/∃z∈pre,z.At+z.N=at_)
 hi:at_+k<=x.At+x.N/\(x.At+x.N=at_+k\/∃z∈pre,z.At+z.N=x.At+x.N)
 nW:0<=x.At/\1<=x.N/\x.At+x.N<=64
 off:put=false->rP (out++[x])/\(∀z∈out,z∈pre)/\∀p,dL (out++[x]) p↔dL pre p\/(at_<=p/\p<at_+k)
 on:put=true->rP out/\(∀z∈out,z∈pre\/z=x)/\(∃z∈pre,x.At+x.N<z.At)/\∀p,dL out p↔dL pre p\/(at_<=p/\p<at_+k)
theorem uS{l:List Rn}{y:Rn}(h:rP l)(hy:0<=y.At/\1<=y.N/\y.At+y.N<=64)(ha:∀z∈l,z.At+z.N<y.At):rP (l++[y]):=
 ⟨λz hz=>by
  rcases List.mem_append.1 hz with hz|hz
  ·exact h.nW z hz
  ·rw[List.mem_singleton.1 hz];exact hy,
  List.pairwise_append.2 ⟨h.pw,List.pairwise_singleton _ _,λa ha' b hb=>by rw[List.mem_singleton.1 hb];exact ha a ha'⟩⟩
theorem rP.init{l:List Rn}{y:Rn}(h:rP (l++[y])):rP l:=⟨λz hz=>h.nW z (by simp[hz]),(List.pairwise_append.1 h.pw).1⟩
theorem rP.ag6{l:List Rn}{y:Rn}(h:rP (l++[y])):∀z∈l,z.At+z.N<y.At:=λz hz=>(List.pairwise_append.1 h.pw).2.2 z hz y (by simp)
theorem mX{y:Rn}{p:Int}:dL [y] p↔y.At<=p/\p<y.At+y.N:=by rw[tL];simp[dL]
def alo(r':cG)(g:Bool)(l:List Rn)(r:cG)(at_ k:Int):Prop:=(g=true↔∀p,at_<=p->p<at_+k->¬dL l p)/\(g=false->r'=r)/\(g=true->rP r'.l/\∀p,dL r'.l p↔dL l p\/(at_<=p/\p<at_+k))
theorem ad9{n:Nat}{r:cG}{l:List Rn}(hl:rP l){at_ k:Int}(ho:Jt at_ k):∀(xs:List (Int×Rn)) (pre:List Rn) (put:Bool) (out:List Rn) (x:Rn),GI l at_ k pre (xs.map Prod.snd) put out x->
  ∃r' g,aan (λ(e56:Int×aB) k42 (kX:Bool) (qn:(List aB)) (gy:aB)=>lt (e56.1:Int) λDT=>lt (e56.2:aB) λAI=>bd (cy n AI) λXI=>cn (decide (XI<gy.At)) (gu (gw qn.length 1 16)<|lt (qn++([AI]):List aB) λuo=>k42 kX uo gy) (bd (cy n gy) λSb=>cn (decide (Sb<AI.At)) (lt (λ(Um:Bool) (x64:(List aB))=>gu (gw x64.length 1 16)<|lt (x64++([AI]):List aB) λJh=>k42 Um Jh gy) λj67=>cn ((!kX)) (gu (gw qn.length 1 16)<|lt (qn++([gy]):List aB) λAH=>j67 true AH) (j67 kX qn)) (bd (cy n AI) λMs=>cn ((Ms==gy.At)) (lt ({At:=AI.At,N:=wr .i64 (AI.N+gy.N)}:aB) λNY=>k42 kX qn NY) (bd (cy n gy) λPO=>cn ((AI.At==PO)) (lt ({gy with N:=wr .i64 (gy.N+AI.N)}:aB) λKh=>k42 kX qn Kh) (some (r,false)))))) (λ(kX:Bool) (qn:(List aB)) (gy:aB)=>cn ((!kX)) (gu (gw qn.length 1 16)<|lt (qn++([gy]):List aB) λKg=>lt ({l:=Kg}:cG) λx87=>some (x87,true)) (lt ({l:=qn}:cG) λMZ=>some (MZ,true))) xs put out x=some (r',g)/\alo r' g l r at_ k:=by
 intro xs
 induction xs with
 |nil=>
  intro pre put out x h;have e:l=pre:=by have:=h.e;simpa using this
  subst e;show∃r' g,cn (!put) (gu (gw out.length 1 16)<|some ((⟨out++[x]⟩:cG),true)) (some ((⟨out⟩:cG),true))=some (r',g)/\_;have hfree:∀p,at_<=p->p<at_+k->¬dL l p:=λp h1 h2 hm=>h.qx p hm ⟨h1,h2⟩;cases put with
  |false=>obtain⟨c1,c2,c3⟩:=h.off rfl;have:=c1.init.len;rw[ak (b:= !false) rfl,ax (eM (by omega) (by omega))];exact⟨_,true,rfl,⟨λ_ =>hfree,λ_ =>rfl⟩,λh=>(by cases h),λ_ =>⟨c1,c3⟩⟩
  |true=>obtain⟨c1,c2,c3,c4⟩:=h.on rfl;rw[ae (b:= !true) rfl];exact⟨_,true,rfl,⟨λ_ =>hfree,λ_ =>rfl⟩,λh=>(by cases h),λ_ =>⟨c1,c4⟩⟩
 |cons q xs ih=>
  obtain⟨qi,y⟩:=q;intro pre put out x h;have he:l=(pre++[y])++xs.map Prod.snd:=by rw[h.e];simp
  have hyl:y∈l:=by rw[h.e];simp
  have hyr:=hl.nW y hyl;have hpre:∀z∈pre,z.At+z.N<y.At:=λz hz=>by have hpw:=hl.pw;rw[he]at hpw;exact(List.pairwise_append.1 (List.pairwise_append.1 hpw).1).2.2 z hz y (by simp)
  have hzr:∀z∈pre,0<=z.At/\1<=z.N/\z.At+z.N<=64:=λz hz=>hl.nW z (by rw[h.e];simp[hz]);obtain⟨o1,o2,o3⟩:=ho;obtain⟨lo1,lo2⟩:=h.lo;obtain⟨hi1,XR⟩:=h.hi;have hxr:=h.nW;have ey:cy n y=some (y.At+y.N):=HQ hyr;have ex:cy n x=some (x.At+x.N):=HQ hxr;have hfree:(∀p,y.At<=p->p<y.At+y.N->¬(at_<=p/\p<at_+k))->∀p,dL (pre++[y]) p->¬(at_<=p/\p<at_+k):=λhy p hp=>by
   rcases jZ.1 hp with hp|hp
   ·exact h.qx p hp
   ·obtain⟨h1,h2⟩:=mX.1 hp;exact hy p h1 h2
  have Lc:∀{z},z∈pre->z∈pre++[y]:=λhz=>by simp[hz]
  have hlo:x.At=at_\/∃z∈pre++[y],z.At+z.N=at_:=lo2.imp id λ⟨z,hz,e⟩=>⟨z,Lc hz,e⟩;have hhi:x.At+x.N=at_+k\/∃z∈pre++[y],z.At+z.N=x.At+x.N:=XR.imp id λ⟨z,hz,e⟩=>⟨z,Lc hz,e⟩;have hmy:∀p,dL (pre++[y]) p↔dL pre p\/(y.At<=p/\p<y.At+y.N):=λp=>by rw[jZ,mX]
  have hput:put=true->x.At+x.N<y.At:=λhp=>by obtain⟨z,hz,h1⟩:=(h.on hp).2.2.1;have:=hpre z hz;have:=hzr z hz;omega
  simp only[aan];dsimp only[lt];rw[ah ey];by_cases c1:y.At+y.N<x.At
  ·have hf:put=false:=by
    cases put with
    |false=>rfl
    |true=>have:=hput rfl;omega
   subst hf;obtain⟨d1,d2,d3⟩:=h.off rfl;have hlen:=d1.init.len;rw[ak (by simpa using c1),ax (eM (by omega) (by omega))];refine ih (pre++[y]) false (out++[y]) x ⟨he,hfree λp h1 h2=>by omega,⟨lo1,hlo⟩,⟨hi1,hhi⟩,hxr,λ_ =>⟨?_,?_,λp=>?_⟩,λh=>by cases h⟩
   ·refine uS (uS d1.init hyr λz hz=>hpre z (d2 z hz)) hxr λz hz=>?_
    rcases List.mem_append.1 hz with hz|hz
    ·exact d1.ag6 z hz
    ·rw[List.mem_singleton.1 hz];exact c1
   ·intro z hz
    rcases List.mem_append.1 hz with hz|hz
    ·exact Lc (d2 z hz)
    ·rw[List.mem_singleton.1 hz];simp
   ·have:=d3 p
    rw[jZ,mX]at this ⊢;rw[jZ,mX,hmy];constructor
    ·rintro((c|c)|c)
     ·rcases this.1 (.inl c)with c|c
      ·exact .inl (.inl c)
      ·exact .inr c
     ·exact .inl (.inr c)
     ·rcases this.1 (.inr c)with c|c
      ·exact .inl (.inl c)
      ·exact .inr c
    ·rintro((c|c)|c)
     ·rcases this.2 (.inl c)with c|c
      ·exact .inl (.inl c)
      ·exact .inr c
     ·exact .inl (.inr c)
     ·rcases this.2 (.inr c)with c|c
      ·exact .inl (.inl c)
      ·exact .inr c
  rw[ae (by simpa using c1),ah ex];by_cases c2:x.At+x.N<y.At
  ·rw[ak (by simpa using c2)]
   have hfr:=hfree λp h1 h2=>by omega
   cases put with
   |false=>
    obtain⟨d1,d2,d3⟩:=h.off rfl;have hlen:=d1.init.len;have aaF:=d1.len;rw[ak (b:= !false) rfl,ax (eM (by omega) (by omega)),ax (eM (by omega) (by omega))];refine ih (pre++[y]) true (out++[x]++[y]) x ⟨he,hfr,⟨lo1,hlo⟩,⟨hi1,hhi⟩,hxr,λh=>(by cases h),λ_ =>⟨?_,?_,⟨y,by simp,c2⟩,λp=>?_⟩⟩
    ·refine uS d1 hyr λz hz=>?_
     rcases List.mem_append.1 hz with hz|hz
     ·exact hpre z (d2 z hz)
     ·rw[List.mem_singleton.1 hz];exact c2
    ·intro z hz
     simp only[List.mem_append,List.mem_singleton]at hz;rcases hz with(hz|hz)|hz
     ·exact .inl (Lc (d2 z hz))
     ·exact .inr hz
     ·exact .inl (by simp[hz])
    ·rw[jZ,mX,d3 p,hmy]
     constructor
     ·rintro((c|c)|c)
      ·exact .inl (.inl c)
      ·exact .inr c
      ·exact .inl (.inr c)
     ·rintro((c|c)|c)
      ·exact .inl (.inl c)
      ·exact .inr c
      ·exact .inl (.inr c)
   |true=>
    obtain⟨d1,d2,d3,d4⟩:=h.on rfl;have hlen:=d1.len;rw[ae (b:= !true) rfl,ax (eM (by omega) (by omega))];refine ih (pre++[y]) true (out++[y]) x ⟨he,hfr,⟨lo1,hlo⟩,⟨hi1,hhi⟩,hxr,λh=>(by cases h),λ_ =>⟨?_,?_,⟨y,by simp,c2⟩,λp=>?_⟩⟩
    ·refine uS d1 hyr λz hz=>?_
     rcases d2 z hz with hz|rfl
     ·exact hpre z hz
     ·exact c2
    ·intro z hz
     rcases List.mem_append.1 hz with hz|hz
     ·exact(d2 z hz).imp Lc id
     ·exact .inl (by simp[List.mem_singleton.1 hz])
    ·rw[jZ,mX,d4 p,hmy]
     constructor
     ·rintro((c|c)|c)
      ·exact .inl (.inl c)
      ·exact .inr c
      ·exact .inl (.inr c)
     ·rintro((c|c)|c)
      ·exact .inl (.inl c)
      ·exact .inr c
      ·exact .inl (.inr c)
  have hf:put=false:=by
   cases put with
   |false=>rfl
   |true=>have:=hput rfl;omega
  subst hf;obtain⟨d1,d2,d3⟩:=h.off rfl;rw[ae (by simpa using c2),ah ey];by_cases c3:y.At+y.N=x.At
  ·rw[ak (by simpa using c3),aL (by omega) (by omega)]
   have hat:x.At=at_:=by
    rcases lo2 with e|⟨z,hz,e⟩
    ·exact e
    ·have:=hpre z hz;omega
   refine ih (pre++[y]) false out ⟨y.At,y.N+x.N⟩ ⟨he,hfree λp h1 h2=>by omega,⟨by dsimp only;omega, .inr ⟨y,by simp,by omega⟩⟩,⟨by dsimp only;omega,?_⟩,by dsimp only;omega,λ_ =>⟨?_,λz hz=>Lc (d2 z hz),λp=>?_⟩,λh=>by cases h⟩
   ·rcases hhi with e|⟨z,hz,e⟩
    ·exact .inl (by dsimp only;omega)
    ·exact .inr ⟨z,hz,by dsimp only;omega⟩
   ·exact uS d1.init (by dsimp only;omega) λz hz=>hpre z (d2 z hz)
   ·have:=d3 p
    rw[jZ,mX]at this ⊢;rw[hmy];dsimp only;constructor
    ·rintro(c|c)
     ·rcases this.1 (.inl c)with c|c
      ·exact .inl (.inl c)
      ·exact .inr c
     ·by_cases hp:p<x.At
      ·exact .inl (.inr (by omega))
      ·rcases this.1 (.inr (by omega))with c|c
       ·exact .inl (.inl c)
       ·exact .inr c
    ·rintro((c|c)|c)
     ·rcases this.2 (.inl c)with c|c
      ·exact .inl c
      ·exact .inr (by omega)
     ·exact .inr (by omega)
     ·exact .inr (by omega)
  rw[ae (by simpa using c3),ah ex];by_cases c4:y.At=x.At+x.N
  ·rw[ak (by simpa using c4),aL (by omega) (by omega)]
   refine ih (pre++[y]) false out ⟨x.At,x.N+y.N⟩ ⟨he,hfree λp h1 h2=>by omega,⟨lo1,hlo⟩,⟨by dsimp only;omega, .inr ⟨y,by simp,by dsimp only;omega⟩⟩,by dsimp only;omega,λ_ =>⟨?_,λz hz=>Lc (d2 z hz),λp=>?_⟩,λh=>by cases h⟩
   ·exact uS d1.init (by dsimp only;omega) λz hz=>d1.ag6 z hz
   ·have:=d3 p
    rw[jZ,mX]at this ⊢;rw[hmy];dsimp only;constructor
    ·rintro(c|c)
     ·rcases this.1 (.inl c)with c|c
      ·exact .inl (.inl c)
      ·exact .inr c
     ·by_cases hp:p<x.At+x.N
      ·rcases this.1 (.inr (by omega))with c|c
       ·exact .inl (.inl c)
       ·exact .inr c
      ·exact .inl (.inr (by omega))
    ·rintro((c|c)|c)
     ·rcases this.2 (.inl c)with c|c
      ·exact .inl c
      ·exact .inr (by omega)
     ·exact .inr (by omega)
     ·exact .inr (by omega)
  rw[ae (by simpa using c4)];refine⟨r,false,rfl,⟨λh=>(by cases h),λhno=>?_⟩,λ_ =>rfl,λh=>(by cases h)⟩;have g1:y.At<at_+k:=by
   rcases XR with e|⟨z,hz,e⟩
   ·omega
   ·have:=hpre z hz;omega
  have g2:at_<y.At+y.N:=by
   rcases lo2 with e|⟨z,hz,e⟩
   ·omega
   ·have:=hpre z hz;omega
  by_cases g3:at_<=y.At
  ·exact absurd ⟨y,hyl,by omega,by omega⟩ (hno y.At g3 g1)
  ·exact absurd ⟨y,hyl,by omega,by omega⟩ (hno at_ (by omega) (by omega))
theorem Vm{n:Nat}(hn:110<=n){r:cG}(hr:rP r.l){at_ k:Int}(ha:A0 at_)(hk:A0 k):
  ∃r' g,pC n r at_ k=some (r',g)/\(g=true↔Jt at_ k/\∀p,at_<=p->p<at_+k->¬dL r.l p)/\(g=false->r'=r)/\(g=true->rP r'.l/\∀p,dL r'.l p↔dL r.l p\/(at_<=p/\p<at_+k)):=by
 unfold pC;rw[aJ];obtain⟨b,hb,hb'⟩:=aac (n:=n) ha hk;rw[ah hb];cases b with
 |false=>exact⟨r,false,rfl,⟨λh=>(by cases h),λh=>hb'.2 h.1⟩,λ_ =>rfl,λh=>(by cases h)⟩
 |true=>
  have ho:=hb'.1 rfl;obtain⟨o1,o2,o3⟩:=ho;rw[ae (b:= !true) rfl,ah (VD n r)];obtain⟨xs,h1,h2⟩:=abJ (n:=n) (l:=r.l) (by have:=hr.len;omega) hn;rw[ah h1];obtain⟨r',g,h3,h4,h5,h6⟩:=ad9 (n:=n) (r:=r) hr (at_:=at_) (k:=k) ⟨o1,o2,o3⟩ xs [] false [] ⟨at_,k⟩ ⟨by simpa using h2.symm,λp hp=>absurd hp (jY p),⟨Int.le_refl _, .inl rfl⟩,⟨Int.le_refl _, .inl rfl⟩,⟨o2,o1,o3⟩,
   λ_ =>⟨uS rP.nil ⟨o2,o1,o3⟩ (by simp),by simp,λp=>by rw[List.nil_append,mX];simp[jY]⟩,λh=>by cases h⟩
  exact⟨r',g,h3,⟨λhg=>⟨⟨o1,o2,o3⟩,h4.1 hg⟩,λhg=>h4.2 hg.2⟩,h5,h6⟩
end Go.Proofs.Z
namespace Go.Proofs.Z
open Go Go.Bw
def ov(y:Rn)(i:Int):Int:=if i<=y.At then 0 else if y.At+y.N<=i then y.N else i-y.At
def AT(l:List Rn)(i:Int):Int:=(l.map λy=>ov y i).sum
theorem zG(y:Rn)(l:List Rn)(i:Int):AT (y::l) i=ov y i+AT l i:=rfl
theorem w7:∀{l:List Rn},rP l->AT l 0=0
 |[],_ =>rfl
 |y::r,h=>by have hy:=h.nW y (by simp);rw[zG,w7 ⟨λz hz=>h.nW z (by simp[hz]),(List.pairwise_cons.1 h.pw).2⟩];unfold ov;rw[aoU hy.1];rfl
theorem w8:∀{l:List Rn},rP l->∀i:Int,(dL l i->AT l (i+1)=AT l i+1)/\(¬dL l i->AT l (i+1)=AT l i)
 |[],_,i=>⟨λh=>absurd h (jY i),λ_ =>rfl⟩
 |y::r,h,i=>by
  obtain⟨h1,h2⟩:=List.pairwise_cons.1 h.pw;have hy:=h.nW y (by simp);obtain⟨i1,i2⟩:=w8 (l:=r) ⟨λz hz=>h.nW z (by simp[hz]),h2⟩ i;rw[zG,zG,tL];by_cases c:y.At<=i/\i<y.At+y.N
  ·have hn:¬dL r i:=λ⟨z,hz,a,b⟩=>by have:=h1 z hz;omega
   rw[i2 hn];refine⟨λ_ =>?_,λhh=>absurd (.inl c) hh⟩;unfold ov;rw[aoV (by omega)];split<;>split<;>omega
  ·have e:ov y (i+1)=ov y i:=by
    unfold ov
    (repeat' split)<;>omega
   rw[e];refine⟨λhh=>?_,λhh=>?_⟩
   ·rw[i1 (hh.resolve_left c)];omega
   ·rw[i2 λhm=>hh (.inr hm)]
def dV(l:List Rn):Int:=(l.map λy=>y.N).sum
theorem iZ(y:Rn)(l:List Rn):dV (y::l)=y.N+dV l:=rfl
theorem yW:∀{l:List Rn},rP l->AT l 64=dV l
 |[],_ =>rfl
 |y::r,h=>by have hy:=h.nW y (by simp);rw[zG,iZ,yW ⟨λz hz=>h.nW z (by simp[hz]),(List.pairwise_cons.1 h.pw).2⟩];unfold ov;rw[aoV (by omega),aoU hy.2.2]
theorem Qj:∀{l:List Rn} {lo:Int},rP l->(∀y∈l,lo<=y.At)->lo<=65->0<=dV l/\dV l<=65-lo
 |[],lo,_,_,h=>by simp[dV];omega
 |y::r,lo,h,hl,_ =>by obtain⟨h1,h2⟩:=List.pairwise_cons.1 h.pw;have hy:=h.nW y (by simp);have hy':=hl y (by simp);have:=Qj (l:=r) (lo:=y.At+y.N+1) ⟨λz hz=>h.nW z (by simp[hz]),h2⟩ (λz hz=>by have:=h1 z hz;omega) (by omega);rw[iZ];omega
theorem Rr{n:Nat}:∀(xs:List (Int×Rn)) (s:Int),0<=s->s<=1000000-dV (xs.map Prod.snd)->(∀e∈xs,1<=e.2.N)->
  sH (λ(e35:Int×aB) k29 (gj:Int)=>lt (e35.1:Int) λs9=>lt (e35.2:aB) λew=>lt (wr .i64 (gj+ew.N):Int) λnt=>k29 nt) (λ(gj:Int)=>some gj) xs s=some (s+dV (xs.map Prod.snd))
 |[],s,_,_,_ =>by show some s=_;simp[dV]
 |e::xs,s,h0,h1,h2=>by
  have:=h2 e (by simp);have hs:0<=dV (xs.map Prod.snd):=by
   clear h1 h0;have h3:∀e∈xs,1<=e.2.N:=λe he=>h2 e (by simp[he]);clear h2 this
   induction xs with
   |nil=>simp[dV]
   |cons a xs ih=>have:=h3 a (by simp);have:=ih λe he=>h3 e (by simp[he]);rw[List.map_cons,iZ];omega
  rw[List.map_cons,iZ]at h1 ⊢;show sH _ _ xs (wr .i64 (s+e.2.N))=_;rw[aL (by omega) (by omega),Rr (n:=n) xs (s+e.2.N) (by omega) (by omega) (λe he=>h2 e (by simp[he]))];congr 1;omega
def jM(a:Nat->Int):Rn:=⟨a 0,a 1⟩
end Go.Proofs.Z
namespace Go.Proofs.Z
open Go Go.Bw
theorem Wl{l m x:List Rn}(hl:rP l)(hm:rP m)(hx:rP x)(h1:∀p,dL l p↔dL m p\/dL x p)(h2:∀p,dL m p->¬dL x p):dV l=dV m+dV x:=by
 have key:∀i:Nat,AT l i=AT m i+AT x i:=by
  intro i
  induction i with
  |zero=>rw[Int.natCast_zero,w7 hl,w7 hm,w7 hx];rfl
  |succ i ih=>
   have e:((i+1:Nat):Int)=(i:Int)+1:=by omega
   rw[e];obtain⟨a1,a2⟩:=w8 hl i;obtain⟨b1,b2⟩:=w8 hm i;obtain⟨c1,c2⟩:=w8 hx i;by_cases c:dL m i
   ·rw[a1 ((h1 _).2 (.inl c)),b1 c,c2 (h2 _ c),ih];omega
   ·by_cases d:dL x i
    ·rw[a1 ((h1 _).2 (.inr d)),b2 c,c1 d,ih];omega
    ·rw[a2 (λh=>((h1 _).1 h).elim c d),b2 c,c2 d,ih]
 have:=key 64;rw[show((64:Nat):Int)=64 from rfl,yW hl,yW hm,yW hx]at this;exact this
theorem aeu{a k:Int}(h:Jt a k):rP [(⟨a,k⟩:Rn)]:=uS (l:=[]) rP.nil (by unfold Jt at h;exact⟨h.2.1,h.1,h.2.2⟩) (by simp)
theorem Ht:∀(k:Nat) {t:List Int},t.Nodup->(∀p∈t,0<=p/\p<(k:Int))->t.length<=k
 |0,[],_,_ =>Nat.le_refl _
 |0,x::t,_,h=>by have:=h x (by simp);omega
 |k+1,t,hn,h=>by
  by_cases hk:(k:Int)∈t
  ·have h1:=Ht k (hn.erase (k:Int)) λx hx=>by
    have h2:=h x (List.mem_of_mem_erase hx);have h3:x≠k:=λe=>by subst e;exact(List.Nodup.not_mem_erase hn) hx
    omega
   rw[List.length_erase_of_mem hk]at h1;omega
  ·have h1:=Ht k hn λx hx=>by
    have h2:=h x hx;have h3:x≠k:=λe=>hk (e▸hx);omega
   omega
end Go.Proofs.Z
namespace Go.Proofs.Z
open Go Go.Bw
def vq(s a:Int):Bool:=(decide (1<=s)&&decide (s<=128))&&((((a==1)||(a==2))||(a==4))||(a==8))
theorem wc(n:Nat)(s a:Int):we n s a=some (vq s a):=rfl
theorem Rs{n:Nat}(hn:5<=n)(a:Int):jX n ([1,2,4,8]:List Int) a=some ((((a==1)||(a==2))||(a==4))||(a==8)):=by
 obtain⟨m,rfl⟩:∃m,n=m+5:=⟨n-5,by omega⟩;unfold jX so;have e1:wr .i64 (0+1)=1:=by decide
 have e2:wr .i64 (1+1)=2:=by decide
 have e3:wr .i64 (2+1)=3:=by decide
 have e4:wr .i64 (3+1)=4:=by decide
 simp only[fK,e1,e2,e3,e4];by_cases h1:a=1
 ·subst h1;rfl
 by_cases h2:a=2
 ·subst h2;rfl
 by_cases h3:a=4
 ·subst h3;rfl
 by_cases h4:a=8
 ·subst h4;rfl
 have g1:(a==1)=false:=by simpa using h1
 have g2:(a==2)=false:=by simpa using h2
 have g3:(a==4)=false:=by simpa using h3
 have g4:(a==8)=false:=by simpa using h4
 simp[cn,gu,bQ,bd,g1,g2,g3,g4]
theorem Nl{n:Nat}(hn:5<=n)(s a:Int):oK n s a=some (vq s a):=by unfold oK;rw[cK (Rs hn a)];unfold vq;cases h:(decide (1<=s)&&decide (s<=128))<;>simp
theorem C1{x:Nat}{m:Nat}(hm:m<=3)(hx:x<2^62):C2 .i64 (x:Int) ((2^m-1:Nat):Int)=((x/2^m*2^m:Nat):Int):=by
 unfold C2;have e1:(BitVec.ofInt 64 (x:Int)&&& ~~~BitVec.ofInt 64 ((2^m-1:Nat):Int)).toNat=x/2^m*2^m:=by
  refine Nat.eq_of_testBit_eq λi=>?_;have hb:(BitVec.ofInt 64 (x:Int)).toNat=x:=Gc (k:= .i64) (by show x<2^64;omega);have hc:(BitVec.ofInt 64 ((2^m-1:Nat):Int)).toNat=2^m-1:=Gc (k:= .i64) (by show 2^m-1<2^64;have:2^m<=2^3:=Nat.pow_le_pow_right (by decide) hm;omega);rw[BitVec.toNat_and,Nat.testBit_and,hb,Nat.testBit_mul_two_pow,Nat.testBit_div_two_pow,BitVec.testBit_toNat,BitVec.getLsbD_not, ← BitVec.testBit_toNat,hc,Nat.testBit_two_pow_sub_one];by_cases h1:m<=i
  ·have h2:¬i<m:=by omega
   rw[show i-m+m=i by omega];by_cases h3:i<64
   ·simp[h1,h2,h3]
   ·have:x.testBit i=false:=Nat.testBit_lt_two_pow (Nat.lt_of_lt_of_le hx (Nat.pow_le_pow_right (by decide) (by omega)))
    simp[h1,h2,this]
  ·have h2:i<m:=by omega
   simp[h1,h2]
 show IntKind.i64.wrap ((BitVec.ofInt 64 (x:Int)&&& ~~~BitVec.ofInt 64 ((2^m-1:Nat):Int)).toNat:Int)=_;rw[e1];have:x/2^m*2^m<=x:=Nat.div_mul_le_self _ _;exact aL (by omega) (by omega)
theorem Ut{l:List (Nat->Int)}{i:Nat}(h:i<l.length):jM (l.getD i default)=(l.map jM)[i]'(by rw[List.length_map];exact h):=by rw[List.getD,ao3 h,List.getElem_map];rfl
def VL:Int->List Rn->List (Int×Rn)
 |_,[]=>[]
 |b,y::r=>(b,y)::VL (b+32*y.N) r
def BN(l:List Rn):Prop:=∀y∈l,1<=y.N
theorem se:∀{l:List Rn},BN l->0<=dV l
 |[],_ =>by simp[dV]
 |y::r,h=>by have:=h y (by simp);have:=se (l:=r) λz hz=>h z (by simp[hz]);rw[iZ];omega
theorem NG{n:Nat}{e:aT}(hn:e.aU.length<n)(hl:e.aU.length<=1000)(hp:BN e.aU)(hs:dV e.aU<=1000):iV n e=some (VL 0 e.aU):=by
 unfold iV;have key:∀(m i:Nat) (b:Int),i<=e.aU.length->e.aU.length-i<m->0<=b->b+32*dV (e.aU.drop i)<=100000->cH (λk39 (dZ:Int) (eJ:Int)=>cn (decide (eJ<(e.aU.length:Int))) (gu (bQ eJ e.aU.length)<|lt ((e.aU.getD (Int.toNat eJ) default):aB) λgy=>yl (dZ,gy)<|k39 (wr .i64 (dZ+(wr .i64 (gy.N*32)))) (wr .i64 (eJ+1))) (some [])) m b (i:Int)=some (VL b (e.aU.drop i)):=by
  intro m
  induction m with
  |zero=>intro i b _ h;omega
  |succ m ih=>
   intro i b hi hm hb hsum;simp only[cH];by_cases c:i<e.aU.length
   ·have hg:e.aU.getD (Int.toNat (i:Int)) default=e.aU[i]:=by rw[aoZ,List.getD,ao3 c];rfl
    have hy:=hp _ (List.getElem_mem c);have hd:e.aU.drop i=e.aU[i]::e.aU.drop (i+1):=List.drop_eq_getElem_cons c;rw[hd,iZ]at hsum;have hr:0<=dV (e.aU.drop (i+1)):=se λz hz=>hp z (List.mem_of_mem_drop hz);rw[ak (by simpa using c),ax (bK (by omega) (by omega)),aJ,hg,hd];rw[aL (x:=e.aU[i].N*32) (by omega) (by omega),aL (x:=b+e.aU[i].N*32) (by omega) (by omega),aL (x:=(i:Int)+1) (by omega) (by omega)];have e1:((i:Int)+1)=((i+1:Nat):Int):=by omega
    rw[e1,ih (i+1) (b+e.aU[i].N*32) (by omega) (by omega) (by omega) (by omega)];show some ((b,e.aU[i])::VL (b+e.aU[i].N*32) (e.aU.drop (i+1)))=some ((b,e.aU[i])::VL (b+32*e.aU[i].N) (e.aU.drop (i+1)));rw[Int.mul_comm]
   ·rw[ae (by simpa using c),List.drop_eq_nil_of_le (by omega)];rfl
 have:=key n 0 0 (by omega) (by omega) (by omega) (by rw[List.drop_zero];omega);simpa using this
theorem J6:∀(l:List Rn) (b:Int),(VL b l).map Prod.snd=l
 |[],_ =>rfl
 |y::r,b=>by rw[VL,List.map_cons,J6 r]
theorem Qz{n:Nat}{e:aT}(hn:e.aU.length<n)(hl:e.aU.length<=1000)(hp:BN e.aU)(hs:dV e.aU<=1000):eW n e=some (dV e.aU):=by unfold eW;rw[ah (show j8 n e=some e from rfl),ah (NG hn hl hp hs)];have h0:=se hp;refine(Rr (n:=n) (VL 0 e.aU) 0 (by omega) (by rw[J6];omega) λq hq=>hp q.2 (by rw[← J6 e.aU 0];exact List.mem_map_of_mem hq)).trans ?_;rw[J6];congr 1;omega
theorem Z0{n:Nat}(hn:5<=n)(s a:Int):wk n s a=some (if vq s a then((s+31)/32,true)else(0,false)):=by
 unfold wk;rw[ah (Nl hn s a)];cases h:vq s a with
 |false=>rfl
 |true=>
  have hs:1<=s/\s<=128:=by
   have h1:(decide (1<=s)&&decide (s<=128))=true:=by unfold vq at h;rw[aoX]at h;exact h.1
   simpa using h1
  rw[ae (b:= !true) rfl,aL (x:=s+32) (by omega) (by omega),aL (x:=s+32-1) (by omega) (by omega),Qg (by omega),aL (by omega) (by omega),aoU rfl];congr 3;omega
theorem Qr{n:Nat}(hn:20<=n)(s a:Int):yb n s a=some (if vq s a then(s+31)/32 else 0):=by
 unfold yb;cases h:vq s a with
 |false=>obtain⟨m,rfl⟩:∃m,n=m+1:=⟨n-1,by omega⟩;simp only[fK];rw[ah (wc _ s a),h];rfl
 |true=>
  have hs:1<=s/\s<=128:=by
   have h1:(decide (1<=s)&&decide (s<=128))=true:=by unfold vq at h;rw[aoX]at h;exact h.1
   simpa using h1
  rw[aoU rfl];refine je (λ(x:Int)=>0<=x/\x<=(s+31)/32) (λx=>((s+31)/32-x).toNat) (λo=>o=some ((s+31)/32)) ?_ n 0 ⟨by omega,by omega⟩ (by omega);rintro kk x ⟨x0,x1⟩ ih;rw[ah (wc _ s a),h,aL (x:=32*x) (by omega) (by omega)];by_cases c:32*x<s
  ·rw[ak (by simpa using c),aL (by omega) (by omega)]
   exact ih _ ⟨by omega,by omega⟩ (by omega)
  ·rw[ae (by simpa using c)]
   congr 1;omega
end Go.Proofs.Z
namespace Go.Proofs.Z
open Go Go.Bw
structure CL(l:List Rn):Prop where
 nW:∀y∈l,Jt y.At y.N
 pw:l.Pairwise λy z=>∀p,y.At<=p->p<y.At+y.N->¬(z.At<=p/\p<z.At+z.N)
theorem CL.nil:CL []:=⟨by simp, .nil⟩
theorem ze{l:List Rn}{y:Rn}:CL (l++[y])↔CL l/\Jt y.At y.N/\∀p,y.At<=p->p<y.At+y.N->¬dL l p:=by
 constructor
 ·rintro⟨h1,h2⟩
  obtain⟨p1,p2,p3⟩:=List.pairwise_append.1 h2;exact⟨⟨λz hz=>h1 z (by simp[hz]),p1⟩,h1 y (by simp),λp q1 q2 ⟨z,hz,q3,q4⟩=>p3 z hz y (by simp) p q3 q4 ⟨q1,q2⟩⟩
 ·rintro⟨⟨h1,h2⟩,h3,h4⟩
  refine⟨λz hz=>?_,List.pairwise_append.2 ⟨h2,List.pairwise_singleton _ _,λa ha b hb p q1 q2 q3=>?_⟩⟩
  ·rcases List.mem_append.1 hz with hz|hz
   ·exact h1 z hz
   ·rw[List.mem_singleton.1 hz];exact h3
  ·rw[List.mem_singleton.1 hb]at q3
   exact h4 p q3.1 q3.2 ⟨a,ha,q1,q2⟩
theorem CL.UU{l:List Rn}(h:CL l):BN l:=λy hy=>(h.nW y hy).1
theorem w9:∀(l m:List Rn),dV (l++m)=dV l+dV m
 |[],m=>by simp[dV]
 |y::r,m=>by rw[List.cons_append,iZ,iZ,w9 r m];omega
theorem Qi{l:List Rn}(h:rP l):∀i:Nat,AT l i<=i
 |0=>by rw[Int.natCast_zero,w7 h];exact Int.le_refl _
 |i+1=>by
  have:=Qi h i;obtain⟨a,b⟩:=w8 h i;have e:((i+1:Nat):Int)=(i:Int)+1:=by omega
  rw[e];by_cases c:dL l i
  ·rw[a c];omega
  ·rw[b c];omega
theorem QL{n:Nat}(hn:110<=n){e:aT}(hl:e.aU.length<=80)(hr:∀y∈e.aU,A0 y.At/\A0 y.N):∃b,kM n e=some b/\(b=true↔CL e.aU/\dV e.aU<=64/\0<=e.jW/\e.jW<=32*dV e.aU):=by
 unfold kM;refine dU (λ(i:Int) (r:cG)=>0<=i/\i<=e.aU.length/\rP r.l/\CL (e.aU.take i.toNat)/\(∀p,dL r.l p↔dL (e.aU.take i.toNat) p)/\dV r.l=dV (e.aU.take i.toNat)) (λi _ =>((e.aU.length:Int)-i).toNat)
  (λo=>∃b,o=some b/\(b=true↔CL e.aU/\dV e.aU<=64/\0<=e.jW/\e.jW<=32*dV e.aU)) ?_ n 0 n9 ⟨by omega,by omega,rP.nil,CL.nil,λp=>Iff.rfl,rfl⟩ (by omega)
 rintro kk i r ⟨i0,i1,hc,hg,hm,hs⟩ ih;obtain⟨i,rfl⟩:=Int.eq_ofNat_of_zero_le i0;rw[aoZ]at hg hm hs;by_cases c:i<e.aU.length
 ·have hgd:e.aU.getD (Int.toNat (i:Int)) default=e.aU[i]:=by rw[aoZ,List.getD,ao3 c];rfl
  have hy:=hr _ (List.getElem_mem c);have ht:e.aU.take (i+1)=e.aU.take i++[e.aU[i]]:=ao4 c;rw[ak (by simpa using c),ax (bK (by omega) (by omega)),aJ,hgd];obtain⟨r',g,g1,g2,g3,g4⟩:=Vm (n:=n) hn hc (at_:=e.aU[i].At) (k:=e.aU[i].N) hy.1 hy.2;rw[ah g1];have ak8:g=true↔CL (e.aU.take (i+1)):=by rw[g2,ht,ze];exact⟨λ⟨a,b⟩=>⟨hg,a,λp q1 q2 q3=>b p q1 q2 ((hm p).2 q3)⟩,λ⟨_,a,b⟩=>⟨a,λp q1 q2 q3=>b p q1 q2 ((hm p).1 q3)⟩⟩
  cases g with
  |false=>refine⟨false,rfl,λh=>(by cases h),λ⟨h,_⟩=>?_⟩;rw[← List.take_append_drop (i+1) e.aU]at h;exact ak8.2 ⟨λy hy=>h.nW y (ao1 _ hy),(List.pairwise_append.1 h.pw).1⟩
  |true=>
   obtain⟨c1,c2⟩:=g4 rfl;have ho:=(g2.1 rfl).1;rw[ae (b:= !true) rfl,aL (by omega) (by omega)];have e1:((i:Int)+1).toNat=i+1:=by omega
   refine ih _ _ ⟨by omega,by omega,c1,by rw[e1];exact ak8.1 rfl,λp=>?_,?_⟩ (by omega)
   ·rw[e1,ht,jZ,mX,c2 p,hm p]
   ·rw[e1,ht,w9, ← hs]
    rw[Wl c1 hc (aeu ho) (λp=>by rw[c2 p,mX]) (λp hp hq=>(g2.1 rfl).2 p (mX.1 hq).1 (mX.1 hq).2 hp)]
 ·rw[ae (by simpa using c)]
  obtain rfl:i=e.aU.length:=by omega
  rw[List.take_length]at hg hm hs;have Q5:=Qj (lo:=0) hc (λy hy=>(hc.nW y hy).1) (by omega);have h64:dV r.l<=64:=by rw[← yW hc];exact Qi hc 64
  rw[cK (Qz (n:=n) (by omega) (by omega) hg.UU (by rw[← hs];omega))];refine⟨_,rfl,?_⟩;by_cases c0:0<=e.jW
  ·have e1:(bif decide (0<=e.jW)==true then dV e.aU else default)=dV e.aU:=by simp[c0]
   rw[e1,aL (by omega) (by omega)];simp only[c0,decide_true,Bool.true_and,decide_eq_true_eq,true_and, ← hs];exact⟨λh=>⟨hg,h64,by omega⟩,λh=>by omega⟩
  ·simp[c0]
end Go.Proofs.Z
namespace Go.Proofs.Z
open Go Go.Bw
def Cm(y:Rn):List Int:=(List.range (32*y.N).toNat).map λ(k:Nat)=>32*y.At+(k:Int)
def ny(l:List Rn):List Int:=l.flatMap Cm
theorem xB(y:Rn):(Cm y).length=(32*y.N).toNat:=by simp[Cm]
theorem Cn(y:Rn)(l:List Rn):ny (y::l)=Cm y++ny l:=by simp[ny]
theorem TY(l m:List Rn):ny (l++m)=ny l++ny m:=by simp[ny]
theorem TX(y:Rn):ny [y]=Cm y:=by simp[ny]
theorem tT:∀{l:List Rn},BN l->((ny l).length:Int)=32*dV l
 |[],_ =>by simp[ny,dV]
 |y::r,h=>by have h1:=h y (by simp);have h2:=tT (l:=r) λz hz=>h z (by simp[hz]);rw[Cn,List.length_append,xB,iZ];omega
theorem M4{l:List Rn}(h:BN l)(i:Nat):dV (l.take i)<=dV l/\0<=dV (l.take i):=by
 have h1:dV (l.take i)+dV (l.drop i)=dV l:=by rw[← w9,List.take_append_drop]
 have h2:0<=dV (l.drop i):=se λz hz=>h z (List.mem_of_mem_drop hz);have h3:0<=dV (l.take i):=se λz hz=>h z (List.mem_of_mem_take hz);omega
theorem KS(k:Nat)(f:Nat->Int):(List.range (k+1)).map f=(List.range k).map f++[f k]:=by rw[List.range_succ,List.map_append];rfl
structure Gx(l:List Rn):Prop where
 gd:CL l
 sum:dV l<=64
theorem aah:∀{l:List Rn},BN l->(l.length:Int)<=dV l
 |[],_ =>by simp[dV]
 |y::r,h=>by have h1:=h y (by simp);have h2:=aah (l:=r) λz hz=>h z (by simp[hz]);rw[iZ,List.length_cons];omega
theorem Gx.len{l:List Rn}(h:Gx l):l.length<=64:=by have:=aah h.gd.UU;have:=h.sum;omega
theorem Gx.pos{l:List Rn}(h:Gx l):0<=dV l:=se h.gd.UU
theorem YH{l:List (Nat->Int)}{i:Nat}:(l.getD i default) 0=(jM (l.getD i default)).At:=rfl
theorem ae9{l:List (Nat->Int)}{i:Nat}:(l.getD i default) 1=(jM (l.getD i default)).N:=rfl
theorem Aj{n:Nat}(hn:2100<=n){x:bP}(hx:Gx (x.aU.map jM)):eH n x=some (ny (x.aU.map jM)):=by
 unfold eH;have hlen:x.aU.length<=64:=by have:=hx.len;simpa using this
 refine dU (λ(o:List Int) (i:Int)=>0<=i/\i<=x.aU.length/\o=ny ((x.aU.map jM).take i.toNat)) (λ_ i=>((x.aU.length:Int)-i).toNat) (λo=>o=some (ny (x.aU.map jM))) ?_ n [] 0 ⟨by omega,by omega,rfl⟩ (by omega);rintro kk o i ⟨i0,i1,rfl⟩ ih;obtain⟨i,rfl⟩:=Int.eq_ofNat_of_zero_le i0;rw[aoZ];by_cases c:i<x.aU.length
 ·have g1:bQ (i:Int) x.aU.length=true:=bK (by omega) (by omega)
  have hi:i<(x.aU.map jM).length:=by rw[List.length_map];exact c
  have hy:=hx.gd.nW _ (List.getElem_mem hi);have hg:=Ut c;have ht:(x.aU.map jM).take (i+1)=(x.aU.map jM).take i++[(x.aU.map jM)[i]]:=ao4 hi;have hs:=M4 hx.gd.UU (i+1);have hsum:=hx.sum;have hb:=tT (l:=(x.aU.map jM).take i) (λz hz=>hx.gd.UU z (List.mem_of_mem_take hz));rw[ht,w9]at hs;generalize(x.aU.map jM)[i]=y at *;have h1:dV [y]=y.N:=by simp[dV]
  obtain⟨y1,y2,y3⟩:=hy;have hs0:=(M4 hx.gd.UU i).2;rw[ak (by simpa using c)];simp only[YH,ae9,hg,ax g1];rw[aL (x:=32*y.N) (by omega) (by omega)];refine dU (λ(o:List Int) (k:Int)=>0<=k/\k<=32*y.N/\o=ny ((x.aU.map jM).take i)++(List.range k.toNat).map λ(j:Nat)=>32*y.At+(j:Int)) (λ_ k=>(32*y.N-k).toNat) (λo=>o=some (ny (x.aU.map jM))) ?_ n _ 0 ⟨by omega,by omega,by simp⟩ (by omega);rintro k2 o2 k ⟨k0,k1,rfl⟩ Ve;obtain⟨k,rfl⟩:=Int.eq_ofNat_of_zero_le k0;rw[aoZ];by_cases d:(k:Int)<32*y.N
  ·rw[ak (by simpa using d),ax (eM (by simp only[List.length_append,List.length_map,List.length_range];omega) (by simp only[List.length_append,List.length_map,List.length_range];omega)),aJ]
   rw[aL (x:=32*y.At) (by omega) (by omega),aL (x:=32*y.At+k) (by omega) (by omega),aL (by omega) (by omega)];refine Ve _ _ ⟨by omega,by omega,?_⟩ (by omega);have e1:((k:Int)+1).toNat=k+1:=by omega
   rw[e1,KS,List.append_assoc]
  ·rw[ae (by simpa using d),aL (by omega) (by omega)]
   refine ih _ _ ⟨by omega,by omega,?_⟩ (by omega);have e1:((i:Int)+1).toNat=i+1:=by omega
   have e2:(32*y.N).toNat=k:=by omega
   rw[e1,ht,TY,TX,Cm,e2]
 ·rw[ae (by simpa using c),List.take_of_length_le (by rw[List.length_map];omega)]
theorem CS{l:List Rn}{y:Rn}{p:Int}:dL (l++[y]) p↔dL l p\/(y.At<=p/\p<y.At+y.N):=by rw[jZ,mX]
theorem wz{n:Nat}(hn:110<=n){x:bP}(hl:x.aU.length<=80)(hr:∀y∈x.aU.map jM,A0 y.At/\A0 y.N):∃b,dP n x=some b/\(b=true↔CL (x.aU.map jM)/\0<=x.jW/\x.jW<=32*dV (x.aU.map jM)):=by
 unfold dP;refine rE (λ(s i:Int) (t:Nat->Bool)=>0<=i/\i<=x.aU.length/\CL ((x.aU.map jM).take i.toNat)/\s=dV ((x.aU.map jM).take i.toNat)/\∀p:Nat,p<64->(t p=true↔dL ((x.aU.map jM).take i.toNat) p)) (λ_ i _ =>((x.aU.length:Int)-i).toNat)
  (λo=>∃b,o=some b/\(b=true↔CL (x.aU.map jM)/\0<=x.jW/\x.jW<=32*dV (x.aU.map jM))) ?_ n 0 0 _ ⟨by omega,by omega,CL.nil,rfl,λp _ =>⟨λh=>by simp at h,λh=>by simp[dL]at h⟩⟩ (by omega)
 rintro kk s i t ⟨i0,i1,hg,rfl,ht⟩ ih;obtain⟨i,rfl⟩:=Int.eq_ofNat_of_zero_le i0;rw[aoZ]at *;by_cases c:i<x.aU.length
 ·have g1:bQ (i:Int) x.aU.length=true:=bK (by omega) (by omega)
  have hi:i<(x.aU.map jM).length:=by rw[List.length_map];exact c
  have hy:=hr _ (List.getElem_mem hi);have hgt:=Ut c;have IW:(x.aU.map jM).take (i+1)=(x.aU.map jM).take i++[(x.aU.map jM)[i]]:=ao4 hi;have xq:CL (x.aU.map jM)->CL ((x.aU.map jM).take (i+1)):=λh=>by rw[← List.take_append_drop (i+1) (x.aU.map jM)]at h;exact⟨λy hy=>h.nW y (ao1 _ hy),(List.pairwise_append.1 h.pw).1⟩
  have PZ:dV ((x.aU.map jM).take i)<=80*64:=by
   have:∀(l:List Rn),(∀y∈l,Jt y.At y.N)->dV l<=l.length*64:=by
    intro l
    induction l with
    |nil=>intro _;simp[dV]
    |cons y r ih=>intro h;have h1:=h y (by simp);have:=ih λz hz=>h z (by simp[hz]);unfold Jt at h1;rw[iZ,List.length_cons];omega
   have h2:=this _ hg.nW;have h3:((x.aU.map jM).take i).length<=80:=by rw[List.length_take,List.length_map];omega
   omega
  have aoH:0<=dV ((x.aU.map jM).take i):=se hg.UU;rw[IW]at xq;generalize(x.aU.map jM)[i]=y at *;rw[ak (by simpa using c)];simp only[YH,ae9,aoZ,hgt,ax g1];obtain⟨⟨a1,a2⟩,n1,n2⟩:=hy;by_cases hk:Jt y.At y.N
  ·obtain⟨k1,k2,k3⟩:=hk
   rw[aL (x:=y.At+y.N) (by omega) (by omega),ae (by simp;omega)];refine dU (λ(p:Int) (t:Nat->Bool)=>y.At<=p/\p<=y.At+y.N/\(∀q,y.At<=q->q<p->¬dL ((x.aU.map jM).take i) q)/\∀q:Nat,q<64->(t q=true↔dL ((x.aU.map jM).take i) q\/(y.At<=(q:Int)/\(q:Int)<p))) (λp _ =>(y.At+y.N-p).toNat)
    (λo=>∃b,o=some b/\(b=true↔CL (x.aU.map jM)/\0<=x.jW/\x.jW<=32*dV (x.aU.map jM))) ?_ n _ t ⟨by omega,by omega,λq _ _ =>by omega,λq hq=>by rw[ht q hq];exact⟨.inl,λh=>h.elim id λh=>by omega⟩⟩ (by omega)
   rintro k4 p t2 ⟨p0,p1,p2,p3⟩ Ve;obtain⟨p,rfl⟩:=Int.eq_ofNat_of_zero_le (show 0<=p by omega);by_cases d:(p:Int)<y.At+y.N
   ·have e1:bQ (p:Int) 64=true:=bK (by omega) (by omega)
    rw[ak (by simpa using d),ax e1,aoZ];have hp:=p3 p (by omega);by_cases m:dL ((x.aU.map jM).take i) p
    ·rw[ak (hp.2 (.inl m))]
     exact⟨false,rfl,λh=>(by cases h),λ⟨h,_⟩=>absurd m ((ze.1 (xq h)).2.2 p p0 d)⟩
    ·have:t2 p=false:=by
      cases hh:t2 p with
      |false=>rfl
      |true=>
       rcases hp.1 hh with h|h
       ·exact absurd h m
       ·omega
     rw[ae this,ax e1,aJ,aL (by omega) (by omega)];refine Ve _ _ ⟨by omega,by omega,λq q1 q2=>?_,λq hq=>?_⟩ (by omega)
     ·by_cases e:q=p
      ·subst e;exact m
      ·exact p2 q q1 (by omega)
     ·rw[bI]
      by_cases e:q=p
      ·subst e;simp;exact .inr ⟨p0,by omega⟩
      ·rw[aoV e,p3 q hq]
       exact⟨λh=>h.imp id λh=>⟨h.1,by omega⟩,λh=>h.imp id λh=>⟨h.1,by omega⟩⟩
   ·rw[ae (by simpa using d),aL (by omega) (by omega),aL (by omega) (by omega)]
    have e1:((i:Int)+1).toNat=i+1:=by omega
    refine ih _ _ _ ⟨by omega,by omega,?_,?_,λq hq=>?_⟩ (by omega)
    ·rw[e1,IW]
     exact ze.2 ⟨hg,⟨k1,k2,k3⟩,λq q1 q2=>p2 q q1 (by omega)⟩
    ·rw[e1,IW,w9];simp[dV]
    ·rw[e1,IW,CS,p3 q hq]
     exact⟨λh=>h.imp id λh=>⟨h.1,by omega⟩,λh=>h.imp id λh=>⟨h.1,by omega⟩⟩
  ·have hb:(((((decide (y.N<1)||decide (64<y.N))||decide (y.At<0))||decide (63<y.At))||decide (64<(wr .i64 (y.At+y.N)))):Bool)=true:=by
    unfold Jt at hk;by_cases h1:y.N<1
    ·simp[h1]
    by_cases h2:64<y.N
    ·simp[h2]
    by_cases h3:y.At<0
    ·simp[h3]
    by_cases h4:63<y.At
    ·simp[h4]
    rw[aL (x:=y.At+y.N) (by omega) (by omega)];have:64<y.At+y.N:=by omega
    simp[this]
   rw[ak hb];exact⟨false,rfl,λh=>(by cases h),λ⟨h,_⟩=>absurd (ze.1 (xq h)).2.1 hk⟩
 ·rw[ae (by simpa using c)]
  have e:(x.aU.map jM).take i=x.aU.map jM:=List.take_of_length_le (by rw[List.length_map];omega);rw[e]at hg ht ⊢;have h2:dV (x.aU.map jM)<=80*64/\0<=dV (x.aU.map jM):=by
   have:∀(l:List Rn),(∀y∈l,Jt y.At y.N)->dV l<=l.length*64:=by
    intro l
    induction l with
    |nil=>intro _;simp[dV]
    |cons y r ih=>intro h;have h1:=h y (by simp);have:=ih λz hz=>h z (by simp[hz]);unfold Jt at h1;rw[iZ,List.length_cons];omega
   have h2:=this _ hg.nW;rw[List.length_map]at h2;exact⟨by omega,se hg.UU⟩
  rw[aL (by omega) (by omega)];refine⟨_,rfl,?_⟩;rw[aoX,decide_eq_true_iff,decide_eq_true_iff];exact⟨λh=>⟨hg,h⟩,λh=>h.2⟩
def WK(y:Rn):List Int:=(List.range y.N.toNat).map λ(k:Nat)=>y.At+(k:Int)
theorem QK{y:Rn}{p:Int}:p∈WK y↔y.At<=p/\p<y.At+y.N:=by
 unfold WK;rw[List.mem_map];constructor
 ·rintro⟨k,hk,rfl⟩
  rw[List.mem_range]at hk;omega
 ·intro h
  exact⟨(p-y.At).toNat,by rw[List.mem_range];omega,by omega⟩
theorem adB(y:Rn):(WK y).Nodup:=by unfold WK;rw[List.Nodup,List.pairwise_map];exact List.nodup_range.imp λh e=>h (by omega)
theorem YQ{α:Type}{P:List α->Prop}(h0:P [])(h1:∀l y,P l->P (l++[y]))(l:List α):P l:=by
 have key:∀(r:List α),P r.reverse:=by
  intro r
  induction r with
  |nil=>exact h0
  |cons y r ih=>rw[List.reverse_cons];exact h1 _ _ ih
 have:=key l.reverse;rwa[List.reverse_reverse]at this
theorem adi:∀(l:List Rn),CL l->∃t:List Int,t.Nodup/\(∀p,p∈t↔dL l p)/\(t.length:Int)=dV l:=by
 intro l
 induction l using YQ with
 |h0=>intro _;exact⟨[],List.nodup_nil,by simp[dL],by simp[dV]⟩
 |h1 l y ih=>
  intro h;obtain⟨h1,h2,h3⟩:=ze.1 h;obtain⟨t,t1,t2,t3⟩:=ih h1;refine⟨t++WK y,List.nodup_append.2 ⟨t1,adB y,λa ha b hb e=>?_⟩,λp=>?_,?_⟩
  ·subst e
   have:=QK.1 hb;exact h3 _ this.1 this.2 ((t2 _).1 ha)
  ·rw[List.mem_append,t2,QK,CS]
  ·have:=h2.1
   rw[List.length_append,w9];simp only[WK,List.length_map,List.length_range,dV,List.map_cons,List.map_nil,List.sum_cons,List.sum_nil]at *;omega
theorem Vo{l:List Rn}(h:CL l):dV l<=64:=by
 obtain⟨t,t1,t2,t3⟩:=adi l h;have:=Ht 64 t1 λp hp=>by obtain⟨y,hy,h1,h2⟩:=(t2 p).1 hp;obtain⟨a,b,c⟩:=h.nW y hy;exact⟨by omega,by omega⟩
 omega
theorem Vj{l:List Rn}(h:CL l):Gx l:=⟨h,Vo h⟩
end Go.Proofs.Z
