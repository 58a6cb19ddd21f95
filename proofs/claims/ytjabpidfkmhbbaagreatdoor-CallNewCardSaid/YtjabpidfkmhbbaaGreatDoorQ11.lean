/- Part 11 of what a proof leans on; pruned and shortened by a program out of longer texts. -/
import Derived.Test.YtjabpidfkmhbbaaGreatDoorQ10
namespace Go.Rw
open Go Go.Bw Go.RowKit
variable {G:Sg} {P:Program}
theorem B6{α:Type}{k:Nat}{vs:List Value}{pre:World->Prop}{iR R:List av}{p:α->Prop}{fv:α->Value}{fH:α->List av}{w:World}(hc:Bw.Fn P k vs pre iR p fv fH)(hp:aX (aU (iR++R)) w.heap.size (iR++R) w)(hpre:pre w){Q:Ending->World->Prop}
  (h:∀i w',p i->aJ (aU (iR++R)) w w'->aX (aU (iR++R)) w.heap.size (fH i++R) w'->Q (.returned (fv i)) w'):Calls P k vs.toArray w Q:=by
 have hap:=List.pairwise_append.1 hp.apart;have hin:aX (aU iR) w.heap.size iR w:=⟨λr hr=>hp.holds r (abe _ hr),λr hr b hb=>⟨.inl (aN.2 ⟨r,hr,hb⟩),(hp.own r (abe _ hr) b hb).2⟩,hap.1⟩;have hkeep:∀{w':World},aJ (aU iR) w w'->∀r∈R,r.holds w'/\∀b∈r.bK,b<w'.heap.size:=λhsi r hr=>by have hlt:∀b∈r.bK,b<w.heap.size:=λb hb=>(hp.own r (abd _ hr) b hb).2;refine⟨av.gB (hp.holds r (abd _ hr)) hsi.size λb hb=>hsi.block b (hlt b hb) λhm=>?_,λb hb=>Nat.lt_of_lt_of_le (hlt b hb) hsi.size⟩;obtain⟨q,hq,L1⟩:=aN.1 hm;exact hap.2.2 q hq r hr b L1 hb
 have hown:∀b∈aU iR,b∈aU (iR++R)\/w.heap.size<=b:=λb hb=>by obtain⟨q,hq,L1⟩:=aN.1 hb;exact .inl (aN.2 ⟨q,abe _ hq,L1⟩)
 refine(hc.calls w hpre hin).mono λe w' hq=>?_;obtain⟨i,OT,he,hsi,hh⟩:=hq;subst he;have BH:=hkeep hsi;refine h i w' OT ((aJ.refl _ _).trans hsi hown) ⟨λr hm=>?_,λr hm b hb=>?_,List.pairwise_append.2 ⟨hh.apart,hap.2.1,λr h1 s h2 b hb Ib=>?_⟩⟩
 ·rcases List.mem_append.1 hm with h1|h1
  ·exact hh.holds r h1
  ·exact(BH r h1).1
 ·rcases List.mem_append.1 hm with h1|h1
  ·obtain⟨o,l⟩:=hh.own r h1 b hb
   refine⟨?_,l⟩;rcases o with o|o
   ·exact hown b o
   ·exact .inr o
  ·exact⟨(hp.own r (abd _ h1) b hb).1,(BH r h1).2 b hb⟩
 ·obtain⟨o,_⟩:=hh.own r h1 b hb
  rcases o with o|o
  ·obtain⟨q,hq,L1⟩:=aN.1 o
   exact hap.2.2 q hq s h2 b L1 Ib
  ·exact absurd ((hp.own s (abd _ h2) b Ib).2) (by omega)
theorem Jq{k e sz:Nat}{t:Ty}[aR (t.L G)]{f:List (t.T G)->Option (List (t.T G))}(hn:(t.L G).n=sz)(hc:∀v0 a0 r,qu v0 a0.length->f a0=some r->Bw.Fn (α:=Value) P k [v0] (J5 (aU [nN v0 e sz (t.L G) a0]) (λ_ =>True)) [nN v0 e sz (t.L G) a0] (λv=>v=v0/\qu v r.length) (λ_ => .tuple #[]) (λv=>[nN v e sz (t.L G) r])):
  Np P ⟨k,[], .cons (.row e sz t) .nil, .cons (.iy .nil) (.cons (.row e sz t) .nil),[some 0], .nil,[],[[0]]⟩ (RV _ (λx=>f x.1) (λz=>(z,()))) (λ_ _ =>False):=by
 intro ρ J HS HK X w vs x hv hO hrd hp hk hfr;refine⟨λy ⟨z,hz,e1⟩=>?_,λy h=>h.elim⟩;subst e1;obtain⟨v0,r0,rfl,h0,hr⟩:=hv;obtain rfl:r0=[]:=hr;cases hO with
 |cons ho hO2=>
  cases hO2;obtain⟨v1,ws,h1,rfl,h3,h4,h5⟩:=ho;have Wr:=qh h0 h1;subst Wr;have R2:ws=cH (t.L G) x.1:=by exact(aR.iff.1 h4).trans (dZ (t.L G) (x.1:List (t.T G))).symm
  subst R2;refine B6 (iR:=[nN v0 e sz (t.L G) x.1]) (R:=HK++X) (hc v0 x.1 z h3 hz) hp (λ_ _ =>trivial) λi w' ⟨e2,h6⟩ hs yp=>?_;subst e2;refine⟨_,rfl,(aP.set (λ_ =>none) 0 i),J,[],_,[i],λ_ h=>h,?_, .cons ⟨i,_,aP.fJ _ _ _,rfl,h6,aR.iff.2 (dZ _ _),hn⟩ .nil,yp,hs,hk,λa b hab=>?_,λr hr=>by have hr:1<=r:=hr;simp[aP.set];omega⟩
  ·obtain⟨a0,cp,rfl⟩:=h6
   exact⟨_,_,rfl,⟨_,rfl,rfl⟩,_,_,rfl,⟨_,_,_,aP.fJ _ _ _,rfl⟩,rfl⟩
  ·cases a with
   |zero=>cases hab;rw[aP.fJ];exact h1.symm
   |succ a=>simp at hab
theorem Mg{k e sz:Nat}{t:Ty}[aR (t.L G)]{β:Type}{f:Int->Option β}(hn:(t.L G).n=sz)(hc:∀a1 r,f a1=some r->Bw.Fn (α:=Value) P k [.slice none 0 0, .int .i64 a1] (λ_ =>True) [] (λv=>qu v 0) (λv=>v) (λv=>[nN v e sz (t.L G) []])):
  Np (G:=G) P ⟨k,[], .cons .gW (.cons (.v (.int .i64)) .nil), .cons (.row e sz t) .nil,[none], .nil,[],[]⟩ (RV _ (λx=>bd (f x.1) λ_ =>some []) (λz=>(z,()))) (λ_ _ =>False):=by
 intro ρ J HS HK X w vs x hv hO hrd hp hk hfr;refine⟨λy ⟨z,hz,e1⟩=>?_,λy h=>h.elim⟩;subst e1;obtain⟨r,hr,hz⟩:=oE hz;cases hz;obtain⟨u0,r0,rfl,h0,u1,r1,rfl,h1,h2⟩:=hv;cases h0;obtain rfl:r1=[]:=h2;have h1:[u1]=[Value.int .i64 x.1]:=h1;cases h1;cases hO;refine B6 (iR:=[]) (R:=HK++X) (hc x.1 r hr) hp trivial λi w' hi hs yp=>?_;refine⟨_,rfl,(aP.set (λ_ =>none) 0 i),J,[],_,[],λ_ h=>h,?_, .cons ⟨i,_,aP.fJ _ _ _,rfl,hi,aR.iff.2 (dZ _ _),hn⟩ .nil,yp,hs,hk,λa b hab=>?_,λr hr=>by have hr:1<=r:=hr;simp[aP.set];omega⟩
 ·obtain⟨a0,cp,rfl⟩:=hi
  exact⟨_,_,rfl,⟨_,_,_,aP.fJ _ _ _,rfl⟩,rfl⟩
 ·cases a with
  |zero=>cases hab
  |succ a=>simp at hab
def aaK{k e sz:Nat}{t:Ty}{β:Type}(f:Int->Option β)(hf:(BN P k).isSome=true)(ok:Np (G:=G) P ⟨k,[], .cons .gW (.cons (.v (.int .i64)) .nil), .cons (.row e sz t) .nil,[none], .nil,[],[]⟩ (RV _ (λx=>bd (f x.1) λ_ =>some []) (λz=>(z,()))) (λ_ _ =>False)):Ct P G where
 s:=⟨k,[], .cons .gW (.cons (.v (.int .i64)) .nil), .cons (.row e sz t) .nil,[none], .nil,[],[]⟩
 R:=RV _ (λx=>bd (f x.1) λ_ =>some []) (λz=>(z,()))
 Rp:=λ_ _ =>False
 cp:=λx ko _ =>bd (f x.1) λ_ =>ko ([],())
 cg:=λ_ _ _ =>none
 Uu:=λx ko kp z h=>by obtain⟨y,h1,h2⟩:=oE h;exact .inl ⟨([],()),⟨[],by show bd (f x.1) _ =_;rw[h1];rfl,rfl⟩,h2⟩
 Xq:=λg x k z h=>by cases h
 fn:=by
  cases h:BN P k with
  |none=>rw[h]at hf;cases hf
  |some fi=>exact zw h
 ok:=ok
theorem Mh{Z:Type}{s:Fs}{f:HI G s->Option Z}{mu:Z->HL G (aD s.bI)}(h0:∀x:HI G s,(s.bl x).2.1=[])(h1:∀y:HL G (aD s.bI),(cZ (λm=>m) s.bI y 0).2.1=[])(h2:s.nm=[])
  (hc:∀(ρ:aP) (R:List av) (x:HI G s) (z:Z) (vs:List Value),J4 G (Hs R)->f x=some z->rl (Hs R) ρ (s.bl x).1 vs->∃p,UL P s.k vs (Hs R) p/\∀J v,p J v->rl (λw=>Hs R w/\J w) (λ_ =>none) (cZ (λm=>m) s.bI (mu z) 0).1 [v]):Np P s (RV s f mu) (λ_ _ =>False):=by
 intro ρ J HS HK X w vs x hv hO hrd hp hk hfr;refine⟨λy ⟨z,hz,e1⟩=>?_,λy h=>h.elim⟩;subst e1;rw[h0]at hO;cases hO;obtain⟨p,hF,hp1⟩:=hc ρ X x z vs (hk.gl.mono hk.to) hz (hv.mono hk.to);have hX:Hs X w:=λr hr=>⟨hp.holds r (abd _ (abd _ hr)),λb hb=>(hp.own r (abd _ (abd _ hr)) b hb).2⟩;refine B6 (iR:=[]) (R:=HK++X) hF hp hX λi w' hi hs yp=>?_;obtain⟨q,q1,q2,q3⟩:=JY.one (J:=λw=>J w/\Hs X w) ⟨λw' hw=>⟨hk.to w' hw,hw⟩,hk.ex,hk.gl.mono λ_ h=>h.1⟩ (x:= .ext i.2.1 i.2.2) (w:=w') (yp.holds _ List.mem_cons_self) λb hb=>(yp.own _ List.mem_cons_self b hb).2;refine⟨_,rfl,λ_ =>none,_,[q],[],[],λ_ h=>h.1.1,(hp1 _ _ hi).mono λw h=>⟨h.1.2,h.2⟩,?_,?_,hs,q3,λa b hab=>(by rw[h2]at hab;cases hab),λ_ _ =>rfl⟩
 ·rw[h1];exact .nil
 ·have hx:=List.pairwise_cons.1 yp.apart
  have ht:aX _ w.heap.size (HK++X) w':=⟨λr hr=>yp.holds r (abj _ hr),λr hr=>yp.own r (abj _ hr),hx.2⟩;have:=ht.cons (r:=q) q1 (λb hb=>yp.own _ List.mem_cons_self b (by rw[← q2];exact hb)) λs hs b hb=>hx.1 s hs b (by rw[← q2];exact hb);exact this.iu List.perm_middle.symm
theorem uM{ct:Ct P G}{R iR:List av}{ρ:aP}{x:HI G ct.s}{y:HL G (aD ct.s.bI)}{v:Value}{vs:List Value}(hz:ct.R x y)(hgl:J4 G (Hs R))(hv:∀J:World->Prop,(∀w,J w->Hs R w)->rl J ρ (ct.s.bl x).1 vs)(h0:(ct.s.bl x).2.1=[])(h1:(cZ (λm=>m) ct.s.bI y 0).2.1=[])
  (hro:∀J:World->Prop,(∀w,J w->Hs R w)->∀r o,cu (ct.s.ro x) r=some o->∃z∈iR,ro J ρ r o z)(hfr:ρ.fr (ct.s.bl x).2.2)(hout:∀(J:World->Prop) (σ:aP) u us,rl J σ (cZ (λm=>m) ct.s.bI y 0).1 (u::us)->u=v):
  Bw.Fn (α:=Unit) P ct.s.k vs (J5 (aU iR) (Hs R)) iR (λ_ =>True) (λ_ =>v) (λ_ =>iR):=by
 refine⟨λargs w=>?_,λw hpre hp=>?_⟩
 ·obtain⟨fn,k1,k2,k3⟩:=ct.fn
  obtain⟨code,k2⟩:=Option.isSome_iff_exists.1 k2;have k3:fn.name≠ "runtime.NumGoroutine" :=λe=>by rw[e]at k3;simp at k3
  simp[callFunc,k1,k2,k3,Go.mark]
 ·have jK:∀b,b∈(List.range w.heap.size).filter (λb=> !decide (b∈aU iR))↔b<w.heap.size/\b∉aU iR:=λb=>by simp
  generalize(List.range w.heap.size).filter (λb=> !decide (b∈aU iR))=bs at jK;have st:∀w1:World,(av.ext bs λw'=>w.heap.size<=w'.heap.size/\∀b∈bs,w'.heap[b]? =w.heap[b]?).holds w1->w.heap.size<=w1.heap.size/\∀b∈bs,w1.heap[b]? =w.heap[b]? :=λw1 h=>h w1 (Nat.le_refl _) λ_ _ =>rfl;have hx:(av.ext bs λw'=>w.heap.size<=w'.heap.size/\∀b∈bs,w'.heap[b]? =w.heap[b]?).holds w:=λw' h1 h2=>⟨h1,h2⟩;have Yf:(av.ext bs λw'=>w.heap.size<=w'.heap.size/\∀b∈bs,w'.heap[b]? =w.heap[b]?).bK=bs:=rfl;generalize(av.ext bs λw'=>w.heap.size<=w'.heap.size/\∀b∈bs,w'.heap[b]? =w.heap[b]?)=x0 at st hx Yf;have key:∀w',Hs [x0] w'->Hs R w':=λw' h=>by
   have h1:=st w' (h _ List.mem_cons_self).1;have h2:=hpre {w with heap:=w'.heap} ⟨rfl,rfl,rfl,h1.1,λk hk hn=>h1.2 k ((jK k).2 ⟨hk,hn⟩)⟩
   exactλr hr=>⟨av.gB (h2 r hr).1 (Nat.le_refl _) λ_ _ =>rfl,(h2 r hr).2⟩
  have hk:JY G [x0] (Hs [x0]):=⟨λ_ h=>h,λw1 w2 h1 h2 b hb=>by
   have hb:b∈bs:=by simpa[aU,Yf]using hb
   rw[(st w1 (h1 _ List.mem_cons_self).1).2 b hb,(st w2 (h2 _ List.mem_cons_self).1).2 b hb],hgl.mono key⟩
  have hin:∀b∈aU iR,b∈aU ([]++(iR++[x0])):=λb hb=>by simp[aU]at hb ⊢;exact .inl hb
  have yp:aX (aU ([]++(iR++[x0]))) w.heap.size ([]++(iR++[x0])) w:=by
   refine(aX.cons (r:=x0) (⟨hp.holds,λr hr b hb=>⟨.inl (hin b (aN.2 ⟨r,hr,hb⟩)),(hp.own r hr b hb).2⟩,hp.apart⟩:aX (aU ([]++(iR++[x0]))) w.heap.size iR w) hx (λb hb=>?_) λs hs b hb Ib=>?_).iu (List.perm_append_comm (l₁:=[x0]))
   ·exact⟨.inl (aN.2 ⟨x0,by simp,hb⟩),((jK b).1 (Yf▸hb)).1⟩
   ·exact((jK b).1 (Yf▸hb)).2 (aN.2 ⟨s,hs,Ib⟩)
  refine((ct.ok ρ (Hs [x0]) [] iR [x0] w vs x (hv _ key) (by rw[h0];exact .nil) (hro _ key) yp hk hfr).1 y hz).mono λen w' hq=>?_;obtain⟨u,e1,σ,J',Y,JZ,us,mJ,hr,hO,Sc,hsi,hkn,_,_⟩:=hq;rw[h1]at hO;cases hO;have hsub:iR.Sublist ([]++(iR++(Y++[x0]))):=by simp
  refine⟨(),trivial,e1.trans (by rw[hout _ _ _ _ hr]),⟨hsi.os,hsi.tape,hsi.output,hsi.size,λk hk hn=>?_⟩,⟨λr hr=>Sc.holds r (hsub.subset hr),λr hr b hb=>⟨.inl (aN.2 ⟨r,hr,hb⟩),(Sc.own r (hsub.subset hr) b hb).2⟩,Sc.apart.sublist hsub⟩⟩;exact(st w' (Sc.holds x0 (by simp))).2 k ((jK k).2 ⟨hk,hn⟩)
theorem Md{α:Type}[Inhabited α]{A:World->Prop}{v:Value}{L:bP α}[aR L]{xs:List α}(h:Fz A v L xs):yP A v L (cH L xs) xs:=⟨h.sl,aR.iff.2 (dZ L xs),h.ro⟩
theorem Xe{α:Type}[Inhabited α]{A:World->Prop}{v:Value}{L:bP α}[aR L]{ws:List Value}{xs:List α}(h:yP A v L ws xs):Fz A v L xs:=by have e:ws=cH L xs:=(aR.iff.1 h.dJ).trans (dZ L xs).symm;subst e;exact⟨h.sl,h.ro⟩
theorem VL{α:Type}[Inhabited α]{A:World->Prop}{L:bP α}[aR L]{cs:List Value}{xs:List α}(h:(UA L).dJ A cs xs):(PW L).dJ A cs xs:=by obtain⟨v,e,h⟩:=h;exact⟨v,_,e,Md h⟩
theorem ZB{α:Type}[Inhabited α]{A:World->Prop}{L:bP α}[aR L]{cs:List Value}{xs:List α}(h:(PW L).dJ A cs xs):(UA L).dJ A cs xs:=by obtain⟨v,_,e,h⟩:=h;exact⟨v,e,Xe h⟩
theorem SB{k:Nat}{vs:List Value}{K:World->Prop}{v:Value}(h:QO P k vs K v):UL P k vs K λ_ u=>u=v:=⟨h.enter,λw hw hp=>(h.calls w hw hp).mono λe w' hq=>by
 obtain⟨_,_,e1,h2,h3⟩:=hq;exact⟨(v,[],λ_ =>True),rfl,e1,h2,(h3:aX _ _ [] w').cons (r:= .ext [] λ_ =>True) (λ_ _ _ =>trivial) (λb hb=>by cases hb) λs hs=>by cases hs⟩⟩
theorem Fn.pre{α:Type}{k:Nat}{vs:List Value}{K K':World->Prop}{iR:List av}{p:α->Prop}{fv:α->Value}{fH:α->List av}(h:Bw.Fn P k vs K iR p fv fH)(m:∀w,K' w->K w):Bw.Fn P k vs K' iR p fv fH:=⟨h.enter,λw hw hp=>h.calls w (m w hw) hp⟩
theorem Pa{k:Nat}{vs vs':List Value}{K K':World->Prop}{p:(World->Prop)->Value->Prop}(h:UL P k vs K p)(m:∀w,K' w->K w)(e:vs=vs'):UL P k vs' K' p:=by subst e;exact⟨h.enter,λw hw hp=>h.calls w (m w hw) hp⟩
theorem DO{J:World->Prop}{ρ:aP}{b:AV G}{t:Ty}{x:t.T G}{vs:List Value}(h:rl J ρ (.cons (.dat t x) b) vs)(ha:t.ag=true):∃(cs r:List Value),vs= .agg cs.toArray::r/\(t.L G).dJ J cs x/\rl J ρ b r:=by obtain⟨u,r,rfl,⟨u',e,h1,h2,_⟩,h3⟩:=h;cases e;obtain⟨cs,rfl⟩:=h2 ha;exact⟨cs,r,rfl,h1,h3⟩
theorem Gs{J:World->Prop}{ρ:aP}{b:AV G}{k:IntKind}{i:Int}{vs:List Value}(h:rl J ρ (.cons (.int k i) b) vs):∃r:List Value,vs= .int k i::r/\rl J ρ b r:=by obtain⟨u,r,rfl,h1,h3⟩:=h;have h1:[u]=[.int k i]:=h1;cases h1;exact⟨r,rfl,h3⟩
theorem El{J:World->Prop}{ρ:aP}{t:Ty}{x:t.T G}{cs:List Value}(h:(t.L G).dJ J cs x)(ha:t.ag=true):rl J ρ (.dat t x) [.agg cs.toArray]:=⟨_,rfl,h,λ_ =>⟨_,rfl⟩,λq=>by rw[ha]at q;cases q⟩
theorem Vd{J:World->Prop}{ρ:aP}{e:Ty}[aR (e.L G)]{xs:List (e.T G)}{u:Value}(h:Fz J u (e.L G) xs):rl (G:=G) J ρ (.dat (.sl e) xs) [u]:=by obtain⟨a,cp,rfl⟩:=h.sl;exact⟨_,rfl,⟨_,_,rfl,Md h⟩,nofun,λ_ =>rfl⟩
theorem QG{α β γ:Type}{a:Option α}{f:α->Option β}{h:β->Option γ}:bd (bd a f) h=bd a λy=>bd (f y) h:=by cases a<;>rfl
theorem Xu{α β:Type}{c:Bool}{a b:Option α}{h:α->Option β}:bd (cn c a b) h=cn c (bd a h) (bd b h):=by cases c<;>rfl
theorem Xt{α β:Type}{c:Bool}{a:Option α}{h:α->Option β}:bd (gu c a) h=gu c (bd a h):=by cases c<;>rfl
theorem E6{α β:Type}{F:(Int->Option α)->Int->Option α}{F':(Int->Option β)->Int->Option β}{h:α->Option β}(k:∀K i,bd (F K i) h=F' (λi=>bd (K i) h) i):∀(n:Nat) (i:Int),bd (fZ F n i) h=fZ F' n i
 |0,_ =>rfl
 |n+1,i=>by show bd (F (fZ F n) i) h=F' (fZ F' n) i;rw[k,funext λi=>E6 k n i]
end Go.Rw
namespace Go.Proofs.Z
open Go Go.Bw
instance:mV Tryz.prog 4:=⟨by kernel_rfl⟩
instance:mV Tryz.prog 27:=⟨by kernel_rfl⟩
instance:p4 Tryz.prog 29 3:=⟨by kernel_rfl⟩
instance:AN Tryz.prog 29 0 0:=⟨by kernel_rfl⟩
instance:AN Tryz.prog 29 1 1:=⟨by kernel_rfl⟩
instance:TG Tryz.prog 29 [(0,1),(1,1),(2,1)]:=⟨by kernel_rfl⟩
instance:Hq Tryz.prog 29 [(0,some .u32),(1,none),(2,none)]:=⟨by kernel_rfl⟩
instance:fM Tryz.prog 29 ([.int .u32 0, .bool false, .bool false]):=⟨by kernel_rfl⟩
instance:oI Tryz.prog 30 32 29 3:=⟨by kernel_rfl⟩
instance:p4 Tryz.prog 32 96:=⟨by kernel_rfl⟩
instance:AN Tryz.prog 32 0 0:=⟨by kernel_rfl⟩
instance:mV Tryz.prog 35:=⟨by kernel_rfl⟩
instance:fM Tryz.prog 35 ([.int .u32 0]):=⟨by kernel_rfl⟩
instance:mV Tryz.prog 36:=⟨by kernel_rfl⟩
instance:rF Tryz.prog 36 101 2:=⟨by kernel_rfl⟩
instance:F3 Tryz.prog 36 101 2 16:=⟨by kernel_rfl⟩
instance:p4 Tryz.prog 38 2:=⟨by kernel_rfl⟩
instance:TG Tryz.prog 38 [(0,1),(1,1)]:=⟨by kernel_rfl⟩
instance:fM Tryz.prog 38 ([.slice none 0 0, .int .i64 0]):=⟨by kernel_rfl⟩
instance:p4 Tryz.prog 53 5:=⟨by kernel_rfl⟩
instance:TG Tryz.prog 53 [(0,1),(1,1),(2,1),(3,1),(4,1)]:=⟨by kernel_rfl⟩
instance:fM Tryz.prog 53 ([.int .u32 0, .int .u8 0, .int .u8 0, .bool false, .int .u32 0]):=⟨by kernel_rfl⟩
instance:oI Tryz.prog 54 16 53 5:=⟨by kernel_rfl⟩
instance:p4 Tryz.prog 56 176:=⟨by kernel_rfl⟩
instance:p4 Tryz.prog 101 2:=⟨by kernel_rfl⟩
instance:fM Tryz.prog 101 ([.int .i64 0, .int .i64 0]):=⟨by kernel_rfl⟩
instance:rF Tryz.prog 104 35 1:=⟨by kernel_rfl⟩
instance:F3 Tryz.prog 104 35 1 4:=⟨by kernel_rfl⟩
instance:mV Tryz.prog 226:=⟨by kernel_rfl⟩
instance:mV Tryz.prog 274:=⟨by kernel_rfl⟩
theorem Qg:Tryz.prog.follows .mixedOrders=true:=by kernel_rfl
end Go.Proofs.Z
namespace Go.Proofs.Z
open Go Go.Bw
def tb:Tb:=⟨[(7,[(0,0),(1,1),(2,2),(3,3)]),(8,[(0,0),(1,1),(2,2),(3,3)]),(13,[(0,0),(1,1)]),(14,[(0,0),(1,1)]),(18,[(0,0)]),(19,[(0,0)]),(28,[(0,0),(1,1),(2,2)]),(29,[(0,0),(1,1),(2,2)]),(31,[(0,0)]),(32,[(0,0)]),(33,[(0,0)]),(34,[(0,0)]),(37,[(0,0),(1,1)]),(38,[(0,0),(1,1)]),(40,[(0,0),(1,1),(2,2),(3,4)]),(41,[(0,0),(1,1),(2,2),(3,4)]),(43,[(0,0),(1,96)]),(44,[(0,0),(1,96)]),(45,[(0,0),(1,1),(2,2)]),(46,[(0,0),(1,1),(2,2)]),(47,[(0,0),(1,1)]),(48,[(0,0),(1,1)]),(50,[(0,0)]),(51,[(0,0)]),(52,[(0,0),(1,1),(2,2),(3,3),(4,4)]),(53,[(0,0),(1,1),(2,2),(3,3),(4,4)]),(55,[(0,0),(1,96)]),(56,[(0,0),(1,96)]),(57,[(0,0),(1,480),(2,608)]),(58,[(0,0),(1,480),(2,608)]),(60,[(0,0),(1,1),(2,2),(3,3)]),(61,[(0,0),(1,1),(2,2),(3,3)]),(63,[(0,0),(1,16),(2,17),(3,18)]),(64,[(0,0),(1,16),(2,17),(3,18)]),(67,[(0,0),(1,784),(2,936),(3,944)]),(68,[(0,0),(1,784),(2,936),(3,944)]),(71,[(0,0),(1,1),(2,2)]),(72,[(0,0),(1,1),(2,2)]),(74,[(0,0)]),(75,[(0,0)]),(77,[(0,0),(1,952),(2,953),(3,1273)]),(78,[(0,0),(1,952),(2,953),(3,1273)]),(80,[(0,0)]),(81,[(0,0)]),(87,[(0,0),(1,1),(2,2)]),(88,[(0,0),(1,1),(2,2)]),(91,[(0,0),(1,1),(2,2),(3,3),(4,4),(5,5)]),(92,[(0,0),(1,1),(2,2),(3,3),(4,4),(5,5)]),(95,[(0,0),(1,1),(2,2)]),(96,[(0,0),(1,1),(2,2)]),(100,[(0,0),(1,1)]),(101,[(0,0),(1,1)]),(105,[(0,0),(1,1),(2,7),(3,8),(4,9),(5,11)]),(106,[(0,0),(1,1),(2,7),(3,8),(4,9),(5,11)]),(116,[(0,0),(1,1),(2,13),(3,16)]),(117,[(0,0),(1,1),(2,13),(3,16)]),(159,[(0,0),(1,952),(2,953),(3,959),(4,961),(5,962),(6,963)]),(160,[(0,0),(1,952),(2,953),(3,959),(4,961),(5,962),(6,963)]),(196,[(0,0),(1,1),(2,2),(3,3)]),(197,[(0,0),(1,1),(2,2),(3,3)]),(206,[(0,0),(1,1),(2,2),(3,3),(4,4),(5,5),(6,6),(7,7),(8,8),(9,9),(10,10)]),(207,[(0,0),(1,1),(2,2),(3,3),(4,4),(5,5),(6,6),(7,7),(8,8),(9,9),(10,10)])],[(2, .i64),(3, .i64),(5, .u8),(6, .u8),(12, .u64),(21, .i32),(23, .i64),(27, .u32),(35, .u32),(59, .u64),(153, .u64),(201, .u8),(202, .u8),(204, .i32),(205, .i32)]⟩
instance:FO Tryz.prog tb:=⟨by kernel_rfl⟩
end Go.Proofs.Z
