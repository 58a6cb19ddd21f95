/- Part 6 of what a proof leans on; pruned and shortened by a program out of longer texts. -/
import Derived.Test.YtoekikplecopmaaGreatDoorQ5
namespace Go.Proofs.Z
open Go Go.Bw
def Jh(w:ai)(h p:Int):Prop:=dO ((w.R (aZ h)).E.aP.map jB) p
structure Pg(w:ai)(bk fr:List Rn):Prop where
 can:se fr
 f:∀h p,aT w.B h->Jh w h p->¬dO fr p
 d:∀h k p,aT w.B h->aT w.B k->Jh w h p->Jh w k p->h=k
 b:CY bk
 bf:∀p,dO bk p->¬dO fr p
 bd:∀h p,aT w.B h->dO bk p->¬Jh w h p
def Sk(X:Nat->cM)(i j:Nat)(m:bq):Prop:=i<8/\(X i).L[j]? =some m/\m.Region≠0/\m.iz=false
structure Fj(w:ai)(o:bN)(X:Nat->cM):Prop where
 k:∀i j m,Sk X i j m->aT w.B m.Region/\dP w m.Region=0/\(lB w o m.Region).dx=2
 u:∀i j m i' j' m',Sk X i j m->Sk X i' j' m'->m.Region=m'.Region->i=i'/\j=j'
structure r9(c:Nat)(s:bw)(w:aj)(bk fr:List Rn):Prop where
 rt:gY s.aC.T w.aC.T
 tt:j8 w.aC.T
 i6:zF w.aC.T
 op:Dk w.aC.T s.aC.O w.aC.O
 rl:w.aC.O.cS.length<=c
 rk:RT s.aC.K w.aC.K
 tk:TT s.aC.K w.aC.K
 bx:∀i,i<8->Fp (s.fQ i) (w.tw i)
 al:∀i,i<8->s.cH i=w.cH i
 bo:∀i,i<8->s.nE i=w.nE i
 ly:∀h,aT w.aC.T.B h->(w.aC.T.R (aZ h)).E.lu<=(w.fD (aZ h)).length
 b2:∀i,(w.fD i).length<=3000
 fl:Fj w.aC.T s.aC.O w.tw
 pg:Pg w.aC.T bk fr
 bl:w.lz.length=bk.length
section
variable {n:Nat} {t:av} {w:ai} {o:bN}
theorem Je(r:gY t w){h:Int}(hg:aT w.B h):J5 (t.cP (aZ h)) (w.R (aZ h)):=r.ZJ _ (eR hg).1 (eR hg).2
theorem RK(r:gY t w)(i:zF w){h:Int}(hg:aT w.B h):Nh ⟨(w.R (aZ h)).E.aP.map jB,(w.R (aZ h)).E.lu⟩:=by have q:=Je r hg;obtain⟨b,b1,b2⟩:=wJ (n:=110) (by omega) q.n q.r;have:=((i h hg).2 110 (by omega));rw[b1]at this;obtain⟨h1,h2,h3⟩:=b2.1 (Option.some.inj this);exact⟨VO h1,h2,h3⟩
theorem EL(r:gY t w)(tt:j8 w){x:Int}(hx:aT w.B x):di w x=x↔dP w x=0:=by obtain⟨ρ,f⟩:=LJ r tt;unfold di;rw[aps hx.2];exact f.OM ((bX r.bj x).2 hx)
theorem zc(r:gY t w)(tt:j8 w){x h:Int}(hx:dP w x=0)(hm:x∈gp w h)(h0:0<=h):x=h:=by
 obtain⟨ρ,f⟩:=LJ r tt;unfold gp at hm;split at hm
 ·rename_i hg
  have:=(f.zb ((bX r.bj h).2 ⟨h0,hg⟩) x).1 hm;rcases this.2 with e|e
  ·exact e
  ·rw[f.u0 this.1 hx]at e;cases e
 ·cases hm
theorem Y8(r:gY t w)(tt:j8 w){h:Int}(hg:aT w.B h):h∈gp w h:=by obtain⟨ρ,f⟩:=LJ r tt;unfold gp;rw[aps hg.2];exact(f.zb ((bX r.bj h).2 hg) h).2 ⟨(bX r.bj h).2 hg, .inl rfl⟩
theorem agJ(r:gY t w)(tt:j8 w){x h:Int}(hm:x∈gp w h)(h0:0<=h):di w x=di w h:=by
 obtain⟨ρ,f⟩:=LJ r tt;unfold gp at hm;split at hm
 ·rename_i hg
  have hh:=(bX r.bj h).2 ⟨h0,hg⟩;obtain⟨h1,h2⟩:=(f.zb hh x).1 hm;have hx:=(bX r.bj x).1 h1;unfold di;rw[aps hg,aps hx.2];obtain⟨m1,m2,m3⟩:=f.Te hh;refine f.agX h1 ?_ m3;rcases h2 with rfl|h2
  ·exact m2
  ·rcases m2 with e|e
   ·rw[e];exact .inr h2
   ·exact .inr (f.akf h1 h2 e)
 ·cases hm
theorem agK(r:gY t w)(tt:j8 w){h:Int}(h0:0<=h):(gp w h).Nodup:=by
 obtain⟨ρ,f⟩:=LJ r tt;unfold gp;split
 ·rename_i hg;exact f.agC ((bX r.bj h).2 ⟨h0,hg⟩)
 ·exact List.nodup_nil
theorem yu(r:gY t w)(tt:j8 w){x:Int}(hx:aT w.B x)(hu:dP w x=0):lB w o x=if(o.aI (aZ x)).root=x then(o.aI (aZ x)).own else Ll:=by
 have:=(EL r tt hx).2 hu;unfold lB;rw[this];by_cases e:(o.aI (aZ x)).root=x
 ·rw[aps ⟨hx.2,e⟩,aps e]
 ·rw[apt (λh=>e h.2),apt e]
end
def Uq(sl:Nat->bE)(z:az)(g:Int):az:={z with B:=(dz z.B (λi=>(sl i).Region==g) 32).foldl Bz z.B}
theorem abS{n:Nat}(hn:200<=n){k:ay}{z:az}(r:RT k z)(tk:TT k z){g:Int}(hg:0<=g):∃k',l8 n k g=some k'/\mj n z g=some (Uq k.aI z g)/\RT k' (Uq k.aI z g)/\TT k' (Uq k.aI z g)/\k'.aI=k.aI:=by obtain⟨k',e1,e2,e3,e4⟩:=abT hn r hg;exact⟨k',e1,e2,e3,tk.afB _ e4,e4⟩
def MF(w:ai)(l:List Int):List Rn:=l.flatMap λy=>(w.R (aZ y)).E.aP.map jB
def Yk(w:ai)(l:List Int):List (Nat->Int):=l.flatMap λy=>(w.R (aZ y)).E.aP
theorem U4(w:ai)(l:List Int):(Yk w l).length=(MF w l).length:=by
 induction l with
 |nil=>rfl
 |cons y l ih=>unfold Yk MF at ih ⊢;rw[List.flatMap_cons,List.flatMap_cons,List.length_append,List.length_append,ih,List.length_map]
theorem ae1{w:ai}{l:List Int}{k:Nat}(hk:k<l.length):MF w (l.take (k+1))=MF w (l.take k)++(w.R (aZ (l.getD k default))).E.aP.map jB:=by rw[apC hk, ← eS hk];simp[MF]
theorem adu{w:ai}{l:List Int}{k:Nat}(hk:k<l.length):Yk w (l.take (k+1))=Yk w (l.take k)++(w.R (aZ (l.getD k default))).E.aP:=by rw[apC hk, ← eS hk];simp[Yk]
theorem wM{α:Type}(f:α->Int->α)(a:α){l:List Int}{k:Nat}(hk:k<l.length):(l.take (k+1)).foldl f a=f ((l.take k).foldl f a) (l.getD k default):=by rw[apC hk, ← eS hk,List.foldl_append];rfl
theorem abX{w:ai}{l:List Int}(k:Nat):(MF w (l.take k)).length<=(MF w l).length:=by
 have:MF w l=MF w (l.take k)++MF w (l.drop k):=by
  conv=>lhs;rw[← List.take_append_drop k l]
  exact List.flatMap_append
 rw[this,List.length_append];omega
def byL(b:Nat->List Int)(l:List Int):Nat->List Int:=l.foldl (λb y=>dy b (aZ y) []) b
section
variable {n:Nat} {t:av} {w:ai}
theorem alW(hn:200<=n)(r:gY t w)(tt:j8 w)(i:zF w){h:Int}(h0:0<=h)(h1:h<4294967296)(x:aq)(hT:x.ax.aC.T=t){z:az}(rk:RT x.ax.aC.K z)(tk:TT x.ax.aC.K z)(hb:(x.gX++MF w (gp w h)).length<=1000):
  ∃k' t',fC n x h=some {x with ax:={x.ax with aC:={x.ax.aC with K:=k',T:=t'}},gX:=x.gX++MF w (gp w h)}/\gY t' (ez w (gp w h))/\j8 (ez w (gp w h))/\
   RT k' ((gp w h).foldl (Uq x.ax.aC.K.aI) z)/\TT k' ((gp w h).foldl (Uq x.ax.aC.K.aI) z)/\k'.aI=x.ax.aC.K.aI:=by
 subst hT;obtain⟨hu,hul⟩:=yf r tt h;obtain⟨t',f1,_,f3,f4⟩:=af5 (n:=n) hn r tt i h0 h1;unfold fC;rw[ah (S5 (by omega) r tt h0 h1)];generalize hL:gp w h=l at *;refine dY (λ(q:Int) (y:aq)=>∃(m:Nat) (k':ay),q=m/\m<=l.length/\y={x with ax:={x.ax with aC:={x.ax.aC with K:=k'}},gX:=x.gX++MF w (l.take m)}/\RT k' ((l.take m).foldl (Uq x.ax.aC.K.aI) z)/\TT k' ((l.take m).foldl (Uq x.ax.aC.K.aI) z)/\k'.aI=x.ax.aC.K.aI)
  (λq _ =>((l.length:Int)-q).toNat) (λv=>∃k' t',v=some {x with ax:={x.ax with aC:={x.ax.aC with K:=k',T:=t'}},gX:=x.gX++MF w l}/\gY t' (ez w l)/\j8 (ez w l)/\
   RT k' (l.foldl (Uq x.ax.aC.K.aI) z)/\TT k' (l.foldl (Uq x.ax.aC.K.aI) z)/\k'.aI=x.ax.aC.K.aI) ?_ n 0 x ⟨0,x.ax.aC.K,rfl,by omega,by simp[MF],rk,tk,rfl⟩ (by omega)
 rintro kk q y ⟨m,k',rfl,hm,rfl,rk',tk',hs⟩ ih;by_cases c:m<l.length
 ·have hx:=hu _ (fT (l:=l) (i:=m) c)
  have hlt:=fm hx.2;have e1:=(Je r hx).e;have hbk:=ae1 (w:=w) c;have hpre:=abX (w:=w) (l:=l) (m+1);rw[List.length_append]at hb;rw[hbk,List.length_append]at hpre;rw[ak (apw (by omega)),au (bG (by omega) (by omega)),apx];dsimp only;rw[ah (Ar r hx.1 hlt),aps hx.2];have e2:(o5 x.ax.aC.T w (l.getD m default),(0:Int)).1.E.aP=(w.R (aZ (l.getD m default))).E.aP.map jB:=congrArg bg.aP e1;rw[e2,au (fq (by rw[List.length_append];omega) (by rw[List.length_append];omega)),aJ];obtain⟨k2,q1,_,q3,q4,q5⟩:=abS (n:=n) hn rk' tk' (g:=l.getD m default) hx.1;rw[ah q1,aL (by omega) (by omega)];rw[hs]at q3 q4;refine ih _ _ ⟨m+1,k2,by omega,by omega,?_,?_,?_,q5.trans hs⟩ (by omega)
  ·rw[hbk,List.append_assoc]
  ·rw[wM _ _ c];exact q3
  ·rw[wM _ _ c];exact q4
 ·rw[List.take_of_length_le (by omega)]at *
  rw[ae (apD (by omega))];dsimp only;rw[ah f1];exact⟨k',t',rfl,f3,f4,rk',tk',hs⟩
theorem alV(hn:200<=n)(r:gY t w)(tt:j8 w)(i:zF w){h:Int}(h0:0<=h)(h1:h<4294967296)(x:aj)(hT:x.aC.T=w){k:ay}(rk:RT k x.aC.K)(tk:TT k x.aC.K)(hb:(x.lz++Yk w (gp w h)).length<=1000):
  fj n x h=some {x with aC:={x.aC with K:=(gp w h).foldl (Uq k.aI) x.aC.K,T:=ez w (gp w h)},fD:=byL x.fD (gp w h),lz:=x.lz++Yk w (gp w h)}:=by
 subst hT;obtain⟨hu,hul⟩:=yf r tt h;obtain⟨t',_,f2,_,_⟩:=af5 (n:=n) hn r tt i h0 h1;unfold fj;rw[ah (F6 (by omega) r tt h0),List.nil_append,au (fq (by rw[List.length_append]at hb;simp;omega) (by rw[List.length_append]at hb;simp;omega)),aJ];generalize hL:gp x.aC.T h=l at *;refine rR (λ(u:List (Nat->Int)) (q:Int) (y:aj)=>∃(m:Nat) (k':ay),q=m/\m<=l.length/\u=x.lz++Yk x.aC.T (l.take m)/\y={x with aC:={x.aC with K:=(l.take m).foldl (Uq k.aI) x.aC.K},fD:=byL x.fD (l.take m)}/\RT k' ((l.take m).foldl (Uq k.aI) x.aC.K)/\TT k' ((l.take m).foldl (Uq k.aI) x.aC.K)/\k'.aI=k.aI)
  (λ_ q _ =>((l.length:Int)-q).toNat) (λv=>v=some {x with aC:={x.aC with K:=l.foldl (Uq k.aI) x.aC.K,T:=ez x.aC.T l},fD:=byL x.fD l,lz:=x.lz++Yk x.aC.T l}) ?_ n x.lz 0 x ⟨0,k,rfl,by omega,by simp[Yk],rfl,rk,tk,rfl⟩ (by omega)
 rintro kk u q y ⟨m,k',rfl,hm,rfl,rfl,rk',tk',hs⟩ ih;by_cases c:m<l.length
 ·have hx:=hu _ (fT (l:=l) (i:=m) c)
  have hlt:=fm hx.2;have hbk:=adu (w:=x.aC.T) c;have hpre:=abX (w:=x.aC.T) (l:=l) (m+1);rw[← U4, ← U4,hbk,List.length_append]at hpre;rw[List.length_append]at hb;have hin:bM (m:Int) l.length=true:=bG (by omega) (by omega);have Qk:=ia (l.getD m default);rw[ak (apw (by omega)),au hin,apx];dsimp only;rw[ah (dk (by omega) r.bj hx.1),aps hx.2,au Qk];show gu (gO _ ((x.aC.T.R (aZ (l.getD m default))).E.aP).length 16) _ =_;rw[au (fq (by rw[List.length_append];omega) (by rw[List.length_append];omega)),aJ,au Qk,aJ,au hin];obtain⟨k2,_,q2,q3,q4,q5⟩:=abS (n:=n) hn rk' tk' (g:=l.getD m default) hx.1;rw[hs]at q2 q3 q4;dsimp only;rw[ah q2,aJ,aL (by omega) (by omega)];refine ih _ _ _ ⟨m+1,k2,by omega,by omega,?_,?_,?_,?_,q5.trans hs⟩ (by omega)
  ·show _ ++(x.aC.T.R (aZ (l.getD m default))).E.aP=_
   rw[hbk,List.append_assoc]
  ·unfold byL;rw[wM _ _ c,wM _ _ c];rfl
  ·rw[wM _ _ c];exact q3
  ·rw[wM _ _ c];exact q4
 ·rw[List.take_of_length_le (by omega)]at *
  rw[ae (apD (by omega)),aJ];dsimp only;rw[ah f2,aJ]
end
end Go.Proofs.Z
namespace Go.Proofs.Z
open Go Go.Bw
theorem Ks{a b:List Rn}:CY (a++b)↔CY a/\CY b/\∀p,dO a p->¬dO b p:=by
 constructor
 ·intro h
  obtain⟨h1,h2,h3⟩:=List.pairwise_append.1 h.pw;exact⟨⟨λy hy=>h.oh y (apz _ hy),h1⟩,⟨λy hy=>h.oh y (apy _ hy),h2⟩,λp ⟨y,hy,a1,a2⟩ ⟨z,hz,b1⟩=>h3 y hy z hz p a1 a2 b1⟩
 ·rintro⟨h1,h2,h3⟩
  refine⟨λy hy=>?_,List.pairwise_append.2 ⟨h1.pw,h2.pw,λy hy z hz p a1 a2 b1=>h3 p ⟨y,hy,a1,a2⟩ ⟨z,hz,b1⟩⟩⟩;rcases List.mem_append.1 hy with e|e
  ·exact h1.oh y e
  ·exact h2.oh y e
theorem O9{w:ai}{l:List Int}{p:Int}:dO (MF w l) p↔∃y∈l,Jh w y p:=by
 constructor
 ·rintro⟨z,hz,h⟩
  obtain⟨y,hy,h2⟩:=List.mem_flatMap.1 hz;exact⟨y,hy,z,h2,h⟩
 ·rintro⟨y,hy,z,hz,h⟩
  exact⟨z,List.mem_flatMap.2 ⟨y,hy,hz⟩,h⟩
section
variable {n:Nat} {t:av} {w:ai}
theorem af3(r:gY t w)(i:zF w){bk fr:List Rn}(q:Pg w bk fr):∀(l:List Int),(∀y∈l,aT w.B y)->l.Nodup->CY (MF w l)
 |[],_,_ =>⟨λy hy=>(by cases hy),List.Pairwise.nil⟩
 |y::l,hl,hn=>by obtain⟨hn1,hn2⟩:=List.nodup_cons.1 hn;have hy:=hl y List.mem_cons_self;show CY ((w.R (aZ y)).E.aP.map jB++MF w l);refine Ks.2 ⟨(RK r i hy).gx.gd,af3 r i q l (λz hz=>hl z (apE _ hz)) hn2,λp h1 h2=>?_⟩;obtain⟨z,hz,h3⟩:=O9.1 h2;have:=q.d y z p hy (hl z (apE _ hz)) h1 h3;exact hn1 (this▸hz)
theorem XU(l:List Int):∀{t:av} {w:ai},gY t w->j8 w->zF w->(∀x∈l,0<=x/\x<4294967296)->∀y,aT (ez w l).B y->((ez w l).R (aZ y)).E=(w.R (aZ y)).E/\((ez w l).R (aZ y)).bC=(w.R (aZ y)).bC/\((ez w l).R (aZ y)).cu=(w.R (aZ y)).cu:=by
 induction l with
 |nil=>intro t w _ _ _ _ y _;exact⟨rfl,rfl,rfl⟩
 |cons x l ih=>intro t w r tt i hl y hy;have hx:=hl x List.mem_cons_self;obtain⟨t1,_,r1,tt1⟩:=abI (n:=100) (by omega) r tt hx.1 hx.2;have i1:=i.drop r hx.1;obtain⟨e1,e2,e3⟩:=ih r1 tt1 i1 (λz hz=>hl z (apE _ hz)) y hy;have hg:=((PK l r1 tt1 i1 (λz hz=>hl z (apE _ hz))).2.2.2.1 y).1 hy;have e4:=PN r hx.1 hg.1;show((ez (LY w x) l).R (aZ y)).E=_ /\((ez (LY w x) l).R (aZ y)).bC=_ /\((ez (LY w x) l).R (aZ y)).cu=_;rw[e1,e2,e3,e4];split<;>exact⟨rfl,rfl,rfl⟩
theorem Wi:∀(l:List Int) (b:Nat->List Int) (k:Nat),(∀x∈l,aZ x≠k)->byL b l k=b k
 |[],_,_,_ =>rfl
 |x::l,b,k,h=>by have:=Wi l (dy b (aZ x) []) k λz hz=>h z (apE _ hz);exact this.trans (jx _ _ (Ne.symm (h x List.mem_cons_self)))
theorem Wj{m:Nat}:∀(l:List Int) (b:Nat->List Int),(∀k,(b k).length<=m)->∀k,(byL b l k).length<=m
 |[],_,h,k=>h k
 |x::l,b,h,k=>by
  refine Wj l (dy b (aZ x) []) (λj=>?_) k;rw[bK];split
  ·exact Nat.zero_le _
  ·exact h j
end
def goX(x:aq)(k':ay)(t':av)(bk:List Rn):aq:={x with ax:={x.ax with aC:={x.ax.aC with K:=k',T:=t'}},gX:=bk}
def goW(sl:Nat->bE)(w:aj)(h:Int):aj:={w with aC:={w.aC with K:=(gp w.aC.T h).foldl (Uq sl) w.aC.K,T:=ez w.aC.T (gp w.aC.T h)},fD:=byL w.fD (gp w.aC.T h),lz:=w.lz++Yk w.aC.T (gp w.aC.T h)}
theorem OH{t:av}{w:ai}(r:gY t w)(tt:j8 w)(i:zF w){h x:Int}(hx:aT w.B x)(hu:dP w x=0)(hn:x∉gp w h):
  aT (ez w (gp w h)).B x/\dP (ez w (gp w h)) x=0/\∀o,lB (ez w (gp w h)) o x=lB w o x:=by
 obtain⟨⟨t',r'⟩,tt',i',d1,d2⟩:=PK (gp w h) r tt i (FT r tt h);have hg:=(d1 x).2 ⟨hx,hn⟩;have hu':dP (ez w (gp w h)) x=0:=by rw[d2 x hg,hu];split<;>rfl
 exact⟨hg,hu',λo=>(yu r' tt' hg hu').trans (yu r tt hx hu).symm⟩
theorem Px{n c:Nat}(hn:200<=n){s:bw}{w:aj}{bk fr:List Rn}(j:r9 c s w bk fr){h:Int}(h0:0<=h)(h1:h<4294967296)(hf:∀i k m,Sk w.tw i k m->m.Region∉gp w.aC.T h)(x:aq)(hs:x.ax=s)(hb:x.gX=bk):
  ∃k' t',fC n x h=some (goX x k' t' (bk++MF w.aC.T (gp w.aC.T h)))/\fj n w h=some (goW s.aC.K.aI w h)/\r9 c (goX x k' t' (bk++MF w.aC.T (gp w.aC.T h))).ax (goW s.aC.K.aI w h) (bk++MF w.aC.T (gp w.aC.T h)) fr:=by
 subst hs hb;have hu:=(yf j.rt j.tt h).1;have DG:=FT j.rt j.tt h;have vE:=agK j.rt j.tt h0;have hgd:CY (x.gX++MF w.aC.T (gp w.aC.T h)):=Ks.2 ⟨j.pg.b,af3 j.rt j.i6 j.pg _ hu vE,λp a b=>by
  obtain⟨y,hy,h2⟩:=O9.1 b;exact j.pg.bd y p (hu y hy) a h2⟩
 have hlen:=(VO hgd).len;obtain⟨k',t',p1,p2,p3,p4,p5,p6⟩:=alW (n:=n) hn j.rt j.tt j.i6 h0 h1 x rfl j.rk j.tk (by omega);have q1:=alV (n:=n) hn j.rt j.tt j.i6 h0 h1 w rfl j.rk j.tk (by
  rw[List.length_append,U4,j.bl, ← List.length_append];omega)
 obtain⟨_,_,i',d1,d2⟩:=PK (gp w.aC.T h) j.rt j.tt j.i6 DG;have dr:=XU (gp w.aC.T h) j.rt j.tt j.i6 DG;have pg':∀y p,aT (ez w.aC.T (gp w.aC.T h)).B y->(Jh (ez w.aC.T (gp w.aC.T h)) y p↔Jh w.aC.T y p):=λy p hy=>by unfold Jh;rw[(dr y hy).1]
 refine⟨k',t',p1,q1,p2,p3,i',j.op.mv ⟨Tx _ _,λy hy=> .inl ((d1 y).1 hy).1⟩,j.rl,p4,p5,j.bx,j.al,j.bo,λy hy=>?_,λk=>?_,⟨λi k m hm=>?_,j.fl.u⟩,⟨j.pg.can,λy p hy hp=>?_,λy z p hy hz a b=>?_,hgd,λp hp=>?_,λy p hy hp hq=>?_⟩,?_⟩
 ·have hy:aT (ez w.aC.T (gp w.aC.T h)).B y:=hy
  obtain⟨g1,g2⟩:=(d1 y).1 hy;show((ez w.aC.T (gp w.aC.T h)).R (aZ y)).E.lu<=(byL w.fD (gp w.aC.T h) (aZ y)).length;rw[(dr y hy).1,Wi _ _ _ λz hz e=>g2 (Ap (hu z hz) g1 e▸hz)];exact j.ly y g1
 ·exact Wj _ _ j.b2 k
 ·obtain⟨f1,f2,f3⟩:=j.fl.k i k m hm
  obtain⟨e1,e2,e3⟩:=OH j.rt j.tt j.i6 f1 f2 (hf i k m hm);exact⟨e1,e2,(congrArg cK.dx (e3 _)).trans f3⟩
 ·exact j.pg.f y p ((d1 y).1 hy).1 ((pg' y p hy).1 hp)
 ·exact j.pg.d y z p ((d1 y).1 hy).1 ((d1 z).1 hz).1 ((pg' y p hy).1 a) ((pg' z p hz).1 b)
 ·rcases ku.1 hp with e|e
  ·exact j.pg.bf p e
  ·obtain⟨y,hy,e⟩:=O9.1 e
   exact j.pg.f y p (hu y hy) e
 ·have hq:=(pg' y p hy).1 hq
  obtain⟨g1,g2⟩:=(d1 y).1 hy;rcases ku.1 hp with e|e
  ·exact j.pg.bd y p g1 e hq
  ·obtain⟨z,hz,e⟩:=O9.1 e
   exact g2 (j.pg.d y z p g1 (hu z hz) hq e▸hz)
 ·show(w.lz++Yk w.aC.T (gp w.aC.T h)).length=_
  rw[List.length_append,List.length_append,U4,j.bl]
end Go.Proofs.Z
namespace Go.Proofs.Z
open Go Go.Bw
def afx(w w':ai):Prop:=∀y,aT w'.B y->(aT w.B y/\(w'.R (aZ y)).E=(w.R (aZ y)).E)\/(w'.R (aZ y)).E=bD
theorem Pg.tab{w w':ai}{bk fr:List Rn}(q:Pg w bk fr)(h:afx w w'):Pg w' bk fr:=by
 have no:∀{y p},aT w'.B y->Jh w' y p->aT w.B y/\Jh w y p:=λ{y p} hy hp=>by
  rcases h y hy with⟨h1,h2⟩|h1
  ·exact⟨h1,by unfold Jh at hp ⊢;rw[← h2];exact hp⟩
  ·unfold Jh at hp;rw[h1]at hp;exact absurd hp (kj _)
 exact⟨q.can,λy p hy hp=>q.f y p (no hy hp).1 (no hy hp).2,λy z p hy hz a b=>q.d y z p (no hy a).1 (no hz b).1 (no hy a).2 (no hz b).2,q.b,q.bf,λy p hy hp a=>q.bd y p (no hy a).1 hp (no hy a).2⟩
section
variable {c:Nat} {s:bw} {w:aj} {bk fr:List Rn}
theorem r9.tab(j:r9 c s w bk fr){t':av}{w':ai}(r:gY t' w')(tt:j8 w')(i:zF w')(mv:Mv w.aC.T w')(ch:afx w.aC.T w')
  (hf:∀x,aT w.aC.T.B x->dP w.aC.T x=0->(lB w.aC.T s.aC.O x).dx=2->aT w'.B x/\dP w' x=0):
  r9 c {s with aC:={s.aC with T:=t'}} {w with aC:={w.aC with T:=w'}} bk fr:=
 {j with
  rt:=r,tt:=tt,i6:=i,op:=j.op.mv mv,pg:=j.pg.tab ch
  ly:=λy hy=>by
   rcases ch y hy with⟨h1,h2⟩|h1
   ·show(w'.R (aZ y)).E.lu<=_
    rw[h2];exact j.ly y h1
   ·show(w'.R (aZ y)).E.lu<=_
    rw[h1];exact Int.natCast_nonneg _
  fl:=⟨λa b m hm=>by
   obtain⟨f1,f2,f3⟩:=j.fl.k a b m hm;obtain⟨g1,g2⟩:=hf _ f1 f2 f3;exact⟨g1,g2,(congrArg cK.dx ((yu r tt g1 g2).trans (yu j.rt j.tt f1 f2).symm)).trans f3⟩,j.fl.u⟩}
theorem r9.own(j:r9 c s w bk fr){c':Nat}{o':bN}{v':aR}(p:Dk w.aC.T o' v')(hl:v'.cS.length<=c')(hf:∀a b m,Sk w.tw a b m->(lB w.aC.T o' m.Region).dx=2):
  r9 c' {s with aC:={s.aC with O:=o'}} {w with aC:={w.aC with O:=v'}} bk fr:=
 {j with
  op:=p,rl:=hl
  fl:=⟨λa b m hm=>by
   obtain⟨f1,f2,_⟩:=j.fl.k a b m hm;exact⟨f1,f2,hf a b m hm⟩,j.fl.u⟩}
theorem r9.Sr(j:r9 c s w bk fr){k':ay}{z':az}(r:RT k' z')(t:TT k' z'):r9 c {s with aC:={s.aC with K:=k'}} {w with aC:={w.aC with K:=z'}} bk fr:={j with rk:=r,tk:=t}
theorem r9.fA(j:r9 c s w bk fr){c':Nat}(h:c<=c'):r9 c' s w bk fr:={j with rl:=Nat.le_trans j.rl h}
theorem qn{t:av}{w:ai}(r:gY t w)(tt:j8 w){o:bN}{h x:Int}{y:cK}(hh:aT w.B h)(hx:aT w.B x)(hu:dP w x=0)(hn:x≠h):lB w (tg o h y) x=lB w o x:=by rw[yu r tt hx hu,yu r tt hx hu];have e:(tg o h y).aI (aZ x)=o.aI (aZ x):=jx _ _ λe=>hn (Ap hx hh e);simp only[e]
end
section
variable {n:Nat} {t:av} {w:ai} {o:bN} {v:aR}
theorem Zv(hn:200<=n)(r:gY t w)(tt:j8 w)(p:Dk w o v)(hr:v.cS.length+100<=n/\v.cS.length<=100000){h aE kind tk:Int}(hg:aT w.B h)(hu:dP w h=0)(hk:kind=1\/kind=2\/kind=3)(Jl:tk=if kind=2 then 0 else aE)(ht:0<=tk/\tk<8){x:cK}(hx:Si x/\ROo x (yK kind aE)):
  ∃v',jW n o t h tk x=some (tg o h x,0)/\dM n v w h aE kind=some (v',0)/\Dk w (tg o h x) v'/\v'.cS.length<=v.cS.length+1:=by
 have he:zh w h tk=0:=by unfold zh;rw[hg.2,apt (by decide),apt (λe=>e ((EL r tt hg).2 hu)),apt (by omega)]
 obtain⟨o',v',e,q1,q2,q3,q4⟩:=akv (n:=n) hn r tt p hr hg.1 (fm hg.2) hk Jl (λ_ =>hx);have h2:=OI (n:=n) (o:=o) (by omega) r tt (aE:=tk) hg.1 (fm hg.2) x;rw[he,aps rfl]at h2;obtain⟨rfl,rfl⟩:=Prod.mk.inj (Option.some.inj (q1.symm.trans h2));exact⟨v',h2,q2,q3,q4⟩
theorem Pz(hn:200<=n)(r:gY t w)(tt:j8 w)(p:Dk w o v)(hr:v.cS.length+100<=n/\v.cS.length<=100000){h aE:Int}(hg:aT w.B h)(hu:dP w h=0)(ht:0<=aE/\aE<8):
  ∃v',oR n o t h aE=some (tg o h ⟨1,aE,0⟩,0)/\dM n v w h aE 1=some (v',0)/\Dk w (tg o h ⟨1,aE,0⟩) v'/\v'.cS.length<=v.cS.length+1:=by
 have wq:wr .u8 aE=aE:=WI ht.1 (by omega);obtain⟨v',q1,q2⟩:=Zv (n:=n) hn r tt p hr hg hu (aE:=aE) (kind:=1) (tk:=aE) (.inl rfl) (by rw[apt (by decide)]) ht (x:=⟨1,aE,0⟩) ⟨⟨by dsimp only;decide,λ_ =>rfl,λh=>absurd rfl h,by dsimp only;decide,by dsimp only;omega⟩,⟨rfl,rfl,λj _ =>(ade j).symm⟩⟩;refine⟨v',?_,q2⟩;unfold oR;rw[aJ,wq,ah q1]
theorem al1(hn:200<=n)(r:gY t w)(tt:j8 w)(p:Dk w o v)(hr:v.cS.length+100<=n/\v.cS.length<=100000){h:Int}(hg:aT w.B h)(hu:dP w h=0)(aE:Int):
  ∃v',wB n o t h=some (tg o h ⟨2,0,0⟩,0)/\dM n v w h aE 2=some (v',0)/\Dk w (tg o h ⟨2,0,0⟩) v'/\v'.cS.length<=v.cS.length+1:=by
 obtain⟨v',q1,q2⟩:=Zv (n:=n) hn r tt p hr hg hu (aE:=aE) (kind:=2) (tk:=0) (.inr (.inl rfl)) (by rw[aps rfl]) (by decide) (x:=⟨2,0,0⟩) ⟨⟨by dsimp only;decide,λ_ =>rfl,λ_ =>rfl,by dsimp only;decide,by dsimp only;decide⟩,⟨rfl,rfl,λj _ =>(ade j).symm⟩⟩;refine⟨v',?_,q2⟩;unfold wB;rw[aJ,ah q1]
theorem abp(hn:200<=n)(r:gY t w)(tt:j8 w)(p:Dk w o v)(hr:v.cS.length+100<=n/\v.cS.length<=100000){h aE:Int}(hg:aT w.B h)(hu:dP w h=0)(ht:0<=aE/\aE<8):
  ∃v',rq n o t h aE=some (tg o h ⟨3,0,tq aE⟩,0)/\dM n v w h aE 3=some (v',0)/\Dk w (tg o h ⟨3,0,tq aE⟩) v'/\v'.cS.length<=v.cS.length+1:=by
 obtain⟨v',q1,q2⟩:=Zv (n:=n) hn r tt p hr hg hu (aE:=aE) (kind:=3) (tk:=aE) (.inr (.inr rfl)) (by rw[apt (by decide)]) ht (x:=⟨3,0,tq aE⟩) ⟨⟨by dsimp only;decide,λh=>absurd rfl h,λ_ =>rfl,ab2 _,by dsimp only;decide⟩,⟨rfl,rfl,λj hj=>by
    show dy (λ_ =>false) aE.toNat true j=zV (tq aE) j;rw[aoW ht hj,bK];by_cases q:j=aE.toNat
    ·rw[aps q,apw q]
    ·rw[apt q,apD q]⟩⟩
 refine⟨v',?_,q2⟩;unfold rq;rw[ah (Kw _),aJ,ah q1]
end
def qH(a:aV):bQ:=⟨a.Do,a.R,a.S,a.A,a.B,a.V⟩
structure C1(a:aV):Prop where
 cd:0<=a.Do/\a.Do<=255
 cr:0<=a.R/\a.R<4294967296
 cs:0<=a.S/\a.S<4294967296
 ca:0<=a.A/\a.A<4294967296
 cb:0<=a.B/\a.B<4294967296
 cv:0<=a.V/\a.V<=18446744073709551615
structure Hc(n c:Nat)(x:aq)(w:aj)(fr:List Rn):Prop where
 j:r9 c x.ax w x.gX fr
 bk:x.gX=[]
 wb:w.lz=[]
 tk:0<=x.aE/\x.aE<8
 al:x.ax.cH x.aE.toNat=true
 cc:C1 x.c
 nn:c+400<=n/\3000<=n/\c<=50000
def qe(c:Nat)(a:aV)(fr:List Rn)(w:aj)(p:Option (Except Int (aA×aq)))(q:Option (aj×aH)):Prop:=(∃e,e≠0/\p=some (.error e)/\q=some (w,⟨e,0,0⟩))\/ (∃r x' w' v,p=some (.ok (r,x'))/\q=some (w',v)/\r.E=0/\v.E=0/\v.W=r.W/\(0<=r.W/\r.W<4294967296)/\(a.Do≠3->v.V=r.V)/\r9 c x'.ax w' x'.gX fr)
def DJ(x:aq)(w:aj)(h what:Int):Int:=TK w.aC.T x.ax.aC.O x.ax.aC.K w.aC.K x.aE h what
theorem rU{n:Nat}{γ:Type}(e:Int)(k:Unit->Option (Except Int γ)):tr (dN n e) (λex=>(.error ex)) k=if e=0 then k ()else some (.error e):=by
 unfold dN;by_cases h:e=0
 ·subst h;rfl
 ·have:(e==0)=false:=by simpa using h
  rw[apt h,this];rfl
theorem abB{n:Nat}(w:aj)(e:Int):(bd (aQ n w e) λx=>some (x.1,x.2))=some (w,⟨e,0,0⟩):=rfl
theorem Qf{α:Type}{b:Bool}{f:α}{k:Option α}:tc b f k=if b=true then k else some f:=by cases b<;>rfl
section
variable {n c:Nat} {x:aq} {w:aj} {fr:List Rn}
theorem HX(H:Hc n c x w fr){h:Int}(hr:0<=h/\h<4294967296)(what:Int){γ:Type}(k:Unit->Option (Except Int γ)):
  tr (cF n x h what) (λex=>(.error ex)) k=if DJ x w h what=0 then k ()else some (.error (DJ x w h what)):=by
 have hn:=H.nn;have e:cF n x h what=if DJ x w h what=0 then some (.ok ())else some (.error (DJ x w h what)):=by unfold cF;refine(ah (aaC (n:=n) (t:=x.ax.aC.T) (o:=x.ax.aC.O) (k:=x.ax.aC.K) (by omega) H.j.rt H.j.tt H.j.op.q H.j.rk hr.1 hr.2 x.aE what)).trans ?_;exact rU _ _
 rw[e];split<;>rfl
theorem HW(H:Hc n c x w fr){h:Int}(hr:0<=h)(what:Int):eL n w.aC x.aE h what=some (DJ x w h what):=by have hn:=H.nn;have:=H.j.rl;exact ZK (n:=n) (by omega) H.j.rt H.j.tt H.j.op (by omega) H.j.rk hr x.aE what
theorem oP{h what:Int}(h0:0<=h)(e:DJ x w h what=0):aT w.aC.T.B h:=by
 unfold DJ TK at e;split at e
 ·exact⟨h0,by assumption⟩
 ·exact absurd e (by decide)
theorem RP{h what:Int}(hw:what≠0)(e:DJ x w h what=0):(lB w.aC.T x.ax.aC.O h).dx=1:=by
 unfold DJ TK at e;split at e
 ·split at e
  ·rw[apt (λq=>hw q.1)]at e;exact absurd e (by decide)
  ·split at e
   ·assumption
   ·exact absurd e (by decide)
 ·exact absurd e (by decide)
theorem OT{n:Nat}(w:ai)(a:Int){q:Int}(hq:65<=q):qp n w a q=qp n w a 65:=by unfold qp fS;rw[apD (show¬q<=64 by omega),apw (show 64<q by omega),apw (show 0<=q by omega)];rw[show decide ((65:Int)<=64)=false from by decide,show decide ((64:Int)<65)=true from by decide,show decide ((0:Int)<=65)=true from by decide];simp only[Bool.or_true,Bool.and_false,cn];rfl
end
end Go.Proofs.Z
namespace Go.Proofs.Z
open Go Go.Bw
theorem cnT{ρ:Type}{a b:Option ρ}:cn true a b=a:=rfl
theorem cnF{ρ:Type}{a b:Option ρ}:cn false a b=b:=rfl
theorem guT{ρ:Type}{a:Option ρ}:gu true a=a:=rfl
section
variable {n c:Nat} {x:aq} {w:aj} {fr:List Rn}
theorem qe.er{a:aV}{e:Int}{p:Option (Except Int (aA×aq))}{q:Option (aj×aH)}(h:e≠0)(h1:p=some (.error e))(h2:q=some (w,⟨e,0,0⟩)):qe c a fr w p q:= .inl ⟨e,h,h1,h2⟩
theorem qe.ok{a:aV}{r:aA}{x':aq}{w':aj}{v:aH}{p:Option (Except Int (aA×aq))}{q:Option (aj×aH)}(h1:p=some (.ok (r,x')))(h2:q=some (w',v))(h3:r.E=0)(h4:v.E=0)(h5:v.W=r.W)(h6:0<=r.W/\r.W<4294967296)(h7:a.Do≠3->v.V=r.V)(j:r9 c x'.ax w' x'.gX fr):qe c a fr w p q:= .inr ⟨r,x',w',v,h1,h2,h3,h4,h5,h6,h7,j⟩
theorem rF{e:Int}(h:e≠0):(e !=0)=true:=by simpa using h
theorem jC{e k:Int}(h:e≠k):(e==k)=false:=by simpa using h
theorem aas(H:Hc n c x w fr)(hR:x.c.R=0\/aT w.aC.T.B x.c.R):qe (c+60) x.c fr w
  (bd (xH n x.ax.aC.T x.c.R (wr .i64 (if 65<x.c.A then 65 else x.c.A))) λfR=>tr (dN n fR.2.2) (λaiw=>(.error aiw)) λg8=>cn (((({x with ax:={x.ax with aC:={x.ax.aC with T:=fR.1}}}:aq).c.R)==0)) (tr (eH n ({x with ax:={x.ax with aC:={x.ax.aC with T:=fR.1}}}) fR.2.1 (({x with ax:={x.ax with aC:={x.ax.aC with T:=fR.1}}}:aq).aE)) (λUe=>(.error Ue)) λqf=>lt ({E:=0,V:=0,W:=fR.2.1}:aA) λuA=>some (.ok (uA,qf))) (lt ({E:=0,V:=0,W:=fR.2.1}:aA) λzK=>some (.ok (zK,{x with ax:={x.ax with aC:={x.ax.aC with T:=fR.1}}}))))
  (bd (qp n w.aC.T x.c.R (if 1000<x.c.A then 1000 else x.c.A)) λuA=>cn ((uA.2.2!=0)) (bd (aQ n w uA.2.2) λuz=>some (uz.1,uz.2)) (lt ({w with aC:={w.aC with T:=uA.1}}:aj) λA2=>lt (λ(x74:aj)=>lt ({E:=0,V:=0,W:=uA.2.1}:aH) λx92=>some (x74,x92)) λj77=>cn ((x.c.R==0)) (bd (dM n A2.aC.O A2.aC.T uA.2.1 x.aE 1) λBh=>lt ({A2 with aC:={A2.aC with O:=Bh.1}}:aj) λx89=>j77 x89) (j77 A2))):=by
 have hn:=H.nn;have nr:=H.cc.cr;have hca:=H.cc.ca;have j:=H.j;obtain⟨t',w',m,e,n1,n2,n3,n4,n5,n6,n7,n8⟩:=anR (n:=n) (by omega) j.rt j.tt j.i6 (a:=x.c.R) (q:=if 65<x.c.A then 65 else x.c.A) nr.1 nr.2;have hq:qp n w.aC.T x.c.R (if 1000<x.c.A then 1000 else x.c.A)=some (w',m,e):=by
  rw[← n2];by_cases h1:65<x.c.A
  ·rw[aps h1,OT]
   split<;>omega
  ·rw[apt h1,apt (by omega)]
 have hw:wr .i64 (if 65<x.c.A then 65 else x.c.A)=if 65<x.c.A then 65 else x.c.A:=aL (by split<;>omega) (by split<;>omega)
 rw[hw,ah n1,ah hq];dsimp only;rw[rU];by_cases he:e=0
 ·rw[aps he,ae (b:=(e !=0)) (by rw[he];rfl)]
  simp only[aJ];obtain⟨f,hf,hl,ha,hqr,hd,rfl,rfl⟩:=n8.is he;have hgn:aT (mq w.aC.T.B f) (fP f (w.aC.T.B.gE f)):=(mw j.rt.bj hf hl _).2 (.inr rfl);have hnot:=Lf j.rt.bj hf hl;obtain⟨s1,s2,s3,s4,s5⟩:=o6 (i:=f) (g:=w.aC.T.B.gE f) (by omega) (by omega) (j.rt.bj.oh f hl).1 (j.rt.bj.oh f hl).2;have Qk:aZ (fP f (w.aC.T.B.gE f))=f:=by unfold aZ;omega
  have hold:∀{y},aT w.aC.T.B y->aZ y≠f:=λ{y} hy e=>by have:=(eR hy).2;rw[e,hf.2.2 hl]at this;exact absurd this (by decide)
  have mv:Mv w.aC.T ⟨mq w.aC.T.B f,dy w.aC.T.R f ⟨x.c.R,if 65<x.c.A then 65 else x.c.A,bD,λ_ =>0⟩⟩:=⟨λy h=>xC y h,λy h=>by
   rcases(mw j.rt.bj hf hl y).1 h with h|h
   ·exact .inl h
   ·exact .inr (h▸hnot)⟩
  have j1:=j.tab (t':=t') n5 n6 n7 mv (λy hy=>by
   rcases(mw j.rt.bj hf hl y).1 hy with h|h
   ·refine .inl ⟨h,?_⟩
    show(dy w.aC.T.R f _ (aZ y)).E=_;rw[jx _ _ (hold h)]
   ·refine .inr ?_
    show(dy w.aC.T.R f _ (aZ y)).E=_;rw[h,Qk,pI]) λy hy hu _ =>⟨(mw j.rt.bj hf hl y).2 (.inl hy),by
    show(dy w.aC.T.R f _ (aZ y)).Up=0;rw[jx _ _ (hold hy)];exact hu⟩
  by_cases hz:x.c.R=0
  ·have Qj:dP ⟨mq w.aC.T.B f,dy w.aC.T.R f ⟨x.c.R,if 65<x.c.A then 65 else x.c.A,bD,λ_ =>0⟩⟩ (fP f (w.aC.T.B.gE f))=0:=by
    show(dy w.aC.T.R f _ (aZ _)).Up=0;rw[Qk,pI];exact hz
   obtain⟨v',g1,g2,g3,g4⟩:=Pz (n:=n) (by omega) n5 n6 j1.op (by have:=j.rl;dsimp only;omega) hgn Qj H.tk;rw[ak (b:=(x.c.R==0)) (by rw[hz];rfl),ak (b:=(x.c.R==0)) (by rw[hz];rfl)];unfold eH;dsimp only at g1 g2 ⊢;rw[ah g1,ah g2];dsimp only;rw[rU,aps rfl];refine .ok (x':={x with ax:={x.ax with aC:={x.ax.aC with T:=t',O:=_ }}}) rfl rfl rfl rfl rfl ⟨n3,n4⟩ (λ_ =>rfl) ?_;refine j1.own g3 (by have:=j.rl;dsimp only at g4 ⊢;omega) λa b m hm=>?_;obtain⟨f1,f2,f3⟩:=j1.fl.k a b m hm;have hne:m.Region≠fP f (w.aC.T.B.gE f):=λe=>hnot (e▸tU (j.fl.k a b m hm).1);exact(congrArg cK.dx (qn n5 n6 hgn f1 f2 hne)).trans f3
  ·rw[ae (b:=(x.c.R==0)) (jC hz),ae (b:=(x.c.R==0)) (jC hz)]
   exact .ok rfl rfl rfl rfl rfl ⟨n3,n4⟩ (λ_ =>rfl) (j1.fA (by omega))
 ·rw[apt he,ak (rF he),abB]
  exact .er he rfl rfl
theorem akO(H:Hc n c x w fr)(hd:x.c.Do=1):qe (c+60) x.c fr w (lV n x) (cN n w x.aE (qH x.c)):=by
 have nr:=H.cc.cr;unfold lV cN;simp only[qH,hd,aJ,Int.reduceBEq,Bool.true_and,Bool.and_false,Bool.true_or,Bool.or_true,Bool.false_and,cnT,cnF,NY];rw[ah (HW H nr.1 1)];by_cases hz:x.c.R=0
 ·rw[ae (b:=(x.c.R !=0)) (by rw[hz];rfl),ak (b:=(x.c.R==0)) (by rw[hz];rfl)]
  exact aas H (.inl hz)
 ·rw[ak (b:=(x.c.R !=0)) (rF hz),ae (b:=(x.c.R==0)) (jC hz),HX H nr]
  by_cases he:DJ x w x.c.R 1=0
  ·rw[aps he,he]
   exact aas H (.inr (oP nr.1 he))
  ·rw[apt he,ak (rF he)]
   exact .er he rfl rfl
end
end Go.Proofs.Z
namespace Go.Proofs.Z
open Go Go.Bw
section
variable {n:Nat} {t:av} {w:ai} {o:bN}
theorem ahl(r:gY t w)(tt:j8 w){x h:Int}(hm:x∈gp w h)(h0:0<=h):lB w o x=lB w o h:=by
 have hx:=(yf r tt h).1 x hm;have hg:aM w.B h=true:=by
  unfold gp at hm;split at hm
  ·assumption
  ·cases hm
 unfold lB;rw[agJ r tt hm h0,hx.2,hg]
theorem abM(r:gY t w){h x:Int}(hh:aT w.B h)(hx:aT w.B x):dP (E1 w h) x=if x=h then 0 else dP w x:=by unfold E1;rw[aps hh.2];generalize V6 (Gw w) (dP w) h=l;generalize U6 (dP w) h=L;have hb:=Im w L l w;rw[SZ (by rw[hb];exact hh) (by rw[hb];exact hx),aeS]
theorem aiK(w0:ai)(L l:List Int)(y:Int):∀v:ai,((l.foldl (M5 w0 L) v).R (aZ y)).E=(v.R (aZ y)).E/\((l.foldl (M5 w0 L) v).R (aZ y)).cu=(v.R (aZ y)).cu:=by
 induction l with
 |nil=>intro v;exact⟨rfl,rfl⟩
 |cons x l ih=>
  intro v;obtain⟨h1,h2⟩:=ih (M5 w0 L v x);show((l.foldl (M5 w0 L) (M5 w0 L v x)).R (aZ y)).E=_ /\((l.foldl (M5 w0 L) (M5 w0 L v x)).R (aZ y)).cu=_;rw[h1,h2];unfold M5;dsimp only;rw[bK];split
  ·rename_i e;rw[e];exact⟨rfl,rfl⟩
  ·exact⟨rfl,rfl⟩
theorem afC(w:ai)(h a y:Int):((JK w h a).R (aZ y)).E=(w.R (aZ y)).E:=by
 unfold JK;dsimp only;rw[bK];split
 ·rename_i e;rw[e]
 ·rfl
theorem amj(w:ai)(h y:Int):((E1 w h).R (aZ y)).E=(w.R (aZ y)).E:=by
 unfold E1;split
 ·generalize V6 (Gw w) (dP w) h=l
  generalize U6 (dP w) h=L;rw[afC,(aiK w L l y w).1]
 ·rfl
theorem afx.cW{w':ai}(hb:w'.B=w.B)(h:∀y,(w'.R (aZ y)).E=(w.R (aZ y)).E):afx w w':=λy hy=> .inl ⟨hb▸hy,h y⟩
theorem mvB{w':ai}(h:w'.B=w.B):Mv w w':=⟨λx q=>by rw[h];exact q,λx q=> .inl (by rw[h]at q;exact q)⟩
theorem Pg.reset{w':ai}{bk fr:List Rn}(q:Pg w bk fr){h:Int}(hh:aT w.B h)(hg:CY ((w.R (aZ h)).E.aP.map jB))(ch:∀y,aT w'.B y->(aT w.B y/\y≠h/\(w'.R (aZ y)).E=(w.R (aZ y)).E)\/(w'.R (aZ y)).E=bD):
  Pg w' (bk++(w.R (aZ h)).E.aP.map jB) fr:=by
 have no:∀{y p},aT w'.B y->Jh w' y p->(aT w.B y/\Jh w y p)/\y≠h:=λ{y p} hy hp=>by
  rcases ch y hy with⟨h1,h3,h2⟩|h1
  ·exact⟨⟨h1,by unfold Jh at hp ⊢;rw[← h2];exact hp⟩,h3⟩
  ·unfold Jh at hp;rw[h1]at hp;exact absurd hp (kj _)
 refine⟨q.can,λy p hy hp=>q.f y p (no hy hp).1.1 (no hy hp).1.2,λy z p hy hz a b=>q.d y z p (no hy a).1.1 (no hz b).1.1 (no hy a).1.2 (no hz b).1.2,Ks.2 ⟨q.b,hg,λp a b=>q.bd h p hh a b⟩,λp hp=>?_,λy p hy hp a=>?_⟩
 ·rcases ku.1 hp with e|e
  ·exact q.bf p e
  ·exact q.f h p hh e
 ·rcases ku.1 hp with e|e
  ·exact q.bd y p (no hy a).1.1 e (no hy a).1.2
  ·exact(no hy a).2 (q.d y h p (no hy a).1.1 hh (no hy a).1.2 e)
end
section
variable {n c:Nat} {x:aq} {w:aj} {fr:List Rn}
theorem air(H:Hc n c x w fr){h:Int}(hg:aT w.aC.T.B h):gK n w h=some ((w.aC.T.R (aZ h)).E,mH h):=by have hn:=H.nn;unfold gK;rw[ah (dk (by omega) H.j.rt.bj hg.1),aps hg.2,au (ia h),aJ];rfl
theorem ag2(H:Hc n c x w fr){h:Int}(hg:aT w.aC.T.B h){γ:Type}(k:aS->Option (Except Int γ)):tr (fb n x h) (λex=>(.error ex)) k=k (o5 x.ax.aC.T w.aC.T h):=by
 have e:fb n x h=some (.ok (o5 x.ax.aC.T w.aC.T h)):=by unfold fb;rw[ah (Ar H.j.rt hg.1 (fm hg.2)),aps hg.2,rU,aps rfl]
 rw[e];rfl
theorem aan(H:Hc n c x w fr){h what:Int}(h0:0<=h)(hw:what≠0)(e:DJ x w h what=0):∀i k m,Sk w.tw i k m->m.Region∉gp w.aC.T h:=λi k m hm hu=>by have h1:=RP hw e;rw[← ahl H.j.rt H.j.tt hu h0,(H.j.fl.k i k m hm).2.2]at h1;exact absurd h1 (by decide)
theorem Ub(H:Hc n c x w fr){h what:Int}(h0:0<=h)(hw:what≠0)(e:DJ x w h what=0):∀i k m,Sk w.tw i k m->m.Region≠h:=λi k m hm hu=>aan H h0 hw e i k m hm (by rw[hu];exact Y8 H.j.rt H.j.tt (oP h0 e))
theorem ael(H:Hc n c x w fr){h what:Int}(hw:what≠0)(e:DJ x w h what=0){y:Int}(hy:(lB w.aC.T x.ax.aC.O y).dx=2):y≠h:=λhu=>by have h1:=RP hw e;rw[← hu,hy]at h1;exact absurd h1 (by decide)
theorem abL(H:Hc n c x w fr)(hd:x.c.Do=6):qe (c+60) x.c fr w (jk n x) (cN n w x.aE (qH x.c)):=by
 have nr:=H.cc.cr;have hn:=H.nn;unfold jk cN;simp only[qH,hd,aJ,Int.reduceBEq,Bool.true_and,Bool.and_false,Bool.true_or,Bool.or_false,Bool.false_and,cnT,cnF,NY];rw[ah (HW H nr.1 2),HX H nr];by_cases he:DJ x w x.c.R 2=0
 ·obtain⟨k',t',g1,g2,g3⟩:=Px (n:=n) (by omega) H.j nr.1 nr.2 (aan H nr.1 (by decide) he) x rfl rfl
  rw[aps he,he,ae (b:=((0:Int)!=0)) rfl,ah g1,ah g2];exact .ok rfl rfl rfl rfl rfl (by decide) (λ_ =>rfl) (g3.fA (by omega))
 ·rw[apt he,ak (rF he)]
  exact .er he rfl rfl
theorem ady(H:Hc n c x w fr)(hd:x.c.Do=5):qe (c+60) x.c fr w (jM n x) (cN n w x.aE (qH x.c)):=by
 have nr:=H.cc.cr;have hn:=H.nn;have j:=H.j;unfold jM cN;simp only[qH,hd,aJ,Int.reduceBEq,Bool.true_and,Bool.and_false,Bool.true_or,Bool.or_true,Bool.false_and,cnT,cnF,NY];rw[ah (HW H nr.1 1),HX H nr];by_cases he:DJ x w x.c.R 1=0
 ·have hg:=oP nr.1 he
  have hr:=Je j.rt hg;have h4:=RK j.rt j.i6 hg;have hq:=(j.i6 _ hg).1;have hrl:=h4.gx.len;have e1:(o5 x.ax.aC.T w.aC.T x.c.R).E.aP=(w.aC.T.R (aZ x.c.R)).E.aP.map jB:=congrArg bg.aP hr.e;have e2:(o5 x.ax.aC.T w.aC.T x.c.R).cu=(w.aC.T.R (aZ x.c.R)).cu:=hr.q;have hp:J5 ⟨0,(w.aC.T.R (aZ x.c.R)).cu,dJ,λ_ =>0⟩ ⟨0,(w.aC.T.R (aZ x.c.R)).cu,bD,λ_ =>0⟩:=⟨rfl,rfl,Nat.zero_le _,λy hy=>(by cases hy),λ_ _ =>rfl,λ_ _ =>by dsimp only;decide⟩;have hm0:=ahq (n:=n) (by omega);obtain⟨t',s1,s2,s3⟩:=adp (n:=n) (by omega) j.rt j.tt hg hp hq hm0;have s4:=OS (n:=n) (by omega) j.rt hg (x:=⟨0,(w.aC.T.R (aZ x.c.R)).cu,bD,λ_ =>0⟩) hq hm0;rw[aps he,he,ae (b:=((0:Int)!=0)) rfl,ag2 H hg,ah (air H hg),H.bk,e1,e2,au (fq (by simp at hrl ⊢;omega) (by simp at hrl ⊢;omega)),au (ia _),au (ia _)];unfold lT;dsimp only;rw[ah s1,rU,aps rfl];show qe _ _ _ _ _ (bd (jr n w.aC.T x.c.R ⟨0,(w.aC.T.R (aZ x.c.R)).cu,bD,λ_ =>0⟩) _);rw[ah s4];have hE:∀y,aT w.aC.T.B y->y≠x.c.R->(Bc w.aC.T x.c.R ⟨0,(w.aC.T.R (aZ x.c.R)).cu,bD,λ_ =>0⟩).R (aZ y)=w.aC.T.R (aZ y):=λy hy hn=>by unfold Bc;dsimp only;rw[jx _ _ λe=>hn (Ap hy hg e)]
  have hE0:((Bc w.aC.T x.c.R ⟨0,(w.aC.T.R (aZ x.c.R)).cu,bD,λ_ =>0⟩).R (aZ x.c.R)).E=bD:=by unfold Bc;dsimp only;rw[pI]
  have i':zF (Bc w.aC.T x.c.R ⟨0,(w.aC.T.R (aZ x.c.R)).cu,bD,λ_ =>0⟩):=λg Ql=>by
   by_cases e:g=x.c.R
   ·subst e
    rw[hE0];refine⟨?_,λm hm=>ahq hm⟩;have:((Bc w.aC.T x.c.R ⟨0,(w.aC.T.R (aZ x.c.R)).cu,bD,λ_ =>0⟩).R (aZ x.c.R)).cu=(w.aC.T.R (aZ x.c.R)).cu:=by unfold Bc;dsimp only;rw[pI]
    rw[this];exact hq
   ·rw[hE g Ql e];exact j.i6 g Ql
  have ch:∀y,aT w.aC.T.B y->(aT w.aC.T.B y/\y≠x.c.R/\((Bc w.aC.T x.c.R ⟨0,(w.aC.T.R (aZ x.c.R)).cu,bD,λ_ =>0⟩).R (aZ y)).E=(w.aC.T.R (aZ y)).E)\/((Bc w.aC.T x.c.R ⟨0,(w.aC.T.R (aZ x.c.R)).cu,bD,λ_ =>0⟩).R (aZ y)).E=bD:=λy hy=>by
   by_cases e:y=x.c.R
   ·exact .inr (e▸hE0)
   ·exact .inl ⟨hy,e,by rw[hE y hy e]⟩
  have j1:=j.tab (t':=t') s2 s3 i' (mvB rfl) (λy hy=>(ch y hy).imp (λh=>⟨h.1,h.2.2⟩) id) λy hy hu _ =>⟨hy,(S8 _ _ _).trans hu⟩;have hpg:=j.pg.reset (w':=Bc w.aC.T x.c.R ⟨0,(w.aC.T.R (aZ x.c.R)).cu,bD,λ_ =>0⟩) hg h4.gx.gd ch;rw[H.bk]at hpg;refine .ok (x':={x with ax:={x.ax with aC:={x.ax.aC with T:=t'}},gX:=[]++(w.aC.T.R (aZ x.c.R)).E.aP.map jB}) rfl rfl rfl rfl rfl (by decide) (λ_ =>rfl) (r9.fA (c:=c) ?_ (by omega));exact{j1 with
   ly:=λy hy=>by
    by_cases e:y=x.c.R
    ·subst e
     show((Bc w.aC.T x.c.R ⟨0,(w.aC.T.R (aZ x.c.R)).cu,bD,λ_ =>0⟩).R (aZ x.c.R)).E.lu<=_;rw[hE0];exact Int.natCast_nonneg _
    ·show((Bc w.aC.T x.c.R ⟨0,(w.aC.T.R (aZ x.c.R)).cu,bD,λ_ =>0⟩).R (aZ y)).E.lu<=(dy w.fD (aZ x.c.R) [] (aZ y)).length
     rw[hE y hy e,jx _ _ λq=>e (Ap hy hg q)];exact j.ly y hy
   b2:=λi=>by
    show(dy w.fD (aZ x.c.R) [] i).length<=3000;rw[bK];split
    ·exact Nat.zero_le _
    ·exact j.b2 i
   pg:=hpg
   bl:=by simp}
 ·rw[apt he,ak (rF he)]
  exact .er he rfl rfl
end
end Go.Proofs.Z
namespace Go.Proofs.Z
open Go Go.Bw
section
variable {n c:Nat} {x:aq} {w:aj} {fr:List Rn}
theorem r9.cut{s:bw}{bk:List Rn}(j:r9 c s w bk fr)(hn:200<=n){h:Int}(hg:aT w.aC.T.B h):
  ∃t',tV n s.aC.T h=some (t',0)/\wK n w.aC.T h=some (E1 w.aC.T h,0)/\r9 c {s with aC:={s.aC with T:=t'}} {w with aC:={w.aC with T:=E1 w.aC.T h}} bk fr/\aT (E1 w.aC.T h).B h/\dP (E1 w.aC.T h) h=0:=by
 obtain⟨t',c1,c2,c3,c4,c5⟩:=aoR (n:=n) hn j.rt j.tt j.i6 hg.1 (fm hg.2);rw[aps hg.2]at c1 c2;have hb:=abN w.aC.T h;refine⟨t',c1,c2,j.tab c3 c4 c5 (mvB hb) (.cW hb (amj _ _)) λy hy hu _ =>⟨by rw[hb];exact hy,?_⟩,by rw[hb];exact hg,?_⟩
 ·rw[abM j.rt hg hy,hu];split<;>rfl
 ·rw[abM j.rt hg hg,aps rfl]
theorem ZE{x:aq}{t':av}{h:Int}(hc:tV n x.ax.aC.T h=some (t',0)){γ:Type}(k:aq->Option (Except Int γ)):tr (ja n x h) (λex=>(.error ex)) k=k {x with ax:={x.ax with aC:={x.ax.aC with T:=t'}}}:=by
 have e:ja n x h=some (.ok {x with ax:={x.ax with aC:={x.ax.aC with T:=t'}}}):=by unfold ja;rw[ah hc,rU,aps rfl]
 rw[e];rfl
theorem aad{x:aq}{o':bN}{h aE:Int}(hc:oR n x.ax.aC.O x.ax.aC.T h aE=some (o',0)){γ:Type}(k:aq->Option (Except Int γ)):tr (eH n x h aE) (λex=>(.error ex)) k=k {x with ax:={x.ax with aC:={x.ax.aC with O:=o'}}}:=by
 have e:eH n x h aE=some (.ok {x with ax:={x.ax with aC:={x.ax.aC with O:=o'}}}):=by unfold eH;rw[ah hc,rU,aps rfl]
 rw[e];rfl
theorem aml(H:Hc n c x w fr)(hd:x.c.Do=7):qe (c+60) x.c fr w (lW n x) (cN n w x.aE (qH x.c)):=by
 have nr:=H.cc.cr;have hn:=H.nn;have j:=H.j;unfold lW cN;simp only[qH,hd,aJ,Int.reduceBEq,Bool.and_false,Bool.and_true,Bool.or_false,Bool.false_and,cnF];rw[ah (HW H nr.1 2),HX H nr];by_cases he:DJ x w x.c.R 2=0
 ·have hg:=oP nr.1 he
  rw[aps he,he,ah (EK (n:=n) (by omega) j.rt j.tt nr.1 nr.2)];have e1:(((0:Int)==0)==true)=true:=rfl;rw[oB e1 (Ca (n:=n) (by omega) j.rt j.tt nr.1),Qf];by_cases hr:di w.aC.T x.c.R=x.c.R
  ·rw[hr,apt (by simp),ak (by simp),ak (by rfl)]
   exact .er (e:=12) (by decide) rfl (abB w 12)
  ·obtain⟨t',c1,c2,c3,c4,c5⟩:=j.cut (n:=n) (by omega) hg
   obtain⟨v',g1,g2,g3,g4⟩:=Pz (n:=n) (by omega) c3.rt c3.tt c3.op (by have:=j.rl;dsimp only;omega) c4 c5 H.tk;rw[aps (by simpa using hr),ZE c1,ae (by rw[jC hr];rfl),ae (by rfl),ah c2];dsimp only at g1 g2 ⊢;rw[aad (x:={x with ax:={x.ax with aC:={x.ax.aC with T:=t'}}}) g1,ah g2];refine .ok rfl rfl rfl rfl rfl (by decide) (λ_ =>rfl) ?_;refine c3.own g3 (by have:=j.rl;dsimp only at g4 ⊢;omega) λa b m hm=>?_;obtain⟨f1,f2,f3⟩:=c3.fl.k a b m hm;exact(congrArg cK.dx (qn c3.rt c3.tt c4 f1 f2 (Ub H nr.1 (by decide) he a b m hm))).trans f3
 ·have e1:(DJ x w x.c.R 2==0)=false:=jC he
  rw[apt he,e1];refine .er he rfl ?_;show cn (DJ x w x.c.R 2!=0) _ _ =_;rw[ak (rF he)];rfl
theorem aez(H:Hc n c x w fr)(hd:x.c.Do=8):qe (c+60) x.c fr w (jN n x) (cN n w x.aE (qH x.c)):=by
 have nr:=H.cc.cr;have hcs:=H.cc.cs;have hn:=H.nn;have j:=H.j;unfold jN cN;simp only[qH,hd,aJ,Int.reduceBEq,Bool.and_false,Bool.and_true,Bool.or_false,Bool.false_and,cnT,cnF,NY];rw[ah (HW H nr.1 2),HX H nr];by_cases he:DJ x w x.c.R 2=0
 ·have hg:=oP nr.1 he
  rw[aps he,he,ak (b:=((0:Int)==0)) rfl,ah (HW H hcs.1 1),HX H hcs];by_cases hs:DJ x w x.c.S 1=0
  ·obtain⟨t',w',e,g1,g2,g3,g4,g5,g6⟩:=aij (n:=n) (by omega) j.rt j.tt j.i6 nr.1 nr.2 hcs.1 hcs.2
   rw[aps hs,hs,ae (b:=((0:Int)!=0)) rfl,ah g1,ah g2];dsimp only;rw[rU];by_cases hz:e=0
   ·obtain⟨rfl,q1,q2,q3,q4,q5⟩:=g6.is hz
    rw[aps hz,ae (by rw[hz];rfl)];refine .ok rfl rfl rfl rfl rfl (by decide) (λ_ =>rfl) (r9.fA (j.tab g3 g4 g5 (mvB rfl) (.cW rfl (afC _ _ _)) λy hy hu hk=>⟨hy,?_⟩) (by omega));rw[SZ q1 hy,apt (ael H (by decide) he hk)];exact hu
   ·rw[apt hz,ak (rF hz)]
    exact .er hz rfl rfl
  ·rw[apt hs,ak (rF hs)]
   exact .er hs rfl rfl
 ·rw[apt he,ae (jC he),ak (rF he)]
  exact .er he rfl rfl
theorem XK(H:Hc n c x w fr)(hd:x.c.Do=9):qe (c+60) x.c fr w (jj n x) (cN n w x.aE (qH x.c)):=by
 have nr:=H.cc.cr;have hn:=H.nn;have j:=H.j;unfold jj cN;simp only[qH,hd,aJ,Int.reduceBEq,Bool.and_false,Bool.or_false,Bool.false_and,cnT,cnF,NY];rw[ah (HW H nr.1 2),HX H nr];by_cases he:DJ x w x.c.R 2=0
 ·have hg:=oP nr.1 he
  obtain⟨t',c1,c2,c3,c4,c5⟩:=j.cut (n:=n) (by omega) hg;obtain⟨v',g1,g2,g3,g4⟩:=abp (n:=n) (by omega) c3.rt c3.tt c3.op (by have:=j.rl;dsimp only;omega) c4 c5 H.tk;rw[aps he,he,ae (b:=((0:Int)!=0)) rfl,ZE c1,ah c2];dsimp only at g1 g2 ⊢;rw[ah g1,ah g2,rU,aps rfl];refine .ok rfl rfl rfl rfl rfl (by decide) (λ_ =>rfl) ?_;refine c3.own g3 (by have:=j.rl;dsimp only at g4 ⊢;omega) λa b m hm=>?_;obtain⟨f1,f2,f3⟩:=c3.fl.k a b m hm;exact(congrArg cK.dx (qn c3.rt c3.tt c4 f1 f2 (Ub H nr.1 (by decide) he a b m hm))).trans f3
 ·rw[apt he,ak (rF he)]
  exact .er he rfl rfl
end
end Go.Proofs.Z
namespace Go.Proofs.Z
open Go Go.Bw
theorem akR{α ρ:Type}{d:Bool}(a b:α)(A:α->Option ρ):lt A (λj=>cn d (j a) (j b))=A (bif d then a else b):=by cases d<;>rfl
section
variable {n c:Nat} {x:aq} {w:aj} {fr:List Rn}
theorem XY(hn:100<=n){a:bQ}{b:List Int}(hA:0<=a.A/\a.A<4294967296)(hB:1<=a.B/\a.B<=8)(hl:a.A+a.B<=b.length){ρ:Type}(F:List Int->Int->Option ρ):
  ∃b' v,b'.length=b.length/\(a.Do=4->v=0)/\sU (λk85 (KF:(List Int)) (Em:Int) (Bh:Int)=>
 cn (decide (Bh<a.B)) (
 cn ((a.Do==4)) (
 gu (decide (0<=(wr .i64 (8*Bh))))<|
 gu (bM (wr .i64 (a.A+Bh)) KF.length)<|
 lt ((KF.set (Int.toNat (wr .i64 (a.A+Bh))) (wr .u8 (FW .u64 a.V (wr .i64 (8*Bh))))):List Int) λx88=>
 k85 x88 Em (wr .i64 (Bh+1))) (
 gu (bM (wr .i64 (a.A+Bh)) KF.length)<|
 gu (decide (0<=(wr .i64 (8*Bh))))<|
 k85 KF (wr .u64 (Em+(FX .u64 (wr .u64 (KF.getD (Int.toNat (wr .i64 (a.A+Bh))) default)) (wr .i64 (8*Bh))))) (wr .i64 (Bh+1)))) (
 F KF Em)) n b 0 0=F b' v:=by
 refine rR (λ(y:List Int) (v:Int) (i:Int)=>0<=i/\i<=a.B/\y.length=b.length/\(a.Do=4->v=0)) (λ_ _ i=>(a.B-i).toNat) (λo=>∃b' v,b'.length=b.length/\(a.Do=4->v=0)/\o=F b' v) ?_ n b 0 0 ⟨by omega,by omega,rfl,λ_ =>rfl⟩ (by omega);rintro k y v i ⟨i0,i1,hy,hv⟩ ih;by_cases c:i<a.B
 ·have g1:decide (0<=(wr .i64 (8*i)))=true:=apw (by rw[aL (by omega) (by omega)];omega)
  have g2:bM (wr .i64 (a.A+i)) y.length=true:=by rw[aL (by omega) (by omega)];exact bG (by omega) (by omega)
  rw[ak (apw c),aL (x:=i+1) (by omega) (by omega)];by_cases d:a.Do=4
  ·rw[ak (by simpa using d),au g1,au g2,aJ]
   exact ih _ _ _ ⟨by omega,by omega,by rw[List.length_set];exact hy,hv⟩ (by omega)
  ·rw[ae (by simpa using d),au g2,au g1]
   exact ih _ _ _ ⟨by omega,by omega,hy,λh=>absurd h d⟩ (by omega)
 ·rw[ae (apD c)]
  exact⟨y,v,hy,hv,rfl⟩
theorem r9.byt{s:bw}{bk:List Rn}(j:r9 c s w bk fr){h:Int}{b:List Int}(hl:b.length=(w.fD (aZ h)).length):r9 c s {w with fD:=dy w.fD (aZ h) b} bk fr:=
 {j with
  ly:=λy hy=>by
   show _ <=((dy w.fD (aZ h) b (aZ y)).length:Int);rw[bK];split
   ·rename_i e;rw[hl, ← e];exact j.ly y hy
   ·exact j.ly y hy
  b2:=λi=>by
   show(dy w.fD (aZ h) b i).length<=3000;rw[bK];split
   ·rw[hl];exact j.b2 _
   ·exact j.b2 i}
theorem Tp(H:Hc n c x w fr){what:Int}(hw:what=if x.c.Do=4 then 1 else 0):
  (¬(1<=x.c.B/\x.c.B<=8)->eo n w x.aE (qH x.c)=some (w,⟨2,0,0⟩))/\
  (1<=x.c.B/\x.c.B<=8->DJ x w x.c.R what≠0->eo n w x.aE (qH x.c)=some (w,⟨DJ x w x.c.R what,0,0⟩))/\
  (1<=x.c.B/\x.c.B<=8->DJ x w x.c.R what=0->¬(x.c.A+x.c.B<=(w.aC.T.R (aZ x.c.R)).E.lu)->eo n w x.aE (qH x.c)=some (w,⟨9,0,0⟩))/\
  (1<=x.c.B/\x.c.B<=8->DJ x w x.c.R what=0->x.c.A+x.c.B<=(w.aC.T.R (aZ x.c.R)).E.lu->∃b' v,b'.length=(w.fD (aZ x.c.R)).length/\(x.c.Do=4->v=0)/\eo n w x.aE (qH x.c)=some ({w with fD:=dy w.fD (aZ x.c.R) b'},⟨0,v,0⟩)):=by
 have hn:=H.nn;have nr:=H.cc.cr;have hca:=H.cc.ca;have hcb:=H.cc.cb;have j:=H.j;have e1:(bif ((qH x.c).Do==4)then(1:Int)else 0)=what:=by
  show(bif (x.c.Do==4)then(1:Int)else 0)=what;rw[hw];by_cases d:x.c.Do=4
  ·rw[aps d,d];rfl
  ·rw[apt d,jC d];rfl
 unfold eo;rw[akR,e1];show(_ ->cn ((decide (x.c.B<1)||decide (8<x.c.B))) _ _ =_)/\(_ ->_ ->cn ((decide (x.c.B<1)||decide (8<x.c.B))) _ _ =_)/\(_ ->_ ->_ ->cn ((decide (x.c.B<1)||decide (8<x.c.B))) _ _ =_)/\(_ ->_ ->_ ->∃b' v,_ /\_ /\cn ((decide (x.c.B<1)||decide (8<x.c.B))) _ _ =_);by_cases hB:1<=x.c.B/\x.c.B<=8
 ·have hb:(decide (x.c.B<1)||decide (8<x.c.B))=false:=by rw[Bool.or_eq_false_iff,decide_eq_false_iff_not,decide_eq_false_iff_not];omega
  rw[hb,ae rfl];refine⟨λh=>absurd hB h,?_⟩;show(_ ->_ ->bd (eL n w.aC x.aE x.c.R what) _ =_)/\(_ ->_ ->_ ->bd (eL n w.aC x.aE x.c.R what) _ =_)/\(_ ->_ ->_ ->∃b' v,_ /\_ /\bd (eL n w.aC x.aE x.c.R what) _ =_);rw[ah (HW H nr.1 what)];by_cases he:DJ x w x.c.R what=0
  ·have hg:=oP nr.1 he
   have hx:=RK j.rt j.i6 hg;have hlo:=hx.lo;have hhi:=hx.hi;have hsu:=hx.gx.sum;dsimp only at hlo hhi hsu;refine⟨λ_ h=>absurd he h,?_⟩;rw[he,ae (b:=((0:Int)!=0)) rfl];show(_ ->_ ->_ ->bd (gK n w x.c.R) _ =_)/\(_ ->_ ->_ ->∃b' v,_ /\_ /\bd (gK n w x.c.R) _ =_);rw[ah (air H hg)];show(_ ->_ ->_ ->cn (decide ((w.aC.T.R (aZ x.c.R)).E.lu<wr .i64 (x.c.A+x.c.B))) _ _ =_)/\(_ ->_ ->_ ->∃b' v,_ /\_ /\cn (decide ((w.aC.T.R (aZ x.c.R)).E.lu<wr .i64 (x.c.A+x.c.B))) _ _ =_);rw[aL (by omega) (by omega)];by_cases hL:x.c.A+x.c.B<=(w.aC.T.R (aZ x.c.R)).E.lu
   ·refine⟨λ_ _ h=>absurd hL h,λ_ _ _ =>?_⟩
    have h2:=j.b2 (aZ x.c.R);have h3:=j.ly x.c.R hg;rw[ae (apD (by omega)),au (ia _),List.nil_append];obtain⟨b',v,q1,q2,q3⟩:=XY (n:=n) (by omega) (a:=qH x.c) (b:=w.fD (aZ x.c.R)) hca hB (by show x.c.A+x.c.B<=_;omega) (λKF Em=>gu (bM (mH x.c.R) 32)<|lt ({w with fD:=(dy w.fD (Int.toNat (mH x.c.R)) KF)}:aj) λQp=>lt ({E:=0,V:=Em,W:=0}:aH) λMM=>some (Qp,MM))
    refine⟨b',v,q1,q2,?_⟩;show gu (gO 0 (w.fD (aZ x.c.R)).length 1) _ =_;rw[au (fq (by omega) (by omega)),aJ];refine q3.trans ?_;rw[au (ia _),aJ,aJ];rfl
   ·refine⟨λ_ _ _ =>?_,λ_ _ h=>absurd h hL⟩
    rw[ak (apw (by omega))];rfl
  ·refine⟨λ_ _ =>?_,λ_ h=>absurd h he,λ_ h=>absurd h he⟩
   rw[ak (rF he)];rfl
 ·have hb:(decide (x.c.B<1)||decide (8<x.c.B))=true:=by rw[Bool.or_eq_true,decide_eq_true_eq,decide_eq_true_eq];omega
  rw[hb,ak rfl];exact⟨λ_ =>rfl,λh=>absurd h hB,λh=>absurd h hB,λh=>absurd h hB⟩
theorem agx{γ:Type}(a:aV)(k:Unit->Option (Except Int γ)):tr (rO n a) (λex=>(.error ex)) k=if 1<=a.B/\a.B<=8 then k ()else some (.error 2):=by
 unfold rO;rw[Qf];by_cases h:1<=a.B/\a.B<=8
 ·rw[aps h,aps (by simpa using h)];rfl
 ·rw[apt h,apt (by simpa using h)];rfl
theorem ad9{γ:Type}(r:aS)(a:aV)(hl:0<=r.E.lu/\r.E.lu<=100000)(ha:0<=a.A/\a.A<4294967296)(hb:0<=a.B/\a.B<4294967296)(k:Unit->Option (Except Int γ)):tr (rP n r a) (λex=>(.error ex)) k=if a.A+a.B<=r.E.lu then k ()else some (.error 9):=by
 unfold rP;rw[Qf,aL (x:=a.A) (by omega) (by omega),aL (x:=a.B) (by omega) (by omega),aL (x:=r.E.lu-a.B) (by omega) (by omega)];by_cases h:a.A+a.B<=r.E.lu
 ·rw[aps h,aps (apw (by omega))];rfl
 ·rw[apt h,apt (by simp;omega)];rfl
theorem akT(H:Hc n c x w fr){what:Int}(hw:what=if x.c.Do=4 then 1 else 0)(hd:x.c.Do=3\/x.c.Do=4){g:Nat->aq->Option (Except Int aA)}(hp:g n x=(tr (rO n x.c) (λqG=>(.error qG)) λaW=>tr (cF n x x.c.R what) (λAz=>(.error Az)) λbS=>tr (fb n x x.c.R) (λIe=>(.error Ie)) λgG=>tr (rP n gG x.c) (λabD=>(.error abD)) λeE=>lt ({E:=0,V:=0,W:=0}:aA) λgF=>some (.ok gF))):qe (c+60) x.c fr w (yy g n x) (eo n w x.aE (qH x.c)):=by
 have hn:=H.nn;have nr:=H.cc.cr;have j:=H.j;obtain⟨r1,r2,r3,r4⟩:=Tp H hw;unfold yy;rw[hp,agx];by_cases hB:1<=x.c.B/\x.c.B<=8
 ·rw[aps hB,HX H nr]
  by_cases he:DJ x w x.c.R what=0
  ·have hg:=oP nr.1 he
   have hx:=RK j.rt j.i6 hg;have hlo:=hx.lo;have hhi:=hx.hi;have hsu:=hx.gx.sum;dsimp only at hlo hhi hsu;have e2:(o5 x.ax.aC.T w.aC.T x.c.R).E.lu=(w.aC.T.R (aZ x.c.R)).E.lu:=congrArg bg.lu (Je j.rt hg).e;rw[aps he,ag2 H hg,ad9 _ _ (by rw[e2];omega) H.cc.ca H.cc.cb,e2];by_cases hL:x.c.A+x.c.B<=(w.aC.T.R (aZ x.c.R)).E.lu
   ·obtain⟨b',v,q1,q2,q3⟩:=r4 hB he hL
    rw[aps hL];refine .ok rfl q3 rfl rfl rfl (by decide) (λh=>?_) ((j.byt q1).fA (by omega));rcases hd with e|e
    ·exact absurd e h
    ·exact q2 e
   ·rw[apt hL]
    exact .er (e:=9) (by decide) rfl (r3 hB he hL)
  ·rw[apt he]
   exact .er he rfl (r2 hB he)
 ·rw[apt hB]
  exact .er (e:=2) (by decide) rfl (r1 hB)
theorem ahu(H:Hc n c x w fr)(hd:x.c.Do=3):qe (c+60) x.c fr w (yy ng n x) (eo n w x.aE (qH x.c)):=akT H (what:=0) (by rw[apt (by omega)]) (.inl hd) rfl
theorem adi(H:Hc n c x w fr)(hd:x.c.Do=4):qe (c+60) x.c fr w (yy mm n x) (eo n w x.aE (qH x.c)):=akT H (what:=1) (by rw[aps hd]) (.inr hd) rfl
end
end Go.Proofs.Z
namespace Go.Proofs.Z
open Go Go.Bw
theorem aak(A B:Int):vC (if 129<A then 129 else A) (if 9<B then 9 else B)=vC A B:=by rw[Bool.eq_iff_iff,qP,qP];unfold al4;split<;>split<;>omega
theorem Xo{A B:Int}(h:vC A B=true):(if 129<A then 129 else A)=A/\(if 9<B then 9 else B)=B:=by have:=qP.1 h;unfold al4 at this;exact⟨apt (by omega),apt (by omega)⟩
def Gq(w:aj)(h:Int):bg:=⟨(w.aC.T.R (aZ h)).E.aP.map jB,(w.aC.T.R (aZ h)).E.lu⟩
def yR(A:Int):Int:=(A+31)/32
def NT(w:aj)(h:Int)(l:List (Nat->Int))(k:Int):ai:=Bc w.aC.T h {w.aC.T.R (aZ h)with E:=⟨l,k⟩}
section
variable {n c:Nat} {x:aq} {w:aj} {fr:List Rn}
theorem akc(H:Hc n c x w fr):wr .i64 (if 129<x.c.A then 129 else x.c.A)=(if 129<x.c.A then 129 else x.c.A)/\wr .i64 (if 9<x.c.B then 9 else x.c.B)=(if 9<x.c.B then 9 else x.c.B):=by have h1:=H.cc.ca;have h2:=H.cc.cb;exact⟨aL (by split<;>omega) (by split<;>omega),aL (by split<;>omega) (by split<;>omega)⟩
theorem agB(H:Hc n c x w fr){h:Int}(hg:aT w.aC.T.B h):(o5 x.ax.aC.T w.aC.T h).E=Gq w h:=(Je H.j.rt hg).e
theorem al6(H:Hc n c x w fr){h:Int}(hg:aT w.aC.T.B h){l:List (Nat->Int)}{k:Int}(h4:Nh ⟨l.map jB,k⟩)(hr:∀y∈l.map jB,BB y.At/\BB y.N):
  ∃t',gP n x.ax.aC.T h {o5 x.ax.aC.T w.aC.T h with E:=⟨l.map jB,k⟩}=some (t',0)/\gY t' (NT w h l k)/\j8 (NT w h l k)/\zF (NT w h l k):=by
 have hn:=H.nn;have j:=H.j;have hR:=Je j.rt hg;have hl:l.length<=80:=by have:=h4.gx.len;rw[List.length_map]at this;omega
 have hp:J5 {o5 x.ax.aC.T w.aC.T h with E:=⟨l.map jB,k⟩} {w.aC.T.R (aZ h)with E:=⟨l,k⟩}:=⟨hR.q,rfl,hl,hr,hR.c,hR.c0⟩;have hm:∀m,110<=m->dS m ⟨l,k⟩=some true:=λm hm=>by obtain⟨b,b1,b2⟩:=wJ (n:=m) hm (x:=⟨l,k⟩) hl hr;rw[b1,b2.2 ⟨h4.gx.gd,h4.lo,h4.hi⟩]
 obtain⟨t',s1,s2,s3⟩:=adp (n:=n) (by omega) j.rt j.tt hg hp (j.i6 _ hg).1 (hm n (by omega));refine⟨t',s1,s2,s3,λg Ql=>?_⟩;have h1:=j.i6 g Ql;unfold NT Bc;dsimp only;rw[bK];split
 ·rename_i e;rw[← e];exact⟨h1.1,hm⟩
 ·exact h1
theorem al5(w:aj)(h:Int)(l:List (Nat->Int))(k y:Int):dP (NT w h l k) y=dP w.aC.T y:=S8 _ _ _
theorem af7(w:aj)(h:Int)(l:List (Nat->Int))(k:Int):((NT w h l k).R (aZ h)).E=⟨l,k⟩:=by unfold NT Bc;dsimp only;rw[pI]
theorem af6(w:aj){h y:Int}(l:List (Nat->Int))(k:Int)(hn:aZ y≠aZ h):(NT w h l k).R (aZ y)=w.aC.T.R (aZ y):=by unfold NT Bc;dsimp only;rw[jx _ _ hn]
theorem r9.ext{s:bw}{bk:List Rn}(j:r9 c s w bk fr){h:Int}(hg:aT w.aC.T.B h){l:List (Nat->Int)}{k:Int}{t':av}(r:gY t' (NT w h l k))(tt:j8 (NT w h l k))(i:zF (NT w h l k)){b:List Int}(hb:k<=b.length)(MD:b.length<=3000)
  (hp:∀p,dO (l.map jB) p->Jh w.aC.T h p\/((¬dO fr p/\¬dO bk p)/\∀y,aT w.aC.T.B y->¬Jh w.aC.T y p)):
  r9 c {s with aC:={s.aC with T:=t'}} {w with aC:={w.aC with T:=NT w h l k},fD:=dy w.fD (aZ h) b} bk fr:=by
 have pg:∀{y p},aT w.aC.T.B y->Jh (NT w h l k) y p->Jh w.aC.T y p\/(y=h/\(¬dO fr p/\¬dO bk p)/\∀y,aT w.aC.T.B y->¬Jh w.aC.T y p):=λ{y p} hy hpp=>by
  by_cases e:y=h
  ·subst e
   unfold Jh at hpp;rw[af7]at hpp;rcases hp p hpp with h|h
   ·exact .inl h
   ·exact .inr ⟨rfl,h⟩
  ·refine .inl ?_
   unfold Jh at hpp ⊢;rw[af6 w l k λq=>e (Ap hy hg q)]at hpp;exact hpp
 exact{j with
  rt:=r,tt:=tt,i6:=i,op:=j.op.mv (mvB rfl)
  ly:=λy hy=>by
   show((NT w h l k).R (aZ y)).E.lu<=(dy w.fD (aZ h) b (aZ y)).length;by_cases e:aZ y=aZ h
   ·rw[e,af7,pI];exact hb
   ·rw[af6 w l k e,jx _ _ e];exact j.ly y hy
  b2:=λi=>by
   show(dy w.fD (aZ h) b i).length<=3000;rw[bK];split
   ·exact MD
   ·exact j.b2 i
  fl:=⟨λa b m hm=>by
   obtain⟨f1,f2,f3⟩:=j.fl.k a b m hm;have hu:dP (NT w h l k) m.Region=0:=(al5 _ _ _ _ _).trans f2;exact⟨f1,hu,(congrArg cK.dx ((yu r tt f1 hu).trans (yu j.rt j.tt f1 f2).symm)).trans f3⟩,j.fl.u⟩
  pg:=⟨j.pg.can,λy p hy hq=>by
    rcases pg hy hq with h|h
    ·exact j.pg.f y p hy h
    ·exact h.2.1.1,λy z p hy hz a b=>by
    rcases pg hy a with h1|h1<;>rcases pg hz b with h2|h2
    ·exact j.pg.d y z p hy hz h1 h2
    ·exact absurd h1 (h2.2.2 y hy)
    ·exact absurd h2 (h1.2.2 z hz)
    ·exact h1.1.trans h2.1.symm,j.pg.b,j.pg.bf,λy p hy hq a=>by
    rcases pg hy a with h|h
    ·exact j.pg.bd y p hy hq h
    ·exact h.2.1.2 hq⟩}
theorem agd(H:Hc n c x w fr){y:aq}(hy:y.ax=x.ax)(hc:y.c=x.c)(hg:aT w.aC.T.B x.c.R){l:List (Nat->Int)}{k:Int}(h4:Nh ⟨l.map jB,k⟩)(hf:wc ⟨l.map jB,k⟩ x.c.A x.c.B=true)(ho:vC x.c.A x.c.B=true)(hr:∀y∈l.map jB,BB y.At/\BB y.N):
  ∃t',(bd (nu n ({o5 x.ax.aC.T w.aC.T x.c.R with E:=⟨l.map jB,k⟩}:aS).E x.c.A x.c.B) λMN=>lt ({({o5 x.ax.aC.T w.aC.T x.c.R with E:=⟨l.map jB,k⟩}:aS)with E:=MN.1}:aS) λUP=>tr (lT n y y.c.R UP) (λait=>(.error ait)) λx88=>lt ({E:=0,V:=wr .u64 MN.2.1,W:=0}:aA) λSH=>some (Except.ok (ε:=Int) (SH,x88)))=some (.ok (⟨0,wr .u64 (HD k x.c.B),0⟩,{y with ax:={x.ax with aC:={x.ax.aC with T:=t'}}}))/\gY t' (NT w x.c.R l (HD k x.c.B+x.c.A))/\j8 (NT w x.c.R l (HD k x.c.B+x.c.A))/\zF (NT w x.c.R l (HD k x.c.B+x.c.A)):=by
 have hn:=H.nn;have h5:Nh ⟨l.map jB,HD k x.c.B+x.c.A⟩:=by have hb:=(qP.1 ho);have hu:=(C2 (x:=k) hb.2).1;have hk:=h4.lo;unfold wc at hf;rw[apv,decide_eq_true_eq]at hf;refine⟨h4.gx,?_,hf.2⟩;show 0<=HD k x.c.B+x.c.A;dsimp only at hk;omega
 obtain⟨t',s1,s2,s3,s4⟩:=al6 H hg h5 hr;refine⟨t',?_,s2,s3,s4⟩;rw[ah (adJ (n:=n) (by omega) h4 x.c.A x.c.B),aps hf,aJ];unfold lT;rw[hc,hy];dsimp only;rw[ah s1,rU,aps rfl];rfl
end
end Go.Proofs.Z
namespace Go.Proofs.Z
open Go Go.Bw
section
variable {n c:Nat} {x:aq} {w:aj} {fr:List Rn}
theorem ZM(H:Hc n c x w fr)(hg:aT w.aC.T.B x.c.R)(a3:Nat->Int)(np at_ pages:Int)(E:bR)(hE:Gx (E.aP.map jB))(hrr:E.aP.length<=80)(hr:∀y∈E.aP.map jB,BB y.At/\BB y.N)(hat:0<=at_/\at_+x.c.A<=32*ep (E.aP.map jB))(hp:pages=0\/(0<pages/\a3 1=np)):
  ∃b:List Int,(b.length:Int)=32*ep (E.aP.map jB)/\(lt ({E with lu:=0}:bR) λMz=>
 cl (((decide (0<pages))==true)&&(((a3 1)!=np)==false)) (dS n Mz) default λEm=>
 cn ((decide (0<pages)&&(((a3 1)!=np)||(!Em)))) (
 lt ({E:=2,V:=0,W:=0}:aH) λBh=>
 some (w,Bh,pages)) (
 lt ({Mz with lu:=wr .i64 (at_+x.c.A)}:bR) λx86=>
 gu (bM (mH x.c.R) 32)<|
 lt ({w with aC:={w.aC with T:={w.aC.T with R:=(dy w.aC.T.R (Int.toNat (mH x.c.R)) ({(w.aC.T.R (Int.toNat (mH x.c.R)))with E:=x86}))}}}:aj) λHg=>
 bd (gL n x86) λQp=>
 gu (decide (0<=(Qp.length:Int)))<|
 gu (gO 0 (Int.toNat (Qp.length:Int)) 1)<|
 lt (List.replicate (Int.toNat (Qp.length:Int)) 0:List Int) λSH=>
 gu (bM (mH x.c.R) 32)<|
 lt ((Hg.fD (Int.toNat (mH x.c.R))).take SH.length++SH.drop (Hg.fD (Int.toNat (mH x.c.R))).length:List Int) λYN=>
 gu (bM (mH x.c.R) 32)<|
 lt ({Hg with fD:=(dy Hg.fD (Int.toNat (mH x.c.R)) YN)}:aj) λSO=>
 lt ({E:=0,V:=wr .u64 at_,W:=0}:aH) λKH=>
 some (SO,KH,pages)))=some ({w with aC:={w.aC with T:=NT w x.c.R E.aP (at_+x.c.A)},fD:=dy w.fD (aZ x.c.R) b},⟨0,wr .u64 at_,0⟩,pages):=by
 have hn:=H.nn;have hca:=H.cc.ca;have hsu:=hE.sum;have MC:=ia x.c.R;have hm:dS n {E with lu:=0}=some true:=by obtain⟨b,b1,b2⟩:=wJ (n:=n) (by omega) (x:={E with lu:=0}) hrr hr;rw[b1,b2.2 ⟨hE.gd,Int.le_refl _,by have:=hE.pos;dsimp only;omega⟩]
 have hc:∀y:Bool,y=true\/y=default->(pages=0\/y=true)->(decide (0<pages)&&(((a3 1)!=np)||(!y)))=false:=λy _ h2=>by
  rcases hp with h|⟨h,h1⟩
  ·rw[apD (by omega)];rfl
  ·rcases h2 with e|e
   ·omega
   ·rw[h1,e];simp
 have hbl:=xM hE.gd.Yn;refine⟨(w.fD (aZ x.c.R)).take (oD (E.aP.map jB)).length++(List.replicate (oD (E.aP.map jB)).length 0).drop (w.fD (aZ x.c.R)).length,?_,?_⟩
 ·rw[List.length_append,List.length_take,List.length_drop,List.length_replicate, ← hbl];omega
 rw[aJ,ck hm,hc _ (by cases(((decide (0<pages))==true)&&(((a3 1)!=np)==false))<;>simp) (by
  rcases hp with h|⟨h,h1⟩
  ·exact .inl h
  ·refine .inr ?_
   rw[apw h,h1];simp),ae rfl,aJ,au MC,aJ,aL (x:=at_+x.c.A) (by omega) (by omega)]
 have hb:=E6 (n:=n) (by omega) (x:=⟨E.aP,at_+x.c.A⟩) hE;dsimp only at hb ⊢;rw[ah hb,au (apw (Int.natCast_nonneg _)),apx,au (fq (by omega) (by omega)),aJ,au MC,aJ,au MC,aJ,aJ,List.length_replicate];rfl
theorem Vg(H:Hc n c x w fr)(a3:Nat->Int)(np pages:Int)(E:bR)(hrr:E.aP.length<=80)(hr:∀y∈E.aP.map jB,BB y.At/\BB y.N)(hp:0<pages/\¬(a3 1=np/\CY (E.aP.map jB)))(K:bR->Option (aj×aH×Int)):
  (lt ({E with lu:=0}:bR) λMz=>
 cl (((decide (0<pages))==true)&&(((a3 1)!=np)==false)) (dS n Mz) default λEm=>
 cn ((decide (0<pages)&&(((a3 1)!=np)||(!Em)))) (
 lt ({E:=2,V:=0,W:=0}:aH) λBh=>
 some (w,Bh,pages)) (K Mz))=some (w,⟨2,0,0⟩,pages):=by
 have hn:=H.nn;obtain⟨b,b1,b2⟩:=wJ (n:=n) (by omega) (x:={E with lu:=0}) hrr hr;rw[aJ,ck b1,apw hp.1];have:((true)&&(((a3 1)!=np)||(!(bif (((true)==true)&&(((a3 1)!=np)==false))then b else default))))=true:=by
  by_cases e:a3 1=np
  ·rw[e]
   have hb:b=false:=by
    rw[← Bool.not_eq_true]
    exactλh=>hp.2 ⟨e,(b2.1 h).1⟩
   rw[hb];simp
  ·have e2:(a3 1!=np)=true:=by simpa using e
   rw[e2];rfl
 rw[this,ak rfl];rfl
theorem aal{A B:Int}(h:vC A B=true):1<=yR A/\A<=32*yR A/\yR A<=4:=by have:=(qP.1 h).1;unfold yR;omega
theorem akD(A B e:Int):(bif ((if vC A B=true then yR A else 0)==0)then(2:Int)else e)=if vC A B=true then e else 2:=by
 by_cases h:vC A B=true
 ·have:=aal h
  rw[aps h,aps h,jC (by omega)];rfl
 ·rw[apt h,apt h];rfl
theorem Wp(H:Hc n c x w fr)(aa4:x.pS=0)(hrun:BB x.run.At/\BB x.run.N)(hpg:∀p,x.run.At<=p->p<x.run.At+x.run.N->(¬dO fr p/\¬dO x.gX p)/\∀y,aT w.aC.T.B y->¬Jh w.aC.T y p){a3:Nat->Int}(ha3:jB a3=x.run):
  (x.GJ=false->qe (c+60) x.c fr w (fO n x) (bd (dQ n w x.aE (qH x.c) a3) λy=>some (y.1,y.2.1)))/\
  (x.GJ=true->x.run.N=0->∃w' v pages,dQ n w x.aE (qH x.c) a3=some (w',v,pages)/\((∃e,e≠0/\fO n x=some (.error e)/\pages=0)\/∃x':Int×aq,fO n x=some (.ok (⟨0,x'.1,0⟩,x'.2))/\x'.2.pS=pages)):=by
 have hn:=H.nn;have nr:=H.cc.cr;have hca:=H.cc.ca;have hcb:=H.cc.cb;have j:=H.j;have ha1:a3 1=x.run.N:=congrArg aB.N ha3;unfold fO dQ;rw[(akc H).1,(akc H).2,ah (aat (n:=n) (by omega) _ _),ah (QL (n:=n) (by omega) _ _)];rw[show(qH x.c).R=x.c.R from rfl,show(qH x.c).A=x.c.A from rfl,show(qH x.c).B=x.c.B from rfl,ah (HW H nr.1 1),akR];rw[show(if vC x.c.A x.c.B=true then(x.c.A+31)/32 else 0)=if vC x.c.A x.c.B=true then yR x.c.A else 0 from rfl,akD,aak,Qf];by_cases ho:vC x.c.A x.c.B=true;rotate_left
 ·rw[apt ho,apt (by simp),apt ho,ak (b:=((2:Int)!=0)) rfl]
  exact⟨λ_ => .er (e:=2) (by decide) rfl rfl,λ_ _ =>⟨w,_,0,rfl, .inl ⟨2,by decide,rfl,rfl⟩⟩⟩
 obtain⟨hs1,Rs⟩:=Xo ho;obtain⟨np0,np1,np2⟩:=aal ho;rw[aps ho,aps ho,aps ho,aps (by simp),HX H nr,hs1,Rs];by_cases he:DJ x w x.c.R 1=0;rotate_left
 ·rw[apt he,ak (rF he)]
  exact⟨λ_ => .er he rfl rfl,λ_ _ =>⟨w,_,0,rfl, .inl ⟨_,he,rfl,rfl⟩⟩⟩
 have hg:=oP nr.1 he;have h4:=RK j.rt j.i6 hg;have hR:=Je j.rt hg;have hq:=(j.i6 _ hg).1;have hsu:=h4.gx.sum;have hpos:=h4.gx.pos;have hln:=h4.gx.len;have hlo:=h4.lo;have hhi:=h4.hi;dsimp only at hsu hpos hln;have hnp:yR x.c.A=(x.c.A+31)/32:=rfl;have hex:=agB H hg;have hqv:(o5 x.ax.aC.T w.aC.T x.c.R).cu=(w.aC.T.R (aZ x.c.R)).cu:=hR.q;rw[aps he,he,ae (b:=((0:Int)!=0)) rfl,ag2 H hg,ah (air H hg),aJ (α:=aS->aq->Option (Except Int (aA×aq))),hex];rw[ah (VY (n:=n) (by omega) (e:=Gq w x.c.R) h4 x.c.A x.c.B)];dsimp only;rw[ah (Tn (n:=n) (by omega) (x:=(w.aC.T.R (aZ x.c.R)).E) (e:=Gq w x.c.R) h4 rfl rfl x.c.A x.c.B),aJ (α:=Int->Int->bR->Option (aj×aH×Int))];unfold VZ;by_cases hf:wc (Gq w x.c.R) x.c.A x.c.B=true
 ·have hu:=C2 (x:=(Gq w x.c.R).lu) (qP.1 ho).2
  have hf2:=hf;unfold wc at hf2;rw[apv,decide_eq_true_eq]at hf2;dsimp only[Gq]at hlo hhi hu hf2;obtain⟨t',p1,p2,p3,p4⟩:=agd H (y:=x) rfl rfl hg (l:=(w.aC.T.R (aZ x.c.R)).E.aP) (k:=(w.aC.T.R (aZ x.c.R)).E.lu) h4 hf ho hR.r;obtain⟨b,b1,b2⟩:=ZM H hg a3 (yR x.c.A) (HD (w.aC.T.R (aZ x.c.R)).E.lu x.c.B) 0 (w.aC.T.R (aZ x.c.R)).E h4.gx hR.n hR.r ⟨by omega,hf2.2⟩ (.inl rfl);rw[aps hf,aps hf,ae (b:= !true) rfl,ae (b:=decide _) (apD (by show¬HD (w.aC.T.R (aZ x.c.R)).E.lu x.c.B<0;omega))];have hv:o5 x.ax.aC.T w.aC.T x.c.R={o5 x.ax.aC.T w.aC.T x.c.R with E:=⟨(w.aC.T.R (aZ x.c.R)).E.aP.map jB,(w.aC.T.R (aZ x.c.R)).E.lu⟩}:=by rw[show(⟨(w.aC.T.R (aZ x.c.R)).E.aP.map jB,(w.aC.T.R (aZ x.c.R)).E.lu⟩:bg)=Gq w x.c.R from rfl, ← hex]
  rw[hv];have hj:=j.ext hg p2 p3 p4 (b:=b) (by omega) (by omega) (λp hp=> .inl hp);refine⟨λ_ => .ok p1 ((ah b2).trans rfl) rfl rfl rfl (by dsimp only;decide) (λ_ =>rfl) (hj.fA (by omega)),λ_ _ =>⟨_,_,0,b2, .inr ⟨(_,_),p1,aa4⟩⟩⟩
 ·have hrq:∀y∈(w.aC.T.R (aZ x.c.R)).E.aP.map jB,BB y.At/\BB y.N:=hR.r
  have hb5:=E6 (n:=n) (by omega) (x:=(w.aC.T.R (aZ x.c.R)).E) h4.gx;have hbl:=xM h4.gx.gd.Yn;dsimp only at hbl;have hmap:((w.aC.T.R (aZ x.c.R)).E.aP++[a3]).map jB=(w.aC.T.R (aZ x.c.R)).E.aP.map jB++[x.run]:=by rw[List.map_append,List.map_cons,List.map_nil,ha3]
  have SA:∀y∈((w.aC.T.R (aZ x.c.R)).E.aP++[a3]).map jB,BB y.At/\BB y.N:=λy hy=>by
   rw[hmap]at hy;rcases List.mem_append.1 hy with h|h
   ·exact hrq y h
   ·rw[List.mem_singleton.1 h];exact hrun
  have Yq:((w.aC.T.R (aZ x.c.R)).E.aP++[a3]).length<=80:=by rw[List.length_append];rw[List.length_map]at hln;simp;omega
  have apd:ep (Gq w x.c.R).aP<=64:=hsu;have ao1:0<=ep (Gq w x.c.R).aP:=hpos;have ht:Int.tdiv ((oD ((w.aC.T.R (aZ x.c.R)).E.aP.map jB)).length:Int) 32=ep ((w.aC.T.R (aZ x.c.R)).E.aP.map jB):=by rw[hbl,Qz (by omega)];omega
  rw[apt hf,apt hf,ak (b:= !false) rfl,ak (b:=decide ((-1:Int)<0)) rfl,ah (TA (n:=n) (by omega) (e:=Gq w x.c.R) h4),Qf,ah hb5,au (ia x.c.R),ht];rw[show(w.aC.T.R (mH x.c.R).toNat).cu=(w.aC.T.R (aZ x.c.R)).cu from rfl,aL (x:=ep ((w.aC.T.R (aZ x.c.R)).E.aP.map jB)) (by omega) (by omega),aL (x:=ep (Gq w x.c.R).aP+(x.c.A+31)/32) (by omega) (by omega),aL (x:=ep ((w.aC.T.R (aZ x.c.R)).E.aP.map jB)+yR x.c.A) (by omega) (by omega)];by_cases hQ:ep ((w.aC.T.R (aZ x.c.R)).E.aP.map jB)+yR x.c.A<=(w.aC.T.R (aZ x.c.R)).cu;rotate_left
  ·rw[apt (by rw[decide_eq_true_eq,hqv];exact hQ),ak (apw (by omega))]
   exact⟨λ_ => .er (e:=6) (by decide) rfl rfl,λ_ _ =>⟨w,_,0,rfl, .inl ⟨6,by decide,rfl,rfl⟩⟩⟩
  rw[aps (by rw[decide_eq_true_eq,hqv];exact hQ),ae (b:=decide _) (apD (by omega)),ah hb5];rw[List.length_append]at Yq;have hl3:(w.aC.T.R (aZ x.c.R)).E.aP.length+1<=80:=Yq;rw[← List.length_append]at Yq;rw[List.nil_append,au (fq (by simp;omega) (by simp;omega)),aJ (α:=List (Nat->Int)),au (fq (by omega) (by omega)),aJ (α:=List (Nat->Int)),aJ (α:=bR)];refine⟨λha=>?_,λha hz=>?_⟩
  ·rw[ae ha]
   rw[ah (aey (n:=n) (by omega) (e:=Gq w x.c.R) h4 x.run),aJ];have e1:(⟨(Gq w x.c.R).aP++[x.run],32*ep (Gq w x.c.R).aP⟩:bg)=⟨((w.aC.T.R (aZ x.c.R)).E.aP++[a3]).map jB,32*ep ((w.aC.T.R (aZ x.c.R)).E.aP.map jB)⟩:=by rw[hmap];rfl
   rw[e1];dsimp only;obtain⟨b,b1,b2⟩:=Q9 (n:=n) (by omega) (e:=⟨((w.aC.T.R (aZ x.c.R)).E.aP++[a3]).map jB,32*ep ((w.aC.T.R (aZ x.c.R)).E.aP.map jB)⟩) (by dsimp only;rw[List.length_map];exact Yq) SA;dsimp only at b2;have hN:x.run.N=(x.c.A+31)/32↔a3 1=yR x.c.A:=by rw[ha1];rfl
   rw[ck b1,Qf];by_cases hok:a3 1=yR x.c.A/\CY (((w.aC.T.R (aZ x.c.R)).E.aP++[a3]).map jB)
   ·have hsn:ep (((w.aC.T.R (aZ x.c.R)).E.aP++[a3]).map jB)=ep ((w.aC.T.R (aZ x.c.R)).E.aP.map jB)+yR x.c.A:=by
     rw[hmap,xm, ← hok.1,ha1];simp[ep]
    have hgx:=VO hok.2;have MC:=hgx.sum;have hbt:b=true:=b2.2 ⟨hok.2,MC,by omega,by omega⟩;have h4':Nh ⟨((w.aC.T.R (aZ x.c.R)).E.aP++[a3]).map jB,32*ep ((w.aC.T.R (aZ x.c.R)).E.aP.map jB)⟩:=⟨hgx,by dsimp only;omega,by dsimp only;omega⟩;have hal:=(qP.1 ho).2;have Qj:HD (32*ep ((w.aC.T.R (aZ x.c.R)).E.aP.map jB)) x.c.B=32*ep ((w.aC.T.R (aZ x.c.R)).E.aP.map jB):=by obtain⟨u1,u2,u3,u4⟩:=C2 (x:=32*ep ((w.aC.T.R (aZ x.c.R)).E.aP.map jB)) hal;refine(u4 _ (Int.le_refl _) u1 ?_).symm;rcases hal with h|h|h|h<;>rw[h]<;>omega
    have hf':wc ⟨((w.aC.T.R (aZ x.c.R)).E.aP++[a3]).map jB,32*ep ((w.aC.T.R (aZ x.c.R)).E.aP.map jB)⟩ x.c.A x.c.B=true:=by unfold wc;rw[ho,Qj,hsn,Bool.true_and,decide_eq_true_eq];omega
    obtain⟨t',p1,p2,p3,p4⟩:=agd H (y:={x with pS:=(x.c.A+31)/32}) rfl rfl hg (l:=(w.aC.T.R (aZ x.c.R)).E.aP++[a3]) (k:=32*ep ((w.aC.T.R (aZ x.c.R)).E.aP.map jB)) h4' hf' ho SA;obtain⟨bb,c1,c2⟩:=ZM H hg a3 (yR x.c.A) (32*ep ((w.aC.T.R (aZ x.c.R)).E.aP.map jB)) (yR x.c.A) ⟨(w.aC.T.R (aZ x.c.R)).E.aP++[a3],(w.aC.T.R (aZ x.c.R)).E.lu⟩ hgx Yq SA ⟨by omega,by dsimp only;omega⟩ (.inr ⟨by omega,hok.1⟩);rw[Qj]at p1 p2 p3 p4;have hb3:(x.run.N==(x.c.A+31)/32)=true:=by simpa using hN.2 hok.1
    rw[aps (by rw[hb3,hbt];rfl)];dsimp only at c1;have hj:=j.ext hg p2 p3 p4 (b:=bb) (by omega) (by omega) (λp hp=>by
     rw[hmap]at hp;rcases C8.1 hp with h|h
     ·exact .inl h
     ·exact .inr (hpg p h.1 h.2))
    rw[hbl];exact .ok p1 ((ah c2).trans rfl) rfl rfl rfl (by dsimp only;decide) (λ_ =>rfl) (hj.fA (by omega))
   ·have r2:=Vg H a3 (yR x.c.A) (yR x.c.A) ⟨(w.aC.T.R (aZ x.c.R)).E.aP++[a3],(w.aC.T.R (aZ x.c.R)).E.lu⟩ Yq SA ⟨by omega,hok⟩
    have hz:((x.run.N==(x.c.A+31)/32)&&(bif ((x.run.N==(x.c.A+31)/32)==true)then b else default))=false:=by
     by_cases hx:a3 1=yR x.c.A
     ·have hb:b=false:=by
       rw[← Bool.not_eq_true]
       exactλh=>hok ⟨hx,(b2.1 h).1⟩
      rw[hb];cases(x.run.N==(x.c.A+31)/32)<;>rfl
     ·rw[jC λh=>hx (hN.1 h)];rfl
    rw[hz,apt (by simp)];exact .er (e:=2) (by decide) rfl ((ah (r2 _)).trans rfl)
  ·rw[ak ha]
   refine⟨w,_,yR x.c.A,Vg H a3 (yR x.c.A) (yR x.c.A) ⟨(w.aC.T.R (aZ x.c.R)).E.aP++[a3],(w.aC.T.R (aZ x.c.R)).E.lu⟩ Yq SA ⟨by omega,λh=>?_⟩ _, .inr ⟨(_,_),rfl,rfl⟩⟩;have:=h.1;omega
end
end Go.Proofs.Z
namespace Go.Proofs.Z
open Go Go.Bw
section
variable {n c:Nat} {x:aq} {w:aj} {fr:List Rn}
theorem Pn(H:Hc n c x w fr){a:Int}(h0:0<=a){γ:Type}(k:Unit->Option (Except Int γ)):tr (iI n x a) (λex=>(.error ex)) k=if(decide (a<8)&&x.ax.cH a.toNat)=true then k ()else some (.error 2):=by
 unfold iI;rw[au (by
  by_cases h:a<8
  ·rw[bG h0 h,Bool.or_true]
  ·rw[apD h];rfl),Qf]
 split<;>rfl
theorem Pm(H:Hc n c x w fr){a:Int}(h0:0<=a):dD n w a=some (decide (a<8)&&x.ax.cH a.toNat):=by
 have a7:=Ux a;unfold dD;rw[bG a7.1 (by omega),Bool.or_true,au rfl,apw h0,Bool.true_and];by_cases h:a<8
 ·rw[apw h,Bool.true_and,Bool.true_and,L6 ⟨h0,h⟩,H.j.al _ (by omega)]
 ·rw[apD h];rfl
def JU(x:aq)(w:aj)(h:Int):Int:=if aM w.aC.T.B h=true then(if di w.aC.T h=h/\(lB w.aC.T x.ax.aC.O h).dx=3 then(if zV (lB w.aC.T x.ax.aC.O h).dU x.aE.toNat=true then 0 else 5)else 12)else 4
theorem TX(H:Hc n c x w fr){h:Int}(hr:0<=h/\h<4294967296){γ:Type}(k:Unit->Option (Except Int γ)):tr (iK n x h) (λex=>(.error ex)) k=if JU x w h=0 then k ()else some (.error (JU x w h)):=by
 have hn:=H.nn;have j:=H.j;have ht:=H.tk;have e:iK n x h=if JU x w h=0 then some (.ok ())else some (.error (JU x w h)):=by
  unfold iK JU;rw[ah (nU j.rt.bj hr.1 hr.2),Qf];cases hg:aM w.aC.T.B h with
  |false=>rfl
  |true=>
   have hG:=(qO j.op.q h).hr;rw[aps rfl,ah (EO (by omega) j.rt j.tt hr.1 hr.2),ah (EK (by omega) j.rt j.tt hr.1 hr.2),Qf,au (apw ht.1),Qf,akr hG ht];by_cases h1:di w.aC.T h=h/\(lB w.aC.T x.ax.aC.O h).dx=3
   ·rw[aps rfl,aps h1,aps (by simpa using h1)]
    split<;>rfl
   ·rw[aps rfl,apt h1,apt (by simpa using h1)];rfl
 rw[e];split<;>rfl
theorem TW(H:Hc n c x w fr){h:Int}(hr:0<=h):nc n w x.aE h=some (JU x w h):=by
 have hn:=H.nn;have j:=H.j;have ht:=H.tk;have hl:=j.rl;unfold nc JU;rw[ah (EN (n:=n) (by omega) j.rt j.tt j.op.l (by omega) hr),ah (cm (by omega) j.rt hr)];cases hg:aM w.aC.T.B h with
 |false=>rfl
 |true=>
  have hR:=yO j.rt j.tt j.op hr;rw[ae (b:= !true) rfl,ah (Ca (n:=n) (by omega) j.rt j.tt hr),au (bG ht.1 ht.2), ← hR.k,hR.h _ (by omega),aps rfl];by_cases h1:di w.aC.T h=h/\(lB w.aC.T x.ax.aC.O h).dx=3
  ·rw[aps h1,ae (by rw[h1.1,h1.2];simp)]
   cases zV (lB w.aC.T x.ax.aC.O h).dU x.aE.toNat<;>rfl
  ·rw[apt h1,ak (by rw[Bool.or_eq_true,bne_iff_ne,bne_iff_ne];exact(Classical.em (di w.aC.T h=h)).elim (λq=> .inr λk=>h1 ⟨q,k⟩) .inl)]
theorem aii(H:Hc n c x w fr){h:Int}(h0:0<=h)(e:JU x w h=0):aT w.aC.T.B h/\dP w.aC.T h=0/\(lB w.aC.T x.ax.aC.O h).dx=3/\zV (lB w.aC.T x.ax.aC.O h).dU x.aE.toNat=true:=by
 unfold JU at e;split at e
 ·rename_i hg
  split at e
  ·rename_i h1
   split at e
   ·rename_i h2
    exact⟨⟨h0,hg⟩,(EL H.j.rt H.j.tt ⟨h0,hg⟩).1 h1.1,h1.2,h2⟩
   ·exact absurd e (by decide)
  ·exact absurd e (by decide)
 ·exact absurd e (by decide)
end
section
variable {n:Nat} {t:av} {w:ai} {o:bN} {v:aR}
theorem TY(hn:200<=n)(r:gY t w)(tt:j8 w)(p:Dk w o v)(hr:v.cS.length+100<=n/\v.cS.length<=100000){h aE:Int}(h0:0<=h)(h1:h<4294967296)(hold:Bool):
  ∃o' m v' e,jX n o t h aE hold=some (o',m,e)/\jq n v w h aE hold=some (v',tZ (zV m) 8,e)/\(0<=m/\m<=255)/\Dk w o' v'/\v'.cS.length<=v.cS.length+1/\
   (∀g,aT w.B g->dP w g=0->g≠h->lB w o' g=lB w o g)/\e=mK (pM w h) (DF w v h) aE hold/\(e≠0->o'=o/\v'=v):=by
 obtain⟨o',m,v',e,q1,q2,q3,q4,q5⟩:=alP (n:=n) hn r tt p hr (aE:=aE) h0 h1 hold;have k1:=QW (n:=n) hn r tt p (aE:=aE) h0 h1 hold;have k2:=QM (n:=n) hn r tt p.l hr (aE:=aE) h0 hold;refine⟨o',m,v',e,q1,q2,q3,q4,q5,?_⟩;rw[k1]at q1;rw[k2]at q2;have q1:=Option.some.inj q1;have q2:=Option.some.inj q2;by_cases hz:mK (pM w h) (DF w v h) aE hold=0
 ·rw[aps hz]at q1 q2
  obtain⟨rfl,q⟩:=Prod.mk.inj q1;obtain⟨_,rfl⟩:=Prod.mk.inj q;have hh:=(OO h0 (Pt hz).1).1;refine⟨λg g1 g2 g3=>?_,hz.symm,λh=>absurd rfl h⟩;rw[qn r tt hh g1 g2 g3,qn r tt hh g1 g2 g3]
 ·rw[apt hz]at q1 q2
  obtain⟨rfl,q⟩:=Prod.mk.inj q1;obtain⟨_,rfl⟩:=Prod.mk.inj q;exact⟨λ_ _ _ _ =>rfl,rfl,λ_ =>⟨rfl,(Prod.mk.inj q2).1.symm⟩⟩
theorem afN(hn:200<=n){h aE:Int}{o':bN}{m e:Int}(q:jX n o t h aE true=some (o',m,e)):qM n o t h aE=some (o',e):=by unfold qM;rw[ah q]
theorem akL(hn:200<=n){h aE:Int}{o':bN}{m e:Int}(q:jX n o t h aE false=some (o',m,e))(hm:0<=m/\m<=255):uo n o t h aE=some (o',tZ (zV m) 8,e):=by unfold uo;rw[ah q,ah (ahc hm.1 hm.2),adN hm]
end
section
variable {n c:Nat} {x:aq} {w:aj} {fr:List Rn}
theorem ado(H:Hc n c x w fr)(hd:x.c.Do=10):qe (c+60) x.c fr w (jL n x) (gJ n w x.aE (qH x.c)):=by
 have nr:=H.cc.cr;have hca:=H.cc.ca;have hn:=H.nn;have j:=H.j;have hl:=j.rl;unfold jL gJ;simp only[qH,hd,Int.reduceBEq,Bool.true_and,amm (Pm H hca.1),cnF];rw[Pn H hca.1];by_cases ha:(decide (x.c.A<8)&&x.ax.cH x.c.A.toNat)=true
 ·rw[aps ha,ha,ae (b:= !true) rfl,TX H nr,ah (TW H nr.1)]
  by_cases hh:JU x w x.c.R=0
  ·obtain⟨g1,g2,g3,g4⟩:=aii H nr.1 hh
   obtain⟨o',m,v',e,q1,q2,q3,q4,q5,q6,q7,q8⟩:=TY (n:=n) (by omega) j.rt j.tt j.op (by omega) (aE:=x.c.A) nr.1 nr.2 true;rw[aps hh,hh,ae (b:=((0:Int)!=0)) rfl,aL (x:=x.c.A) (by omega) (by omega),ah (afN (by omega) q1),ah q2];dsimp only;rw[rU];by_cases he:e=0
   ·rw[aps he,ae (b:=(e !=0)) (by rw[he];rfl)]
    refine .ok rfl rfl rfl rfl rfl (by decide) (λ_ =>rfl) (j.own q4 (by omega) λa b m hm=>?_);obtain⟨f1,f2,f3⟩:=j.fl.k a b m hm;rw[q6 _ f1 f2 λq=>by rw[q,g3]at f3;exact absurd f3 (by decide)];exact f3
   ·rw[apt he,ak (rF he)]
    exact .er he rfl rfl
  ·rw[apt hh,ak (rF hh)]
   exact .er hh rfl rfl
 ·have ha:(decide (x.c.A<8)&&x.ax.cH x.c.A.toNat)=false:=by simpa using ha
  rw[apt (by rw[ha];decide),ha];exact .er (e:=2) (by decide) rfl rfl
structure aoZ(x x':aq)(w w':aj)(h:Int):Prop where
 b:x'.ax.fQ=x.ax.fQ
 a:x'.ax.cH=x.ax.cH
 t:x'.aE=x.aE
 rb:w'.tw=w.tw
 ra:w'.cH=w.cH
 s:∀g,aT w.aC.T.B g->dP w.aC.T g=0->g≠h->aT w'.aC.T.B g/\dP w'.aC.T g=0/\lB w'.aC.T x'.ax.aC.O g=lB w.aC.T x.ax.aC.O g
theorem V9(hn:c+300<=n/\3000<=n/\c<=60000)(j:r9 c x.ax w x.gX fr){h aE:Int}(hg:aT w.aC.T.B h)(hu:dP w.aC.T h=0)(hk:(lB w.aC.T x.ax.aC.O h).dx=3)(ht:0<=aE/\aE<8)(hh:zV (lB w.aC.T x.ax.aC.O h).dU aE.toNat=true):
  ∃x' w',jO n x h aE=some (.ok x')/\kH n w h aE=some w'/\r9 (c+1) x'.ax w' x'.gX fr/\aoZ x x' w w' h:=by
 have hl:=j.rl;have hlt:=fm hg.2;obtain⟨o',m,v',e,q1,q2,q3,q4,q5,q6,q7,q8⟩:=TY (n:=n) (by omega) j.rt j.tt j.op (by omega) (aE:=aE) hg.1 hlt false;have he:e=0:=by have hR:=yO j.rt j.tt j.op hg.1;rw[q7];unfold mK pM;rw[hg.2,(EL j.rt j.tt hg).2 hu, ← hR.k,hk,hR.h _ (by omega),hh];simp;omega
 subst he;have j1:=j.own (c':=c+1) q4 (by omega) λa b m hm=>by obtain⟨f1,f2,f3⟩:=j.fl.k a b m hm;rw[q6 _ f1 f2 λq=>by rw[q,hk]at f3;exact absurd f3 (by decide)];exact f3
 unfold jO kH;rw[ah (akL (by omega) q1 q3),ah q2,rU,aps rfl,aJ];dsimp only;by_cases hz:tZ (zV m) 8=0
 ·obtain⟨k',t',g1,g2,g3⟩:=Px (n:=n) (by omega) j1 hg.1 hlt (λa b m hm hu2=>by
   obtain⟨f1,f2,f3⟩:=j.fl.k a b m hm;have:=zc j.rt j.tt f2 hu2 hg.1;rw[this,hk]at f3;exact absurd f3 (by decide)) {x with ax:={x.ax with aC:={x.ax.aC with O:=o'}}} rfl rfl
  rw[ak (b:=(tZ (zV m) 8==0)) (by rw[hz];rfl),ak (b:=(tZ (zV m) 8==0)) (by rw[hz];rfl),ah g1,ah g2];refine⟨_,_,rfl,rfl,g3,rfl,rfl,rfl,rfl,rfl,λg a b d=>?_⟩;obtain⟨s1,s2,s3⟩:=OH j.rt j.tt j.i6 (h:=h) a b λhm=>d (zc j.rt j.tt b hm hg.1);exact⟨s1,s2,(s3 _).trans (q6 g a b d)⟩
 ·rw[ae (b:=(tZ (zV m) 8==0)) (jC hz),ae (b:=(tZ (zV m) 8==0)) (jC hz)]
  exact⟨_,_,rfl,rfl,j1,rfl,rfl,rfl,rfl,rfl,λg a b d=>⟨a,b,q6 g a b d⟩⟩
theorem aiF(H:Hc n c x w fr)(hd:x.c.Do=11):qe (c+60) x.c fr w (kO n x) (gJ n w x.aE (qH x.c)):=by
 have nr:=H.cc.cr;unfold kO gJ;simp only[qH,hd,Int.reduceBEq,Bool.false_and,NY,cnF];rw[TX H nr,ah (TW H nr.1)];by_cases hh:JU x w x.c.R=0
 ·obtain⟨g1,g2,g3,g4⟩:=aii H nr.1 hh
  obtain⟨x',w',d1,d2,d3,_⟩:=V9 (n:=n) (by have:=H.nn;omega) H.j g1 g2 g3 H.tk g4;rw[aps hh,hh,ae (b:=((0:Int)!=0)) rfl,d1,ak rfl,ah d2];exact .ok rfl rfl rfl rfl rfl (by decide) (λ_ =>rfl) (d3.fA (by omega))
 ·rw[apt hh,ak (rF hh)]
  exact .er hh rfl rfl
end
end Go.Proofs.Z
namespace Go.Proofs.Z
open Go Go.Bw
section
variable {n c:Nat} {x:aq} {w:aj} {fr:List Rn}
theorem T7(H:Hc n c x w fr)(hd:x.c.Do=13):qe (c+60) x.c fr w (iA n x) (iq n w x.aE (qH x.c)):=by
 have hcs:=H.cc.cs;have hn:=H.nn;have j:=H.j;have hto:=(K4 j.rk x.c.S).to;unfold iA iq;simp only[qH,hd,Int.reduceBEq,cnT,aJ];rw[ah (aeE (n:=n) j.rk hcs.1 hcs.2),ah (Kl (n:=n) (by omega) j.rk hcs.1)];dsimp only;rw[rU];by_cases hg:aM w.aC.K.B x.c.S=true
 ·rw[hg,aps (by rfl),ae (b:=((bif true then(0:Int)else 4)!=0)) rfl,Qf,aL (by omega) (by omega)]
  show qe _ _ _ _ _ (cn ((zU x.ax.aC.K w.aC.K x.c.S).To !=x.aE) _ _);by_cases ht:(zU x.ax.aC.K w.aC.K x.c.S).To=x.aE
  ·obtain⟨k',z',l,e,r1,r2,r3⟩:=ZG (n:=n) (by omega) j.rk j.tk hcs.1 hcs.2
   obtain⟨p1,p2⟩:=r3.next j.rk j.tk
   rw[aps (by simpa using ht),ae (by simpa using ht),ah r1,ah r2];exact .ok rfl rfl rfl rfl rfl (by decide) (λ_ =>rfl) ((j.Sr p1 p2).fA (by omega))
  ·rw[apt (by simpa using ht),ak (by simpa using ht)]
   exact .er (e:=5) (by decide) rfl rfl
 ·have hg:aM w.aC.K.B x.c.S=false:=by simpa using hg
  rw[hg];exact .er (e:=4) (by decide) rfl rfl
theorem ahB(H:Hc n c x w fr)(hd:x.c.Do=12):qe (c+60) x.c fr w (kL n x) (iq n w x.aE (qH x.c)):=by
 have nr:=H.cc.cr;have hcs:=H.cc.cs;have hca:=H.cc.ca;have hn:=H.nn;have Jl:=H.tk;have j:=H.j;have hl:=j.rl;have hto:=(K4 j.rk x.c.S).to;have hR:=yO j.rt j.tt j.op nr.1;have htr:=(qO j.op.q x.c.R).tr;unfold kL iq;simp only[qH,hd,Int.reduceBEq,cnF,aJ];rw[Pn H hca.1,ah (Kl (n:=n) (by omega) j.rk hcs.1),ah (Pm H hca.1)];by_cases ha:(decide (x.c.A<8)&&x.ax.cH x.c.A.toNat)=true;rotate_left
 ·have ha:(decide (x.c.A<8)&&x.ax.cH x.c.A.toNat)=false:=by simpa using ha
  rw[apt (by rw[ha];decide),ha];exact .er (e:=2) (by decide) rfl rfl
 have hA8:x.c.A<8:=by rw[apv,decide_eq_true_eq]at ha;exact ha.1
 rw[aps ha,ha,Qf];by_cases hb:x.c.B<=1;rotate_left
 ·rw[apt (by simpa using hb),ak (b:=(!true||decide (1<x.c.B))) (by rw[apw (by omega)];rfl)]
  exact .er (e:=2) (by decide) rfl rfl
 rw[aps (by simpa using hb),ae (b:=(!true||decide (1<x.c.B))) (by rw[apD (by omega)];rfl),ah (nU j.rt.bj nr.1 nr.2),ah (cm (n:=n) (by omega) j.rt nr.1),Qf];have hX:P6 {Region:=x.c.R,By:=wr .u8 x.aE,To:=wr .u8 x.c.A,bF:=x.c.B==1,bh:=x.c.S}:=by
  refine⟨nr,?_,?_,hcs⟩
  ·dsimp only;rw[WI Jl.1 (by omega)];omega
  ·dsimp only;rw[WI hca.1 (by omega)];omega
 have hof:C5 {Region:=x.c.R,By:=wr .u8 x.aE,To:=wr .u8 x.c.A,bF:=x.c.B==1,bh:=x.c.S}=⟨x.c.R,x.aE,x.c.A,x.c.B==1,x.c.S⟩:=by unfold C5;dsimp only;rw[WI Jl.1 (by omega),WI hca.1 (by omega)]
 obtain⟨k',z',m,e,l1,l2,l3⟩:=aeg (n:=n) (by omega) j.rk hX;rw[hof]at l2;by_cases hg:aM w.aC.T.B x.c.R=true;rotate_left
 ·have hg:aM w.aC.T.B x.c.R=false:=by simpa using hg
  rw[hg,apt (by decide)];exact .er (e:=4) (by decide) rfl rfl
 rw[hg,aps rfl,ah (EN (n:=n) (by omega) j.rt j.tt j.op.l (by omega) nr.1)];have fin:qe (c+60) x.c fr w
   (bd (kF n x.ax.aC.K {Region:=x.c.R,By:=wr .u8 x.aE,To:=wr .u8 x.c.A,bF:=x.c.B==1,bh:=x.c.S}) λg8=>tr (dN n g8.2.2) (λabC=>(.error abC)) λl7=>some (.ok (({E:=0,V:=0,W:=g8.2.1}:aA),{x with ax:={x.ax with aC:={x.ax.aC with K:=g8.1}}})))
   (bd (kI n w.aC.K {Region:=x.c.R,By:=x.aE,To:=x.c.A,bF:=x.c.B==1,bh:=x.c.S}) λMM=>cn ((MM.2.2!=0)) (bd (aQ n w MM.2.2) λx97=>some (x97.1,x97.2)) (some (({w with aC:={w.aC with K:=MM.1}}:aj),({E:=0,V:=0,W:=MM.2.1}:aH)))):=by
  rw[ah l1,ah l2];dsimp only;rw[rU];by_cases he:e=0
  ·rw[aps he,ae (b:=(e !=0)) (by rw[he];rfl)]
   obtain⟨f,f1,f2,_,_,_,f3,_⟩:=l3.aik he;have hgr:=j.rk.bj.oh f (by omega);obtain⟨_,_,_,s4,s5⟩:=o6 (i:=f) (g:=w.aC.K.B.gE f) (by omega) (by omega) hgr.1 hgr.2;exact .ok rfl rfl rfl rfl rfl (by dsimp only;rw[f3];omega) (λ_ =>rfl) ((j.Sr (l3.rt j.rk hX) (j.tk.anW j.rk hX l3)).fA (by omega))
  ·rw[apt he,ak (rF he)]
   exact .er he rfl rfl
 dsimp only;by_cases hs:x.c.S=0
 ·rw[ak (b:=(x.c.S==0)) (by rw[hs];rfl),ah (EO (n:=n) (by omega) j.rt j.tt nr.1 nr.2),Qf,aL (x:=(lB w.aC.T x.ax.aC.O x.c.R).gj) (by omega) (by omega), ← hR.k, ← hR.t,hs]
  rw[hs]at fin;rw[ae (b:=(!true||((0:Int)!=0&&(bif aM w.aC.K.B 0 then(0:Int)else 4)!=0))) (by rfl)];by_cases hk:(lB w.aC.T x.ax.aC.O x.c.R).dx=1/\(lB w.aC.T x.ax.aC.O x.c.R).gj=x.aE
  ·rw[aps (by simpa using hk),ae (by rw[hk.1,hk.2];simp)]
   exact fin
  ·rw[apt (by simpa using hk),ak (by
    simp only[beq_self_eq_true,Bool.true_and,bne_self_eq_false,Bool.false_and,Bool.or_false,Bool.or_eq_true,bne_iff_ne];exact(Classical.em ((lB w.aC.T x.ax.aC.O x.c.R).dx=1)).elim (λq=> .inr λk=>hk ⟨q,k⟩) .inl)]
   exact .er (e:=5) (by decide) rfl rfl
 ·have e0:(x.c.S==0)=false:=jC hs
  have e1:(x.c.S !=0)=true:=rF hs;rw[ae (b:=(x.c.S==0)) e0,ah (aeE (n:=n) j.rk hcs.1 hcs.2),e0,e1];dsimp only;rw[rU];by_cases hk:aM w.aC.K.B x.c.S=true;rotate_left
  ·have hk:aM w.aC.K.B x.c.S=false:=by simpa using hk
   rw[hk];exact .er (e:=4) (by decide) rfl rfl
  rw[hk,aps (by rfl),Qf,aL (x:=(zU x.ax.aC.K w.aC.K x.c.S).To) (by omega) (by omega),ae (b:=(!true||true&&(bif true then(0:Int)else 4)!=0)) (by rfl)];show qe _ _ _ _ _ (cn (false&&_ ||true&&((zU x.ax.aC.K w.aC.K x.c.S).To !=x.aE||(zU x.ax.aC.K w.aC.K x.c.S).Region !=x.c.R)) _ _);by_cases hq:(zU x.ax.aC.K w.aC.K x.c.S).To=x.aE/\(zU x.ax.aC.K w.aC.K x.c.S).Region=x.c.R
  ·rw[aps (by simpa using hq),ae (by rw[hq.1,hq.2];simp)]
   exact fin
  ·rw[apt (by simpa using hq),ak (by
    simp only[Bool.true_and,Bool.false_and,Bool.false_or,Bool.or_eq_true,bne_iff_ne];exact(Classical.em ((zU x.ax.aC.K w.aC.K x.c.S).To=x.aE)).elim (λq=> .inr λk=>hq ⟨q,k⟩) .inl)]
   exact .er (e:=5) (by decide) rfl rfl
theorem ag3(H:Hc n c x w fr)(hd:x.c.Do=18):qe (c+60) x.c fr w (lU n x) (iu n w x.aE (qH x.c)):=by
 have nr:=H.cc.cr;have hcs:=H.cc.cs;have hca:=H.cc.ca;have hn:=H.nn;have j:=H.j;have hl:=j.rl;have hR:=yO j.rt j.tt j.op hcs.1;have fin:DJ x w x.c.R 1=0->qe (c+60) x.c fr w
   (bd (iP n x.ax.aC.O x.ax.aC.T x.c.S) λiM=>bd (Cu n x.ax.aC.T x.c.R (wr .i64 (if 8<x.c.A then 8 else x.c.A)) x.c.S (iM.dx==3)) λdL=>tr (dN n dL.2) (λUe=>(.error Ue)) λqf=>some (.ok (({E:=0,V:=0,W:=0}:aA),{x with ax:={x.ax with aC:={x.ax.aC with T:=dL.1}}})))
   (bd (iD n w.aC.O w.aC.T x.c.S) λx65=>bd (zi n w.aC.T x.c.R x.c.A x.c.S (x65.dx==3)) λSm=>cn ((Sm.2!=0)) (bd (aQ n w Sm.2) λYE=>some (YE.1,YE.2)) (some (({w with aC:={w.aC with T:=Sm.1}}:aj),({E:=0,V:=0,W:=0}:aH)))):=λhe=>by
  have hg:=oP nr.1 he;rw[ah (EO (n:=n) (by omega) j.rt j.tt hcs.1 hcs.2),ah (EN (n:=n) (by omega) j.rt j.tt j.op.l (by omega) hcs.1),aL (x:=if 8<x.c.A then 8 else x.c.A) (by split<;>omega) (by split<;>omega), ← hR.k];have hE:∀f,E7 w.aC.T x.c.R (if 8<x.c.A then 8 else x.c.A) x.c.S f=E7 w.aC.T x.c.R x.c.A x.c.S f:=λf=>by
   unfold E7;have:(0<=(if 8<x.c.A then 8 else x.c.A)/\(if 8<x.c.A then 8 else x.c.A)<8)↔(0<=x.c.A/\x.c.A<8):=by split<;>omega
   simp only[this]
  obtain⟨t',p1,p2,p3,p4⟩:=anM (n:=n) (by omega) j.rt j.tt j.i6 nr.1 nr.2 hcs.1 hcs.2 (if 8<x.c.A then 8 else x.c.A) ((lB w.aC.T x.ax.aC.O x.c.S).dx==3);have r1:=adD (n:=n) (by omega) j.rt j.tt nr.1 hcs.1 x.c.A ((lB w.aC.T x.ax.aC.O x.c.S).dx==3);rw[hE]at p1 p2 p3 p4;rw[ah p1,ah r1];dsimp only;rw[rU];by_cases hz:E7 w.aC.T x.c.R x.c.A x.c.S ((lB w.aC.T x.ax.aC.O x.c.S).dx==3)=0
  ·have h8:x.c.A<8:=by
    unfold E7 at hz;split at hz
    ·split at hz
     ·rename_i q;exact q.2
     ·exact absurd hz (by decide)
    ·exact absurd hz (by decide)
   rw[apt (show¬8<x.c.A by omega)]at p2 p3 p4;rw[aps hz]at p2 p3 p4;rw[aps hz,aps hz,ae (by rw[hz];rfl)];refine .ok rfl rfl rfl rfl rfl (by decide) (λ_ =>rfl) ((j.tab p2 p3 p4 (mvB rfl) (.cW rfl λy=>?_) λy hy hu _ =>⟨hy,(S8 _ _ _).trans hu⟩).fA (by omega));unfold C7 Bc;dsimp only;rw[bK];split
   ·rename_i q;rw[q]
   ·rfl
  ·rw[apt hz,apt hz,ak (rF hz)]
   exact .er hz rfl rfl
 unfold lU iu;simp only[qH,hd,Int.reduceBEq,cnF,aJ];rw[HX H nr,ah (HW H nr.1 1)];by_cases he:DJ x w x.c.R 1=0
 ·rw[aps he,he]
  by_cases hs:x.c.S=0
  ·rw[ae (b:=(x.c.S !=0)) (by rw[hs];rfl),ae (b:=((0:Int)==0&&x.c.S !=0)) (by rw[hs];rfl)]
   exact fin he
  ·rw[ak (b:=(x.c.S !=0)) (rF hs),ak (b:=((0:Int)==0&&x.c.S !=0)) (by rw[rF hs];rfl),HX H hcs,ah (HW H hcs.1 0)]
   by_cases h2:DJ x w x.c.S 0=0
   ·rw[aps h2,h2]
    exact fin he
   ·rw[apt h2,ak (rF h2)]
    exact .er h2 rfl rfl
 ·rw[apt he,ae (by rw[jC he];rfl),ak (rF he)]
  exact .er he rfl rfl
theorem aeR(H:Hc n c x w fr)(hd:x.c.Do=19):qe (c+60) x.c fr w (yy jP n x) (iu n w x.aE (qH x.c)):=by
 have nr:=H.cc.cr;have hca:=H.cc.ca;have hn:=H.nn;have j:=H.j;unfold yy jP iu;simp only[qH,hd,Int.reduceBEq,cnT,aJ];rw[HX H nr,ah (HW H nr.1 0)];by_cases he:DJ x w x.c.R 0=0
 ·have hg:=oP nr.1 he
  have hc0:=(Je j.rt hg).c0;have hD:D7 w.aC.T x.c.R (if 8<x.c.A then 8 else x.c.A)=D7 w.aC.T x.c.R x.c.A:=by
   by_cases h:8<x.c.A
   ·rw[aps h]
    unfold D7;rw[aps hg.2,aps hg.2,apt (by omega),apt (by omega)]
   ·rw[apt h]
  rw[aps he,he,ae (b:=((0:Int)!=0)) rfl,aL (x:=if 8<x.c.A then 8 else x.c.A) (by split<;>omega) (by split<;>omega),ah (aiJ (n:=n) j.rt nr.1 nr.2 _),ah (Xc (n:=n) (by omega) j.rt nr.1 x.c.A),hD,rU];have h0:(D7 w.aC.T x.c.R x.c.A).2≠0->(D7 w.aC.T x.c.R x.c.A).1=0:=λh=>by
   unfold D7 at h ⊢;split
   ·split
    ·split
     ·rfl
     ·split
      ·rename_i h1 h2 h3 h4
       rw[aps h1,aps h2,apt h3,aps h4]at h;exact absurd rfl h
      ·rfl
    ·rfl
   ·rfl
  have h1:0<=(D7 w.aC.T x.c.R x.c.A).1/\(D7 w.aC.T x.c.R x.c.A).1<4294967296:=by
   unfold D7;split
   ·split
    ·rename_i q
     have:=hc0 x.c.A.toNat (by omega);split
     ·decide
     ·split
      ·dsimp only;omega
      ·decide
    ·decide
   ·decide
  generalize D7 w.aC.T x.c.R x.c.A=d at h0 h1;by_cases hz:d.2=0
  ·rw[aps hz]
   exact .ok rfl rfl rfl hz rfl h1 (λ_ =>rfl) (j.fA (by omega))
  ·rw[apt hz]
   exact .er hz rfl (by rw[h0 hz])
 ·rw[apt he,ak (rF he)]
  exact .er he rfl rfl
theorem r9.ak4{s:bw}{bk:List Rn}(j:r9 c s w bk fr){a a' b b':Nat->Bool}(h:∀i,i<8->a i=a' i)(k:∀i,i<8->b i=b' i):r9 c {s with cH:=a,nE:=b} {w with cH:=a',nE:=b'} bk fr:={j with al:=h,bo:=k}
theorem adk(H:Hc n c x w fr)(hd:x.c.Do=22):qe (c+60) x.c fr w (jK n x) (fB n w x.aE (qH x.c)):=by
 have hca:=H.cc.ca;have j:=H.j;have a7:=Ux x.c.A;unfold jK fB;simp only[qH,hd,Int.reduceBEq,cnF,aJ];rw[bG a7.1 (by omega),Bool.or_true,au rfl,K5 hca.1];rw[au (by rw[bG (by omega) (by omega),Bool.or_true]),Qf];by_cases h8:x.c.A<8
 ·have e1:x.c.A%8=x.c.A:=by omega
  rw[e1,L6 ⟨hca.1,h8⟩,apw h8,apD (show¬7<x.c.A by omega),Bool.true_and,Bool.false_or, ← j.bo _ (show x.c.A.toNat<8 by omega)];have hin:bM x.c.A 8=true:=bG hca.1 (by omega);rw[au hin,au hin,au hin,au hin];cases hb:x.ax.nE x.c.A.toNat with
  |true=>exact .er (e:=2) (by decide) rfl rfl
  |false=>exact .ok rfl rfl rfl rfl rfl (by decide) (λ_ =>rfl) ((j.ak4 (λi hi=>by rw[bK,bK,j.al i hi]) λi hi=>by rw[bK,bK,j.bo i hi]).fA (Nat.le_add_right c 60))
 ·rw[apD h8,apw (show 7<x.c.A by omega)]
  exact .er (e:=2) (by decide) rfl rfl
end
end Go.Proofs.Z
namespace Go.Proofs.Z
open Go Go.Bw
theorem Fj.sub{w:ai}{o:bN}{X X':Nat->cM}(h:Fj w o X)(f:Nat->Nat->Nat)(hi:∀i k k',f i k=f i k'->k=k')(hf:∀i k m,Sk X' i k m->Sk X i (f i k) m):Fj w o X':=
 ⟨λi k m hm=>h.k i _ m (hf i k m hm),λi k m i' k' m' a b e=>by
  obtain⟨rfl,e2⟩:=h.u _ _ _ _ _ _ (hf i k m a) (hf i' k' m' b) e;exact⟨rfl,hi _ _ _ e2⟩⟩
theorem Fj.tail{w:ai}{o:bN}{X:Nat->cM}(h:Fj w o X){a:Nat}{m:bq}{v:cM}(e:(X a).L=m::v.L):Fj w o (dy X a v):=
 h.sub (λi k=>if i=a then k+1 else k) (λi k k' h=>by split at h<;>omega) λi k m' ⟨h1,h2,h3⟩=>by
  rw[bK]at h2;refine⟨h1,?_,h3⟩;by_cases q:i=a
  ·subst q
   rw[aps rfl]at h2 ⊢;rw[e];exact h2
  ·rw[apt q]at h2 ⊢;exact h2
theorem Fj.none{w:ai}{o:bN}{X:Nat->cM}(h:Fj w o X)(a:Nat)(v:cM)(e:v.L=[]):Fj w o (dy X a v):=
 h.sub (λ_ k=>k) (λ_ _ _ q=>q) λi k m' ⟨h1,h2,h3⟩=>by
  rw[bK]at h2;by_cases q:i=a
  ·rw[aps q,e]at h2;simp at h2
  ·rw[apt q]at h2;exact⟨h1,h2,h3⟩
theorem Fj.put{w:ai}{o:bN}{X:Nat->cM}(h:Fj w o X){a:Nat}{m:bq}{v:cM}(e:v.L=(X a).L++[m])
  (hm:m.Region≠0->m.iz=false->(aT w.B m.Region/\dP w m.Region=0/\(lB w o m.Region).dx=2)/\∀i k m',Sk X i k m'->m'.Region≠m.Region):Fj w o (dy X a v):=by
 have key:∀i k m',Sk (dy X a v) i k m'->Sk X i k m'\/(i=a/\k=(X a).L.length/\m'=m):=λi k m' ⟨h1,h2,h3⟩=>by
  rw[bK]at h2;by_cases q:i=a
  ·subst q
   rw[aps rfl,e]at h2;rcases Nat.lt_or_ge k (X i).L.length with c|c
   ·rw[List.getElem?_append_left c]at h2
    exact .inl ⟨h1,h2,h3⟩
   ·rw[List.getElem?_append_right c]at h2
    obtain⟨c2,c3⟩:=List.getElem?_eq_some_iff.1 h2;have c4:k-(X i).L.length=0:=by simpa using c2
    refine .inr ⟨rfl,by omega,?_⟩;simp only[c4,List.getElem_cons_zero]at c3;exact c3.symm
  ·rw[apt q]at h2;exact .inl ⟨h1,h2,h3⟩
 refine⟨λi k m' hf=>?_,λi k m' i' k' m'' hf hg eq=>?_⟩
 ·rcases key i k m' hf with q|⟨_,_,rfl⟩
  ·exact h.k i k m' q
  ·exact(hm hf.2.2.1 hf.2.2.2).1
 ·rcases key i k m' hf with q|⟨p1,p2,rfl⟩<;>rcases key i' k' m'' hg with q'|⟨p1',p2',rfl⟩
  ·exact h.u _ _ _ _ _ _ q q' eq
  ·exact absurd eq ((hm hg.2.2.1 hg.2.2.2).2 _ _ _ q)
  ·exact absurd eq.symm ((hm hf.2.2.1 hf.2.2.2).2 _ _ _ q')
  ·exact⟨p1.trans p1'.symm,p2.trans p2'.symm⟩
section
variable {n c:Nat} {x:aq} {w:aj} {fr:List Rn}
theorem r9.box{s:bw}{bk:List Rn}(j:r9 c s w bk fr){a:Nat}{b:bU}{v:cM}(r:Fp b v)(hf:Fj w.aC.T s.aC.O (dy w.tw a v)):r9 c {s with fQ:=dy s.fQ a b} {w with tw:=dy w.tw a v} bk fr:=
 {j with
  bx:=λi hi=>by
   show Fp (dy s.fQ a b i) (dy w.tw a v i);rw[bK,bK];split
   ·exact r
   ·exact j.bx i hi
  fl:=hf}
theorem aeT(H:Hc n c x w fr)(hd:x.c.Do=17):qe (c+60) x.c fr w (jQ n x) (fJ n w x.aE (qH x.c)):=by
 have j:=H.j;have hin:bM x.aE 8=true:=bG H.tk.1 H.tk.2;have hb:=j.bx x.aE.toNat (by have:=H.tk;omega);unfold jQ fJ xD;simp only[qH,hd,Int.reduceBEq,cnT,aJ,hin,guT];rw[hb.c];cases hc:(w.tw x.aE.toNat).mO with
 |true=>exact .er (e:=11) (by decide) rfl rfl
 |false=>
  have hf:Fj w.aC.T x.ax.aC.O (dy w.tw x.aE.toNat {w.tw x.aE.toNat with mO:=true}):=j.fl.sub (λ_ k=>k) (λ_ _ _ q=>q) λi k m ⟨h1,h2,h3⟩=>by
   rw[bK]at h2;split at h2
   ·rename_i q;subst q;exact⟨h1,h2,h3⟩
   ·exact⟨h1,h2,h3⟩
  have r:=aaB hb;have e:({x.ax.fQ x.aE.toNat with closed:=true}:bU)=⟨(x.ax.fQ x.aE.toNat).ring,(x.ax.fQ x.aE.toNat).iS,(x.ax.fQ x.aE.toNat).n,true⟩:=rfl;exact .ok rfl rfl rfl rfl rfl (by decide) (λ_ =>rfl) ((j.box r hf).fA (Nat.le_add_right c 60))
theorem ZO(H:Hc n c x w fr)(hd:x.c.Do=15\/x.c.Do=16):qe (c+60) x.c fr w (gq n x) (fJ n w x.aE (qH x.c)):=by
 have hn:=H.nn;have j:=H.j;have hl:=j.rl;have ht:=H.tk;have hin:bM x.aE 8=true:=bG ht.1 ht.2;obtain⟨b',v',m,e,q1,q2,q3,q4,q5,q6⟩:=aau (n:=n) (j.bx x.aE.toNat (by omega));unfold gq fJ;rw[ae (b:=((qH x.c).Do==17)) (by rcases hd with h|h<;>(show(x.c.Do==17)=false)<;>rw[h]<;>rfl)];simp only[hin,guT,aJ];rw[ah q1,ah q2];dsimp only;rw[rU];by_cases he:e=0
 ·obtain⟨r1,r2⟩:=q5 he
  have hfl:=j.fl.tail r2;have j1:=j.box r1 hfl;have hr:=q3.r;rw[aps he,ae (b:=(e !=0)) (by rw[he];rfl)];show qe _ _ _ _ _ (cn (m.Region !=0&& !m.iz) _ _);by_cases hm:(m.Region !=0&& !m.iz)=true
  ·have hm2:=hm
   rw[apv,bne_iff_ne,Bool.not_eq_true']at hm2;have alN:Sk w.tw x.aE.toNat 0 (Ac m):=⟨by omega,by rw[r2];rfl,hm2.1,hm2.2⟩;obtain⟨f1,f2,f3⟩:=j.fl.k _ _ _ alN;obtain⟨o',g1,g2,g3,g4⟩:=Pz (n:=n) (aE:=x.aE) (by omega) j1.rt j1.tt j1.op (by dsimp only;omega) f1 f2 ht;rw[ak hm,ak hm];dsimp only at g1 g2 ⊢;have g1':oR n x.ax.aC.O x.ax.aC.T m.Region x.aE=some (tg x.ax.aC.O m.Region ⟨1,x.aE,0⟩,0):=g1;have g2':dM n w.aC.O w.aC.T (Ac m).Region x.aE 1=some (o',0):=g2;rw[aad (x:={x with ax:={x.ax with fQ:=dy x.ax.fQ x.aE.toNat b'}}) g1',ah g2'];refine .ok rfl rfl rfl rfl rfl hr (λ_ =>rfl) (j1.own g3 (by dsimp only at g4 ⊢;omega) λa k m' hm'=>?_);obtain⟨p1,p2,p3⟩:=j1.fl.k a k m' hm';have hne:m'.Region≠m.Region:=λq=>by
    have hold:Sk w.tw a (if a=x.aE.toNat then k+1 else k) m':=by
     obtain⟨h1,h2,h3⟩:=hm';refine⟨h1,?_,h3⟩;have h2:(dy w.tw x.aE.toNat v' a).L[k]? =some m':=h2;rw[bK]at h2;by_cases qa:a=x.aE.toNat
     ·subst qa
      rw[aps rfl]at h2 ⊢;rw[r2];exact h2
     ·rw[apt qa]at h2 ⊢;exact h2
    obtain⟨u1,u2⟩:=j.fl.u _ _ _ _ _ _ hold alN q;rw[aps u1]at u2;omega
   exact(congrArg cK.dx (qn j.rt j.tt f1 p1 p2 hne)).trans p3
  ·have hm:(m.Region !=0&& !m.iz)=false:=by simpa using hm
   rw[ae hm,ae hm];exact .ok rfl rfl rfl rfl rfl hr (λ_ =>rfl) (j1.fA (Nat.le_add_right c 60))
 ·rw[apt he,ak (rF he)]
  exact .er he rfl rfl
theorem Kj(H:Hc n c x w fr){c':Nat}{y:aq}{v:aj}(hc:y.c=x.c)(hA:x.c.A<8)(j:r9 c' y.ax v y.gX fr)(hc':c'<=c+60){m:aX}(hm:UL m)(hf:m.Region≠0->m.iz=false->(aT v.aC.T.B m.Region/\dP v.aC.T m.Region=0/\(lB v.aC.T y.ax.aC.O m.Region).dx=2)/\∀i k m',Sk v.tw i k m'->m'.Region≠m.Region):qe (c+60) x.c fr w
  (gu (bM y.c.A 8)<|bd (sQ n (y.ax.fQ (Int.toNat y.c.A)) m) λEn=>tr (dN n En.2) (λaiv=>(.error aiv)) λx61=>gu (bM y.c.A 8)<|lt ({E:=0,V:=0,W:=0}:aA) λSm=>some (.ok (Sm,{y with ax:={y.ax with fQ:=(dy y.ax.fQ (Int.toNat y.c.A) En.1)}})))
  (gu (bM x.c.A 8)<|lt (Ac m:bq) λSO=>bd (qL n (v.tw (Int.toNat x.c.A)) SO) λnN=>cn ((nN.2!=0)) (bd (aQ n w nN.2) λKG=>some (KG.1,KG.2)) (gu (bM x.c.A 8)<|lt ({v with tw:=(dy v.tw (Int.toNat x.c.A) nN.1)}:aj) λYK=>lt ({E:=0,V:=0,W:=0}:aH) λSN=>some (YK,SN))):=by
 have hca:=H.cc.ca;have hin:bM x.c.A 8=true:=bG hca.1 hA;obtain⟨b',v',e,q1,q2,q3,q4,q5⟩:=ad6 (n:=n) (j.bx x.c.A.toNat (by omega)) hm;simp only[hc,hin,guT,aJ];rw[ah q1,ah q2];dsimp only;rw[rU];by_cases he:e=0
 ·obtain⟨r1,r2⟩:=q4 he
  rw[aps he,ae (b:=(e !=0)) (by rw[he];rfl)];exact .ok rfl rfl rfl rfl rfl (by decide) (λ_ =>rfl) ((j.box r1 (j.fl.put r2 hf)).fA hc')
 ·rw[apt he,ak (rF he)]
  exact .er he rfl rfl
theorem agU(H:Hc n c x w fr)(hd:x.c.Do=14):qe (c+60) x.c fr w (kK n x) (kG n w x.aE (qH x.c)):=by
 have nr:=H.cc.cr;have hca:=H.cc.ca;have hcb:=H.cc.cb;have hn:=H.nn;have ht:=H.tk;have j:=H.j;have hl:=j.rl;unfold kK kG;rw[Pn H hca.1];rw[show(qH x.c).A=x.c.A from rfl,show(qH x.c).B=x.c.B from rfl,show(qH x.c).R=x.c.R from rfl,show(qH x.c).V=x.c.V from rfl,ah (Pm H hca.1)];by_cases ha:(decide (x.c.A<8)&&x.ax.cH x.c.A.toNat)=true;rotate_left
 ·have ha:(decide (x.c.A<8)&&x.ax.cH x.c.A.toNat)=false:=by simpa using ha
  rw[apt (by rw[ha];decide),ha];exact .er (e:=2) (by decide) rfl rfl
 have hA8:x.c.A<8:=by rw[apv,decide_eq_true_eq]at ha;exact ha.1
 rw[aps ha,ha,Qf];by_cases hb:x.c.B<=1;rotate_left
 ·rw[apt (by simpa using hb),ak (b:=(!true||decide (1<x.c.B))) (by rw[apw (by omega)];rfl)]
  exact .er (e:=2) (by decide) rfl rfl
 rw[aps (by simpa using hb),ae (b:=(!true||decide (1<x.c.B))) (by rw[apD (by omega)];rfl),aJ (α:=aX),aJ (α:=aq->Option (Except Int (aA×aq))),aJ (α:=aj->Option (aj×aH)),WI ht.1 (by omega)];have hm:UL ⟨x.aE,x.c.V,x.c.R,(x.c.R !=0)&&(x.c.B==1)⟩:=⟨ht,nr⟩;by_cases hs:((x.c.R !=0)&&(x.c.B==1))=true
 ·rw[ak (b:=((x.c.R !=0)&&(x.c.B==1))) hs,ak (b:=((x.c.R !=0)&&(x.c.B==1))) hs,TX H nr,ah (TW H nr.1)]
  by_cases hh:JU x w x.c.R=0;rotate_left
  ·rw[apt hh,ak (rF hh)]
   exact .er hh rfl rfl
  obtain⟨g1,g2,g3,g4⟩:=aii H nr.1 hh;obtain⟨o',m,v',e,q1,q2,q3,q4,q5,q6,q7,q8⟩:=TY (n:=n) (by omega) j.rt j.tt j.op (by omega) (aE:=x.c.A) nr.1 nr.2 true;rw[aps hh,hh,ae (b:=((0:Int)!=0)) rfl,aL (x:=x.c.A) (by omega) (by omega),ah (afN (by omega) q1),ah q2];have hno:∀{P:Prop},x.c.R≠0->((x.c.R !=0)&&(x.c.B==1))=false->P:=λ_ h=>by rw[hs]at h;exact absurd h (by decide)
  by_cases he:e=0
  ·rw[ak (b:=(e==0)) (by rw[he];rfl),ak (b:=(e==0)) (by rw[he];rfl),aJ]
   have j1:=j.own (c':=c+1) q4 (by omega) λa b m hm=>by obtain⟨f1,f2,f3⟩:=j.fl.k a b m hm;rw[q6 _ f1 f2 λq=>by rw[q,g3]at f3;exact absurd f3 (by decide)];exact f3
   exact Kj H (y:={x with ax:={x.ax with aC:={x.ax.aC with O:=o'}}}) rfl hA8 j1 (by omega) hm λh1 h2=>hno h1 h2
  ·rw[ae (b:=(e==0)) (jC he),ae (b:=(e==0)) (jC he)]
   exact Kj H (y:=x) rfl hA8 j (by omega) hm λh1 h2=>hno h1 h2
 ·have hs:((x.c.R !=0)&&(x.c.B==1))=false:=by simpa using hs
  rw[ae (b:=((x.c.R !=0)&&(x.c.B==1))) hs,ae (b:=((x.c.R !=0)&&(x.c.B==1))) hs];by_cases hz:x.c.R=0
  ·rw[ae (b:=(x.c.R !=0)) (by rw[hz];rfl),ae (b:=(x.c.R !=0)) (by rw[hz];rfl)]
   exact Kj H (y:=x) rfl hA8 j (by omega) hm λh1 _ =>absurd hz h1
  ·rw[ak (b:=(x.c.R !=0)) (rF hz),ak (b:=(x.c.R !=0)) (rF hz),HX H nr,ah (HW H nr.1 2)]
   by_cases he:DJ x w x.c.R 2=0;rotate_left
   ·rw[apt he,ak (rF he)]
    exact .er he rfl rfl
   have hg:=oP nr.1 he;obtain⟨t',c1,c2,c3,c4,c5⟩:=j.cut (n:=n) (by omega) hg;obtain⟨v',g1,g2,g3,g4⟩:=al1 (n:=n) (by omega) c3.rt c3.tt c3.op (by dsimp only;omega) c4 c5 0;have hne:=Ub H nr.1 (by decide) he;have j1:=c3.own (c':=c+1) g3 (by dsimp only at g4 ⊢;omega) λa b m hm=>by obtain⟨f1,f2,f3⟩:=c3.fl.k a b m hm;exact(congrArg cK.dx (qn c3.rt c3.tt c4 f1 f2 (hne a b m hm))).trans f3
   rw[aps he,he,ae (b:=((0:Int)!=0)) rfl,ZE c1,ah c2,aJ];dsimp only at g1 g2 ⊢;rw[ah g1,ah g2,rU,aps rfl,aJ];refine Kj H (y:={x with ax:={x.ax with aC:={x.ax.aC with T:=t',O:=_ }}}) rfl hA8 j1 (by omega) hm λ_ _ =>⟨⟨c4,c5,congrArg cK.dx (adY c4 ((EL c3.rt c3.tt c4).2 c5) _)⟩,hne⟩
end
end Go.Proofs.Z
namespace Go.Proofs.Z
open Go Go.Bw
theorem duo{σ τ ρ π:Type}(l:Nat)(BP:(Int->σ->Option ρ)->Int->σ->Option ρ)(BR:(Int->τ->Option π)->Int->τ->Option π)(KP:σ->Option ρ)(KR:τ->Option π)(I:Nat->σ->τ->Prop)
  (step:∀(k:Nat) kp kr y v,k<l->I k y v->∃y' v',BP kp (k:Int) y=kp ((k+1:Nat):Int) y'/\BR kr (k:Int) v=kr ((k+1:Nat):Int) v'/\I (k+1) y' v')
  (stop:∀kp kr y v,I l y v->BP kp (l:Int) y=KP y/\BR kr (l:Int) v=KR v):
  ∀(d k:Nat),l=k+d->∀n,d<n->∀y v,I k y v->∃y' v',cJ BP n (k:Int) y=KP y'/\cJ BR n (k:Int) v=KR v'/\I l y' v'
 |0,k,hk,n+1,_,y,v,h=>by obtain rfl:l=k:=hk;obtain⟨a,b⟩:=stop (cJ BP n) (cJ BR n) y v h;exact⟨y,v,a,b,h⟩
 |d+1,k,hk,n+1,hn,y,v,h=>by obtain⟨y',v',a,b,h'⟩:=step k (cJ BP n) (cJ BR n) y v (by omega) h;obtain⟨y2,v2,a2,b2,h2⟩:=duo l BP BR KP KR I step stop d (k+1) (by omega) n (by omega) y' v' h';exact⟨y2,v2,a.trans a2,b.trans b2,h2⟩
theorem aeQ{σ τ ρ π:Type}(l:Nat){BP:(Int->σ->Option ρ)->Int->σ->Option ρ}{BR:(Int->τ->Option π)->Int->τ->Option π}(KP:σ->Option ρ)(KR:τ->Option π)(I:Nat->σ->τ->Prop){Q:σ->τ->Prop}
  {n:Nat}(hn:l<n){y:σ}{v:τ}(h0:I 0 y v)(fin:∀y v,I l y v->Q y v)
  (step:∀(k:Nat) kp kr y v,k<l->I k y v->∃y' v',BP kp (k:Int) y=kp ((k+1:Nat):Int) y'/\BR kr (k:Int) v=kr ((k+1:Nat):Int) v'/\I (k+1) y' v')
  (stop:∀kp kr y v,I l y v->BP kp (l:Int) y=KP y/\BR kr (l:Int) v=KR v):∃y' v',cJ BP n 0 y=KP y'/\cJ BR n 0 v=KR v'/\Q y' v':=by
 obtain⟨y',v',a,b,h⟩:=duo l BP BR KP KR I step stop l 0 (by omega) n hn y v h0;exact⟨y',v',a,b,fin _ _ h⟩
theorem afO{L:List Int}(h:L.Nodup){k i:Nat}(hk:k<i)(hi:i<L.length):L.getD i default≠L.getD k default:=λe=>by rw[eS hi,eS (Nat.lt_trans hk hi)]at e;exact List.pairwise_iff_getElem.1 h k i (Nat.lt_trans hk hi) hi hk e.symm
section
variable {n c:Nat} {fr:List Rn}
theorem amd(hn:c+360<=n/\3000<=n/\c<=51000){x:aq}{w:aj}(j:r9 c x.ax w x.gX fr){a:Int}(ha:0<=a/\a<8):
  ∃y v,(bd (qN n x.ax.aC.O x.ax.aC.T a) λSI=>
 cJ (λahI (Og:Int) (YG:aq)=>
 cn (decide (Og<(SI.length:Int))) (
 gu (bM Og SI.length)<|
 tr (jO n YG (SI.getD (Int.toNat Og) default) a) (λabE=>(.error abE)) λagl=>
 ahI (wr .i64 (Og+1)) agl) (
 some (Except.ok (ε:=Int) YG))) n 0 x)=some (.ok y)/\(bd (jJ n w.aC.O w.aC.T a true) λEo=>
 cJ (λahJ (Oh:Int) (YH:aj)=>
 cn (decide (Oh<(Eo.length:Int))) (
 gu (bM Oh Eo.length)<|
 bd (kH n YH (Eo.getD (Int.toNat Oh) default) a) λagm=>
 ahJ (wr .i64 (Oh+1)) agm) (
 some YH)) n 0 w)=some v/\r9 (c+32) y.ax v y.gX fr:=by
 have hl:=j.rl;rw[ah (ah5 (n:=n) (by omega) j.rt j.tt a),ah ((Zi (n:=n) (by omega) j.rt j.tt j.op (by omega) a true).trans (congrArg some (ah6 j.rt j.tt j.op a)))];have vE:((Gw w.aC.T).filter λh=>(di w.aC.T h==h)&&Ef a (tq a) (lB w.aC.T x.ax.aC.O h)).Nodup:=(An j.rt.bj 32 (Nat.le_refl _)).filter _;have hlen:((Gw w.aC.T).filter λh=>(di w.aC.T h==h)&&Ef a (tq a) (lB w.aC.T x.ax.aC.O h)).length<=32:=Nat.le_trans (List.length_filter_le _ _) (fZ _ _);have hmem:∀h∈(Gw w.aC.T).filter λh=>(di w.aC.T h==h)&&Ef a (tq a) (lB w.aC.T x.ax.aC.O h),aT w.aC.T.B h/\dP w.aC.T h=0/\(lB w.aC.T x.ax.aC.O h).dx=3/\zV (lB w.aC.T x.ax.aC.O h).dU a.toNat=true:=λh hh=>by obtain⟨h1,h2⟩:=List.mem_filter.1 hh;have hg:=(bX j.rt.bj h).1 h1;rw[apv,beq_iff_eq]at h2;have h3:=h2.2;unfold Ef at h3;rw[apv,apv,apv,beq_iff_eq]at h3;obtain⟨⟨⟨h4,h5⟩,h6⟩,h7⟩:=h3;rw[h4,h5,h6]at h7;rw[← aic (qO j.op.q h).hr ha];exact⟨hg,(EL j.rt j.tt hg).1 h2.1,h4,h7⟩
 generalize((Gw w.aC.T).filter λh=>(di w.aC.T h==h)&&Ef a (tq a) (lB w.aC.T x.ax.aC.O h))=L at vE hlen hmem;refine aeQ L.length (λy=>some (Except.ok (ε:=Int) y)) (λv=>some v) (λk y v=>r9 (c+k) y.ax v y.gX fr/\∀i,k<=i->i<L.length->aT v.aC.T.B (L.getD i default)/\dP v.aC.T (L.getD i default)=0/\(lB v.aC.T y.ax.aC.O (L.getD i default)).dx=3/\zV (lB v.aC.T y.ax.aC.O (L.getD i default)).dU a.toNat=true)
  (by omega) ⟨j,λi _ h=>hmem _ (fT h)⟩ (λy v h=>h.1.fA (by omega)) (λk kp kr y v hk ⟨hj,hi⟩=>?_) (λkp kr y v _ =>⟨ae (apD (by omega)),ae (apD (by omega))⟩)
 obtain⟨g1,g2,g3,g4⟩:=hi k (Nat.le_refl _) hk;obtain⟨y',v',d1,d2,d3,d4⟩:=V9 (n:=n) (aE:=a) (by omega) hj g1 g2 g3 ha g4;refine⟨y',v',?_,?_,d3,λi h1 h2=>?_⟩
 ·rw[ak (apw (by omega)),au (bG (by omega) (by omega)),apx,d1,aL (by omega) (by omega)];rfl
 ·rw[ak (apw (by omega)),au (bG (by omega) (by omega)),apx,ah d2,aL (by omega) (by omega)];rfl
 ·obtain⟨p1,p2,p3,p4⟩:=hi i (by omega) h2
  obtain⟨s1,s2,s3⟩:=d4.s _ p1 p2 (afO vE (by omega) h2);rw[s3];exact⟨s1,s2,p3,p4⟩
end
end Go.Proofs.Z
namespace Go.Proofs.Z
open Go Go.Bw
section
variable {n c:Nat} {fr:List Rn}
theorem ame{ρ π:Type}(hn:c+360<=n/\3000<=n/\c<=51000){x:aq}{w:aj}(j:r9 c x.ax w x.gX fr)(a:Int)(KP:aq->Option ρ)(KR:aj->Option π):
  ∃y v,(bd (pQ n x.ax.aC.O x.ax.aC.T a) λEp=>
 cJ (λahK (Oj:Int) (Eo:aq)=>
 cn (decide (Oj<(Ep.length:Int))) (
 gu (bM Oj Ep.length)<|
 bd (fC n Eo (Ep.getD (Int.toNat Oj) default)) λagn=>
 ahK (wr .i64 (Oj+1)) agn) (
 KP Eo)) n 0 x)=KP y/\(bd (jJ n w.aC.O w.aC.T a false) λKH=>
 cJ (λahL (Ok:Int) (Ep:aj)=>
 cn (decide (Ok<(KH.length:Int))) (
 gu (bM Ok KH.length)<|
 bd (fj n Ep (KH.getD (Int.toNat Ok) default)) λSN=>
 ahL (wr .i64 (Ok+1)) SN) (
 KR Ep)) n 0 w)=KR v/\r9 c y.ax v y.gX fr:=by
 have hl:=j.rl;rw[ah (ZD (n:=n) (by omega) j.rt j.tt a),ah ((Zi (n:=n) (by omega) j.rt j.tt j.op (by omega) a false).trans (congrArg some (agY j.rt j.tt j.op a)))];have vE:((Gw w.aC.T).filter λh=>(di w.aC.T h==h)&&(((lB w.aC.T x.ax.aC.O h).dx==1)&&((wr .i64 (lB w.aC.T x.ax.aC.O h).gj)==a))).Nodup:=(An j.rt.bj 32 (Nat.le_refl _)).filter _;have hlen:((Gw w.aC.T).filter λh=>(di w.aC.T h==h)&&(((lB w.aC.T x.ax.aC.O h).dx==1)&&((wr .i64 (lB w.aC.T x.ax.aC.O h).gj)==a))).length<=32:=Nat.le_trans (List.length_filter_le _ _) (fZ _ _);have hmem:∀h∈(Gw w.aC.T).filter λh=>(di w.aC.T h==h)&&(((lB w.aC.T x.ax.aC.O h).dx==1)&&((wr .i64 (lB w.aC.T x.ax.aC.O h).gj)==a)),aT w.aC.T.B h/\dP w.aC.T h=0/\(lB w.aC.T x.ax.aC.O h).dx=1:=λh hh=>by obtain⟨h1,h2⟩:=List.mem_filter.1 hh;have hg:=(bX j.rt.bj h).1 h1;rw[apv,apv,beq_iff_eq,beq_iff_eq]at h2;exact⟨hg,(EL j.rt j.tt hg).1 h2.1,h2.2.1⟩
 generalize((Gw w.aC.T).filter λh=>(di w.aC.T h==h)&&(((lB w.aC.T x.ax.aC.O h).dx==1)&&((wr .i64 (lB w.aC.T x.ax.aC.O h).gj)==a)))=L at vE hlen hmem;refine aeQ L.length KP KR (λk y v=>r9 c y.ax v y.gX fr/\∀i,k<=i->i<L.length->aT v.aC.T.B (L.getD i default)/\dP v.aC.T (L.getD i default)=0/\(lB v.aC.T y.ax.aC.O (L.getD i default)).dx=1)
  (by omega) ⟨j,λi _ h=>hmem _ (fT h)⟩ (λy v h=>h.1) (λk kp kr y v hk ⟨hj,hi⟩=>?_) (λkp kr y v _ =>⟨ae (apD (by omega)),ae (apD (by omega))⟩)
 obtain⟨g1,g2,g3⟩:=hi k (Nat.le_refl _) hk;obtain⟨k',t',d1,d2,d3⟩:=Px (n:=n) (by omega) hj g1.1 (fm g1.2) (λp q m hm hu=>by
  obtain⟨f1,f2,f3⟩:=hj.fl.k p q m hm;rw[zc hj.rt hj.tt f2 hu g1.1,g3]at f3;exact absurd f3 (by decide)) y rfl rfl
 refine⟨_,_,?_,?_,d3,λi h1 h2=>?_⟩
 ·rw[ak (apw (by omega)),au (bG (by omega) (by omega)),apx,ah d1,aL (by omega) (by omega)];rfl
 ·rw[ak (apw (by omega)),au (bG (by omega) (by omega)),apx,ah d2,aL (by omega) (by omega)];rfl
 ·obtain⟨p1,p2,p3⟩:=hi i (by omega) h2
  obtain⟨s1,s2,s3⟩:=OH hj.rt hj.tt hj.i6 (h:=L.getD k default) p1 p2 λhm=>afO vE (by omega) h2 (zc hj.rt hj.tt p2 hm g1.1);exact⟨s1,s2,(congrArg cK.dx (s3 _)).trans p3⟩
theorem amf{ρ π:Type}(hn:c+360<=n/\3000<=n/\c<=51000){x:aq}{w:aj}(j:r9 c x.ax w x.gX fr){a:Int}(ha:0<=a)(KP:aq->Option ρ)(KR:aj->Option π):
  ∃y v,(bd (oK n x.ax.aC.K a) λKh=>
 cJ (λahM (KI:Int) (Hh:aq)=>
 cn (decide (KI<(Kh.length:Int))) (
 gu (bM KI Kh.length)<|
 bd (eZ n Hh.ax.aC.K (Kh.getD (Int.toNat KI) default)) λagt=>
 ahM (wr .i64 (KI+1)) ({Hh with ax:={Hh.ax with aC:={Hh.ax.aC with K:=agt.1}}})) (
 KP Hh)) n 0 x)=KP y/\(bd (dF n w.aC.K (-1) a) λxZ=>
 cJ (λk96 (Hg:Int) (Od:aj)=>
 cn (decide (Hg<(xZ.length:Int))) (
 gu (bM Hg xZ.length)<|
 bd (fY n Od.aC.K (xZ.getD (Int.toNat Hg) default)) λQd=>
 lt ({Od with aC:={Od.aC with K:=Qd.1}}:aj) λSP=>
 k96 (wr .i64 (Hg+1)) SP) (
 KR Od)) n 0 w)=KR v/\r9 c y.ax v y.gX fr:=by
 have hth:dF n w.aC.K (-1) a=some (dz w.aC.K.B (λi=>(x.ax.aC.K.aI i).To==a) 32):=by refine(B9 (n:=n) (by omega) j.rk (-1) a).trans (congrArg some (wk (λi _ _ =>?_) 32 (Nat.le_refl _)));rw[apw (show(-1:Int)<0 by decide),apD (show¬a<0 by omega)];simp
 rw[ah (ahi (n:=n) (by omega) j.rk a),ah hth];have hlen:=pJ w.aC.K.B (λi=>(x.ax.aC.K.aI i).To==a) 32;have DG:=HF j.rk.bj (p:=λi=>(x.ax.aC.K.aI i).To==a);generalize dz w.aC.K.B (λi=>(x.ax.aC.K.aI i).To==a) 32=L at hlen DG;refine aeQ L.length KP KR (λk y v=>r9 c y.ax v y.gX fr) (by omega) j (λy v h=>h) (λk kp kr y v hk hj=>?_) (λkp kr y v _ =>⟨ae (apD (by omega)),ae (apD (by omega))⟩);obtain⟨g1,g2⟩:=DG _ (fT (l:=L) (i:=k) hk);obtain⟨k',z',l',e,r1,r2,r3⟩:=ZG (n:=n) (by omega) hj.rk hj.tk g1 g2;obtain⟨p1,p2⟩:=r3.next hj.rk hj.tk
 refine⟨{y with ax:={y.ax with aC:={y.ax.aC with K:=k'}}},{v with aC:={v.aC with K:=z'}},?_,?_,hj.Sr p1 p2⟩
 ·rw[ak (apw (by omega)),au (bG (by omega) (by omega)),apx,ah r1,aL (by omega) (by omega)];rfl
 ·rw[ak (apw (by omega)),au (bG (by omega) (by omega)),apx,ah r2,aL (by omega) (by omega)];rfl
structure ajA(L:List aX)(k:Nat)(o:bN)(w:ai)(X:Nat->cM):Prop where
 k:∀i,k<=i->i<L.length->(L.getD i default).Region≠0->(L.getD i default).iz=false->(aT w.B (L.getD i default).Region/\dP w (L.getD i default).Region=0/\(lB w o (L.getD i default).Region).dx=2)/\∀p q m,Sk X p q m->m.Region≠(L.getD i default).Region
 u:∀i i',i<i'->i'<L.length->(L.getD i default).Region≠0->(L.getD i default).iz=false->(L.getD i' default).Region≠0->(L.getD i' default).iz=false->(L.getD i' default).Region≠(L.getD i default).Region
theorem amg{ρ π:Type}(hn:c+360<=n/\3000<=n/\c<=50000){x:aq}{w:aj}(j:r9 c x.ax w x.gX fr){L:List aX}{M:List bq}(hM:M=L.map Ac)(hL:L.length<=4)(hr:∀m∈L,UL m)(h0:ajA L 0 x.ax.aC.O w.aC.T w.tw)(KP:aq->Option (Except Int ρ))(KR:aj->Option π):
  ∃y v,(cJ (λk58 (yH:Int) (uA:aq)=>
 cn (decide (yH<(L.length:Int))) (
 gu (bM yH L.length)<|
 lt ((L.getD (Int.toNat yH) default):aX) λEn=>
 cn (((En.Region==0)||En.iz)) (
 k58 (wr .i64 (yH+1)) uA) (
 gu (bM En.mA 8)<|
 cn ((uA.ax.cH (Int.toNat En.mA))) (
 tr (eH n uA En.Region (wr .i64 En.mA)) (λaiu=>(.error aiu)) λQq=>
 k58 (wr .i64 (yH+1)) Qq) (
 bd (fC n uA En.Region) λJD=>
 k58 (wr .i64 (yH+1)) JD))) (KP uA)) n 0 x)=KP y/\(cJ (λk50 (xY:Int) (mG:aj)=>
 cn (decide (xY<(M.length:Int))) (
 gu (bM xY M.length)<|
 lt ((M.getD (Int.toNat xY) default):bq) λzK=>
 cn (((zK.Region==0)||zK.iz)) (
 k50 (wr .i64 (xY+1)) mG) (
 gu (bM zK.mA 8)<|
 cn ((mG.cH (Int.toNat zK.mA))) (
 bd (dM n mG.aC.O mG.aC.T zK.Region zK.mA 1) λzJ=>
 lt ({mG with aC:={mG.aC with O:=zJ.1}}:aj) λx65=>
 k50 (wr .i64 (xY+1)) x65) (
 bd (fj n mG zK.Region) λyY=>
 k50 (wr .i64 (xY+1)) yY))) (KR mG)) n 0 w)=KR v/\r9 (c+4) y.ax v y.gX fr:=by
 have hML:M.length=L.length:=by rw[hM,List.length_map]
 have hMk:∀k,k<L.length->M.getD k default=Ac (L.getD k default):=λk hk=>by subst hM;rw[eS (by rw[List.length_map];exact hk),eS hk,List.getElem_map]
 rw[hML];refine aeQ L.length KP KR (λk y v=>r9 (c+k) y.ax v y.gX fr/\ajA L k y.ax.aC.O v.aC.T v.tw) (by omega) ⟨j,h0⟩ (λy v h=>h.1.fA (by omega)) (λk kp kr y v hk ⟨hj,hi⟩=>?_) (λkp kr y v _ =>⟨ae (apD (by omega)),ae (apD (by omega))⟩);have hm:=hr _ (fT (l:=L) (i:=k) hk);have hc:=hi.k k (Nat.le_refl _) hk;have hu:=hi.u k;have hrl:=hj.rl;rw[apx,hMk k hk];have e1:(L.getD k default).Region=(Ac (L.getD k default)).Region:=rfl;by_cases hs:((L.getD k default).Region==0||(L.getD k default).iz)=true
 ·refine⟨y,v,?_,?_,hj.fA (by omega),λi h1 h2=>hi.k i (by omega) h2,hi.u⟩
  ·rw[ak (apw (by omega)),au (bG (by omega) (by omega)),aJ,ak hs,aL (by omega) (by omega)];rfl
  ·rw[ak (apw (by omega)),au (bG (by omega) (by omega)),aJ,ak (b:=((Ac (L.getD k default)).Region==0||(Ac (L.getD k default)).iz)) hs,aL (by omega) (by omega)];rfl
 ·have hs:((L.getD k default).Region==0||(L.getD k default).iz)=false:=by simpa using hs
  have Rs:=hs;rw[Bool.or_eq_false_iff,beq_eq_false_iff_ne]at Rs;obtain⟨⟨g1,g2,g3⟩,g4⟩:=hc Rs.1 Rs.2;have hf:=hm.f;have hin:bM (L.getD k default).mA 8=true:=bG hf.1 hf.2;have hal:=hj.al (L.getD k default).mA.toNat (by omega);cases ha:y.ax.cH (L.getD k default).mA.toNat with
  |true=>
   obtain⟨o',q1,q2,q3,q4⟩:=Pz (n:=n) (aE:=(L.getD k default).mA) (by omega) hj.rt hj.tt hj.op (by omega) g1 g2 hf;have j1:=hj.own (c':=c+(k+1)) q3 (by omega) λp q m hm=>by obtain⟨f1,f2,f3⟩:=hj.fl.k p q m hm;exact(congrArg cK.dx (qn hj.rt hj.tt g1 f1 f2 (g4 p q m hm))).trans f3
   refine⟨{y with ax:={y.ax with aC:={y.ax.aC with O:=tg y.ax.aC.O (L.getD k default).Region ⟨1,(L.getD k default).mA,0⟩}}},{v with aC:={v.aC with O:=o'}},?_,?_,j1,λi h1 h2 h3 h4=>?_,hi.u⟩
   ·rw[ak (apw (by omega)),au (bG (by omega) (by omega)),aJ,ae hs,au hin,ak ha,aL (x:=(L.getD k default).mA) (by omega) (by omega),aad (x:=y) q1,aL (by omega) (by omega)];rfl
   ·rw[ak (apw (by omega)),au (bG (by omega) (by omega)),aJ,ae (b:=((Ac (L.getD k default)).Region==0||(Ac (L.getD k default)).iz)) hs,au (b:=bM (Ac (L.getD k default)).mA 8) hin,ak (b:=v.cH (Ac (L.getD k default)).mA.toNat) (hal▸ha)]
    have q2':dM n v.aC.O v.aC.T (Ac (L.getD k default)).Region (Ac (L.getD k default)).mA 1=some (o',0):=q2;rw[ah q2',aJ,aL (by omega) (by omega)];rfl
   ·obtain⟨⟨p1,p2,p3⟩,p4⟩:=hi.k i (by omega) h2 h3 h4
    exact⟨⟨p1,p2,(congrArg cK.dx (qn hj.rt hj.tt g1 p1 p2 (hu i (by omega) h2 Rs.1 Rs.2 h3 h4))).trans p3⟩,p4⟩
  |false=>
   obtain⟨k',t',d1,d2,d3⟩:=Px (n:=n) (by omega) hj g1.1 (fm g1.2) (λp q m hm hun=>g4 p q m hm (zc hj.rt hj.tt (hj.fl.k p q m hm).2.1 hun g1.1)) y rfl rfl;refine⟨_,_,?_,?_,d3.fA (by omega),λi h1 h2 h3 h4=>?_,hi.u⟩
   ·rw[ak (apw (by omega)),au (bG (by omega) (by omega)),aJ,ae hs,au hin,ae ha,ah d1,aL (by omega) (by omega)];rfl
   ·rw[ak (apw (by omega)),au (bG (by omega) (by omega)),aJ,ae (b:=((Ac (L.getD k default)).Region==0||(Ac (L.getD k default)).iz)) hs,au (b:=bM (Ac (L.getD k default)).mA 8) hin,ae (b:=v.cH (Ac (L.getD k default)).mA.toNat) (hal▸ha)]
    have d2':fj n v (Ac (L.getD k default)).Region=_ :=d2;rw[ah d2',aL (by omega) (by omega)];rfl
   ·obtain⟨⟨p1,p2,p3⟩,p4⟩:=hi.k i (by omega) h2 h3 h4
    obtain⟨s1,s2,s3⟩:=OH hj.rt hj.tt hj.i6 (h:=(L.getD k default).Region) p1 p2 λhmu=>hu i (by omega) h2 Rs.1 Rs.2 h3 h4 (zc hj.rt hj.tt p2 hmu g1.1);exact⟨⟨s1,s2,(congrArg cK.dx (s3 _)).trans p3⟩,p4⟩
end
end Go.Proofs.Z
namespace Go.Proofs.Z
open Go Go.Bw
section
variable {n c:Nat} {x:aq} {w:aj} {fr:List Rn}
theorem abK(hn:c+400<=n/\3000<=n/\c<=50000)(j:r9 c x.ax w x.gX fr){a:Int}(ha:0<=a/\a<8):∃y v,nh n x a=some (.ok y)/\nP n w a=some v/\r9 (c+60) y.ax v y.gX fr:=by
 have hin:bM a 8=true:=bG ha.1 ha.2;have hb:=j.bx a.toNat (by omega);have hl4:=hb.l;have hlen:=xq (x.ax.fQ a.toNat) (w.tw a.toNat).L.length;have j0:r9 c ({x with ax:={x.ax with fQ:=dy x.ax.fQ a.toNat ⟨λ_ =>fU,0,0,true⟩,cH:=dy x.ax.cH a.toNat false}}:aq).ax {w with tw:=dy w.tw a.toNat ⟨[],true⟩,cH:=dy w.cH a.toNat false} x.gX fr:=
  (j.box aaA (j.fl.none a.toNat ⟨[],true⟩ rfl)).ak4 (λi hi=>by rw[bK,bK,j.al i hi]) j.bo
 have fly:∀i,i<(jo (x.ax.fQ a.toNat) (w.tw a.toNat).L.length).length->((jo (x.ax.fQ a.toNat) (w.tw a.toNat).L.length).getD i default).Region≠0->((jo (x.ax.fQ a.toNat) (w.tw a.toNat).L.length).getD i default).iz=false->Sk w.tw a.toNat i (Ac ((jo (x.ax.fQ a.toNat) (w.tw a.toNat).L.length).getD i default)):=λi hi h1 h2=>by refine⟨by omega,?_,h1,h2⟩;have:(w.tw a.toNat).L[i]? =((jo (x.ax.fQ a.toNat) (w.tw a.toNat).L.length).map Ac)[i]? :=congrArg (λl:List bq=>l[i]?) hb.m;rw[this,List.getElem?_map,apB hi,eS hi];rfl
 have h0:ajA (jo (x.ax.fQ a.toNat) (w.tw a.toNat).L.length) 0 x.ax.aC.O w.aC.T (dy w.tw a.toNat ⟨[],true⟩):=by
  refine⟨λi _ hi h1 h2=>⟨j.fl.k _ _ _ (fly i hi h1 h2),λp q m hm e=>?_⟩,λi i' h1 h2 a1 a2 b1 b2 e=>?_⟩
  ·obtain⟨m1,m2,m3⟩:=hm
   rw[bK]at m2;by_cases hp:p=a.toNat
   ·rw[aps hp]at m2;simp at m2
   ·rw[apt hp]at m2
    exact hp (j.fl.u _ _ _ _ _ _ ⟨m1,m2,m3⟩ (fly i hi h1 h2) e).1
  ·have:=(j.fl.u _ _ _ _ _ _ (fly i' h2 b1 b2) (fly i (by omega) a1 a2) e).2
   omega
 unfold nh nP;rw[au hin,ah (Xr (n:=n) (by omega) hb),au hin,au hin,au hin,aJ,au hin,aJ,au hin,aJ];dsimp only;obtain⟨y1,v1,p1,q1,j1⟩:=amg (n:=n) (c:=c) (by omega) (x:={x with ax:={x.ax with fQ:=dy x.ax.fQ a.toNat ⟨λ_ =>fU,0,0,true⟩,cH:=dy x.ax.cH a.toNat false}}) j0 hb.m (by rw[hlen];exact hl4) hb.r h0 _ _;obtain⟨y2,v2,p2,q2,j2⟩:=amf (n:=n) (c:=c+4) (by omega) j1 ha.1 _ _;obtain⟨y3,v3,p3,q3,j3⟩:=ame (n:=n) (c:=c+4) (by omega) j2 a _ _;obtain⟨y4,v4,p4,q4,j4⟩:=amd (n:=n) (c:=c+4) (by omega) j3 ha;exact⟨y4,v4,p1.trans (p2.trans (p3.trans p4)),q1.trans (q2.trans (q3.trans q4)),j4.fA (by omega)⟩
theorem ais(H:Hc n c x w fr)(hd:x.c.Do=20):qe (c+60) x.c fr w (kN n x) (fB n w x.aE (qH x.c)):=by obtain⟨y,v,p,q,j⟩:=abK (n:=n) H.nn H.j H.tk;unfold kN fB;rw[p,ak (b:=((qH x.c).Do==20)) (by show(x.c.Do==20)=true;rw[hd];rfl),ah q];exact .ok rfl rfl rfl rfl rfl (by decide) (λ_ =>rfl) j
theorem ahH(H:Hc n c x w fr)(hd:x.c.Do=21):qe (c+60) x.c fr w (kM n x) (fB n w x.aE (qH x.c)):=by
 have hca:=H.cc.ca;unfold kM fB;rw[ae (b:=((qH x.c).Do==20)) (by show(x.c.Do==20)=false;rw[hd];rfl),ak (b:=((qH x.c).Do==21)) (by show(x.c.Do==21)=true;rw[hd];rfl),Pn H hca.1];rw[show(qH x.c).A=x.c.A from rfl,ah (Pm H hca.1)];by_cases ha:(decide (x.c.A<8)&&x.ax.cH x.c.A.toNat)=true
 ·have hA8:x.c.A<8:=by rw[apv,decide_eq_true_eq]at ha;exact ha.1
  obtain⟨y,v,p,q,j⟩:=abK (n:=n) H.nn H.j ⟨hca.1,hA8⟩;rw[aps ha,ha,ae (b:= !true) rfl,aL (by omega) (by omega),p,ah q];exact .ok rfl rfl rfl rfl rfl (by decide) (λ_ =>rfl) j
 ·have ha:(decide (x.c.A<8)&&x.ax.cH x.c.A.toNat)=false:=by simpa using ha
  rw[apt (by rw[ha];decide),ha];exact .er (e:=2) (by decide) rfl rfl
end
def ni(k:Int):Option acR:=(NU k).map (·.2.2)
theorem aay:ni 1=some lV/\ni 2=some fO/\ni 3=some (yy ng)/\ni 4=some (yy mm)/\ni 5=some jM/\ni 6=some jk/\ni 7=some lW/\ni 8=some jN/\ni 9=some jj/\ni 10=some jL/\ni 11=some kO/\ni 12=some kL/\ni 13=some iA/\ni 14=some kK/\ni 15=some gq/\ni 16=some gq/\ni 17=some jQ/\ni 18=some lU/\ni 19=some (yy jP)/\ni 20=some kN/\ni 21=some kM/\ni 22=some jK:=
 ⟨rfl,rfl,rfl,rfl,rfl,rfl,rfl,rfl,rfl,rfl,rfl,rfl,rfl,rfl,rfl,rfl,rfl,rfl,rfl,rfl,rfl,rfl⟩
theorem ahp{k:Int}(h:k<1\/22<k):ni k=none:=by
 unfold ni NU;have:Gt.find? (λx=>k==x.1)=none:=by
  rw[List.find?_eq_none];intro x hx;have:(Gt.map (·.1)).all (λi=>decide (1<=i)&&decide (i<=22))=true:=by rfl
  have:=List.all_eq_true.1 this x.1 (List.mem_map_of_mem hx);rw[apv,decide_eq_true_eq,decide_eq_true_eq]at this;simp;omega
 rw[this];rfl
end Go.Proofs.Z
namespace Go.Proofs.Z
open Go Go.Bw
theorem ams{α β:Type}(m:Option (α×β)):(bd m λy=>some (y.1,y.2))=m:=by cases m<;>rfl
def Jg(n:Nat)(w:aj)(t:Int)(a:bQ)(a3:Nat->Int):Option (aj×aH):=if a.Do=2 then bd (dQ n w t a a3) λy=>some (y.1,y.2.1) else if a.Do=3\/a.Do=4 then eo n w t a else if a.Do=1\/(5<=a.Do/\a.Do<=9)then cN n w t a else if a.Do=10\/a.Do=11 then gJ n w t a else if a.Do=12\/a.Do=13 then iq n w t a else if a.Do=14 then kG n w t a else if 15<=a.Do/\a.Do<=17 then fJ n w t a else if a.Do=18\/a.Do=19 then iu n w t a else if 20<=a.Do/\a.Do<=22 then fB n w t a else some (w,⟨2,0,0⟩)
theorem ZN{n:Nat}{w:aj}{t:Int}{a:bQ}{a3:Nat->Int}{b:Bool}(hl:dD n {w with lz:=[]} t=some b):kg n w t a a3=if b=true then Jg n {w with lz:=[]} t a a3 else some ({w with lz:=[]},⟨12,0,0⟩):=by
 unfold kg;rw[aJ,ah hl];cases b with
 |false=>rfl
 |true=>
  rw[ae (b:= !true) rfl,aps rfl];unfold Jg;simp only[aJ,ams];by_cases h2:a.Do=2
  ·rw[aps h2,ak (by rw[h2];rfl)]
  rw[apt h2,ae (b:=(a.Do==2)) (jC h2)];by_cases h3:a.Do=3
  ·rw[aps (.inl h3),ak (b:=(a.Do==3)) (by rw[h3];rfl),ak (b:=(a.Do==3)) (by rw[h3];rfl)]
  rw[ae (b:=(a.Do==3)) (jC h3)];by_cases h4:a.Do=4
  ·rw[aps (.inr h4),ak (b:=(a.Do==4)) (by rw[h4];rfl)]
  rw[apt (by omega),ae (b:=(a.Do==4)) (jC h4)];by_cases h1:a.Do=1
  ·rw[aps (.inl h1),ak (b:=(a.Do==1)) (by rw[h1];rfl),ak (b:=(a.Do==1)) (by rw[h1];rfl)]
  rw[ae (b:=(a.Do==1)) (jC h1)];by_cases h5:a.Do=5
  ·rw[aps (by omega),ak (b:=(a.Do==5)) (by rw[h5];rfl),ak (b:=(a.Do==5)) (by rw[h5];rfl)]
  rw[ae (b:=(a.Do==5)) (jC h5)];by_cases h6:a.Do=6
  ·rw[aps (by omega),ak (b:=(a.Do==6)) (by rw[h6];rfl),ak (b:=(a.Do==6)) (by rw[h6];rfl)]
  rw[ae (b:=(a.Do==6)) (jC h6)];by_cases h7:a.Do=7
  ·rw[aps (by omega),ak (b:=(a.Do==7)) (by rw[h7];rfl),ak (b:=(a.Do==7)) (by rw[h7];rfl)]
  rw[ae (b:=(a.Do==7)) (jC h7)];by_cases h8:a.Do=8
  ·rw[aps (by omega),ak (b:=(a.Do==8)) (by rw[h8];rfl),ak (b:=(a.Do==8)) (by rw[h8];rfl)]
  rw[ae (b:=(a.Do==8)) (jC h8)];by_cases h9:a.Do=9
  ·rw[aps (by omega),ak (b:=(a.Do==9)) (by rw[h9];rfl)]
  rw[apt (by omega),ae (b:=(a.Do==9)) (jC h9)];by_cases h10:a.Do=10
  ·rw[aps (by omega),ak (b:=(a.Do==10)) (by rw[h10];rfl),ak (b:=(a.Do==10)) (by rw[h10];rfl)]
  rw[ae (b:=(a.Do==10)) (jC h10)];by_cases h11:a.Do=11
  ·rw[aps (by omega),ak (b:=(a.Do==11)) (by rw[h11];rfl)]
  rw[apt (by omega),ae (b:=(a.Do==11)) (jC h11)];by_cases h12:a.Do=12
  ·rw[aps (by omega),ak (b:=(a.Do==12)) (by rw[h12];rfl),ak (b:=(a.Do==12)) (by rw[h12];rfl)]
  rw[ae (b:=(a.Do==12)) (jC h12)];by_cases h13:a.Do=13
  ·rw[aps (by omega),ak (b:=(a.Do==13)) (by rw[h13];rfl)]
  rw[apt (by omega),ae (b:=(a.Do==13)) (jC h13)];by_cases h14:a.Do=14
  ·rw[aps h14,ak (b:=(a.Do==14)) (by rw[h14];rfl)]
  rw[apt h14,ae (b:=(a.Do==14)) (jC h14)];by_cases h15:a.Do=15
  ·rw[aps (by omega),ak (b:=(a.Do==15)) (by rw[h15];rfl),ak (b:=(a.Do==15)) (by rw[h15];rfl)]
  rw[ae (b:=(a.Do==15)) (jC h15)];by_cases Ry:a.Do=16
  ·rw[aps (by omega),ak (b:=(a.Do==16)) (by rw[Ry];rfl),ak (b:=(a.Do==16)) (by rw[Ry];rfl)]
  rw[ae (b:=(a.Do==16)) (jC Ry)];by_cases h17:a.Do=17
  ·rw[aps (by omega),ak (b:=(a.Do==17)) (by rw[h17];rfl)]
  rw[apt (by omega),ae (b:=(a.Do==17)) (jC h17)];by_cases h18:a.Do=18
  ·rw[aps (by omega),ak (b:=(a.Do==18)) (by rw[h18];rfl),ak (b:=(a.Do==18)) (by rw[h18];rfl)]
  rw[ae (b:=(a.Do==18)) (jC h18)];by_cases h19:a.Do=19
  ·rw[aps (by omega),ak (b:=(a.Do==19)) (by rw[h19];rfl)]
  rw[apt (by omega),ae (b:=(a.Do==19)) (jC h19)];by_cases h20:a.Do=20
  ·rw[aps (by omega),ak (b:=(a.Do==20)) (by rw[h20];rfl),ak (b:=(a.Do==20)) (by rw[h20];rfl)]
  rw[ae (b:=(a.Do==20)) (jC h20)];by_cases h21:a.Do=21
  ·rw[aps (by omega),ak (b:=(a.Do==21)) (by rw[h21];rfl),ak (b:=(a.Do==21)) (by rw[h21];rfl)]
  rw[ae (b:=(a.Do==21)) (jC h21)];by_cases h22:a.Do=22
  ·rw[aps (by omega),ak (b:=(a.Do==22)) (by rw[h22];rfl)]
  rw[apt (by omega),ae (b:=(a.Do==22)) (jC h22)];rfl
section
variable {n c:Nat} {x:aq} {w:aj} {fr:List Rn}
theorem amB(H:Hc n c x w fr){g:acR}(hg:ni x.c.Do=some g)(aa4:x.pS=0)(aoz:x.GJ=false)(hrun:BB x.run.At/\BB x.run.N)(hpg:∀p,x.run.At<=p->p<x.run.At+x.run.N->(¬dO fr p/\¬dO x.gX p)/\∀y,aT w.aC.T.B y->¬Jh w.aC.T y p){a3:Nat->Int}(ha3:jB a3=x.run):
  qe (c+60) x.c fr w (g n x) (Jg n w x.aE (qH x.c) a3):=by
 have hk:1<=x.c.Do/\x.c.Do<=22:=by
  by_cases h:x.c.Do<1\/22<x.c.Do
  ·rw[ahp h]at hg;cases hg
  ·omega
 obtain⟨m1,m2,m3,m4,m5,m6,m7,m8,m9,m10,m11,m12,m13,m14,m15,m16,m17,m18,m19,m20,m21,m22⟩:=aay;have hd:x.c.Do=1\/x.c.Do=2\/x.c.Do=3\/x.c.Do=4\/x.c.Do=5\/x.c.Do=6\/x.c.Do=7\/x.c.Do=8\/x.c.Do=9\/x.c.Do=10\/x.c.Do=11\/x.c.Do=12\/x.c.Do=13\/x.c.Do=14\/x.c.Do=15\/x.c.Do=16\/x.c.Do=17\/x.c.Do=18\/x.c.Do=19\/x.c.Do=20\/x.c.Do=21\/x.c.Do=22:=by omega
 have e0:(qH x.c).Do=x.c.Do:=rfl;unfold Jg;rw[e0];rcases hd with h|h|h|h|h|h|h|h|h|h|h|h|h|h|h|h|h|h|h|h|h|h<;>(have hg:=hg;rw[h]at hg)
 ·rw[apt (by omega),apt (by omega),aps (by omega)];rw[m1]at hg;cases hg;exact akO H h
 ·rw[aps h];rw[m2]at hg;cases hg;exact(Wp H aa4 hrun hpg ha3).1 aoz
 ·rw[apt (by omega),aps (by omega)];rw[m3]at hg;cases hg;exact ahu H h
 ·rw[apt (by omega),aps (by omega)];rw[m4]at hg;cases hg;exact adi H h
 ·rw[apt (by omega),apt (by omega),aps (by omega)];rw[m5]at hg;cases hg;exact ady H h
 ·rw[apt (by omega),apt (by omega),aps (by omega)];rw[m6]at hg;cases hg;exact abL H h
 ·rw[apt (by omega),apt (by omega),aps (by omega)];rw[m7]at hg;cases hg;exact aml H h
 ·rw[apt (by omega),apt (by omega),aps (by omega)];rw[m8]at hg;cases hg;exact aez H h
 ·rw[apt (by omega),apt (by omega),aps (by omega)];rw[m9]at hg;cases hg;exact XK H h
 ·rw[apt (by omega),apt (by omega),apt (by omega),aps (by omega)];rw[m10]at hg;cases hg;exact ado H h
 ·rw[apt (by omega),apt (by omega),apt (by omega),aps (by omega)];rw[m11]at hg;cases hg;exact aiF H h
 ·rw[apt (by omega),apt (by omega),apt (by omega),apt (by omega),aps (by omega)];rw[m12]at hg;cases hg;exact ahB H h
 ·rw[apt (by omega),apt (by omega),apt (by omega),apt (by omega),aps (by omega)];rw[m13]at hg;cases hg;exact T7 H h
 ·rw[apt (by omega),apt (by omega),apt (by omega),apt (by omega),apt (by omega),aps h];rw[m14]at hg;cases hg;exact agU H h
 ·rw[apt (by omega),apt (by omega),apt (by omega),apt (by omega),apt (by omega),apt (by omega),aps (by omega)];rw[m15]at hg;cases hg;exact ZO H (.inl h)
 ·rw[apt (by omega),apt (by omega),apt (by omega),apt (by omega),apt (by omega),apt (by omega),aps (by omega)];rw[m16]at hg;cases hg;exact ZO H (.inr h)
 ·rw[apt (by omega),apt (by omega),apt (by omega),apt (by omega),apt (by omega),apt (by omega),aps (by omega)];rw[m17]at hg;cases hg;exact aeT H h
 ·rw[apt (by omega),apt (by omega),apt (by omega),apt (by omega),apt (by omega),apt (by omega),apt (by omega),aps (by omega)];rw[m18]at hg;cases hg;exact ag3 H h
 ·rw[apt (by omega),apt (by omega),apt (by omega),apt (by omega),apt (by omega),apt (by omega),apt (by omega),aps (by omega)];rw[m19]at hg;cases hg;exact aeR H h
 ·rw[apt (by omega),apt (by omega),apt (by omega),apt (by omega),apt (by omega),apt (by omega),apt (by omega),apt (by omega),aps (by omega)];rw[m20]at hg;cases hg;exact ais H h
 ·rw[apt (by omega),apt (by omega),apt (by omega),apt (by omega),apt (by omega),apt (by omega),apt (by omega),apt (by omega),aps (by omega)];rw[m21]at hg;cases hg;exact ahH H h
 ·rw[apt (by omega),apt (by omega),apt (by omega),apt (by omega),apt (by omega),apt (by omega),apt (by omega),apt (by omega),aps (by omega)];rw[m22]at hg;cases hg;exact adk H h
end
end Go.Proofs.Z
namespace Go.Proofs.Z
open Go Go.Bw
section
variable {α β γ:Type} {F:β->γ}
theorem bdM{m:Option α}{f:α->Option γ}{g:α->Option β}(h:∀x,f x=(g x).map F):bd m f=(bd m g).map F:=by
 cases m with
 |none=>rfl
 |some x=>exact h x
theorem cnM{b:Bool}{x y:Option γ}{u v:Option β}(h:x=u.map F)(k:y=v.map F):cn b x y=(cn b u v).map F:=by cases b<;>assumption
theorem guM{b:Bool}{x:Option γ}{u:Option β}(h:x=u.map F):gu b x=(gu b u).map F:=by
 cases b with
 |true=>exact h
 |false=>rfl
theorem clM{b:Bool}{m:Option α}{z:α}{f:α->Option γ}{g:α->Option β}(h:∀x,f x=(g x).map F):cl b m z f=(cl b m z g).map F:=by
 cases b with
 |true=>
  cases m with
  |none=>rfl
  |some x=>exact h x
 |false=>exact h z
end
theorem Uz{n:Nat}{w:aj}{t:Int}{a:bQ}{r:Nat->Int}(B:List (Nat->Int)):dQ n {w with lz:=B} t a r=(dQ n w t a r).map λy=>({y.1 with lz:=B},y.2):=by
 unfold dQ;simp only[aJ]
 repeat first|rfl|refine cnM ?_ ?_ |refine bdM λ_ =>?_ |refine clM λ_ =>?_ |refine guM ?_
def Yf(c:Nat)(s:bw)(w:aj)(fr:List Rn):Prop:=r9 c s {w with lz:=[]} [] fr
section
variable {n c:Nat} {s:bw} {w:aj} {fr:List Rn}
def L8(s:bw)(t:Int):Bool:=(decide (0<=t)&&decide (t<8))&&s.cH (lY .i64 t 7).toNat
theorem ace{t:Int}(h:L8 s t=true):(0<=t/\t<8)/\s.cH t.toNat=true:=by unfold L8 at h;rw[apv,apv,decide_eq_true_eq,decide_eq_true_eq]at h;exact⟨h.1,by rw[← L6 h.1];exact h.2⟩
theorem VC(k:Yf c s w fr)(t:Int):dD n {w with lz:=[]} t=some (L8 s t)/\dD n w t=some (L8 s t):=by have a7:=Ux t;have e:w.cH (lY .i64 t 7).toNat=s.cH (lY .i64 t 7).toNat:=(k.al _ (by omega)).symm;unfold dD L8;rw[bG a7.1 (by omega),Bool.or_true,au rfl];exact⟨by rw[← e],by rw[← e]⟩
theorem R1(x:aq):jR n x=if L8 x.ax x.aE=true then(match ni x.c.Do with
  |none=>some (⟨2,0,0⟩,none)
  |some g=>tr (g n x) (λe=>(⟨e,0,0⟩,none)) λy=>some (y.1,some y.2))else some (⟨12,0,0⟩,none):=by
 have a7:=Ux x.aE;unfold jR;rw[au (by rw[bG a7.1 (by omega),Bool.or_true]),Qf];unfold L8 ni;split
 ·cases NU x.c.Do<;>rfl
 ·rfl
theorem aoP(hn:c+400<=n/\3000<=n/\c<=50000)(k:Yf c s w fr)(t:Int){a:aV}(ha:C1 a){run:Rn}(hrun:BB run.At/\BB run.N)(hpg:∀p,run.At<=p->p<run.At+run.N->¬dO fr p/\∀y,aT w.aC.T.B y->¬Jh w.aC.T y p){a3:Nat->Int}(ha3:jB a3=run):
  ∃s' r bk w' v,gN n s t a run=some (s',r,bk)/\kg n w t (qH a) a3=some (w',v)/\r.E=v.E/\v.W=r.W/\(0<=r.W/\r.W<4294967296)/\(a.Do≠3->v.V=r.V)/\r9 (c+60) s' w' bk fr:=by
 unfold gN;rw[aJ,R1,ZN (VC k t).1];dsimp only;have err:∀e,e≠0->∃s' r bk w' v,(bd (some ((⟨e,0,0⟩:aA),(none:Option aq))) λeC=>oc eC.2 (cn (eC.1.E !=0) (some (s,eC.1,([]:List aB))) none) λTt=>cn (eC.1.E !=0) (some (s,eC.1,([]:List aB))) (some (Tt.ax,eC.1,Tt.gX)))=some (s',r,bk)/\(some (({w with lz:=[]}:aj),(⟨e,0,0⟩:aH)))=some (w',v)/\r.E=v.E/\v.W=r.W/\(0<=r.W/\r.W<4294967296)/\(a.Do≠3->v.V=r.V)/\r9 (c+60) s' w' bk fr:=λe he=>by refine⟨s,⟨e,0,0⟩,[],{w with lz:=[]},⟨e,0,0⟩,?_,rfl,rfl,rfl,⟨Int.le_refl _,by dsimp only;decide⟩,λ_ =>rfl,r9.fA k (by omega)⟩;show cn (e !=0) _ _ =_;rw[ak (rF he)]
 by_cases hal:L8 s t=true
 ·obtain⟨ht,aie⟩:=ace hal
  rw[aps hal,aps hal];cases hg:ni a.Do with
  |none=>
   have:Jg n {w with lz:=[]} t (qH a) a3=some ({w with lz:=[]},⟨2,0,0⟩):=by
    have hd:a.Do<1\/22<a.Do:=by
     refine Classical.byContradiction λh=>?_;have hd:a.Do=1\/a.Do=2\/a.Do=3\/a.Do=4\/a.Do=5\/a.Do=6\/a.Do=7\/a.Do=8\/a.Do=9\/a.Do=10\/a.Do=11\/a.Do=12\/a.Do=13\/a.Do=14\/a.Do=15\/a.Do=16\/a.Do=17\/a.Do=18\/a.Do=19\/a.Do=20\/a.Do=21\/a.Do=22:=by omega
     obtain⟨m1,m2,m3,m4,m5,m6,m7,m8,m9,m10,m11,m12,m13,m14,m15,m16,m17,m18,m19,m20,m21,m22⟩:=aay;rcases hd with h|h|h|h|h|h|h|h|h|h|h|h|h|h|h|h|h|h|h|h|h|h<;>rw[h]at hg<;>first|(rw[m1]at hg;cases hg)|(rw[m2]at hg;cases hg)|(rw[m3]at hg;cases hg)|(rw[m4]at hg;cases hg)|(rw[m5]at hg;cases hg)|(rw[m6]at hg;cases hg)|(rw[m7]at hg;cases hg)|(rw[m8]at hg;cases hg)|(rw[m9]at hg;cases hg)|(rw[m10]at hg;cases hg)|(rw[m11]at hg;cases hg)|(rw[m12]at hg;cases hg)|(rw[m13]at hg;cases hg)|(rw[m14]at hg;cases hg)|(rw[m15]at hg;cases hg)|(rw[m16]at hg;cases hg)|(rw[m17]at hg;cases hg)|(rw[m18]at hg;cases hg)|(rw[m19]at hg;cases hg)|(rw[m20]at hg;cases hg)|(rw[m21]at hg;cases hg)|(rw[m22]at hg;cases hg)
    have e0:(qH a).Do=a.Do:=rfl;unfold Jg;rw[e0,apt (by omega),apt (by omega),apt (by omega),apt (by omega),apt (by omega),apt (by omega),apt (by omega),apt (by omega),apt (by omega)]
   rw[this];exact err 2 (by decide)
  |some g=>
   have H:Hc n c (⟨s,t,a,run,0,false,[]⟩:aq) {w with lz:=[]} fr:=⟨k,rfl,rfl,ht,aie,ha,hn⟩;rcases amB H hg rfl rfl hrun (λp h1 h2=>⟨⟨(hpg p h1 h2).1,kj p⟩,(hpg p h1 h2).2⟩) ha3 with⟨e,he,p,q⟩|⟨r,x',w',v,p,q,h1,h2,h3,h4,h5,h6⟩
   ·have q:Jg n {w with lz:=[]} t (qH a) a3=_ :=q
    dsimp only;rw[p,q];exact err e he
   ·have q:Jg n {w with lz:=[]} t (qH a) a3=_ :=q
    dsimp only;rw[p,q];refine⟨x'.ax,r,x'.gX,w',v,?_,rfl,h1.trans h2.symm,h3,h4,h5,h6⟩;show cn (r.E !=0) _ _ =_;rw[ae (by rw[h1];rfl)]
 ·rw[apt hal,apt hal]
  exact err 12 (by decide)
theorem ad3(hn:c+400<=n/\3000<=n/\c<=50000)(k:Yf c s w fr)(t:Int){a:aV}(ha:C1 a):∃m,iy n s t a=some m/\nf n w t (qH a)=some m:=by
 unfold iy nf;rw[aJ,ah (VC k t).2];by_cases hd:a.Do=2;rotate_left
 ·refine⟨0,?_,?_⟩
  ·rw[ae (by simp[hd]),ak (by simp[hd])]
  ·rw[ak (by show(!L8 s t||a.Do !=2)=true;rw[Bool.or_eq_true,bne_iff_ne];exact .inr hd)]
 rw[ak (b:=(a.Do !=2)==false) (by rw[hd];rfl),R1];dsimp only;by_cases hal:L8 s t=true;rotate_left
 ·refine⟨0,?_,?_⟩
  ·rw[apt hal];show cn (a.Do !=2||(12:Int)!=0) _ _ =_;rw[ak (by simp)]
  ·rw[ak (by rw[Bool.or_eq_true];exact .inl (by simpa using hal))]
 obtain⟨ht,aie⟩:=ace hal;have H:Hc n c (⟨s,t,a,gi,0,true,[]⟩:aq) {w with lz:=[]} fr:=⟨k,rfl,rfl,ht,aie,ha,hn⟩;obtain⟨w',v,pages,q,hp⟩:=(Wp H rfl ⟨⟨by show _ <=(0:Int);decide,by show(0:Int)<=_;decide⟩,⟨by show _ <=(0:Int);decide,by show(0:Int)<=_;decide⟩⟩ (λp h1 h2=>by
  have h1:(0:Int)<=p:=h1;have h2:p<(0:Int)+0:=h2;omega) (a3:=λ_ =>0) rfl).2 rfl rfl
 have q2:dQ n w t (qH a) (λ_ =>0)=some ({w' with lz:=w.lz},v,pages):=(Uz (w:={w with lz:=[]}) w.lz).trans (by
  have q:dQ n {w with lz:=[]} t (qH a) (λ_ =>0)=_ :=q;rw[q];rfl)
 rw[aps hal,show ni a.Do=some fO from hd▸rfl,ae (by show(!L8 s t||a.Do !=2)=false;rw[hal,hd];rfl),aJ,ah q2];dsimp only;rcases hp with⟨e,he,p,rfl⟩|⟨x',p,h1⟩
 ·refine⟨0,?_,rfl⟩
  rw[p];show cn (a.Do !=2||e !=0) _ _ =_;rw[ak (by rw[Bool.or_eq_true];exact .inr (rF he))]
 ·refine⟨pages,?_,rfl⟩
  rw[p];show cn (a.Do !=2||(0:Int)!=0) _ _ =_;rw[ae (by rw[hd];rfl)];exact congrArg some h1
end
end Go.Proofs.Z
namespace Go.Proofs.Z
open Go Go.Bw
section
variable {n c:Nat} {s:bw} {w:aj} {fr:List Rn}
theorem ad5(k:Yf c s w fr){a:aV}(ha:C1 a):∃a',uT n w a=some a'/\C1 a':=by
 have hr:=ha.cr;have hs:=ha.cs;have tail:∀(b:aV),C1 b->b.S=a.S->∀B:aD,(∀i,i<32->0<=B.gE i/\B.gE i<=8388607)->∃a',(gu (!((decide (1<=(wr .i64 a.S))&&decide ((wr .i64 a.S)<=32))==true)||bM (wr .i64 ((wr .i64 a.S)-1)) 32)<|cn (((decide (1<=(wr .i64 a.S))&&decide ((wr .i64 a.S)<=32))&&((B.Is (Int.toNat (wr .i64 ((wr .i64 a.S)-1))))==1))) (bd (eM n B (wr .i64 ((wr .i64 a.S)-1))) λiM=>lt ({b with S:=wr .u32 iM}:aV) λdL=>some dL) (some b))=some a'/\C1 a':=λb hb _ B hB=>by
  rw[aL (x:=a.S) (by omega) (by omega),aL (x:=a.S-1) (by omega) (by omega)];by_cases hc:1<=a.S/\a.S<=32
  ·have e:(decide (1<=a.S)&&decide (a.S<=32))=true:=by simpa using hc
   have hg:=hB (a.S-1).toNat (by omega);rw[e,au (by rw[bG (by omega) (by omega)];rfl),Bool.true_and];by_cases h2:B.Is (a.S-1).toNat=1
   ·obtain⟨_,_,_,q4,q5⟩:=o6 (i:=a.S-1) (g:=B.gE (a.S-1).toNat) (by omega) (by omega) hg.1 hg.2
    rw[ak (by simpa using h2),ah (rN (by omega) (by omega) hg.1 hg.2),aJ,Fy (by omega) (by omega)];exact⟨_,rfl,hb.cd,hb.cr,⟨by dsimp only;omega,q5⟩,hb.ca,hb.cb,hb.cv⟩
   ·rw[ae (by simpa using h2)]
    exact⟨_,rfl,hb⟩
  ·have e:(decide (1<=a.S)&&decide (a.S<=32))=false:=by rw[Bool.and_eq_false_iff,decide_eq_false_iff_not,decide_eq_false_iff_not];omega
   rw[e,au (by rfl),ae (by rfl)];exact⟨_,rfl,hb⟩
 have mid:∀(b:aV),C1 b->b.S=a.S->∃a',(lt (λ(fR:aD)=>gu (!((decide (1<=(wr .i64 a.S))&&decide ((wr .i64 a.S)<=32))==true)||bM (wr .i64 ((wr .i64 a.S)-1)) 32)<|cn (((decide (1<=(wr .i64 a.S))&&decide ((wr .i64 a.S)<=32))&&((fR.Is (Int.toNat (wr .i64 ((wr .i64 a.S)-1))))==1))) (bd (eM n fR (wr .i64 ((wr .i64 a.S)-1))) λiM=>lt ({b with S:=wr .u32 iM}:aV) λdL=>some dL) (some b)) λj27=>cn (((b.Do==12)||(b.Do==13))) (j27 w.aC.K.B) (j27 w.aC.T.B))=some a'/\C1 a':=λb hb he=>by
  rw[aJ];cases(b.Do==12)||(b.Do==13)with
  |true=>exact tail b hb he _ k.rk.bj.oh
  |false=>exact tail b hb he _ k.rt.bj.oh
 unfold uT;rw[aJ (α:=aV->Option aV),aL (x:=a.R) (by omega) (by omega),aL (x:=a.R-1) (by omega) (by omega)];by_cases hc:1<=a.R/\a.R<=32
 ·have e:(decide (1<=a.R)&&decide (a.R<=32))=true:=by simpa using hc
  have hg:=k.rt.bj.oh (a.R-1).toNat (by omega);have hg:0<=w.aC.T.B.gE (a.R-1).toNat/\w.aC.T.B.gE (a.R-1).toNat<=8388607:=hg;rw[e,au (by rw[bG (by omega) (by omega)];rfl),Bool.true_and];by_cases h2:w.aC.T.B.Is (a.R-1).toNat=1
  ·obtain⟨_,_,_,q4,q5⟩:=o6 (i:=a.R-1) (g:=w.aC.T.B.gE (a.R-1).toNat) (by omega) (by omega) hg.1 hg.2
   rw[ak (by simpa using h2),ah (rN (by omega) (by omega) hg.1 hg.2),aJ,Fy (by omega) (by omega)];exact mid _ ⟨ha.cd,⟨by dsimp only;omega,q5⟩,ha.cs,ha.ca,ha.cb,ha.cv⟩ rfl
  ·rw[ae (by simpa using h2)]
   exact mid a ha rfl
 ·have e:(decide (1<=a.R)&&decide (a.R<=32))=false:=by rw[Bool.and_eq_false_iff,decide_eq_false_iff_not,decide_eq_false_iff_not];omega
  rw[e,au (by rfl),ae (by rfl)];exact mid a ha rfl
theorem anQ{a:aV}(ha:C1 a):xE n a=some (qH a):=by have h1:=ha.cd;have h2:=ha.cr;have h3:=ha.cs;have h4:=ha.ca;have h5:=ha.cb;unfold xE;rw[aJ,aL (x:=a.Do) (by omega) (by omega),aL (x:=a.R) (by omega) (by omega),aL (x:=a.S) (by omega) (by omega),aL (x:=a.A) (by omega) (by omega),aL (x:=a.B) (by omega) (by omega)];rfl
theorem Zy(hn:c+400<=n/\3000<=n/\c<=50000)(k:Yf c s w fr):rG n s w=some true:=by
 have hl:=k.rl;have hl:w.aC.O.cS.length<=c:=hl;unfold rG;rw[ah (aky (n:=n) (by omega) k.rt)];refine(oB (by rfl) (akx (n:=n) (by omega) k.rt k.tt k.op (by omega))).trans ?_;refine(oB (by rfl) (Zx (n:=n) (by omega) k.rk)).trans ?_;rw[ae (by rfl)];refine fK (λ(i:Int)=>0<=i/\i<=8) (λi=>(8-i).toNat) (λo=>o=some true) ?_ n 0 ⟨by omega,by omega⟩ (by omega);rintro kk i ⟨i0,i1⟩ ih;by_cases hi:i<8
 ·have g:bM i 8=true:=bG i0 (by omega)
  have e1:s.cH i.toNat=w.cH i.toNat:=k.al _ (by omega);have e2:s.nE i.toNat=w.nE i.toNat:=k.bo _ (by omega);have e3:∀b:Bool,(b !=b)=false:=λb=>by cases b<;>rfl
  rw[ak (apw hi),g,e1,e2,e3,e3];refine(au rfl).trans ((au rfl).trans ((au rfl).trans ((au rfl).trans ((au rfl).trans ((au rfl).trans ?_)))));refine(oB (by rfl) (aav (n:=n) (by omega) (k.bx i.toNat (by omega)))).trans ?_;rw[ae (by rfl),aL (by omega) (by omega)];exact ih _ ⟨by omega,by omega⟩ (by omega)
 ·rw[ae (apD hi)]
theorem Yf.sub(k:Yf c s w fr){fr':List Rn}(hc:se fr')(h:∀p,dO fr' p->dO fr p):Yf c s w fr':=
 {k with pg:=⟨hc,λy p hy hp a=>k.pg.f y p hy hp (h p a),k.pg.d,k.pg.b,λp hp=>absurd hp (kj p),k.pg.bd⟩}
theorem akA(hn:110<=n){P:dc}(hP:se P.qu.l)(m:Int):∃(run:Rn) (is:Bool) (P':dc),oO n P m=some (run,is,P')/\se P'.qu.l/\(∀p,dO P'.qu.l p->dO P.qu.l p)/\(is=true->(BB run.At/\BB run.N)/\∀p,run.At<=p->p<run.At+run.N->dO P.qu.l p/\¬dO P'.qu.l p):=by
 unfold oO;by_cases h1:m<1
 ·rw[ak (apw h1)]
  refine⟨_,_,_,rfl,hP,λp h=>h,λ_ =>⟨⟨by constructor<;>(dsimp only;decide),by constructor<;>(dsimp only;decide)⟩,λp h2 h3=>?_⟩⟩;dsimp only at h2 h3;omega
 ·rw[ae (apD h1),ah (aeM hn hP m)]
  rcases aeN hP (k:=m)with⟨e,_⟩|⟨v,e,v0,hv,_⟩
  ·rw[e,ae rfl]
   exact⟨_,_,_,rfl,hP,λp h=>h,λh=>absurd h (by decide)⟩
  ·have hok:=hv.1
   have alp:BB v:=by unfold Ko at hok;exact⟨by omega,by omega⟩
   have hm:BB m:=by unfold Ko at hok;exact⟨by omega,by omega⟩
   obtain⟨r',g,t1,t2,t3,t4⟩:=adf hn hP alp hm;have hg:=t2.2 hv;obtain⟨q1,q2⟩:=t4 hg;rw[e,ak rfl,ah t1];refine⟨_,_,_,rfl,q1,λp h=>((q2 p).1 h).1,λ_ =>⟨⟨alp,hm⟩,λp h2 h3=>⟨hv.2 p h2 h3,λh=>((q2 p).1 h).2 ⟨h2,h3⟩⟩⟩⟩
theorem WO{l:List Rn}{k:Nat}(hk:k<l.length):l.take (k+1)=l.take k++[l.getD k default]:=by rw[apC hk,eS hk]
theorem aeC(hn:200<=n){P:dc}(hP:se P.qu.l){bk:List Rn}(hb:CY bk)(hf:∀p,dO bk p->¬dO P.qu.l p):∃P':dc,nQ n P bk=some (true,P')/\se P'.qu.l/\∀p,dO P'.qu.l p↔dO P.qu.l p\/dO bk p:=by
 have hlen:=(VO hb).len;unfold nQ;refine dY (λ(i:Int) (Q:dc)=>∃k:Nat,i=k/\k<=bk.length/\se Q.qu.l/\∀p,dO Q.qu.l p↔dO P.qu.l p\/dO (bk.take k) p) (λi _ =>bk.length-i.toNat) (λo=>∃P':dc,o=some (true,P')/\se P'.qu.l/\∀p,dO P'.qu.l p↔dO P.qu.l p\/dO bk p) ?_ n 0 P ⟨0,rfl,by omega,hP,λp=>⟨.inl,λh=>h.elim id λh=>absurd h (kj p)⟩⟩ (by omega);rintro kk i Q ⟨k,rfl,hk,hQ,hm⟩ ih;by_cases c:k<bk.length
 ·have g:bM (k:Int) bk.length=true:=bG (by omega) (by omega)
  have hy:bk.getD k default∈bk:=fT c;have hok:=hb.oh _ hy;have h64:BB (bk.getD k default).At/\BB (bk.getD k default).N:=by unfold Ko at hok;exact⟨⟨by omega,by omega⟩,⟨by omega,by omega⟩⟩
  have hsn:=WO c;have hg4:CY (bk.take k++[bk.getD k default]):=by rw[← hsn];have:bk=bk.take (k+1)++bk.drop (k+1):=(List.take_append_drop _ _).symm;rw[this]at hb;exact(Ks.1 hb).1
  obtain⟨_,_,aou⟩:=zw.1 hg4;rw[ak (apw (by omega)),au g,au g,apx];obtain⟨r',gg,t1,t2,t3,t4⟩:=VR (n:=n) (by omega) hQ h64.1 h64.2;have Ql:gg=true:=t2.2 ⟨hok,λp h1 h2 h3=>by
   rcases(hm p).1 h3 with h|h
   ·exact hf p ⟨_,hy,h1,h2⟩ h
   ·exact aou p h1 h2 h⟩
  subst Ql;obtain⟨q1,q2⟩:=t4 rfl;rw[ah t1,ae (b:= !true) rfl,aJ,aL (by omega) (by omega)];refine ih _ _ ⟨k+1,by omega,by omega,q1,λp=>?_⟩ (by omega);show dO r'.l p↔_;rw[q2 p,hm p,hsn,C8,or_assoc]
 ·rw[ae (apD (by omega))]
  rw[List.take_of_length_le (by omega)]at hm;exact⟨Q,rfl,hQ,hm⟩
theorem r9.gX{bk:List Rn}(j:r9 c s w bk fr){fr':List Rn}(hc:se fr')(h:∀p,dO fr' p↔dO fr p\/dO bk p):Yf c s w fr':=
 {j with
  pg:=⟨hc,λy p hy hp a=>((h p).1 a).elim (j.pg.f y p hy hp) λb=>j.pg.bd y p hy b hp,j.pg.d,⟨λy hy=>(by cases hy),List.Pairwise.nil⟩,λp hp=>absurd hp (kj p),λy p _ hp=>absurd hp (kj p)⟩
  bl:=rfl}
end
end Go.Proofs.Z
namespace Go.Proofs.Z
open Go Go.Bw
theorem UU:rS 20000=some true:=by kernel_rfl
theorem O5{x:Int}(h:aT gQ.B x):False:=NG (eR h).2
theorem ahP{fr:List Rn}(hc:se fr):Yf 0 {ef with cH:=dy ef.cH 0 true,nE:=dy ef.nE 0 true} {fX with cH:=dy fX.cH 0 true,nE:=dy fX.nE 0 true} fr:=by
 refine⟨afy.1,afy.2,aaT,aac,Nat.le_refl _,afW.1,afW.2,λi _ =>abW,λi _ =>rfl,λi _ =>rfl,λh hg=>(O5 hg).elim,λi=>Nat.zero_le _,⟨λi k m hm=>?_,λi k m i' k' m' hm=>?_⟩,⟨hc,λh p hg=>(O5 hg).elim,λh k p hg=>(O5 hg).elim,⟨λy hy=>(by cases hy),List.Pairwise.nil⟩,λp hp=>absurd hp (kj p),λh p hg=>(O5 hg).elim⟩,rfl⟩
 ·have:=hm.2.1
  simp at this
 ·have:=hm.2.1
  simp at this
def acX(z:jl):Prop:=((0<=z.gj/\z.gj<=255)/\((0<=z.C.Do/\z.C.Do<=255)/\(0<=z.C.R/\z.C.R<=4294967295)/\(0<=z.C.S/\z.C.S<=4294967295)/\(0<=z.C.A/\z.C.A<=4294967295)/\(0<=z.C.B/\z.C.B<=4294967295)/\(0<=z.C.V/\z.C.V<=18446744073709551615)))
theorem acX.call{z:jl}(h:acX z):C1 z.C:=by obtain⟨_,h1,h2,h3,h4,h5,h6⟩:=h;exact⟨h1,⟨h2.1,by omega⟩,⟨h3.1,by omega⟩,⟨h4.1,by omega⟩,⟨h5.1,by omega⟩,h6⟩
theorem OW{l:List jl}(hl:∀a∈l,acX a):nR 20000 l=some true:=by
 unfold nR;by_cases hc:100<l.length
 ·rw[ak (apw (by omega)),ah UU]
 rw[ae (apD (by omega))];obtain⟨r0,o1,o2,_⟩:=akK (n:=20000) 64;have b1:uR 20000=some {ef with cH:=dy ef.cH 0 true,nE:=dy ef.nE 0 true}:=rfl;have b2:yo 20000=some {fX with cH:=dy fX.cH 0 true,nE:=dy fX.nE 0 true}:=rfl;rw[ah b1,ah b2,ah o1,aJ];have k0:=ahP o2;refine Xt (λ(i:Int) (P:dc) (was:aj) (half:bw) (w:aj) (s:bw)=>∃(k:Nat),i=k/\k<=l.length/\se P.qu.l/\Yf (60*k) s w P.qu.l/\∃f0,Yf (60*k) half was f0) (λi _ _ _ _ _ =>l.length-i.toNat) (λo=>o=some true) ?_ 20000 0 ⟨r0⟩ _ _ _ _ ⟨0,rfl,by omega,o2,k0,_,k0⟩ (by omega);rintro kk i P was half w s ⟨k,rfl,hk,hP,hK,f0,hH⟩ ih;by_cases hx:k<l.length
 ·have hm:=hl _ (fT (l:=l) (i:=k) hx)
  have g1:bM (k:Int) l.length=true:=bG (by omega) (by omega);rw[ak (apw (by omega)),au g1,au g1,apx];generalize l.getD k default=a at hm;have ht:=hm.1;obtain⟨a',n1,n2⟩:=ad5 (n:=20000) hK hm.call;obtain⟨m,d1,d2⟩:=ad3 (n:=20000) (by omega) hK a.gj n2;have ho:=anQ (n:=20000) n2;obtain⟨run,is,P',p1,p2,p3,p4⟩:=akA (n:=20000) (by omega) hP m;have e3:∀b:Int,(b !=b)=false:=λb=>by simp
  rw[ah n1,aL (x:=a.gj) (by omega) (by omega),ah d1,ah ho,ah d2,ae (e3 m),ah p1];have hK':=hK.sub p2 p3;cases his:is with
  |false=>rw[ak (by rfl),aL (by omega) (by omega)];exact ih _ _ _ _ _ _ ⟨k+1,by omega,by omega,p2,r9.fA hK' (by omega),f0,r9.fA hH (by omega)⟩ (by omega)
  |true=>
   obtain⟨q1,q2⟩:=p4 his;obtain⟨s',r,bk,w',v,x1,x2,x3,x4,x5,x6,x7⟩:=aoP (n:=20000) (c:=60*k) (by omega) hK' a.gj n2 q1 (λp h1 h2=>⟨(q2 p h1 h2).2,λy hy hp=>hK.pg.f y p hy hp (q2 p h1 h2).1⟩) (a3:=dy (dy (λ_ =>0) 0 run.At) 1 run.N) (adb _ _);obtain⟨P2,y1,y2,y3⟩:=aeC (n:=20000) (by omega) p2 x7.pg.b x7.pg.bf;have hK2:=x7.gX y2 y3;have hsame:=Zy (n:=20000) (c:=60*k+60) (by omega) hK2;have alE:((bk.length:Int)!=(w'.lz.length:Int))=false:=by rw[x7.bl];simp
   rw[ae (b:= !true) rfl,ah x1,ah ho,aJ,ah x2];dsimp only;have hcmp:((((r.E !=v.E)||((wr .i64 r.W)!=v.W))||((a'.Do !=3)&&(r.V !=v.V)))||((bk.length:Int)!=(w'.lz.length:Int)))=false:=by
    rw[x3,e3,x4,aL (by omega) (by omega),e3,alE];by_cases h3:a'.Do=3
    ·rw[h3];rfl
    ·rw[x6 h3,e3,Bool.and_false];rfl
   rw[hcmp];refine(oB (by rfl) y1).trans ?_;dsimp only;rw[aJ];refine(oB (by rfl) hsame).trans ?_;rw[ae (by rfl)];have e4:(bif ((false==false):Bool)then P2 else P')=P2:=rfl;rw[e4,aL (x:=(k:Int)+1) (by omega) (by omega)];have e5:60*(k+1)=60*k+60:=by omega
   have next:∀agy abg,(∃f0,Yf (60*(k+1)) abg agy f0)->kk ((k:Int)+1) P2 agy abg w' s'=some true:=λagy abg h=>ih _ _ _ _ _ _ ⟨k+1,by omega,by omega,y2,by rw[e5];exact hK2,h⟩ (by omega)
   by_cases hh:(k:Int)=wr .i64 (Int.tdiv (l.length:Int) 2)
   ·rw[ak (by simpa using hh)]
    exact next _ _ ⟨_,by rw[e5];exact hK2⟩
   ·rw[ae (by simpa using hh)]
    exact next _ _ ⟨f0,r9.fA hH (by omega)⟩
 ·rw[ae (apD (by omega)),ah (Zy (n:=20000) (c:=60*k) (by omega) hH)]
  exact(oB (by rfl) UU).trans rfl
end Go.Proofs.Z
namespace Go.Rw
open Go Go.Bw Go.RowKit
variable {G:Sg} {P:Program}
def Hsn(W w:World):Prop:=W.heap.size<=w.heap.size/\∀b,b<W.heap.size->w.heap[b]? =W.heap[b]?
theorem aeA{g:IntKind×List (Int×Nat)}{mb:Nat}{W w:World}(h:GlX g mb W)(hs:Hsn W w):GlX g mb w:=by
 obtain⟨h1,l,⟨es,clock,h2,h3⟩,h4⟩:=h;have keep:∀{b:Nat} {o:Obj},W.heap[b]? =some o->w.heap[b]? =some o:=λ{b o} hb=>(hs.2 b (apA.1 hb).1).trans hb;refine⟨?_,l,⟨es,clock,keep h2,h3⟩,h4⟩;unfold World.cell? at h1 ⊢;cases e:W.heap[0]? with
 |none=>rw[e]at h1;cases h1
 |some o=>rw[e]at h1;rw[keep e];exact h1
theorem ail{α:Type}{W:World}{v:Value}{L:dI α}[bW L]{xs:List α}(h:Fz (λw=>bI [] W w) v L xs):Fz (Hsn W) v L xs:=
 ⟨h.sl,λw hw=>Ro.cW (h.ro {w with os:=W.os,tape:=W.tape,output:=W.output} ⟨rfl,rfl,rfl,hw.1,λk hk _ =>hw.2 k hk⟩) (Nat.le_refl _) λ_ _ =>rfl⟩
theorem RZ{ct:Ct P G}{W:World}{x:HI G ct.s}{y:HL G (bz ct.s.dZ)}{v:Value}{vs:List Value}(hz:ct.R x y)(hgl:∀g,G.gt=some g->∃mb,GlX g mb W)(hv:∀J:World->Prop,(∀w,J w->Hsn W w)->rl J (λ_ =>none) (ct.s.bl x).1 vs)(h0:(ct.s.bl x).2.1=[])(h1:(iL (λm=>m) ct.s.dZ y 0).2.1=[])
  (hro:ct.s.ro x=[])(hout:∀(J:World->Prop) (σ:bV) u us,rl J σ (iL (λm=>m) ct.s.dZ y 0).1 (u::us)->u=v):
  Calls P ct.s.k vs.toArray W λe W'=>e= .returned v/\bI [] W W':=by
 have qT:∀b,b∈List.range W.heap.size↔b<W.heap.size:=λb=>List.mem_range;generalize List.range W.heap.size=bs at qT;have hR:∀w,Hs [.ext bs (Hsn W)] w->Hsn W w:=λw h=>(h _ List.mem_cons_self).1 w (Nat.le_refl _) λ_ _ =>rfl;have hS:∀w,bI [] W w->Hs [.ext bs (Hsn W)] w:=λw h r hr=>by obtain rfl:=List.mem_singleton.1 hr;exact⟨λw' k1 k2=>⟨Nat.le_trans h.size k1,λb hb=>(k2 b ((qT b).2 hb)).trans (h.block b hb (by simp))⟩,λb hb=>Nat.lt_of_lt_of_le ((qT b).1 hb) h.size⟩
 have:=(zx (ct:=ct) (R:=[.ext bs (Hsn W)]) (qd:=[]) (ρ:=λ_ =>none) hz (λg hg=>by
  obtain⟨mb,h⟩:=hgl g hg;exact⟨mb,λw hw=>aeA h (hR w hw)⟩) (λJ hJ=>hv J λw hw=>hR w (hJ w hw)) h0 h1 (λJ _ r o e=>by rw[hro]at e;cases e) (λ_ _ =>rfl) hout).calls W (λw hw=>hS w (by simpa[cy]using hw)) (cI.nil _ _ _)
 exact this.mono λe W' ⟨_,_,he,hs,_⟩=>⟨he,by simpa[cy]using hs⟩
end Go.Rw
namespace Go.Bw
open Go Go.RowKit
theorem Ra{α β:Type}{f:α->Option β}:∀{l:List α} {m:List β},l.mapM f=some m->(∀x∈l,∃y∈m,f x=some y)/\∀y∈m,∃x∈l,f x=some y
 |[],m,h=>by rw[List.mapM_nil]at h;cases h;exact⟨λx h=>(nomatch h),λx h=>(nomatch h)⟩
 |x::l,m,h=>by
  rw[List.mapM_cons]at h;cases hx:f x with
  |none=>rw[hx]at h;cases h
  |some y=>
   rw[hx]at h;cases hl:l.mapM f with
   |none=>rw[hl]at h;cases h
   |some m'=>
    rw[hl]at h;cases h;obtain⟨h1,h2⟩:=Ra hl;refine⟨λz hz=>?_,λz hz=>?_⟩
    ·rcases List.mem_cons.1 hz with rfl|hz
     ·exact⟨y,by simp,hx⟩
     ·obtain⟨w,hw,he⟩:=h1 z hz;exact⟨w,by simp[hw],he⟩
    ·rcases List.mem_cons.1 hz with rfl|hz
     ·exact⟨x,by simp,hx⟩
     ·obtain⟨w,hw,he⟩:=h2 z hz;exact⟨w,by simp[hw],he⟩
theorem VH{H:Type}{x y:Lit×DataW H}:∀{l:List (Lit×DataW H)},y∈DataW.insert x l↔y=x\/y∈l
 |[]=>by simp[DataW.insert]
 |z::l=>by
  unfold DataW.insert;split
  ·simp
  ·rw[List.mem_cons,VH,List.mem_cons]
   constructor
   ·rintro(h|h|h)
    ·exact .inr (.inl h)
    ·exact .inl h
    ·exact .inr (.inr h)
   ·rintro(h|h|h)
    ·exact .inr (.inl h)
    ·exact .inl h
    ·exact .inr (.inr h)
theorem QE{H:Type}{y:Lit×DataW H}:∀{l:List (Lit×DataW H)},y∈l.foldr DataW.insert []↔y∈l
 |[]=>Iff.rfl
 |x::l=>by rw[List.foldr_cons,VH,QE,List.mem_cons]
theorem Af{β:Type}:∀{l:List (Int×β)} {k:Int},jt l k=none↔∀x∈l,x.1≠k
 |[],k=>⟨λ_ x h=>(nomatch h),λ_ =>rfl⟩
 |p::l,k=>by
  unfold jt;cases h:k==p.1 with
  |true=>
   have:k=p.1:=by simpa using h
   exact⟨λh=>by simp at h,λh2=>absurd this.symm (h2 p (by simp))⟩
  |false=>
   have hn:¬k=p.1:=by simpa using h
   simp only[cond_false,Option.map_eq_none_iff];rw[Af];exact⟨λh2 x hx=>by
    rcases List.mem_cons.1 hx with rfl|hx
    ·exactλe=>hn e.symm
    ·exact h2 x hx,λh2 x hx=>h2 x (by simp[hx])⟩
theorem EP{β:Type}:∀{l:List (Int×β)} {k:Int} {q:Nat×β},jt l k=some q->(k,q.2)∈l
 |[],k,q,h=>by cases h
 |p::l,k,q,h=>by
  unfold jt at h;cases e:k==p.1 with
  |true=>
   have:k=p.1:=by simpa using e
   rw[e]at h;simp only[cond_true,Option.some.injEq]at h;subst h;subst this;simp
  |false=>rw[e]at h;simp only[cond_false,Option.map_eq_some_iff]at h;obtain⟨a,ha,rfl⟩:=h;have:=EP ha;exact apE _ this
theorem TM{β:Type}{l l':List (Int×β)}(h:∀x,x∈l↔x∈l')(hf:∀x∈l',∀y∈l',x.1=y.1->x=y)(k:Int)(z:β):qQ l k z=qQ l' k z/\zl l k=zl l' k:=by
 unfold qQ zl;cases e:jt l k with
 |none=>have:jt l' k=none:=Af.2 λx hx=>Af.1 e x ((h x).2 hx);rw[this];exact⟨rfl,rfl⟩
 |some q=>
  have m1:=EP e;cases e':jt l' k with
  |none=>exact absurd rfl (Af.1 e' _ ((h _).1 m1))
  |some q'=>have m2:=EP e';have:=hf _ ((h _).1 m1) _ m2 rfl;have:q.2=q'.2:=(Prod.mk.inj this).2;simp[this]
theorem Zc{H:Type}{enc:TypeId×Value->H}{P:Program}{w:World}{base:Nat}{sp:Nat->Bool}{t k e:TypeId}(ht:P.underlying t=some (.map k e)){fuel:Nat}{cs:List Value}{S:List (Lit×DataW H)}{ps:List MemPlace}(h:DataW.trod enc P w base sp true fuel t cs=some (.map S,ps)):
  ∃b es clock n entries,cs=[.map (some b)]/\w.heap[b]? =some (.map es clock)/\es.all (·.born<clock)=true/\(es.toList.map (·.born)).eraseDups.length=es.size/\
   es.toList.mapM (λx=>(keyOf P k x.key).bind λkey=>if x.val.formed P e=true then(DataW.trod enc P w base sp true n e x.val.cells.toList).map λy=>((key,y.1),y.2)else none)=some entries/\(entries.map (·.1)).foldr DataW.insert []=S:=by
 cases fuel with
 |zero=>simp[DataW.trod]at h
 |succ n=>
  have h0:=h;rw[DataW.trod_step]at h;unfold DataW.trodStep at h;rw[ht]at h;split at h<;>try (simp_all;done)
  rename_i k' e' b hkk;have hke:k=k'/\e=e':=by simpa using hkk
  obtain⟨rfl,rfl⟩:=hke;clear h;rw[DataW.trod_step]at h0;unfold DataW.trodStep at h0;cases hb:w.heap[b]? with
  |none=>simp[ht,hb]at h0
  |some o=>
   cases o
   case map es clock=>
    simp only[ht,hb]at h0;split at h0
    ·rename_i hc
     obtain⟨_,_,abd,vE⟩:=hc;simp only[Option.bind_eq_some_iff]at h0;obtain⟨entries,hm,h3⟩:=h0;split at h3
     ·simp only[Option.some.injEq,Prod.mk.injEq,DataW.map.injEq]at h3
      exact⟨b,es,clock,n,entries,rfl,hb,abd,vE,hm,h3.1⟩
     ·cases h3
    ·cases h0
   all_goals (simp[ht,hb]at h0;done)
theorem TO{P:Program}{w:World}{base:Nat}{sp:Nat->Bool}{t k e:TypeId}{kd:IntKind}{fs rs:Array TypeId}{va:Bool}(ht:P.underlying t=some (.map k e))(hk:P.underlying k=some (.int kd))(he:P.underlying e=some (.func fs rs va))
  {fuel:Nat}{cs:List Value}{ps:List MemPlace}(T:List (Int×FuncId))(nm:FuncId->UInt8×List UInt8)
  (h:DataW.trod (funcToken P) P w base sp true fuel t cs=some (.map (T.map λx=>(.int kd x.1, .held ((nm x.2).1::(nm x.2).2))),ps))
  (hone:∀x∈T,((List.range P.funcs.size).filter λf=>(P.funcs[f]?).any (·.name.toUTF8.data.toList==(nm x.2).1::(nm x.2).2))=[x.2]):
  ∃b l,cs=[.map (some b)]/\MpJ b kd (λv:Value=>v) l w/\∀x,x∈l↔x∈T.map λy=>(y.1,Value.func (.func y.2) #[] #[]):=by
 obtain⟨b,es,clock,n,entries,rfl,hb,abd,vE,hm,hs⟩:=Zc ht h;obtain⟨m1,m2⟩:=Ra hm;have hS:∀y,y∈entries.map (·.1)↔y∈T.map λx=>((Lit.int kd x.1:Lit),(DataW.held ((nm x.2).1::(nm x.2).2):DataW (List UInt8))):=λy=>by rw[← hs,QE]
 have key:∀x∈es.toList,∀y,(keyOf P k x.key).bind (λkey=>if x.val.formed P e=true then(DataW.trod (funcToken P) P w base sp true n e x.val.cells.toList).map λy=>((key,y.1),y.2)else none)=some y->∀t∈T,y.1=((Lit.int kd t.1:Lit),(DataW.held ((nm t.2).1::(nm t.2).2):DataW (List UInt8)))->x.key= .int kd t.1/\x.val= .func (.func t.2) #[] #[]:=by
  intro x hx y hy t' ht' hyt;simp only[Option.bind_eq_some_iff]at hy;obtain⟨lit,T3,h2⟩:=hy;split at h2
  ·rename_i hfm
   simp only[Option.map_eq_some_iff]at h2;obtain⟨z,hz,rfl⟩:=h2;obtain⟨e1,e2⟩:=Prod.mk.inj hyt;subst e1;refine⟨?_,?_⟩
   ·unfold keyOf at T3
    rw[hk]at T3;unfold mapKey at T3;rw[hk]at T3;cases hxk:x.key<;>rw[hxk]at T3<;>simp at T3;obtain⟨⟨rfl,_⟩,rfl⟩:=T3;rfl
   ·obtain⟨z1,z2⟩:=z
    dsimp only at e2;subst e2;have hv:x.val.cells.toList=[x.val]:=by cases hxv:x.val<;>first|rfl|(rw[hxv]at hfm;simp[Value.formed,he]at hfm)
    rw[hv]at hz;exact func_of_trod he (hone t' ht') hz
  ·cases h2
 let l:List (Int×Value):=es.toList.map λx=>(match x.key with| .int _ i=>i|_ =>0,x.val);have hx:∀x∈es.toList,∃t∈T,x.key= .int kd t.1/\x.val= .func (.func t.2) #[] #[]:=λx hx=>by obtain⟨y,hy,hxy⟩:=m1 x hx;have:=(hS y.1).1 (List.mem_map_of_mem hy);obtain⟨t',ht',e1⟩:=List.mem_map.1 this;exact⟨t',ht',key x hx y hxy t' ht' e1.symm⟩
 refine⟨b,l,rfl,⟨es,clock,hb,⟨?_,?_,?_⟩⟩,λp=>?_⟩
 ·rw[List.map_map]
  refine List.map_congr_left λx hx'=>?_;obtain⟨t',_,e1,_⟩:=hx x hx';simp[e1]
 ·intro x hx'
  have:=Array.all_eq_true_iff_forall_mem.1 abd x (by simpa using hx');simpa using this
 ·exact Go.ChangeMaps.nodup_of_eraseDups _ (by rw[vE];simp)
 ·constructor
  ·intro hp
   obtain⟨x,hx',rfl⟩:=List.mem_map.1 hp;obtain⟨t',ht',e1,e2⟩:=hx x hx';exact List.mem_map.2 ⟨t',ht',by simp[e1,e2]⟩
  ·intro hp
   obtain⟨t',ht',rfl⟩:=List.mem_map.1 hp;have:=(hS _).2 (List.mem_map_of_mem (f:=λx=>((Lit.int kd x.1:Lit),(DataW.held ((nm x.2).1::(nm x.2).2):DataW (List UInt8)))) ht');obtain⟨y,hy,e1⟩:=List.mem_map.1 this;obtain⟨x,hx',hxy⟩:=m2 y hy;obtain⟨e2,e3⟩:=key x hx' y hxy t' ht' e1;exact List.mem_map.2 ⟨x,hx',by simp[e2,e3]⟩
end Go.Bw
