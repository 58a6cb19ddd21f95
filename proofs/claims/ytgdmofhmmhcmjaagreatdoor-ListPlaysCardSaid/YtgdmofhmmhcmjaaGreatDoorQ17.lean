/- Part 17 of what a proof leans on; pruned and shortened by a program out of longer texts. -/
import Derived.Test.YtgdmofhmmhcmjaaGreatDoorQ16
namespace Go.Proofs.Z
open Go Go.Bw
theorem Lr.zZ{m m':Int->Int}{L a w x0:Int}{vs r sp:List Int}(h:Lr m L a vs (x0::r) sp)(e0:m' a=w)(e1:Rx m' (x0::r).reverse w)(e2:m' (a+8)=x0+1)(e3:m' (a+16)=m (a+16))(e4:m' (a+24)=m (a+24))(e5:∀y∈sp,m' y=m y)(e6:∀y∈(x0::r)++sp,m' (y+8)=m (y+8)):Lr m' L a vs.reverse (x0::r).reverse sp:=by
 have hp:((x0::r).reverse++sp).Perm ((x0::r)++sp):=(List.reverse_perm _).append_right _;refine⟨h.hb,λy hy=>h.nb y (hp.mem_iff.1 hy),(List.Perm.pairwise_iff vR hp).2 h.cr,by rw[e0];exact e1,λpre z e=>?_,?_,?_,?_⟩
 ·have:x0=z:=by
   have:=congrArg List.getLast? e;rw[List.reverse_cons,List.getLast?_append,List.getLast?_append]at this;simpa using this
  rw[e2,this]
 ·rw[e3,h.Ad];simp
 ·rw[e4];exact gk e5 h.spare
 ·rw[h.val, ← List.map_reverse]
  exact List.map_congr_left λy hy=>(e6 y (by rw[List.mem_reverse]at hy;exact aiN _ hy)).symm
section
variable {n:Nat} {S S':ae} {P P':aj} {M:ai} {Q Q':List Int} {t h:Int} {k:Nat} {a:Int}
theorem aep(hn:200<=n)(E:Me n S P M Q t h k){vs ns sp:List Int}(R:Lr (Wd S P k) (bx S k).ep a vs ns sp):
  ∃P',(yL (λk83 (JK:Int) (x74:Int) (x75:ae) (CW:aj) (Sd:ai) (Qs:(List Int)) (Qr:Int) (x80:Int) (Xj:Int) (x82:Int)=>cn (decide (JK<(ns.length:Int))) (gu (dk JK ns.length)<|bd (cK n x75 CW Sd Qs Qr x80 Xj x82 (wr .i64 ((ns.getD (Int.toNat JK) default)+0)) x74) λEG=>bd (gi n (ns.getD (Int.toNat JK) default)) λXi=>k83 (wr .i64 (JK+1)) Xi EG.1 EG.2.1 EG.2.2.1 EG.2.2.2.1 EG.2.2.2.2.1 EG.2.2.2.2.2.1 EG.2.2.2.2.2.2.1 EG.2.2.2.2.2.2.2) (cn (decide (0<(ns.length:Int))) (bd (bg n x75 CW Sd Qs Qr x80 Xj x82 0 x74) λLm=>gu (dk 0 ns.length)<|bd (gi n (ns.getD (Int.toNat 0) default)) λx87=>bd (bg n Lm.1 Lm.2.1 Lm.2.2.1 Lm.2.2.2.1 Lm.2.2.2.2.1 Lm.2.2.2.2.2.1 Lm.2.2.2.2.2.2.1 Lm.2.2.2.2.2.2.2 8 x87) λFT=>some (FT.1,FT.2.1,FT.2.2.1,FT.2.2.2.1,FT.2.2.2.2.1,FT.2.2.2.2.2.1,FT.2.2.2.2.2.2.1,FT.2.2.2.2.2.2.2)) (some (x75,CW,Sd,Qs,Qr,x80,Xj,x82)))) n 0 0 S P M Q t h a 0)=some (S,P',M,Q,t,h,a,0)/\Me n S P' M Q t h k/\Ev S P Q S P' Q k/\Lr (Wd S P' k) (bx S k).ep a vs.reverse ns.reverse sp:=by
 obtain⟨b1,b2,b3,b4⟩:=R.hb;have hin:∀z,z=0\/z=8\/z=16\/z=24->lK S k (a+z):=λz hz=>⟨by omega,by omega,by omega⟩;have har:0<=a/\a<=100000:=⟨b1,by omega⟩;have hm:=R.Gt;rw[List.length_append]at hm;refine NP (λ(i:Int) (w:Int) s p m q t' h' a' e=>∃(d:List Int) (r:List Int),ns=d++r/\i=(d.length:Int)/\s=S/\m=M/\q=Q/\t'=t/\h'=h/\a'=a/\e=0/\Me n S p M Q t h k/\Ev S P Q S p Q k/\Rx (Wd S p k) d.reverse w/\(∀z,z∉d->Wd S p k z=Wd S P k z)/\0<=w/\w<4294967296) (λi _ _ _ _ _ _ _ _ _ =>((ns.length:Int)-i).toNat)
  (λo=>∃P',o=some (S,P',M,Q,t,h,a,0)/\Me n S P' M Q t h k/\Ev S P Q S P' Q k/\Lr (Wd S P' k) (bx S k).ep a vs.reverse ns.reverse sp) ?_ n 0 0 _ _ _ _ _ _ _ _ ⟨[],ns,rfl,rfl,rfl,rfl,rfl,rfl,rfl,rfl,rfl,E,Ev.refl _ _ _ _,rfl,λ_ _ =>rfl,by omega,by omega⟩ (by omega)
 rintro kk i w s p m q t' h' a' e ⟨d,r,hd,rfl,rfl,rfl,rfl,rfl,rfl,rfl,rfl,E1,V1,YT,hold,w0,w1⟩ ih;have hlen:ns.length=d.length+r.length:=by rw[hd,List.length_append]
 have hdm:∀y∈d,y∈ns:=λy hy=>by rw[hd];simp[hy]
 cases r with
 |cons x r=>
  rw[List.length_cons]at hlen;obtain⟨x0,x1,x2,x3⟩:=R.nb x (by rw[hd];simp);have hgx:ns.getD (Int.toNat (d.length:Int)) default=x:=by rw[aiL,hd,List.getD,List.getElem?_append_right (Nat.le_refl _),Nat.sub_self];rfl
  obtain⟨P2,f2,E2,W2,V2⟩:=uy (a:=a') hn E1 (x:=x+0) (v:=w) ⟨by omega,by omega,by omega⟩ ⟨w0,by omega⟩;rw[aS (by simp;omega),bj (fP (by omega) (by omega)),hgx,bq (x:=x+0) (by omega) (by omega),ak f2,ak (mR (by omega) (by omega)),bq (by omega) (by omega)];have hxd:x∉d:=λhxd=>by have h1:=(List.pairwise_append.1 R.cr).1;rw[hd]at h1;have h2:=(List.pairwise_append.1 h1).2.2 x hxd x (by simp);unfold tS at h2;omega
  have hw2:∀z,z≠x->Wd s P2 k z=Wd s p k z:=λz hz=>by rw[W2,Fq _ _ (by omega)]
  refine ih _ _ _ _ _ _ _ _ _ _ ⟨d++[x],r,by rw[hd];simp,by simp,rfl,rfl,rfl,rfl,rfl,rfl,rfl,E2,V1.trans V2,?_,λz hz=>?_,by omega,by omega⟩ (by omega)
  ·rw[List.reverse_append]
   refine⟨rfl,?_⟩;have:Wd s P2 k x=w:=by rw[W2,Int.add_zero,JY]
   rw[this];exact gk (λy hy=>hw2 y λe=>hxd (by rw[← e];simpa using hy)) YT
  ·rw[hw2 z (λe=>hz (by rw[e];simp)),hold z (λhh=>hz (by simp[hh]))]
 |nil=>
  have hd':ns=d:=by rw[hd,List.append_nil]
  rw[au (by rw[hlen];simp)];cases ns with
  |nil=>
   subst hd';rw[au (by rfl)];refine⟨p,rfl,E1,V1,?_⟩;have hv:vs=[]:=by have:=R.val;simpa using this
   rw[hv];have:=R.frame (m':=Wd s p k) (L':=(bx s k).ep) ⟨by omega,b4⟩ (λz _ =>hold z (by simp)) (λz _ =>⟨hold z (by simp),hold _ (by simp)⟩);rw[hv]at this;exact this
  |cons x0 r=>
   obtain⟨y0,y1,y2,y3⟩:=R.nb x0 (by simp);obtain⟨P2,f2,E2,W2,V2⟩:=jO (a:=a') hn E1 har (x:=0) (v:=w) (by omega) (hin 0 (by omega)) ⟨w0,by omega⟩;obtain⟨P3,f3,E3,W3,V3⟩:=jO (a:=a') hn E2 har (x:=8) (v:=x0+1) (by omega) (hin 8 (by omega)) (by omega);rw[aS (by simp),ak f2,bj (fP (by omega) (by simp)),show(x0::r).getD (Int.toNat 0) default=x0 from rfl,ak (mR (by omega) (by omega)),ak f3];refine⟨P3,rfl,E3,V1.trans (V2.trans V3),?_⟩;have hW:∀z,Wd s P3 k z=if z=a'+8 then x0+1 else if z=a' then w else Wd s p k z:=λz=>by rw[W3,W2,Int.add_zero];rfl
   have tu:∀z∈(x0::r)++sp,∀u,u=z\/u=z+8->Wd s P3 k u=Wd s p k u:=λz hz u hu=>by have:=R.nb z hz;rw[hW,aiH (by omega),aiH (by omega)]
   have ahM:∀z∈(x0::r)++sp,z+8∉d:=λz hz hh=>by have h1:=Ny R.cr hz (aiN sp (hdm _ hh));unfold tS at h1;omega
   have hhd:∀u,u=a'+16\/u=a'+24->u∉d:=λu hu hh=>by have:=R.nb u (aiN sp (hdm _ hh));omega
   refine R.zZ (w:=w) ?_ ?_ ?_ ?_ ?_ (λy hy=>?_) λy hy=>?_
   ·rw[hW,aiH (by omega),aiG rfl]
   ·rw[← hd']at YT
    exact gk (λy hy=>tu y (by rw[List.mem_reverse]at hy;exact aiN _ hy) y (.inl rfl)) YT
   ·rw[hW,aiG rfl]
   ·rw[hW,aiH (by omega),aiH (by omega),hold _ (hhd _ (.inl rfl))]
   ·rw[hW,aiH (by omega),aiH (by omega),hold _ (hhd _ (.inr rfl))]
   ·rw[tu y (aiM _ hy) y (.inl rfl),hold]
    intro hh;have h1:=(List.pairwise_append.1 R.cr).2.2 y (hdm y hh) y hy;unfold tS at h1;omega
   ·rw[tu y hy _ (.inr rfl),hold _ (ahM y hy)]
theorem SN(hn:200<=n)(E:Me n S P M Q t h k){vs ns sp:List Int}(R:Lr (Wd S P k) (bx S k).ep a vs ns sp):
  ∃P',mq n S P M Q t h a=some (0,S,P',M,Q,t,h,a)/\Me n S P' M Q t h k/\Ev S P Q S P' Q k/\Lr (Wd S P' k) (bx S k).ep a vs.reverse ns.reverse sp:=by
 obtain⟨b1,b2,b3,b4⟩:=R.hb;have hin:∀z,z=0\/z=8\/z=16\/z=24->lK S k (a+z):=λz hz=>⟨by omega,by omega,by omega⟩;have har:0<=a/\a<=100000:=⟨b1,by omega⟩;have hm:=R.Gt;rw[List.length_append]at hm;obtain⟨P',e1,e2,e3,e4⟩:=aep hn E R;refine⟨P',?_,e2,e3,e4⟩;have h1:mQ n S P M Q t h a 0=some (S,P',M,Q,t,h,a,0):=by
  unfold mQ;rw[ak (nt hn E.mr har (by omega) (hin 16 (by omega))),ak (nt hn E.mr har (by omega) (hin 0 (by omega))),aK,R.Ad,Int.add_zero,au (by simp;omega)];dsimp only;refine wD (λ(i:Int) (f:Int) (out:List Int) s p m q t' h' a' e=>∃(r:List Int),ns=out++r/\i=(out.length:Int)/\Rx (Wd S P k) r f/\s=S/\p=P/\m=M/\q=Q/\t'=t/\h'=h/\a'=a/\e=0) (λi _ _ _ _ _ _ _ _ _ _ =>((ns.length:Int)-i).toNat) (λo=>o=some (S,P',M,Q,t,h,a,0)) ?_ n 0 _ _ _ _ _ _ _ _ _ _ ⟨ns,rfl,rfl,R.first,rfl,rfl,rfl,rfl,rfl,rfl,rfl,rfl⟩ (by omega);rintro kk i f out s p m q t' h' a' e ⟨r,hd,rfl,hf,rfl,rfl,rfl,rfl,rfl,rfl,rfl,rfl⟩ ih;have hlen:ns.length=out.length+r.length:=by rw[hd,List.length_append]
  cases r with
  |nil=>
   have hd':out=ns:=by rw[hd,List.append_nil]
   subst hd';rw[au (by simp)];exact e1
  |cons x r=>rw[List.length_cons]at hlen;obtain⟨rfl,hf2⟩:=hf;obtain⟨x0,x1,x2,x3⟩:=R.nb x (by rw[hd];simp);rw[aS (by simp;omega),aK,au (by simp;omega)];dsimp only;rw[rZ (by rfl) (Ef (by omega) (by omega)),au (by rfl),bj (jt (by simp;omega) (by simp;omega)),aK,ak (Ef (by omega) (by omega)),bq (x:=x+0) (by omega) (by omega),ak (Mg hn E.mr ⟨by omega,by omega,by omega⟩),ru (by omega) (by omega)];refine ih _ _ _ _ _ _ _ _ _ _ _ ⟨r,by rw[hd];simp,by simp,?_,rfl,rfl,rfl,rfl,rfl,rfl,rfl,rfl⟩ (by omega);dsimp only;rw[Int.add_zero];exact hf2
 unfold mq;rw[ak h1]
end
end Go.Proofs.Z
namespace Go.Proofs.Z
open Go Go.Bw
theorem abO{p q:Int}(hp:1<=p/\p<=64)(hq:1<=q/\q<=64):∃S P,dX 20000 (JG q) (WG p) bB [] 0 1 32 8=some (0,0,S,P,bB,[],0)/\Me 20000 S P bB [] 0 1 0/\P.n=p/\S=iI (JG q) 0 ⟨[⟨0,1⟩],32⟩/\(∀j,Wd S P j=λ_ =>0)/\(∀x,bZ P.dV.l x↔1<=x/\x<p)/\Lr (Wd S P 0) 32 0 [] [] []:=by obtain⟨S,P,e1,e2,e3,e4,e5,e6⟩:=abP (s:=32) hp hq.2 rfl rfl (by have:eX 32=1:=rfl;omega);refine⟨S,P,e1,e2,e3,e4,e5,e6,?_⟩;rw[e5 0];exact⟨by omega,by simp,by simp,rfl,λpre x e=>by simp at e,rfl,rfl,rfl⟩
end Go.Proofs.Z
namespace Go.Proofs.Z
open Go Go.Bw
def J5(c:Int):Int:=if c=0\/4294967296<c then -1 else c-1
theorem OR{n:Nat}{c:Int}(h0:0<=c)(h1:c<18446744073709551616):gR n c=some (J5 c):=by
 unfold gR J5;by_cases h:c=0\/4294967296<c
 ·rw[aS (by simpa using h),aiG h]
 ·rw[au (by simpa using h),aiH h,ru (by omega) (by omega),bq (by omega) (by omega)]
theorem J4{c:Int}(h0:0<=c): -1<=J5 c/\J5 c<4294967296:=by unfold J5;split<;>omega
section
variable {n:Nat} {S:ae} {P P':aj} {M:ai} {Q:List Int} {t h:Int} {k:Nat} {a:Int}
def rdb(S:ae)(k:Nat)(x:Int):Prop:=0<=x/\x+8<=(bx S k).ep
instance(S:ae)(k:Nat)(x:Int):Decidable (rdb S k x):=by unfold rdb;infer_instance
theorem GM(hn:200<=n)(E:Me n S P M Q t h k)(x:Int):∃v e,cy n S P M Q t h a 0 x=some (v,S,P,M,Q,t,h,a,e)/\(0<=v/\v<18446744073709551616)/\(rdb S k x->v=vZ S P k x/\e=0)/\(¬rdb S k x->e≠0):=by
 by_cases hx:rdb S k x
 ·refine⟨_,0,?_,FY E.cw k x,λ_ =>⟨rfl,rfl⟩,λh=>absurd hx h⟩
  unfold cy;rw[au (by rfl),ak (OL hn E.cw E.FN hx.1 hx.2),aK]
 ·obtain⟨e,he,hw⟩:=Sr hn E.cw E.FN (x:=x) hx
  refine⟨0,e,?_,by omega,λh=>absurd h hx,λ_ =>by omega⟩;unfold cy;rw[au (by rfl),ak hw,aK]
def Gs(S:ae)(P:aj)(k:Nat)(c d:Int):Prop:=c≠0/\rdb S k (J5 c+8)/\rdb S k (J5 c)/\d=vZ S P k (J5 c)
def WU(S:ae)(P:aj)(k:Nat):Nat->Int->Int->Prop
 |0,c,d=>c=d
 |j+1,c,d=>∃x,WU S P k j c x/\Gs S P k x d
theorem O5{j:Nat}{c d d':Int}(h:WU S P k j c d)(h':WU S P k j c d'):d=d':=by
 induction j generalizing d d' with
 |zero=>have h:c=d:=h;have h':c=d':=h';omega
 |succ j ih=>obtain⟨x,h1,h2⟩:=h;obtain⟨y,h3,h4⟩:=h';obtain rfl:=ih h1 h3;rw[h2.2.2.2,h4.2.2.2]
theorem Yf{j m:Nat}{c d:Int}(h:WU S P k m c d)(hj:j<=m):∃x,WU S P k j c x:=by
 induction m generalizing d with
 |zero=>
  obtain rfl:j=0:=by omega
  exact⟨c,rfl⟩
 |succ m ih=>
  rcases Nat.lt_or_ge j (m+1)with h1|h1
  ·obtain⟨x,h2,_⟩:=h
   exact ih h2 (by omega)
  ·obtain rfl:j=m+1:=(by omega)
   exact⟨d,h⟩
end
end Go.Proofs.Z
namespace Go.Proofs.Z
open Go Go.Bw
section
variable {n:Nat} {S:ae} {P P':aj} {M:ai} {Q:List Int} {t h:Int} {k:Nat} {a:Int}
theorem Zp{i:Int}(h0:0<=i)(h1:i<=9223372036854775807):wr .u64 ((wr .u64 (if 0<i then i else 0))+1)=i+1/\wr .u64 i=i:=by
 have e:(if 0<i then i else 0)=i:=by split<;>omega
 rw[e,ru (x:=i) (by omega) (by omega),ru (by omega) (by omega)];exact⟨rfl,rfl⟩
theorem aaQ(hn:300<=n)(E:Me n S P M Q t h k)(hb:0<=a/\a%8=0/\a+32<=(bx S k).ep){i:Nat}(hi:(i:Int)<Wd S P k (a+16))(aiB:i<=127){c d:Int}(hp:WU S P k i (Wd S P k a) c)(hc:Gs S P k c d):
  jb n S P M Q t h a 0 (i:Int)=some (J5 c,S,P,M,Q,t,h,a,0):=by
 obtain⟨b1,b2,b3⟩:=hb;have hm:=(E.cw.may k).hi;have hs:=(E.cw.may k).gx.sum;have hin:∀z,z=0\/z=8\/z=16\/z=24->lK S k (a+z):=λz hz=>⟨by omega,by omega,by omega⟩;have har:0<=a/\a<=100000:=⟨b1,by omega⟩;have hf:=zb E.cw k a;obtain⟨u1,u2⟩:=Zp (i:=(i:Int)) (by omega) (by omega);have afH:WU S P k (i+1) (Wd S P k a) d:=⟨c,hp,hc⟩;unfold jb;rw[ak (nt (by omega) E.mr har (by omega) (hin 16 (by omega))),aK,u1,u2,au (by simp;omega)];dsimp only;rw[ak (nt (by omega) E.mr har (by omega) (hin 0 (by omega))),aK,au (by simp;omega),Int.add_zero];dsimp only;refine wD (λ(x:Int) (f:Int) (out:Int) (s:ae) (p:aj) (m:ai) (q:List Int) (t' h' a' e:Int)=>∃j:Nat,x=(j:Int)/\j<=i+1/\WU S P k j (Wd S P k a) f/\(0<=f/\f<18446744073709551616)/\(j=i+1->out=J5 c)/\s=S/\p=P/\m=M/\q=Q/\t'=t/\h'=h/\a'=a/\e=0) (λ(x:Int) _ _ _ _ _ _ _ _ _ _ =>((i:Int)+1-x).toNat) (λo=>o=some (J5 c,S,P,M,Q,t,h,a,0)) ?_ n 0 _ 0 _ _ _ _ _ _ _ _ ⟨0,rfl,by omega,rfl,hf,λh=>by omega,rfl,rfl,rfl,rfl,rfl,rfl,rfl,rfl⟩ (by omega);rintro kk x f out s p m q t' h' a' e ⟨j,rfl,hj,hpj,hfr,ho,rfl,rfl,rfl,rfl,rfl,rfl,rfl,rfl⟩ ih;by_cases hlt:j<i+1
 ·obtain⟨f2,xT⟩:=Yf afH (j:=j+1) (by omega)
  obtain⟨f1,hp1,hn1⟩:=id xT;obtain rfl:=O5 hp1 hpj;obtain⟨q1,q2,q3,q4⟩:=id hn1;have tr:=J4 hfr.1;rw[aS (by simp;omega),aK,au (by simpa using q1)];dsimp only;obtain⟨v,e1,g1,g2,g3,_⟩:=GM (a:=a') (by omega) E (J5 f1);obtain⟨rfl,rfl⟩:=g3 q3;rw[rZ (by rfl) (OR hfr.1 hfr.2),au (by rfl),aK,ak (OR hfr.1 hfr.2),bq (x:=J5 f1+0) (by omega) (by omega),Int.add_zero,ak g1,ru (x:=(j:Int)+1) (by omega) (by omega)];refine ih _ _ _ _ _ _ _ _ _ _ _ ⟨j+1,by omega,by omega,?_,g2,λ_=>?_,rfl,rfl,rfl,rfl,rfl,rfl,rfl,rfl⟩ (by omega)
  ·dsimp only
   rw[← q4];exact xT
  ·have:j=i:=by omega
   subst this;rw[O5 hpj hp]
 ·rw[au (by simp;omega),ho (by omega)]
theorem VD(hn:300<=n)(E:Me n S P M Q t h k)(hb:0<=a/\a%8=0/\a+32<=(bx S k).ep){i:Int}(hi: -9223372036854775808<=i/\i<=9223372036854775807):
  ∃x e,jb n S P M Q t h a 0 i=some (x,S,P,M,Q,t,h,a,e)/\(-1<=x/\x<4294967296)/\(¬(0<=i/\i<Wd S P k (a+16))->e=9):=by
 obtain⟨b1,b2,b3⟩:=hb;have hm:=(E.cw.may k).hi;have hs:=(E.cw.may k).gx.sum;have hin:∀z,z=0\/z=8\/z=16\/z=24->lK S k (a+z):=λz hz=>⟨by omega,by omega,by omega⟩;have har:0<=a/\a<=100000:=⟨b1,by omega⟩;have hc:=zb E.cw k (a+16);have hf:=zb E.cw k a;obtain⟨u,hu,hu0⟩:∃u,wr .u64 ((wr .u64 (if 0<i then i else 0))+1)=u/\1<=u:=by
  refine⟨_,rfl,?_⟩;by_cases h0:0<=i
  ·rw[(Zp h0 hi.2).1];omega
  ·rw[aiH (by omega)];decide
 unfold jb;rw[ak (nt (by omega) E.mr har (by omega) (hin 16 (by omega))),aK,hu];generalize Wd S P k (a+16)=Ad at hc;have main:∀(e0 f0:Int),(0<=f0/\f0<18446744073709551616)->(e0=0->u<=128)->∃x e,wE (λk52 (gy:Int) (mX:Int) (xR:Int) (xw:ae) (IM:aj) (vg:ai) (Fo:(List Int)) (zQ:Int) (qX:Int) (tU:Int) (CX:Int)=>cn (decide (gy<u)) (lt (λ(ye:ae) (lA:aj) (qc:ai) (FV:(List Int)) (yd:Int) (M7:Int) (FU:Int) (zB:Int)=>cl (((zB !=0)==false)) (gR n mX) default λJN=>cn ((zB !=0)) (some (xR,ye,lA,qc,FV,yd,M7,FU,zB)) (lt (JN:Int) λSi=>bd (gR n mX) λQt=>bd (cy n ye lA qc FV yd M7 FU zB (wr .i64 (Qt+0))) λve=>k52 (wr .u64 (gy+1)) ve.1 Si ve.2.1 ve.2.2.1 ve.2.2.2.1 ve.2.2.2.2.1 ve.2.2.2.2.2.1 ve.2.2.2.2.2.2.1 ve.2.2.2.2.2.2.2.1 ve.2.2.2.2.2.2.2.2)) λj61=>cn (((CX==0)&&(mX==0))) (j61 xw IM vg Fo zQ qX tU 3) (j61 xw IM vg Fo zQ qX tU CX)) (some (xR,xw,IM,vg,Fo,zQ,qX,tU,CX))) n 0 f0 0 S P M Q t h a e0=some (x,S,P,M,Q,t,h,a,e)/\(-1<=x/\x<4294967296)/\(e0≠0->e=e0):=by
  intro e0 f0 hf0 he0;refine wD (λ(x:Int) (f:Int) (out:Int) (s:ae) (p:aj) (m:ai) (q:List Int) (t' h' a' e:Int)=>∃j:Nat,x=(j:Int)/\(0<=f/\f<18446744073709551616)/\(-1<=out/\out<4294967296)/\(e0≠0->e=e0/\j=0)/\(e0=0->u<=128)/\s=S/\p=P/\m=M/\q=Q/\t'=t/\h'=h/\a'=a) (λ(x:Int) _ _ _ _ _ _ _ _ _ (e:Int)=>if e=0 then(130-x).toNat else 0) (λo=>∃(x:Int) (e:Int),o=some (x,S,P,M,Q,t,h,a,e)/\(-1<=x/\x<4294967296)/\(e0≠0->e=e0)) ?_ n 0 f0 0 _ _ _ _ _ _ _ e0 ⟨0,rfl,hf0,by omega,λ_ =>⟨rfl,rfl⟩,he0,rfl,rfl,rfl,rfl,rfl,rfl,rfl⟩ (by split<;>omega);rintro kk x f out s p m q t' h' a' e ⟨j,rfl,hfr,hor,hee,hu1,rfl,rfl,rfl,rfl,rfl,rfl,rfl⟩ ih;by_cases hlt:(j:Int)<u
  ·rw[aS (by simpa using hlt),aK]
   by_cases hz:e=0
   ·subst hz
    have aco:e0=0:=Decidable.byContradiction λq=>q (hee q).1.symm;have hu2:=hu1 aco;by_cases hf1:f=0
    ·rw[aS (by rw[hf1];rfl)]
     dsimp only;rw[tD (by rfl),aS (by rfl)];exact⟨out,3,rfl,hor,λh=>absurd aco h⟩
    ·have tr:=J4 hfr.1
     rw[au (by simpa using hf1)];dsimp only;obtain⟨v,e1,g1,g2,g3,g4⟩:=GM (a:=a') (by omega) E (J5 f);rw[rZ (by rfl) (OR hfr.1 hfr.2),au (by rfl),aK,ak (OR hfr.1 hfr.2),bq (x:=J5 f+0) (by omega) (by omega),Int.add_zero,ak g1,ru (x:=(j:Int)+1) (by omega) (by omega)];refine ih _ _ _ _ _ _ _ _ _ _ _ ⟨j+1,by omega,g2,tr,λh=>absurd aco h,hu1,rfl,rfl,rfl,rfl,rfl,rfl,rfl⟩ ?_;dsimp only;rw[aiG rfl];split<;>omega
   ·have hb:(e==0)=false:=by simpa using hz
    have H8:(e !=0)=true:=by simpa using hz
    rw[au (by rw[hb];rfl)];dsimp only;rw[H8,tD (by rfl),aS (by rfl)];exact⟨out,e,rfl,hor,λh=>(hee h).1⟩
  ·rw[au (by simpa using hlt)]
   exact⟨out,e,rfl,hor,λh=>(hee h).1⟩
 by_cases hr:0<=i/\i<Ad
 ·rw[(Zp hr.1 hi.2).2,au (by simp;omega)]
  dsimp only;rw[ak (nt (by omega) E.mr har (by omega) (hin 0 (by omega))),aK,Int.add_zero];by_cases h128:128<u
  ·rw[aS (by simpa using h128)]
   obtain⟨x,e,h1,h2,_⟩:=main 3 (Wd S P k a) hf (λh=>by omega);exact⟨x,e,h1,h2,λh=>absurd hr h⟩
  ·rw[au (by simpa using h128)]
   obtain⟨x,e,h1,h2,_⟩:=main 0 (Wd S P k a) hf (λ_ =>by omega);exact⟨x,e,h1,h2,λh=>absurd hr h⟩
 ·have hg:((0:Int)==0&&(decide (i<0)||decide (Ad<=wr .u64 i)))=true:=by
   by_cases h0:0<=i
   ·rw[(Zp h0 hi.2).2];simp;omega
   ·simp;omega
  rw[aS hg];dsimp only;rw[ak (acg (show(9:Int)≠0 by omega)),aK,au (by rfl)];obtain⟨x,e,h1,h2,h3⟩:=main 9 0 (by omega) (λh=>by omega);exact⟨x,e,h1,h2,λ_ =>h3 (by omega)⟩
theorem Y7(hn:300<=n)(E:Me n S P M Q t h k)(hb:0<=a/\a%8=0/\a+32<=(bx S k).ep){i:Int}(hi: -9223372036854775808<=i/\i<=9223372036854775807):
  ∃v e,kW n S P M Q t h a i=some (v,e,S,P,M,Q,t,h,a)/\(¬(0<=i/\i<Wd S P k (a+16))->e=9/\v=0)/\(0<=i->i<Wd S P k (a+16)->i<=127->∀c d,WU S P k i.toNat (Wd S P k a) c->Gs S P k c d->e=0/\v=vZ S P k (J5 c+8)):=by
 obtain⟨x,e,h1,h2,h3⟩:=VD hn E hb hi;have fin:∀{x e:Int},(-1<=x/\x<4294967296)->jb n S P M Q t h a 0 i=some (x,S,P,M,Q,t,h,a,e)->∃v e1,kW n S P M Q t h a i=some (v,e1,S,P,M,Q,t,h,a)/\(e≠0->e1=e/\v=0)/\(e=0->rdb S k (x+8)->e1=0/\v=vZ S P k (x+8)):=by
  intro x e hx hh;unfold kW;rw[ak hh,bq (x:=x+8) (by omega) (by omega)];by_cases he:e=0
  ·subst he
   obtain⟨v,e1,g1,g2,g3,g4⟩:=GM (a:=a) (by omega) E (x+8);rw[ak g1,aK,aK];by_cases hz:e1=0
   ·subst hz
    rw[au (by rfl)];exact⟨v,0,rfl,λh=>absurd rfl h,λ_ hr=>⟨rfl,(g3 hr).1⟩⟩
   ·rw[aS (by simpa using hz)]
    exact⟨0,e1,rfl,λh=>absurd rfl h,λ_ hr=>absurd (g3 hr).2 hz⟩
  ·rw[ak (Pp he),aK,aK,aS (by simpa using he)]
   exact⟨0,e,rfl,λ_ =>⟨rfl,rfl⟩,λh=>absurd h he⟩
 obtain⟨v,e1,f1,f2,_⟩:=fin h2 h1;refine⟨v,e1,f1,λhr=>?_,λi0 i1 i2 c d hp hc=>?_⟩
 ·have:=h3 hr
  subst this;exact f2 (by omega)
 ·obtain⟨j,rfl⟩:=Int.eq_ofNat_of_zero_le i0
  rw[aiL]at hp;have hok:=aaQ hn E hb i1 (by omega) hp hc;have hcr:0<=c:=by
   cases j with
   |zero=>have hp:Wd S P k a=c:=hp;have:=zb E.cw k a;omega
   |succ j=>obtain⟨y,_,hy⟩:=hp;rw[hy.2.2.2];exact(FY E.cw k _).1
  obtain⟨v',e',g1,_,g3⟩:=fin (J4 hcr) hok;rw[f1]at g1;simp only[Option.some.injEq,Prod.mk.injEq]at g1;obtain⟨k1,k2⟩:=g3 rfl hc.2.1;exact⟨g1.2.1.trans k1,g1.1.trans k2⟩
theorem Uo{vs ns sp:List Int}(R:Lr (Wd S P k) (bx S k).ep a vs ns sp):∀{i:Nat},i<ns.length->∃d,WU S P k i (Wd S P k a) (ns.getD i 0+1)/\Gs S P k (ns.getD i 0+1) d/\J5 (ns.getD i 0+1)=ns.getD i 0:=by
 have UH:∀i,i<ns.length->0<=ns.getD i 0/\ns.getD i 0%8=0/\ns.getD i 0+16<=(bx S k).ep:=λi hi=>by have:=R.nb (ns.getD i 0) (by rw[List.getD,aiP hi];exact aiN _ (List.getElem_mem hi));omega
 have hL:=R.hb.2.2.2;have ab4:∀i,i<ns.length->J5 (ns.getD i 0+1)=ns.getD i 0:=λi hi=>by have:=UH i hi;unfold J5;rw[aiH (by omega)];omega
 have hok:∀i,i<ns.length->Gs S P k (ns.getD i 0+1) (vZ S P k (ns.getD i 0)):=λi hi=>by
  have:=UH i hi;refine⟨by omega,?_,?_,?_⟩<;>rw[ab4 i hi]
  ·exact⟨by omega,by omega⟩
  ·exact⟨by omega,by omega⟩
 have afI:∀i,i<ns.length->Rx (Wd S P k) (ns.drop i) (if i=0 then Wd S P k a else Wd S P k (ns.getD (i-1) 0)):=by
  intro i
  induction i with
  |zero=>intro _;rw[aiG rfl];exact R.first
  |succ i ih=>intro hi;have h1:=ih (by omega);rw[List.drop_eq_getElem_cons (by omega)]at h1;rw[aiH (by omega),Nat.add_sub_cancel,List.getD,aiP (by omega)];exact h1.2
 have KI:∀i,i<ns.length->(if i=0 then Wd S P k a else Wd S P k (ns.getD (i-1) 0))=ns.getD i 0+1:=λi hi=>by have h1:=afI i hi;rw[List.drop_eq_getElem_cons hi]at h1;rw[h1.1,List.getD,aiP hi];rfl
 intro i
 induction i with
 |zero=>intro hi;have h1:=KI 0 hi;rw[aiG rfl]at h1;exact⟨_,h1,hok 0 hi,ab4 0 hi⟩
 |succ i ih=>intro hi;obtain⟨d,h1,h2,h3⟩:=ih (by omega);have h4:=KI (i+1) hi;rw[aiH (by omega),Nat.add_sub_cancel]at h4;have h5:=UH i (by omega);refine⟨_,⟨_,h1,⟨h2.1,h2.2.1,h2.2.2.1,?_⟩⟩,hok (i+1) hi,ab4 (i+1) hi⟩;rw[h3, ← h4,VR ⟨by omega,by omega,by omega⟩]
theorem Y6(hn:300<=n)(E:Me n S P M Q t h k){vs ns sp:List Int}(R:Lr (Wd S P k) (bx S k).ep a vs ns sp){i:Int}(hi: -9223372036854775808<=i/\i<=9223372036854775807):
  kW n S P M Q t h a i=some (if 0<=i/\i<vs.length then vs.getD i.toNat 0 else 0,if 0<=i/\i<vs.length then 0 else 9,S,P,M,Q,t,h,a):=by
 have hm:=R.Gt;rw[List.length_append]at hm;have hlen:=R.len;have xH:Wd S P k (a+16)=(vs.length:Int):=by rw[R.Ad,hlen]
 obtain⟨v,e,h1,h2,h3⟩:=Y7 hn E ⟨R.hb.1,R.hb.2.1,R.hb.2.2.1⟩ hi;rw[xH]at h2 h3;rw[h1];by_cases hr:0<=i/\i<vs.length
 ·obtain⟨j,rfl⟩:=Int.eq_ofNat_of_zero_le hr.1
  obtain⟨d,k1,k2,k3⟩:=Uo R (i:=j) (by omega);obtain⟨g1,g2⟩:=h3 hr.1 hr.2 (by omega) _ d (by rw[aiL];exact k1) k2;rw[aiG hr,aiG hr,g1,g2,k3,aiL];have hj:j<ns.length:=by omega
  have hnb:=R.nb (ns.getD j 0) (by rw[List.getD,aiP hj];exact aiN _ (List.getElem_mem hj));rw[← VR (S:=S) (P:=P) (k:=k) (a:=ns.getD j 0+8) ⟨by omega,by omega,by omega⟩];have:vs.getD j 0=Wd S P k (ns.getD j 0+8):=by rw[R.val,List.getD,List.getD,List.getElem?_map,aiP hj];rfl
  rw[this]
 ·obtain⟨g1,g2⟩:=h2 hr
  rw[aiH hr,aiH hr,g1,g2]
end
end Go.Proofs.Z
namespace Go.Proofs.Z
open Go Go.Bw
set_option maxRecDepth 100000 in
theorem ON:ux 20000=some true:=by kernel_rfl
theorem ZD{q:Int}(hq:1<=q/\q<=64):cJ 20000 WM ({({jZ with n:=64}:aj)with dV:=⟨[⟨0,64⟩]⟩}:aj) bB [] 0 ({({eF with Do:=1}:aC)with A:=q}:aC)=some (⟨0,0,1⟩,JG q,WG 64,bB,[],0):=aeW (p:=64) ⟨by omega,by omega⟩
end Go.Proofs.Z
namespace Go.Proofs.Z
open Go Go.Bw
section
variable {n:Nat} {S:ae} {P P':aj} {M:ai} {Q:List Int} {t h:Int} {k:Nat} {a:Int}
theorem XH(hn:300<=n)(E:Me n S P M Q t h k){vs ns sp:List Int}(R:Lr (Wd S P k) (bx S k).ep a vs ns sp){i:Int}(hi: -9223372036854775808<=i/\i<=9223372036854775807){v:Int}(hv:0<=v/\v<18446744073709551616):
  ∃P',qd n S P M Q t h a i v=some (if 0<=i/\i<vs.length then 0 else 9,S,P',M,Q,t,h,a)/\Me n S P' M Q t h k/\Ev S P Q S P' Q k/\Lr (Wd S P' k) (bx S k).ep a (if 0<=i/\i<vs.length then vs.set i.toNat v else vs) ns sp:=by
 have hm:=R.Gt;rw[List.length_append]at hm;have hlen:=R.len;have xH:Wd S P k (a+16)=(vs.length:Int):=by rw[R.Ad,hlen]
 have hL:=R.hb;unfold qd;by_cases hr:0<=i/\i<vs.length
 ·obtain⟨j,rfl⟩:=Int.eq_ofNat_of_zero_le hr.1
  have hj:j<ns.length:=by omega
  obtain⟨d,k1,k2,k3⟩:=Uo R hj;have hat:=aaQ hn E ⟨R.hb.1,R.hb.2.1,R.hb.2.2.1⟩ (i:=j) (by rw[xH];exact hr.2) (by omega) k1 k2;have hnm:ns.getD j 0∈ns:=by rw[List.getD,aiP hj];exact List.getElem_mem hj
  have hnb:=R.nb (ns.getD j 0) (aiN _ hnm);obtain⟨P2,f2,E2,W2,V2⟩:=uy (a:=a) (by omega) E (x:=ns.getD j 0+8) (v:=v) ⟨by omega,by omega,by omega⟩ hv;refine⟨P2,?_,E2,V2,?_⟩
  ·rw[ak hat,k3,bq (x:=ns.getD j 0+8) (by omega) (by omega),ak f2,aiG hr]
  ·rw[aiG hr,aiL]
   have aaE:∀y∈ns++sp,y≠ns.getD j 0+8:=λy hy e=>by
    rcases Ny R.cr hy (aiN sp hnm)with q|q
    ·omega
    ·unfold tS at q;omega
   have hW:∀z,z≠ns.getD j 0+8->Wd S P2 k z=Wd S P k z:=λz hz=>by rw[W2,Fq _ _ hz]
   refine⟨R.hb,R.nb,R.cr,?_,λpre x e=>?_,?_,?_,?_⟩
   ·rw[hW a (by omega)];exact gk (λy hy=>hW y (aaE y (by simp[hy]))) R.first
   ·rw[hW _ (by omega)];exact R.Iu pre x e
   ·rw[hW _ (by omega)];exact R.Ad
   ·rw[hW _ (by omega)];exact gk (λy hy=>hW y (aaE y (by simp[hy]))) R.spare
   ·refine List.ext_getElem (by rw[List.length_set,List.length_map,hlen]) λu h1 h2=>?_
    rw[List.getElem_map,List.getElem_set];rw[List.length_map]at h2;have hu:vs[u]'(by rw[List.length_set]at h1;exact h1)=Wd S P k (ns[u]+8):=by have:=R.val;subst this;rw[List.getElem_map]
    by_cases hc:j=u
    ·subst hc
     have e1:ns[j]=ns.getD j 0:=by rw[List.getD,aiP hj];rfl
     have hx:Wd S P2 k (ns[j]+8)=v:=by rw[e1,W2,JY]
     rw[aiG rfl];exact hx.symm
    ·rw[aiH hc,hu,hW]
     intro e;have e2:ns.getD j 0=ns[j]:=by rw[List.getD,aiP hj];rfl
     rw[e2]at e;have MY:=(List.pairwise_append.1 R.cr).1;rcases Nat.lt_or_gt_of_ne hc with h3|h3
     ·have:=List.pairwise_iff_getElem.1 MY j u hj h2 h3
      unfold tS at this;omega
     ·have:=List.pairwise_iff_getElem.1 MY u j h2 hj h3
      unfold tS at this;omega
 ·obtain⟨x,e,h1,h2,h3⟩:=VD hn E ⟨R.hb.1,R.hb.2.1,R.hb.2.2.1⟩ hi
  rw[xH]at h3;have he:=h3 hr;subst he;refine⟨P,?_,E,Ev.refl _ _ _ _,by rw[aiH hr];exact R⟩;rw[ak h1,ak (Em (show(9:Int)≠0 by omega)),aiH hr]
end
end Go.Proofs.Z
namespace Go.Proofs.Z
open Go Go.Bw
section
variable {n:Nat} {S S':ae} {P P':aj} {M:ai} {Q Q':List Int} {t h:Int} {k:Nat} {a:Int}
theorem abp(hn:300<=n)(E:Me n S P M Q t h k){w:aM}{ns sp:List Int}(R:Lr (Wd S P k) (bx S k).ep a w.L ns sp):tq n S P M Q t h a w=some (true,S,P,M,Q,t,h,a):=by
 have hm:=R.Gt;rw[List.length_append]at hm;have hl:=R.len;unfold tq;rw[ak (Yx (by omega) E.mr R),ak (ZH (by omega) E.mr R),au (by simp)];dsimp only;refine Jl (λ(i:Int)=>0<=i/\i<=w.L.length) (λi=>((w.L.length:Int)-i).toNat) (λo=>o=some (true,S,P,M,Q,t,h,a)) ?_ n 0 ⟨by omega,by omega⟩ (by omega);rintro kk i ⟨i0,i1⟩ ih;by_cases hc:i<w.L.length
 ·rw[aS (by simpa using hc),bj (fP i0 hc),bj (fP i0 hc),au (by simp),bq (by omega) (by omega)]
  exact ih _ ⟨by omega,by omega⟩ (by omega)
 ·rw[au (by simpa using hc)]
theorem Pt(w:aM)(l:List Int):mN n w l=some ⟨l,if w.gq<(l.length:Int)then(l.length:Int)else w.gq⟩:=rfl
theorem XN(hn:300<=n){w:aM}(hl:w.L.length<=200):nH n w=some ⟨w.L.reverse,w.gq⟩:=by
 unfold nH;rw[bq (x:=(w.L.length:Int)-1) (by omega) (by omega)];refine vJ (λ(i:Int) (out:List Int)=> -1<=i/\i<w.L.length/\out=(w.L.drop (i+1).toNat).reverse) (λi _ =>(i+1).toNat) (λ(o:Option aM)=>o=some ⟨w.L.reverse,w.gq⟩) ?_ n ((w.L.length:Int)-1) [] ⟨by omega,by omega,?_⟩ (by omega)
 ·rintro kk i out ⟨i0,i1,rfl⟩ ih
  by_cases hc:0<=i
  ·obtain⟨j,rfl⟩:=Int.eq_ofNat_of_zero_le hc
   rw[aS (by simp),bj (fP (by omega) (by omega)),bj (jt (by rw[List.length_reverse,List.length_drop,List.length_singleton];omega) (by rw[List.length_reverse,List.length_drop,List.length_singleton];omega)),aK,bq (x:=(j:Int)-1) (by omega) (by omega),aiL];refine ih _ _ ⟨by omega,by omega,?_⟩ (by omega);rw[show((j:Int)+1).toNat=j+1 by omega,show((j:Int)-1+1).toNat=j by omega,List.drop_eq_getElem_cons (l:=w.L) (i:=j) (by omega),List.reverse_cons,List.getD,aiP (by omega)];rfl
  ·have:i= -1:=by omega
   subst this;rw[au (by simp),aK];rfl
 ·rw[show((w.L.length:Int)-1+1).toNat=w.L.length by omega,List.drop_length];rfl
theorem acQ(hn:300<=n)(E:Me n S P M Q t h k){w:aM}{ns sp:List Int}(R:Lr (Wd S P k) (bx S k).ep a w.L ns sp)(hN:w.gq=ns.length+sp.length){x:fA}(hI: -9223372036854775808<=x.I/\x.I<=9223372036854775807)(hV:0<=x.V/\x.V<=18446744073709551615):
  ∃S' P' Q' w' ns' sp',wF n S P M Q t h a w x=some (w',true,S',P',M,Q',t,h,a)/\Me n S' P' M Q' t h k/\Ev S P Q S' P' Q' k/\Lr (Wd S' P' k) (bx S' k).ep a w'.L ns' sp'/\w'.gq=ns'.length+sp'.length:=by
 have hm:=R.Gt;rw[List.length_append]at hm;have hl:=R.len;have hv:0<=x.V/\x.V<18446744073709551616:=by omega
 have bad:∀(d:Int),x.Do≠d->(x.Do==d)=false:=λd h=>by simpa using h
 have hgt:∀i:Int,w.L.getD i.toNat default=w.L.getD i.toNat 0:=λ_ =>rfl;unfold wF;rw[aK,aK];by_cases d0:x.Do=0
 ·obtain⟨S1,P1,Q1,e,f1,f2,f3,f4⟩:=Rc (by omega) E R hv
  have hr:mO n w x.V=some ⟨x.V::w.L,if w.gq<((w.L.length:Int)+1)then(w.L.length:Int)+1 else w.gq⟩:=by unfold mO;rw[bj (jt (by simp;omega) (by simp;omega)),aK,ak (Pt w _),aK];simp
  rw[aS (by simpa using d0),ak f1,ak hr,aK];dsimp only;rcases f4 with⟨rfl,rfl,e3,_,e5,_⟩|⟨rfl,ns',sp',g1,g2,g3⟩
  ·subst e3
   refine⟨S1,P1,Q1,w,ns,[],?_,f2,f3,by rw[e5];exact R,hN⟩;rw[aS]
   ·rw[aK]
   ·simp at hN;simp;rw[aiG (by omega)];omega
  ·refine⟨S1,P1,Q1,⟨x.V::w.L,if w.gq<((w.L.length:Int)+1)then(w.L.length:Int)+1 else w.gq⟩,ns',sp',?_,f2,f3,g1,?_⟩
   ·rw[au (by rfl),aK];rfl
   ·dsimp only
    rcases g3 with⟨q1,_⟩|⟨rfl,rfl,_⟩
    ·split<;>omega
    ·simp at hN ⊢;split<;>omega
 rw[au (bad 0 d0)];by_cases d1:x.Do=1
 ·rw[aS (by simpa using d1)]
  cases hw:w.L with
  |nil=>
   rw[hw]at R;have hns:ns=[]:=List.length_eq_zero_iff.1 (by have:=R.len;simpa using this.symm);subst hns;have hr:jK n w=some (w,0,10):=by unfold jK;rw[hw,aS (by rfl),aK]
   rw[ak (abE (by omega) E R),ak hr,aK];dsimp only;refine⟨S,P,Q,w,[],sp,?_,E,Ev.refl _ _ _ _,by rw[hw];exact R,hN⟩;rw[au (by simp),aK];rfl
  |cons v vs=>
   rw[hw]at R;obtain⟨P1,ns',sp',f1,f2,f3,f4,f5,f6⟩:=X4 (by omega) E R;have hr:jK n w=some (⟨vs,w.gq⟩,v,0):=by unfold jK;rw[hw,au (by simp only[List.length_cons,beq_eq_false_iff_ne,ne_eq];omega),bj (fP (by omega) (by simp only[List.length_cons];omega)),bj (fP (by omega) (by simp only[List.length_cons];omega)),aK];rfl
   rw[ak f1,ak hr,aK];dsimp only;refine⟨S,P1,Q,⟨vs,w.gq⟩,ns',sp',?_,f2,f3,f4,by dsimp only;omega⟩;rw[au (by rfl),aK];simp
 rw[au (bad 1 d1)];by_cases d2:x.Do=2
 ·obtain⟨P1,f1,f2,f3,f4⟩:=XH hn E R hI hv
  rw[aS (by simpa using d2),ak f1];by_cases hr:0<=x.I/\x.I<w.L.length
  ·rw[aiG hr]at f4 ⊢
   have hs:jJ n w x.I x.V=some (⟨w.L.set x.I.toNat x.V,w.gq⟩,0):=by unfold jJ;rw[au (by simp;omega),bj (jt (by omega) (by omega)),aK,bj (fP hr.1 hr.2),aK,aK]
   rw[ak hs,aK];dsimp only;exact⟨S,P1,Q,⟨w.L.set x.I.toNat x.V,w.gq⟩,ns,sp,by rw[au (by rfl),aK];rfl,f2,f3,f4,hN⟩
  ·rw[aiH hr]at f4 ⊢
   have hs:jJ n w x.I x.V=some (w,9):=by unfold jJ;rw[aS (by simp;omega),aK]
   rw[ak hs,aK];dsimp only;exact⟨S,P1,Q,w,ns,sp,by rw[au (by simp),aK];rfl,f2,f3,f4,hN⟩
 rw[au (bad 2 d2)];by_cases d3:x.Do=3
 ·obtain⟨P1,f1,f2,f3,f4⟩:=SN (by omega) E R
  rw[aS (by simpa using d3),ak f1,ak (XN hn (by omega)),aK];dsimp only;exact⟨S,P1,Q,⟨w.L.reverse,w.gq⟩,ns.reverse,sp,by rw[au (by rfl),aK];rfl,f2,f3,f4,by dsimp only;rw[List.length_reverse];exact hN⟩
 rw[au (bad 3 d3)];by_cases d4:x.Do=4
 ·have hg:oU n w x.I=some (if 0<=x.I/\x.I<w.L.length then w.L.getD x.I.toNat 0 else 0,if 0<=x.I/\x.I<w.L.length then 0 else 9):=by
   unfold oU;by_cases hr:0<=x.I/\x.I<w.L.length
   ·rw[au (by simp;omega),bj (fP hr.1 hr.2),aiG hr,aiG hr];rfl
   ·rw[aS (by simp;omega),aiH hr,aiH hr]
  rw[aS (by simpa using d4),ak (Y6 hn E R hI),ak hg];dsimp only;refine⟨S,P,Q,w,ns,sp,?_,E,Ev.refl _ _ _ _,R,hN⟩;rw[au (by simp),aK];simp
 rw[au (bad 4 d4)];obtain⟨S1,P1,Q1,e,f1,f2,f3,f4⟩:=VB (by omega) E R hv;have hr:nI n w x.V=some ⟨w.L++[x.V],if w.gq<((w.L.length:Int)+1)then(w.L.length:Int)+1 else w.gq⟩:=by unfold nI;rw[bj (jt (by omega) (by omega)),aK,bj (jt (by simp;omega) (by simp;omega)),aK,ak (Pt w _),aK];simp
 rw[ak f1,ak hr,aK];dsimp only;rcases f4 with⟨rfl,rfl,e3,_,e5,_⟩|⟨rfl,ns',sp',g1,g2,g3⟩
 ·subst e3
  refine⟨S1,P1,Q1,w,ns,[],?_,f2,f3,by rw[e5];exact R,hN⟩;rw[aS]
  ·rw[aK]
  ·simp at hN;simp;rw[aiG (by omega)];omega
 ·refine⟨S1,P1,Q1,⟨w.L++[x.V],if w.gq<((w.L.length:Int)+1)then(w.L.length:Int)+1 else w.gq⟩,ns',sp',?_,f2,f3,g1,?_⟩
  ·rw[au (by rfl),aK];rfl
  ·dsimp only
   rcases g3 with⟨q1,_⟩|⟨rfl,rfl,_⟩
   ·split<;>omega
   ·simp at hN ⊢;split<;>omega
end
theorem X5{a0:Int}(h0:0<=a0/\a0<=255){a1:List fA}(h1:∀x∈a1,(0<=x.Do/\x.Do<=255)/\(-9223372036854775808<=x.I/\x.I<=9223372036854775807)/\(0<=x.V/\x.V<=18446744073709551615)):q9 20000 a0 a1=some true:=by
 unfold q9;by_cases hg:a0<1\/64<a0\/80<(a1.length:Int)
 ·rw[aS (by simp;omega),ak ON]
 ·rw[au (by simp;omega),ak (ahi (p:=64) ⟨by omega,by omega⟩),ak (show uk 20000=some WM from rfl),bq (x:=a0) (by omega) (by omega),aag (x:=a0) (by omega) (by omega),ak (ZD ⟨by omega,by omega⟩),aK]
  obtain⟨S,P,e1,e2,e3,e4,e5,e6,e7⟩:=abO (p:=64) (q:=a0) ⟨by omega,by omega⟩ ⟨by omega,by omega⟩;dsimp only;rw[ak e1,au (by rfl),au (by rfl)];dsimp only;have hL:(bx S 0).ep=32:=by rw[e4,fQ]
  refine QY (λ(i:Int) (s:ae) (p:aj) (m:ai) (q:List Int) (t' h' a':Int) (w:aM)=>∃(j:Nat) (ns sp:List Int),i=(j:Int)/\j<=a1.length/\m=bB/\t'=0/\h'=1/\a'=0/\Me 20000 s p bB q 0 1 0/\Lr (Wd s p 0) (bx s 0).ep 0 w.L ns sp/\w.gq=ns.length+sp.length) (λi _ _ _ _ _ _ _ _ =>((a1.length:Int)-i).toNat) (λo=>o=some true) ?_ 20000 0 _ _ _ _ _ _ _ _ ⟨0,[],[],rfl,by omega,rfl,rfl,rfl,rfl,e2,by rw[hL];exact e7,rfl⟩ (by omega);rintro kk i s p m q t' h' a' w ⟨j,ns,sp,rfl,hj,rfl,rfl,rfl,rfl,E,R,hN⟩ ih;by_cases hc:j<a1.length
  ·have hx:=h1 (a1.getD j default) (by rw[List.getD,aiP hc];exact List.getElem_mem hc)
   obtain⟨S',P',Q',w',ns',sp',f1,f2,f3,f4,f5⟩:=acQ (by omega) E R hN hx.2.1 hx.2.2;rw[aS (by simpa using hc),bj (fP (by omega) (by omega)),aiL,ak f1,aK,au (b:= !true) rfl];dsimp only;rw[ak (abp (by omega) f2 f4),au (b:= !true) rfl,aK,bq (by omega) (by omega)];exact ih _ _ _ _ _ _ _ _ _ ⟨j+1,ns',sp',by omega,by omega,rfl,rfl,rfl,rfl,f2,f4,f5⟩ (by omega)
  ·rw[au (by simpa using hc),ak ON]
end Go.Proofs.Z
namespace Go.Rw
open Go Go.Bw Go.RowKit
variable {G:Sg} {P:Program}
def Hsn(W w:World):Prop:=W.heap.size<=w.heap.size/\∀b,b<W.heap.size->w.heap[b]? =W.heap[b]?
theorem YZ{g:IntKind×List (Int×Nat)}{mb:Nat}{W w:World}(h:GlX g mb W)(hs:Hsn W w):GlX g mb w:=by
 obtain⟨h1,l,⟨es,clock,h2,h3⟩,h4⟩:=h;have keep:∀{b:Nat} {o:Obj},W.heap[b]? =some o->w.heap[b]? =some o:=λ{b o} hb=>(hs.2 b (aiO.1 hb).1).trans hb;refine⟨?_,l,⟨es,clock,keep h2,h3⟩,h4⟩;unfold World.cell? at h1 ⊢;cases e:W.heap[0]? with
 |none=>rw[e]at h1;cases h1
 |some o=>rw[e]at h1;rw[keep e];exact h1
theorem acy{α:Type}{W:World}{v:Value}{L:cP α}[bh L]{xs:List α}(h:Fz (λw=>aQ [] W w) v L xs):Fz (Hsn W) v L xs:=
 ⟨h.sl,λw hw=>Ro.bU (h.ro {w with os:=W.os,tape:=W.tape,output:=W.output} ⟨rfl,rfl,rfl,hw.1,λk hk _ =>hw.2 k hk⟩) (Nat.le_refl _) λ_ _ =>rfl⟩
theorem MF{ct:Ct P G}{W:World}{x:HI G ct.s}{y:HL G (aN ct.s.cN)}{v:Value}{vs:List Value}(hz:ct.R x y)(hgl:∀g,G.gt=some g->∃mb,GlX g mb W)(hv:∀J:World->Prop,(∀w,J w->Hsn W w)->rl J (λ_ =>none) (ct.s.bl x).1 vs)(h0:(ct.s.bl x).2.1=[])(h1:(fq (λm=>m) ct.s.cN y 0).2.1=[])
  (hro:ct.s.ro x=[])(hout:∀(J:World->Prop) (σ:aZ) u us,rl J σ (fq (λm=>m) ct.s.cN y 0).1 (u::us)->u=v):
  Calls P ct.s.k vs.toArray W λe W'=>e= .returned v/\aQ [] W W':=by
 have nL:∀b,b∈List.range W.heap.size↔b<W.heap.size:=λb=>List.mem_range;generalize List.range W.heap.size=bs at nL;have hR:∀w,Hs [.ext bs (Hsn W)] w->Hsn W w:=λw h=>(h _ List.mem_cons_self).1 w (Nat.le_refl _) λ_ _ =>rfl;have hS:∀w,aQ [] W w->Hs [.ext bs (Hsn W)] w:=λw h r hr=>by obtain rfl:=List.mem_singleton.1 hr;exact⟨λw' k1 k2=>⟨Nat.le_trans h.size k1,λb hb=>(k2 b ((nL b).2 hb)).trans (h.block b hb (by simp))⟩,λb hb=>Nat.lt_of_lt_of_le ((nL b).1 hb) h.size⟩
 have:=(yS (ct:=ct) (R:=[.ext bs (Hsn W)]) (mG:=[]) (ρ:=λ_ =>none) hz (λg hg=>by
  obtain⟨mb,h⟩:=hgl g hg;exact⟨mb,λw hw=>YZ h (hR w hw)⟩) (λJ hJ=>hv J λw hw=>hR w (hJ w hw)) h0 h1 (λJ _ r o e=>by rw[hro]at e;cases e) (λ_ _ =>rfl) hout).calls W (λw hw=>hS w (by simpa[bA]using hw)) (bD.nil _ _ _)
 exact this.mono λe W' ⟨_,_,he,hs,_⟩=>⟨he,by simpa[bA]using hs⟩
end Go.Rw
namespace Go.Bw
open Go Go.RowKit
theorem LZ{α β:Type}{f:α->Option β}:∀{l:List α} {m:List β},l.mapM f=some m->(∀x∈l,∃y∈m,f x=some y)/\∀y∈m,∃x∈l,f x=some y
 |[],m,h=>by rw[List.mapM_nil]at h;cases h;exact⟨λx h=>(nomatch h),λx h=>(nomatch h)⟩
 |x::l,m,h=>by
  rw[List.mapM_cons]at h;cases hx:f x with
  |none=>rw[hx]at h;cases h
  |some y=>
   rw[hx]at h;cases hl:l.mapM f with
   |none=>rw[hl]at h;cases h
   |some m'=>
    rw[hl]at h;cases h;obtain⟨h1,h2⟩:=LZ hl;refine⟨λz hz=>?_,λz hz=>?_⟩
    ·rcases List.mem_cons.1 hz with rfl|hz
     ·exact⟨y,by simp,hx⟩
     ·obtain⟨w,hw,he⟩:=h1 z hz;exact⟨w,by simp[hw],he⟩
    ·rcases List.mem_cons.1 hz with rfl|hz
     ·exact⟨x,by simp,hx⟩
     ·obtain⟨w,hw,he⟩:=h2 z hz;exact⟨w,by simp[hw],he⟩
theorem Pj{H:Type}{x y:Lit×DataW H}:∀{l:List (Lit×DataW H)},y∈DataW.insert x l↔y=x\/y∈l
 |[]=>by simp[DataW.insert]
 |z::l=>by
  unfold DataW.insert;split
  ·simp
  ·rw[List.mem_cons,Pj,List.mem_cons]
   constructor
   ·rintro(h|h|h)
    ·exact .inr (.inl h)
    ·exact .inl h
    ·exact .inr (.inr h)
   ·rintro(h|h|h)
    ·exact .inr (.inl h)
    ·exact .inl h
    ·exact .inr (.inr h)
theorem Lw{H:Type}{y:Lit×DataW H}:∀{l:List (Lit×DataW H)},y∈l.foldr DataW.insert []↔y∈l
 |[]=>Iff.rfl
 |x::l=>by rw[List.foldr_cons,Pj,Lw,List.mem_cons]
theorem wC{β:Type}:∀{l:List (Int×β)} {k:Int},fI l k=none↔∀x∈l,x.1≠k
 |[],k=>⟨λ_ x h=>(nomatch h),λ_ =>rfl⟩
 |p::l,k=>by
  unfold fI;cases h:k==p.1 with
  |true=>
   have:k=p.1:=by simpa using h
   exact⟨λh=>by simp at h,λh2=>absurd this.symm (h2 p (by simp))⟩
  |false=>
   have hn:¬k=p.1:=by simpa using h
   simp only[cond_false,Option.map_eq_none_iff];rw[wC];exact⟨λh2 x hx=>by
    rcases List.mem_cons.1 hx with rfl|hx
    ·exactλe=>hn e.symm
    ·exact h2 x hx,λh2 x hx=>h2 x (by simp[hx])⟩
theorem A5{β:Type}:∀{l:List (Int×β)} {k:Int} {q:Nat×β},fI l k=some q->(k,q.2)∈l
 |[],k,q,h=>by cases h
 |p::l,k,q,h=>by
  unfold fI at h;cases e:k==p.1 with
  |true=>
   have:k=p.1:=by simpa using e
   rw[e]at h;simp only[cond_true,Option.some.injEq]at h;subst h;subst this;simp
  |false=>rw[e]at h;simp only[cond_false,Option.map_eq_some_iff]at h;obtain⟨a,ha,rfl⟩:=h;have:=A5 ha;exact aiS _ this
theorem NN{β:Type}{l l':List (Int×β)}(h:∀x,x∈l↔x∈l')(hf:∀x∈l',∀y∈l',x.1=y.1->x=y)(k:Int)(z:β):nZ l k z=nZ l' k z/\pI l k=pI l' k:=by
 unfold nZ pI;cases e:fI l k with
 |none=>have:fI l' k=none:=wC.2 λx hx=>wC.1 e x ((h x).2 hx);rw[this];exact⟨rfl,rfl⟩
 |some q=>
  have m1:=A5 e;cases e':fI l' k with
  |none=>exact absurd rfl (wC.1 e' _ ((h _).1 m1))
  |some q'=>have m2:=A5 e';have:=hf _ ((h _).1 m1) _ m2 rfl;have:q.2=q'.2:=(Prod.mk.inj this).2;simp[this]
theorem SO{H:Type}{enc:TypeId×Value->H}{P:Program}{w:World}{base:Nat}{sp:Nat->Bool}{t k e:TypeId}(ht:P.underlying t=some (.map k e)){fuel:Nat}{cs:List Value}{S:List (Lit×DataW H)}{ps:List MemPlace}(h:DataW.trod enc P w base sp true fuel t cs=some (.map S,ps)):
  ∃b es clock n entries,cs=[.map (some b)]/\w.heap[b]? =some (.map es clock)/\es.all (·.born<clock)=true/\(es.toList.map (·.born)).eraseDups.length=es.size/\
   es.toList.mapM (λx=>(keyOf P k x.key).bind λkey=>if x.val.formed P e=true then(DataW.trod enc P w base sp true n e x.val.cells.toList).map λy=>((key,y.1),y.2)else none)=some entries/\(entries.map (·.1)).foldr DataW.insert []=S:=by
 cases fuel with
 |zero=>simp[DataW.trod]at h
 |succ n=>
  have h0:=h;rw[DataW.trod_step]at h;unfold DataW.trodStep at h;rw[ht]at h;split at h<;>try (simp_all;done)
  rename_i k' e' b hkk;have hke:k=k'/\e=e':=by simpa using hkk
  obtain⟨rfl,rfl⟩:=hke;clear h;rw[DataW.trod_step]at h0;unfold DataW.trodStep at h0;cases hb:w.heap[b]? with
  |none=>simp[ht,hb]at h0
  |some o=>
   cases o
   case map es clock=>
    simp only[ht,hb]at h0;split at h0
    ·rename_i hc
     obtain⟨_,_,UU,tu⟩:=hc;simp only[Option.bind_eq_some_iff]at h0;obtain⟨entries,hm,h3⟩:=h0;split at h3
     ·simp only[Option.some.injEq,Prod.mk.injEq,DataW.map.injEq]at h3
      exact⟨b,es,clock,n,entries,rfl,hb,UU,tu,hm,h3.1⟩
     ·cases h3
    ·cases h0
   all_goals (simp[ht,hb]at h0;done)
theorem NQ{P:Program}{w:World}{base:Nat}{sp:Nat->Bool}{t k e:TypeId}{kd:IntKind}{fs rs:Array TypeId}{va:Bool}(ht:P.underlying t=some (.map k e))(hk:P.underlying k=some (.int kd))(he:P.underlying e=some (.func fs rs va))
  {fuel:Nat}{cs:List Value}{ps:List MemPlace}(T:List (Int×FuncId))(nm:FuncId->UInt8×List UInt8)
  (h:DataW.trod (funcToken P) P w base sp true fuel t cs=some (.map (T.map λx=>(.int kd x.1, .held ((nm x.2).1::(nm x.2).2))),ps))
  (hone:∀x∈T,((List.range P.funcs.size).filter λf=>(P.funcs[f]?).any (·.name.toUTF8.data.toList==(nm x.2).1::(nm x.2).2))=[x.2]):
  ∃b l,cs=[.map (some b)]/\MpJ b kd (λv:Value=>v) l w/\∀x,x∈l↔x∈T.map λy=>(y.1,Value.func (.func y.2) #[] #[]):=by
 obtain⟨b,es,clock,n,entries,rfl,hb,UU,tu,hm,hs⟩:=SO ht h;obtain⟨m1,m2⟩:=LZ hm;have hS:∀y,y∈entries.map (·.1)↔y∈T.map λx=>((Lit.int kd x.1:Lit),(DataW.held ((nm x.2).1::(nm x.2).2):DataW (List UInt8))):=λy=>by rw[← hs,Lw]
 have key:∀x∈es.toList,∀y,(keyOf P k x.key).bind (λkey=>if x.val.formed P e=true then(DataW.trod (funcToken P) P w base sp true n e x.val.cells.toList).map λy=>((key,y.1),y.2)else none)=some y->∀t∈T,y.1=((Lit.int kd t.1:Lit),(DataW.held ((nm t.2).1::(nm t.2).2):DataW (List UInt8)))->x.key= .int kd t.1/\x.val= .func (.func t.2) #[] #[]:=by
  intro x hx y hy t' ht' hyt;simp only[Option.bind_eq_some_iff]at hy;obtain⟨lit,NZ,h2⟩:=hy;split at h2
  ·rename_i YS
   simp only[Option.map_eq_some_iff]at h2;obtain⟨z,hz,rfl⟩:=h2;obtain⟨e1,e2⟩:=Prod.mk.inj hyt;subst e1;refine⟨?_,?_⟩
   ·unfold keyOf at NZ
    rw[hk]at NZ;unfold mapKey at NZ;rw[hk]at NZ;cases hxk:x.key<;>rw[hxk]at NZ<;>simp at NZ;obtain⟨⟨rfl,_⟩,rfl⟩:=NZ;rfl
   ·obtain⟨z1,z2⟩:=z
    dsimp only at e2;subst e2;have hv:x.val.cells.toList=[x.val]:=by cases hxv:x.val<;>first|rfl|(rw[hxv]at YS;simp[Value.formed,he]at YS)
    rw[hv]at hz;exact func_of_trod he (hone t' ht') hz
  ·cases h2
 let l:List (Int×Value):=es.toList.map λx=>(match x.key with| .int _ i=>i|_ =>0,x.val);have hx:∀x∈es.toList,∃t∈T,x.key= .int kd t.1/\x.val= .func (.func t.2) #[] #[]:=λx hx=>by obtain⟨y,hy,hxy⟩:=m1 x hx;have:=(hS y.1).1 (List.mem_map_of_mem hy);obtain⟨t',ht',e1⟩:=List.mem_map.1 this;exact⟨t',ht',key x hx y hxy t' ht' e1.symm⟩
 refine⟨b,l,rfl,⟨es,clock,hb,⟨?_,?_,?_⟩⟩,λ_=>?_⟩
 ·rw[List.map_map]
  refine List.map_congr_left λx hx'=>?_;obtain⟨t',_,e1,_⟩:=hx x hx';simp[e1]
 ·intro x hx'
  have:=Array.all_eq_true_iff_forall_mem.1 UU x (by simpa using hx');simpa using this
 ·exact Go.ChangeMaps.nodup_of_eraseDups _ (by rw[tu];simp)
 ·constructor
  ·intro hp
   obtain⟨x,hx',rfl⟩:=List.mem_map.1 hp;obtain⟨t',ht',e1,e2⟩:=hx x hx';exact List.mem_map.2 ⟨t',ht',by simp[e1,e2]⟩
  ·intro hp
   obtain⟨t',ht',rfl⟩:=List.mem_map.1 hp;have:=(hS _).2 (List.mem_map_of_mem (f:=λx=>((Lit.int kd x.1:Lit),(DataW.held ((nm x.2).1::(nm x.2).2):DataW (List UInt8)))) ht');obtain⟨y,hy,e1⟩:=List.mem_map.1 this;obtain⟨x,hx',hxy⟩:=m2 y hy;obtain⟨e2,e3⟩:=key x hx' y hxy t' ht' e1;exact List.mem_map.2 ⟨x,hx',by simp[e2,e3]⟩
end Go.Bw
