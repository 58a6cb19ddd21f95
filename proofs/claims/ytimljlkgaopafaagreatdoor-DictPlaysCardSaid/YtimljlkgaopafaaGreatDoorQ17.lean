/- Part 17 of what a proof leans on; pruned and shortened by a program out of longer texts. -/
import Derived.Test.YtimljlkgaopafaaGreatDoorQ16
namespace Go.Proofs.Z
open Go Go.Bw Go.Rw
theorem aiC(x:Int):wr .u64 x=x%18446744073709551616:=rfl
theorem afM(v:Nat)(hv:v<2^64):MR .u64 (v:Int) (vM .u64 (v:Int) 33)=((v^^^(v>>>33):Nat):Int):=by
 have e1:vM .u64 (v:Int) 33=((v>>>33:Nat):Int):=by show Int.fdiv (v:Int) ((2:Int)^33)=_;rw[Nat.shiftRight_eq_div_pow,Int.natCast_ediv,Int.fdiv_eq_ediv_of_nonneg _ (by omega)];rfl
 have h1:v>>>33<2^64:=Nat.lt_of_le_of_lt (Nat.shiftRight_le v 33) hv;rw[e1];have e2:BitVec.ofInt 64 (v:Int)=BitVec.ofNat 64 v:=BitVec.ofInt_natCast 64 v;have e3:BitVec.ofInt 64 ((v>>>33:Nat):Int)=BitVec.ofNat 64 (v>>>33):=BitVec.ofInt_natCast 64 _;show wr .u64 ((BitVec.ofInt 64 (v:Int)^^^BitVec.ofInt 64 ((v>>>33:Nat):Int)).toNat:Int)=_;rw[e2,e3,BitVec.toNat_xor,BitVec.toNat_ofNat,BitVec.toNat_ofNat,Nat.mod_eq_of_lt hv,Nat.mod_eq_of_lt h1];have h2:v^^^(v>>>33)<2^64:=Nat.xor_lt_two_pow hv h1;exact Bj (by omega) (by omega)
theorem Vk(v:Nat)(hv:v<2^64):lz (v:Int)=(((v^^^(v>>>33))*18397679294719823053%2^64:Nat):Int):=by unfold lz;rw[afM v hv,aiC];rfl
theorem acg{v w:Nat}(hv:v<2^64)(hw:w<2^64)(h:v^^^(v>>>33)=w^^^(w>>>33)):v=w:=by
 have key:∀u:Nat,u<2^64->(u^^^(u>>>33))^^^((u^^^(u>>>33))>>>33)=u:=λu hu=>by refine Nat.eq_of_testBit_eq λi=>?_;simp only[Nat.testBit_xor,Nat.testBit_shiftRight];have:u.testBit (33+(33+i))=false:=Nat.testBit_lt_two_pow (Nat.lt_of_lt_of_le hu (Nat.pow_le_pow_right (by omega) (by omega)));rw[this];cases u.testBit i<;>cases u.testBit (33+i)<;>rfl
 rw[← key v hv, ← key w hw,h]
theorem ZW{x y:Nat}(hx:x<2^64)(hy:y<2^64)(h:x*18397679294719823053%2^64=y*18397679294719823053%2^64):x=y:=by
 have key:∀u:Nat,u<2^64->u*18397679294719823053%2^64*5725274745694666757%2^64=u:=λu hu=>by rw[Nat.mod_mul_mod,Nat.mul_assoc,Nat.mul_mod,show 18397679294719823053*5725274745694666757%2^64=1 from by decide,Nat.mul_one,Nat.mod_mod,Nat.mod_eq_of_lt hu]
 rw[← key x hx, ← key y hy,h]
theorem Vl{v w:Int}(hv:0<=v/\v<18446744073709551616)(hw:0<=w/\w<18446744073709551616)(h:lz v=lz w):v=w:=by
 obtain⟨v,rfl⟩:=Int.eq_ofNat_of_zero_le hv.1;obtain⟨w,rfl⟩:=Int.eq_ofNat_of_zero_le hw.1;have h1:v<2^64:=by omega
 have h2:w<2^64:=by omega
 rw[Vk v h1,Vk w h2]at h;have h3:=Int.ofNat_inj.1 h;have h4:=ZW (Nat.xor_lt_two_pow h1 (Nat.lt_of_le_of_lt (Nat.shiftRight_le v 33) h1)) (Nat.xor_lt_two_pow h2 (Nat.lt_of_le_of_lt (Nat.shiftRight_le w 33) h2)) h3;rw[acg h1 h2 h4]
theorem HR(n:Nat){v:Int}(hv:0<=v/\v<18446744073709551616):qE n v=some (lz v):=by
 rw[C8];unfold s6 lz;have e1:wr .u64 (Int.tdiv v 8589934592)=vM .u64 v 33:=by rw[Int.tdiv_eq_ediv_of_nonneg hv.1,Bj (by omega) (by omega)];show _ =Int.fdiv v ((2:Int)^33);rw[Int.fdiv_eq_ediv_of_nonneg _ (by omega)];rfl
 rw[e1]
theorem acw{N:Nat}{qs:List aM}{i:Nat}(hN:qs.length+5<=N)(hi:i<qs.length)(hlen:qs.length<=1000)(hr:∀j,j<qs.length->j≠i->lz (qs.getD j default).iZ<lz (qs.getD i default).iZ)(hk:∀j,j<qs.length->0<=(qs.getD j default).iZ/\(qs.getD j default).iZ<18446744073709551616):wB N qs=some (i:Int):=by
 unfold wB;refine tB (λ(x:Int) (y:Int)=>∃j u:Nat,x=(j:Int)/\y=(u:Int)/\1<=j/\j<=qs.length/\u<j/\∀v,v<j->lz (qs.getD v default).iZ<=lz (qs.getD u default).iZ) (λx _ =>((qs.length:Int)-x).toNat) (λo=>o=some (i:Int)) ?_ N 1 0 ⟨1,0,rfl,rfl,by omega,by omega,by omega,λv hv=>by rw[show v=0 by omega];exact Int.le_refl _⟩ (by omega);rintro kk x y ⟨j,u,rfl,rfl,h1,h2,h3,h4⟩ ih;by_cases hc:j<qs.length
 ·rw[aR (by simpa using hc),aU,bf (eP (by omega) (by omega)),aki,ak (HR N (hk j hc)),bf (eP (by omega) (by omega)),aki,ak (HR N (hk u (by omega)))]
  by_cases hlt:lz (qs.getD u default).iZ<lz (qs.getD j default).iZ
  ·rw[aR (by simpa using hlt),bx (by omega) (by omega)]
   refine ih _ _ ⟨j+1,j,by omega,rfl,by omega,by omega,by omega,λv hv=>?_⟩ (by omega);by_cases JU:v=j
   ·subst JU;exact Int.le_refl _
   ·exact Int.le_trans (h4 v (by omega)) (Int.le_of_lt hlt)
  ·rw[au (by simpa using hlt),bx (by omega) (by omega)]
   refine ih _ _ ⟨j+1,u,by omega,rfl,by omega,by omega,by omega,λv hv=>?_⟩ (by omega);by_cases JU:v=j
   ·subst JU;omega
   ·exact h4 v (by omega)
 ·rw[au (by simpa using hc)]
  have:u=i:=Decidable.byContradiction λhne=>by have:=hr u (by omega) hne;have:=h4 i (by omega);omega
  rw[this]
section
variable {S:ae} {P:aj} {M:ai} {Q:List Int} {t h:Int} {k:Nat} {a b:Int}
theorem NG{α:Type}[Inhabited α]{l r:List α}{x:α}:(l++x::r).getD l.length default=x:=by rw[List.getD,List.getElem?_append_right (Nat.le_refl _),Nat.sub_self];rfl
theorem aam:∀(d:Nat) {n:Nat} {c L:Int} {ps:List Int},301+d<=n->ME S P M Q t h k->jf (Wd S P k) d ps L->(∀x∈ps,nP (bC S k).er b x)->0<=c->c+ps.length<=64->
  ∃H:Int,0<=H/\H<=ps.length/\kV n L S P M Q t h a c=some (.ok (H,S,P,M,Q,t,h,a,c+ps.length))/\
   ∀(N:Nat) (qs:List aM),2*ps.length+10<=N->qs.map aM.iZ=ps.map (Wd S P k)->kN N qs=some H:=by
 intro d;have nil:∀{n:Nat} {c:Int},ME S P M Q t h k->∃H:Int,0<=H/\H<=([]:List Int).length/\kV (n+1) 0 S P M Q t h a c=some (.ok (H,S,P,M,Q,t,h,a,c+([]:List Int).length))/\
   ∀(N:Nat) (qs:List aM),2*([]:List Int).length+10<=N->qs.map aM.iZ=([]:List Int).map (Wd S P k)->kN N qs=some H:=λ{n c} E=>by
  refine⟨0,by omega,by simp,(aR (by rfl)).trans (by simp),λN qs hN hq=>?_⟩;obtain rfl:qs=[]:=List.map_eq_nil_iff.1 hq;obtain⟨N,rfl⟩:∃m,N=m+1:=⟨N-1,by omega⟩;rfl
 induction d with
 |zero=>intro n c L ps hn E T _ _ _;obtain⟨n,rfl⟩:∃m,n=m+1:=⟨n-1,by omega⟩;obtain⟨rfl,rfl⟩:=T;exact nil E
 |succ d ih=>
  intro n c L ps hn E T hp hc uZ;obtain⟨n,rfl⟩:∃m,n=m+1:=⟨n-1,by omega⟩;by_cases hL:L=0
  ·subst hL
   obtain rfl:=(qV T λx hx=>(hp x hx).1).1 rfl;exact nil E
  obtain⟨_,l,x,r,hd,rfl,rfl,Tl,Tr,hh⟩:=vL T hL;obtain rfl:d=_ :=Nat.succ.inj hd;have hx:=hp x (by simp);have hl:(l++x::r).length=l.length+r.length+1:=by simp;omega
  rw[hl]at uZ;obtain⟨H1,a1,a2,f1,k1⟩:=ih (n:=n) (c:=c+1) (by omega) E Tl (λy hy=>hp y (by simp[hy])) (by omega) (by omega);obtain⟨H2,b1,b2,f2,k2⟩:=ih (n:=n) (c:=c+1+l.length) (by omega) E Tr (λy hy=>hp y (by simp[hy])) (by omega) (by omega);have hmax:0<=(if H1<H2 then H2 else H1)/\(if H1<H2 then H2 else H1)<=(l.length:Int)+r.length:=by split<;>omega
  refine⟨1+(if H1<H2 then H2 else H1),by omega,by rw[hl];omega,?_,λN qs hN hq=>?_⟩
  ·refine(au (by simpa using hL)).trans ?_
   refine(aK (xG hx ⟨hc,by omega⟩)).trans ?_;refine(aK (uX (by omega) E hx (.inr (.inr (.inl rfl))))).trans ?_;refine(aK f1).trans ?_;refine(aK (uX (by omega) E hx (.inr (.inr (.inr rfl))))).trans ?_;refine(aK f2).trans ?_;dsimp only;rw[bx (by omega) (by omega),hl];have e1:c+1+(l.length:Int)+(r.length:Int)=c+((l.length+r.length+1:Nat):Int):=by omega
   rw[e1]
  ·obtain⟨N,rfl⟩:∃m,N=m+1:=⟨N-1,by omega⟩
   rw[List.map_append,List.map_cons]at hq;obtain⟨ql,q2,rfl,hql,L8⟩:=List.map_eq_append_iff.1 hq;obtain⟨y,qr,rfl,hy,hqr⟩:=List.map_eq_cons_iff.1 L8;have e1:ql.length=l.length:=by have:=congrArg List.length hql;simpa using this
   have e2:qr.length=r.length:=by have:=congrArg List.length hqr;simpa using this
   have ag9:∀z∈ql,∃w∈l,z.iZ=Wd S P k w:=λz hz=>by
    have:z.iZ∈l.map (Wd S P k):=by rw[← hql];exact List.mem_map_of_mem hz
    obtain⟨w,hw,e⟩:=List.mem_map.1 this;exact⟨w,hw,e.symm⟩
   have ag8:∀z∈qr,∃w∈r,z.iZ=Wd S P k w:=λz hz=>by
    have:z.iZ∈r.map (Wd S P k):=by rw[← hqr];exact List.mem_map_of_mem hz
    obtain⟨w,hw,e⟩:=List.mem_map.1 this;exact⟨w,hw,e.symm⟩
   have hmem:∀j,j<(ql++y::qr).length->(ql++y::qr).getD j default∈ql++y::qr:=λj hj=>by rw[List.getD,akm hj];exact List.getElem_mem hj
   have ajd:wB N (ql++y::qr)=some (ql.length:Int):=by
    refine acw (by simp;omega) (by simp) (by simp;omega) (λj hj hne=>?_) λj hj=>?_
    ·rw[NG,hy]
     have hj2:(ql++y::qr).getD j default∈ql\/(ql++y::qr).getD j default∈qr:=by
      by_cases hjl:j<ql.length
      ·left;rw[List.getD,List.getElem?_append_left hjl,akm hjl];exact List.getElem_mem hjl
      ·right
       obtain⟨u,rfl⟩:∃u,j=ql.length+(u+1):=⟨j-ql.length-1,by omega⟩;have hu:u<qr.length:=by simp at hj;omega
       rw[List.getD,List.getElem?_append_right (by omega),show ql.length+(u+1)-ql.length=u+1 by omega,List.getElem?_cons_succ,akm hu];exact List.getElem_mem hu
     rcases hj2 with h1|h1
     ·obtain⟨w,hw,e⟩:=ag9 _ h1
      rw[e];exact hh w (by simp[hw])
     ·obtain⟨w,hw,e⟩:=ag8 _ h1
      rw[e];exact hh w (by simp[hw])
    ·have:=hmem j hj
     rcases List.mem_append.1 this with h1|h1
     ·obtain⟨w,_,e⟩:=ag9 _ h1
      rw[e];exact z8 E.cw k w
     ·rcases List.mem_cons.1 h1 with h1|h1
      ·rw[h1,hy];exact z8 E.cw k x
      ·obtain⟨w,_,e⟩:=ag8 _ h1
       rw[e];exact z8 E.cw k w
   have g1:=k1 N ql (by omega) hql;have g2:=k2 N qr (by omega) hqr;have t1:(ql++y::qr).take (Int.toNat (ql.length:Int))=ql:=by rw[aki,List.take_left]
   have t2:(ql++y::qr).drop (Int.toNat (wr .i64 ((ql.length:Int)+1)))=qr:=by rw[bx (by omega) (by omega),show Int.toNat ((ql.length:Int)+1)=ql.length+1 by omega, ← List.drop_drop,List.drop_left];rfl
   refine(au (by simp;omega)).trans ?_;refine(ak ajd).trans ?_;refine(bf (eP (by omega) (by simp;omega))).trans ?_;refine(ak (show kN N ((ql++y::qr).take (Int.toNat (ql.length:Int)))=some H1 by rw[t1];exact g1)).trans ?_;refine(bf (eP (by rw[bx (by omega) (by omega)];omega) (by rw[bx (by omega) (by omega)];simp;omega))).trans ?_;refine(ak (show kN N ((ql++y::qr).drop (Int.toNat (wr .i64 ((ql.length:Int)+1))))=some H2 by rw[t2];exact g2)).trans ?_;rw[bx (by omega) (by omega)]
end
end Go.Proofs.Z
namespace Go.Proofs.Z
open Go Go.Bw Go.Rw
def aaQ(m:Int->Int):List Int->Int->Prop
 |[],l=>l=0
 |x::r,l=>l=x+1/\aaQ m r (m (x+16))
theorem zT{m m':Int->Int}:∀{ns:List Int} {l:Int},(∀x∈ns,m' (x+16)=m (x+16))->aaQ m ns l->aaQ m' ns l
 |[],_,_,h=>h
 |x::r,l,hm,⟨h1,h2⟩=>⟨h1,by rw[hm x (by simp)];exact zT (λy hy=>hm y (by simp[hy])) h2⟩
structure Dr(m:Int->Int)(L a:Int)(ps sp:List Int):Prop where
 hb:0<=a/\a%8=0/\a+24<=L/\L<=2048
 nb:∀x∈ps++sp,nP L a x
 cr:(ps++sp).Pairwise iK
 Gi:jf m ps.length ps (m a)
 Jz:m (a+8)=ps.length
 spare:aaQ m sp (m (a+16))
 Ot:ps.Pairwise λx y=>m x<m y
theorem Dr.Gl{m:Int->Int}{L a:Int}{ps sp:List Int}(h:Dr m L a ps sp):(ps++sp).length<=64:=by
 have hl:((ps++sp).map λx=>(x+31)/32).length<=64:=by
  refine wG 64 ?_ λp hp=>?_
  ·rw[List.Nodup,List.pairwise_map]
   exact h.cr.imp λ{x y} hxy e=>by unfold iK at hxy;omega
  ·obtain⟨x,hx,rfl⟩:=List.mem_map.1 hp
   obtain⟨a1,_,a3,a4,_⟩:=h.nb x hx;exact⟨by omega,by show _ <(64:Int);omega⟩
 rw[List.length_map]at hl;exact hl
theorem Dr.frame{m m':Int->Int}{L L' a:Int}{ps sp:List Int}(h:Dr m L a ps sp)(hL:L<=L'/\L'<=2048)(h0:∀x,x=a\/x=a+8\/x=a+16->m' x=m x)(hn:∀x,x∈ps++sp->m' x=m x/\m' (x+16)=m (x+16)/\m' (x+24)=m (x+24)):Dr m' L' a ps sp:=by
 refine⟨⟨h.hb.1,h.hb.2.1,by have:=h.hb;omega,hL.2⟩,λx hx=>?_,h.cr,?_,?_,?_,?_⟩
 ·obtain⟨a1,a2,a3,a4,a5⟩:=h.nb x hx
  exact⟨a1,a2,by omega,by omega,a5⟩
 ·rw[h0 a (.inl rfl)];exact nS (λx hx=>hn x (by simp[hx])) h.Gi
 ·rw[h0 _ (.inr (.inl rfl))];exact h.Jz
 ·rw[h0 _ (.inr (.inr rfl))];exact zT (λx hx=>(hn x (by simp[hx])).2.1) h.spare
 ·exact h.Ot.imp_of_mem λ{x y} hx hy hxy=>by rw[(hn x (by simp[hx])).1,(hn y (by simp[hy])).1];exact hxy
def ace(S:ae)(k:Nat)(P':aj):Prop:=gh (bC S k) 32 8=false/\((S.dR.T.aZ k).gq<bD (bC S k).aN+1\/∀v,¬KS P'.eo.l v 1)
def YF(S S':ae)(k:Nat)(sp sp':List Int):Prop:=(sp.length=sp'.length+1/\S'=S)\/(sp=[]/\sp'=[]/\(bC S k).er+32<=(bC S' k).er/\bD (bC S' k).aN<=bD (bC S k).aN+1/\ (32*bD (bC S k).aN<(bC S k).er+32->(bC S' k).er=32*bD (bC S k).aN+32/\bD (bC S' k).aN=bD (bC S k).aN+1))
section
variable {n:Nat} {S S':ae} {P P':aj} {M:ai} {Q Q':List Int} {t h:Int} {k:Nat} {a c key val:Int}
theorem NL(hn:300<=n)(E:ME S P M Q t h k){ps sp:List Int}(R:Dr (Wd S P k) (bC S k).er a ps sp){x:Int}(hx:nP (bC S k).er a x)(hap:∀y∈ps++sp,iK x y)(hk:0<=key/\key<18446744073709551616)(hv:0<=val/\val<18446744073709551616):
  ∃P1 P2,aW n S P M Q t h a c (wr .i64 (x+0)) key=some (.ok (S,P1,M,Q,t,h,a,c))/\aW n S P1 M Q t h a c (wr .i64 (x+8)) val=some (.ok (S,P2,M,Q,t,h,a,c))/\ME S P2 M Q t h k/\Ev S P Q S P2 Q k/\Dr (Wd S P2 k) (bC S k).er a ps sp/\Wd S P2 k x=key/\Wd S P2 k (x+8)=val/\∀z,z≠x->z≠x+8->Wd S P2 k z=Wd S P k z:=by
 obtain⟨P1,f1,f2,f3,f4⟩:=Di E hx (o:=0) (.inl rfl) hk;obtain⟨P2,g1,g2,g3,g4⟩:=Di f2 hx (o:=8) (.inr (.inl rfl)) hv;rw[Int.add_zero]at f3;have hz:∀z,z≠x->z≠x+8->Wd S P2 k z=Wd S P k z:=λz h1 h2=>by rw[g3,cW _ _ h2,f3,cW _ _ h1]
 obtain⟨b1,b2,b3,b4⟩:=R.hb;refine⟨P1,P2,f1 hn,g1 hn,g2,f4.trans g4,R.frame ⟨Int.le_refl _,b4⟩ (λz h=>?_) (λy hy=>?_),?_,by rw[g3,kJ],hz⟩
 ·obtain⟨_,_,_,_,h5⟩:=hx
  exact hz z (by omega) (by omega)
 ·have:=hap y hy
  unfold iK at this;exact⟨hz _ (by omega) (by omega),hz _ (by omega) (by omega),hz _ (by omega) (by omega)⟩
 ·rw[g3,cW _ _ (by omega),f3,kJ]
theorem Pd(hn:300<=n)(E:ME S P M Q t h k){ps sp:List Int}(R:Dr (Wd S P k) (bC S k).er a ps sp)(hk:0<=key/\key<18446744073709551616)(hv:0<=val/\val<18446744073709551616):
  (∃P' Q',iR n S P M Q t h a c key val=some (.error (6,S,P',M,Q',t,h,a,c))/\ME S P' M Q' t h k/\Ev S P Q S P' Q' k/\sp=[]/\Q'=[]/\Wd S P' k=Wd S P k/\ace S k P')\/
  ∃S' P' Q' x sp',iR n S P M Q t h a c key val=some (.ok (x+1,S',P',M,Q',t,h,a,c))/\ME S' P' M Q' t h k/\Ev S P Q S' P' Q' k/\Dr (Wd S' P' k) (bC S' k).er a ps sp'/\nP (bC S' k).er a x/\(∀y∈ps++sp',iK x y)/\Wd S' P' k x=key/\Wd S' P' k (x+8)=val/\(∀y∈ps,Wd S' P' k y=Wd S P k y/\Wd S' P' k (y+8)=Wd S P k (y+8))/\
   YF S S' k sp sp':=by
 obtain⟨b1,b2,b3,b4⟩:=R.hb;have ahj:vT S k (a+16):=⟨by omega,by omega,by omega⟩;have h16:=DD (c:=c) hn E (a:=a) ⟨b1,by omega⟩ (x:=16) (by omega) ahj;have hold:∀y∈ps,∀x,iK x y->∀m1 m2:Int->Int,(∀z,z≠x->z≠x+8->m2 z=m1 z)->m2 y=m1 y/\m2 (y+8)=m1 (y+8):=λy _ x h m1 m2 hz=>by unfold iK at h;exact⟨hz _ (by omega) (by omega),hz _ (by omega) (by omega)⟩
 cases sp with
 |nil=>
  obtain⟨S',P',Q',q1,q2,E',hW,hpg,hc⟩:=(E.me hn).alloc (by omega) (s:=32) rfl rfl;have h0:Wd S P k (a+16)=0:=R.spare;rcases hc with⟨e1,e2,e3,e4,e5⟩|⟨x,l,e1,e2,e3,e4,e5,e6,e7,e8⟩
  ·subst e2
   refine .inl ⟨P',Q',?_,⟨E'.cw,E.Gt,E'.l8⟩,⟨⟨_,(EA S' k).symm⟩,λj _ =>hW j,q1,q2,Int.le_refl _,hpg⟩,rfl,e3,hW k,e4,e5⟩;unfold iR;rw[aK h16,aU,h0];refine(aR (by rfl)).trans ?_;refine(ak e1).trans ?_;rfl
  ·have hlen:(bC S' k).er=x+32:=by rw[e2,fL]
   have E2:ME S' P' M Q' t h k:=ME.of E.Gt e2 E';have R2:Dr (Wd S' P' k) (bC S' k).er a ps []:=by rw[hW k];exact R.frame ⟨by omega,by omega⟩ (λ_ _ =>rfl) (λ_ _ =>⟨rfl,rfl,rfl⟩)
   have hx:nP (bC S' k).er a x:=⟨e5,e4,by omega,by omega, .inr (by omega)⟩;have hap:∀y∈ps++[],iK x y:=λy hy=> .inr (by have:=(R.nb y hy).2.2.1;omega);obtain⟨P1,P2,f1,f2,f3,f4,f5,f6,f7,f8⟩:=NL (c:=c) hn E2 R2 hx hap hk hv;refine .inr ⟨S',P2,Q',x,[],?_,f3,(Ev.trans ⟨⟨_,e2⟩,λj _ =>hW j,q1,q2,by omega,hpg⟩ f4),f5,hx,hap,f6,f7,λy hy=>?_, .inr ⟨rfl,rfl,by omega,?_,λ_=>?_⟩⟩
   ·unfold iR
    rw[aK h16,aU,h0];refine(aR (by rfl)).trans ?_;refine(ak e1).trans ?_;refine(aK (show qM n 0=some (.ok ())from rfl)).trans ?_;have hw:wr .u64 (wr .u64 x+1)=x+1:=by rw[Bj (x:=x) (by omega) (by omega),Bj (by omega) (by omega)]
    dsimp only;rw[hw];refine(ak (p8 e5 (by omega))).trans ?_;refine(aK f1).trans ?_;refine(ak (p8 e5 (by omega))).trans ?_;exact aK f2
   ·have:=hold y hy x (hap y (by simp[hy])) (Wd S' P' k) (Wd S' P2 k) f8
    rw[hW k]at this;exact this
   ·rw[e2,fL]
    show bD l<=_;cases hf:gh (bC S k) 32 8 with
    |true=>rw[(e7 hf).2.1];omega
    |false=>obtain⟨v,hv,_⟩:=(e8 hf).2;rw[hv,nT,qW];exact Int.le_refl _
   ·have hf:gh (bC S k) 32 8=false:=by
     have h1:=(E.cw.may k).lo;unfold gh;rw[show uB 32 8=true from rfl,Bool.true_and,decide_eq_false_iff_not];unfold AT;omega
    obtain⟨g1,v,hv,_⟩:=e8 hf;refine⟨by rw[hlen,g1],?_⟩;rw[e2,fL];show bD l=_;rw[hv,nT,qW];rfl
 |cons y sp'=>
  have hy:Wd S P k (a+16)=y+1:=R.spare.1;have hya:=R.nb y (by simp);have hp:(ps++y::sp').Perm (y::(ps++sp')):=List.perm_middle;have L9:=List.pairwise_cons.1 ((List.Perm.pairwise_iff gp hp).1 R.cr);have hnb:∀z∈ps++sp',nP (bC S k).er a z:=λz hz=>R.nb z (hp.mem_iff.2 (by simp[hz]));obtain⟨P1,f1,f2,f3,f4⟩:=PU E ahj (z8 E.cw k (y+16));have adt:∀z,z≠a+16->Wd S P1 k z=Wd S P k z:=λz hz=>by rw[f3,cW _ _ hz]
  have hne:∀z,nP (bC S k).er a z->∀o,0<=o->o<32->Wd S P1 k (z+o)=Wd S P k (z+o):=λz hz o h1 h2=>by obtain⟨_,_,_,_,h5⟩:=hz;exact adt _ (by omega)
  have aaj:∀z,nP (bC S k).er a z->Wd S P1 k z=Wd S P k z:=λz hz=>by have:=hne z hz 0 (by omega) (by omega);rwa[Int.add_zero]at this
  have R2:Dr (Wd S P1 k) (bC S k).er a ps sp':=by
   refine⟨R.hb,hnb,L9.2,?_,?_,?_,?_⟩
   ·rw[adt a (by omega)]
    exact nS (λz hz=>by
     have h1:=hnb z (by simp[hz]);exact⟨aaj z h1,hne z h1 16 (by omega) (by omega),hne z h1 24 (by omega) (by omega)⟩) R.Gi
   ·rw[adt _ (by omega)];exact R.Jz
   ·have:Wd S P1 k (a+16)=Wd S P k (y+16):=by rw[f3,kJ]
    rw[this];exact zT (λz hz=>hne z (hnb z (by simp[hz])) 16 (by omega) (by omega)) R.spare.2
   ·exact R.Ot.imp_of_mem λ{u v} hu hv huv=>by rw[aaj u (hnb u (by simp[hu])),aaj v (hnb v (by simp[hv]))];exact huv
  obtain⟨P2,P3,g1,g2,g3,g4,g5,g6,g7,g8⟩:=NL (c:=c) hn f2 R2 hya L9.1 hk hv;obtain⟨y1,y2,y3,y4,y5⟩:=id hya;refine .inr ⟨S,P3,Q,y,sp',?_,g3,f4.trans g4,g5,hya,L9.1,g6,g7,λz hz=>?_, .inl ⟨by simp,rfl⟩⟩
  ·unfold iR
   rw[aK h16,aU,hy];refine(au (by simp;omega)).trans ?_;refine(ak (p8 y1 (by omega))).trans ?_;refine(ak (show kQ n S P M Q t h (wr .i64 (y+16))=some (Wd S P k (y+16),0,S,P,M,Q,t)by rw[bx (by omega) (by omega)];exact(E.me hn).afP (by omega) (XJ hya (.inr (.inr (.inl rfl)))))).trans ?_;refine(aK (show qM n 0=some (.ok ())from rfl)).trans ?_;refine(aK (show aW n S P M Q t h a c (wr .i64 (a+16)) (Wd S P k (y+16))=some (.ok (S,P1,M,Q,t,h,a,c))by rw[bx (by omega) (by omega)];exact f1 hn)).trans ?_;refine(ak (p8 y1 (by omega))).trans ?_;refine(aK g1).trans ?_;refine(ak (p8 y1 (by omega))).trans ?_;exact aK g2
  ·have h1:=hold z hz y (L9.1 z (by simp[hz])) (Wd S P1 k) (Wd S P3 k) g8
   have h2:=hnb z (by simp[hz]);rw[aaj z h2,hne z h2 8 (by omega) (by omega)]at h1;exact h1
end
end Go.Proofs.Z
namespace Go.Proofs.Z
open Go Go.Bw Go.Rw
theorem RH{m:Int->Int}{key:Int}:∀{ps:List Int},(ps.Pairwise λx y=>m x<m y)->(∀x∈ps,m x≠key)->∃A B,ps=A++B/\(∀x∈A,m x<key)/\∀x∈B,key<m x
 |[],_,_ =>⟨[],[],rfl,by simp,by simp⟩
 |x::r,h,hk=>by
  obtain⟨h1,h2⟩:=List.pairwise_cons.1 h;by_cases hx:m x<key
  ·obtain⟨A,B,rfl,a1,a2⟩:=RH h2 λy hy=>hk y (by simp[hy])
   exact⟨x::A,B,rfl,λy hy=>by
    rcases List.mem_cons.1 hy with rfl|hy
    ·exact hx
    ·exact a1 y hy,a2⟩
  ·have:=hk x (by simp)
   exact⟨[],x::r,rfl,by simp,λy hy=>by
    rcases List.mem_cons.1 hy with rfl|hy
    ·omega
    ·have:=h1 y hy;omega⟩
theorem PY{m:Int->Int}{ps:List Int}{x:Int}(hi:ps.Pairwise λx y=>m x<m y)(hx:x∈ps):∃A B,ps=A++x::B/\(∀y∈A,m y<m x)/\∀y∈B,m x<m y:=by obtain⟨A,B,rfl⟩:=List.append_of_mem hx;obtain⟨_,h2,h3⟩:=List.pairwise_append.1 hi;exact⟨A,B,rfl,λy hy=>h3 y hy x (by simp),λy hy=>(List.pairwise_cons.1 h2).1 y hy⟩
theorem G8{L a:Int}{ps:List Int}{m m':Int->Int}(h:xA ps m m')(hp:∀x∈ps,nP L a x){o:Int}(ho:0<=o/\o<24):m' (a+o)=m (a+o):=h _ λy hy=>by obtain⟨_,_,_,_,h5⟩:=hp y hy;omega
theorem Vy{m:Int->Int}{ps:List Int}(h:ps.Pairwise λx y=>m x<m y){x y:Int}(hx:x∈ps)(hy:y∈ps):x=y\/m x<m y\/m y<m x:=by
 induction ps with
 |nil=>cases hx
 |cons p r ih=>
  obtain⟨h1,h2⟩:=List.pairwise_cons.1 h;rcases List.mem_cons.1 hx with rfl|hx'
  ·rcases List.mem_cons.1 hy with rfl|hy'
   ·exact .inl rfl
   ·exact .inr (.inl (h1 y hy'))
  ·rcases List.mem_cons.1 hy with rfl|hy'
   ·exact .inr (.inr (h1 x hx'))
   ·exact ih h2 hx' hy'
section
variable {n:Nat} {S S':ae} {P P':aj} {M:ai} {Q Q':List Int} {t h:Int} {k:Nat} {a c key val:Int}
theorem sy(hn:300<=n)(E:ME S P M Q t h k){ps sp:List Int}(R:Dr (Wd S P k) (bC S k).er a ps sp){x:Int}(hx:x∈ps)(Ua:Wd S P k x=key)(hv:0<=val/\val<18446744073709551616):
  ∃P',eX n S P M Q t h a key val=some (true,0,S,P',M,Q,t,h,a)/\ME S P' M Q t h k/\Ev S P Q S P' Q k/\Dr (Wd S P' k) (bC S k).er a ps sp/\Wd S P' k=JN (Wd S P k) (x+8) val:=by
 have hm:=R.Gl;rw[List.length_append]at hm;obtain⟨r,c',f1,f2⟩:=zN (key:=key) hn E R.hb R.Gi (λy hy=>R.nb y (by simp[hy])) R.Ot (by omega);have hxa:=R.nb x (by simp[hx]);obtain⟨b1,b2,b3,b4⟩:=R.hb;rcases f2 with⟨y,hy,hyk,rfl⟩|⟨rfl,hno⟩;rotate_left
 ·exact absurd Ua (hno x hx)
 obtain rfl:y=x:=by
  rcases Vy R.Ot hy hx with e|e|e
  ·exact e
  ·omega
  ·omega
 obtain⟨P',g1,g2,g3,g4⟩:=Di E hxa (o:=8) (.inr (.inl rfl)) hv;obtain⟨y1,y2,y3,y4,y5⟩:=id hxa;have hz:∀z,z≠y+8->Wd S P' k z=Wd S P k z:=λz hz=>by rw[g3,cW _ _ hz]
 refine⟨P',?_,g2,g4,R.frame ⟨Int.le_refl _,b4⟩ (λz h=>hz z (by omega)) (λz T9=>?_),g3⟩
 ·unfold eX
  refine(aK f1).trans ?_;refine(aR (by simp;omega)).trans ?_;refine(ak (p8 y1 (by omega))).trans ?_;exact aK (g1 hn)
 ·rcases BU R.cr T9 (show y∈ps++sp by simp[hx])with rfl|h
  ·exact⟨hz _ (by omega),hz _ (by omega),hz _ (by omega)⟩
  ·unfold iK at h
   exact⟨hz _ (by omega),hz _ (by omega),hz _ (by omega)⟩
theorem QL(hn:500<=n)(E:ME S P M Q t h k){A B sp:List Int}(R:Dr (Wd S P k) (bC S k).er a (A++B) sp)(hA:∀x∈A,Wd S P k x<key)(hB:∀x∈B,key<Wd S P k x)(hk:0<=key/\key<18446744073709551616)(hv:0<=val/\val<18446744073709551616):
  (∃P' Q',eX n S P M Q t h a key val=some (false,6,S,P',M,Q',t,h,a)/\ME S P' M Q' t h k/\Ev S P Q S P' Q' k/\sp=[]/\Q'=[]/\Wd S P' k=Wd S P k/\ace S k P')\/
  ∃S' P' Q' x sp',eX n S P M Q t h a key val=some (false,0,S',P',M,Q',t,h,a)/\ME S' P' M Q' t h k/\Ev S P Q S' P' Q' k/\Dr (Wd S' P' k) (bC S' k).er a (A++x::B) sp'/\Wd S' P' k x=key/\Wd S' P' k (x+8)=val/\(∀y∈A++B,Wd S' P' k y=Wd S P k y/\Wd S' P' k (y+8)=Wd S P k (y+8))/\
   YF S S' k sp sp':=by
 have hm:=R.Gl;rw[List.length_append]at hm;obtain⟨r,c',f1,f2⟩:=zN (key:=key) (n:=n) (by omega) E R.hb R.Gi (λy hy=>R.nb y (by simp at hy ⊢;rcases hy with h|h<;>simp[h])) R.Ot (by omega);have hno:∀x∈A++B,Wd S P k x≠key:=λx hx e=>by
  rcases List.mem_append.1 hx with h|h
  ·have:=hA x h;omega
  ·have:=hB x h;omega
 rcases f2 with⟨y,hy,hyk,rfl⟩|⟨rfl,_⟩
 ·exact absurd hyk (hno y hy)
 rcases Pd (c:=c') (key:=key) (val:=val) (n:=n) (by omega) E R hk hv with⟨P1,Q1,g1,g2,g3,g4⟩|⟨S1,P1,Q1,x,sp',g1,g2,g3,g4,g5,g6,g7,g8,g9,g10⟩
 ·refine .inl ⟨P1,Q1,?_,g2,g3,g4⟩
  unfold eX;refine(aK f1).trans ?_;refine(au (by rfl)).trans ?_;exact aev g1
 obtain⟨b1,b2,b3,b4⟩:=g4.hb;have Dt:((A++x::B)++sp').Perm (x::((A++B)++sp')):=by rw[List.append_assoc,List.append_assoc,List.cons_append];exact List.perm_middle
 have hcr:((A++x::B)++sp').Pairwise iK:=(List.Perm.pairwise_iff gp Dt).2 (List.pairwise_cons.2 ⟨g6,g4.cr⟩);have hnb:∀y∈(A++x::B)++sp',nP (bC S1 k).er a y:=λy hy=>by
  rcases List.mem_cons.1 (Dt.mem_iff.1 hy)with rfl|h
  ·exact g5
  ·exact g4.nb y h
 obtain⟨c1,c2,c3⟩:=List.pairwise_append.1 hcr;have h0:=DD (c:=0) (n:=n) (by omega) g2 (a:=a) ⟨b1,by omega⟩ (x:=0) (by omega) ⟨by omega,by omega,by omega⟩;rw[Int.add_zero]at h0;have hm2:=g4.Gl;rw[List.length_append]at hm2;obtain⟨P2,c5,L',i1,i2,i3,i4,i5⟩:=Ps (a:=a) (b:=a) (key:=key) (x0:=x) (A++B).length (n:=n) (c:=0) (A:=A) (B:=B) (by omega) g2 g4.Gi (λy hy=>hnb y (akk _ hy)) c1 (λy hy=>by rw[(g9 y (by simp[hy])).1];exact hA y hy) (λy hy=>by rw[(g9 y (by simp[hy])).1];exact hB y hy) (by omega) (by omega) g7 (λy hy e=>by
  have:=Vl (z8 g2.cw k y) hk e;rw[(g9 y hy).1]at this;exact hno y hy this)
 have hLr:=sq (n:=n) i2 i4 (b:=a) λy hy=>hnb y (akk _ hy);obtain⟨P3,j1,j2,j3,j4⟩:=PU i2 (x:=a) ⟨by omega,by omega,by omega⟩ hLr;have h8:=DD (c:=c5) (n:=n) (by omega) j2 (a:=a) ⟨b1,by omega⟩ (x:=8) (by omega) ⟨by omega,by omega,by omega⟩;have adO:Wd S1 P3 k (a+8)=((A++B).length:Int):=by rw[j3,cW _ _ (by omega),G8 i5 (λy hy=>hnb y (akk _ hy)) ⟨by omega,by omega⟩];exact g4.Jz
 obtain⟨P4,l1,l2,l3,l4⟩:=PU j2 (x:=a+8) (v:=((A++B).length:Int)+1) ⟨by omega,by omega,by omega⟩ (by omega);have hz:∀z,z≠a->z≠a+8->Wd S1 P4 k z=Wd S1 P2 k z:=λz h1 h2=>by rw[l3,cW _ _ h2,j3,cW _ _ h1]
 have hzn:∀z,nP (bC S1 k).er a z->∀o,0<=o->o<32->Wd S1 P4 k (z+o)=Wd S1 P2 k (z+o):=λz T9 o h1 h2=>by obtain⟨_,_,_,_,h5⟩:=T9;exact hz _ (by omega) (by omega)
 have ai5:∀z,nP (bC S1 k).er a z->Wd S1 P4 k z=Wd S1 P2 k z:=λz T9=>by have:=hzn z T9 0 (by omega) (by omega);rwa[Int.add_zero]at this
 have hkv:∀y∈A++x::B,∀o,o=0\/o=8->Wd S1 P4 k (y+o)=Wd S1 P1 k (y+o):=λy hy o ho=>by rw[hzn y (hnb y (akk _ hy)) o (by omega) (by omega)];exact Ml i5 (λz hz=>BU c1 hy hz) ho
 have ND:∀y∈A++x::B,Wd S1 P4 k y=Wd S1 P1 k y:=λy hy=>by have:=hkv y hy 0 (.inl rfl);rwa[Int.add_zero]at this
 have hin:∀y∈A++B,y∈A++x::B:=λy hy=>by simp at hy ⊢;rcases hy with h|h<;>simp[h]
 refine .inr ⟨S1,P4,Q1,x,sp',?_,l2,g3.trans (i3.trans (j4.trans l4)),⟨⟨b1,b2,b3,b4⟩,hnb,hcr,?_,?_,?_,?_⟩,?_,?_,λy hy=>?_,g10⟩
 ·unfold eX
  refine(aK f1).trans ?_;refine(au (by rfl)).trans ?_;refine(aK g1).trans ?_;refine(aK h0).trans ?_;refine(aK i1).trans ?_;refine(aK (show aW n S1 P2 M Q1 t h a c5 (wr .i64 (a+0)) L'=some (.ok (S1,P3,M,Q1,t,h,a,c5))by rw[bx (by omega) (by omega),Int.add_zero];exact j1 (by omega))).trans ?_;refine(aK h8).trans ?_;refine(aK (show aW n S1 P3 M Q1 t h a c5 (wr .i64 (a+8)) (wr .u64 (Wd S1 P3 k (a+8)+1))=some (.ok (S1,P4,M,Q1,t,h,a,c5))by rw[bx (by omega) (by omega),adO,Bj (by omega) (by omega)];exact l1 (by omega))).trans ?_;rfl
 ·have e:Wd S1 P4 k a=L':=by rw[l3,cW _ _ (by omega),j3,kJ]
  rw[e];refine pF (nS (λy hy=>?_) i4);have h1:=hnb y (akk _ hy);exact⟨ai5 y h1,hzn y h1 16 (by omega) (by omega),hzn y h1 24 (by omega) (by omega)⟩
 ·rw[l3,kJ];simp;omega
 ·rw[hz _ (by omega) (by omega),G8 i5 (λy hy=>hnb y (akk _ hy)) ⟨by omega,by omega⟩]
  refine zT (λy hy=>?_) g4.spare;rw[hzn y (hnb y (akj _ hy)) 16 (by omega) (by omega)];exact EU i5 (λz hz=>gp (c3 z hz y hy)) ⟨by omega,by omega⟩
 ·have aal:=g4.Ot
  obtain⟨p1,p2,p3⟩:=List.pairwise_append.1 aal;have q:∀{u v:Int},u∈A++x::B->v∈A++x::B->Wd S1 P1 k u<Wd S1 P1 k v->Wd S1 P4 k u<Wd S1 P4 k v:=λhu hv h=>by rw[ND _ hu,ND _ hv];exact h
  have hAx:∀y∈A,Wd S1 P1 k y<Wd S1 P1 k x:=λy hy=>by rw[(g9 y (by simp[hy])).1,g7];exact hA y hy
  have hBx:∀y∈B,Wd S1 P1 k x<Wd S1 P1 k y:=λy hy=>by rw[(g9 y (by simp[hy])).1,g7];exact hB y hy
  refine List.pairwise_append.2 ⟨p1.imp_of_mem λhu hv h=>q (by simp[hu]) (by simp[hv]) h,List.pairwise_cons.2 ⟨λy hy=>q (by simp) (by simp[hy]) (hBx y hy),p2.imp_of_mem λhu hv h=>q (by simp[hu]) (by simp[hv]) h⟩,λy hy z hz=>?_⟩;rcases List.mem_cons.1 hz with rfl|hz
  ·exact q (by simp[hy]) (by simp) (hAx y hy)
  ·exact q (by simp[hy]) (by simp[hz]) (p3 y hy z hz)
 ·rw[ND x (by simp)];exact g7
 ·rw[hkv x (by simp) 8 (.inr rfl)];exact g8
 ·obtain⟨h1,h2⟩:=g9 y hy
  rw[ND y (hin y hy),hkv y (hin y hy) 8 (.inr rfl)];exact⟨h1,h2⟩
theorem aek(hn:500<=n)(E:ME S P M Q t h k){A B sp:List Int}{x:Int}(R:Dr (Wd S P k) (bC S k).er a (A++x::B) sp)(Ua:Wd S P k x=key):
  ∃P',lR n S P M Q t h a key=some (true,0,S,P',M,Q,t,h,a)/\ME S P' M Q t h k/\Ev S P Q S P' Q k/\Dr (Wd S P' k) (bC S k).er a (A++B) (x::sp)/\∀y∈A++B,Wd S P' k y=Wd S P k y/\Wd S P' k (y+8)=Wd S P k (y+8):=by
 have hm:=R.Gl;rw[List.length_append]at hm;obtain⟨b1,b2,b3,b4⟩:=R.hb;have hnb:=R.nb;obtain⟨r,c',f1,f2⟩:=zN (key:=key) (n:=n) (by omega) E R.hb R.Gi (λy hy=>R.nb y (akk _ hy)) R.Ot (by omega);have hr0:r≠0:=by
  rcases f2 with⟨y,hy,_,rfl⟩|⟨_,hno⟩
  ·obtain⟨h1,_⟩:=R.nb y (akk _ hy)
   omega
  ·exact absurd Ua (hno x (by simp))
 obtain⟨c1,c2,c3⟩:=List.pairwise_append.1 R.cr;obtain⟨p1,p2,p3⟩:=List.pairwise_append.1 R.Ot;obtain⟨p4,p5⟩:=List.pairwise_cons.1 p2;have hA:∀y∈A,Wd S P k y<key:=λy hy=>by rw[← Ua];exact p3 y hy x (by simp)
 have hB:∀y∈B,key<Wd S P k y:=λy hy=>by rw[← Ua];exact p4 y hy
 have hx:=R.nb x (by simp);obtain⟨x1,x2,x3,x4,x5⟩:=id hx;have h0:=DD (c:=0) (n:=n) (by omega) E (a:=a) ⟨b1,by omega⟩ (x:=0) (by omega) ⟨by omega,by omega,by omega⟩;rw[Int.add_zero]at h0;obtain⟨P2,c5,L',i1,i2,i3,i4,i5⟩:=O6 (a:=a) (b:=a) (key:=key) (x0:=x) (A++x::B).length (n:=n) (c:=0) (A:=A) (B:=B) (by omega) E R.Gi (λy hy=>hnb y (akk _ hy)) c1 hA hB Ua (by omega) (by omega) (λy hy z hz e=>by
  have:=Vl (z8 E.cw k y) (z8 E.cw k z) e;have:=hA y hy;have:=hB z hz;omega)
 have hLr:=sq (n:=n) i2 i4 (b:=a) λy hy=>hnb y (by simp at hy ⊢;rcases hy with h|h<;>simp[h]);obtain⟨P3,j1,j2,j3,j4⟩:=PU i2 (x:=a) ⟨by omega,by omega,by omega⟩ hLr;have h16:=DD (c:=c5) (n:=n) (by omega) j2 (a:=a) ⟨b1,by omega⟩ (x:=16) (by omega) ⟨by omega,by omega,by omega⟩;have hsp:Wd S P3 k (a+16)=Wd S P k (a+16):=by rw[j3,cW _ _ (by omega),G8 i5 (λy hy=>hnb y (akk _ hy)) ⟨by omega,by omega⟩]
 rw[hsp]at h16;obtain⟨P4,k1,k2,k3,k4⟩:=Di j2 hx (o:=16) (.inr (.inr (.inl rfl))) (z8 E.cw k (a+16));obtain⟨P5,l1,l2,l3,l4⟩:=PU k2 (x:=a+16) (v:=x+1) ⟨by omega,by omega,by omega⟩ (by omega);have h8:=DD (c:=c5) (n:=n) (by omega) l2 (a:=a) ⟨b1,by omega⟩ (x:=8) (by omega) ⟨by omega,by omega,by omega⟩;have adO:Wd S P5 k (a+8)=((A++x::B).length:Int):=by rw[l3,cW _ _ (by omega),k3,cW _ _ (by omega),j3,cW _ _ (by omega),G8 i5 (λy hy=>hnb y (akk _ hy)) ⟨by omega,by omega⟩];exact R.Jz
 have hlen:(A++x::B).length=(A++B).length+1:=by simp;omega
 obtain⟨P6,m1,m2,m3,m4⟩:=PU l2 (x:=a+8) (v:=((A++B).length:Int)) ⟨by omega,by omega,by omega⟩ (by omega);have hz:∀z,z≠a->z≠a+8->z≠a+16->z≠x+16->Wd S P6 k z=Wd S P2 k z:=λz h1 h2 h3 h4=>by rw[m3,cW _ _ h2,l3,cW _ _ h3,k3,cW _ _ h4,j3,cW _ _ h1]
 have hzn:∀z,nP (bC S k).er a z->z=x\/iK z x->∀o,0<=o->o<32->(z=x->o<16)->Wd S P6 k (z+o)=Wd S P2 k (z+o):=λz T9 hap o h1 h2 h3=>by
  obtain⟨_,_,_,_,h5⟩:=T9;refine hz _ (by omega) (by omega) (by omega) ?_;rcases hap with rfl|h
  ·have:=h3 rfl;omega
  ·unfold iK at h;omega
 have BZ:∀y∈A++x::B,y=x\/iK y x:=λy hy=>BU c1 hy (by simp);have hin:∀y∈A++B,y∈A++x::B:=λy hy=>by simp at hy ⊢;rcases hy with h|h<;>simp[h]
 have Dt:((A++x::B)++sp).Perm (x::((A++B)++sp)):=by rw[List.append_assoc,List.append_assoc,List.cons_append];exact List.perm_middle
 have WG:((A++B)++x::sp).Perm (x::((A++B)++sp)):=List.perm_middle;have ajg:=List.pairwise_cons.1 ((List.Perm.pairwise_iff gp Dt).1 R.cr);have adR:∀y∈A++B,iK y x:=λy hy=>gp (ajg.1 y (akk _ hy));have hkv:∀y∈A++B,∀o,o=0\/o=8->Wd S P6 k (y+o)=Wd S P k (y+o):=λy hy o ho=>by rw[hzn y (hnb y (akk _ (hin y hy))) (.inr (adR y hy)) o (by omega) (by omega) (by omega)];exact Ml i5 (λz hz=>BU c1 (hin y hy) hz) ho
 have ND:∀y∈A++B,Wd S P6 k y=Wd S P k y:=λy hy=>by have:=hkv y hy 0 (.inl rfl);rwa[Int.add_zero]at this
 refine⟨P6,?_,m2,i3.trans (j4.trans (k4.trans (l4.trans m4))),⟨R.hb,λy hy=>hnb y (Dt.mem_iff.2 (WG.mem_iff.1 hy)),(List.Perm.pairwise_iff gp WG).2 ((List.Perm.pairwise_iff gp Dt).1 R.cr),?_,?_,⟨?_,?_⟩,?_⟩,λy hy=>⟨ND y hy,hkv y hy 8 (.inr rfl)⟩⟩
 ·unfold lR
  refine(aK f1).trans ?_;refine(au (by simpa using hr0)).trans ?_;refine(aK h0).trans ?_;refine(aK i1).trans ?_;refine(aK (show aW n S P2 M Q t h a c5 (wr .i64 (a+0)) L'=some (.ok (S,P3,M,Q,t,h,a,c5))by rw[bx (by omega) (by omega),Int.add_zero];exact j1 (by omega))).trans ?_;refine(ak (p8 x1 (by omega))).trans ?_;refine(aK h16).trans ?_;refine(aK (k1 (by omega))).trans ?_;refine(aK (show aW n S P4 M Q t h a c5 (wr .i64 (a+16)) (x+1)=some (.ok (S,P5,M,Q,t,h,a,c5))by rw[bx (by omega) (by omega)];exact l1 (by omega))).trans ?_;refine(aK h8).trans ?_;refine(aK (show aW n S P5 M Q t h a c5 (wr .i64 (a+8)) (wr .u64 (Wd S P5 k (a+8)-1))=some (.ok (S,P6,M,Q,t,h,a,c5))by
   rw[bx (by omega) (by omega),adO,Bj (by omega) (by omega),show((A++x::B).length:Int)-1=((A++B).length:Int)by omega];exact m1 (by omega))).trans ?_
  rfl
 ·have e:Wd S P6 k a=L':=by rw[m3,cW _ _ (by omega),l3,cW _ _ (by omega),k3,cW _ _ (by omega),j3,kJ]
  rw[e];refine nS (λy hy=>?_) i4;have h1:=hnb y (akk _ (hin y hy));have h2:=hzn y h1 (.inr (adR y hy));have h3:y≠x:=λe=>by have:=adR y hy;unfold iK at this;omega
  have h4:=h2 0 (by omega) (by omega) (λe=>absurd e h3);rw[Int.add_zero]at h4;exact⟨h4,h2 16 (by omega) (by omega) (λe=>absurd e h3),h2 24 (by omega) (by omega) (λe=>absurd e h3)⟩
 ·rw[m3,kJ]
 ·rw[m3,cW _ _ (by omega),l3,kJ]
 ·have e1:Wd S P6 k (x+16)=Wd S P k (a+16):=by rw[m3,cW _ _ (by omega),l3,cW _ _ (by omega),k3,kJ]
  rw[e1];refine zT (λy hy=>?_) R.spare;have h1:=hnb y (akj _ hy);have h2:iK y x:=gp (c3 x (by simp) y hy);have h3:y≠x:=λe=>by unfold iK at h2;omega
  rw[hzn y h1 (.inr h2) 16 (by omega) (by omega) (λe=>absurd e h3)];exact EU i5 (λz hz=>gp (c3 z hz y hy)) ⟨by omega,by omega⟩
 ·have q:∀{u v:Int},u∈A++B->v∈A++B->Wd S P k u<Wd S P k v->Wd S P6 k u<Wd S P6 k v:=λhu hv h=>by rw[ND _ hu,ND _ hv];exact h
  exact List.pairwise_append.2 ⟨p1.imp_of_mem λhu hv h=>q (by simp[hu]) (by simp[hv]) h,p5.imp_of_mem λhu hv h=>q (by simp[hu]) (by simp[hv]) h,λy hy z hz=>q (by simp[hy]) (by simp[hz]) (p3 y hy z (by simp[hz]))⟩
theorem aej(hn:300<=n)(E:ME S P M Q t h k){ps sp:List Int}(R:Dr (Wd S P k) (bC S k).er a ps sp)(hno:∀x∈ps,Wd S P k x≠key):lR n S P M Q t h a key=some (false,0,S,P,M,Q,t,h,a):=by
 have hm:=R.Gl;rw[List.length_append]at hm;obtain⟨r,c',f1,f2⟩:=zN (key:=key) hn E R.hb R.Gi (λy hy=>R.nb y (by simp[hy])) R.Ot (by omega);rcases f2 with⟨y,hy,hyk,_⟩|⟨rfl,_⟩
 ·exact absurd hyk (hno y hy)
 unfold lR;refine(aK f1).trans ?_;exact aR (by rfl)
end
end Go.Proofs.Z
namespace Go.Proofs.Z
open Go Go.Bw Go.Rw
section
variable {n:Nat} {S:ae} {P:aj} {M:ai} {Q:List Int} {t h:Int} {k:Nat} {a key:Int}
theorem UP(hn:300<=n)(E:ME S P M Q t h k){ps sp:List Int}(R:Dr (Wd S P k) (bC S k).er a ps sp):da n S P M Q t h a 0 0=some (.ok (Wd S P k a,S,P,M,Q,t,h,a,0)):=by obtain⟨b1,b2,b3,b4⟩:=R.hb;have h0:=DD (c:=0) (n:=n) hn E (a:=a) ⟨b1,by omega⟩ (x:=0) (by omega) ⟨by omega,by omega,by omega⟩;rwa[Int.add_zero]at h0
theorem agJ(hn:300<=n)(E:ME S P M Q t h k){ps sp:List Int}(R:Dr (Wd S P k) (bC S k).er a ps sp):qY n S P M Q t h a=some ((ps.length:Int),0,S,P,M,Q,t,h,a):=by have hm:=R.Gl;rw[List.length_append]at hm;obtain⟨b1,b2,b3,b4⟩:=R.hb;have h8:=DD (c:=0) (n:=n) hn E (a:=a) ⟨b1,by omega⟩ (x:=8) (by omega) ⟨by omega,by omega,by omega⟩;unfold qY;rw[aK h8,R.Jz,bx (by omega) (by omega)];rfl
theorem ahP(hn:400<=n)(E:ME S P M Q t h k){ps sp:List Int}(R:Dr (Wd S P k) (bC S k).er a ps sp):qZ n S P M Q t h a=some (ps.map (EF (Wd S P k)),0,S,P,M,Q,t,h,a):=by have hm:=R.Gl;rw[List.length_append]at hm;have f:=aey (a:=a) (b:=a) ps.length (n:=n) (c:=0) (out:=[]) (by omega) E R.Gi (λx hx=>R.nb x (by simp[hx])) (by omega) (by omega) (by simp;omega);unfold qZ;refine(aK (UP (by omega) E R)).trans ?_;refine(aK f).trans ?_;rfl
theorem adF(hn:400<=n)(E:ME S P M Q t h k){ps sp:List Int}(R:Dr (Wd S P k) (bC S k).er a ps sp):
  ∃H,p9 n S P M Q t h a=some (H,0,S,P,M,Q,t,h,a)/\∀(N:Nat) (qs:List aM),2*ps.length+10<=N->qs.map aM.iZ=ps.map (Wd S P k)->kN N qs=some H:=by
 have hm:=R.Gl;rw[List.length_append]at hm;obtain⟨H,_,_,f,g⟩:=aam (a:=a) (b:=a) ps.length (n:=n) (c:=0) (by omega) E R.Gi (λx hx=>R.nb x (by simp[hx])) (by omega) (by omega);refine⟨H,?_,g⟩;unfold p9;refine(aK (UP (by omega) E R)).trans ?_;exact aK f
theorem ahs(hn:300<=n)(E:ME S P M Q t h k){ps sp:List Int}(R:Dr (Wd S P k) (bC S k).er a ps sp):
  (∀x∈ps,Wd S P k x=key->lQ n S P M Q t h a key=some (Wd S P k (x+8),true,0,S,P,M,Q,t,h,a))/\((∀x∈ps,Wd S P k x≠key)->lQ n S P M Q t h a key=some (0,false,0,S,P,M,Q,t,h,a)):=by
 have hm:=R.Gl;rw[List.length_append]at hm;obtain⟨r,c',f1,f2⟩:=zN (key:=key) hn E R.hb R.Gi (λy hy=>R.nb y (by simp[hy])) R.Ot (by omega);refine⟨λx hx Ua=>?_,λhno=>?_⟩
 ·rcases f2 with⟨y,hy,hyk,rfl⟩|⟨rfl,hno⟩
  ·obtain rfl:y=x:=by
    rcases Vy R.Ot hy hx with e|e|e
    ·exact e
    ·omega
    ·omega
   have hya:=R.nb y (by simp[hy]);obtain⟨y1,y2,y3,y4,y5⟩:=id hya;unfold lQ;refine(aK f1).trans ?_;refine(aR (by simp;omega)).trans ?_;refine(ak (p8 y1 (by omega))).trans ?_;exact aK (uX hn E hya (.inr (.inl rfl)))
  ·exact absurd Ua (hno x hx)
 ·rcases f2 with⟨y,hy,hyk,rfl⟩|⟨rfl,_⟩
  ·exact absurd hyk (hno y hy)
  ·unfold lQ
   refine(aK f1).trans ?_;exact au (by rfl)
def Te(m:Int->Int):List Int->bN×Bool
 |[]=>(fC,false)
 |x::_ =>(EF m x,true)
theorem adW(hn:300<=n)(E:ME S P M Q t h k){ps sp:List Int}(R:Dr (Wd S P k) (bC S k).er a ps sp):
  ∃A B,ps=A++B/\(∀x∈A,Wd S P k x<key)/\(∀x∈B,key<=Wd S P k x)/\qa n S P M Q t h a key=some ((Te (Wd S P k) B).1,(Te (Wd S P k) B).2,0,S,P,M,Q,t,h,a):=by
 have hm:=R.Gl;rw[List.length_append]at hm;unfold qa;rw[aK (UP hn E R)];dsimp only;refine Pq (λ(L:Int) s p m q t' h' a' (c':Int) (u:bN) (is:Bool)=>∃d A qs B,s=S/\p=P/\m=M/\q=Q/\t'=t/\h'=h/\a'=a/\jf (Wd S P k) d qs L/\0<=c'/\c'+qs.length<=64/\ps=A++(qs++B)/\(∀x∈A,Wd S P k x<key)/\(∀x∈B,key<=Wd S P k x)/\(u,is)=Te (Wd S P k) B) (λ_ _ _ _ _ _ _ _ c' _ _ =>(64-c').toNat)
  (λo=>∃A B,ps=A++B/\(∀x∈A,Wd S P k x<key)/\(∀x∈B,key<=Wd S P k x)/\o=some ((Te (Wd S P k) B).1,(Te (Wd S P k) B).2,0,S,P,M,Q,t,h,a)) ?_ n _ _ _ _ _ _ _ _ _ _ _ ⟨ps.length,[],ps,[],rfl,rfl,rfl,rfl,rfl,rfl,rfl,R.Gi,by omega,by omega,by simp,by simp,by simp,rfl⟩ (by omega)
 rintro kk L s p m q t' h' a' c' u is ⟨d,A,qs,B,rfl,rfl,rfl,rfl,rfl,rfl,rfl,T,hc,uZ,e1,hA,hB,hu⟩ ih;have hq:∀x∈qs,x∈ps:=λx hx=>by rw[e1];simp[hx]
 by_cases hL:L=0
 ·subst hL
  obtain rfl:=(qV T λx hx=>(R.nb x (by simp[hq x hx])).1).1 rfl;rw[au (by rfl)];have e2:=congrArg Prod.fst hu;have e3:=congrArg Prod.snd hu;exact⟨A,B,e1,hA,hB,by rw[← e2, ← e3];rfl⟩
 obtain⟨e,l,x,r,_,rfl,rfl,Tl,Tr,_⟩:=vL T hL;have hx:=R.nb x (akk _ (hq x (by simp)));have hl:(l++x::r).length=l.length+r.length+1:=by simp;omega
 rw[hl]at uZ;have aal:=R.Ot;rw[e1]at aal;obtain⟨_,i2,_⟩:=List.pairwise_append.1 aal;obtain⟨i4,_,_⟩:=List.pairwise_append.1 i2;obtain⟨p1,p2,p3⟩:=List.pairwise_append.1 i4;obtain⟨p4,p5⟩:=List.pairwise_cons.1 p2;rw[aR (by simpa using hL),aK (xG hx ⟨hc,by omega⟩),aK (LU hn E hx)];dsimp only;by_cases hlt:Wd s p k x<key
 ·rw[aR (by simpa using hlt),aK (uX hn E hx (.inr (.inr (.inr rfl))))]
  dsimp only;refine ih _ _ _ _ _ _ _ _ _ _ _ ⟨e,A++l++[x],r,B,rfl,rfl,rfl,rfl,rfl,rfl,rfl,Tr,by omega,by omega,by rw[e1];simp,λy hy=>?_,hB,hu⟩ (by omega);simp at hy;rcases hy with hy|hy|rfl
  ·exact hA y hy
  ·have:=p3 y hy x (by simp);omega
  ·exact hlt
 ·rw[au (by simpa using hlt),aK (uX hn E hx (.inr (.inl rfl))),aU]
  dsimp only;rw[aK (uX hn E hx (.inr (.inr (.inl rfl))))];dsimp only;refine ih _ _ _ _ _ _ _ _ _ _ _ ⟨e,A,l,x::r++B,rfl,rfl,rfl,rfl,rfl,rfl,rfl,Tl,by omega,by omega,by rw[e1];simp,hA,λy hy=>?_,rfl⟩ (by omega);simp at hy;rcases hy with rfl|hy|hy
  ·omega
  ·have:=p4 y hy;omega
  ·exact hB y hy
end
end Go.Proofs.Z
namespace Go.Proofs.Z
open Go Go.Bw Go.Rw
theorem RT{q:Int}(hq:1<=q/\q<=64):di 20000 Um ({({kE with n:=64}:aj)with eo:=⟨[⟨0,64⟩]⟩}:aj) bG [] 0 ({({fb with Do:=1}:aD)with A:=q}:aD)=some (⟨0,0,1⟩,Lc q,YE 64,bG,[],0):=ags (p:=64) ⟨by omega,by omega⟩
theorem Wg{p q:Int}(hp:1<=p/\p<=64)(hq:1<=q/\q<=64):∃S P,eV 20000 (Lc q) (YE p) bG [] 0 1 24 8=some (0,0,S,P,bG,[],0)/\ME S P bG [] 0 1 0/\P.n=p/\S=ja (Lc q) 0 ⟨[⟨0,1⟩],24⟩/\(∀x,cB P.eo.l x↔1<=x/\x<p)/\Dr (Wd S P 0) 24 0 [] []:=by obtain⟨S,P,e1,e2,e3,e4,e5,e6⟩:=ada (s:=24) hp hq.2 rfl rfl (by have:fG 24=1:=rfl;omega);refine⟨S,P,e1,ME.of (λn hn=>ab6 hn ⟨by omega,hq.2⟩) e4 e2,e3,e4,e6,?_⟩;rw[e5 0];exact⟨by omega,by simp,by simp,⟨rfl,rfl⟩,rfl,rfl,by simp⟩
def o7(m:Int->Int)(x:Int):aM:=⟨m x,m (x+8)⟩
section
variable {n:Nat} {S:ae} {P:aj} {M:ai} {Q:List Int} {t h:Int} {k:Nat} {a:Int}
theorem Vd(hn:500<=n)(E:ME S P M Q t h k){ps sp:List Int}(R:Dr (Wd S P k) (bC S k).er a ps sp){w:bj}(hw:w.L=ps.map (o7 (Wd S P k))):uE n S P M Q t h a w=some (true,S,P,M,Q,t,h,a):=by
 have hm:=R.Gl;rw[List.length_append]at hm;obtain⟨H,f,g⟩:=adF (n:=n) (by omega) E R;have hr:kN n w.L=some H:=g n w.L (by omega) (by rw[hw,List.map_map];rfl);have hl:(w.L.length:Int)=ps.length:=by rw[hw,List.length_map]
 unfold uE;rw[ak (ahP (by omega) E R),ak (agJ (by omega) E R),ak f];dsimp only;rw[List.length_map,kW (by simp[hl]) hr,au (by simp[hl])];refine wK (λ(i:Int)=>0<=i/\i<=ps.length) (λi=>((ps.length:Int)-i).toNat) (λo=>o=some (true,S,P,M,Q,t,h,a)) ?_ n 0 ⟨by omega,by omega⟩ (by omega);rintro kk i ⟨i0,i1⟩ ih;by_cases hc:i<ps.length
 ·obtain⟨j,rfl⟩:=Int.eq_ofNat_of_zero_le i0
  have hj:j<ps.length:=by omega
  have e1:(ps.map (EF (Wd S P k))).getD j default=EF (Wd S P k) ps[j]:=by rw[List.getD,List.getElem?_map,akm hj];rfl
  have e2:w.L.getD j default=o7 (Wd S P k) ps[j]:=by rw[hw,List.getD,List.getElem?_map,akm hj];rfl
  rw[aR (by simpa using hc),bf (eP i0 hc),bf (eP i0 (by omega)),aki,e1,e2,au (by simp[EF,o7]),bx (by omega) (by omega)];exact ih _ ⟨by omega,by omega⟩ (by omega)
 ·rw[au (by simpa using hc)]
end
theorem adX{l:List Rn}(hl:qz l)(h:1<=bD l):∃v,KS l v 1:=by
 cases l with
 |nil=>exact absurd h (by simp[bD])
 |cons y r=>have:=hl.wC y (by simp);exact⟨y.At,⟨by omega,by omega,by omega⟩,λp h1 h2=>eZ.2 (.inl (by omega))⟩
theorem Nc{S:ae}{P:aj}{M:ai}{t h:Int}{k:Nat}{a key val:Int}(E:ME S P M [] t h k){A B:List Int}(R:Dr (Wd S P k) (bC S k).er a (A++B) [])(hA:∀x∈A,Wd S P k x<key)(hB:∀x∈B,key<Wd S P k x)(hk:0<=key/\key<18446744073709551616)(hv:0<=val/\val<18446744073709551616)
  (hq:bD (bC S k).aN+1<=(S.dR.T.aZ k).gq)(hp:1<=bD P.eo.l):
  ∃S' P' x,eX 20000 S P M [] t h a key val=some (false,0,S',P',M,[],t,h,a)/\ME S' P' M [] t h k/\Dr (Wd S' P' k) (bC S' k).er a (A++x::B) []/\Wd S' P' k x=key/\Wd S' P' k (x+8)=val/\(∀y∈A++B,Wd S' P' k y=Wd S P k y/\Wd S' P' k (y+8)=Wd S P k (y+8))/\
   (S'.dR.T.aZ k).gq=(S.dR.T.aZ k).gq/\bD (bC S' k).aN<=bD (bC S k).aN+1/\bD P'.eo.l+bD (bC S' k).aN=bD P.eo.l+bD (bC S k).aN:=by
 rcases QL (key:=key) (val:=val) (n:=20000) (by omega) E R hA hB hk hv with⟨P',Q',f1,f2,f3,f4,f5,f6,f7,f8⟩|⟨S',P',Q',z,sp',f1,f2,f3,f4,f5,f6,f7,f8⟩
 ·have hpp:=f3.pg rfl
  rcases f8 with o|o
  ·omega
  ·obtain⟨v,hv⟩:=adX f2.cw.DY.Ox (by omega)
   exact absurd hv (o v)
 ·have hQ:=f3.q rfl
  subst hQ;have hpp:=f3.pg rfl;rcases f8 with⟨g,_⟩|⟨_,rfl,_,g4,_⟩
  ·simp at g
  ·obtain⟨F,hF⟩:=f3.st
   exact⟨S',P',z,f1,f2,f4,f5,f6,f7,by rw[hF,OV],g4,hpp⟩
theorem acO:lz 1=18397679294719823053:=by kernel_rfl
theorem Lh:rI 20000=some true:=by
 unfold rI;rw[ak (agp (p:=64) ⟨by omega,by omega⟩),ak (show rG 20000=some Um from rfl),Uy (x:=8) (by omega) (by omega),ak (RT (q:=8) ⟨by omega,by omega⟩),aU];obtain⟨S,P,e1,e2,e3,e4,e5,e6⟩:=Wg (p:=64) (q:=8) ⟨by omega,by omega⟩ ⟨by omega,by omega⟩;dsimp only;rw[ak e1,au (by rfl),au (by rfl)];dsimp only;have hL:(bC S 0).er=24:=by rw[e4,fL]
 have hR:bD (bC S 0).aN=1:=by rw[e4,fL];exact qW 0 1
 have hq:(S.dR.T.aZ 0).gq=8:=by rw[e4,OV];rfl
 have hf:bD P.eo.l=63:=by have:=Ez (l:=[⟨0,64⟩]) (m:=P.eo.l) (x:=[⟨0,1⟩]) (DG ⟨by omega,by omega,by omega⟩) e2.cw.DY.Ox (DG ⟨by omega,by omega,by omega⟩) (λp=>by rw[e5];simp only[eZ,jA,or_false];omega) (λp hp=>by rw[e5]at hp;simp only[eZ,jA,or_false];omega);simp only[qW]at this;omega
 obtain⟨S1,P1,x,f1,f2,f3,f4,f5,_,f7,f8,f9⟩:=Nc (key:=5) (val:=1) e2 (A:=[]) (B:=[]) (by rw[hL];exact e6) (by simp) (by simp) (by omega) (by omega) (by omega) (by omega);have f3:Dr (Wd S1 P1 0) (bC S1 0).er 0 [x] []:=f3;obtain⟨S2,P2,y,g1,g2,g3,g4,g5,g6,g7,g8,g9⟩:=Nc (key:=3) (val:=2) f2 (A:=[]) (B:=[x]) f3 (by simp) (λz hz=>by obtain rfl:=List.mem_singleton.1 hz;omega) (by omega) (by omega) (by omega) (by omega);have g3:Dr (Wd S2 P2 0) (bC S2 0).er 0 [y,x] []:=g3;obtain⟨g10,g11⟩:=g6 x (by simp);obtain⟨P3,h1,h2,_,h4,h5⟩:=sy (key:=5) (val:=4) (n:=20000) (by omega) g2 g3 (x:=x) (by simp) (by omega) (by omega);rw[ak f1];dsimp only;rw[ak g1];dsimp only;rw[ak h1,aR (by rfl)];dsimp only;have hyx:y≠x:=λe=>by rw[e]at g4;omega
 have hap:iK y x:=(List.pairwise_cons.1 h4.cr).1 x (by simp);unfold iK at hap;have hw:([⟨3,2⟩,⟨5,4⟩]:List aM)=[y,x].map (o7 (Wd S2 P3 0)):=by show _ =[(⟨_,_⟩:aM),⟨_,_⟩];rw[h5,kJ,cW _ _ (show y≠x+8 by omega),cW _ _ (show y+8≠x+8 by omega),cW _ _ (show x≠x+8 by omega),g4,g5,g10,f4]
 rw[ak (Vd (n:=20000) (by omega) h2 h4 (w:=⟨[⟨3,2⟩,⟨5,4⟩],0⟩) hw)];rw[kW (by rfl) (og 20000 1),acO];rfl
end Go.Proofs.Z
namespace Go.Proofs.Z
open Go Go.Bw Go.Rw
section
variable {n:Nat} {w:bj} {A B:List aM} {q:aM} {key val:Int}
theorem Ia{l r:List aM}{x:aM}:(l++x::r).getD l.length default=x:=NG
theorem Pk{l r:List aM}{j:Nat}(h:j<l.length):(l++r).getD j default∈l:=by rw[List.getD,List.getElem?_append_left h,akm h];exact List.getElem_mem h
theorem ZY{l r:List aM}{x y:aM}:(l++x::r).set l.length y=l++y::r:=by
 induction l with
 |nil=>rfl
 |cons z l ih=>rw[List.cons_append,List.length_cons,List.set_cons_succ,ih];rfl
theorem Qf(hn:100<=n)(hw:w.L=A++q::B)(hl:w.L.length<=64)(hA:∀y∈A,y.iZ≠key)(hq:q.iZ=key):iD n w key=some (A.length:Int):=by
 have hl':A.length+B.length+1<=64:=by rw[hw]at hl;simp at hl;omega
 unfold iD;refine wK (λ(i:Int)=>∃j:Nat,i=(j:Int)/\j<=A.length) (λi=>((A.length:Int)-i).toNat) (λo=>o=some (A.length:Int)) ?_ n 0 ⟨0,rfl,by omega⟩ (by omega);rintro kk i ⟨j,rfl,hj⟩ ih;have hlen:w.L.length=A.length+B.length+1:=by rw[hw];simp;omega
 rw[aR (by simp;omega),bf (eP (by omega) (by omega)),aki];by_cases h:j<A.length
 ·have h1:=hA _ (Pk (r:=q::B) h)
  rw[hw,au (by simpa using h1),bx (by omega) (by omega)];exact ih _ ⟨j+1,by omega,by omega⟩ (by omega)
 ·obtain rfl:j=A.length:=by omega
  rw[hw,Ia,aR (by simpa using hq)]
theorem Mv(hn:100<=n)(hl:w.L.length<=64)(hA:∀y∈w.L,y.iZ≠key):iD n w key=some (-1):=by
 unfold iD;refine wK (λ(i:Int)=>∃j:Nat,i=(j:Int)/\j<=w.L.length) (λi=>((w.L.length:Int)-i).toNat) (λo=>o=some (-1)) ?_ n 0 ⟨0,rfl,by omega⟩ (by omega);rintro kk i ⟨j,rfl,hj⟩ ih;by_cases h:j<w.L.length
 ·have h1:w.L.getD j default∈w.L:=by rw[List.getD,akm h];exact List.getElem_mem h
  rw[aR (by simpa using h),bf (eP (by omega) (by omega)),aki,au (by simpa using hA _ h1),bx (by omega) (by omega)];exact ih _ ⟨j+1,by omega,by omega⟩ (by omega)
 ·rw[au (by simpa using h)]
theorem Vm(hn:100<=n)(hw:w.L=A++q::B)(hl:w.L.length<=64)(hA:∀y∈A,y.iZ≠key)(hq:q.iZ=key):j0 n w key=some (q.uR,true):=by
 have hlen:w.L.length=A.length+B.length+1:=by rw[hw];simp;omega
 unfold j0;rw[ak (Qf hn hw hl hA hq),au (by simp),bf (eP (by omega) (by omega)),aki,hw,Ia]
theorem SI(hn:100<=n)(hl:w.L.length<=64)(hA:∀y∈w.L,y.iZ≠key):j0 n w key=some (0,false):=by unfold j0;rw[ak (Mv hn hl hA),aR (by rfl)]
theorem Vr(hn:100<=n)(hw:w.L=A++q::B)(hl:w.L.length<=64)(hA:∀y∈A,y.iZ≠key)(hq:q.iZ=key):j8 n w key=some (⟨A++B,w.mh⟩,true):=by
 have hlen:w.L.length=A.length+B.length+1:=by rw[hw];simp;omega
 unfold j8;have e1:w.L.take A.length=A:=by rw[hw,List.take_left]
 have e2:w.L.drop (A.length+1)=B:=by rw[hw, ← List.drop_drop,List.drop_left,List.drop_one,List.tail_cons]
 rw[ak (Qf hn hw hl hA hq),au (by simp),bf (eP (by omega) (by omega)),aki,bx (x:=(A.length:Int)+1) (by omega) (by omega),show Int.toNat ((A.length:Int)+1)=A.length+1 by omega,e1,e2,bf (jg (by omega) (by omega)),aU,bf (eP (by omega) (by omega)),bf (jg (by omega) (by omega)),aU,aU]
theorem SJ(hn:100<=n)(hl:w.L.length<=64)(hA:∀y∈w.L,y.iZ≠key):j8 n w key=some (w,false):=by unfold j8;rw[ak (Mv hn hl hA),aR (by rfl),aU]
theorem Vf(hn:100<=n)(hw:w.L=A++q::B)(hl:w.L.length<=64)(hA:∀y∈A,y.iZ≠key)(hq:q.iZ=key):jZ n w key val=some (⟨A++⟨key,val⟩::B,w.mh⟩,true):=by
 have hlen:w.L.length=A.length+B.length+1:=by rw[hw];simp;omega
 unfold jZ;rw[ak (Qf hn hw hl hA hq),bf (jg (by omega) (by omega)),aU,aR (by simp),bf (eP (by omega) (by omega)),aki,hw,Ia,ZY,aU,aU, ← hq]
theorem Ve(hn:100<=n)(hw:w.L=A++B)(hl:w.L.length<=64)(hA:∀y∈A,y.iZ<key)(hB:∀y∈B,key<y.iZ):jZ n w key val=some (⟨A++⟨key,val⟩::B,if w.mh<(w.L.length:Int)+1 then(w.L.length:Int)+1 else w.mh⟩,false):=by
 have hlen:w.L.length=A.length+B.length:=by rw[hw];simp
 have hno:∀y∈w.L,y.iZ≠key:=λy hy e=>by
  rw[hw]at hy;rcases List.mem_append.1 hy with h|h
  ·have:=hA y h;omega
  ·have:=hB y h;omega
 unfold jZ;rw[ak (Mv hn hl hno),bf (jg (by omega) (by omega)),aU,au (by rfl)];refine wK (λ(i:Int)=>∃j:Nat,i=(j:Int)/\j<=A.length) (λi=>((A.length:Int)-i).toNat) (λ(o:Option (bj×Bool))=>o=some (⟨A++⟨key,val⟩::B,if w.mh<(w.L.length:Int)+1 then(w.L.length:Int)+1 else w.mh⟩,false)) ?_ n 0 ⟨0,rfl,by omega⟩ (by omega);rintro kk i ⟨j,rfl,hj⟩ ih;have hg:(!(decide ((j:Int)<(w.L.length:Int))==true)||dH (j:Int) w.L.length)=true:=by
  by_cases h:j<w.L.length
  ·rw[eP (by omega) (by omega),Bool.or_true]
  ·have:decide ((j:Int)<(w.L.length:Int))=false:=by simpa using h
   rw[this];rfl
 rw[bf hg,aki];by_cases h:j<A.length
 ·have h1:=hA _ (Pk (r:=B) h)
  rw[← hw]at h1;rw[aR (by simp only[akg,decide_eq_true_eq];exact⟨by omega,h1⟩),bx (by omega) (by omega)];exact ih _ ⟨j+1,by omega,by omega⟩ (by omega)
 ·obtain rfl:j=A.length:=by omega
  have hstop:(decide (((A.length:Nat):Int)<(w.L.length:Int))&&decide ((w.L.getD A.length default).iZ<key))=false:=by
   cases B with
   |nil=>
    have:decide (((A.length:Nat):Int)<(w.L.length:Int))=false:=by simp at hlen;simp;omega
    rw[this];rfl
   |cons y r=>have:=hB y (by simp);rw[hw,Ia,Bool.and_eq_false_iff];right;simp;omega
  have e1:w.L.take A.length=A:=by rw[hw,List.take_left]
  have e2:w.L.drop A.length=B:=by rw[hw,List.drop_left]
  rw[au hstop,bf (eP (by omega) (by omega)),e1,e2,bf (jg (by omega) (by omega)),aU,bf (jg (by simp;omega) (by simp;omega)),aU,bf (eP (by omega) (by omega)),bf (jg (by simp;omega) (by simp;omega)),aU,aU];have e3:A++[(⟨key,val⟩:aM)]++B=A++⟨key,val⟩::B:=by simp
  have e4:((A++[(⟨key,val⟩:aM)]++B).length:Int)=(w.L.length:Int)+1:=by simp;omega
  rw[e4,e3]
def adC:List aM->aM×Bool
 |[]=>(gL,false)
 |y::_ =>(y,true)
theorem Vn(hn:100<=n)(hw:w.L=A++B)(hl:w.L.length<=64)(hA:∀y∈A,y.iZ<key)(hB:∀y∈B,key<=y.iZ):oe n w key=some (adC B):=by
 have hlen:w.L.length=A.length+B.length:=by rw[hw];simp
 unfold oe;refine tB (λ(i:Int) (_ :aM)=>∃j:Nat,i=(j:Int)/\j<=A.length) (λi _ =>((A.length:Int)-i).toNat) (λ(o:Option (aM×Bool))=>o=some (adC B)) ?_ n 0 _ ⟨0,rfl,by omega⟩ (by omega);rintro kk i z ⟨j,rfl,hj⟩ ih;by_cases h:j<A.length
 ·have h1:=hA _ (Pk (r:=B) h)
  rw[← hw]at h1;rw[aR (by simp;omega),bf (eP (by omega) (by omega)),aki,au (by simpa using h1),bx (by omega) (by omega)];exact ih _ _ ⟨j+1,by omega,by omega⟩ (by omega)
 ·obtain rfl:j=A.length:=by omega
  cases B with
  |nil=>rw[au (by simp at hlen;simp;omega),aU];rfl
  |cons y r=>have:=hB y (by simp);simp only[List.length_cons]at hlen;rw[aR (by simp;omega),bf (eP (by omega) (by omega)),aki,hw,Ia,aR (by simpa using this),bf (eP (by omega) (by rw[hw]at hlen;omega)),aU];rfl
end
theorem HT{m m':Int->Int}{ps:List Int}(h:∀y∈ps,m' y=m y/\m' (y+8)=m (y+8)):ps.map (o7 m')=ps.map (o7 m):=List.map_congr_left λy hy=>by obtain⟨h1,h2⟩:=h y hy;unfold o7;rw[h1,h2]
section
variable {n:Nat} {S:ae} {P:aj} {M:ai} {Q:List Int} {t h:Int} {k:Nat} {a:Int}
theorem aeg(hn:600<=n)(E:ME S P M Q t h k){ps sp:List Int}(R:Dr (Wd S P k) (bC S k).er a ps sp){w:bj}(hw:w.L=ps.map (o7 (Wd S P k)))(hN:w.mh=ps.length+sp.length){x:fD}(hK:0<=x.iZ/\x.iZ<=18446744073709551615)(hV:0<=x.uR/\x.uR<=18446744073709551615):
  ∃S' P' Q' w' ps' sp',xw n S P M Q t h a w x=some (w',true,S',P',M,Q',t,h,a)/\ME S' P' M Q' t h k/\Dr (Wd S' P' k) (bC S' k).er a ps' sp'/\w'.L=ps'.map (o7 (Wd S' P' k))/\w'.mh=ps'.length+sp'.length:=by
 have hm:=R.Gl;rw[List.length_append]at hm;have hl:w.L.length<=64:=by rw[hw,List.length_map];omega
 have bad:∀(d:Int),x.Do≠d->(x.Do==d)=false:=λd h=>by simpa using h
 have hmem:∀{m:Int->Int} {l:List Int} {y:aM},y∈l.map (o7 m)->∃z∈l,y.iZ=m z:=λhy=>by obtain⟨z,hz,rfl⟩:=List.mem_map.1 hy;exact⟨z,hz,rfl⟩
 have hex:(∃z∈ps,Wd S P k z=x.iZ)\/∀z∈ps,Wd S P k z≠x.iZ:=by
  rcases Decidable.em (∃z∈ps,Wd S P k z=x.iZ)with h|h
  ·exact .inl h
  ·exact .inr λz hz e=>h ⟨z,hz,e⟩
 have abU:(∀z∈ps,Wd S P k z≠x.iZ)->∀y∈w.L,y.iZ≠x.iZ:=λh y hy=>by rw[hw]at hy;obtain⟨z,hz,e⟩:=hmem hy;rw[e];exact h z hz
 unfold xw;by_cases d0:x.Do=0
 ·rw[aR (by simpa using d0)]
  rcases hex with⟨z,hz,hzk⟩|hno
  ·obtain⟨A,B,rfl,hA,hB⟩:=PY R.Ot hz
   rw[List.map_append,List.map_cons]at hw;obtain⟨P',f1,f2,f3,f4,f5⟩:=aek (n:=n) (by omega) E R hzk;rw[ak f1,ak (Vr (n:=n) (by omega) hw hl (λy hy=>by
    obtain⟨u,hu,e⟩:=hmem hy;have:=hA u hu;rw[e];omega) hzk),aU,aU]
   refine⟨S,P',Q,_,A++B,z::sp,rfl,f2,f4,?_,?_⟩
   ·show A.map (o7 (Wd S P k))++B.map (o7 (Wd S P k))=_
    rw[HT f5,List.map_append]
   ·show w.mh=_
    rw[hN];simp;omega
  ·rw[ak (aej (n:=n) (by omega) E R hno),ak (SJ (n:=n) (by omega) hl (abU hno)),aU,aU]
   exact⟨S,P,Q,w,ps,sp,rfl,E,R,hw,hN⟩
 rw[au (bad 0 d0)];by_cases d1:x.Do=1
 ·rw[aR (by simpa using d1)]
  obtain⟨g1,g2⟩:=ahs (key:=x.iZ) (n:=n) (by omega) E R;rcases hex with⟨z,hz,hzk⟩|hno
  ·rw[ak (g1 z hz hzk)]
   obtain⟨A,B,rfl,hA,hB⟩:=PY R.Ot hz;have hw':=hw;rw[List.map_append,List.map_cons]at hw';rw[ak (Vm (n:=n) (by omega) hw' hl (λy hy=>by
    obtain⟨u,hu,e⟩:=hmem hy;have:=hA u hu;rw[e];omega) hzk),aU]
   refine⟨S,P,Q,w,A++z::B,sp,?_,E,R,hw,hN⟩;simp[o7]
  ·rw[ak (g2 hno),ak (SI (n:=n) (by omega) hl (abU hno)),aU]
   exact⟨S,P,Q,w,ps,sp,rfl,E,R,hw,hN⟩
 rw[au (bad 1 d1)];by_cases d2:x.Do=2
 ·rw[aR (by simpa using d2)]
  obtain⟨A,B,rfl,hA,hB,f1⟩:=adW (key:=x.iZ) (n:=n) (by omega) E R;have hw':=hw;rw[List.map_append]at hw';rw[ak f1,aU,ak (Vn (n:=n) (by omega) hw' hl (λy hy=>by
   obtain⟨u,hu,e⟩:=hmem hy;rw[e];exact hA u hu) (λy hy=>by
   obtain⟨u,hu,e⟩:=hmem hy;rw[e];exact hB u hu)),aU,aU]
  refine⟨S,P,Q,w,A++B,sp,?_,E,R,hw,hN⟩;cases B with
  |nil=>rfl
  |cons y r=>simp[o7,EF,Te,adC]
 rw[au (bad 2 d2)];rcases hex with⟨z,hz,hzk⟩|hno
 ·obtain⟨P',f1,f2,f3,f4,f5⟩:=sy (key:=x.iZ) (val:=x.uR) (n:=n) (by omega) E R hz hzk (by omega)
  have hap:∀y∈ps,y=z\/iK y z:=λy hy=>BU (List.pairwise_append.1 R.cr).1 hy hz;have uU:∀y∈ps,y≠z->o7 (Wd S P' k) y=o7 (Wd S P k) y:=λy hy hne=>by
   rcases hap y hy with h|h
   ·exact absurd h hne
   ·unfold iK at h
    unfold o7;rw[f5,cW _ _ (by omega),cW _ _ (by omega)]
  obtain⟨A,B,rfl,hA,hB⟩:=PY R.Ot hz;have hw':=hw;rw[List.map_append,List.map_cons]at hw';rw[ak f1,ak (Vf (val:=x.uR) (n:=n) (by omega) hw' hl (λy hy=>by
   obtain⟨u,hu,e⟩:=hmem hy;have:=hA u hu;rw[e];omega) hzk),aU,au (by rfl),aU]
  refine⟨S,P',Q,_,A++z::B,sp,rfl,f2,f4,?_,hN⟩;have e1:A.map (o7 (Wd S P' k))=A.map (o7 (Wd S P k)):=List.map_congr_left λy hy=>uU y (by simp[hy]) λe=>by have:=hA y hy;rw[e]at this;omega
  have e2:B.map (o7 (Wd S P' k))=B.map (o7 (Wd S P k)):=List.map_congr_left λy hy=>uU y (by simp[hy]) λe=>by have:=hB y hy;rw[e]at this;omega
  have e3:o7 (Wd S P' k) z=⟨x.iZ,x.uR⟩:=by unfold o7;rw[f5,kJ,cW _ _ (by omega),hzk]
  rw[List.map_append,List.map_cons,e1,e2,e3]
 ·obtain⟨A,B,rfl,hA,hB⟩:=RH R.Ot hno
  have hw':=hw;rw[List.map_append]at hw';have hr:=Ve (val:=x.uR) (n:=n) (by omega) hw' hl (λy hy=>by
   obtain⟨u,hu,e⟩:=hmem hy;rw[e];exact hA u hu) (λy hy=>by
   obtain⟨u,hu,e⟩:=hmem hy;rw[e];exact hB u hu)
  have hwl:(w.L.length:Int)=((A++B).length:Int):=by rw[hw,List.length_map]
  rcases QL (key:=x.iZ) (val:=x.uR) (n:=n) (by omega) E R hA hB (by omega) (by omega)with⟨P',Q',f1,f2,f3,f4,f5,f6,f7⟩|⟨S',P',Q',z,sp',f1,f2,f3,f4,f5,f6,f7,f8⟩
  ·subst f4
   rw[ak f1,ak hr,aU,aR (by simp only[List.length_nil]at hN;simp;rw[akd (by omega)];omega),aU];refine⟨S,P',Q',w,A++B,[],rfl,f2,by rw[f6];exact R,by rw[f6];exact hw,hN⟩
  ·rw[ak f1,ak hr,aU,au (by rfl),aU]
   refine⟨S',P',Q',_,A++z::B,sp',rfl,f2,f4,?_,?_⟩
   ·have e1:A.map (o7 (Wd S' P' k))=A.map (o7 (Wd S P k)):=HT λy hy=>f7 y (by simp[hy])
    have e2:B.map (o7 (Wd S' P' k))=B.map (o7 (Wd S P k)):=HT λy hy=>f7 y (by simp[hy]);have e3:o7 (Wd S' P' k) z=⟨x.iZ,x.uR⟩:=by unfold o7;rw[f5,f6]
    rw[List.map_append,List.map_cons,e1,e2,e3]
   ·have hz:((A++z::B).length:Int)=((A++B).length:Int)+1:=by simp;omega
    dsimp only;rw[hz];rcases f8 with⟨g1,_⟩|⟨rfl,rfl,_⟩
    ·split<;>omega
    ·simp only[List.length_nil]at hN ⊢;split<;>omega
end
set_option maxRecDepth 100000 in
theorem Xx{a0:Int}(h0:0<=a0/\a0<=255){a1:List fD}(h1:∀x∈a1,(0<=x.Do/\x.Do<=255)/\(0<=x.iZ/\x.iZ<=18446744073709551615)/\(0<=x.uR/\x.uR<=18446744073709551615)){a2:Int}(h2:0<=a2/\a2<=18446744073709551615):sA 20000 a0 a1 a2=some true:=by
 unfold sA;have hgr:zE 20000 a1=some (decide (90<(a1.length:Int))):=rfl;by_cases hb:a0<1\/64<a0
 ·rw[n5 (by simp;omega),aR (by simp;omega),ak Lh]
 rw[kW (by simp;omega) hgr];by_cases hg:90<(a1.length:Int)
 ·rw[aR (by simp;omega),ak Lh]
 rw[au (by simp;omega),ak (agp (p:=64) ⟨by omega,by omega⟩),ak (show rG 20000=some Um from rfl),bx (x:=a0) (by omega) (by omega),Uy (x:=a0) (by omega) (by omega),ak (RT ⟨by omega,by omega⟩),aU];obtain⟨S,P,e1,e2,e3,e4,e5,e6⟩:=Wg (p:=64) (q:=a0) ⟨by omega,by omega⟩ ⟨by omega,by omega⟩;dsimp only;rw[ak e1,au (by rfl),au (by rfl)];dsimp only;have hL:(bC S 0).er=24:=by rw[e4,fL]
 refine KJ (λ(i:Int) (s:ae) (p:aj) (m:ai) (q:List Int) (t' h' a':Int) (w:bj)=>∃(j:Nat) (ps sp:List Int),i=(j:Int)/\j<=a1.length/\m=bG/\t'=0/\h'=1/\a'=0/\ME s p bG q 0 1 0/\Dr (Wd s p 0) (bC s 0).er 0 ps sp/\w.L=ps.map (o7 (Wd s p 0))/\w.mh=ps.length+sp.length) (λi _ _ _ _ _ _ _ _ =>((a1.length:Int)-i).toNat) (λo=>o=some true) ?_ 20000 0 _ _ _ _ _ _ _ _ ⟨0,[],[],rfl,by omega,rfl,rfl,rfl,rfl,e2,by rw[hL];exact e6,rfl,rfl⟩ (by omega);rintro kk i s p m q t' h' a' w ⟨j,ps,sp,rfl,hj,rfl,rfl,rfl,rfl,E,R,hw,hN⟩ ih;by_cases hc:j<a1.length
 ·have hx:=h1 (a1.getD j default) (by rw[List.getD,akm hc];exact List.getElem_mem hc)
  obtain⟨S',P',Q',w',ps',sp',f1,f2,f3,f4,f5⟩:=aeg (n:=20000) (by omega) E R hw hN hx.2.1 hx.2.2;rw[aR (by simpa using hc),bf (eP (by omega) (by omega)),aki,ak f1,aU,au (b:= !true) rfl];dsimp only;rw[ak (Vd (n:=20000) (by omega) f2 f3 f4),au (b:= !true) rfl,aU,bx (by omega) (by omega)];exact ih _ _ _ _ _ _ _ _ _ ⟨j+1,ps',sp',by omega,by omega,rfl,rfl,rfl,rfl,f2,f3,f4,f5⟩ (by omega)
 ·rw[au (by simpa using hc),ak (og 20000 a2),ak (HR 20000 (by omega)),kW (by simp) Lh]
  simp
end Go.Proofs.Z
namespace Go.Rw
open Go Go.Bw Go.RowKit
variable {G:Sg} {P:Program}
def Hsn(W w:World):Prop:=W.heap.size<=w.heap.size/\∀b,b<W.heap.size->w.heap[b]? =W.heap[b]?
theorem aau{g:IntKind×List (Int×Nat)}{mb:Nat}{W w:World}(h:GlX g mb W)(hs:Hsn W w):GlX g mb w:=by
 obtain⟨h1,l,⟨es,clock,h2,h3⟩,h4⟩:=h;have keep:∀{b:Nat} {o:Obj},W.heap[b]? =some o->w.heap[b]? =some o:=λ{b o} hb=>(hs.2 b (akl.1 hb).1).trans hb;refine⟨?_,l,⟨es,clock,keep h2,h3⟩,h4⟩;unfold World.cell? at h1 ⊢;cases e:W.heap[0]? with
 |none=>rw[e]at h1;cases h1
 |some o=>rw[e]at h1;rw[keep e];exact h1
theorem adV{α:Type}{W:World}{v:Value}{L:cZ α}[bq L]{xs:List α}(h:Fz (λw=>aQ [] W w) v L xs):Fz (Hsn W) v L xs:=
 ⟨h.sl,λw hw=>Ro.bS (h.ro {w with os:=W.os,tape:=W.tape,output:=W.output} ⟨rfl,rfl,rfl,hw.1,λk hk _ =>hw.2 k hk⟩) (Nat.le_refl _) λ_ _ =>rfl⟩
theorem N6{ct:Ct P G}{W:World}{x:HI G ct.s}{y:HL G (aL ct.s.cP)}{v:Value}{vs:List Value}(hz:ct.R x y)(hgl:∀g,G.gt=some g->∃mb,GlX g mb W)(hv:∀J:World->Prop,(∀w,J w->Hsn W w)->rl J (λ_ =>none) (ct.s.bl x).1 vs)(h0:(ct.s.bl x).2.1=[])(h1:(fQ (λm=>m) ct.s.cP y 0).2.1=[])
  (hro:ct.s.ro x=[])(hout:∀(J:World->Prop) (σ:bh) u us,rl J σ (fQ (λm=>m) ct.s.cP y 0).1 (u::us)->u=v):
  Calls P ct.s.k vs.toArray W λe W'=>e= .returned v/\aQ [] W W':=by
 have oo:∀b,b∈List.range W.heap.size↔b<W.heap.size:=λb=>List.mem_range;generalize List.range W.heap.size=bs at oo;have hR:∀w,Hs [.ext bs (Hsn W)] w->Hsn W w:=λw h=>(h _ List.mem_cons_self).1 w (Nat.le_refl _) λ_ _ =>rfl;have hS:∀w,aQ [] W w->Hs [.ext bs (Hsn W)] w:=λw h r hr=>by obtain rfl:=List.mem_singleton.1 hr;exact⟨λw' k1 k2=>⟨Nat.le_trans h.size k1,λb hb=>(k2 b ((oo b).2 hb)).trans (h.block b hb (by simp))⟩,λb hb=>Nat.lt_of_lt_of_le ((oo b).1 hb) h.size⟩
 have:=(zL (ct:=ct) (R:=[.ext bs (Hsn W)]) (nc:=[]) (ρ:=λ_ =>none) hz (λg hg=>by
  obtain⟨mb,h⟩:=hgl g hg;exact⟨mb,λw hw=>aau h (hR w hw)⟩) (λJ hJ=>hv J λw hw=>hR w (hJ w hw)) h0 h1 (λJ _ r o e=>by rw[hro]at e;cases e) (λ_ _ =>rfl) hout).calls W (λw hw=>hS w (by simpa[bF]using hw)) (bH.nil _ _ _)
 exact this.mono λe W' ⟨_,_,he,hs,_⟩=>⟨he,by simpa[bF]using hs⟩
end Go.Rw
namespace Go.Bw
open Go Go.RowKit
theorem Nr{α β:Type}{f:α->Option β}:∀{l:List α} {m:List β},l.mapM f=some m->(∀x∈l,∃y∈m,f x=some y)/\∀y∈m,∃x∈l,f x=some y
 |[],m,h=>by rw[List.mapM_nil]at h;cases h;exact⟨λx h=>(nomatch h),λx h=>(nomatch h)⟩
 |x::l,m,h=>by
  rw[List.mapM_cons]at h;cases hx:f x with
  |none=>rw[hx]at h;cases h
  |some y=>
   rw[hx]at h;cases hl:l.mapM f with
   |none=>rw[hl]at h;cases h
   |some m'=>
    rw[hl]at h;cases h;obtain⟨h1,h2⟩:=Nr hl;refine⟨λz hz=>?_,λz hz=>?_⟩
    ·rcases List.mem_cons.1 hz with rfl|hz
     ·exact⟨y,by simp,hx⟩
     ·obtain⟨w,hw,he⟩:=h1 z hz;exact⟨w,by simp[hw],he⟩
    ·rcases List.mem_cons.1 hz with rfl|hz
     ·exact⟨x,by simp,hx⟩
     ·obtain⟨w,hw,he⟩:=h2 z hz;exact⟨w,by simp[hw],he⟩
theorem Q6{H:Type}{x y:Lit×DataW H}:∀{l:List (Lit×DataW H)},y∈DataW.insert x l↔y=x\/y∈l
 |[]=>by simp[DataW.insert]
 |z::l=>by
  unfold DataW.insert;split
  ·simp
  ·rw[List.mem_cons,Q6,List.mem_cons]
   constructor
   ·rintro(h|h|h)
    ·exact .inr (.inl h)
    ·exact .inl h
    ·exact .inr (.inr h)
   ·rintro(h|h|h)
    ·exact .inr (.inl h)
    ·exact .inl h
    ·exact .inr (.inr h)
theorem M5{H:Type}{y:Lit×DataW H}:∀{l:List (Lit×DataW H)},y∈l.foldr DataW.insert []↔y∈l
 |[]=>Iff.rfl
 |x::l=>by rw[List.foldr_cons,Q6,M5,List.mem_cons]
theorem xu{β:Type}:∀{l:List (Int×β)} {k:Int},fX l k=none↔∀x∈l,x.1≠k
 |[],k=>⟨λ_ x h=>(nomatch h),λ_ =>rfl⟩
 |p::l,k=>by
  unfold fX;cases h:k==p.1 with
  |true=>
   have:k=p.1:=by simpa using h
   exact⟨λh=>by simp at h,λh2=>absurd this.symm (h2 p (by simp))⟩
  |false=>
   have hn:¬k=p.1:=by simpa using h
   simp only[cond_false,Option.map_eq_none_iff];rw[xu];exact⟨λh2 x hx=>by
    rcases List.mem_cons.1 hx with rfl|hx
    ·exactλe=>hn e.symm
    ·exact h2 x hx,λh2 x hx=>h2 x (by simp[hx])⟩
theorem BV{β:Type}:∀{l:List (Int×β)} {k:Int} {q:Nat×β},fX l k=some q->(k,q.2)∈l
 |[],k,q,h=>by cases h
 |p::l,k,q,h=>by
  unfold fX at h;cases e:k==p.1 with
  |true=>
   have:k=p.1:=by simpa using e
   rw[e]at h;simp only[cond_true,Option.some.injEq]at h;subst h;subst this;simp
  |false=>rw[e]at h;simp only[cond_false,Option.map_eq_some_iff]at h;obtain⟨a,ha,rfl⟩:=h;have:=BV ha;exact akp _ this
theorem Po{β:Type}{l l':List (Int×β)}(h:∀x,x∈l↔x∈l')(hf:∀x∈l',∀y∈l',x.1=y.1->x=y)(k:Int)(z:β):oH l k z=oH l' k z/\qn l k=qn l' k:=by
 unfold oH qn;cases e:fX l k with
 |none=>have:fX l' k=none:=xu.2 λx hx=>xu.1 e x ((h x).2 hx);rw[this];exact⟨rfl,rfl⟩
 |some q=>
  have m1:=BV e;cases e':fX l' k with
  |none=>exact absurd rfl (xu.1 e' _ ((h _).1 m1))
  |some q'=>have m2:=BV e';have:=hf _ ((h _).1 m1) _ m2 rfl;have:q.2=q'.2:=(Prod.mk.inj this).2;simp[this]
theorem UN{H:Type}{enc:TypeId×Value->H}{P:Program}{w:World}{base:Nat}{sp:Nat->Bool}{t k e:TypeId}(ht:P.underlying t=some (.map k e)){fuel:Nat}{cs:List Value}{S:List (Lit×DataW H)}{ps:List MemPlace}(h:DataW.trod enc P w base sp true fuel t cs=some (.map S,ps)):
  ∃b es clock n entries,cs=[.map (some b)]/\w.heap[b]? =some (.map es clock)/\es.all (·.born<clock)=true/\(es.toList.map (·.born)).eraseDups.length=es.size/\
   es.toList.mapM (λx=>(keyOf P k x.key).bind λkey=>if x.val.formed P e=true then(DataW.trod enc P w base sp true n e x.val.cells.toList).map λy=>((key,y.1),y.2)else none)=some entries/\(entries.map (·.1)).foldr DataW.insert []=S:=by
 cases fuel with
 |zero=>simp[DataW.trod]at h
 |succ n=>
  have h0:=h;rw[DataW.trod_step]at h;unfold DataW.trodStep at h;rw[ht]at h;split at h<;>try (simp_all;done)
  rename_i k' e' b hkk;have hke:k=k'/\e=e':=by simpa using hkk
  obtain⟨rfl,rfl⟩:=hke;clear h;rw[DataW.trod_step]at h0;unfold DataW.trodStep at h0;cases hb:w.heap[b]? with
  |none=>simp[ht,hb]at h0
  |some o=>
   cases o
   case map es clock=>
    simp only[ht,hb]at h0;split at h0
    ·rename_i hc
     obtain⟨_,_,WZ,uU⟩:=hc;simp only[Option.bind_eq_some_iff]at h0;obtain⟨entries,hm,h3⟩:=h0;split at h3
     ·simp only[Option.some.injEq,Prod.mk.injEq,DataW.map.injEq]at h3
      exact⟨b,es,clock,n,entries,rfl,hb,WZ,uU,hm,h3.1⟩
     ·cases h3
    ·cases h0
   all_goals (simp[ht,hb]at h0;done)
theorem Pr{P:Program}{w:World}{base:Nat}{sp:Nat->Bool}{t k e:TypeId}{kd:IntKind}{fs rs:Array TypeId}{va:Bool}(ht:P.underlying t=some (.map k e))(hk:P.underlying k=some (.int kd))(he:P.underlying e=some (.func fs rs va))
  {fuel:Nat}{cs:List Value}{ps:List MemPlace}(T:List (Int×FuncId))(nm:FuncId->UInt8×List UInt8)
  (h:DataW.trod (funcToken P) P w base sp true fuel t cs=some (.map (T.map λx=>(.int kd x.1, .held ((nm x.2).1::(nm x.2).2))),ps))
  (hone:∀x∈T,((List.range P.funcs.size).filter λf=>(P.funcs[f]?).any (·.name.toUTF8.data.toList==(nm x.2).1::(nm x.2).2))=[x.2]):
  ∃b l,cs=[.map (some b)]/\MpJ b kd (λv:Value=>v) l w/\∀x,x∈l↔x∈T.map λy=>(y.1,Value.func (.func y.2) #[] #[]):=by
 obtain⟨b,es,clock,n,entries,rfl,hb,WZ,uU,hm,hs⟩:=UN ht h;obtain⟨m1,m2⟩:=Nr hm;have hS:∀y,y∈entries.map (·.1)↔y∈T.map λx=>((Lit.int kd x.1:Lit),(DataW.held ((nm x.2).1::(nm x.2).2):DataW (List UInt8))):=λy=>by rw[← hs,M5]
 have key:∀x∈es.toList,∀y,(keyOf P k x.key).bind (λkey=>if x.val.formed P e=true then(DataW.trod (funcToken P) P w base sp true n e x.val.cells.toList).map λy=>((key,y.1),y.2)else none)=some y->∀t∈T,y.1=((Lit.int kd t.1:Lit),(DataW.held ((nm t.2).1::(nm t.2).2):DataW (List UInt8)))->x.key= .int kd t.1/\x.val= .func (.func t.2) #[] #[]:=by
  intro x hx y hy t' ht' hyt;simp only[Option.bind_eq_some_iff]at hy;obtain⟨lit,Py,h2⟩:=hy;split at h2
  ·rename_i hfm
   simp only[Option.map_eq_some_iff]at h2;obtain⟨z,hz,rfl⟩:=h2;obtain⟨e1,e2⟩:=Prod.mk.inj hyt;subst e1;refine⟨?_,?_⟩
   ·unfold keyOf at Py
    rw[hk]at Py;unfold mapKey at Py;rw[hk]at Py;cases Ua:x.key<;>rw[Ua]at Py<;>simp at Py;obtain⟨⟨rfl,_⟩,rfl⟩:=Py;rfl
   ·obtain⟨z1,z2⟩:=z
    dsimp only at e2;subst e2;have hv:x.val.cells.toList=[x.val]:=by cases hxv:x.val<;>first|rfl|(rw[hxv]at hfm;simp[Value.formed,he]at hfm)
    rw[hv]at hz;exact func_of_trod he (hone t' ht') hz
  ·cases h2
 let l:List (Int×Value):=es.toList.map λx=>(match x.key with| .int _ i=>i|_ =>0,x.val);have hx:∀x∈es.toList,∃t∈T,x.key= .int kd t.1/\x.val= .func (.func t.2) #[] #[]:=λx hx=>by obtain⟨y,hy,hxy⟩:=m1 x hx;have:=(hS y.1).1 (List.mem_map_of_mem hy);obtain⟨t',ht',e1⟩:=List.mem_map.1 this;exact⟨t',ht',key x hx y hxy t' ht' e1.symm⟩
 refine⟨b,l,rfl,⟨es,clock,hb,⟨?_,?_,?_⟩⟩,λ_=>?_⟩
 ·rw[List.map_map]
  refine List.map_congr_left λx hx'=>?_;obtain⟨t',_,e1,_⟩:=hx x hx';simp[e1]
 ·intro x hx'
  have:=Array.all_eq_true_iff_forall_mem.1 WZ x (by simpa using hx');simpa using this
 ·exact Go.ChangeMaps.nodup_of_eraseDups _ (by rw[uU];simp)
 ·constructor
  ·intro hp
   obtain⟨x,hx',rfl⟩:=List.mem_map.1 hp;obtain⟨t',ht',e1,e2⟩:=hx x hx';exact List.mem_map.2 ⟨t',ht',by simp[e1,e2]⟩
  ·intro hp
   obtain⟨t',ht',rfl⟩:=List.mem_map.1 hp;have:=(hS _).2 (List.mem_map_of_mem (f:=λx=>((Lit.int kd x.1:Lit),(DataW.held ((nm x.2).1::(nm x.2).2):DataW (List UInt8)))) ht');obtain⟨y,hy,e1⟩:=List.mem_map.1 this;obtain⟨x,hx',hxy⟩:=m2 y hy;obtain⟨e2,e3⟩:=key x hx' y hxy t' ht' e1;exact List.mem_map.2 ⟨x,hx',by simp[e2,e3]⟩
end Go.Bw
