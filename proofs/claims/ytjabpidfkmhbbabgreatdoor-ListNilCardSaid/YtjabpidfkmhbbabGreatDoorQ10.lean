/- Part 10 of what a proof leans on; pruned and shortened by a program out of longer texts. -/
import Derived.Test.YtjabpidfkmhbbabGreatDoorQ9
namespace Go.Rw
open Go Go.Bw Go.RowKit
variable {G:Sg} {P:Program} {N:Nat} {C:CC G} {Z:Type} {tb:uf P G} {rec:WT G Z} {cp:List Nat} {all:Array Oper} {r:List Oper} {K:Ex G->AS G->Option Z} {z:Z}
theorem Af(aY:mS P rec){o:Oper}{S:AS G}(hg:HE N all C S o)(h:RI tb rec N cp C all r o S K=some z):∃e S',K e S'=some z/\S.nx<=S'.nx/\US P N C (.ops all (o::r)) S S' e:=by
 obtain⟨d,op,ty,ps,af,g⟩:=o;unfold RI at h;dsimp only at h;split at h
 ·rename_i gs v hv
  obtain⟨h1,h2⟩:=YT h;exact b5 aY hg (WZ hv h1) (Nat.le_refl _) h2
 ·split at h
  ·cases h
  ·obtain⟨e,S1,h1,h2,h3⟩:=aY _ _ _ _ _ _ _ h
   rw[sZ]at h2;exact⟨e,S1,h1,h2,yX _ h3⟩
theorem UI{d:Option Tmp}{op:Op}{ty:TypeId}{ps:String}{af:Array Edge}{g:Option (Nat×Bool)}{T d1:Nat}{r r2:List Oper}(h:UJ ⟨d,op,ty,ps,af,g⟩ T r=some (d1,r2)):
  ∃t2 p2 f2,d=some d1/\g=none/\r=⟨none, .call ⟨.builtin .clear, #[.tmp d1], #[T]⟩,t2,p2,f2,none⟩::r2:=by
 unfold UJ at h;split at h
 ·rename_i a t t2 p2 f2 r3
  split at h
  ·rename_i e1 d2 T2 hd hg ha ht
   cases hb:(Nat.beq _ d2&&Nat.beq T T2)with
   |false=>rw[hb]at h;cases h
   |true=>
    rw[hb]at h;simp only[ab7]at hb;have eA:a= #[.tmp d2]:=by rw[← Array.toArray_toList (xs:=a),ha]
    have eT:t= #[T2]:=by rw[← Array.toArray_toList (xs:=t),ht]
    subst eA;subst eT;obtain rfl:=ab6 hb.1;obtain rfl:=ab6 hb.2;cases h;exact⟨_,_,_,hd,hg,rfl⟩
  ·cases h
 ·cases h
theorem LQ(aY:mS P rec){o:Oper}{S:AS G}(hg:HE N all C S o)(h:ZO tb rec N cp C all r o S K=some z):∃e S',K e S'=some z/\S.nx<=S'.nx/\US P N C (.ops all (o::r)) S S' e:=by
 obtain⟨d,op,ty,ps,af,g⟩:=o;unfold ZO at h;dsimp only at h;split at h
 ·split at h
  ·rename_i v hv
   exact b5 aY hg (S9 hv) (Nat.le_succ _) h
  ·cases h
 ·split at h
  ·rename_i v hv
   exact b5 aY hg (Mi hv) (Nat.le_succ _) h
  ·cases h
 ·split at h
  ·obtain⟨e,S1,h1,h2,h3⟩:=aY _ _ _ _ _ _ _ h
   rw[sZ]at h2;exact⟨e,S1,h1,h2,yX _ h3⟩
  ·split at h
   ·rename_i q p v hx hy
    split at h
    ·rename_i T' cc ho
     cases hb:su tb.tt _ v with
     |false=>rw[hb]at h;cases h
     |true=>rw[hb]at h;obtain⟨c',h1,h2⟩:=Ma h;exact b5 aY hg (Md hx hy ho h1 hb) (Nat.le_refl _) h2
    ·rename_i e sz t xs ho
     cases hb:(Np p sz&&su tb.tt _ v)with
     |false=>rw[hb]at h;cases h
     |true=>
      rw[hb]at h;simp only[ab7]at hb;simp only[cond_true]at h;split at h
      ·rename_i pl Z4
       split at h
       ·rename_i y' hu
        exact b5 aY hg (Mc hx hy ho hb.1 Z4 hu hb.2) (Nat.le_refl _) h
       ·cases h
      ·cases h
    ·cases h
   ·cases h
 ·split at h
  ·rename_i e sz _ ht
   split at h
   ·rename_i z hz
    split at h
    ·rename_i t _
     split at h
     ·rename_i xs hxs
      cases hc:((Nat.beq xs.length _ &&Nat.beq (t.L G).n sz)&&(Nat.blt 0 (_ *sz)&&Nat.ble (_ *sz) 16777216))with
      |false=>rw[hc]at h;cases h
      |true=>rw[hc]at h;simp only[ab7]at hc;obtain⟨⟨c1,c2⟩,c3,c4⟩:=hc;simp only[cond_true]at h;exact b5 aY hg (W3 ht hz hxs (ab6 c1) (ab6 c2) (by simpa[Nat.blt_eq]using c3) (Nat.le_of_ble_eq_true c4)) (Nat.le_succ _) h
     ·exact Af aY hg h
    ·cases h
   ·cases h
  ·cases h
 ·rename_i T s s'
  cases hs:Nat.beq s s' with
  |false=>rw[hs]at h;cases h
  |true=>
   rw[hs]at h;obtain rfl:=ab6 hs;simp only[cond_true]at h;split at h
   ·rename_i i _ e sz bt hx ht
    split at h
    ·rename_i k z0 hz
     cases hc:(Nat.beq sz 1&&Nat.blt 0 bt)with
     |false=>rw[hc]at h;cases h
     |true=>rw[hc]at h;simp only[ab7]at hc;obtain rfl:=ab6 hc.1;simp only[cond_true]at h;obtain⟨g1,h⟩:=mZ h;obtain⟨g2,h⟩:=mZ h;exact b5 aY hg (S5 ht hz hx g1 g2 (by simpa[Nat.blt_eq]using hc.2)) (Nat.le_succ _) h
    ·cases h
   ·cases h
 ·split at h
  ·rename_i t v hx
   exact⟨_,_,h,Nat.le_refl _,LW hg hx⟩
  ·cases h
 ·split at h
  ·rename_i k x y l hf ha
   cases hb:((lK x&&lK l)&&(lK y&&uy (iZ C)))with
   |false=>rw[hb]at h;cases h
   |true=>rw[hb]at h;simp only[ab7]at hb;obtain⟨e,S3,k1,k2,k3⟩:=aY _ _ _ _ _ _ _ h;exact⟨e,S3,k1,k2,LX hg hf ha hb.2.2 k3⟩
  ·cases h
 ·rename_i args DK
  split at h
  ·rename_i x y T T' hA hT
   have eA:args= #[x,y]:=by rw[← Array.toArray_toList (xs:=args),hA]
   have eT:DK= #[T,T']:=by rw[← Array.toArray_toList (xs:=DK),hT]
   subst eA;subst eT;cases hb:Nat.beq T T' with
   |false=>rw[hb]at h;cases h
   |true=>
    rw[hb]at h;obtain rfl:=ab6 hb;simp only[cond_true]at h;split at h
    ·rename_i q vy e sz bt hx hy ht
     split at h
     ·rename_i e' sz' t xs l ho hl
      cases hc:(Nat.beq e' e&&Nat.beq sz' sz)with
      |false=>rw[hc]at h;cases h
      |true=>
       rw[hc]at h;simp only[ab7]at hc;obtain rfl:=ab6 hc.1;obtain rfl:=ab6 hc.2;simp only[cond_true]at h;split at h
       ·rename_i ys hys
        obtain⟨g1,h⟩:=mZ h;exact b5 aY hg (Ta ht hx hy ho hl hys g1) (Nat.le_succ _) h
       ·cases h
     ·cases h
    ·rename_i vy e sz bt hx hy ht
     split at h
     ·rename_i l hl
      cases hc:Nat.beq (l.t.L G).n sz with
      |false=>rw[hc]at h;cases h
      |true=>rw[hc]at h;simp only[cond_true]at h;obtain⟨g1,h⟩:=mZ h;exact b5 aY hg (Pz ht hx hy hl (ab6 hc) g1) (Nat.le_succ _) h
     ·cases h
    ·cases h
  ·cases h
 ·rename_i args DK
  split at h
  ·rename_i x y T T' hA hT
   have eA:args= #[x,y]:=by rw[← Array.toArray_toList (xs:=args),hA]
   have eT:DK= #[T,T']:=by rw[← Array.toArray_toList (xs:=DK),hT]
   subst eA;subst eT;split at h
   ·rename_i q vy e sz bt hx hy ht
    split at h
    ·rename_i e' sz' k xs l ho hl
     cases hc:((Nat.beq e' e&&Nat.beq sz 1)&&Nat.beq sz' 1)with
     |false=>rw[hc]at h;cases h
     |true=>
      rw[hc]at h;simp only[ab7]at hc;obtain rfl:=ab6 hc.1.1;obtain rfl:=ab6 hc.1.2;obtain rfl:=ab6 hc.2;simp only[cond_true]at h;split at h
      ·rename_i ys hys
       exact b5 aY hg (Py ht hx hy ho hl hys) (Nat.le_refl _) h
      ·cases h
    ·cases h
   ·rename_i q p n i q' p' n' j e sz bt hx hy ht
    split at h
    ·rename_i T2 cc ho
     split at h
     ·rename_i m k f hl
      cases hc:((Nat.beq q q'&&Nat.beq n n')&&((Nat.beq m n&&Nat.beq sz 1)&&(Em p p'&&Tf [T,T'] T)))with
      |false=>rw[hc]at h;cases h
      |true=>rw[hc]at h;simp only[ab7]at hc;obtain rfl:=ab6 hc.1.1;obtain rfl:=ab6 hc.1.2;obtain rfl:=ab6 hc.2.1.1;obtain rfl:=ab6 hc.2.1.2;have hT:=hc.2.2.2;simp only[Tf,ab7]at hT;obtain rfl:=ab6 hT.2;simp only[cond_true]at h;obtain⟨c',h1,h2⟩:=Ma h;exact b5 aY hg (S7 ht hx hy hc.2.2.1 ho hl h1) (Nat.le_refl _) h2
     ·cases h
    ·cases h
   ·cases h
  ·cases h
 ·rename_i args DK
  split at h
  ·rename_i x T hA hT
   have eA:args= #[x]:=by rw[← Array.toArray_toList (xs:=args),hA]
   have eT:DK= #[T]:=by rw[← Array.toArray_toList (xs:=DK),hT]
   subst eA;subst eT;split at h
   ·rename_i q p n i e sz bt hx ht
    split at h
    ·rename_i T2 cc ho
     split at h
     ·rename_i m k f hl
      cases hc:((Nat.beq i.toNat n&&Nat.blt 0 n)&&((Nat.beq m n&&Nat.beq sz 1)&&zE P e k))with
      |false=>rw[hc]at h;cases h
      |true=>rw[hc]at h;simp only[ab7]at hc;obtain rfl:=ab6 hc.2.1.1;obtain rfl:=ab6 hc.2.1.2;simp only[cond_true]at h;obtain⟨c',h1,h2⟩:=Ma h;exact b5 aY hg (S8 ht hx hc.1.1 hc.1.2 ho hl hc.2.2 h1) (Nat.le_refl _) h2
     ·cases h
    ·cases h
   ·cases h
  ·cases h
 ·split at h
  ·exact b5 aY hg (HX _) (Nat.le_succ _) h
  ·cases h
 ·split at h
  ·rename_i q ky k _ v hx hy hz
   split at h
   ·rename_i ik ks vs ho
    cases hc:((DL ky ik&&G3 P _ ik)&&(Ev k ks&&lK vs))with
    |false=>rw[hc]at h;cases h
    |true=>rw[hc]at h;simp only[ab7]at hc;exact b5 aY hg (Kx hx hy hz ho hc.1.1 hc.1.2 hc.2.1 hc.2.2) (Nat.le_refl _) h
   ·cases h
  ·cases h
 ·split at h
  ·rename_i k fst cap l hf ha
   have h0:=RJ h;clear h;rcases h0 with⟨ct,x,g',EC,h⟩|⟨b,l',h⟩|h
   ·cases hb:((lK fst&&lK l)&&(lK cap&&Nat.beq ct.s.k k))with
    |false=>rw[hb]at h;cases h
    |true=>
     rw[hb]at h;simp only[ab7]at hb;obtain⟨⟨b1,b2⟩,b3,b4⟩:=hb;obtain rfl:=ab6 b4;have GJ:=QD EC;rcases ct.VY x _ _ z h with⟨y,hR,hy⟩|⟨y,hR,hy⟩
     ·split at hy
      ·rename_i v hd
       exact b5 aY hg (W2 hf ha b1 b2 EC hR hd) (Nat.le_trans GJ (Nat.le_add_right _ _)) hy
      ·cases hy
     ·split at hy
      ·rename_i v hd
       exact⟨_,_,hy,Nat.le_trans GJ (Nat.le_add_right _ _),SS hg hf ha b1 b2 EC hR hd⟩
      ·cases hy
   ·obtain⟨e,S1,h1,h2,h3⟩:=aY _ _ _ _ _ _ _ h
    have h2:=Nat.le_trans (Gi l' _) h2;rw[sZ]at h2;exact⟨e,S1,h1,h2,yX b (Gb l' h3)⟩
   split at h
   ·rename_i fi D1
    cases hb:((lK fst&&lK l)&&(lK cap&&Nat.ble (vB (j0 fst (j0 l cap))) fi.N))with
    |false=>rw[hb]at h;cases h
    |true=>
     rw[hb]at h;simp only[ab7]at hb;obtain⟨⟨b1,b2⟩,b3,b4⟩:=hb;have b4:=Nat.le_of_ble_eq_true b4;obtain⟨e,S1,h1,h2,h3⟩:=aY _ _ _ _ _ _ _ h;have h2:S.nx<=S1.nx:=h2;split at h1
     ·rename_i v O2 hX
      exact⟨_,_,h1,h2,L2 (tt:=tb.tt) hg hf ha D1 b1 b2 b3 b4 h3 hX⟩
     ·rename_i O2 hX
      split at h1
      ·rename_i v hres
       exact b5 aY hg (Jl hf ha D1 b1 b2 b3 b4 h3 hX (.inl rfl) hres) h2 h1
      ·cases h1
     ·rename_i O2 hX
      split at h1
      ·rename_i v hres
       exact b5 aY hg (Jl hf ha D1 b1 b2 b3 b4 h3 hX (.inr rfl) hres) h2 h1
      ·cases h1
     ·cases h1
   ·cases h
  ·rename_i q l hf ha
   split at h
   ·rename_i N2 ks vs ps a b hq
    cases hb:uy (iZ C)with
    |false=>rw[hb]at h;cases h
    |true=>
     rw[hb]at h;simp only[cond_true]at h;obtain⟨S2,hbi,h⟩:=J5 h;obtain⟨e1,S3,h1,h2,h3⟩:=aY _ _ _ _ _ _ _ h;cases e1 with
     |fZ=>
      obtain⟨e2,S4,k1,k2,k3⟩:=aY _ _ _ _ _ _ _ h1;cases e2 with
      |fZ=>
       split at k1
       ·rename_i hD
        have hn:=Dm hbi;have hn:S2.nx=S.nx:=hn;exact b5 aY hg (Mb hf ha hq hb hbi h3 h2 k3 k2 hD) (by show S.nx<=S4.nx;omega) k1
       ·cases k1
      |_ =>cases k1
     |_ =>cases h1
   ·cases h
  ·cases h
 ·split at h
  ·rename_i g0 hgt
   cases hb:oy P _ with
   |false=>rw[hb]at h;cases h
   |true=>rw[hb]at h;exact b5 aY hg (Mg hgt hb) (Nat.le_succ _) h
  ·cases h
 ·split at h
  ·rename_i q ik k kb hx hy
   split at h
   ·rename_i ho
    split at h
    ·rename_i g0 hgt
     cases hb:(Nat.beq (Ty.bz.ik ik) (Ty.bz.ik g0.1)&&Bo P _ g0.1)with
     |false=>rw[hb]at h;cases h
     |true=>rw[hb]at h;simp only[ab7]at hb;exact b5 aY hg (Kw hgt hx ho hy hb.1 hb.2) (Nat.le_refl _) (XF h)
    ·cases h
   ·rename_i qk ks vs ho
    cases hb:(DL ik qk&&Bo P _ qk)with
    |false=>rw[hb]at h;cases h
    |true=>rw[hb]at h;simp only[ab7]at hb;obtain⟨t,t1,t2⟩:=XG h;exact b5 aY hg (Mf hx hy ho hb.1 hb.2 t2) (Nat.le_refl _) t1
   ·cases h
  ·cases h
 ·split at h
  ·rename_i q k i qq e sz bt hx hh ht _
   split at h
   ·rename_i e' sz' t xs ho
    cases hc:(Nat.beq e' e&&Nat.beq sz' sz)with
    |false=>rw[hc]at h;cases h
    |true=>rw[hc]at h;simp only[ab7]at hc;obtain rfl:=ab6 hc.1;obtain rfl:=ab6 hc.2;simp only[cond_true]at h;obtain⟨g1,h⟩:=mZ h;exact b5 aY hg (S6 ht hx ho hh g1) (Nat.le_succ _) h
   ·cases h
  ·rename_i q p k i qq hx hh _
   split at h
   ·rename_i T2 cc n e0 sz ho hT
    split at h
    ·rename_i m e f hl
     cases hc:Nat.beq m n with
     |false=>rw[hc]at h;cases h
     |true=>rw[hc]at h;obtain rfl:=ab6 hc;simp only[cond_true]at h;obtain⟨g1,h⟩:=mZ h;exact b5 aY hg (Me hT hx hh ho hl g1) (Nat.le_refl _) h
    ·cases h
   ·cases h
  ·exact Af aY hg h
 ·split at h
  ·rename_i q k i qq e sz bt hc hx hh ht
   split at h
   ·rename_i e' sz' t xs ho _
    cases hc:(Nat.beq e' e&&Nat.beq sz' sz)with
    |false=>rw[hc]at h;cases h
    |true=>rw[hc]at h;simp only[ab7]at hc;obtain rfl:=ab6 hc.1;obtain rfl:=ab6 hc.2;simp only[cond_true]at h;obtain⟨g1,h⟩:=mZ h;exact b5 aY hg (Mh ht hx ho hh g1) (Nat.le_succ _) h
   ·exact Af aY hg h
  ·rename_i d1 r2 q k0 i qq e sz bt hc hx hl ht
   split at h
   ·rename_i e' sz' k xs S1 ho hp
    cases hb:((Nat.beq e' e&&Nat.beq sz 1)&&(Nat.beq sz' 1&&zE P e k))with
    |false=>rw[hb]at h;cases h
    |true=>rw[hb]at h;simp only[ab7]at hb;obtain rfl:=ab6 hb.1.1;obtain rfl:=ab6 hb.1.2;obtain rfl:=ab6 hb.2.1;simp only[cond_true]at h;obtain⟨g1,h⟩:=mZ h;obtain⟨e1,S3,h1,h2,h3⟩:=aY _ _ _ _ _ _ _ h;have GJ:=kr hp;refine⟨e1,S3,h1,(by rw[← GJ];exact h2),?_⟩;obtain⟨t2,p2,f2,rfl,rfl,rfl⟩:=UI hc;exact L1 ht hb.2.2 hx ho hl g1 hp h3
   ·exact Af aY hg h
  ·exact Af aY hg h
 ·exact Af aY hg h
theorem UG(aY:mS P rec){o:Oper}{S:AS G}{j dj:Nat}{w:Bool}{no:Option Z}{gx:Option Bool}{cx:Option (Nat×AV G)}(Fw:o.guard=some (j,w))(hd:Dd all j=some dj)(he:IF C S 8 dj w=gx)(hc:G8 C S (chain C S 8 dj w) o.op=cx)
  (hno:no=some z->∃e S',K e S'=some z/\S.nx<=S'.nx/\US P N C (.ops all (o::r)) S S' e)(h:ctT tb rec N cp C all r o S K dj w no gx cx=some z):∃e S',K e S'=some z/\S.nx<=S'.nx/\US P N C (.ops all (o::r)) S S' e:=by
 unfold ctT at h;split at h
 ·rename_i g k ab3
  have h0:=RJ h;clear h;rcases h0 with⟨ct,x,g',EC,h⟩|⟨b,l',h⟩|h
  ·cases hb:Nat.beq ct.s.k k with
   |false=>rw[hb]at h;cases h
   |true=>
    rw[hb]at h;have hk:=ab6 hb;simp only[cond_true]at h;unfold ctG at h;split at h
    ·rename_i hnm
     cases hn:(B8 true ct.s.rA&&B8 false ct.s.bL)with
     |false=>rw[hn]at h;exact hno h
     |true=>
      rw[hn]at h;simp only[ab7]at hn;obtain⟨y,hR,hy⟩:=ct.Zf g x _ z h;split at hy
      ·rename_i v hv
       split at hy
       ·rename_i S2 hp
        obtain⟨e,S3,k1,k2,k3⟩:=aY _ _ _ _ _ _ _ hy;have:=kr hp;exact⟨e,S3,k1,by omega,SU Fw hd he hc hk EC hnm hn.1 hn.2 hR hv hp k3⟩
       ·cases hy
      ·cases hy
    ·exact hno h
  ·obtain⟨e,S1,h1,h2,h3⟩:=aY _ _ _ _ _ _ _ h
   have h2:=Nat.le_trans (Gi l' _) h2;rw[sZ]at h2;exact⟨e,S1,h1,h2,yX b (Gb l' h3)⟩
  ·exact hno h
 ·exact hno h
theorem Ji{x:Operand}{a b:Code}{t:Bool}{S S1:AS G}{e:Ex G}(hx:dX C S [] x=some (.bool t))(h:US P N C (.code (bif t then a else b)) S S1 e):US P N C (.code (.cond x a b)) S S1 e:=by
 intro c ρ J HK X ac w Q hr hq;have ex:=wz ((bQ hr (ch:=[]) (by simp)).ok _ _ hx);cases t with
 |true=>exact wpIn_cond_true ex (h c ρ J HK X ac w Q hr hq)
 |false=>exact wpIn_cond_false ex (h c ρ J HK X ac w Q hr hq)
theorem LZ{x:Operand}{a b:Code}{t:Bool}{S S1:AS G}{e:Ex G}(hx:dX C S [] x=some (.kb t))(h:US P N C (.code (bif t then a else b)) S S1 e):US P N C (.code (.cond x a b)) S S1 e:=by
 intro c ρ J HK X ac w Q hr hq;have ex:=Ep ((bQ hr (ch:=[]) (by simp)).ok _ _ hx);cases t with
 |true=>exact wpIn_cond_true ex (h c ρ J HK X ac w Q hr hq)
 |false=>exact wpIn_cond_false ex (h c ρ J HK X ac w Q hr hq)
theorem Kq{i:Nat}{ops:Array Oper}{S S1:AS G}{e:Ex G}(h:US P N C (.ops ops ops.toList) S S1 e):US P N C (.code (.region i ops false)) S S1 e:=by intro c ρ J HK X a w Q hr hq;exact wpIn_region_list (h c ρ J HK X a w Q hr hq)
theorem EY{cf:Cf}{S S1:AS G}{e:Ex G}(p q:Nat->Bool)(h:US P N (⟨gj (λd=> !p d) S.F,bJ (λr=> !q r) S.O,S.D⟩::C) cf ⟨gj p S.F,bJ q S.O,S.nx,[]⟩ S1 e):US P N C cf S (F4 ⟨gj (λd=> !p d) S.F,bJ (λr=> !q r) S.O,S.D⟩ S1) e:=by intro c ρ J HK X a w Q hr hq;obtain⟨H2,p1,p2⟩:=hr.push p q;refine h c ρ J (H2++HK) X a w Q p2 λρ' J' Y a' w' me k1 k2 k3 k4=>?_;have hle:=k1.le hr.fr;exact hq ρ' J' Y a' w' me k1 k2 k3 (k4.F4 (p1.up k2 hle) (hr.Hw k2 hle) hr.si.n)
theorem Pr{x y:Code}{S S1 S2:AS G}{ly:Ly G}{g:Hv}{p q:Nat->Bool}{e:HL G (aD (oW g.l))}{e2:Ex G}(hly:ly=⟨gj (λd=> !p d) S.F,bJ (λr=> !q r) S.O,S.D⟩)(hl:uI S.nx (ly::C)=true)
  (h1:US P N (ly::C) (.code x) ⟨gj p S.F,bJ q S.O,S.nx,[]⟩ S1 .fZ)(hg:C0 (ly::C) (ji (ly::C) S1 g.l) g S.nx=some e)(h2:US P N C (.code y) (F4 ly (DX g S.nx e)) S2 e2):US P N C (.code (.seq x y)) S S2 e2:=by
 subst hly;intro c ρ J HK X a w Q hr hq;obtain⟨H2,p1,p2⟩:=hr.push p q;refine wpIn_seq (h1 c ρ J (H2++HK) X a w _ p2 λρ' J' Y a' w' me k1 k2 k3 k4=>?_);rw[fV k3];obtain⟨J2,Y2,j1,k5⟩:=k4.ji g.l;obtain⟨ρ2,m1,m2⟩:=P7 k5 hg hl;have hto:ρ.to ρ2 S.nx:=λr hr'=>(m1 r hr').trans (k1 r hr');have hle:=hto.le hr.fr;have k2':∀w,J2 w->J w:=λw h=>k2 w (j1 w h);rw[← List.append_assoc]at m2;refine h2 c ρ2 J2 HK ((Y2++Y)++X) a' w' Q (m2.F4 (p1.up k2' hle) (hr.Hw k2' hle) hr.si.n) (hq.fb hto k2' ?_);show S.nx<=S.nx+_;omega
def Zw(P:Program)(N:Nat)(C:CC G)(base:Nat)(x:Code)(S S':AS G)(e:Ex G):Prop:=∀(c:Cx) (ρ:aP) (J:World->Prop) (HK X:List ay) (a:Act) (w:World) (Q:Exit->Act->World->Prop),Rl c N ρ J HK X C S a w->Ry c N C ρ J HK X base S' e Q->V5 P c x Q a w
theorem LU{x:Code}{g:Hv}{base:Nat}{e e':HL G (aD (oW g.l))}{S1 S2:AS G}{e2:Ex G}(hl:uI base C=true)(h1:US P N C (.code x) (DX g base e) S1 .fZ)(hg:C0 C (ji C S1 g.l) g base=some e')(h2:Zw P N C base x (DX g base e') S2 e2):Zw P N C base x (DX g base e) S2 e2:=by intro c ρ J HK X a w Q hr hq;refine zm (h1 c ρ J HK X a w _ hr λρ' J' Y a' w' me k1 k2 k3 k4=>?_);rw[fV k3];obtain⟨J2,Y2,j1,k5⟩:=k4.ji g.l;obtain⟨ρ2,m1,m2⟩:=P7 k5 hg hl;have Hx:ρ.to ρ' base:=λr hr'=>k1 r (by show r<base+_;omega);rw[← List.append_assoc]at m2;exact h2 c ρ2 J2 HK ((Y2++Y)++X) a' w' Q m2 (hq.fb (λr hr'=>(m1 r hr').trans (Hx r hr')) (λw h=>k2 w (j1 w h)) (Nat.le_refl _))
theorem Cy{x:Code}{g:Hv}{base:Nat}{e:HL G (aD (oW g.l))}{S1:AS G}{e1:Ex G}(h1:US P N C (.code x) (DX g base e) S1 e1)(he:e1≠ .fZ):Zw P N C base x (DX g base e) S1 e1:=by intro c ρ J HK X a w Q hr hq;refine zm (h1 c ρ J HK X a w _ hr λρ' J' Y a' w' me k1 k2 k3 k4=>?_);exact jB (jY he k3) (hq ρ' J' Y a' w' me (λr hr'=>k1 r (by show r<base+_;omega)) k2 k3 k4)
theorem Pq{x:Code}{S S1:AS G}{g:Hv}{v:AV G}{x0:HL G (aD (oW g.l))}{g':GS G}{p:Nat->Bool}{ly:Ly G}{e:Ex G}(hv:Ag C S g.l=some v)(EC:jV (oW g.l) v ⟨[],S.O,S.nx⟩=some (x0,g'))(b1:sU g.nm g'.th=true)(b2:sV S.nx g.nm=true)
  (hly:ly=⟨gj p S.F,g'.O,S.D⟩)(hl:uI S.nx (ly::C)=true)(h:Zw P N (ly::C) S.nx x (DX g S.nx x0) S1 e):US P N C (.code (.loop x)) S (F4 ly S1) e:=by
 intro c ρ J HK X a w Q hr hq;refine CL ?_;have Qs:uI S.nx C=true:=by simp only[uI,ab7]at hl;exact hl.2.2.2
 obtain⟨ρ',ρ2,HB,H',hto,ht2,CZ,hleft,hC,hp,hF,YJ,hfr⟩:=Jz hr hv EC b1 b2 (Nat.le_refl _) Qs;have hag:∀r,r<S.nx->ρ' r=ρ2 r:=λr hr'=>(hto r hr').trans (ht2 r hr').symm;subst hly;have hl':=hl;simp only[uI,ab7]at hl';have hleft:=hleft.di hag hl'.2.1;have hr':Rl c N ρ' J (H'++HK) X (⟨gj p S.F,g'.O,S.D⟩::C) (DX g S.nx x0) a w:=by
  refine⟨hr.tm,?_,⟨hr.si.s,λq=>hr.si.n (zf q)⟩,hF,λy hy=>?_,λr o e=>?_,⟨HB,CZ,by simpa using hp⟩,hr.kn,hfr⟩
  ·exact hr.df.di hto (Fm hl'.2.2.1 (Bb Qs).2)
  ·rcases List.mem_cons.1 hy with rfl|hy
   ·exact(hr.fs.O8).di hto hl'.1
   ·exact YJ y hy
  ·have e:bP (g'.O++iZ C) r=some o:=e
   rw[g8]at e;split at e
   ·rename_i v' GI
    cases e;obtain⟨x,h1,h2⟩:=hleft.lk GI;exact⟨x,ace _ h1,h2⟩
   ·obtain⟨x,h1,h2⟩:=hC r o e
    exact⟨x,acd _ h1,h2⟩
 refine h c ρ' J (H'++HK) X a w Q hr' λρ3 J3 Y a' w' me k1 k2 k3 k4=>?_;have Hx:ρ.to ρ3 S.nx:=λr q=>(k1 r q).trans (hto r q);refine hq ρ3 J3 Y a' w' me Hx k2 k3 (k4.F4 ((hleft.di k1 hl'.2.1).up k2 (aP.le_refl _)) (hr.Hw k2 (Hx.le hr.fr)) hr.si.n)
theorem Qb(aY:mS P rec){x:Code}{g:Hv}{base:Nat}{ly:Ly G}(hl:uI base (ly::C)=true){vw:Option (Vw G (aD (oW g.l)))}:∀(n:Nat) (e:HL G (aD (oW g.l))),R1 vw (λgo e=>rec N cp (ly::C) (.code x) (DX g base e) λe1 S1=>match e1 with
   | .fZ=>match C0 (ly::C) (ji (ly::C) S1 g.l) g base with
    |some e=>go e
    |none=>none
   |e1=>K e1 (F4 ly S1)) n e=some z->
  ∃e1 S1,K e1 (F4 ly S1)=some z/\base<=S1.nx/\Zw P N (ly::C) base x (DX g base e) S1 e1:=by
 intro n
 induction n with
 |zero=>intro e h;obtain⟨m,h1,_⟩:=JA h;cases h1
 |succ n ih=>
  intro e h;obtain⟨m,h1,h2⟩:=JA h;cases h1;obtain⟨e1,S1,k1,k2,k3⟩:=aY _ _ _ _ _ _ _ h2;have k2:base<=S1.nx:=Nat.le_trans (Nat.le_add_right _ _) k2;cases e1 with
  |fZ=>
   dsimp only at k1;split at k1
   ·rename_i e' hg
    obtain⟨e2,S2,m1,m2,m3⟩:=ih e' k1;exact⟨e2,S2,m1,m2,LU hl k3 hg m3⟩
   ·cases k1
  |exit i=>exact⟨_,S1,k1,k2,Cy k3 (by simp)⟩
  |ret=>exact⟨_,S1,k1,k2,Cy k3 (by simp)⟩
  |sC v=>exact⟨_,S1,k1,k2,Cy k3 (by simp)⟩
theorem Te(aY:mS P rec){x y:Code}{S:AS G}(h:(rec N cp C (.code x) S λe S'=>match e with
    | .fZ=>rec N cp C (.code y) S' K
    |e=>K e S')=some z):∃e S',K e S'=some z/\S.nx<=S'.nx/\US P N C (.code (.seq x y)) S S' e:=by
 obtain⟨e1,S1,k1,k2,k3⟩:=aY _ _ _ _ _ _ _ h;cases e1 with
 |fZ=>obtain⟨e2,S2,m1,m2,m3⟩:=aY _ _ _ _ _ _ _ k1;exact⟨e2,S2,m1,Nat.le_trans k2 m2,SQ k3 m3 k2⟩
 |exit i=>exact⟨_,S1,k1,k2,ld k3 (by simp)⟩
 |ret=>exact⟨_,S1,k1,k2,ld k3 (by simp)⟩
 |sC v=>exact⟨_,S1,k1,k2,ld k3 (by simp)⟩
theorem PY{x:Code}{S:AS G}{g:Hv}{r:Option Z}(h:r=some z->∃e S',K e S'=some z/\(ji C S g.l).nx<=S'.nx/\US P N C (.code x) (ji C S g.l) S' e)(hr:r=some z):∃e S',K e S'=some z/\S.nx<=S'.nx/\US P N C (.code x) S S' e:=by obtain⟨e,S',h1,h2,h3⟩:=h hr;rw[y6]at h2;exact⟨e,S',h1,h2,Pp _ h3⟩
theorem Ti(aY:mS P rec){ps:List Nat}{a b:Code}{S1:AS G}{g:Hv}{it:It P G}{O:Os G}:∀(l:List it.B) (e:HL G (aD (oW g.l))),rgW rec N cp C ps a b S1 K g it l O e=some z->
  ∃e1 Sf,K e1 (KG S1.nx S1 O Sf)=some z/\S1.nx<=Sf.nx/\Vk P N (M0 ps a b C S1 O) ps a b g (S1.nx+2) it l e e1 Sf:=by
 intro l
 induction l with
 |nil=>intro e h;exact⟨_,_,Ql h,by show S1.nx<=S1.nx+2+_;omega, .nil⟩
 |cons y l ih=>
  intro e h;have h:=M7 h;obtain⟨S2,hb,h⟩:=J5 h;obtain⟨e1,S3,k1,k2,k3⟩:=aY _ _ _ _ _ _ _ h;have hS2:S1.nx<=S2.nx:=by rw[Dm hb];show S1.nx<=S1.nx+2+_;omega
  cases e1 with
  |fZ=>
   obtain⟨e2,S4,m1,m2,m3⟩:=aY _ _ _ _ _ _ _ k1;cases e2 with
   |fZ=>
    dsimp only at m1;split at m1
    ·rename_i e' hg
     obtain⟨e3,Sf,n1,n2,n3⟩:=ih e' m1;exact⟨e3,Sf,n1,n2, .fb hb k3 k2 m3 hg n3⟩
    ·cases m1
   |ret=>
    dsimp only at m1;cases hD:MX S4.D with
    |false=>rw[hD]at m1;cases m1
    |true=>rw[hD]at m1;exact⟨_,S4,m1,by omega, .stop hb k3 k2 m3 (.inl rfl) (MW hD)⟩
   |exit i=>
    dsimp only at m1;cases hD:MX S4.D with
    |false=>rw[hD]at m1;cases m1
    |true=>rw[hD]at m1;exact⟨_,S4,m1,by omega, .stop hb k3 k2 m3 (.inr ⟨i,rfl⟩) (MW hD)⟩
   |sC v=>cases m1
  |_ =>cases k1
theorem Tj(aY:mS P rec){ps:Array Nat}{a b:Code}{k:Nat}{cap:AV G}{gl:List (Lo×Sh)}{S:AS G}{Lw:Operand}(Fw:dX C S [] Lw=some (.fn (.func k) .nil cap)):∀{l:List (It P G)},ZP rec N cp C ps.toList a b k cap gl S K l=some z->
  ∃e S',K e S'=some z/\S.nx<=S'.nx/\US P N C (.code (.rangeFunc Lw ps a b)) S S' e:=by
 intro l
 induction l with
 |nil=>intro h;cases h
 |cons it q ih=>
  intro h;unfold ZP at h;split at h
  ·exact ih h
  ·rename_i x g1 EC
   split at h
   ·rename_i g hg
    dsimp only at h;split at h
    ·rename_i v hv
     split at h
     ·rename_i x0 g2 Uc
      revert h;generalize hcc:(((Nat.beq it.k k&&Nat.beq it.n ps.toList.length&&uy (iZ C))&&(sU g.nm g2.th&&sV ((ji C ⟨S.F,g1.O,g1.nx,S.D⟩ g.l).nx+2) g.nm&&uI ((ji C ⟨S.F,g1.O,g1.nx,S.D⟩ g.l).nx+2) (M0 ps.toList a b C (ji C ⟨S.F,g1.O,g1.nx,S.D⟩ g.l) g2.O)))&&((qB ((ji C ⟨S.F,g1.O,g1.nx,S.D⟩ g.l).nx+2) g2.O&&VM N ps.toList)&&(uI ((ji C ⟨S.F,g1.O,g1.nx,S.D⟩ g.l).nx+2) C&&Fg (g2.O++iZ C))))=cc;intro h;cases cc with
      |false=>cases h
      |true=>simp only[ab7]at hcc;obtain⟨⟨⟨⟨c1,c2⟩,c3⟩,⟨c4,c5⟩,c6⟩,⟨c7,c8⟩,c9,c10⟩:=hcc;obtain rfl:=ab6 c1;obtain⟨l,hf,h⟩:=o8 h;obtain⟨e1,Sf,k1,k2,k3⟩:=Ti aY l x0 h;refine⟨e1,_,k1,?_,LV Fw EC rfl hv Uc c4 c5 (by simpa using ab6 c2) c3 c6 c7 c9 c8 c10 hf k3⟩;show S.nx<=Sf.nx;rw[y6]at k2;exact Nat.le_trans (Ny EC) k2
     ·cases h
    ·cases h
   ·cases h
theorem Tk(aY:mS P rec){ps:Array Nat}{a b:Code}{k:Nat}{cap:AV G}{S:AS G}{Lw:Operand}(Fw:dX C S [] Lw=some (.fn (.func k) .nil cap))(h:rgI tb rec N cp C ps.toList a b k cap S K=some z):
  ∃e S',K e S'=some z/\S.nx<=S'.nx/\US P N C (.code (.rangeFunc Lw ps a b)) S S' e:=by
 unfold rgI at h;split at h
 ·rename_i fi ks vs D1 hkv
  split at h
  ·rename_i hres
   cases hb:((lK cap&&Nat.ble (vB cap+1) fi.N)&&uy (iZ C))with
   |false=>rw[hb]at h;cases h
   |true=>
    rw[hb]at h;simp only[ab7]at hb;obtain⟨⟨b1,b2⟩,b3⟩:=hb;have b2:=Nat.le_of_ble_eq_true b2;obtain⟨e,S1,h1,h2,h3⟩:=aY _ _ _ _ _ _ _ h;have h2:S.nx+2<=S1.nx:=h2;split at h1
    ·rename_i O2 hX
     exact⟨_,_,h1,by show S.nx<=S1.nx;omega,Ei (tt:=tb.tt) Fw D1 hres b1 b2 b3 hkv h3 h2 hX (.inl rfl)⟩
    ·rename_i O2 hX
     exact⟨_,_,h1,by show S.nx<=S1.nx;omega,Ei (tt:=tb.tt) Fw D1 hres b1 b2 b3 hkv h3 h2 hX (.inr rfl)⟩
    ·cases h1
  ·cases h
 ·cases h
theorem Pw(aY:mS P rec):mS P (step tb rec):=by
 intro N cp C cf S K z h;unfold step at h;dsimp only at h;split at h
 ·exact⟨_,_,h,Nat.le_refl _,SR⟩
 ·rename_i all o r
  split at h
  ·rename_i hg;exact LQ aY (.none hg) h
  ·rename_i j w hg
   split at h
   ·rename_i dj hd
    split at h
    ·rename_i hk;exact LQ aY (.R3 hg hd hk) h
    ·rename_i hk
     split at h
     ·rename_i S2 hp
      obtain⟨e,S3,k1,k2,k3⟩:=aY _ _ _ _ _ _ _ h;have:=kr hp;exact⟨e,S3,k1,by omega,Po hg hd hk hp k3⟩
     ·cases h
    ·split at h
     ·rename_i g gs v he hv
      obtain⟨h1,h2⟩:=YU h;split at h2
      ·rename_i S2 hp
       obtain⟨e,S3,k1,k2,k3⟩:=aY _ _ _ _ _ _ _ h2;have:=kr hp;exact⟨e,S3,k1,by omega,LY hg hd he hv h1 hp k3⟩
      ·cases h2
     ·refine UG aY hg hd rfl rfl (λh=>?_) h
      split at h
      ·rename_i k b hk
       cases b with
       |true=>have h:=IS rfl h;obtain⟨e,S3,k1,k2,k3⟩:=aY _ _ _ _ _ _ _ h;exact⟨e,S3,k1,k2,Jh hk k3⟩
       |false=>have h:=IT rfl h;obtain⟨e,S3,k1,k2,k3⟩:=aY _ _ _ _ _ _ _ h;exact⟨e,S3,k1,k2,Jh hk k3⟩
      ·cases h
   ·cases h
 ·split at h
  ·exact⟨_,_,h,Nat.le_refl _,λc ρ J HK X a w Q hr hq=>wpIn_skip (hq.here hr trivial)⟩
  ·exact⟨_,_,h,Nat.le_refl _,λc ρ J HK X a w Q hr hq=>wpIn_label (hq.here hr trivial)⟩
  ·exact⟨_,_,h,Nat.le_refl _,λc ρ J HK X a w Q hr hq=>wpIn_ret (hq.here hr trivial)⟩
  ·exact⟨_,_,h,Nat.le_refl _,λc ρ J HK X a w Q hr hq=>wpIn_exit (hq.here hr rfl)⟩
  ·obtain⟨e,S1,k1,k2,k3⟩:=aY _ _ _ _ _ _ _ h
   exact⟨e,S1,k1,k2,Kq k3⟩
  ·exact UF aY h
  ·rename_i i x
   obtain⟨e1,S1,k1,k2,k3⟩:=aY _ _ _ _ _ _ _ h;cases e1 with
   |exit j=>
    dsimp only at k1;cases hb:Nat.beq i j with
    |true=>rw[hb]at k1;have e:=ab6 hb;exact⟨_,S1,k1,k2,uZ k3 (.inl ⟨by rw[e],rfl⟩)⟩
    |false=>rw[hb]at k1;exact⟨_,S1,k1,k2,uZ k3 (.inr ⟨rfl,λq=>by cases q;rw[Nat.beq_refl]at hb;cases hb⟩)⟩
   |fZ=>exact⟨_,S1,k1,k2,uZ k3 (.inr ⟨rfl,by simp⟩)⟩
   |ret=>exact⟨_,S1,k1,k2,uZ k3 (.inr ⟨rfl,by simp⟩)⟩
   |sC v=>exact⟨_,S1,k1,k2,uZ k3 (.inr ⟨rfl,by simp⟩)⟩
  ·split at h
   ·rename_i t hx
    cases t with
    |true=>have h:=IS rfl h;obtain⟨e,S1,k1,k2,k3⟩:=aY _ _ _ _ _ _ _ h;exact⟨e,S1,k1,k2,Ji hx k3⟩
    |false=>have h:=IT rfl h;obtain⟨e,S1,k1,k2,k3⟩:=aY _ _ _ _ _ _ _ h;exact⟨e,S1,k1,k2,Ji hx k3⟩
   ·rename_i t hx
    obtain⟨e,S1,k1,k2,k3⟩:=aY _ _ _ _ _ _ _ h;exact⟨e,S1,k1,k2,LZ hx k3⟩
   ·cases h
  ·rename_i x y
   split at h
   ·rename_i gl ex _
    split at h
    ·rename_i g _
     cases hb:uI S.nx ((⟨gj (λd=> !(bY (Eg x) d||vD g.l d)) S.F,bJ (λq=> !bY (Ks C S gl++Gr C S ex) q) S.O,S.D⟩:Ly G)::C)with
     |false=>rw[hb]at h;cases h
     |true=>
      rw[hb]at h;have h:=XN h;obtain⟨e1,S1,k1,k2,k3⟩:=aY _ _ _ _ _ _ _ h;have k2:S.nx<=S1.nx:=k2;cases e1 with
      |fZ=>
       dsimp only at k1;split at k1
       ·rename_i e hg
        obtain⟨e2,S2,m1,m2,m3⟩:=aY _ _ _ _ _ _ _ k1;have m2:S.nx+g.nm.length<=S2.nx:=m2;exact⟨e2,S2,m1,by omega,Pr rfl hb k3 hg m3⟩
       ·cases k1
      |exit i=>exact⟨_,_,k1,k2,ld (EY _ _ k3) (by simp)⟩
      |ret=>exact⟨_,_,k1,k2,ld (EY _ _ k3) (by simp)⟩
      |sC v=>exact⟨_,_,k1,k2,ld (EY _ _ k3) (by simp)⟩
    ·cases h
   ·exact Te aY h
  ·rename_i x
   split at h
   ·rename_i gl _
    split at h
    ·cases h
    ·rename_i g _
     have hp:=y6 (C:=C) (S:=S) (l:=g.l);refine PY (g:=g) (λh=>?_) h;clear hp;generalize ji C S g.l=S at h;split at h
     ·rename_i v hv
      split at h
      ·rename_i x0 g' EC
       cases hb:(sU g.nm g'.th&&sV S.nx g.nm)with
       |false=>rw[hb]at h;cases h
       |true=>
        rw[hb]at h;simp only[ab7]at hb;simp only[cond_true]at h;cases hc:uI S.nx ((⟨gj (λd=> !(bY (Eg x) d||vD g.l d)) S.F,g'.O,S.D⟩:Ly G)::C)with
        |false=>rw[hc]at h;cases h
        |true=>rw[hc]at h;obtain⟨e1,S1,k1,k2,k3⟩:=Qb (g:=g) aY hc _ _ h;exact⟨e1,_,k1,k2,Pq hv EC hb.1 hb.2 rfl hc k3⟩
      ·cases h
     ·cases h
   ·obtain⟨e1,S1,k1,k2,k3⟩:=aY _ _ _ _ _ _ _ h
    exact⟨e1,S1,k1,k2,WS k3⟩
   ·cases h
  ·split at h
   ·rename_i Fw _
    exact Tj aY Fw h
   ·rename_i Fw _
    exact Tk aY Fw h
   ·cases h
  ·cases h
 ·rename_i x
  obtain⟨e1,S1,k1,k2,k3⟩:=aY _ _ _ _ _ _ _ h;cases e1 with
  |fZ=>obtain⟨e2,S2,m1,m2,m3⟩:=aY _ _ _ _ _ _ _ k1;exact⟨e2,S2,m1,Nat.le_trans k2 m2,HT k3 m3 k2⟩
  |exit i=>exact⟨_,S1,k1,k2,xP k3 (by simp)⟩
  |ret=>exact⟨_,S1,k1,k2,xP k3 (by simp)⟩
  |sC v=>exact⟨_,S1,k1,k2,xP k3 (by simp)⟩
theorem Zt:∀n:Nat,mS P (W (Z:=Z) tb n):=by
 intro n
 induction n with
 |zero=>intro N cp C cf S K z h;cases h
 |succ n ih=>exact Pw ih
end Go.Rw
namespace Go.Proofs.Z
open Go Go.Bw Go.Rw Go.RowKit
structure ae where
 E:Int
 V:Int
 W:Int
abbrev bW:bX ae:=bX.via (LP (LI .i64) (LP (LI .u64) (LI .u32))) (λx=>(x.E,x.V,x.W))
abbrev bp:ae:=⟨0,0,0⟩
instance:Inhabited ae:=⟨bp⟩
def fM:List Value:=[.int .i64 0]++([.int .u64 0]++([.int .u32 0]))
theorem tw{A:World->Prop}:bW.dS A fM bp:=⟨_,_,rfl,rfl,⟨_,_,rfl,rfl,rfl⟩⟩
theorem A0:aO bW (LI .i64) 0 (λx=>x.E) (λx v=>{x with E:=v}):=(aO.fst aO.id).via _ _ _ 0 rfl (λ_ =>rfl) (λ_ _ =>rfl)
theorem AZ:aO bW (LI .u64) 1 (λx=>x.V) (λx v=>{x with V:=v}):=(aO.snd (aO.fst aO.id)).via _ _ _ 1 rfl (λ_ =>rfl) (λ_ _ =>rfl)
theorem AY:aO bW (LI .u32) 2 (λx=>x.W) (λx v=>{x with W:=v}):=(aO.snd (aO.snd aO.id)).via _ _ _ 2 rfl (λ_ =>rfl) (λ_ _ =>rfl)
structure aI where
 Do:Int
 R:Int
 S:Int
 A:Int
 B:Int
 V:Int
abbrev eo:bX aI:=bX.via (LP (LI .u8) (LP (LI .u32) (LP (LI .u32) (LP (LI .u32) (LP (LI .u32) (LI .u64)))))) (λx=>(x.Do,x.R,x.S,x.A,x.B,x.V))
abbrev dm:aI:=⟨0,0,0,0,0,0⟩
def iE:List Value:=[.int .u8 0]++([.int .u32 0]++([.int .u32 0]++([.int .u32 0]++([.int .u32 0]++([.int .u64 0])))))
theorem q8{A:World->Prop}:eo.dS A iE dm:=⟨_,_,rfl,rfl,⟨_,_,rfl,rfl,⟨_,_,rfl,rfl,⟨_,_,rfl,rfl,⟨_,_,rfl,rfl,rfl⟩⟩⟩⟩⟩
theorem BU:aO eo (LI .u8) 0 (λx=>x.Do) (λx v=>{x with Do:=v}):=(aO.fst aO.id).via _ _ _ 0 rfl (λ_ =>rfl) (λ_ _ =>rfl)
theorem DD:aO eo (LI .u32) 1 (λx=>x.R) (λx v=>{x with R:=v}):=(aO.snd (aO.fst aO.id)).via _ _ _ 1 rfl (λ_ =>rfl) (λ_ _ =>rfl)
theorem DC:aO eo (LI .u32) 2 (λx=>x.S) (λx v=>{x with S:=v}):=(aO.snd (aO.snd (aO.fst aO.id))).via _ _ _ 2 rfl (λ_ =>rfl) (λ_ _ =>rfl)
theorem DF:aO eo (LI .u32) 3 (λx=>x.A) (λx v=>{x with A:=v}):=(aO.snd (aO.snd (aO.snd (aO.fst aO.id)))).via _ _ _ 3 rfl (λ_ =>rfl) (λ_ _ =>rfl)
theorem DE:aO eo (LI .u32) 4 (λx=>x.B) (λx v=>{x with B:=v}):=(aO.snd (aO.snd (aO.snd (aO.snd (aO.fst aO.id))))).via _ _ _ 4 rfl (λ_ =>rfl) (λ_ _ =>rfl)
theorem DB:aO eo (LI .u64) 5 (λx=>x.V) (λx v=>{x with V:=v}):=(aO.snd (aO.snd (aO.snd (aO.snd (aO.snd aO.id))))).via _ _ _ 5 rfl (λ_ =>rfl) (λ_ _ =>rfl)
structure fg where
 L:(List Int)
 Hr:Int
abbrev po:bX fg:=bX.via (LP (@OS Int ⟨0⟩ (LI .u64)) (LI .i64)) (λx=>(x.L,x.Hr))
abbrev mR:fg:=⟨[],0⟩
def xe:List Value:=[.slice none 0 0]++([.int .i64 0])
theorem DO{A:World->Prop}:po.dS A xe mR:=⟨_,_,rfl,⟨_,_,rfl,yB.nil⟩,rfl⟩
theorem Dx:aO po (@OS Int ⟨0⟩ (LI .u64)) 0 (λx=>x.L) (λx v=>{x with L:=v}):=(aO.fst aO.id).via _ _ _ 0 rfl (λ_ =>rfl) (λ_ _ =>rfl)
theorem yu:aO po (LI .i64) 1 (λx=>x.Hr) (λx v=>{x with Hr:=v}):=(aO.snd aO.id).via _ _ _ 1 rfl (λ_ =>rfl) (λ_ _ =>rfl)
structure cm where
 gen:Int
 iP:Bool
 gY:Bool
abbrev bx:bX cm:=bX.via (LP (LI .u32) (LP LB LB)) (λx=>(x.gen,x.iP,x.gY))
abbrev j8:cm:=⟨0,false,false⟩
def pG:List Value:=[.int .u32 0]++([.bool false]++([.bool false]))
theorem uM{A:World->Prop}:bx.dS A pG j8:=⟨_,_,rfl,rfl,⟨_,_,rfl,rfl,rfl⟩⟩
theorem fX:aO bx (LI .u32) 0 (λx=>x.gen) (λx v=>{x with gen:=v}):=(aO.fst aO.id).via _ _ _ 0 rfl (λ_ =>rfl) (λ_ _ =>rfl)
theorem ju:aO bx LB 1 (λx=>x.iP) (λx v=>{x with iP:=v}):=(aO.snd (aO.fst aO.id)).via _ _ _ 1 rfl (λ_ =>rfl) (λ_ _ =>rfl)
theorem nj:aO bx LB 2 (λx=>x.gY) (λx v=>{x with gY:=v}):=(aO.snd (aO.snd aO.id)).via _ _ _ 2 rfl (λ_ =>rfl) (λ_ _ =>rfl)
structure bn where
 br:(Nat->cm)
abbrev aE:bX bn:=bX.via (LA bx 32) (λx=>x.br)
abbrev eY:bn:=⟨(λ_ =>j8)⟩
instance:Inhabited bn:=⟨eY⟩
def lP:List Value:=(flat (λ_ =>pG) 32)
theorem pD{A:World->Prop}:aE.dS A lP eY:=⟨_,rfl,λ_ _ =>uM⟩
theorem cu:aO aE (LA bx 32) 0 (λx=>x.br) (λx v=>{x with br:=v}):=aO.id.via _ _ _ 0 rfl (λ_ =>rfl) (λ_ _ =>rfl)
structure je where
 jb:bn
abbrev mU:bX je:=bX.via aE (λx=>x.jb)
abbrev ta:je:=⟨eY⟩
def xd:List Value:=lP
theorem DN{A:World->Prop}:mU.dS A xd ta:=pD
theorem zM:aO mU aE 0 (λx=>x.jb) (λx v=>{x with jb:=v}):=aO.id.via _ _ _ 0 rfl (λ_ =>rfl) (λ_ _ =>rfl)
structure aq where
 At:Int
 N:Int
abbrev aZ:bX aq:=bX.via (LP (LI .i64) (LI .i64)) (λx=>(x.At,x.N))
abbrev bZ:aq:=⟨0,0⟩
instance:Inhabited aq:=⟨bZ⟩
def kY:List Value:=[.int .i64 0]++([.int .i64 0])
theorem uL{A:World->Prop}:aZ.dS A kY bZ:=⟨_,_,rfl,rfl,rfl⟩
theorem D7:aO aZ (LI .i64) 0 (λx=>x.At) (λx v=>{x with At:=v}):=(aO.fst aO.id).via _ _ _ 0 rfl (λ_ =>rfl) (λ_ _ =>rfl)
theorem FZ:aO aZ (LI .i64) 1 (λx=>x.N) (λx v=>{x with N:=v}):=(aO.snd aO.id).via _ _ _ 1 rfl (λ_ =>rfl) (λ_ _ =>rfl)
structure aT where
 qG:(List aq)
 Km:Int
abbrev fN:bX aT:=bX.via (LP (@OS aq ⟨bZ⟩ aZ) (LI .i64)) (λx=>(x.qG,x.Km))
abbrev cv:aT:=⟨[],0⟩
instance:Inhabited aT:=⟨cv⟩
def eZ:List Value:=[.slice none 0 0]++([.int .i64 0])
theorem jz{A:World->Prop}:fN.dS A eZ cv:=⟨_,_,rfl,⟨_,_,rfl,yB.nil⟩,rfl⟩
theorem wh:aO fN (@OS aq ⟨bZ⟩ aZ) 0 (λx=>x.qG) (λx v=>{x with qG:=v}):=(aO.fst aO.id).via _ _ _ 0 rfl (λ_ =>rfl) (λ_ _ =>rfl)
theorem wZ:aO fN (LI .i64) 1 (λx=>x.Km) (λx v=>{x with Km:=v}):=(aO.snd aO.id).via _ _ _ 1 rfl (λ_ =>rfl) (λ_ _ =>rfl)
structure aM where
 Up:Int
 ug:Int
 E:aT
 oe:(Nat->Int)
abbrev eB:bX aM:=bX.via (LP (LI .u32) (LP (LI .i64) (LP fN (LA (LI .u32) 8)))) (λx=>(x.Up,x.ug,x.E,x.oe))
abbrev gL:aM:=⟨0,0,cv,(λ_ =>0)⟩
instance:Inhabited aM:=⟨gL⟩
def om:List Value:=[.int .u32 0]++([.int .i64 0]++(eZ++((flat (λ_ =>[.int .u32 0]) 8))))
theorem tv{A:World->Prop}:eB.dS A om gL:=⟨_,_,rfl,rfl,⟨_,_,rfl,rfl,⟨_,_,rfl,jz,⟨_,rfl,λ_ _ =>rfl⟩⟩⟩⟩
theorem zN:aO eB (LI .u32) 0 (λx=>x.Up) (λx v=>{x with Up:=v}):=(aO.fst aO.id).via _ _ _ 0 rfl (λ_ =>rfl) (λ_ _ =>rfl)
theorem wc:aO eB (LI .i64) 1 (λx=>x.ug) (λx v=>{x with ug:=v}):=(aO.snd (aO.fst aO.id)).via _ _ _ 1 rfl (λ_ =>rfl) (λ_ _ =>rfl)
theorem AU:aO eB fN 2 (λx=>x.E) (λx v=>{x with E:=v}):=(aO.snd (aO.snd (aO.fst aO.id))).via _ _ _ 2 rfl (λ_ =>rfl) (λ_ _ =>rfl)
theorem we:aO eB (LA (LI .u32) 8) 4 (λx=>x.oe) (λx v=>{x with oe:=v}):=(aO.snd (aO.snd (aO.snd aO.id))).via _ _ _ 4 rfl (λ_ =>rfl) (λ_ _ =>rfl)
structure au where
 dN:je
 fD:(Nat->aM)
abbrev iK:bX au:=bX.via (LP mU (LA eB 32)) (λx=>(x.dN,x.fD))
abbrev ej:au:=⟨ta,(λ_ =>gL)⟩
instance:Inhabited au:=⟨ej⟩
def pF:List Value:=xd++((flat (λ_ =>om) 32))
theorem uK{A:World->Prop}:iK.dS A pF ej:=⟨_,_,rfl,DN,⟨_,rfl,λ_ _ =>tv⟩⟩
theorem yt:aO iK mU 0 (λx=>x.dN) (λx v=>{x with dN:=v}):=(aO.fst aO.id).via _ _ _ 0 rfl (λ_ =>rfl) (λ_ _ =>rfl)
theorem uD:aO iK (LA eB 32) 96 (λx=>x.fD) (λx v=>{x with fD:=v}):=(aO.snd aO.id).via _ _ _ 96 rfl (λ_ =>rfl) (λ_ _ =>rfl)
structure dB where
 uF:Int
 m0:Int
 fY:Int
abbrev nF:bX dB:=bX.via (LP (LI .u8) (LP (LI .u8) (LI .u8))) (λx=>(x.uF,x.m0,x.fY))
abbrev pA:dB:=⟨0,0,0⟩
instance:Inhabited dB:=⟨pA⟩
def xE:List Value:=[.int .u8 0]++([.int .u8 0]++([.int .u8 0]))
theorem Ci{A:World->Prop}:nF.dS A xE pA:=⟨_,_,rfl,rfl,⟨_,_,rfl,rfl,rfl⟩⟩
theorem DA:aO nF (LI .u8) 0 (λx=>x.uF) (λx v=>{x with uF:=v}):=(aO.fst aO.id).via _ _ _ 0 rfl (λ_ =>rfl) (λ_ _ =>rfl)
theorem Dz:aO nF (LI .u8) 1 (λx=>x.m0) (λx v=>{x with m0:=v}):=(aO.snd (aO.fst aO.id)).via _ _ _ 1 rfl (λ_ =>rfl) (λ_ _ =>rfl)
theorem zP:aO nF (LI .u8) 2 (λx=>x.fY) (λx v=>{x with fY:=v}):=(aO.snd (aO.snd aO.id)).via _ _ _ 2 rfl (λ_ =>rfl) (λ_ _ =>rfl)
structure jj where
 root:Int
 own:dB
abbrev nE:bX jj:=bX.via (LP (LI .u32) nF) (λx=>(x.root,x.own))
abbrev qv:jj:=⟨0,pA⟩
def uN:List Value:=[.int .u32 0]++(xE)
theorem A4{A:World->Prop}:nE.dS A uN qv:=⟨_,_,rfl,rfl,Ci⟩
theorem BT:aO nE (LI .u32) 0 (λx=>x.root) (λx v=>{x with root:=v}):=(aO.fst aO.id).via _ _ _ 0 rfl (λ_ =>rfl) (λ_ _ =>rfl)
theorem Dy:aO nE nF 1 (λx=>x.own) (λx v=>{x with own:=v}):=(aO.snd aO.id).via _ _ _ 1 rfl (λ_ =>rfl) (λ_ _ =>rfl)
structure b6 where
 br:(Nat->jj)
abbrev qx:bX b6:=bX.via (LA nE 32) (λx=>x.br)
abbrev nA:b6:=⟨(λ_ =>qv)⟩
instance:Inhabited b6:=⟨nA⟩
def uO:List Value:=(flat (λ_ =>uN) 32)
theorem A5{A:World->Prop}:qx.dS A uO nA:=⟨_,rfl,λ_ _ =>A4⟩
theorem AX:aO qx (LA nE 32) 0 (λx=>x.br) (λx v=>{x with br:=v}):=aO.id.via _ _ _ 0 rfl (λ_ =>rfl) (λ_ _ =>rfl)
structure aW where
 Region:Int
 By:Int
 To:Int
 jG:Bool
 q7:Int
abbrev aU:bX aW:=bX.via (LP (LI .u32) (LP (LI .u8) (LP (LI .u8) (LP LB (LI .u32))))) (λx=>(x.Region,x.By,x.To,x.jG,x.q7))
abbrev eX:aW:=⟨0,0,0,false,0⟩
instance:Inhabited aW:=⟨eX⟩
def pE:List Value:=[.int .u32 0]++([.int .u8 0]++([.int .u8 0]++([.bool false]++([.int .u32 0]))))
theorem uJ{A:World->Prop}:aU.dS A pE eX:=⟨_,_,rfl,rfl,⟨_,_,rfl,rfl,⟨_,_,rfl,rfl,⟨_,_,rfl,rfl,rfl⟩⟩⟩⟩
theorem v9:aO aU (LI .u32) 0 (λx=>x.Region) (λx v=>{x with Region:=v}):=(aO.fst aO.id).via _ _ _ 0 rfl (λ_ =>rfl) (λ_ _ =>rfl)
theorem AT:aO aU (LI .u8) 1 (λx=>x.By) (λx v=>{x with By:=v}):=(aO.snd (aO.fst aO.id)).via _ _ _ 1 rfl (λ_ =>rfl) (λ_ _ =>rfl)
theorem AR:aO aU (LI .u8) 2 (λx=>x.To) (λx v=>{x with To:=v}):=(aO.snd (aO.snd (aO.fst aO.id))).via _ _ _ 2 rfl (λ_ =>rfl) (λ_ _ =>rfl)
theorem uC:aO aU LB 3 (λx=>x.jG) (λx v=>{x with jG:=v}):=(aO.snd (aO.snd (aO.snd (aO.fst aO.id)))).via _ _ _ 3 rfl (λ_ =>rfl) (λ_ _ =>rfl)
theorem oU:aO aU (LI .u32) 4 (λx=>x.q7) (λx v=>{x with q7:=v}):=(aO.snd (aO.snd (aO.snd (aO.snd aO.id)))).via _ _ _ 4 rfl (λ_ =>rfl) (λ_ _ =>rfl)
structure aL where
 dN:bn
 br:(Nat->aW)
abbrev av:bX aL:=bX.via (LP aE (LA aU 16)) (λx=>(x.dN,x.br))
abbrev cI:aL:=⟨eY,(λ_ =>eX)⟩
instance:Inhabited aL:=⟨cI⟩
def oh:List Value:=lP++((flat (λ_ =>pE) 16))
theorem tu{A:World->Prop}:av.dS A oh cI:=⟨_,_,rfl,pD,⟨_,rfl,λ_ _ =>uJ⟩⟩
theorem da:aO av aE 0 (λx=>x.dN) (λx v=>{x with dN:=v}):=(aO.fst aO.id).via _ _ _ 0 rfl (λ_ =>rfl) (λ_ _ =>rfl)
theorem n8:aO av (LA aU 16) 96 (λx=>x.br) (λx v=>{x with br:=v}):=(aO.snd aO.id).via _ _ _ 96 rfl (λ_ =>rfl) (λ_ _ =>rfl)
structure bA where
 T:au
 O:b6
 K:aL
abbrev dx:bX bA:=bX.via (LP iK (LP qx av)) (λx=>(x.T,x.O,x.K))
abbrev td:bA:=⟨ej,nA,cI⟩
def xg:List Value:=pF++(uO++(oh))
theorem DP{A:World->Prop}:dx.dS A xg td:=⟨_,_,rfl,uK,⟨_,_,rfl,A5,tu⟩⟩
theorem DG:aO dx iK 0 (λx=>x.T) (λx v=>{x with T:=v}):=(aO.fst aO.id).via _ _ _ 0 rfl (λ_ =>rfl) (λ_ _ =>rfl)
theorem DH:aO dx qx 480 (λx=>x.O) (λx v=>{x with O:=v}):=(aO.snd (aO.fst aO.id)).via _ _ _ 480 rfl (λ_ =>rfl) (λ_ _ =>rfl)
theorem DI:aO dx av 608 (λx=>x.K) (λx v=>{x with K:=v}):=(aO.snd (aO.snd aO.id)).via _ _ _ 608 rfl (λ_ =>rfl) (λ_ _ =>rfl)
structure aJ where
 DJ:Int
 D3:Int
 Region:Int
 v5:Bool
abbrev dk:bX aJ:=bX.via (LP (LI .u8) (LP (LI .u64) (LP (LI .u32) LB))) (λx=>(x.DJ,x.D3,x.Region,x.v5))
abbrev fz:aJ:=⟨0,0,0,false⟩
instance:Inhabited aJ:=⟨fz⟩
def oo:List Value:=[.int .u8 0]++([.int .u64 0]++([.int .u32 0]++([.bool false])))
theorem tA{A:World->Prop}:dk.dS A oo fz:=⟨_,_,rfl,rfl,⟨_,_,rfl,rfl,⟨_,_,rfl,rfl,rfl⟩⟩⟩
theorem wY:aO dk (LI .u8) 0 (λx=>x.DJ) (λx v=>{x with DJ:=v}):=(aO.fst aO.id).via _ _ _ 0 rfl (λ_ =>rfl) (λ_ _ =>rfl)
theorem wX:aO dk (LI .u64) 1 (λx=>x.D3) (λx v=>{x with D3:=v}):=(aO.snd (aO.fst aO.id)).via _ _ _ 1 rfl (λ_ =>rfl) (λ_ _ =>rfl)
theorem uE:aO dk (LI .u32) 2 (λx=>x.Region) (λx v=>{x with Region:=v}):=(aO.snd (aO.snd (aO.fst aO.id))).via _ _ _ 2 rfl (λ_ =>rfl) (λ_ _ =>rfl)
theorem wg:aO dk LB 3 (λx=>x.v5) (λx v=>{x with v5:=v}):=(aO.snd (aO.snd (aO.snd aO.id))).via _ _ _ 3 rfl (λ_ =>rfl) (λ_ _ =>rfl)
structure bE where
 ring:(Nat->aJ)
 ua:Int
 n:Int
 closed:Bool
abbrev jx:bX bE:=bX.via (LP (LA dk 4) (LP (LI .i64) (LP (LI .i64) LB))) (λx=>(x.ring,x.ua,x.n,x.closed))
abbrev nB:bE:=⟨(λ_ =>fz),0,0,false⟩
instance:Inhabited bE:=⟨nB⟩
def uP:List Value:=(flat (λ_ =>oo) 4)++([.int .i64 0]++([.int .i64 0]++([.bool false])))
theorem A6{A:World->Prop}:jx.dS A uP nB:=⟨_,_,rfl,⟨_,rfl,λ_ _ =>tA⟩,⟨_,_,rfl,rfl,⟨_,_,rfl,rfl,rfl⟩⟩⟩
theorem BW:aO jx (LA dk 4) 0 (λx=>x.ring) (λx v=>{x with ring:=v}):=(aO.fst aO.id).via _ _ _ 0 rfl (λ_ =>rfl) (λ_ _ =>rfl)
theorem A2:aO jx (LI .i64) 16 (λx=>x.ua) (λx v=>{x with ua:=v}):=(aO.snd (aO.fst aO.id)).via _ _ _ 16 rfl (λ_ =>rfl) (λ_ _ =>rfl)
theorem F1:aO jx (LI .i64) 17 (λx=>x.n) (λx v=>{x with n:=v}):=(aO.snd (aO.snd (aO.fst aO.id))).via _ _ _ 17 rfl (λ_ =>rfl) (λ_ _ =>rfl)
theorem zR:aO jx LB 18 (λx=>x.closed) (λx v=>{x with closed:=v}):=(aO.snd (aO.snd (aO.snd aO.id))).via _ _ _ 18 rfl (λ_ =>rfl) (λ_ _ =>rfl)
structure ah where
 eS:bA
 iD:(Nat->bE)
 lB:(Nat->Bool)
 Ec:(Nat->Bool)
abbrev iL:bX ah:=bX.via (LP dx (LP (LA jx 8) (LP (LA LB 8) (LA LB 8)))) (λx=>(x.eS,x.iD,x.lB,x.Ec))
abbrev cK:ah:=⟨td,(λ_ =>nB),(λ_ =>false),(λ_ =>false)⟩
instance:Inhabited ah:=⟨cK⟩
def ep:List Value:=xg++((flat (λ_ =>uP) 8)++((flat (λ_ =>[.bool false]) 8)++((flat (λ_ =>[.bool false]) 8))))
theorem pC{A:World->Prop}:iL.dS A ep cK:=⟨_,_,rfl,DP,⟨_,_,rfl,⟨_,rfl,λ_ _ =>A6⟩,⟨_,_,rfl,⟨_,rfl,λ_ _ =>rfl⟩,⟨_,rfl,λ_ _ =>rfl⟩⟩⟩⟩
theorem zQ:aO iL dx 0 (λx=>x.eS) (λx v=>{x with eS:=v}):=(aO.fst aO.id).via _ _ _ 0 rfl (λ_ =>rfl) (λ_ _ =>rfl)
theorem wV:aO iL (LA jx 8) 784 (λx=>x.iD) (λx v=>{x with iD:=v}):=(aO.snd (aO.fst aO.id)).via _ _ _ 784 rfl (λ_ =>rfl) (λ_ _ =>rfl)
theorem wW:aO iL (LA LB 8) 936 (λx=>x.lB) (λx v=>{x with lB:=v}):=(aO.snd (aO.snd (aO.fst aO.id))).via _ _ _ 936 rfl (λ_ =>rfl) (λ_ _ =>rfl)
theorem yw:aO iL (LA LB 8) 944 (λx=>x.Ec) (λx v=>{x with Ec:=v}):=(aO.snd (aO.snd (aO.snd aO.id))).via _ _ _ 944 rfl (λ_ =>rfl) (λ_ _ =>rfl)
structure bF where
 O6:Int
 n:Int
 Bz:(Nat->Int)
abbrev jv:bX bF:=bX.via (LP (LI .u8) (LP (LI .i64) (LA (LI .u8) 8))) (λx=>(x.O6,x.n,x.Bz))
abbrev lz:bF:=⟨0,0,(λ_ =>0)⟩
instance:Inhabited bF:=⟨lz⟩
def sF:List Value:=[.int .u8 0]++([.int .i64 0]++((flat (λ_ =>[.int .u8 0]) 8)))
theorem yD{A:World->Prop}:jv.dS A sF lz:=⟨_,_,rfl,rfl,⟨_,_,rfl,rfl,⟨_,rfl,λ_ _ =>rfl⟩⟩⟩
theorem BV:aO jv (LI .u8) 0 (λx=>x.O6) (λx v=>{x with O6:=v}):=(aO.fst aO.id).via _ _ _ 0 rfl (λ_ =>rfl) (λ_ _ =>rfl)
theorem D9:aO jv (LI .i64) 1 (λx=>x.n) (λx v=>{x with n:=v}):=(aO.snd (aO.fst aO.id)).via _ _ _ 1 rfl (λ_ =>rfl) (λ_ _ =>rfl)
theorem A1:aO jv (LA (LI .u8) 8) 2 (λx=>x.Bz) (λx v=>{x with Bz:=v}):=(aO.snd (aO.snd aO.id)).via _ _ _ 2 rfl (λ_ =>rfl) (λ_ _ =>rfl)
structure aj where
 br:(Nat->bF)
abbrev tq:bX aj:=bX.via (LA jv 32) (λx=>x.br)
abbrev dw:aj:=⟨(λ_ =>lz)⟩
instance:Inhabited aj:=⟨dw⟩
def jR:List Value:=(flat (λ_ =>sF) 32)
theorem w9{A:World->Prop}:tq.dS A jR dw:=⟨_,rfl,λ_ _ =>yD⟩
theorem yx:aO tq (LA jv 32) 0 (λx=>x.br) (λx v=>{x with br:=v}):=aO.id.via _ _ _ 0 rfl (λ_ =>rfl) (λ_ _ =>rfl)
structure aF where
 m0:Int
 C:aI
 Checked:Bool
 iu:(List Int)
 Hp:aq
 pq:Int
abbrev gU:bX aF:=bX.via (LP (LI .i64) (LP eo (LP LB (LP (@OS Int ⟨0⟩ (LI .u32)) (LP aZ (LI .i64)))))) (λx=>(x.m0,x.C,x.Checked,x.iu,x.Hp,x.pq))
abbrev gT:aF:=⟨0,dm,false,[],bZ,0⟩
instance:Inhabited aF:=⟨gT⟩
def lQ:List Value:=[.int .i64 0]++(iE++([.bool false]++([.slice none 0 0]++(kY++([.int .i64 0])))))
theorem yE{A:World->Prop}:gU.dS A lQ gT:=⟨_,_,rfl,rfl,⟨_,_,rfl,q8,⟨_,_,rfl,rfl,⟨_,_,rfl,⟨_,_,rfl,yB.nil⟩,⟨_,_,rfl,uL,rfl⟩⟩⟩⟩⟩
theorem A3:aO gU (LI .i64) 0 (λx=>x.m0) (λx v=>{x with m0:=v}):=(aO.fst aO.id).via _ _ _ 0 rfl (λ_ =>rfl) (λ_ _ =>rfl)
theorem Ea:aO gU eo 1 (λx=>x.C) (λx v=>{x with C:=v}):=(aO.snd (aO.fst aO.id)).via _ _ _ 1 rfl (λ_ =>rfl) (λ_ _ =>rfl)
theorem w7:aO gU LB 7 (λx=>x.Checked) (λx v=>{x with Checked:=v}):=(aO.snd (aO.snd (aO.fst aO.id))).via _ _ _ 7 rfl (λ_ =>rfl) (λ_ _ =>rfl)
theorem w5:aO gU (@OS Int ⟨0⟩ (LI .u32)) 8 (λx=>x.iu) (λx v=>{x with iu:=v}):=(aO.snd (aO.snd (aO.snd (aO.fst aO.id)))).via _ _ _ 8 rfl (λ_ =>rfl) (λ_ _ =>rfl)
theorem BX:aO gU aZ 9 (λx=>x.Hp) (λx v=>{x with Hp:=v}):=(aO.snd (aO.snd (aO.snd (aO.snd (aO.fst aO.id))))).via _ _ _ 9 rfl (λ_ =>rfl) (λ_ _ =>rfl)
theorem w6:aO gU (LI .i64) 11 (λx=>x.pq) (λx v=>{x with pq:=v}):=(aO.snd (aO.snd (aO.snd (aO.snd (aO.snd aO.id))))).via _ _ _ 11 rfl (λ_ =>rfl) (λ_ _ =>rfl)
structure bN where
 l:(List aq)
abbrev oa:bX bN:=bX.via (@OS aq ⟨bZ⟩ aZ) (λx=>x.l)
abbrev jt:bN:=⟨[]⟩
instance:Inhabited bN:=⟨jt⟩
def sE:List Value:=[.slice none 0 0]
theorem yC{A:World->Prop}:oa.dS A sE jt:=⟨_,_,rfl,yB.nil⟩
theorem D6:aO oa (@OS aq ⟨bZ⟩ aZ) 0 (λx=>x.l) (λx v=>{x with l:=v}):=aO.id.via _ _ _ 0 rfl (λ_ =>rfl) (λ_ _ =>rfl)
structure ak where
 n:Int
 vG:bN
 bytes:(Nat->(Nat->Int))
abbrev od:bX ak:=bX.via (LP (LI .i64) (LP oa (LA (LA (LI .u8) 32) 64))) (λx=>(x.n,x.vG,x.bytes))
abbrev gS:ak:=⟨0,jt,(λ_ =>(λ_ =>0))⟩
instance:Inhabited ak:=⟨gS⟩
def yF:List Value:=[.int .i64 0]++(sE++((flat (λ_ =>(flat (λ_ =>[.int .u8 0]) 32)) 64)))
theorem EP{A:World->Prop}:od.dS A yF gS:=⟨_,_,rfl,rfl,⟨_,_,rfl,yC,⟨_,rfl,λ_ _ =>⟨_,rfl,λ_ _ =>rfl⟩⟩⟩⟩
theorem D8:aO od (LI .i64) 0 (λx=>x.n) (λx v=>{x with n:=v}):=(aO.fst aO.id).via _ _ _ 0 rfl (λ_ =>rfl) (λ_ _ =>rfl)
theorem AW:aO od oa 1 (λx=>x.vG) (λx v=>{x with vG:=v}):=(aO.snd (aO.fst aO.id)).via _ _ _ 1 rfl (λ_ =>rfl) (λ_ _ =>rfl)
theorem zO:aO od (LA (LA (LI .u8) 32) 64) 2 (λx=>x.bytes) (λx v=>{x with bytes:=v}):=(aO.snd (aO.snd aO.id)).via _ _ _ 2 rfl (λ_ =>rfl) (λ_ _ =>rfl)
structure ai where
 aB:ah
 eD:Int
 c:aI
 run:aq
 my:Int
 Dp:Bool
 lH:(List aq)
abbrev Dr:ai:=⟨cK,0,dm,bZ,0,false,[]⟩
instance:Inhabited ai:=⟨Dr⟩
structure Bu where
 A:Type
 z:A
 L:bX A
def bu:List Bu:=[⟨ae,bp,bW⟩,⟨aI,dm,eo⟩,⟨fg,mR,po⟩,⟨cm,j8,bx⟩,⟨bn,eY,aE⟩,⟨je,ta,mU⟩,⟨aq,bZ,aZ⟩,⟨aT,cv,fN⟩,⟨aM,gL,eB⟩,⟨au,ej,iK⟩,⟨dB,pA,nF⟩,⟨jj,qv,nE⟩,⟨b6,nA,qx⟩,⟨aW,eX,aU⟩,⟨aL,cI,av⟩,⟨bA,td,dx⟩,⟨aJ,fz,dk⟩,⟨bE,nB,jx⟩,⟨ah,cK,iL⟩,⟨bF,lz,jv⟩,⟨aj,dw,tq⟩,⟨aF,gT,gU⟩,⟨bN,jt,oa⟩,⟨ak,gS,od⟩]
def b0:Bu:=⟨Bool,false,LB⟩
def ZR:List Bu->Nat->Bu
 |[],_ =>b0
 |b::r,i=>match i with
  |0=>b
  |i+1=>ZR r i
def sg:Sg:=⟨λi=>(ZR bu i).A,λi=>(ZR bu i).z,λi=>(ZR bu i).L,some (.u8,[(1,163),(2,164),(3,165),(4,166),(5,167),(6,168),(7,169),(8,170),(9,171),(10,172),(11,173),(12,174),(13,175),(14,176),(15,177),(16,177),(17,178),(18,179),(19,180),(20,181),(21,182),(22,183)])⟩
def fds:Jd sg
 |0=>[⟨(.int .i64),0,λ(x:ae)=>x.E,λ(x:ae) v=>({x with E:=v}:ae),A0⟩,⟨(.int .u64),1,λ(x:ae)=>x.V,λ(x:ae) v=>({x with V:=v}:ae),AZ⟩,⟨(.int .u32),2,λ(x:ae)=>x.W,λ(x:ae) v=>({x with W:=v}:ae),AY⟩]
 |1=>[⟨(.int .u8),0,λ(x:aI)=>x.Do,λ(x:aI) v=>({x with Do:=v}:aI),BU⟩,⟨(.int .u32),1,λ(x:aI)=>x.R,λ(x:aI) v=>({x with R:=v}:aI),DD⟩,⟨(.int .u32),2,λ(x:aI)=>x.S,λ(x:aI) v=>({x with S:=v}:aI),DC⟩,⟨(.int .u32),3,λ(x:aI)=>x.A,λ(x:aI) v=>({x with A:=v}:aI),DF⟩,⟨(.int .u32),4,λ(x:aI)=>x.B,λ(x:aI) v=>({x with B:=v}:aI),DE⟩,⟨(.int .u64),5,λ(x:aI)=>x.V,λ(x:aI) v=>({x with V:=v}:aI),DB⟩]
 |2=>[⟨(.sl (.int .u64)),0,λ(x:fg)=>x.L,λ(x:fg) v=>({x with L:=v}:fg),Dx⟩,⟨(.int .i64),1,λ(x:fg)=>x.Hr,λ(x:fg) v=>({x with Hr:=v}:fg),yu⟩]
 |3=>[⟨(.int .u32),0,λ(x:cm)=>x.gen,λ(x:cm) v=>({x with gen:=v}:cm),fX⟩,⟨.bool,1,λ(x:cm)=>x.iP,λ(x:cm) v=>({x with iP:=v}:cm),ju⟩,⟨.bool,2,λ(x:cm)=>x.gY,λ(x:cm) v=>({x with gY:=v}:cm),nj⟩]
 |4=>[⟨(.jr 32 (.st 3)),0,λ(x:bn)=>x.br,λ(x:bn) v=>({x with br:=v}:bn),cu⟩]
 |5=>[⟨(.st 4),0,λ(x:je)=>x.jb,λ(x:je) v=>({x with jb:=v}:je),zM⟩]
 |6=>[⟨(.int .i64),0,λ(x:aq)=>x.At,λ(x:aq) v=>({x with At:=v}:aq),D7⟩,⟨(.int .i64),1,λ(x:aq)=>x.N,λ(x:aq) v=>({x with N:=v}:aq),FZ⟩]
 |7=>[⟨(.sl (.st 6)),0,λ(x:aT)=>x.qG,λ(x:aT) v=>({x with qG:=v}:aT),wh⟩,⟨(.int .i64),1,λ(x:aT)=>x.Km,λ(x:aT) v=>({x with Km:=v}:aT),wZ⟩]
 |8=>[⟨(.int .u32),0,λ(x:aM)=>x.Up,λ(x:aM) v=>({x with Up:=v}:aM),zN⟩,⟨(.int .i64),1,λ(x:aM)=>x.ug,λ(x:aM) v=>({x with ug:=v}:aM),wc⟩,⟨(.st 7),2,λ(x:aM)=>x.E,λ(x:aM) v=>({x with E:=v}:aM),AU⟩,⟨(.jr 8 (.int .u32)),4,λ(x:aM)=>x.oe,λ(x:aM) v=>({x with oe:=v}:aM),we⟩]
 |9=>[⟨(.st 5),0,λ(x:au)=>x.dN,λ(x:au) v=>({x with dN:=v}:au),yt⟩,⟨(.jr 32 (.st 8)),96,λ(x:au)=>x.fD,λ(x:au) v=>({x with fD:=v}:au),uD⟩]
 |10=>[⟨(.int .u8),0,λ(x:dB)=>x.uF,λ(x:dB) v=>({x with uF:=v}:dB),DA⟩,⟨(.int .u8),1,λ(x:dB)=>x.m0,λ(x:dB) v=>({x with m0:=v}:dB),Dz⟩,⟨(.int .u8),2,λ(x:dB)=>x.fY,λ(x:dB) v=>({x with fY:=v}:dB),zP⟩]
 |11=>[⟨(.int .u32),0,λ(x:jj)=>x.root,λ(x:jj) v=>({x with root:=v}:jj),BT⟩,⟨(.st 10),1,λ(x:jj)=>x.own,λ(x:jj) v=>({x with own:=v}:jj),Dy⟩]
 |12=>[⟨(.jr 32 (.st 11)),0,λ(x:b6)=>x.br,λ(x:b6) v=>({x with br:=v}:b6),AX⟩]
 |13=>[⟨(.int .u32),0,λ(x:aW)=>x.Region,λ(x:aW) v=>({x with Region:=v}:aW),v9⟩,⟨(.int .u8),1,λ(x:aW)=>x.By,λ(x:aW) v=>({x with By:=v}:aW),AT⟩,⟨(.int .u8),2,λ(x:aW)=>x.To,λ(x:aW) v=>({x with To:=v}:aW),AR⟩,⟨.bool,3,λ(x:aW)=>x.jG,λ(x:aW) v=>({x with jG:=v}:aW),uC⟩,⟨(.int .u32),4,λ(x:aW)=>x.q7,λ(x:aW) v=>({x with q7:=v}:aW),oU⟩]
 |14=>[⟨(.st 4),0,λ(x:aL)=>x.dN,λ(x:aL) v=>({x with dN:=v}:aL),da⟩,⟨(.jr 16 (.st 13)),96,λ(x:aL)=>x.br,λ(x:aL) v=>({x with br:=v}:aL),n8⟩]
 |15=>[⟨(.st 9),0,λ(x:bA)=>x.T,λ(x:bA) v=>({x with T:=v}:bA),DG⟩,⟨(.st 12),480,λ(x:bA)=>x.O,λ(x:bA) v=>({x with O:=v}:bA),DH⟩,⟨(.st 14),608,λ(x:bA)=>x.K,λ(x:bA) v=>({x with K:=v}:bA),DI⟩]
 |16=>[⟨(.int .u8),0,λ(x:aJ)=>x.DJ,λ(x:aJ) v=>({x with DJ:=v}:aJ),wY⟩,⟨(.int .u64),1,λ(x:aJ)=>x.D3,λ(x:aJ) v=>({x with D3:=v}:aJ),wX⟩,⟨(.int .u32),2,λ(x:aJ)=>x.Region,λ(x:aJ) v=>({x with Region:=v}:aJ),uE⟩,⟨.bool,3,λ(x:aJ)=>x.v5,λ(x:aJ) v=>({x with v5:=v}:aJ),wg⟩]
 |17=>[⟨(.jr 4 (.st 16)),0,λ(x:bE)=>x.ring,λ(x:bE) v=>({x with ring:=v}:bE),BW⟩,⟨(.int .i64),16,λ(x:bE)=>x.ua,λ(x:bE) v=>({x with ua:=v}:bE),A2⟩,⟨(.int .i64),17,λ(x:bE)=>x.n,λ(x:bE) v=>({x with n:=v}:bE),F1⟩,⟨.bool,18,λ(x:bE)=>x.closed,λ(x:bE) v=>({x with closed:=v}:bE),zR⟩]
 |18=>[⟨(.st 15),0,λ(x:ah)=>x.eS,λ(x:ah) v=>({x with eS:=v}:ah),zQ⟩,⟨(.jr 8 (.st 17)),784,λ(x:ah)=>x.iD,λ(x:ah) v=>({x with iD:=v}:ah),wV⟩,⟨(.jr 8 .bool),936,λ(x:ah)=>x.lB,λ(x:ah) v=>({x with lB:=v}:ah),wW⟩,⟨(.jr 8 .bool),944,λ(x:ah)=>x.Ec,λ(x:ah) v=>({x with Ec:=v}:ah),yw⟩]
 |19=>[⟨(.int .u8),0,λ(x:bF)=>x.O6,λ(x:bF) v=>({x with O6:=v}:bF),BV⟩,⟨(.int .i64),1,λ(x:bF)=>x.n,λ(x:bF) v=>({x with n:=v}:bF),D9⟩,⟨(.jr 8 (.int .u8)),2,λ(x:bF)=>x.Bz,λ(x:bF) v=>({x with Bz:=v}:bF),A1⟩]
 |20=>[⟨(.jr 32 (.st 19)),0,λ(x:aj)=>x.br,λ(x:aj) v=>({x with br:=v}:aj),yx⟩]
 |21=>[⟨(.int .i64),0,λ(x:aF)=>x.m0,λ(x:aF) v=>({x with m0:=v}:aF),A3⟩,⟨(.st 1),1,λ(x:aF)=>x.C,λ(x:aF) v=>({x with C:=v}:aF),Ea⟩,⟨.bool,7,λ(x:aF)=>x.Checked,λ(x:aF) v=>({x with Checked:=v}:aF),w7⟩,⟨(.sl (.int .u32)),8,λ(x:aF)=>x.iu,λ(x:aF) v=>({x with iu:=v}:aF),w5⟩,⟨(.st 6),9,λ(x:aF)=>x.Hp,λ(x:aF) v=>({x with Hp:=v}:aF),BX⟩,⟨(.int .i64),11,λ(x:aF)=>x.pq,λ(x:aF) v=>({x with pq:=v}:aF),w6⟩]
 |22=>[⟨(.sl (.st 6)),0,λ(x:bN)=>x.l,λ(x:bN) v=>({x with l:=v}:bN),D6⟩]
 |23=>[⟨(.int .i64),0,λ(x:ak)=>x.n,λ(x:ak) v=>({x with n:=v}:ak),D8⟩,⟨(.st 22),1,λ(x:ak)=>x.vG,λ(x:ak) v=>({x with vG:=v}:ak),AW⟩,⟨(.jr 64 (.jr 32 (.int .u8))),2,λ(x:ak)=>x.bytes,λ(x:ak) v=>({x with bytes:=v}:ak),zO⟩]
 |_ =>[]
def teT:Hj TE:=(.cQ 116 (.jr 8 4 1 8) (.cQ 74 .one (.cQ 36 (.sl 22 1 8) (.cQ 22 (.int .u64) (.cQ 5 (.int .u8) (.cQ 3 (.int .i64) (.cQ 1 .one .cL .cL) (.cQ 4 .bool .cL .cL)) (.cQ 20 .one (.cQ 9 .one .cL .cL) .cL)) (.cQ 25 (.int .u32) (.cQ 24 (.int .u32) (.cQ 23 .ptr .cL .cL) .cL) (.cQ 28 (.int .i64) (.cQ 27 (.st [(0,none),(1,none),(2,none)] 3) .cL .cL) .cL))) (.cQ 56 .one (.cQ 50 .one (.cQ 48 .ptr (.cQ 44 .one .cL .cL) .cL) (.cQ 55 .one (.cQ 52 (.st [(0,some 3),(3,none)] 4) .cL .cL) .cL)) (.cQ 65 (.st [(0,none),(1,none),(2,none),(3,none),(4,none),(5,none)] 6) (.cQ 62 (.st [(0,none),(1,none),(2,none)] 3) (.cQ 57 .one .cL .cL) .cL) (.cQ 70 (.st [(0,none),(1,none)] 2) (.cQ 67 (.sl 3 1 8) .cL .cL) .cL)))) (.cQ 97 (.st [(0,none),(1,none),(2,none)] 3) (.cQ 87 (.sl 135 2 16) (.cQ 82 (.jr 32 81 3 96) (.cQ 79 (.st [(0,none),(1,none)] 2) (.cQ 75 .ptr .cL .cL) (.cQ 81 (.st [(0,none),(1,none),(2,none)] 3) .cL .cL)) (.cQ 86 (.st [(0,some 96)] 96) (.cQ 84 (.st [(0,some 96)] 96) .cL .cL) .cL)) (.cQ 92 (.st [(0,none),(1,none),(2,some 2),(4,some 8)] 12) (.cQ 90 (.jr 8 25 1 8) (.cQ 89 (.st [(0,none),(1,none)] 2) .cL .cL) .cL) (.cQ 95 (.st [(0,some 96),(96,some 384)] 480) (.cQ 93 (.jr 32 92 12 384) .cL .cL) .cL))) (.cQ 107 (.st [(0,some 96),(96,some 80)] 176) (.cQ 102 (.st [(0,some 128)] 128) (.cQ 100 (.jr 32 99 4 128) (.cQ 99 (.st [(0,none),(1,some 3)] 4) .cL .cL) .cL) (.cQ 105 (.jr 16 104 5 80) (.cQ 104 (.st [(0,none),(1,none),(2,none),(3,none),(4,none)] 5) .cL .cL) .cL)) (.cQ 112 (.jr 4 111 4 16) (.cQ 111 (.st [(0,none),(1,none),(2,none),(3,none)] 4) (.cQ 109 (.st [(0,some 480),(480,some 128),(608,some 176)] 784) .cL .cL) .cL) (.cQ 115 (.jr 8 114 19 152) (.cQ 114 (.st [(0,some 16),(16,none),(17,none),(18,none)] 19) .cL .cL) .cL))))) (.cQ 190 .one (.cQ 147 (.jr 64 146 32 2048) (.cQ 127 (.st [(0,some 952),(952,none),(953,some 320),(1273,none)] 1274) (.cQ 122 (.st [(0,none),(1,none),(2,some 8)] 10) (.cQ 119 .ptr (.cQ 118 (.st [(0,some 784),(784,some 152),(936,some 8),(944,some 8)] 952) .cL .cL) (.cQ 120 (.jr 8 5 1 8) .cL .cL)) (.cQ 125 (.st [(0,some 320)] 320) (.cQ 123 (.jr 32 122 10 320) .cL .cL) .cL)) (.cQ 137 (.st [(0,none),(1,some 6),(7,none),(8,none),(9,some 2),(11,none)] 12) (.cQ 135 (.st [(0,none),(1,none)] 2) (.cQ 133 (.sl 25 1 4) .cL .cL) .cL) (.cQ 146 (.jr 32 5 1 32) (.cQ 144 (.st [(0,none)] 1) .cL .cL) .cL))) (.cQ 161 .one (.cQ 153 (.st [(0,none),(1,some 12),(13,some 3),(16,none)] 17) (.cQ 151 .ptr (.cQ 149 (.st [(0,none),(1,some 1),(2,some 2048)] 2050) .cL .cL) .cL) (.cQ 158 .ptr (.cQ 154 (.jr 5 44 1 5) .cL .cL) .cL)) (.cQ 183 .one (.cQ 182 .one (.cQ 176 .one .cL .cL) .cL) (.cQ 187 (.st [(0,some 952),(952,none),(953,some 6),(959,some 2),(961,none),(962,none),(963,none)] 964) (.cQ 185 .ptr .cL .cL) .cL)))) (.cQ 228 (.sl 87 1 24) (.cQ 209 .one (.cQ 201 (.sl 5 1 1) (.cQ 196 .one (.cQ 192 .one .cL .cL) (.cQ 199 .ptr .cL .cL)) (.cQ 207 .one (.cQ 206 .ptr .cL .cL) .cL)) (.cQ 217 .one (.cQ 215 .one (.cQ 213 .one .cL .cL) .cL) (.cQ 225 .one (.cQ 218 .one .cL .cL) .cL))) (.cQ 318 .ptr (.cQ 293 .one (.cQ 288 (.sl 111 4 24) (.cQ 267 .one .cL .cL) .cL) (.cQ 315 .one (.cQ 295 .one .cL .cL) .cL)) (.cQ 334 .one (.cQ 333 .one (.cQ 325 .one .cL .cL) .cL) (.cQ 339 .one (.cQ 338 .ptr .cL .cL) .cL))))))
def tt:TT Tryz.prog sg:=⟨fds,teT,by kernel_rfl⟩
theorem zt3(J:World->Prop)(ρ:aP):∃u:Value,bq Tryz.prog 3=some u.cells.toList/\rv (G:=sg) J ρ (.int .i64 0) u:=⟨.int .i64 0,by kernel_rfl,rfl⟩
theorem zt4(J:World->Prop)(ρ:aP):∃u:Value,bq Tryz.prog 4=some u.cells.toList/\rv (G:=sg) J ρ (.bool false) u:=⟨.bool false,by kernel_rfl,rfl⟩
theorem zt5(J:World->Prop)(ρ:aP):∃u:Value,bq Tryz.prog 5=some u.cells.toList/\rv (G:=sg) J ρ (.int .u8 0) u:=⟨.int .u8 0,by kernel_rfl,rfl⟩
theorem aaA(J:World->Prop)(ρ:aP):∃u:Value,bq Tryz.prog 22=some u.cells.toList/\rv (G:=sg) J ρ (.int .u64 0) u:=⟨.int .u64 0,by kernel_rfl,rfl⟩
theorem aaz(J:World->Prop)(ρ:aP):∃u:Value,bq Tryz.prog 25=some u.cells.toList/\rv (G:=sg) J ρ (.int .u32 0) u:=⟨.int .u32 0,by kernel_rfl,rfl⟩
theorem aay(J:World->Prop)(ρ:aP):∃u:Value,bq Tryz.prog 27=some u.cells.toList/\rv (G:=sg) J ρ (.st (.part 1 .oZ (.part 1 (.int .u32 0) (.part 1 (.int .i64 0) .nil)))) u:=⟨.agg ((([.pointer none]:List Value)++(([.int .u32 0]:List Value)++(([.int .i64 0]:List Value)++([]:List Value))))).toArray,by kernel_rfl,⟨_,rfl,⟨[.pointer none],_, .pointer none,rfl,by kernel_rfl,rfl,rfl,⟨[.int .u32 0],_, .int .u32 0,rfl,by kernel_rfl,rfl,rfl,⟨[.int .i64 0],_, .int .i64 0,rfl,by kernel_rfl,rfl,rfl,rfl⟩⟩⟩,iU (by kernel_rfl)⟩⟩
theorem aax(J:World->Prop)(ρ:aP):∃u:Value,bq Tryz.prog 28=some u.cells.toList/\rv (G:=sg) J ρ (.int .i64 0) u:=⟨.int .i64 0,by kernel_rfl,rfl⟩
theorem aaw(J:World->Prop)(ρ:aP):∃u:Value,bq Tryz.prog 36=some u.cells.toList/\rv (G:=sg) J ρ .gA u:=⟨.slice none 0 0,by kernel_rfl,rfl⟩
theorem aav(J:World->Prop)(ρ:aP):∃u:Value,bq Tryz.prog 52=some u.cells.toList/\rv (G:=sg) J ρ (.st (.part 3 (.st (.part 1 .oZ (.part 1 (.int .u32 0) (.part 1 (.int .i64 0) .nil)))) (.part 1 (.int .i64 0) .nil))) u:=⟨.agg ((((([.pointer none]:List Value)++(([.int .u32 0]:List Value)++(([.int .i64 0]:List Value)++([]:List Value)))):List Value)++(([.int .i64 0]:List Value)++([]:List Value)))).toArray,by kernel_rfl,⟨_,rfl,⟨(([.pointer none]:List Value)++(([.int .u32 0]:List Value)++(([.int .i64 0]:List Value)++([]:List Value)))),_, .agg ((([.pointer none]:List Value)++(([.int .u32 0]:List Value)++(([.int .i64 0]:List Value)++([]:List Value))))).toArray,rfl,by kernel_rfl,⟨_,rfl,⟨[.pointer none],_, .pointer none,rfl,by kernel_rfl,rfl,rfl,⟨[.int .u32 0],_, .int .u32 0,rfl,by kernel_rfl,rfl,rfl,⟨[.int .i64 0],_, .int .i64 0,rfl,by kernel_rfl,rfl,rfl,rfl⟩⟩⟩,iU (by kernel_rfl)⟩,rfl,⟨[.int .i64 0],_, .int .i64 0,rfl,by kernel_rfl,rfl,rfl,rfl⟩⟩,iU (by kernel_rfl)⟩⟩
theorem aau(J:World->Prop)(ρ:aP):∃u:Value,bq Tryz.prog 62=some u.cells.toList/\rv (G:=sg) J ρ (.dat (.st 0) bp) u:=⟨.agg (fM).toArray,by kernel_rfl,_,rfl,tw,λ_ =>⟨_,rfl⟩,nofun⟩
theorem aat(J:World->Prop)(ρ:aP):∃u:Value,bq Tryz.prog 65=some u.cells.toList/\rv (G:=sg) J ρ (.dat (.st 1) dm) u:=⟨.agg (iE).toArray,by kernel_rfl,_,rfl,q8,λ_ =>⟨_,rfl⟩,nofun⟩
theorem aas(J:World->Prop)(ρ:aP):∃u:Value,bq Tryz.prog 67=some u.cells.toList/\rv (G:=sg) J ρ .gA u:=⟨.slice none 0 0,by kernel_rfl,rfl⟩
theorem aar(J:World->Prop)(ρ:aP):∃u:Value,bq Tryz.prog 70=some u.cells.toList/\rv (G:=sg) J ρ (.dat (.st 2) mR) u:=⟨.agg (xe).toArray,by kernel_rfl,_,rfl,DO,λ_ =>⟨_,rfl⟩,nofun⟩
theorem aaq(J:World->Prop)(ρ:aP):∃u:Value,bq Tryz.prog 79=some u.cells.toList/\rv (G:=sg) J ρ (.st (.part 1 .oZ (.part 1 (.int .i64 0) .nil))) u:=⟨.agg ((([.pointer none]:List Value)++(([.int .i64 0]:List Value)++([]:List Value)))).toArray,by kernel_rfl,⟨_,rfl,⟨[.pointer none],_, .pointer none,rfl,by kernel_rfl,rfl,rfl,⟨[.int .i64 0],_, .int .i64 0,rfl,by kernel_rfl,rfl,rfl,rfl⟩⟩,iU (by kernel_rfl)⟩⟩
theorem aap(J:World->Prop)(ρ:aP):∃u:Value,bq Tryz.prog 81=some u.cells.toList/\rv (G:=sg) J ρ (.dat (.st 3) j8) u:=⟨.agg (pG).toArray,by kernel_rfl,_,rfl,uM,λ_ =>⟨_,rfl⟩,nofun⟩
theorem aao(J:World->Prop)(ρ:aP):∃u:Value,bq Tryz.prog 84=some u.cells.toList/\rv (G:=sg) J ρ (.dat (.st 4) eY) u:=⟨.agg (lP).toArray,by kernel_rfl,_,rfl,pD,λ_ =>⟨_,rfl⟩,nofun⟩
theorem aan(J:World->Prop)(ρ:aP):∃u:Value,bq Tryz.prog 87=some u.cells.toList/\rv (G:=sg) J ρ .gA u:=⟨.slice none 0 0,by kernel_rfl,rfl⟩
theorem aam(J:World->Prop)(ρ:aP):∃u:Value,bq Tryz.prog 89=some u.cells.toList/\rv (G:=sg) J ρ (.dat (.st 7) cv) u:=⟨.agg (eZ).toArray,by kernel_rfl,_,rfl,jz,λ_ =>⟨_,rfl⟩,nofun⟩
theorem aal(J:World->Prop)(ρ:aP):∃u:Value,bq Tryz.prog 92=some u.cells.toList/\rv (G:=sg) J ρ (.dat (.st 8) gL) u:=⟨.agg (om).toArray,by kernel_rfl,_,rfl,tv,λ_ =>⟨_,rfl⟩,nofun⟩
theorem aak(J:World->Prop)(ρ:aP):∃u:Value,bq Tryz.prog 95=some u.cells.toList/\rv (G:=sg) J ρ (.dat (.st 9) ej) u:=⟨.agg (pF).toArray,by kernel_rfl,_,rfl,uK,λ_ =>⟨_,rfl⟩,nofun⟩
theorem aaj(J:World->Prop)(ρ:aP):∃u:Value,bq Tryz.prog 97=some u.cells.toList/\rv (G:=sg) J ρ (.dat (.st 10) pA) u:=⟨.agg (xE).toArray,by kernel_rfl,_,rfl,Ci,λ_ =>⟨_,rfl⟩,nofun⟩
theorem aai(J:World->Prop)(ρ:aP):∃u:Value,bq Tryz.prog 99=some u.cells.toList/\rv (G:=sg) J ρ (.dat (.st 11) qv) u:=⟨.agg (uN).toArray,by kernel_rfl,_,rfl,A4,λ_ =>⟨_,rfl⟩,nofun⟩
theorem WD(J:World->Prop)(ρ:aP):∃u:Value,bq Tryz.prog 102=some u.cells.toList/\rv (G:=sg) J ρ (.dat (.st 12) nA) u:=⟨.agg (uO).toArray,by kernel_rfl,_,rfl,A5,λ_ =>⟨_,rfl⟩,nofun⟩
theorem WC(J:World->Prop)(ρ:aP):∃u:Value,bq Tryz.prog 104=some u.cells.toList/\rv (G:=sg) J ρ (.dat (.st 13) eX) u:=⟨.agg (pE).toArray,by kernel_rfl,_,rfl,uJ,λ_ =>⟨_,rfl⟩,nofun⟩
theorem WA(J:World->Prop)(ρ:aP):∃u:Value,bq Tryz.prog 107=some u.cells.toList/\rv (G:=sg) J ρ (.dat (.st 14) cI) u:=⟨.agg (oh).toArray,by kernel_rfl,_,rfl,tu,λ_ =>⟨_,rfl⟩,nofun⟩
theorem Wz(J:World->Prop)(ρ:aP):∃u:Value,bq Tryz.prog 111=some u.cells.toList/\rv (G:=sg) J ρ (.dat (.st 16) fz) u:=⟨.agg (oo).toArray,by kernel_rfl,_,rfl,tA,λ_ =>⟨_,rfl⟩,nofun⟩
theorem Wy(J:World->Prop)(ρ:aP):∃u:Value,bq Tryz.prog 114=some u.cells.toList/\rv (G:=sg) J ρ (.dat (.st 17) nB) u:=⟨.agg (uP).toArray,by kernel_rfl,_,rfl,A6,λ_ =>⟨_,rfl⟩,nofun⟩
theorem Wx(J:World->Prop)(ρ:aP):∃u:Value,bq Tryz.prog 118=some u.cells.toList/\rv (G:=sg) J ρ (.dat (.st 18) cK) u:=⟨.agg (ep).toArray,by kernel_rfl,_,rfl,pC,λ_ =>⟨_,rfl⟩,nofun⟩
theorem Ww(J:World->Prop)(ρ:aP):∃u:Value,bq Tryz.prog 122=some u.cells.toList/\rv (G:=sg) J ρ (.dat (.st 19) lz) u:=⟨.agg (sF).toArray,by kernel_rfl,_,rfl,yD,λ_ =>⟨_,rfl⟩,nofun⟩
theorem Wv(J:World->Prop)(ρ:aP):∃u:Value,bq Tryz.prog 125=some u.cells.toList/\rv (G:=sg) J ρ (.dat (.st 20) dw) u:=⟨.agg (jR).toArray,by kernel_rfl,_,rfl,w9,λ_ =>⟨_,rfl⟩,nofun⟩
theorem Wu(J:World->Prop)(ρ:aP):∃u:Value,bq Tryz.prog 127=some u.cells.toList/\rv (G:=sg) J ρ (.st (.part 952 (.dat (.st 18) cK) (.part 1 .oZ (.part 320 (.dat (.st 20) dw) (.part 1 .gA .nil))))) u:=⟨.agg (((ep:List Value)++(([.pointer none]:List Value)++((jR:List Value)++(([.slice none 0 0]:List Value)++([]:List Value)))))).toArray,by kernel_rfl,⟨_,rfl,⟨ep,_, .agg (ep).toArray,rfl,by kernel_rfl,⟨_,rfl,pC,λ_ =>⟨_,rfl⟩,nofun⟩,rfl,⟨[.pointer none],_, .pointer none,rfl,by kernel_rfl,rfl,rfl,⟨jR,_, .agg (jR).toArray,rfl,by kernel_rfl,⟨_,rfl,w9,λ_ =>⟨_,rfl⟩,nofun⟩,rfl,⟨[.slice none 0 0],_, .slice none 0 0,rfl,by kernel_rfl,rfl,rfl,rfl⟩⟩⟩⟩,iU (by kernel_rfl)⟩⟩
theorem Wt(J:World->Prop)(ρ:aP):∃u:Value,bq Tryz.prog 135=some u.cells.toList/\rv (G:=sg) J ρ (.dat (.st 6) bZ) u:=⟨.agg (kY).toArray,by kernel_rfl,_,rfl,uL,λ_ =>⟨_,rfl⟩,nofun⟩
theorem Ws(J:World->Prop)(ρ:aP):∃u:Value,bq Tryz.prog 137=some u.cells.toList/\rv (G:=sg) J ρ (.dat (.st 21) gT) u:=⟨.agg (lQ).toArray,by kernel_rfl,_,rfl,yE,λ_ =>⟨_,rfl⟩,nofun⟩
theorem Wr(J:World->Prop)(ρ:aP):∃u:Value,bq Tryz.prog 144=some u.cells.toList/\rv (G:=sg) J ρ (.dat (.st 22) jt) u:=⟨.agg (sE).toArray,by kernel_rfl,_,rfl,yC,λ_ =>⟨_,rfl⟩,nofun⟩
theorem Wq(J:World->Prop)(ρ:aP):∃u:Value,bq Tryz.prog 149=some u.cells.toList/\rv (G:=sg) J ρ (.dat (.st 23) gS) u:=⟨.agg (yF).toArray,by kernel_rfl,_,rfl,EP,λ_ =>⟨_,rfl⟩,nofun⟩
theorem Wp(J:World->Prop)(ρ:aP):∃u:Value,bq Tryz.prog 153=some u.cells.toList/\rv (G:=sg) J ρ (.st (.part 1 .oZ (.part 12 (.dat (.st 21) gT) (.part 3 (.dat (.st 0) bp) (.part 1 (.bool false) .nil))))) u:=⟨.agg ((([.pointer none]:List Value)++((lQ:List Value)++((fM:List Value)++(([.bool false]:List Value)++([]:List Value)))))).toArray,by kernel_rfl,⟨_,rfl,⟨[.pointer none],_, .pointer none,rfl,by kernel_rfl,rfl,rfl,⟨lQ,_, .agg (lQ).toArray,rfl,by kernel_rfl,⟨_,rfl,yE,λ_ =>⟨_,rfl⟩,nofun⟩,rfl,⟨fM,_, .agg (fM).toArray,rfl,by kernel_rfl,⟨_,rfl,tw,λ_ =>⟨_,rfl⟩,nofun⟩,rfl,⟨[.bool false],_, .bool false,rfl,by kernel_rfl,rfl,rfl,rfl⟩⟩⟩⟩,iU (by kernel_rfl)⟩⟩
theorem Wo(J:World->Prop)(ρ:aP):∃u:Value,bq Tryz.prog 154=some u.cells.toList/\rv (G:=sg) J ρ (.st (.part 1 .lE (.part 1 .lE (.part 1 .lE (.part 1 .lE (.part 1 .lE .nil)))))) u:=⟨.agg ((([.nilFunc]:List Value)++(([.nilFunc]:List Value)++(([.nilFunc]:List Value)++(([.nilFunc]:List Value)++(([.nilFunc]:List Value)++([]:List Value))))))).toArray,by kernel_rfl,⟨_,rfl,⟨[.nilFunc],_, .nilFunc,rfl,by kernel_rfl,rfl,rfl,⟨[.nilFunc],_, .nilFunc,rfl,by kernel_rfl,rfl,rfl,⟨[.nilFunc],_, .nilFunc,rfl,by kernel_rfl,rfl,rfl,⟨[.nilFunc],_, .nilFunc,rfl,by kernel_rfl,rfl,rfl,⟨[.nilFunc],_, .nilFunc,rfl,by kernel_rfl,rfl,rfl,rfl⟩⟩⟩⟩⟩,iU (by kernel_rfl)⟩⟩
theorem Wm(J:World->Prop)(ρ:aP):∃u:Value,bq Tryz.prog 187=some u.cells.toList/\rv (G:=sg) J ρ (.st (.part 952 (.dat (.st 18) cK) (.part 1 (.int .i64 0) (.part 6 (.dat (.st 1) dm) (.part 2 (.dat (.st 6) bZ) (.part 1 (.int .i64 0) (.part 1 (.bool false) (.part 1 .gA .nil)))))))) u:=⟨.agg (((ep:List Value)++(([.int .i64 0]:List Value)++((iE:List Value)++((kY:List Value)++(([.int .i64 0]:List Value)++(([.bool false]:List Value)++(([.slice none 0 0]:List Value)++([]:List Value))))))))).toArray,by kernel_rfl,⟨_,rfl,⟨ep,_, .agg (ep).toArray,rfl,by kernel_rfl,⟨_,rfl,pC,λ_ =>⟨_,rfl⟩,nofun⟩,rfl,⟨[.int .i64 0],_, .int .i64 0,rfl,by kernel_rfl,rfl,rfl,⟨iE,_, .agg (iE).toArray,rfl,by kernel_rfl,⟨_,rfl,q8,λ_ =>⟨_,rfl⟩,nofun⟩,rfl,⟨kY,_, .agg (kY).toArray,rfl,by kernel_rfl,⟨_,rfl,uL,λ_ =>⟨_,rfl⟩,nofun⟩,rfl,⟨[.int .i64 0],_, .int .i64 0,rfl,by kernel_rfl,rfl,rfl,⟨[.bool false],_, .bool false,rfl,by kernel_rfl,rfl,rfl,⟨[.slice none 0 0],_, .slice none 0 0,rfl,by kernel_rfl,rfl,rfl,rfl⟩⟩⟩⟩⟩⟩⟩,iU (by kernel_rfl)⟩⟩
theorem Wl(J:World->Prop)(ρ:aP):∃u:Value,bq Tryz.prog 190=some u.cells.toList/\rv (G:=sg) J ρ .lE u:=⟨.nilFunc,by kernel_rfl,rfl⟩
theorem Wk(J:World->Prop)(ρ:aP):∃u:Value,bq Tryz.prog 192=some u.cells.toList/\rv (G:=sg) J ρ .lE u:=⟨.nilFunc,by kernel_rfl,rfl⟩
theorem Wj(J:World->Prop)(ρ:aP):∃u:Value,bq Tryz.prog 267=some u.cells.toList/\rv (G:=sg) J ρ .lE u:=⟨.nilFunc,by kernel_rfl,rfl⟩
theorem Wi(J:World->Prop)(ρ:aP):∃u:Value,bq Tryz.prog 288=some u.cells.toList/\rv (G:=sg) J ρ .gA u:=⟨.slice none 0 0,by kernel_rfl,rfl⟩
theorem Wh(J:World->Prop)(ρ:aP):∃u:Value,bq Tryz.prog 315=some u.cells.toList/\rv (G:=sg) J ρ .zg u:=⟨.map none,by kernel_rfl,rfl⟩
def ztT:Hj (AV sg):=(.cQ 99 (.dat (.st 11) qv) (.cQ 65 (.dat (.st 1) dm) (.cQ 27 (.st (.part 1 .oZ (.part 1 (.int .u32 0) (.part 1 (.int .i64 0) .nil)))) (.cQ 5 (.int .u8 0) (.cQ 4 (.bool false) (.cQ 3 (.int .i64 0) .cL .cL) .cL) (.cQ 25 (.int .u32 0) (.cQ 22 (.int .u64 0) .cL .cL) .cL)) (.cQ 52 (.st (.part 3 (.st (.part 1 .oZ (.part 1 (.int .u32 0) (.part 1 (.int .i64 0) .nil)))) (.part 1 (.int .i64 0) .nil))) (.cQ 36 .gA (.cQ 28 (.int .i64 0) .cL .cL) .cL) (.cQ 62 (.dat (.st 0) bp) .cL .cL))) (.cQ 87 .gA (.cQ 79 (.st (.part 1 .oZ (.part 1 (.int .i64 0) .nil))) (.cQ 70 (.dat (.st 2) mR) (.cQ 67 .gA .cL .cL) .cL) (.cQ 84 (.dat (.st 4) eY) (.cQ 81 (.dat (.st 3) j8) .cL .cL) .cL)) (.cQ 95 (.dat (.st 9) ej) (.cQ 92 (.dat (.st 8) gL) (.cQ 89 (.dat (.st 7) cv) .cL .cL) .cL) (.cQ 97 (.dat (.st 10) pA) .cL .cL)))) (.cQ 137 (.dat (.st 21) gT) (.cQ 118 (.dat (.st 18) cK) (.cQ 107 (.dat (.st 14) cI) (.cQ 104 (.dat (.st 13) eX) (.cQ 102 (.dat (.st 12) nA) .cL .cL) .cL) (.cQ 114 (.dat (.st 17) nB) (.cQ 111 (.dat (.st 16) fz) .cL .cL) .cL)) (.cQ 127 (.st (.part 952 (.dat (.st 18) cK) (.part 1 .oZ (.part 320 (.dat (.st 20) dw) (.part 1 .gA .nil))))) (.cQ 125 (.dat (.st 20) dw) (.cQ 122 (.dat (.st 19) lz) .cL .cL) .cL) (.cQ 135 (.dat (.st 6) bZ) .cL .cL))) (.cQ 190 .lE (.cQ 153 (.st (.part 1 .oZ (.part 12 (.dat (.st 21) gT) (.part 3 (.dat (.st 0) bp) (.part 1 (.bool false) .nil))))) (.cQ 149 (.dat (.st 23) gS) (.cQ 144 (.dat (.st 22) jt) .cL .cL) .cL) (.cQ 187 (.st (.part 952 (.dat (.st 18) cK) (.part 1 (.int .i64 0) (.part 6 (.dat (.st 1) dm) (.part 2 (.dat (.st 6) bZ) (.part 1 (.int .i64 0) (.part 1 (.bool false) (.part 1 .gA .nil)))))))) (.cQ 154 (.st (.part 1 .lE (.part 1 .lE (.part 1 .lE (.part 1 .lE (.part 1 .lE .nil)))))) .cL .cL) .cL)) (.cQ 288 .gA (.cQ 267 .lE (.cQ 192 .lE .cL .cL) .cL) (.cQ 315 .zg .cL .cL)))))
def zt:ZT Tryz.prog sg:=⟨ztT,UW ⟨aai,⟨aat,⟨aay,⟨zt5,⟨zt4,⟨zt3,trivial,trivial⟩,trivial⟩,⟨aaz,⟨aaA,trivial,trivial⟩,trivial⟩⟩,⟨aav,⟨aaw,⟨aax,trivial,trivial⟩,trivial⟩,⟨aau,trivial,trivial⟩⟩⟩,⟨aan,⟨aaq,⟨aar,⟨aas,trivial,trivial⟩,trivial⟩,⟨aao,⟨aap,trivial,trivial⟩,trivial⟩⟩,⟨aak,⟨aal,⟨aam,trivial,trivial⟩,trivial⟩,⟨aaj,trivial,trivial⟩⟩⟩⟩,⟨Ws,⟨Wx,⟨WA,⟨WC,⟨WD,trivial,trivial⟩,trivial⟩,⟨Wy,⟨Wz,trivial,trivial⟩,trivial⟩⟩,⟨Wu,⟨Wv,⟨Ww,trivial,trivial⟩,trivial⟩,⟨Wt,trivial,trivial⟩⟩⟩,⟨Wl,⟨Wp,⟨Wq,⟨Wr,trivial,trivial⟩,trivial⟩,⟨Wm,⟨Wo,trivial,trivial⟩,trivial⟩⟩,⟨Wi,⟨Wj,⟨Wk,trivial,trivial⟩,trivial⟩,⟨Wh,trivial,trivial⟩⟩⟩⟩⟩⟩
end Go.Proofs.Z
namespace Go.Rw
open Go Go.Bw Go.RowKit
variable {G:Sg} {P:Program} {Z:Type}
def Ky:AV G->List Nat->Option (AV G)
 |v,[]=>some v
 | .fn _ _ c,i::r=>match KJ c i with
  |some x=>Ky x r
  |none=>none
 |_,_ =>none
theorem PA{J:World->Prop}{ρ:aP}:∀{p:List Nat} {v x:AV G} {u:Value},Ky v p=some x->rv J ρ v u->∃u',rv J ρ x u':=by
 intro p
 induction p with
 |nil=>intro v x u h hv;unfold Ky at h;obtain rfl:=Option.some.inj h;exact⟨u,hv⟩
 |cons i r ih=>
  intro v x u h hv;cases v<;>(try (simp[Ky]at h;done))
  case fn f a c=>
   simp only[Ky]at h;split at h
   ·rename_i y hy
    obtain⟨fs,cs,_,_,h2⟩:=hv;obtain⟨u',_,k2⟩:=Ff hy h2;exact ih h k2
   ·cases h
def PD(ab3:AV G):List (List Nat)->Option (AV G)
 |[]=>some .nil
 |(i::p)::r=>match KJ ab3 i,PD ab3 r with
  |some v,some l=>match Ky v p with
   |some x=>some (.cons x l)
   |none=>none
  |_,_ =>none
 |_ =>none
theorem PC{J:World->Prop}{ρ:aP}{ab3:AV G}{vs:List Value}(h:rl J ρ ab3 vs):∀{bi:List (List Nat)} {bk:AV G},PD ab3 bi=some bk->∃us,rl J ρ bk us:=by
 intro bi
 induction bi with
 |nil=>intro bk e;cases e;exact⟨[],rfl⟩
 |cons q r ih=>
  intro bk e;cases q with
  |nil=>cases e
  |cons i p=>
   simp only[PD]at e;split at e
   ·rename_i v l h1 h2
    split at e
    ·rename_i x hx
     cases e;obtain⟨u,_,k2⟩:=Ff h1 h;obtain⟨u',k4⟩:=PA hx k2;obtain⟨us,k3⟩:=ih h2;exact⟨u'::us,u',us,rfl,k4,k3⟩
    ·cases e
   ·cases e
def FE(bL:Sh)(nm:List (Option Nat))(base:Nat)(bk v:AV G)(S1:AS G)(k:HL G (aD bL)->Option Z):Option Z:=
 match vF (s9 S1.O bL (.cons v bk)) ⟨[(0,v)],S1.O,S1.nx,[]⟩with
 |S3=>match bP S3.F 0 with
  |some v'=>match jV bL (.cons v' bk) ⟨[],S3.O,S3.nx⟩with
   |some (x,g')=>bif rZ v'&&(sU nm g'.th&&sV base nm)then k x else none
   |none=>none
  |none=>none
theorem NO{bL:Sh}{nm:List (Option Nat)}{bk v:AV G}{S1:AS G}{k:HL G (aD bL)->Option Z}{z:Z}{base:Nat}(h:FE bL nm base bk v S1 k=some z):∃y,FE bL nm base bk v S1 some=some y/\k y=some z:=by
 unfold FE at h ⊢;dsimp only at h ⊢;split at h
 ·rename_i v' GI
  split at h
  ·rename_i x g' hg
   cases hc:(rZ v'&&(sU nm g'.th&&sV base nm))with
   |false=>rw[hc]at h;cases h
   |true=>rw[hc]at h;exact⟨x,rfl,h⟩
  ·cases h
 ·cases h
theorem JQ{bL:Sh}{nm:List (Option Nat)}{bk v:AV G}{S1:AS G}{y:HL G (aD bL)}{ρ ρ':aP}{J J':World->Prop}{HK X Y H:List ay}{w w':World}{a:Act}{u:Value}{us:List Value}{base:Nat}
  (h:FE bL nm base bk v S1 some=some y)(hb:rl J ρ bk us)(hto:ρ.to ρ' base)(hf:ρ.fr base)(hn:base<=S1.nx)(hJ:∀w,J' w->J w)(hv:rv J' ρ' v u)(hr:Rl ⟨none,w,aV H⟩ 0 ρ' J' HK (Y++X) [] ⟨[],S1.O,S1.nx,[]⟩ a w'):
  yz bL nm y ρ J H HK X w u w':=by
 unfold FE at h;have h2:Rl ⟨none,w,aV H⟩ 1 ρ' J' HK (Y++X) [] ⟨[(0,v)],S1.O,S1.nx,[]⟩ {a with tmps:= #[u]} w':=by
  refine⟨rfl,hr.df,hr.si,λd x e=>?_,λy hy=>(by cases hy),hr.kc,hr.hp,hr.kn,hr.fr⟩;simp only[bP]at e;cases hd:Nat.beq 0 d with
  |true=>rw[hd]at e;cases e;obtain rfl:=ab6 hd;exact⟨u,rfl,Gf hv _⟩
  |false=>rw[hd]at e;cases e
 obtain⟨J3,Y3,mJ,h3⟩:=h2.vF (s9 S1.O bL (.cons v bk));have GJ:(vF (s9 S1.O bL (.cons v bk)) (⟨[(0,v)],S1.O,S1.nx,[]⟩:AS G)).nx=S1.nx:=sZ _ _;revert h h3 GJ;generalize vF (s9 S1.O bL (.cons v bk)) (⟨[(0,v)],S1.O,S1.nx,[]⟩:AS G)=S3;intro h h3 GJ;dsimp only at h;split at h
 ·rename_i v' GI
  split at h
  ·rename_i x g' hg
   cases hc:(rZ v'&&(sU nm g'.th&&sV base nm))with
   |false=>rw[hc]at h;cases h
   |true=>
    rw[hc]at h;cases h;simp only[ab7]at hc;obtain⟨hc0,hc⟩:=hc;obtain⟨u0,e0,Z2⟩:=h3.fs 0 _ GI;have e0:u0=u:=by have:(#[u]:Array Value)[0]? =some u0:=e0;simpa using this.symm
    subst e0;have hv2:rv J3 ρ' v' u0:=by
     cases v' with
     |gd j ww vv=>cases hc0
     |_ =>exact Z2
    have hle:=hto.le hf;have hb':rl J3 ρ' bk us:=(hb.ext hle).mono λw q=>hJ w (mJ w q);obtain⟨HS,q1,q3⟩:=h3.hp;obtain⟨ρ2,HB,H',hG⟩:=C2 (l:=u0::us) (ρ:=ρ') hg ⟨u0,us,rfl,hv2,hb'⟩ q1 h3.fr;obtain⟨n1,n2⟩:=MU hc.1;have n3:=MV hc.2;refine⟨cmp ρ2 g'.th,J3,Y3++Y,HB,us,λw q=>hJ w (mJ w q),hG.val,hG.bK,?_,h3.si.s,?_,λi j e=>?_,λi hi=>?_⟩
    ·have:=hG.hp _ _ _ _ q3
     refine(this.sub (List.Sublist.append_left (List.sublist_append_right H' _) HB)).gH ?_;rw[List.append_assoc]
    ·rw[List.append_assoc];exact h3.kn
    ·have ht:=n2 i j e
     have hj:=n3 i j e;unfold cmp;rw[ht];dsimp only;rw[hG.to j (by show j<S3.nx;omega),hto j hj]
    ·unfold cmp
     rw[List.getElem?_eq_none (by rw[← n1];exact hi)]
  ·cases h
 ·cases h
def Y7(ek:Nat->List (Ek P G))(tt:TT P G)(C:CC G)(xn:List ResultVar)(bk:AV G)(base:Nat)(bL:Sh)(nm:List (Option Nat))(fG:Sh)(MO:List (Option Nat))(fo:HL G (aD bL)->Option Z)(fp:HL G (aD fG)->Option Z):Ex G->AS G->Option Z:=λe S=>match kT ek e S.D S.O with
 |some (.sC v,O2)=>FE fG MO base .nil v ⟨S.F,O2,S.nx,[]⟩ fp
 |some (.fZ,O2)=>(match Ak tt C ⟨S.F,O2,S.nx,[]⟩ xn with
  |some v=>FE bL nm base bk v ⟨S.F,O2,S.nx,[]⟩ fo
  |none=>none)
 |some (.ret,O2)=>(match Ak tt C ⟨S.F,O2,S.nx,[]⟩ xn with
  |some v=>FE bL nm base bk v ⟨S.F,O2,S.nx,[]⟩ fo
  |none=>none)
 |_ =>none
noncomputable def Wf(tb:uf P G)(n:Nat)(s:Fs)(fo:HL G (aD s.bL)->Option Z)(fp:HL G (aD s.fG)->Option Z)(i:HI G s):Option Z:=match BM P s.k with
 |some fi=>match s.bl i with
  |(ab3,O,m)=>match PD ab3 s.bi with
   |some bk=>bif lK ab3&&Nat.ble (vB ab3) fi.N then W tb n fi.N [] [⟨[],s.ro i++[],[]⟩] (.code fi.code) ⟨sq 0 ab3,O,m,[]⟩ (Y7 tb.ek tb.tt [⟨[],s.ro i++[],[]⟩] fi.xn bk m s.bL s.nm s.fG s.MO fo fp)else none
   |none=>none
 |none=>none
theorem Rl.Zk{c:Cx}{N:Nat}{ρ:aP}{J:World->Prop}{HK X:List ay}{O:Os G}{S:AS G}{a:Act}{w:World}(h:Rl c N ρ J HK X [⟨[],O,[]⟩] S a w)(hro:c.ro=none):Rl c N ρ J HK X [] S a w:=
 ⟨h.tm,h.df,⟨h.si.s,λ_ =>hro⟩,h.fs,λy hy=>(by cases hy),λr o e=>(by cases e),h.hp,h.kn,h.fr⟩
theorem Od{tb:uf P G}{n:Nat}{s:Fs}{fo:HL G (aD s.bL)->Option Z}{fp:HL G (aD s.fG)->Option Z}{x:HI G s}{z:Z}(h:Wf tb n s fo fp x=some z)
  {ρ:aP}{J:World->Prop}{HS HK X:List ay}{w:World}{vs:List Value}(hv:rl J ρ (s.bl x).1 vs)(hO:RO J ρ (s.bl x).2.1 HS)(hrd:∀r o,bP (s.ro x) r=some o->∃y∈HK,ro J ρ r o y)
  (hp:aX (aV (HS++(HK++X))) w.heap.size (HS++(HK++X)) w)(hk:LC G X J)(hf:ρ.fr (s.bl x).2.2):
  (∃y,fo y=some z/\Calls P s.k vs.toArray w λen w'=>∃u,en= .returned u/\yz s.bL s.nm y ρ J (HS++(HK++X)) HK X w u w')\/
  (∃y,fp y=some z/\Calls P s.k vs.toArray w λen w'=>∃u,en= .panicked [{v:=u,recovered:=false}]/\yz s.fG s.MO y ρ J (HS++(HK++X)) HK X w u w'):=by
 unfold Wf at h;split at h
 ·rename_i fi D1
  revert h hv hO hf;generalize s.bl x=b;obtain⟨ab3,O,m⟩:=b;intro hv hO hf h;dsimp only at h hv hO hf;split at h
  ·rename_i bk YQ
   cases hc:(lK ab3&&Nat.ble (vB ab3) fi.N)with
   |false=>rw[hc]at h;cases h
   |true=>
    rw[hc]at h;simp only[ab7]at hc;obtain⟨e1,S1,k1,k2,k3⟩:=Zt _ _ _ _ _ _ _ _ h;have k2:m<=S1.nx:=k2;obtain⟨us,hus⟩:=PC hv YQ;have hr:Rl ⟨none,w,aV (HS++(HK++X))⟩ 0 ρ J HK X [⟨[],s.ro x,[]⟩] (⟨[],O,m,[]⟩:AS G) ⟨#[],[]⟩ w:=by
     refine⟨rfl, .nil,⟨aG.refl _ _,λ_ =>rfl⟩,λd x e=>(by cases e),λy hy=>?_,λr o e=>hrd r o ?_,⟨HS,hO,hp⟩,hk,hf⟩
     ·simp at hy;subst hy;exactλd v e=>by cases e
     ·have e:bP (s.ro x++[]) r=some o:=e
      rwa[List.append_nil]at e
    have go:=λe2 O2 hX he=>zF (tt:=tb.tt) (ek:=tb.ek) (e2:=e2) (O2:=O2) hr D1 hc.1 (Nat.le_of_ble_eq_true hc.2) hv k3 hX rfl he;have ret:∀v e2 O2,kT tb.ek e1 S1.D S1.O=some (e2,O2)->(e2= .fZ\/e2= .ret)->Ak tb.tt [⟨[],s.ro x++[],[]⟩] ⟨S1.F,O2,S1.nx,[]⟩ fi.xn=some v->FE s.bL s.nm m bk v ⟨S1.F,O2,S1.nx,[]⟩ fo=some z->(∃y,fo y=some z/\Calls P s.k vs.toArray w λen w'=>∃u,en= .returned u/\yz s.bL s.nm y ρ J (HS++(HK++X)) HK X w u w'):=by
     intro v e2 O2 hX he hres abj;obtain⟨y,y1,y2⟩:=NO abj;refine⟨y,y2,?_⟩;have qg:=go e2 O2 hX (.inr ⟨he,v,hres⟩);intro cs';obtain⟨en,w',fr,⟨ρ',J',Y,j1,j2,j3,j4⟩,rest⟩:=qg cs';refine⟨en,w',fr,?_,rest⟩;rcases j4 with⟨v',u,q1,_⟩|⟨_,v',u,q1,rfl,q3⟩
     ·rcases he with he|he<;>rw[he]at q1<;>cases q1
     ·have q1:Ak tb.tt [⟨[],s.ro x++[],[]⟩] ⟨S1.F,O2,S1.nx,[]⟩ fi.xn=some v':=q1
      rw[hres]at q1;cases q1;exact⟨u,rfl,JQ (S1:=⟨S1.F,O2,S1.nx,[]⟩) y1 hus j1 hf k2 j2 q3 (j3.Zk rfl)⟩
    unfold Y7 at k1;split at k1
    ·rename_i v O2 hX
     obtain⟨y,y1,y2⟩:=NO k1;refine .inr ⟨y,y2,?_⟩;have qg:=go _ O2 hX (.inl ⟨v,rfl⟩);intro cs';obtain⟨en,w',fr,⟨ρ',J',Y,j1,j2,j3,j4⟩,rest⟩:=qg cs';refine⟨en,w',fr,?_,rest⟩;rcases j4 with⟨v',u,q1,rfl,q3⟩|⟨q1,_⟩
     ·cases q1
      exact⟨u,rfl,JQ (S1:=⟨S1.F,O2,S1.nx,[]⟩) (us:=[]) y1 rfl j1 hf k2 j2 q3 (j3.Zk rfl)⟩
     ·rcases q1 with q1|q1<;>cases q1
    ·rename_i O2 hX
     split at k1
     ·rename_i v hres;exact .inl (ret v _ O2 hX (.inl rfl) hres k1)
     ·cases k1
    ·rename_i O2 hX
     split at k1
     ·rename_i v hres;exact .inl (ret v _ O2 hX (.inr rfl) hres k1)
     ·cases k1
    ·cases k1
  ·cases h
 ·cases h
def RV(s:Fs)(f:HI G s->Option Z)(mu:Z->HL G (aD s.bL))(x:HI G s)(y:HL G (aD s.bL)):Prop:=∃z,f x=some z/\mu z=y
theorem Sk{tb:uf P G}{n:Nat}{s:Fs}{f:HI G s->Option Z}{um:HL G (aD s.bL)->Z}{mu:Z->HL G (aD s.bL)}(e1:∀y,mu (um y)=y)(hW:∀x,Wf tb n s (λy=>some (um y)) (λ_ =>none) x=f x):OV P s (RV s f mu) (λ_ _ =>False):=by
 intro ρ J HS HK X w vs x hv hO hrd hp hk hfr;refine⟨λy h=>?_,λy h=>h.elim⟩;obtain⟨z,h,hz⟩:=h;rw[← hW]at h;rcases Od h hv hO hrd hp hk hfr with⟨y',h1,h2⟩|⟨y',h1,_⟩
 ·have h1:=Option.some.inj h1
  have:y'=y:=by rw[← hz, ← h1,e1]
  subst this;exact h2
 ·cases h1
def VX(s:Fs)(f:HI G s->Option Z)(mu:Z->HL G (aD s.bL))(zz:Z)(hf:(BM P s.k).isSome=true)(ok:OV P s (RV s f mu) (λ_ _ =>False)):Ct P G where
 s:=s
 R:=RV s f mu
 Rp:=λ_ _ =>False
 cp:=λx ko _ =>bd (f x) λz=>ko (mu z)
 cg:=λg x ko=>cl g (f x) zz λz=>ko (mu z)
 VY:=λx ko kp z h=>by obtain⟨y,h1,h2⟩:=o8 h;exact .inl ⟨mu y,⟨y,h1,rfl⟩,h2⟩
 Zf:=λg x k z h=>by obtain⟨y,h1,_,h2⟩:=QN h;exact⟨mu y,λq=>⟨y,h1 q,rfl⟩,h2⟩
 fn:=by
  cases h:BM P s.k with
  |none=>rw[h]at hf;cases hf
  |some fi=>exact yb h
 ok:=ok
def RE(s:Fs)(f:HI G s->Option (Except Int Z))(mu:Z->HL G (aD s.bL))(x:HI G s)(y:HL G (aD s.bL)):Prop:=∃z,f x=some (.ok z)/\mu z=y
def RX(s:Fs)(f:HI G s->Option (Except Int Z))(me:Int->HL G (aD s.fG))(x:HI G s)(y:HL G (aD s.fG)):Prop:=∃e,f x=some (.error e)/\me e=y
theorem NG{tb:uf P G}{n:Nat}{s:Fs}{f:HI G s->Option (Except Int Z)}{um:HL G (aD s.bL)->Z}{mu:Z->HL G (aD s.bL)}{ue:HL G (aD s.fG)->Int}{me:Int->HL G (aD s.fG)}(e1:∀y,mu (um y)=y)(e2:∀y,me (ue y)=y)(hW:∀x,Wf tb n s (λy=>some (.ok (um y))) (λy=>some (.error (ue y))) x=f x):OV P s (RE s f mu) (RX s f me):=by
 intro ρ J HS HK X w vs x hv hO hrd hp hk hfr;refine⟨λy h=>?_,λy h=>?_⟩
 ·obtain⟨z,h,hz⟩:=h
  rw[← hW]at h;rcases Od h hv hO hrd hp hk hfr with⟨y',h1,h2⟩|⟨y',h1,_⟩
  ·have h1:=Except.ok.inj (Option.some.inj h1)
   have:y'=y:=by rw[← hz, ← h1,e1]
   subst this;exact h2
  ·cases Option.some.inj h1
 ·obtain⟨z,h,hz⟩:=h
  rw[← hW]at h;rcases Od h hv hO hrd hp hk hfr with⟨y',h1,h2⟩|⟨y',h1,h2⟩
  ·cases Option.some.inj h1
  ·have h1:=Except.error.inj (Option.some.inj h1)
   have:y'=y:=by rw[← hz, ← h1,e2]
   subst this;exact h2
def N0(s:Fs)(f:HI G s->Option (Except Int Z))(mu:Z->HL G (aD s.bL))(me:Int->HL G (aD s.fG))(hf:(BM P s.k).isSome=true)(ok:OV P s (RE s f mu) (RX s f me)):Ct P G where
 s:=s
 R:=RE s f mu
 Rp:=RX s f me
 cp:=λx ko kp=>bd (f x) λr=>match r with
  | .ok z=>ko (mu z)
  | .error e=>kp (me e)
 cg:=λ_ _ _ =>none
 VY:=λx ko kp z h=>by
  obtain⟨r,h1,h2⟩:=o8 h;cases r with
  |ok y=>exact .inl ⟨mu y,⟨y,h1,rfl⟩,h2⟩
  |error e=>exact .inr ⟨me e,⟨e,h1,rfl⟩,h2⟩
 Zf:=λg x k z h=>by cases h
 fn:=by
  cases h:BM P s.k with
  |none=>rw[h]at hf;cases hf
  |some fi=>exact yb h
 ok:=ok
def ctX(s:Fs)(f:HI G s->Option (Except Int Z))(mu:Z->HL G (aD s.bL))(me:Int->HL G (aD s.fG))(hf:(BM P s.k).isSome=true)(ok:OV P s (RE s f mu) (RX s f me))(cp:{Y:Type}->HI G s->(HL G (aD s.bL)->Option Y)->(HL G (aD s.fG)->Option Y)->Option Y)
  (hc:∀{Y:Type} (x:HI G s) (ko:HL G (aD s.bL)->Option Y) (kp:HL G (aD s.fG)->Option Y),cp x ko kp=(N0 s f mu me hf ok).cp x ko kp):Ct P G where
 s:=s
 R:=RE s f mu
 Rp:=RX s f me
 cp:=cp
 cg:=λ_ _ _ =>none
 VY:=λx ko kp z h=>(N0 s f mu me hf ok).VY x ko kp z (by rw[← hc];exact h)
 Zf:=λg x k z h=>by cases h
 fn:=(N0 s f mu me hf ok).fn
 ok:=ok
abbrev Sh.i:Sh:= .v (.int .i64)
abbrev Sh.b:Sh:= .v .bool
abbrev Sh.s(n:Nat):Sh:= .v (.st n)
abbrev Sh.w:Sh:= .v (.int .u32)
def lS:List Sh->Sh
 |[]=> .nil
 |a::r=> .cons a (lS r)
abbrev Sh.t(l:List Sh):Sh:= .gO (lS l)
abbrev ia(k:Nat)(i o:List Sh):Fs:=⟨k,[],lS i,lS o,[], .nil,[],[]⟩
abbrev YY(k:Nat)(i o:List Sh)(T:Nat):Fs:=⟨k,[],lS i,lS o,[], .cons (.gM T (.v (.int .i64))) .nil,[],[]⟩
section
variable {A B C D:Type}
def u1(y:A×Unit):A:=y.1
def u2(y:A×B×Unit):A×B:=(y.1,y.2.1)
def u3(y:A×B×C×Unit):A×B×C:=(y.1,y.2.1,y.2.2.1)
def m1(z:A):A×Unit:=(z,())
def m2(z:A×B):A×B×Unit:=(z.1,z.2,())
def m3(z:A×B×C):A×B×C×Unit:=(z.1,z.2.1,z.2.2,())
def a1(f:A->Z)(x:A×Unit):Z:=f x.1
def a2(f:A->B->Z)(x:A×B×Unit):Z:=f x.1 x.2.1
def a3(f:A->B->C->Z)(x:A×B×C×Unit):Z:=f x.1 x.2.1 x.2.2.1
def a4(f:A->B->C->D->Z)(x:A×B×C×D×Unit):Z:=f x.1 x.2.1 x.2.2.1 x.2.2.2.1
end
def cV[Inhabited Z](tb:uf P G)(s:Fs)(f:HI G s->Option Z)(um:HL G (aD s.bL)->Z)(mu:Z->HL G (aD s.bL))(e1:∀y,mu (um y)=y:=by exactλ_ =>rfl)(hf:(BM P s.k).isSome=true:=by kernel_rfl)(hW:∀x,Wf tb 3000 s (λy=>some (um y)) (λ_ =>none) x=f x:=by intro _;kernel_rfl):Ct P G:=
 VX s f mu default hf (Sk e1 hW)
def cX(tb:uf P G)(s:Fs)(f:HI G s->Option (Except Int Z))(um:HL G (aD s.bL)->Z)(mu:Z->HL G (aD s.bL))(ue:HL G (aD s.fG)->Int)(me:Int->HL G (aD s.fG))(e1:∀y,mu (um y)=y:=by exactλ_ =>rfl)(e2:∀y,me (ue y)=y:=by exactλ_ =>rfl)(hf:(BM P s.k).isSome=true:=by kernel_rfl)
  (hW:∀x,Wf tb 3000 s (λy=>some (.ok (um y))) (λy=>some (.error (ue y))) x=f x:=by intro _;kernel_rfl):Ct P G:=N0 s f mu me hf (NG e1 e2 hW)
def cT(tb:uf P G)(k:Nat)(i o:List Sh)(T:Nat)(f:HI G (YY k i o T)->Option (Except Int Z))(um:HL G (aD (YY k i o T).bL)->Z)(mu:Z->HL G (aD (YY k i o T).bL))(e1:∀y,mu (um y)=y:=by exactλ_ =>rfl)(hf:(BM P k).isSome=true:=by kernel_rfl)
  (hW:∀x,Wf tb 3000 (YY k i o T) (λy=>some (.ok (um y))) (λy=>some (.error (u1 y))) x=f x:=by intro _;kernel_rfl):Ct P G:=N0 (YY k i o T) f mu m1 hf (NG e1 (λ_ =>rfl) hW)
def Lb(k T:Nat):Fs:=⟨k,[], .cons (.v .bool) (.cons (.v (.int .i64)) .nil), .cons (.gO .nil) .nil,[], .cons (.gM T (.v (.int .i64))) .nil,[],[]⟩
def UO{k T:Nat}(x:HI G (Lb k T)):Bool:=x.1
def Zo{k T:Nat}(x:HI G (Lb k T)):Int:=x.2.1
def QY{k T:Nat}(x:HI G (Lb k T)):Option (Except Int Unit):=cn (!UO x) (some (.error (Zo x))) (some (.ok ()))
def Zp{k T:Nat}(y:HL G (aD (Lb k T).fG)):Int:=y.1
def RU(tb:uf P G)(k T:Nat)(hf:(BM P k).isSome=true)(hW:∀x,Wf tb 300 (Lb k T) (λ_ =>some (.ok ())) (λy=>some (.error (Zp y))) x=QY x):Ct P G:=
 ctX (Lb k T) QY (λ_ =>()) (λe=>(e,())) hf (NG (tb:=tb) (n:=300) (um:=λ_ =>()) (ue:=Zp) (λ_ =>rfl) (λ_ =>rfl) hW)
  (λx ko kp=>bif UO x then ko ()else kp (Zo x,())) (λx ko kp=>by
   show _ =bd (QY x) _;unfold QY;cases UO x<;>rfl)
def lkH{α:Type}:List (Nat×α)->Nat->Option α
 |[],_ =>none
 |(k,v)::r,d=>bif Nat.beq k d then some v else lkH r d
def Qf:List (Ct P G)->Nat->List (Ct P G)
 |[],_ =>[]
 |c::r,k=>bif Nat.beq c.s.k k then c::Qf r k else Qf r k
def E2:List Ty->List Ty->Bool
 |[],[]=>true
 |a::r,b::q=>a.bz b&&E2 r q
 |_,_ =>false
theorem Ml:∀{l m:List Ty},E2 l m=true->l=m:=by
 intro l
 induction l with
 |nil=>intro m h;cases m with
  |nil=>rfl
  |cons _ _ =>cases h
 |cons a r ih=>intro m h;cases m with
  |nil=>cases h
  |cons b q=>simp only[E2,ab7]at h;rw[Ty.rm h.1,ih h.2]
structure VwA(G:Sg) where
 L:List Ty
 v:Vw G L
def lkV:List (Nat×VwA G)->Nat->(L:List Ty)->Option (Vw G L)
 |[],_,_ =>none
 |(k,a)::r,i,L=>bif Nat.beq k i then(if h:E2 a.L L=true then some (Ml h▸a.v)else none)else lkV r i L
def Qd:List (It P G)->Nat->List (It P G)
 |[],_ =>[]
 |c::r,k=>bif Nat.beq c.k k then c::Qd r k else Qd r k
def Qe:List (Ek P G)->Nat->List (Ek P G)
 |[],_ =>[]
 |c::r,k=>bif Nat.beq c.k k then c::Qe r k else Qe r k
def WV(tt:TT P G)(zt:ZT P G)(n:Nat)(h:List (Nat×Hn))(cs:List (Ct P G))(vs:List (Nat×VwA G))(Qk:List (It P G))(es:List (Ek P G)):uf P G:=⟨tt,zt,λ_ i=>lkH h i,Qf cs,n,lkV vs,Qd Qk,Qe es,false⟩
def YN(cp:List Nat)(i:Nat):Nat:=cp.foldr (λd k=>k*1000+d+1) 0*10000000+i
def aaG(tt:TT P G)(zt:ZT P G)(n:Nat)(h:List (Nat×Hn))(cs:List (Ct P G))(Qk:List (It P G))(es:List (Ek P G)):uf P G:=⟨tt,zt,λcp i=>lkH h (YN cp i),Qf cs,n,λ_ _ =>none,Qd Qk,Qe es,false⟩
end Go.Rw
