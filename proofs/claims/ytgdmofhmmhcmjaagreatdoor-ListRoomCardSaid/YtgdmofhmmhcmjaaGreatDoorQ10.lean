/- Part 10 of what a proof leans on; pruned and shortened by a program out of longer texts. -/
import Derived.Test.YtgdmofhmmhcmjaaGreatDoorQ9
namespace Go.Rw
open Go Go.Bw Go.RowKit
variable {G:Sg} {P:Program} {N:Nat} {C:CC G} {Z:Type} {tb:xB P G} {rec:WT G Z} {cp:List Nat} {all:Array Oper} {r:List Oper} {K:Ex G->AS G->Option Z} {z:Z}
theorem Ds(bD:pz P rec){o:Oper}{S:AS G}(hg:M8 N all C S o)(h:wPv tb rec N cp C all r o S K=some z):∃e S',K e S'=some z/\S.nx<=S'.nx/\US P N C (.ops all (o::r)) S S' e:=by
 obtain⟨d,op,ty,ps,af,g⟩:=o;unfold wPv at h;dsimp only at h;split at h
 ·rename_i gs v hv
  obtain⟨h1,h2⟩:=afZ h;exact cZ bD hg (aeC hv h1) (Nat.le_refl _) h2
 ·split at h
  ·cases h
  ·obtain⟨e,S1,h1,h2,h3⟩:=bD _ _ _ _ _ _ _ h
   rw[wJ]at h2;exact⟨e,S1,h1,h2,B3 _ h3⟩
theorem acZ{d:Option Tmp}{op:Op}{ty:TypeId}{ps:String}{af:Array Edge}{g:Option (Nat×Bool)}{T d1:Nat}{r r2:List Oper}(h:ac0 ⟨d,op,ty,ps,af,g⟩ T r=some (d1,r2)):
  ∃t2 p2 f2,d=some d1/\g=none/\r=⟨none, .call ⟨.builtin .clear, #[.tmp d1], #[T]⟩,t2,p2,f2,none⟩::r2:=by
 unfold ac0 at h;split at h
 ·rename_i a t t2 p2 f2 r3
  split at h
  ·rename_i e1 d2 T2 hd hg ha ht
   cases hb:(Nat.beq _ d2&&Nat.beq T T2)with
   |false=>rw[hb]at h;cases h
   |true=>
    rw[hb]at h;simp only[aiP]at hb;have eA:a= #[.tmp d2]:=by rw[← Array.toArray_toList (xs:=a),ha]
    have eT:t= #[T2]:=by rw[← Array.toArray_toList (xs:=t),ht]
    subst eA;subst eT;obtain rfl:=aiO hb.1;obtain rfl:=aiO hb.2;cases h;exact⟨_,_,_,hd,hg,rfl⟩
  ·cases h
 ·cases h
theorem SG(bD:pz P rec){o:Oper}{S:AS G}(hg:M8 N all C S o)(h:wOp tb rec N cp C all r o S K=some z):∃e S',K e S'=some z/\S.nx<=S'.nx/\US P N C (.ops all (o::r)) S S' e:=by
 obtain⟨d,op,ty,ps,af,g⟩:=o;unfold wOp at h;dsimp only at h;split at h
 ·split at h
  ·rename_i v hv
   exact cZ bD hg (abo hv) (Nat.le_succ _) h
  ·cases h
 ·split at h
  ·rename_i v hv
   exact cZ bD hg (Ts hv) (Nat.le_succ _) h
  ·cases h
 ·split at h
  ·obtain⟨e,S1,h1,h2,h3⟩:=bD _ _ _ _ _ _ _ h
   rw[wJ]at h2;exact⟨e,S1,h1,h2,B3 _ h3⟩
  ·split at h
   ·rename_i q p v hx hy
    split at h
    ·rename_i T' cc ho
     cases hb:vO tb.tt _ v with
     |false=>rw[hb]at h;cases h
     |true=>rw[hb]at h;obtain⟨c',h1,h2⟩:=Tg h;exact cZ bD hg (Tl hx hy ho h1 hb) (Nat.le_refl _) h2
    ·rename_i e sz t xs ho
     cases hb:(UY p sz&&vO tb.tt _ v)with
     |false=>rw[hb]at h;cases h
     |true=>
      rw[hb]at h;simp only[aiP]at hb;simp only[cond_true]at h;split at h
      ·rename_i pl R8
       split at h
       ·rename_i y' hu
        exact cZ bD hg (Tk hx hy ho hb.1 R8 hu hb.2) (Nat.le_refl _) h
       ·cases h
      ·cases h
    ·cases h
   ·cases h
 ·split at h
  ·rename_i e sz _ ht
   split at h
   ·rename_i z hz
    split at h
    ·rename_i t _
     split at h
     ·rename_i xs hxs
      cases hc:((Nat.beq xs.length _ &&Nat.beq (t.L G).n sz)&&(Nat.blt 0 (_ *sz)&&Nat.ble (_ *sz) 16777216))with
      |false=>rw[hc]at h;cases h
      |true=>rw[hc]at h;simp only[aiP]at hc;obtain⟨⟨c1,c2⟩,c3,c4⟩:=hc;simp only[cond_true]at h;exact cZ bD hg (aeE ht hz hxs (aiO c1) (aiO c2) (by simpa[Nat.blt_eq]using c3) (Nat.le_of_ble_eq_true c4)) (Nat.le_succ _) h
     ·exact Ds bD hg h
    ·split at h
     ·rename_i vs hvs
      cases hc:((Nat.beq _ _ &&Nat.beq sz 1)&&(Nat.blt 0 _ &&Nat.ble _ 16777216))with
      |false=>rw[hc]at h;cases h
      |true=>rw[hc]at h;simp only[aiP]at hc;obtain⟨⟨c1,c2⟩,c3,c4⟩:=hc;obtain rfl:=aiO c2;simp only[cond_true]at h;exact cZ bD hg (abn ht hz hvs (aiO c1) (by simpa[Nat.blt_eq]using c3) (Nat.le_of_ble_eq_true c4)) (Nat.le_succ _) h
     ·cases h
   ·cases h
  ·cases h
 ·rename_i T s s'
  cases hs:Nat.beq s s' with
  |false=>rw[hs]at h;cases h
  |true=>
   rw[hs]at h;obtain rfl:=aiO hs;simp only[cond_true]at h;split at h
   ·rename_i i _ e sz bt hx ht
    split at h
    ·rename_i k z0 hz
     cases hc:(Nat.beq sz 1&&Nat.blt 0 bt)with
     |false=>rw[hc]at h;cases h
     |true=>rw[hc]at h;simp only[aiP]at hc;obtain rfl:=aiO hc.1;simp only[cond_true]at h;obtain⟨g1,h⟩:=o8 h;obtain⟨g2,h⟩:=o8 h;exact cZ bD hg (abj ht hz hx g1 g2 (by simpa[Nat.blt_eq]using hc.2)) (Nat.le_succ _) h
    ·cases h
   ·cases h
 ·split at h
  ·rename_i t v hx
   exact⟨_,_,h,Nat.le_refl _,SN hg hx⟩
  ·cases h
 ·split at h
  ·rename_i k x y l hf ha
   cases hb:((oz x&&oz l)&&(oz y&&xI (lH C)))with
   |false=>rw[hb]at h;cases h
   |true=>rw[hb]at h;simp only[aiP]at hb;obtain⟨e,S3,k1,k2,k3⟩:=bD _ _ _ _ _ _ _ h;exact⟨e,S3,k1,k2,SO hg hf ha hb.2.2 k3⟩
  ·cases h
 ·rename_i args H9
  split at h
  ·rename_i x y T T' hA hT
   have eA:args= #[x,y]:=by rw[← Array.toArray_toList (xs:=args),hA]
   have eT:H9= #[T,T']:=by rw[← Array.toArray_toList (xs:=H9),hT]
   subst eA;subst eT;cases hb:Nat.beq T T' with
   |false=>rw[hb]at h;cases h
   |true=>
    rw[hb]at h;obtain rfl:=aiO hb;simp only[cond_true]at h;split at h
    ·rename_i q vy e sz bt hx hy ht
     split at h
     ·rename_i e' sz' t xs l ho hl
      cases hc:(Nat.beq e' e&&Nat.beq sz' sz)with
      |false=>rw[hc]at h;cases h
      |true=>
       rw[hc]at h;simp only[aiP]at hc;obtain rfl:=aiO hc.1;obtain rfl:=aiO hc.2;simp only[cond_true]at h;split at h
       ·rename_i ys hys
        obtain⟨g1,h⟩:=o8 h;exact cZ bD hg (abp ht hx hy ho hl hys g1) (Nat.le_succ _) h
       ·cases h
     ·cases h
    ·rename_i vy e sz bt hx hy ht
     split at h
     ·rename_i l hl
      cases hc:Nat.beq (l.t.L G).n sz with
      |false=>rw[hc]at h;cases h
      |true=>rw[hc]at h;simp only[cond_true]at h;obtain⟨g1,h⟩:=o8 h;exact cZ bD hg (XO ht hx hy hl (aiO hc) g1) (Nat.le_succ _) h
     ·cases h
    ·cases h
  ·cases h
 ·rename_i args H9
  split at h
  ·rename_i x y T T' hA hT
   have eA:args= #[x,y]:=by rw[← Array.toArray_toList (xs:=args),hA]
   have eT:H9= #[T,T']:=by rw[← Array.toArray_toList (xs:=H9),hT]
   subst eA;subst eT;split at h
   ·rename_i q vy e sz bt hx hy ht
    split at h
    ·rename_i e' sz' k xs l ho hl
     cases hc:((Nat.beq e' e&&Nat.beq sz 1)&&Nat.beq sz' 1)with
     |false=>rw[hc]at h;cases h
     |true=>
      rw[hc]at h;simp only[aiP]at hc;obtain rfl:=aiO hc.1.1;obtain rfl:=aiO hc.1.2;obtain rfl:=aiO hc.2;simp only[cond_true]at h;split at h
      ·rename_i ys hys
       exact cZ bD hg (XN ht hx hy ho hl hys) (Nat.le_refl _) h
      ·cases h
    ·cases h
   ·rename_i q p n i q' p' n' j e sz bt hx hy ht
    split at h
    ·rename_i T2 cc ho
     split at h
     ·rename_i m k f hl
      cases hc:((Nat.beq q q'&&Nat.beq n n')&&((Nat.beq m n&&Nat.beq sz 1)&&(I2 p p'&&abv [T,T'] T)))with
      |false=>rw[hc]at h;cases h
      |true=>rw[hc]at h;simp only[aiP]at hc;obtain rfl:=aiO hc.1.1;obtain rfl:=aiO hc.1.2;obtain rfl:=aiO hc.2.1.1;obtain rfl:=aiO hc.2.1.2;have hT:=hc.2.2.2;simp only[abv,aiP]at hT;obtain rfl:=aiO hT.2;simp only[cond_true]at h;obtain⟨c',h1,h2⟩:=Tg h;exact cZ bD hg (abl ht hx hy hc.2.2.1 ho hl h1) (Nat.le_refl _) h2
     ·cases h
    ·cases h
   ·cases h
  ·cases h
 ·rename_i args H9
  split at h
  ·rename_i x T hA hT
   have eA:args= #[x]:=by rw[← Array.toArray_toList (xs:=args),hA]
   have eT:H9= #[T]:=by rw[← Array.toArray_toList (xs:=H9),hT]
   subst eA;subst eT;split at h
   ·rename_i q p n i e sz bt hx ht
    split at h
    ·rename_i T2 cc ho
     split at h
     ·rename_i m k f hl
      cases hc:((Nat.beq i.toNat n&&Nat.blt 0 n)&&((Nat.beq m n&&Nat.beq sz 1)&&CH P e k))with
      |false=>rw[hc]at h;cases h
      |true=>rw[hc]at h;simp only[aiP]at hc;obtain rfl:=aiO hc.2.1.1;obtain rfl:=aiO hc.2.1.2;simp only[cond_true]at h;obtain⟨c',h1,h2⟩:=Tg h;exact cZ bD hg (abm ht hx hc.1.1 hc.1.2 ho hl hc.2.2 h1) (Nat.le_refl _) h2
     ·cases h
    ·cases h
   ·cases h
  ·cases h
 ·split at h
  ·exact cZ bD hg (Ns _) (Nat.le_succ _) h
  ·cases h
 ·split at h
  ·rename_i q ky k _ v hx hy hz
   split at h
   ·rename_i ik ks vs ho
    cases hc:((FF ky ik&&MF P _ ik)&&(Ji k ks&&oz vs))with
    |false=>rw[hc]at h;cases h
    |true=>rw[hc]at h;simp only[aiP]at hc;exact cZ bD hg (QL hx hy hz ho hc.1.1 hc.1.2 hc.2.1 hc.2.2) (Nat.le_refl _) h
   ·cases h
  ·cases h
 ·split at h
  ·rename_i k fst cap l hf ha
   have h0:=aam h;clear h;rcases h0 with⟨ct,x,g',Jt,h⟩|⟨b,l',h⟩|h
   ·cases hb:((oz fst&&oz l)&&(oz cap&&Nat.beq ct.s.k k))with
    |false=>rw[hb]at h;cases h
    |true=>
     rw[hb]at h;simp only[aiP]at hb;obtain⟨⟨b1,b2⟩,b3,b4⟩:=hb;obtain rfl:=aiO b4;have Mk:=Zi Jt;rcases ct.cps x _ _ z h with⟨y,hR,hy⟩|⟨y,hR,hy⟩
     ·split at hy
      ·rename_i v hd
       exact cZ bD hg (aeD hf ha b1 b2 Jt hR hd) (Nat.le_trans Mk (Nat.le_add_right _ _)) hy
      ·cases hy
     ·split at hy
      ·rename_i v hd
       exact⟨_,_,hy,Nat.le_trans Mk (Nat.le_add_right _ _),abe hg hf ha b1 b2 Jt hR hd⟩
      ·cases hy
   ·obtain⟨e,S1,h1,h2,h3⟩:=bD _ _ _ _ _ _ _ h
    have h2:=Nat.le_trans (LL l' _) h2;rw[wJ]at h2;exact⟨e,S1,h1,h2,B3 b (Lw l' h3)⟩
   split at h
   ·rename_i fi GU
    cases hb:((oz fst&&oz l)&&(oz cap&&Nat.ble (yP (nB fst (nB l cap))) fi.N))with
    |false=>rw[hb]at h;cases h
    |true=>
     rw[hb]at h;simp only[aiP]at hb;obtain⟨⟨b1,b2⟩,b3,b4⟩:=hb;have b4:=Nat.le_of_ble_eq_true b4;obtain⟨e,S1,h1,h2,h3⟩:=bD _ _ _ _ _ _ _ h;have h2:S.nx<=S1.nx:=h2;split at h1
     ·rename_i v O2 hX
      exact⟨_,_,h1,h2,SS (tt:=tb.tt) hg hf ha GU b1 b2 b3 b4 h3 hX⟩
     ·rename_i O2 hX
      split at h1
      ·rename_i v hres
       exact cZ bD hg (O0 hf ha GU b1 b2 b3 b4 h3 hX (.inl rfl) hres) h2 h1
      ·cases h1
     ·rename_i O2 hX
      split at h1
      ·rename_i v hres
       exact cZ bD hg (O0 hf ha GU b1 b2 b3 b4 h3 hX (.inr rfl) hres) h2 h1
      ·cases h1
     ·cases h1
   ·cases h
  ·rename_i q l hf ha
   split at h
   ·rename_i N2 ks vs ps a b hq
    cases hb:xI (lH C)with
    |false=>rw[hb]at h;cases h
    |true=>
     rw[hb]at h;simp only[cond_true]at h;obtain⟨S2,hbi,h⟩:=Qh h;obtain⟨e1,S3,h1,h2,h3⟩:=bD _ _ _ _ _ _ _ h;cases e1 with
     |jl=>
      obtain⟨e2,S4,k1,k2,k3⟩:=bD _ _ _ _ _ _ _ h1;cases e2 with
      |jl=>
       split at k1
       ·rename_i hD
        have hn:=Hz hbi;have hn:S2.nx=S.nx:=hn;exact cZ bD hg (Tj hf ha hq hb hbi h3 h2 k3 k2 hD) (by show S.nx<=S4.nx;omega) k1
       ·cases k1
      |_ =>cases k1
     |_ =>cases h1
   ·cases h
  ·cases h
 ·split at h
  ·rename_i g0 hgt
   cases hb:ri P _ with
   |false=>rw[hb]at h;cases h
   |true=>rw[hb]at h;exact cZ bD hg (Tp hgt hb) (Nat.le_succ _) h
  ·cases h
 ·split at h
  ·rename_i q ik k kb hx hy
   split at h
   ·rename_i ho
    split at h
    ·rename_i g0 hgt
     cases hb:(Nat.beq (Ty.bU.ik ik) (Ty.bU.ik g0.1)&&EE P _ g0.1)with
     |false=>rw[hb]at h;cases h
     |true=>rw[hb]at h;simp only[aiP]at hb;exact cZ bD hg (QK hgt hx ho hy hb.1 hb.2) (Nat.le_refl _) (afh h)
    ·cases h
   ·rename_i qk ks vs ho
    cases hb:(FF ik qk&&EE P _ qk)with
    |false=>rw[hb]at h;cases h
    |true=>rw[hb]at h;simp only[aiP]at hb;obtain⟨t,t1,t2⟩:=afi h;exact cZ bD hg (Tn hx hy ho hb.1 hb.2 t2) (Nat.le_refl _) t1
   ·cases h
  ·cases h
 ·split at h
  ·rename_i q k i qq e sz bt hx hh ht _
   split at h
   ·rename_i e' sz' t xs ho
    cases hc:(Nat.beq e' e&&Nat.beq sz' sz)with
    |false=>rw[hc]at h;cases h
    |true=>rw[hc]at h;simp only[aiP]at hc;obtain rfl:=aiO hc.1;obtain rfl:=aiO hc.2;simp only[cond_true]at h;obtain⟨g1,h⟩:=o8 h;exact cZ bD hg (abk ht hx ho hh g1) (Nat.le_succ _) h
   ·cases h
  ·rename_i q p k i qq hx hh _
   split at h
   ·rename_i T2 cc n e0 sz ho hT
    split at h
    ·rename_i m e f hl
     cases hc:Nat.beq m n with
     |false=>rw[hc]at h;cases h
     |true=>rw[hc]at h;obtain rfl:=aiO hc;simp only[cond_true]at h;obtain⟨g1,h⟩:=o8 h;exact cZ bD hg (Tm hT hx hh ho hl g1) (Nat.le_refl _) h
    ·cases h
   ·cases h
  ·exact Ds bD hg h
 ·split at h
  ·rename_i q k i qq e sz bt hc hx hh ht
   split at h
   ·rename_i e' sz' t xs ho _
    cases hc:(Nat.beq e' e&&Nat.beq sz' sz)with
    |false=>rw[hc]at h;cases h
    |true=>rw[hc]at h;simp only[aiP]at hc;obtain rfl:=aiO hc.1;obtain rfl:=aiO hc.2;simp only[cond_true]at h;obtain⟨g1,h⟩:=o8 h;exact cZ bD hg (Tq ht hx ho hh g1) (Nat.le_succ _) h
   ·exact Ds bD hg h
  ·rename_i d1 r2 q k0 i qq e sz bt hc hx hl ht
   split at h
   ·rename_i e' sz' k xs S1 ho hp
    cases hb:((Nat.beq e' e&&Nat.beq sz 1)&&(Nat.beq sz' 1&&CH P e k))with
    |false=>rw[hb]at h;cases h
    |true=>rw[hb]at h;simp only[aiP]at hb;obtain rfl:=aiO hb.1.1;obtain rfl:=aiO hb.1.2;obtain rfl:=aiO hb.2.1;simp only[cond_true]at h;obtain⟨g1,h⟩:=o8 h;obtain⟨e1,S3,h1,h2,h3⟩:=bD _ _ _ _ _ _ _ h;have Mk:=nG hp;refine⟨e1,S3,h1,(by rw[← Mk];exact h2),?_⟩;obtain⟨t2,p2,f2,rfl,rfl,rfl⟩:=acZ hc;exact SR ht hb.2.2 hx ho hl g1 hp h3
   ·exact Ds bD hg h
  ·exact Ds bD hg h
 ·exact Ds bD hg h
theorem acX(bD:pz P rec){o:Oper}{S:AS G}{j dj:Nat}{w:Bool}{no:Option Z}{gx:Option Bool}{cx:Option (Nat×AV G)}(KQ:o.guard=some (j,w))(hd:Hj all j=some dj)(he:Oe C S 8 dj w=gx)(hc:MN C S (chain C S 8 dj w) o.op=cx)
  (hno:no=some z->∃e S',K e S'=some z/\S.nx<=S'.nx/\US P N C (.ops all (o::r)) S S' e)(h:ctT tb rec N cp C all r o S K dj w no gx cx=some z):∃e S',K e S'=some z/\S.nx<=S'.nx/\US P N C (.ops all (o::r)) S S' e:=by
 unfold ctT at h;split at h
 ·rename_i g k aiL
  have h0:=aam h;clear h;rcases h0 with⟨ct,x,g',Jt,h⟩|⟨b,l',h⟩|h
  ·cases hb:Nat.beq ct.s.k k with
   |false=>rw[hb]at h;cases h
   |true=>
    rw[hb]at h;have hk:=aiO hb;simp only[cond_true]at h;unfold ctG at h;split at h
    ·rename_i hnm
     cases hn:(FD true ct.s.uU&&FD false ct.s.cN)with
     |false=>rw[hn]at h;exact hno h
     |true=>
      rw[hn]at h;simp only[aiP]at hn;obtain⟨y,hR,hy⟩:=ct.cgs g x _ z h;split at hy
      ·rename_i v hv
       split at hy
       ·rename_i S2 hp
        obtain⟨e,S3,k1,k2,k3⟩:=bD _ _ _ _ _ _ _ hy;have:=nG hp;exact⟨e,S3,k1,by omega,abf KQ hd he hc hk Jt hnm hn.1 hn.2 hR hv hp k3⟩
       ·cases hy
      ·cases hy
    ·exact hno h
  ·obtain⟨e,S1,h1,h2,h3⟩:=bD _ _ _ _ _ _ _ h
   have h2:=Nat.le_trans (LL l' _) h2;rw[wJ]at h2;exact⟨e,S1,h1,h2,B3 b (Lw l' h3)⟩
  ·exact hno h
 ·exact hno h
theorem OW{x:Operand}{a b:Code}{t:Bool}{S S1:AS G}{e:Ex G}(hx:fT C S [] x=some (.bool t))(h:US P N C (.code (bif t then a else b)) S S1 e):US P N C (.code (.cond x a b)) S S1 e:=by
 intro c ρ J HK X ac w Q hr hq;have ex:=zJ ((cQ hr (ch:=[]) (by simp)).ok _ _ hx);cases t with
 |true=>exact wpIn_cond_true ex (h c ρ J HK X ac w Q hr hq)
 |false=>exact wpIn_cond_false ex (h c ρ J HK X ac w Q hr hq)
theorem SQ{x:Operand}{a b:Code}{t:Bool}{S S1:AS G}{e:Ex G}(hx:fT C S [] x=some (.kb t))(h:US P N C (.code (bif t then a else b)) S S1 e):US P N C (.code (.cond x a b)) S S1 e:=by
 intro c ρ J HK X ac w Q hr hq;have ex:=I5 ((cQ hr (ch:=[]) (by simp)).ok _ _ hx);cases t with
 |true=>exact wpIn_cond_true ex (h c ρ J HK X ac w Q hr hq)
 |false=>exact wpIn_cond_false ex (h c ρ J HK X ac w Q hr hq)
theorem QC{i:Nat}{ops:Array Oper}{S S1:AS G}{e:Ex G}(h:US P N C (.ops ops ops.toList) S S1 e):US P N C (.code (.region i ops false)) S S1 e:=by intro c ρ J HK X a w Q hr hq;exact wpIn_region_list (h c ρ J HK X a w Q hr hq)
theorem J5{cf:Cf}{S S1:AS G}{e:Ex G}(p q:Nat->Bool)(h:US P N (⟨jt (λd=> !p d) S.F,cG (λr=> !q r) S.O,S.D⟩::C) cf ⟨jt p S.F,cG q S.O,S.nx,[]⟩ S1 e):US P N C cf S (Jf ⟨jt (λd=> !p d) S.F,cG (λr=> !q r) S.O,S.D⟩ S1) e:=by intro c ρ J HK X a w Q hr hq;obtain⟨H2,p1,p2⟩:=hr.push p q;refine h c ρ J (H2++HK) X a w Q p2 λρ' J' Y a' w' me k1 k2 k3 k4=>?_;have hle:=k1.le hr.fr;exact hq ρ' J' Y a' w' me k1 k2 k3 (k4.Jf (p1.up k2 hle) (hr.M1 k2 hle) hr.si.n)
theorem XE{x y:Code}{S S1 S2:AS G}{ly:Ly G}{g:M0}{p q:Nat->Bool}{e:HL G (aM (rP g.l))}{e2:Ex G}(hly:ly=⟨jt (λd=> !p d) S.F,cG (λr=> !q r) S.O,S.D⟩)(hl:xW S.nx (ly::C)=true)
  (h1:US P N (ly::C) (.code x) ⟨jt p S.F,cG q S.O,S.nx,[]⟩ S1 .jl)(hg:GX (ly::C) (lY (ly::C) S1 g.l) g S.nx=some e)(h2:US P N C (.code y) (Jf ly (Is g S.nx e)) S2 e2):US P N C (.code (.seq x y)) S S2 e2:=by
 subst hly;intro c ρ J HK X a w Q hr hq;obtain⟨H2,p1,p2⟩:=hr.push p q;refine wpIn_seq (h1 c ρ J (H2++HK) X a w _ p2 λρ' J' Y a' w' me k1 k2 k3 k4=>?_);rw[jf k3];obtain⟨J2,Y2,j1,k5⟩:=k4.lY g.l;obtain⟨ρ2,m1,m2⟩:=Yt k5 hg hl;have hto:ρ.to ρ2 S.nx:=λr hr'=>(m1 r hr').trans (k1 r hr');have hle:=hto.le hr.fr;have k2':∀w,J2 w->J w:=λw h=>k2 w (j1 w h);rw[← List.append_assoc]at m2;refine h2 c ρ2 J2 HK ((Y2++Y)++X) a' w' Q (m2.Jf (p1.up k2' hle) (hr.M1 k2' hle) hr.si.n) (hq.gP hto k2' ?_);show S.nx<=S.nx+_;omega
def USl(P:Program)(N:Nat)(C:CC G)(base:Nat)(x:Code)(S S':AS G)(e:Ex G):Prop:=∀(c:Cx) (ρ:aY) (J:World->Prop) (HK X:List aE) (a:Act) (w:World) (Q:Exit->Act->World->Prop),Rl c N ρ J HK X C S a w->Aft c N C ρ J HK X base S' e Q->LPr P c x Q a w
theorem SI{x:Code}{g:M0}{base:Nat}{e e':HL G (aM (rP g.l))}{S1 S2:AS G}{e2:Ex G}(hl:xW base C=true)(h1:US P N C (.code x) (Is g base e) S1 .jl)(hg:GX C (lY C S1 g.l) g base=some e')(h2:USl P N C base x (Is g base e') S2 e2):USl P N C base x (Is g base e) S2 e2:=by intro c ρ J HK X a w Q hr hq;refine Cq (h1 c ρ J HK X a w _ hr λρ' J' Y a' w' me k1 k2 k3 k4=>?_);rw[jf k3];obtain⟨J2,Y2,j1,k5⟩:=k4.lY g.l;obtain⟨ρ2,m1,m2⟩:=Yt k5 hg hl;have M3:ρ.to ρ' base:=λr hr'=>k1 r (by show r<base+_;omega);rw[← List.append_assoc]at m2;exact h2 c ρ2 J2 HK ((Y2++Y)++X) a' w' Q m2 (hq.gP (λr hr'=>(m1 r hr').trans (M3 r hr')) (λw h=>k2 w (j1 w h)) (Nat.le_refl _))
theorem Ge{x:Code}{g:M0}{base:Nat}{e:HL G (aM (rP g.l))}{S1:AS G}{e1:Ex G}(h1:US P N C (.code x) (Is g base e) S1 e1)(he:e1≠ .jl):USl P N C base x (Is g base e) S1 e1:=by intro c ρ J HK X a w Q hr hq;refine Cq (h1 c ρ J HK X a w _ hr λρ' J' Y a' w' me k1 k2 k3 k4=>?_);exact mI (ny he k3) (hq ρ' J' Y a' w' me (λr hr'=>k1 r (by show r<base+_;omega)) k2 k3 k4)
theorem XD{x:Code}{S S1:AS G}{g:M0}{v:AV G}{x0:HL G (aM (rP g.l))}{g':GS G}{p:Nat->Bool}{ly:Ly G}{e:Ex G}(hv:Dt C S g.l=some v)(Jt:nt (rP g.l) v ⟨[],S.O,S.nx⟩=some (x0,g'))(b1:wC g.nm g'.th=true)(b2:wD S.nx g.nm=true)
  (hly:ly=⟨jt p S.F,g'.O,S.D⟩)(hl:xW S.nx (ly::C)=true)(h:USl P N (ly::C) S.nx x (Is g S.nx x0) S1 e):US P N C (.code (.loop x)) S (Jf ly S1) e:=by
 intro c ρ J HK X a w Q hr hq;refine Gz ?_;have YU:xW S.nx C=true:=by simp only[xW,aiP]at hl;exact hl.2.2.2
 obtain⟨ρ',ρ2,HB,H',hto,ht2,GV,hleft,hC,hp,hF,hfc,hfr⟩:=Pj hr hv Jt b1 b2 (Nat.le_refl _) YU;have hag:∀r,r<S.nx->ρ' r=ρ2 r:=λr hr'=>(hto r hr').trans (ht2 r hr').symm;subst hly;have hl':=hl;simp only[xW,aiP]at hl';have hleft:=hleft.fb hag hl'.2.1;have hr':Rl c N ρ' J (H'++HK) X (⟨jt p S.F,g'.O,S.D⟩::C) (Is g S.nx x0) a w:=by
  refine⟨hr.tm,?_,⟨hr.si.s,λq=>hr.si.n (Cj q)⟩,hF,λy hy=>?_,λr o e=>?_,⟨HB,GV,by simpa using hp⟩,hr.kn,hfr⟩
  ·exact hr.df.fb hto (KB hl'.2.2.1 (Eo YU).2)
  ·rcases List.mem_cons.1 hy with rfl|hy
   ·exact(hr.fs.Xj).fb hto hl'.1
   ·exact hfc y hy
  ·have e:cU (g'.O++lH C) r=some o:=e
   rw[kz]at e;split at e
   ·rename_i v' Mh
    cases e;obtain⟨x,h1,h2⟩:=hleft.lk Mh;exact⟨x,aiT _ h1,h2⟩
   ·obtain⟨x,h1,h2⟩:=hC r o e
    exact⟨x,aiS _ h1,h2⟩
 refine h c ρ' J (H'++HK) X a w Q hr' λρ3 J3 Y a' w' me k1 k2 k3 k4=>?_;have M3:ρ.to ρ3 S.nx:=λr q=>(k1 r q).trans (hto r q);refine hq ρ3 J3 Y a' w' me M3 k2 k3 (k4.Jf ((hleft.fb k1 hl'.2.1).up k2 (aY.le_refl _)) (hr.M1 k2 (M3.le hr.fr)) hr.si.n)
theorem Yx(bD:pz P rec){x:Code}{g:M0}{base:Nat}{ly:Ly G}(hl:xW base (ly::C)=true){vw:Option (Vw G (aM (rP g.l)))}:∀(n:Nat) (e:HL G (aM (rP g.l))),lpV vw (λgo e=>rec N cp (ly::C) (.code x) (Is g base e) λe1 S1=>match e1 with
   | .jl=>match GX (ly::C) (lY (ly::C) S1 g.l) g base with
    |some e=>go e
    |none=>none
   |e1=>K e1 (Jf ly S1)) n e=some z->
  ∃e1 S1,K e1 (Jf ly S1)=some z/\base<=S1.nx/\USl P N (ly::C) base x (Is g base e) S1 e1:=by
 intro n
 induction n with
 |zero=>intro e h;obtain⟨m,h1,_⟩:=Pk h;cases h1
 |succ n ih=>
  intro e h;obtain⟨m,h1,h2⟩:=Pk h;cases h1;obtain⟨e1,S1,k1,k2,k3⟩:=bD _ _ _ _ _ _ _ h2;have k2:base<=S1.nx:=Nat.le_trans (Nat.le_add_right _ _) k2;cases e1 with
  |jl=>
   dsimp only at k1;split at k1
   ·rename_i e' hg
    obtain⟨e2,S2,m1,m2,m3⟩:=ih e' k1;exact⟨e2,S2,m1,m2,SI hl k3 hg m3⟩
   ·cases k1
  |exit i=>exact⟨_,S1,k1,k2,Ge k3 (by simp)⟩
  |ret=>exact⟨_,S1,k1,k2,Ge k3 (by simp)⟩
  |vW v=>exact⟨_,S1,k1,k2,Ge k3 (by simp)⟩
theorem abu(bD:pz P rec){x y:Code}{S:AS G}(h:(rec N cp C (.code x) S λe S'=>match e with
    | .jl=>rec N cp C (.code y) S' K
    |e=>K e S')=some z):∃e S',K e S'=some z/\S.nx<=S'.nx/\US P N C (.code (.seq x y)) S S' e:=by
 obtain⟨e1,S1,k1,k2,k3⟩:=bD _ _ _ _ _ _ _ h;cases e1 with
 |jl=>obtain⟨e2,S2,m1,m2,m3⟩:=bD _ _ _ _ _ _ _ k1;exact⟨e2,S2,m1,Nat.le_trans k2 m2,abb k3 m3 k2⟩
 |exit i=>exact⟨_,S1,k1,k2,oa k3 (by simp)⟩
 |ret=>exact⟨_,S1,k1,k2,oa k3 (by simp)⟩
 |vW v=>exact⟨_,S1,k1,k2,oa k3 (by simp)⟩
theorem Ye{x:Code}{S:AS G}{g:M0}{r:Option Z}(h:r=some z->∃e S',K e S'=some z/\(lY C S g.l).nx<=S'.nx/\US P N C (.code x) (lY C S g.l) S' e)(hr:r=some z):∃e S',K e S'=some z/\S.nx<=S'.nx/\US P N C (.code x) S S' e:=by obtain⟨e,S',h1,h2,h3⟩:=h hr;rw[Cb]at h2;exact⟨e,S',h1,h2,XC _ h3⟩
theorem aby(bD:pz P rec){ps:List Nat}{a b:Code}{S1:AS G}{g:M0}{it:It P G}{O:Os G}:∀(l:List it.B) (e:HL G (aM (rP g.l))),rgW rec N cp C ps a b S1 K g it l O e=some z->
  ∃e1 Sf,K e1 (QZ S1.nx S1 O Sf)=some z/\S1.nx<=Sf.nx/\RgT P N (Us ps a b C S1 O) ps a b g (S1.nx+2) it l e e1 Sf:=by
 intro l
 induction l with
 |nil=>intro e h;exact⟨_,_,YO h,by show S1.nx<=S1.nx+2+_;omega, .nil⟩
 |cons y l ih=>
  intro e h;have h:=UD h;obtain⟨S2,hb,h⟩:=Qh h;obtain⟨e1,S3,k1,k2,k3⟩:=bD _ _ _ _ _ _ _ h;have hS2:S1.nx<=S2.nx:=by rw[Hz hb];show S1.nx<=S1.nx+2+_;omega
  cases e1 with
  |jl=>
   obtain⟨e2,S4,m1,m2,m3⟩:=bD _ _ _ _ _ _ _ k1;cases e2 with
   |jl=>
    dsimp only at m1;split at m1
    ·rename_i e' hg
     obtain⟨e3,Sf,n1,n2,n3⟩:=ih e' m1;exact⟨e3,Sf,n1,n2, .gP hb k3 k2 m3 hg n3⟩
    ·cases m1
   |ret=>
    dsimp only at m1;cases hD:Uk S4.D with
    |false=>rw[hD]at m1;cases m1
    |true=>rw[hD]at m1;exact⟨_,S4,m1,by omega, .stop hb k3 k2 m3 (.inl rfl) (Uj hD)⟩
   |exit i=>
    dsimp only at m1;cases hD:Uk S4.D with
    |false=>rw[hD]at m1;cases m1
    |true=>rw[hD]at m1;exact⟨_,S4,m1,by omega, .stop hb k3 k2 m3 (.inr ⟨i,rfl⟩) (Uj hD)⟩
   |vW v=>cases m1
  |_ =>cases k1
theorem abz(bD:pz P rec){ps:Array Nat}{a b:Code}{k:Nat}{cap:AV G}{gl:List (R2×Sh)}{S:AS G}{R9:Operand}(KQ:fT C S [] R9=some (.fn (.func k) .nil cap)):∀{l:List (It P G)},rgK rec N cp C ps.toList a b k cap gl S K l=some z->
  ∃e S',K e S'=some z/\S.nx<=S'.nx/\US P N C (.code (.rangeFunc R9 ps a b)) S S' e:=by
 intro l
 induction l with
 |nil=>intro h;cases h
 |cons it q ih=>
  intro h;unfold rgK at h;split at h
  ·exact ih h
  ·rename_i x g1 Jt
   split at h
   ·rename_i g hg
    dsimp only at h;split at h
    ·rename_i v hv
     split at h
     ·rename_i x0 g2 aco
      revert h;generalize hcc:(((Nat.beq it.k k&&Nat.beq it.n ps.toList.length&&xI (lH C))&&(wC g.nm g2.th&&wD ((lY C ⟨S.F,g1.O,g1.nx,S.D⟩ g.l).nx+2) g.nm&&xW ((lY C ⟨S.F,g1.O,g1.nx,S.D⟩ g.l).nx+2) (Us ps.toList a b C (lY C ⟨S.F,g1.O,g1.nx,S.D⟩ g.l) g2.O)))&&((tS ((lY C ⟨S.F,g1.O,g1.nx,S.D⟩ g.l).nx+2) g2.O&&psN N ps.toList)&&(xW ((lY C ⟨S.F,g1.O,g1.nx,S.D⟩ g.l).nx+2) C&&Kv (g2.O++lH C))))=cc;intro h;cases cc with
      |false=>cases h
      |true=>simp only[aiP]at hcc;obtain⟨⟨⟨⟨c1,c2⟩,c3⟩,⟨c4,c5⟩,c6⟩,⟨c7,c8⟩,c9,c10⟩:=hcc;obtain rfl:=aiO c1;obtain⟨l,hf,h⟩:=rY h;obtain⟨e1,Sf,k1,k2,k3⟩:=aby bD l x0 h;refine⟨e1,_,k1,?_,SM KQ Jt rfl hv aco c4 c5 (by simpa using aiO c2) c3 c6 c7 c9 c8 c10 hf k3⟩;show S.nx<=Sf.nx;rw[Cb]at k2;exact Nat.le_trans (U9 Jt) k2
     ·cases h
    ·cases h
   ·cases h
theorem abA(bD:pz P rec){ps:Array Nat}{a b:Code}{k:Nat}{cap:AV G}{S:AS G}{R9:Operand}(KQ:fT C S [] R9=some (.fn (.func k) .nil cap))(h:rgI tb rec N cp C ps.toList a b k cap S K=some z):
  ∃e S',K e S'=some z/\S.nx<=S'.nx/\US P N C (.code (.rangeFunc R9 ps a b)) S S' e:=by
 unfold rgI at h;split at h
 ·rename_i fi ks vs GU hkv
  split at h
  ·rename_i hres
   cases hb:((oz cap&&Nat.ble (yP cap+1) fi.N)&&xI (lH C))with
   |false=>rw[hb]at h;cases h
   |true=>
    rw[hb]at h;simp only[aiP]at hb;obtain⟨⟨b1,b2⟩,b3⟩:=hb;have b2:=Nat.le_of_ble_eq_true b2;obtain⟨e,S1,h1,h2,h3⟩:=bD _ _ _ _ _ _ _ h;have h2:S.nx+2<=S1.nx:=h2;split at h1
    ·rename_i O2 hX
     exact⟨_,_,h1,by show S.nx<=S1.nx;omega,IW (tt:=tb.tt) KQ GU hres b1 b2 b3 hkv h3 h2 hX (.inl rfl)⟩
    ·rename_i O2 hX
     exact⟨_,_,h1,by show S.nx<=S1.nx;omega,IW (tt:=tb.tt) KQ GU hres b1 b2 b3 hkv h3 h2 hX (.inr rfl)⟩
    ·cases h1
  ·cases h
 ·cases h
theorem XK(bD:pz P rec):pz P (step tb rec):=by
 intro N cp C cf S K z h;unfold step at h;dsimp only at h;split at h
 ·exact⟨_,_,h,Nat.le_refl _,abd⟩
 ·rename_i all o r
  split at h
  ·rename_i hg;exact SG bD (.none hg) h
  ·rename_i j w hg
   split at h
   ·rename_i dj hd
    split at h
    ·rename_i hk;exact SG bD (.aaD hg hd hk) h
    ·rename_i hk
     split at h
     ·rename_i S2 hp
      obtain⟨e,S3,k1,k2,k3⟩:=bD _ _ _ _ _ _ _ h;have:=nG hp;exact⟨e,S3,k1,by omega,XB hg hd hk hp k3⟩
     ·cases h
    ·split at h
     ·rename_i g gs v he hv
      obtain⟨h1,h2⟩:=af0 h;split at h2
      ·rename_i S2 hp
       obtain⟨e,S3,k1,k2,k3⟩:=bD _ _ _ _ _ _ _ h2;have:=nG hp;exact⟨e,S3,k1,by omega,SP hg hd he hv h1 hp k3⟩
      ·cases h2
     ·refine acX bD hg hd rfl rfl (λh=>?_) h
      split at h
      ·rename_i k b hk
       cases b with
       |true=>have h:=Ot rfl h;obtain⟨e,S3,k1,k2,k3⟩:=bD _ _ _ _ _ _ _ h;exact⟨e,S3,k1,k2,OV hk k3⟩
       |false=>have h:=Ou rfl h;obtain⟨e,S3,k1,k2,k3⟩:=bD _ _ _ _ _ _ _ h;exact⟨e,S3,k1,k2,OV hk k3⟩
      ·cases h
   ·cases h
 ·split at h
  ·exact⟨_,_,h,Nat.le_refl _,λc ρ J HK X a w Q hr hq=>wpIn_skip (hq.here hr trivial)⟩
  ·exact⟨_,_,h,Nat.le_refl _,λc ρ J HK X a w Q hr hq=>wpIn_label (hq.here hr trivial)⟩
  ·exact⟨_,_,h,Nat.le_refl _,λc ρ J HK X a w Q hr hq=>wpIn_ret (hq.here hr trivial)⟩
  ·exact⟨_,_,h,Nat.le_refl _,λc ρ J HK X a w Q hr hq=>wpIn_exit (hq.here hr rfl)⟩
  ·obtain⟨e,S1,k1,k2,k3⟩:=bD _ _ _ _ _ _ _ h
   exact⟨e,S1,k1,k2,QC k3⟩
  ·exact acU bD h
  ·rename_i i x
   obtain⟨e1,S1,k1,k2,k3⟩:=bD _ _ _ _ _ _ _ h;cases e1 with
   |exit j=>
    dsimp only at k1;cases hb:Nat.beq i j with
    |true=>rw[hb]at k1;have e:=aiO hb;exact⟨_,S1,k1,k2,yz k3 (.inl ⟨by rw[e],rfl⟩)⟩
    |false=>rw[hb]at k1;exact⟨_,S1,k1,k2,yz k3 (.inr ⟨rfl,λq=>by cases q;rw[Nat.beq_refl]at hb;cases hb⟩)⟩
   |jl=>exact⟨_,S1,k1,k2,yz k3 (.inr ⟨rfl,by simp⟩)⟩
   |ret=>exact⟨_,S1,k1,k2,yz k3 (.inr ⟨rfl,by simp⟩)⟩
   |vW v=>exact⟨_,S1,k1,k2,yz k3 (.inr ⟨rfl,by simp⟩)⟩
  ·obtain⟨e,S1,k1,k2,k3⟩:=bD _ _ _ _ _ _ _ h
   exact⟨e,S1,k1,k2,SJ k3⟩
  ·split at h
   ·rename_i t hx
    cases t with
    |true=>have h:=Ot rfl h;obtain⟨e,S1,k1,k2,k3⟩:=bD _ _ _ _ _ _ _ h;exact⟨e,S1,k1,k2,OW hx k3⟩
    |false=>have h:=Ou rfl h;obtain⟨e,S1,k1,k2,k3⟩:=bD _ _ _ _ _ _ _ h;exact⟨e,S1,k1,k2,OW hx k3⟩
   ·rename_i t hx
    obtain⟨e,S1,k1,k2,k3⟩:=bD _ _ _ _ _ _ _ h;exact⟨e,S1,k1,k2,SQ hx k3⟩
   ·cases h
  ·rename_i x y
   split at h
   ·rename_i gl ex _
    split at h
    ·rename_i g _
     cases hb:xW S.nx ((⟨jt (λd=> !(dm (IT x) d||yR g.l d)) S.F,cG (λq=> !dm (QE C S gl++L2 C S ex) q) S.O,S.D⟩:Ly G)::C)with
     |false=>rw[hb]at h;cases h
     |true=>
      rw[hb]at h;have h:=afj h;obtain⟨e1,S1,k1,k2,k3⟩:=bD _ _ _ _ _ _ _ h;have k2:S.nx<=S1.nx:=k2;cases e1 with
      |jl=>
       dsimp only at k1;split at k1
       ·rename_i e hg
        obtain⟨e2,S2,m1,m2,m3⟩:=bD _ _ _ _ _ _ _ k1;have m2:S.nx+g.nm.length<=S2.nx:=m2;exact⟨e2,S2,m1,by omega,XE rfl hb k3 hg m3⟩
       ·cases k1
      |exit i=>exact⟨_,_,k1,k2,oa (J5 _ _ k3) (by simp)⟩
      |ret=>exact⟨_,_,k1,k2,oa (J5 _ _ k3) (by simp)⟩
      |vW v=>exact⟨_,_,k1,k2,oa (J5 _ _ k3) (by simp)⟩
    ·cases h
   ·exact abu bD h
  ·rename_i x
   split at h
   ·rename_i gl _
    split at h
    ·cases h
    ·rename_i g _
     have hp:=Cb (C:=C) (S:=S) (l:=g.l);refine Ye (g:=g) (λh=>?_) h;clear hp;generalize lY C S g.l=S at h;split at h
     ·rename_i v hv
      split at h
      ·rename_i x0 g' Jt
       cases hb:(wC g.nm g'.th&&wD S.nx g.nm)with
       |false=>rw[hb]at h;cases h
       |true=>
        rw[hb]at h;simp only[aiP]at hb;simp only[cond_true]at h;cases hc:xW S.nx ((⟨jt (λd=> !(dm (IT x) d||yR g.l d)) S.F,g'.O,S.D⟩:Ly G)::C)with
        |false=>rw[hc]at h;cases h
        |true=>rw[hc]at h;obtain⟨e1,S1,k1,k2,k3⟩:=Yx (g:=g) bD hc _ _ h;exact⟨e1,_,k1,k2,XD hv Jt hb.1 hb.2 rfl hc k3⟩
      ·cases h
     ·cases h
   ·obtain⟨e1,S1,k1,k2,k3⟩:=bD _ _ _ _ _ _ _ h
    exact⟨e1,S1,k1,k2,aeq k3⟩
   ·cases h
  ·split at h
   ·rename_i KQ _
    exact abz bD KQ h
   ·rename_i KQ _
    exact abA bD KQ h
   ·cases h
  ·cases h
 ·rename_i x
  obtain⟨e1,S1,k1,k2,k3⟩:=bD _ _ _ _ _ _ _ h;cases e1 with
  |jl=>obtain⟨e2,S2,m1,m2,m3⟩:=bD _ _ _ _ _ _ _ k1;exact⟨e2,S2,m1,Nat.le_trans k2 m2,Nl k3 m3 k2⟩
  |exit i=>exact⟨_,S1,k1,k2,A6 k3 (by simp)⟩
  |ret=>exact⟨_,S1,k1,k2,A6 k3 (by simp)⟩
  |vW v=>exact⟨_,S1,k1,k2,A6 k3 (by simp)⟩
theorem agp:∀n:Nat,pz P (W (Z:=Z) tb n):=by
 intro n
 induction n with
 |zero=>intro N cp C cf S K z h;cases h
 |succ n ih=>exact XK ih
end Go.Rw
namespace Go.Proofs.Z
open Go Go.Bw Go.Rw Go.RowKit
structure fC where
 Do:Int
 I:Int
 V:Int
abbrev jZ:cP fC:=cP.via (LP (LI .u8) (LP (LI .i64) (LI .u64))) (λx=>(x.Do,x.I,x.V))
abbrev qH:fC:=⟨0,0,0⟩
instance:Inhabited fC:=⟨qH⟩
def BK:List Value:=[.int .u8 0]++([.int .i64 0]++([.int .u64 0]))
theorem JM{A:World->Prop}:jZ.eI A BK qH:=⟨_,_,rfl,rfl,⟨_,_,rfl,rfl,rfl⟩⟩
theorem HY:aX jZ (LI .u8) 0 (λx=>x.Do) (λx v=>{x with Do:=v}):=(aX.fst aX.id).via _ _ _ 0 rfl (λ_ =>rfl) (λ_ _ =>rfl)
theorem IN:aX jZ (LI .i64) 1 (λx=>x.I) (λx v=>{x with I:=v}):=(aX.snd (aX.fst aX.id)).via _ _ _ 1 rfl (λ_ =>rfl) (λ_ _ =>rfl)
theorem IM:aX jZ (LI .u64) 2 (λx=>x.V) (λx v=>{x with V:=v}):=(aX.snd (aX.snd aX.id)).via _ _ _ 2 rfl (λ_ =>rfl) (λ_ _ =>rfl)
structure aT where
 L:(List Int)
 rN:Int
abbrev sw:cP aT:=cP.via (LP (@WU Int ⟨0⟩ (LI .u64)) (LI .i64)) (λx=>(x.L,x.rN))
abbrev kF:aT:=⟨[],0⟩
instance:Inhabited aT:=⟨kF⟩
def Ay:List Value:=[.slice none 0 0]++([.int .i64 0])
theorem Ii{A:World->Prop}:sw.eI A Ay kF:=⟨_,_,rfl,⟨_,_,rfl,BF.nil⟩,rfl⟩
theorem HO:aX sw (@WU Int ⟨0⟩ (LI .u64)) 0 (λx=>x.L) (λx v=>{x with L:=v}):=(aX.fst aX.id).via _ _ _ 0 rfl (λ_ =>rfl) (λ_ _ =>rfl)
theorem Bz:aX sw (LI .i64) 1 (λx=>x.rN) (λx v=>{x with rN:=v}):=(aX.snd aX.id).via _ _ _ 1 rfl (λ_ =>rfl) (λ_ _ =>rfl)
structure ah where
 E:Int
 V:Int
 W:Int
abbrev di:cP ah:=cP.via (LP (LI .i64) (LP (LI .u64) (LI .u32))) (λx=>(x.E,x.V,x.W))
abbrev ay:ah:=⟨0,0,0⟩
instance:Inhabited ah:=⟨ay⟩
def iM:List Value:=[.int .i64 0]++([.int .u64 0]++([.int .u32 0]))
theorem w5{A:World->Prop}:di.eI A iM ay:=⟨_,_,rfl,rfl,⟨_,_,rfl,rfl,rfl⟩⟩
theorem Ee:aX di (LI .i64) 0 (λx=>x.E) (λx v=>{x with E:=v}):=(aX.fst aX.id).via _ _ _ 0 rfl (λ_ =>rfl) (λ_ _ =>rfl)
theorem Ed:aX di (LI .u64) 1 (λx=>x.V) (λx v=>{x with V:=v}):=(aX.snd (aX.fst aX.id)).via _ _ _ 1 rfl (λ_ =>rfl) (λ_ _ =>rfl)
theorem Ec:aX di (LI .u32) 2 (λx=>x.W) (λx v=>{x with W:=v}):=(aX.snd (aX.snd aX.id)).via _ _ _ 2 rfl (λ_ =>rfl) (λ_ _ =>rfl)
structure aC where
 Do:Int
 R:Int
 S:Int
 A:Int
 B:Int
 V:Int
abbrev gq:cP aC:=cP.via (LP (LI .u8) (LP (LI .u32) (LP (LI .u32) (LP (LI .u32) (LP (LI .u32) (LI .u64)))))) (λx=>(x.Do,x.R,x.S,x.A,x.B,x.V))
abbrev eF:aC:=⟨0,0,0,0,0,0⟩
def kT:List Value:=[.int .u8 0]++([.int .u32 0]++([.int .u32 0]++([.int .u32 0]++([.int .u32 0]++([.int .u64 0])))))
theorem uL{A:World->Prop}:gq.eI A kT eF:=⟨_,_,rfl,rfl,⟨_,_,rfl,rfl,⟨_,_,rfl,rfl,⟨_,_,rfl,rfl,⟨_,_,rfl,rfl,rfl⟩⟩⟩⟩⟩
theorem Fj:aX gq (LI .u8) 0 (λx=>x.Do) (λx v=>{x with Do:=v}):=(aX.fst aX.id).via _ _ _ 0 rfl (λ_ =>rfl) (λ_ _ =>rfl)
theorem HV:aX gq (LI .u32) 1 (λx=>x.R) (λx v=>{x with R:=v}):=(aX.snd (aX.fst aX.id)).via _ _ _ 1 rfl (λ_ =>rfl) (λ_ _ =>rfl)
theorem HU:aX gq (LI .u32) 2 (λx=>x.S) (λx v=>{x with S:=v}):=(aX.snd (aX.snd (aX.fst aX.id))).via _ _ _ 2 rfl (λ_ =>rfl) (λ_ _ =>rfl)
theorem HX:aX gq (LI .u32) 3 (λx=>x.A) (λx v=>{x with A:=v}):=(aX.snd (aX.snd (aX.snd (aX.fst aX.id)))).via _ _ _ 3 rfl (λ_ =>rfl) (λ_ _ =>rfl)
theorem HW:aX gq (LI .u32) 4 (λx=>x.B) (λx v=>{x with B:=v}):=(aX.snd (aX.snd (aX.snd (aX.snd (aX.fst aX.id))))).via _ _ _ 4 rfl (λ_ =>rfl) (λ_ _ =>rfl)
theorem HT:aX gq (LI .u64) 5 (λx=>x.V) (λx v=>{x with V:=v}):=(aX.snd (aX.snd (aX.snd (aX.snd (aX.snd aX.id))))).via _ _ _ 5 rfl (λ_ =>rfl) (λ_ _ =>rfl)
structure av where
 At:Int
 N:Int
abbrev bI:cP av:=cP.via (LP (LI .i64) (LI .i64)) (λx=>(x.At,x.N))
abbrev aB:av:=⟨0,0⟩
instance:Inhabited av:=⟨aB⟩
def n8:List Value:=[.int .i64 0]++([.int .i64 0])
theorem yb{A:World->Prop}:bI.eI A n8 aB:=⟨_,_,rfl,rfl,rfl⟩
theorem II:aX bI (LI .i64) 0 (λx=>x.At) (λx v=>{x with At:=v}):=(aX.fst aX.id).via _ _ _ 0 rfl (λ_ =>rfl) (λ_ _ =>rfl)
theorem Lm:aX bI (LI .i64) 1 (λx=>x.N) (λx v=>{x with N:=v}):=(aX.snd aX.id).via _ _ _ 1 rfl (λ_ =>rfl) (λ_ _ =>rfl)
structure aD where
 aK:(List av)
 dZ:Int
abbrev iQ:cP aD:=cP.via (LP (@WU av ⟨aB⟩ bI) (LI .i64)) (λx=>(x.aK,x.dZ))
abbrev cE:aD:=⟨[],0⟩
instance:Inhabited aD:=⟨cE⟩
def ig:List Value:=[.slice none 0 0]++([.int .i64 0])
theorem mG{A:World->Prop}:iQ.eI A ig cE:=⟨_,_,rfl,⟨_,_,rfl,BF.nil⟩,rfl⟩
theorem zy:aX iQ (@WU av ⟨aB⟩ bI) 0 (λx=>x.aK) (λx v=>{x with aK:=v}):=(aX.fst aX.id).via _ _ _ 0 rfl (λ_ =>rfl) (λ_ _ =>rfl)
theorem Ap:aX iQ (LI .i64) 1 (λx=>x.dZ) (λx v=>{x with dZ:=v}):=(aX.snd aX.id).via _ _ _ 1 rfl (λ_ =>rfl) (λ_ _ =>rfl)
structure aL where
 Up:Int
 gD:Int
 E:aD
 qP:(Nat->Int)
abbrev gE:cP aL:=cP.via (LP (LI .u32) (LP (LI .i64) (LP iQ (LA (LI .u32) 8)))) (λx=>(x.Up,x.gD,x.E,x.qP))
abbrev iz:aL:=⟨0,0,cE,(λ_ =>0)⟩
instance:Inhabited aL:=⟨iz⟩
def qT:List Value:=[.int .u32 0]++([.int .i64 0]++(ig++((flat (λ_ =>[.int .u32 0]) 8))))
theorem wZ{A:World->Prop}:gE.eI A qT iz:=⟨_,_,rfl,rfl,⟨_,_,rfl,rfl,⟨_,_,rfl,mG,⟨_,rfl,λ_ _ =>rfl⟩⟩⟩⟩
theorem CR:aX gE (LI .u32) 0 (λx=>x.Up) (λx v=>{x with Up:=v}):=(aX.fst aX.id).via _ _ _ 0 rfl (λ_ =>rfl) (λ_ _ =>rfl)
theorem zv:aX gE (LI .i64) 1 (λx=>x.gD) (λx v=>{x with gD:=v}):=(aX.snd (aX.fst aX.id)).via _ _ _ 1 rfl (λ_ =>rfl) (λ_ _ =>rfl)
theorem D9:aX gE iQ 2 (λx=>x.E) (λx v=>{x with E:=v}):=(aX.snd (aX.snd (aX.fst aX.id))).via _ _ _ 2 rfl (λ_ =>rfl) (λ_ _ =>rfl)
theorem zw:aX gE (LA (LI .u32) 8) 4 (λx=>x.qP) (λx v=>{x with qP:=v}):=(aX.snd (aX.snd (aX.snd aX.id))).via _ _ _ 4 rfl (λ_ =>rfl) (λ_ _ =>rfl)
structure dG where
 gen:Int
 kA:Bool
 kj:Bool
abbrev bV:cP dG:=cP.via (LP (LI .u32) (LP LB LB)) (λx=>(x.gen,x.kA,x.kj))
abbrev jv:dG:=⟨0,false,false⟩
def sJ:List Value:=[.int .u32 0]++([.bool false]++([.bool false]))
theorem yc{A:World->Prop}:bV.eI A sJ jv:=⟨_,_,rfl,rfl,⟨_,_,rfl,rfl,rfl⟩⟩
theorem ji:aX bV (LI .u32) 0 (λx=>x.gen) (λx v=>{x with gen:=v}):=(aX.fst aX.id).via _ _ _ 0 rfl (λ_ =>rfl) (λ_ _ =>rfl)
theorem mA:aX bV LB 1 (λx=>x.kA) (λx v=>{x with kA:=v}):=(aX.snd (aX.fst aX.id)).via _ _ _ 1 rfl (λ_ =>rfl) (λ_ _ =>rfl)
theorem pN:aX bV LB 2 (λx=>x.kj) (λx v=>{x with kj:=v}):=(aX.snd (aX.snd aX.id)).via _ _ _ 2 rfl (λ_ =>rfl) (λ_ _ =>rfl)
structure bR where
 bq:(Nat->dG)
abbrev aN:cP bR:=cP.via (LA bV 32) (λx=>x.bq)
abbrev ic:bR:=⟨(λ_ =>jv)⟩
instance:Inhabited bR:=⟨ic⟩
def oA:List Value:=(flat (λ_ =>sJ) 32)
theorem sG{A:World->Prop}:aN.eI A oA ic:=⟨_,rfl,λ_ _ =>yc⟩
theorem dI:aX aN (LA bV 32) 0 (λx=>x.bq) (λx v=>{x with bq:=v}):=aX.id.via _ _ _ 0 rfl (λ_ =>rfl) (λ_ _ =>rfl)
structure lT where
 kS:bR
abbrev pC:cP lT:=cP.via aN (λx=>x.kS)
abbrev wQ:lT:=⟨ic⟩
def Aw:List Value:=oA
theorem Ih{A:World->Prop}:pC.eI A Aw wQ:=sG
theorem CQ:aX pC aN 0 (λx=>x.kS) (λx v=>{x with kS:=v}):=aX.id.via _ _ _ 0 rfl (λ_ =>rfl) (λ_ _ =>rfl)
structure ax where
 fE:lT
 aW:(Nat->aL)
abbrev kX:cP ax:=cP.via (LP pC (LA gE 32)) (λx=>(x.fE,x.aW))
abbrev ei:ax:=⟨wQ,(λ_ =>iz)⟩
instance:Inhabited ax:=⟨ei⟩
def sI:List Value:=Aw++((flat (λ_ =>qT) 32))
theorem ya{A:World->Prop}:kX.eI A sI ei:=⟨_,_,rfl,Ih,⟨_,rfl,λ_ _ =>wZ⟩⟩
theorem Bx:aX kX pC 0 (λx=>x.fE) (λx v=>{x with fE:=v}):=(aX.fst aX.id).via _ _ _ 0 rfl (λ_ =>rfl) (λ_ _ =>rfl)
theorem xS:aX kX (LA gE 32) 96 (λx=>x.aW) (λx v=>{x with aW:=v}):=(aX.snd aX.id).via _ _ _ 96 rfl (λ_ =>rfl) (λ_ _ =>rfl)
structure fD where
 xU:Int
 jU:Int
 jj:Int
abbrev qa:cP fD:=cP.via (LP (LI .u8) (LP (LI .u8) (LI .u8))) (λx=>(x.xU,x.jU,x.jj))
abbrev sD:fD:=⟨0,0,0⟩
instance:Inhabited fD:=⟨sD⟩
def AT:List Value:=[.int .u8 0]++([.int .u8 0]++([.int .u8 0]))
theorem FV{A:World->Prop}:qa.eI A AT sD:=⟨_,_,rfl,rfl,⟨_,_,rfl,rfl,rfl⟩⟩
theorem HR:aX qa (LI .u8) 0 (λx=>x.xU) (λx v=>{x with xU:=v}):=(aX.fst aX.id).via _ _ _ 0 rfl (λ_ =>rfl) (λ_ _ =>rfl)
theorem HQ:aX qa (LI .u8) 1 (λx=>x.jU) (λx v=>{x with jU:=v}):=(aX.snd (aX.fst aX.id)).via _ _ _ 1 rfl (λ_ =>rfl) (λ_ _ =>rfl)
theorem CW:aX qa (LI .u8) 2 (λx=>x.jj) (λx v=>{x with jj:=v}):=(aX.snd (aX.snd aX.id)).via _ _ _ 2 rfl (λ_ =>rfl) (λ_ _ =>rfl)
structure l7 where
 root:Int
 own:fD
abbrev p9:cP l7:=cP.via (LP (LI .u32) qa) (λx=>(x.root,x.own))
abbrev pY:l7:=⟨0,sD⟩
def yd:List Value:=[.int .u32 0]++(AT)
theorem Ei{A:World->Prop}:p9.eI A yd pY:=⟨_,_,rfl,rfl,FV⟩
theorem Fh:aX p9 (LI .u32) 0 (λx=>x.root) (λx v=>{x with root:=v}):=(aX.fst aX.id).via _ _ _ 0 rfl (λ_ =>rfl) (λ_ _ =>rfl)
theorem HP:aX p9 qa 1 (λx=>x.own) (λx v=>{x with own:=v}):=(aX.snd aX.id).via _ _ _ 1 rfl (λ_ =>rfl) (λ_ _ =>rfl)
structure dz where
 bq:(Nat->l7)
abbrev tQ:cP dz:=cP.via (LA p9 32) (λx=>x.bq)
abbrev pZ:dz:=⟨(λ_ =>pY)⟩
instance:Inhabited dz:=⟨pZ⟩
def ye:List Value:=(flat (λ_ =>yd) 32)
theorem Ej{A:World->Prop}:tQ.eI A ye pZ:=⟨_,rfl,λ_ _ =>Ei⟩
theorem Eb:aX tQ (LA p9 32) 0 (λx=>x.bq) (λx v=>{x with bq:=v}):=aX.id.via _ _ _ 0 rfl (λ_ =>rfl) (λ_ _ =>rfl)
structure bB where
 Region:Int
 By:Int
 To:Int
 mT:Bool
 uK:Int
abbrev bx:cP bB:=cP.via (LP (LI .u32) (LP (LI .u8) (LP (LI .u8) (LP LB (LI .u32))))) (λx=>(x.Region,x.By,x.To,x.mT,x.uK))
abbrev ia:bB:=⟨0,0,0,false,0⟩
instance:Inhabited bB:=⟨ia⟩
def sH:List Value:=[.int .u32 0]++([.int .u8 0]++([.int .u8 0]++([.bool false]++([.int .u32 0]))))
theorem xZ{A:World->Prop}:bx.eI A sH ia:=⟨_,_,rfl,rfl,⟨_,_,rfl,rfl,⟨_,_,rfl,rfl,⟨_,_,rfl,rfl,rfl⟩⟩⟩⟩
theorem zu:aX bx (LI .u32) 0 (λx=>x.Region) (λx v=>{x with Region:=v}):=(aX.fst aX.id).via _ _ _ 0 rfl (λ_ =>rfl) (λ_ _ =>rfl)
theorem D8:aX bx (LI .u8) 1 (λx=>x.By) (λx v=>{x with By:=v}):=(aX.snd (aX.fst aX.id)).via _ _ _ 1 rfl (λ_ =>rfl) (λ_ _ =>rfl)
theorem D7:aX bx (LI .u8) 2 (λx=>x.To) (λx v=>{x with To:=v}):=(aX.snd (aX.snd (aX.fst aX.id))).via _ _ _ 2 rfl (λ_ =>rfl) (λ_ _ =>rfl)
theorem xR:aX bx LB 3 (λx=>x.mT) (λx v=>{x with mT:=v}):=(aX.snd (aX.snd (aX.snd (aX.fst aX.id)))).via _ _ _ 3 rfl (λ_ =>rfl) (λ_ _ =>rfl)
theorem rM:aX bx (LI .u32) 4 (λx=>x.uK) (λx v=>{x with uK:=v}):=(aX.snd (aX.snd (aX.snd (aX.snd aX.id)))).via _ _ _ 4 rfl (λ_ =>rfl) (λ_ _ =>rfl)
structure aV where
 fE:bR
 bq:(Nat->bB)
abbrev az:cP aV:=cP.via (LP aN (LA bx 16)) (λx=>(x.fE,x.bq))
abbrev dL:aV:=⟨ic,(λ_ =>ia)⟩
instance:Inhabited aV:=⟨dL⟩
def qS:List Value:=oA++((flat (λ_ =>sH) 16))
theorem wY{A:World->Prop}:az.eI A qS dL:=⟨_,_,rfl,sG,⟨_,rfl,λ_ _ =>xZ⟩⟩
theorem eM:aX az aN 0 (λx=>x.fE) (λx v=>{x with fE:=v}):=(aX.fst aX.id).via _ _ _ 0 rfl (λ_ =>rfl) (λ_ _ =>rfl)
theorem qK:aX az (LA bx 16) 96 (λx=>x.bq) (λx v=>{x with bq:=v}):=(aX.snd aX.id).via _ _ _ 96 rfl (λ_ =>rfl) (λ_ _ =>rfl)
structure bX where
 T:ax
 O:dz
 K:aV
abbrev fj:cP bX:=cP.via (LP kX (LP tQ az)) (λx=>(x.T,x.O,x.K))
abbrev wR:bX:=⟨ei,pZ,dL⟩
def Az:List Value:=sI++(ye++(qS))
theorem Ij{A:World->Prop}:fj.eI A Az wR:=⟨_,_,rfl,ya,⟨_,_,rfl,Ej,wY⟩⟩
theorem HZ:aX fj kX 0 (λx=>x.T) (λx v=>{x with T:=v}):=(aX.fst aX.id).via _ _ _ 0 rfl (λ_ =>rfl) (λ_ _ =>rfl)
theorem H6:aX fj tQ 480 (λx=>x.O) (λx v=>{x with O:=v}):=(aX.snd (aX.fst aX.id)).via _ _ _ 480 rfl (λ_ =>rfl) (λ_ _ =>rfl)
theorem H7:aX fj az 608 (λx=>x.K) (λx v=>{x with K:=v}):=(aX.snd (aX.snd aX.id)).via _ _ _ 608 rfl (λ_ =>rfl) (λ_ _ =>rfl)
structure aS where
 H8:Int
 ID:Int
 Region:Int
 zn:Bool
abbrev fe:cP aS:=cP.via (LP (LI .u8) (LP (LI .u64) (LP (LI .u32) LB))) (λx=>(x.H8,x.ID,x.Region,x.zn))
abbrev iA:aS:=⟨0,0,0,false⟩
instance:Inhabited aS:=⟨iA⟩
def qU:List Value:=[.int .u8 0]++([.int .u64 0]++([.int .u32 0]++([.bool false])))
theorem w6{A:World->Prop}:fe.eI A qU iA:=⟨_,_,rfl,rfl,⟨_,_,rfl,rfl,⟨_,_,rfl,rfl,rfl⟩⟩⟩
theorem Ao:aX fe (LI .u8) 0 (λx=>x.H8) (λx v=>{x with H8:=v}):=(aX.fst aX.id).via _ _ _ 0 rfl (λ_ =>rfl) (λ_ _ =>rfl)
theorem An:aX fe (LI .u64) 1 (λx=>x.ID) (λx v=>{x with ID:=v}):=(aX.snd (aX.fst aX.id)).via _ _ _ 1 rfl (λ_ =>rfl) (λ_ _ =>rfl)
theorem xT:aX fe (LI .u32) 2 (λx=>x.Region) (λx v=>{x with Region:=v}):=(aX.snd (aX.snd (aX.fst aX.id))).via _ _ _ 2 rfl (λ_ =>rfl) (λ_ _ =>rfl)
theorem zx:aX fe LB 3 (λx=>x.zn) (λx v=>{x with zn:=v}):=(aX.snd (aX.snd (aX.snd aX.id))).via _ _ _ 3 rfl (λ_ =>rfl) (λ_ _ =>rfl)
structure cm where
 ring:(Nat->aS)
 xx:Int
 n:Int
 closed:Bool
abbrev mD:cP cm:=cP.via (LP (LA fe 4) (LP (LI .i64) (LP (LI .i64) LB))) (λx=>(x.ring,x.xx,x.n,x.closed))
abbrev p6:cm:=⟨(λ_ =>iA),0,0,false⟩
instance:Inhabited cm:=⟨p6⟩
def yf:List Value:=(flat (λ_ =>qU) 4)++([.int .i64 0]++([.int .i64 0]++([.bool false])))
theorem El{A:World->Prop}:mD.eI A yf p6:=⟨_,_,rfl,⟨_,rfl,λ_ _ =>w6⟩,⟨_,_,rfl,rfl,⟨_,_,rfl,rfl,rfl⟩⟩⟩
theorem Fm:aX mD (LA fe 4) 0 (λx=>x.ring) (λx v=>{x with ring:=v}):=(aX.fst aX.id).via _ _ _ 0 rfl (λ_ =>rfl) (λ_ _ =>rfl)
theorem Eg:aX mD (LI .i64) 16 (λx=>x.xx) (λx v=>{x with xx:=v}):=(aX.snd (aX.fst aX.id)).via _ _ _ 16 rfl (λ_ =>rfl) (λ_ _ =>rfl)
theorem Ln:aX mD (LI .i64) 17 (λx=>x.n) (λx v=>{x with n:=v}):=(aX.snd (aX.snd (aX.fst aX.id))).via _ _ _ 17 rfl (λ_ =>rfl) (λ_ _ =>rfl)
theorem CY:aX mD LB 18 (λx=>x.closed) (λx v=>{x with closed:=v}):=(aX.snd (aX.snd (aX.snd aX.id))).via _ _ _ 18 rfl (λ_ =>rfl) (λ_ _ =>rfl)
structure ae where
 dH:bX
 kR:(Nat->cm)
 mF:(Nat->Bool)
 Ft:(Nat->Bool)
abbrev kY:cP ae:=cP.via (LP fj (LP (LA mD 8) (LP (LA LB 8) (LA LB 8)))) (λx=>(x.dH,x.kR,x.mF,x.Ft))
abbrev cS:ae:=⟨wR,(λ_ =>p6),(λ_ =>false),(λ_ =>false)⟩
instance:Inhabited ae:=⟨cS⟩
def gv:List Value:=Az++((flat (λ_ =>yf) 8)++((flat (λ_ =>[.bool false]) 8)++((flat (λ_ =>[.bool false]) 8))))
theorem sF{A:World->Prop}:kY.eI A gv cS:=⟨_,_,rfl,Ij,⟨_,_,rfl,⟨_,rfl,λ_ _ =>El⟩,⟨_,_,rfl,⟨_,rfl,λ_ _ =>rfl⟩,⟨_,rfl,λ_ _ =>rfl⟩⟩⟩⟩
theorem CX:aX kY fj 0 (λx=>x.dH) (λx v=>{x with dH:=v}):=(aX.fst aX.id).via _ _ _ 0 rfl (λ_ =>rfl) (λ_ _ =>rfl)
theorem Al:aX kY (LA mD 8) 784 (λx=>x.kR) (λx v=>{x with kR:=v}):=(aX.snd (aX.fst aX.id)).via _ _ _ 784 rfl (λ_ =>rfl) (λ_ _ =>rfl)
theorem Am:aX kY (LA LB 8) 936 (λx=>x.mF) (λx v=>{x with mF:=v}):=(aX.snd (aX.snd (aX.fst aX.id))).via _ _ _ 936 rfl (λ_ =>rfl) (λ_ _ =>rfl)
theorem BA:aX kY (LA LB 8) 944 (λx=>x.Ft) (λx v=>{x with Ft:=v}):=(aX.snd (aX.snd (aX.snd aX.id))).via _ _ _ 944 rfl (λ_ =>rfl) (λ_ _ =>rfl)
structure cj where
 E0:Int
 n:Int
 EM:(Nat->Int)
abbrev mB:cP cj:=cP.via (LP (LI .u8) (LP (LI .i64) (LA (LI .u8) 8))) (λx=>(x.E0,x.n,x.EM))
abbrev oo:cj:=⟨0,0,(λ_ =>0)⟩
instance:Inhabited cj:=⟨oo⟩
def vY:List Value:=[.int .u8 0]++([.int .i64 0]++((flat (λ_ =>[.int .u8 0]) 8)))
theorem BH{A:World->Prop}:mB.eI A vY oo:=⟨_,_,rfl,rfl,⟨_,_,rfl,rfl,⟨_,rfl,λ_ _ =>rfl⟩⟩⟩
theorem Fk:aX mB (LI .u8) 0 (λx=>x.E0) (λx v=>{x with E0:=v}):=(aX.fst aX.id).via _ _ _ 0 rfl (λ_ =>rfl) (λ_ _ =>rfl)
theorem IK:aX mB (LI .i64) 1 (λx=>x.n) (λx v=>{x with n:=v}):=(aX.snd (aX.fst aX.id)).via _ _ _ 1 rfl (λ_ =>rfl) (λ_ _ =>rfl)
theorem Ef:aX mB (LA (LI .u8) 8) 2 (λx=>x.EM) (λx v=>{x with EM:=v}):=(aX.snd (aX.snd aX.id)).via _ _ _ 2 rfl (λ_ =>rfl) (λ_ _ =>rfl)
structure ai where
 bq:(Nat->cj)
abbrev wX:cP ai:=cP.via (LA mB 32) (λx=>x.bq)
abbrev bA:ai:=⟨(λ_ =>oo)⟩
instance:Inhabited ai:=⟨bA⟩
def nj:List Value:=(flat (λ_ =>vY) 32)
theorem Au{A:World->Prop}:wX.eI A nj bA:=⟨_,rfl,λ_ _ =>BH⟩
theorem BB:aX wX (LA mB 32) 0 (λx=>x.bq) (λx v=>{x with bq:=v}):=aX.id.via _ _ _ 0 rfl (λ_ =>rfl) (λ_ _ =>rfl)
structure aF where
 jU:Int
 C:aC
 Checked:Bool
 ew:(List Int)
 xY:av
 qg:Int
abbrev j0:cP aF:=cP.via (LP (LI .i64) (LP gq (LP LB (LP (@WU Int ⟨0⟩ (LI .u32)) (LP bI (LI .i64)))))) (λx=>(x.jU,x.C,x.Checked,x.ew,x.xY,x.qg))
abbrev jY:aF:=⟨0,eF,false,[],aB,0⟩
instance:Inhabited aF:=⟨jY⟩
def oB:List Value:=[.int .i64 0]++(kT++([.bool false]++([.slice none 0 0]++(n8++([.int .i64 0])))))
theorem BI{A:World->Prop}:j0.eI A oB jY:=⟨_,_,rfl,rfl,⟨_,_,rfl,uL,⟨_,_,rfl,rfl,⟨_,_,rfl,⟨_,_,rfl,BF.nil⟩,⟨_,_,rfl,yb,rfl⟩⟩⟩⟩⟩
theorem Eh:aX j0 (LI .i64) 0 (λx=>x.jU) (λx v=>{x with jU:=v}):=(aX.fst aX.id).via _ _ _ 0 rfl (λ_ =>rfl) (λ_ _ =>rfl)
theorem IP:aX j0 gq 1 (λx=>x.C) (λx v=>{x with C:=v}):=(aX.snd (aX.fst aX.id)).via _ _ _ 1 rfl (λ_ =>rfl) (λ_ _ =>rfl)
theorem As:aX j0 LB 7 (λx=>x.Checked) (λx v=>{x with Checked:=v}):=(aX.snd (aX.snd (aX.fst aX.id))).via _ _ _ 7 rfl (λ_ =>rfl) (λ_ _ =>rfl)
theorem Aq:aX j0 (@WU Int ⟨0⟩ (LI .u32)) 8 (λx=>x.ew) (λx v=>{x with ew:=v}):=(aX.snd (aX.snd (aX.snd (aX.fst aX.id)))).via _ _ _ 8 rfl (λ_ =>rfl) (λ_ _ =>rfl)
theorem Fo:aX j0 bI 9 (λx=>x.xY) (λx v=>{x with xY:=v}):=(aX.snd (aX.snd (aX.snd (aX.snd (aX.fst aX.id))))).via _ _ _ 9 rfl (λ_ =>rfl) (λ_ _ =>rfl)
theorem Ar:aX j0 (LI .i64) 11 (λx=>x.qg) (λx v=>{x with qg:=v}):=(aX.snd (aX.snd (aX.snd (aX.snd (aX.snd aX.id))))).via _ _ _ 11 rfl (λ_ =>rfl) (λ_ _ =>rfl)
structure bj where
 l:(List av)
abbrev qM:cP bj:=cP.via (@WU av ⟨aB⟩ bI) (λx=>x.l)
abbrev jW:bj:=⟨[]⟩
instance:Inhabited bj:=⟨jW⟩
def vX:List Value:=[.slice none 0 0]
theorem BG{A:World->Prop}:qM.eI A vX jW:=⟨_,_,rfl,BF.nil⟩
theorem IG:aX qM (@WU av ⟨aB⟩ bI) 0 (λx=>x.l) (λx v=>{x with l:=v}):=aX.id.via _ _ _ 0 rfl (λ_ =>rfl) (λ_ _ =>rfl)
structure aj where
 n:Int
 dX:bj
 bytes:(Nat->(Nat->Int))
abbrev qN:cP aj:=cP.via (LP (LI .i64) (LP qM (LA (LA (LI .u8) 32) 64))) (λx=>(x.n,x.dX,x.bytes))
abbrev jX:aj:=⟨0,jW,(λ_ =>(λ_ =>0))⟩
instance:Inhabited aj:=⟨jX⟩
def BJ:List Value:=[.int .i64 0]++(vX++((flat (λ_ =>(flat (λ_ =>[.int .u8 0]) 32)) 64)))
theorem JL{A:World->Prop}:qN.eI A BJ jX:=⟨_,_,rfl,rfl,⟨_,_,rfl,BG,⟨_,rfl,λ_ _ =>⟨_,rfl,λ_ _ =>rfl⟩⟩⟩⟩
theorem IJ:aX qN (LI .i64) 0 (λx=>x.n) (λx v=>{x with n:=v}):=(aX.fst aX.id).via _ _ _ 0 rfl (λ_ =>rfl) (λ_ _ =>rfl)
theorem Ea:aX qN qM 1 (λx=>x.dX) (λx v=>{x with dX:=v}):=(aX.snd (aX.fst aX.id)).via _ _ _ 1 rfl (λ_ =>rfl) (λ_ _ =>rfl)
theorem CS:aX qN (LA (LA (LI .u8) 32) 64) 2 (λx=>x.bytes) (λx v=>{x with bytes:=v}):=(aX.snd (aX.snd aX.id)).via _ _ _ 2 rfl (λ_ =>rfl) (λ_ _ =>rfl)
structure aq where
 aH:ae
 fL:Int
 c:aC
 run:av
 kN:Int
 ze:Bool
 fF:(List av)
abbrev HE:aq:=⟨cS,0,eF,aB,0,false,[]⟩
instance:Inhabited aq:=⟨HE⟩
structure Bu where
 A:Type
 z:A
 L:cP A
def bu:List Bu:=[⟨fC,qH,jZ⟩,⟨aT,kF,sw⟩,⟨ah,ay,di⟩,⟨aC,eF,gq⟩,⟨av,aB,bI⟩,⟨aD,cE,iQ⟩,⟨aL,iz,gE⟩,⟨dG,jv,bV⟩,⟨bR,ic,aN⟩,⟨lT,wQ,pC⟩,⟨ax,ei,kX⟩,⟨fD,sD,qa⟩,⟨l7,pY,p9⟩,⟨dz,pZ,tQ⟩,⟨bB,ia,bx⟩,⟨aV,dL,az⟩,⟨bX,wR,fj⟩,⟨aS,iA,fe⟩,⟨cm,p6,mD⟩,⟨ae,cS,kY⟩,⟨cj,oo,mB⟩,⟨ai,bA,wX⟩,⟨aF,jY,j0⟩,⟨bj,jW,qM⟩,⟨aj,jX,qN⟩]
def b0:Bu:=⟨Bool,false,LB⟩
def nth:List Bu->Nat->Bu
 |[],_ =>b0
 |b::r,i=>match i with
  |0=>b
  |i+1=>nth r i
def sg:Sg:=⟨λi=>(nth bu i).A,λi=>(nth bu i).z,λi=>(nth bu i).L,some (.u8,[(1,177),(2,178),(3,179),(4,180),(5,181),(6,182),(7,183),(8,184),(9,185),(10,186),(11,187),(12,188),(13,189),(14,190),(15,191),(16,191),(17,192),(18,193),(19,194),(20,195),(21,196),(22,197)])⟩
def fds:OP sg
 |0=>[⟨(.int .u8),0,λ(x:fC)=>x.Do,λ(x:fC) v=>({x with Do:=v}:fC),HY⟩,⟨(.int .i64),1,λ(x:fC)=>x.I,λ(x:fC) v=>({x with I:=v}:fC),IN⟩,⟨(.int .u64),2,λ(x:fC)=>x.V,λ(x:fC) v=>({x with V:=v}:fC),IM⟩]
 |1=>[⟨(.sl (.int .u64)),0,λ(x:aT)=>x.L,λ(x:aT) v=>({x with L:=v}:aT),HO⟩,⟨(.int .i64),1,λ(x:aT)=>x.rN,λ(x:aT) v=>({x with rN:=v}:aT),Bz⟩]
 |2=>[⟨(.int .i64),0,λ(x:ah)=>x.E,λ(x:ah) v=>({x with E:=v}:ah),Ee⟩,⟨(.int .u64),1,λ(x:ah)=>x.V,λ(x:ah) v=>({x with V:=v}:ah),Ed⟩,⟨(.int .u32),2,λ(x:ah)=>x.W,λ(x:ah) v=>({x with W:=v}:ah),Ec⟩]
 |3=>[⟨(.int .u8),0,λ(x:aC)=>x.Do,λ(x:aC) v=>({x with Do:=v}:aC),Fj⟩,⟨(.int .u32),1,λ(x:aC)=>x.R,λ(x:aC) v=>({x with R:=v}:aC),HV⟩,⟨(.int .u32),2,λ(x:aC)=>x.S,λ(x:aC) v=>({x with S:=v}:aC),HU⟩,⟨(.int .u32),3,λ(x:aC)=>x.A,λ(x:aC) v=>({x with A:=v}:aC),HX⟩,⟨(.int .u32),4,λ(x:aC)=>x.B,λ(x:aC) v=>({x with B:=v}:aC),HW⟩,⟨(.int .u64),5,λ(x:aC)=>x.V,λ(x:aC) v=>({x with V:=v}:aC),HT⟩]
 |4=>[⟨(.int .i64),0,λ(x:av)=>x.At,λ(x:av) v=>({x with At:=v}:av),II⟩,⟨(.int .i64),1,λ(x:av)=>x.N,λ(x:av) v=>({x with N:=v}:av),Lm⟩]
 |5=>[⟨(.sl (.st 4)),0,λ(x:aD)=>x.aK,λ(x:aD) v=>({x with aK:=v}:aD),zy⟩,⟨(.int .i64),1,λ(x:aD)=>x.dZ,λ(x:aD) v=>({x with dZ:=v}:aD),Ap⟩]
 |6=>[⟨(.int .u32),0,λ(x:aL)=>x.Up,λ(x:aL) v=>({x with Up:=v}:aL),CR⟩,⟨(.int .i64),1,λ(x:aL)=>x.gD,λ(x:aL) v=>({x with gD:=v}:aL),zv⟩,⟨(.st 5),2,λ(x:aL)=>x.E,λ(x:aL) v=>({x with E:=v}:aL),D9⟩,⟨(.lK 8 (.int .u32)),4,λ(x:aL)=>x.qP,λ(x:aL) v=>({x with qP:=v}:aL),zw⟩]
 |7=>[⟨(.int .u32),0,λ(x:dG)=>x.gen,λ(x:dG) v=>({x with gen:=v}:dG),ji⟩,⟨.bool,1,λ(x:dG)=>x.kA,λ(x:dG) v=>({x with kA:=v}:dG),mA⟩,⟨.bool,2,λ(x:dG)=>x.kj,λ(x:dG) v=>({x with kj:=v}:dG),pN⟩]
 |8=>[⟨(.lK 32 (.st 7)),0,λ(x:bR)=>x.bq,λ(x:bR) v=>({x with bq:=v}:bR),dI⟩]
 |9=>[⟨(.st 8),0,λ(x:lT)=>x.kS,λ(x:lT) v=>({x with kS:=v}:lT),CQ⟩]
 |10=>[⟨(.st 9),0,λ(x:ax)=>x.fE,λ(x:ax) v=>({x with fE:=v}:ax),Bx⟩,⟨(.lK 32 (.st 6)),96,λ(x:ax)=>x.aW,λ(x:ax) v=>({x with aW:=v}:ax),xS⟩]
 |11=>[⟨(.int .u8),0,λ(x:fD)=>x.xU,λ(x:fD) v=>({x with xU:=v}:fD),HR⟩,⟨(.int .u8),1,λ(x:fD)=>x.jU,λ(x:fD) v=>({x with jU:=v}:fD),HQ⟩,⟨(.int .u8),2,λ(x:fD)=>x.jj,λ(x:fD) v=>({x with jj:=v}:fD),CW⟩]
 |12=>[⟨(.int .u32),0,λ(x:l7)=>x.root,λ(x:l7) v=>({x with root:=v}:l7),Fh⟩,⟨(.st 11),1,λ(x:l7)=>x.own,λ(x:l7) v=>({x with own:=v}:l7),HP⟩]
 |13=>[⟨(.lK 32 (.st 12)),0,λ(x:dz)=>x.bq,λ(x:dz) v=>({x with bq:=v}:dz),Eb⟩]
 |14=>[⟨(.int .u32),0,λ(x:bB)=>x.Region,λ(x:bB) v=>({x with Region:=v}:bB),zu⟩,⟨(.int .u8),1,λ(x:bB)=>x.By,λ(x:bB) v=>({x with By:=v}:bB),D8⟩,⟨(.int .u8),2,λ(x:bB)=>x.To,λ(x:bB) v=>({x with To:=v}:bB),D7⟩,⟨.bool,3,λ(x:bB)=>x.mT,λ(x:bB) v=>({x with mT:=v}:bB),xR⟩,⟨(.int .u32),4,λ(x:bB)=>x.uK,λ(x:bB) v=>({x with uK:=v}:bB),rM⟩]
 |15=>[⟨(.st 8),0,λ(x:aV)=>x.fE,λ(x:aV) v=>({x with fE:=v}:aV),eM⟩,⟨(.lK 16 (.st 14)),96,λ(x:aV)=>x.bq,λ(x:aV) v=>({x with bq:=v}:aV),qK⟩]
 |16=>[⟨(.st 10),0,λ(x:bX)=>x.T,λ(x:bX) v=>({x with T:=v}:bX),HZ⟩,⟨(.st 13),480,λ(x:bX)=>x.O,λ(x:bX) v=>({x with O:=v}:bX),H6⟩,⟨(.st 15),608,λ(x:bX)=>x.K,λ(x:bX) v=>({x with K:=v}:bX),H7⟩]
 |17=>[⟨(.int .u8),0,λ(x:aS)=>x.H8,λ(x:aS) v=>({x with H8:=v}:aS),Ao⟩,⟨(.int .u64),1,λ(x:aS)=>x.ID,λ(x:aS) v=>({x with ID:=v}:aS),An⟩,⟨(.int .u32),2,λ(x:aS)=>x.Region,λ(x:aS) v=>({x with Region:=v}:aS),xT⟩,⟨.bool,3,λ(x:aS)=>x.zn,λ(x:aS) v=>({x with zn:=v}:aS),zx⟩]
 |18=>[⟨(.lK 4 (.st 17)),0,λ(x:cm)=>x.ring,λ(x:cm) v=>({x with ring:=v}:cm),Fm⟩,⟨(.int .i64),16,λ(x:cm)=>x.xx,λ(x:cm) v=>({x with xx:=v}:cm),Eg⟩,⟨(.int .i64),17,λ(x:cm)=>x.n,λ(x:cm) v=>({x with n:=v}:cm),Ln⟩,⟨.bool,18,λ(x:cm)=>x.closed,λ(x:cm) v=>({x with closed:=v}:cm),CY⟩]
 |19=>[⟨(.st 16),0,λ(x:ae)=>x.dH,λ(x:ae) v=>({x with dH:=v}:ae),CX⟩,⟨(.lK 8 (.st 18)),784,λ(x:ae)=>x.kR,λ(x:ae) v=>({x with kR:=v}:ae),Al⟩,⟨(.lK 8 .bool),936,λ(x:ae)=>x.mF,λ(x:ae) v=>({x with mF:=v}:ae),Am⟩,⟨(.lK 8 .bool),944,λ(x:ae)=>x.Ft,λ(x:ae) v=>({x with Ft:=v}:ae),BA⟩]
 |20=>[⟨(.int .u8),0,λ(x:cj)=>x.E0,λ(x:cj) v=>({x with E0:=v}:cj),Fk⟩,⟨(.int .i64),1,λ(x:cj)=>x.n,λ(x:cj) v=>({x with n:=v}:cj),IK⟩,⟨(.lK 8 (.int .u8)),2,λ(x:cj)=>x.EM,λ(x:cj) v=>({x with EM:=v}:cj),Ef⟩]
 |21=>[⟨(.lK 32 (.st 20)),0,λ(x:ai)=>x.bq,λ(x:ai) v=>({x with bq:=v}:ai),BB⟩]
 |22=>[⟨(.int .i64),0,λ(x:aF)=>x.jU,λ(x:aF) v=>({x with jU:=v}:aF),Eh⟩,⟨(.st 3),1,λ(x:aF)=>x.C,λ(x:aF) v=>({x with C:=v}:aF),IP⟩,⟨.bool,7,λ(x:aF)=>x.Checked,λ(x:aF) v=>({x with Checked:=v}:aF),As⟩,⟨(.sl (.int .u32)),8,λ(x:aF)=>x.ew,λ(x:aF) v=>({x with ew:=v}:aF),Aq⟩,⟨(.st 4),9,λ(x:aF)=>x.xY,λ(x:aF) v=>({x with xY:=v}:aF),Fo⟩,⟨(.int .i64),11,λ(x:aF)=>x.qg,λ(x:aF) v=>({x with qg:=v}:aF),Ar⟩]
 |23=>[⟨(.sl (.st 4)),0,λ(x:bj)=>x.l,λ(x:bj) v=>({x with l:=v}:bj),IG⟩]
 |24=>[⟨(.int .i64),0,λ(x:aj)=>x.n,λ(x:aj) v=>({x with n:=v}:aj),IJ⟩,⟨(.st 23),1,λ(x:aj)=>x.dX,λ(x:aj) v=>({x with dX:=v}:aj),Ea⟩,⟨(.lK 64 (.lK 32 (.int .u8))),2,λ(x:aj)=>x.bytes,λ(x:aj) v=>({x with bytes:=v}:aj),CS⟩]
 |_ =>[]
def teT:MU TE:=(.eo 113 (.st [(0,some 952),(952,none),(953,some 320),(1273,none)] 1274) (.eo 72 (.st [(0,none),(1,none),(2,none)] 3) (.eo 31 (.int .i64) (.eo 22 (.sl 33 1 8) (.eo 5 (.int .u8) (.eo 3 (.int .i64) (.eo 1 .one .dY .dY) (.eo 4 .bool .dY .dY)) (.eo 20 .one (.eo 9 .one .dY .dY) .dY)) (.eo 25 (.int .u32) (.eo 24 (.int .u32) (.eo 23 .ptr .dY .dY) .dY) (.eo 30 .one (.eo 27 (.st [(0,none),(1,none),(2,none)] 3) .dY .dY) .dY))) (.eo 58 (.st [(0,none),(1,none),(2,none),(3,none),(4,none),(5,none)] 6) (.eo 48 (.st [(0,none),(1,none),(2,none)] 3) (.eo 42 (.sl 48 3 24) (.eo 33 (.int .u64) .dY .dY) (.eo 44 (.st [(0,none),(1,none)] 2) .dY .dY)) (.eo 55 (.st [(0,none),(1,none),(2,none)] 3) (.eo 51 (.sl 5 1 1) .dY .dY) .dY)) (.eo 66 (.st [(0,none),(1,none)] 2) (.eo 64 (.sl 158 2 16) (.eo 59 (.lK 3 27 3 9) .dY .dY) .dY) (.eo 69 (.st [(0,none),(1,none),(2,some 2),(4,some 8)] 12) (.eo 67 (.lK 8 25 1 8) .dY .dY) .dY)))) (.eo 94 (.st [(0,some 480),(480,some 128),(608,some 176)] 784) (.eo 84 (.st [(0,none),(1,some 3)] 4) (.eo 78 (.lK 32 69 12 384) (.eo 75 (.st [(0,some 96)] 96) (.eo 73 (.lK 32 72 3 96) .dY .dY) (.eo 77 (.st [(0,some 96)] 96) .dY .dY)) (.eo 82 (.st [(0,none),(1,none),(2,none)] 3) (.eo 80 (.st [(0,some 96),(96,some 384)] 480) .dY .dY) .dY)) (.eo 89 (.st [(0,none),(1,none),(2,none),(3,none),(4,none)] 5) (.eo 87 (.st [(0,some 128)] 128) (.eo 85 (.lK 32 84 4 128) .dY .dY) .dY) (.eo 92 (.st [(0,some 96),(96,some 80)] 176) (.eo 90 (.lK 16 89 5 80) .dY .dY) .dY))) (.eo 104 .ptr (.eo 100 (.lK 8 99 19 152) (.eo 97 (.lK 4 96 4 16) (.eo 96 (.st [(0,none),(1,none),(2,none),(3,none)] 4) .dY .dY) (.eo 99 (.st [(0,some 16),(16,none),(17,none),(18,none)] 19) .dY .dY)) (.eo 103 (.st [(0,some 784),(784,some 152),(936,some 8),(944,some 8)] 952) (.eo 101 (.lK 8 4 1 8) .dY .dY) .dY)) (.eo 108 (.lK 32 107 10 320) (.eo 107 (.st [(0,none),(1,none),(2,some 8)] 10) (.eo 105 (.lK 8 5 1 8) .dY .dY) .dY) (.eo 111 (.sl 3 1 8) (.eo 110 (.st [(0,some 320)] 320) .dY .dY) .dY))))) (.eo 210 .ptr (.eo 160 (.st [(0,none),(1,some 6),(7,none),(8,none),(9,some 2),(11,none)] 12) (.eo 141 (.st [(0,none),(1,none)] 2) (.eo 128 .one (.eo 125 .one (.eo 120 .ptr .dY .dY) (.eo 127 .one .dY .dY)) (.eo 139 .ptr (.eo 130 .one .dY .dY) .dY)) (.eo 153 .one (.eo 150 (.st [(0,some 3),(3,none)] 4) (.eo 143 .one .dY .dY) .dY) (.eo 158 (.st [(0,none),(1,none)] 2) (.eo 156 (.sl 25 1 4) .dY .dY) .dY))) (.eo 183 (.lK 64 182 32 2048) (.eo 178 .ptr (.eo 173 (.st [(0,none),(1,some 12),(13,some 3),(16,none)] 17) (.eo 171 .ptr .dY .dY) (.eo 174 (.lK 5 30 1 5) .dY .dY)) (.eo 182 (.lK 32 5 1 32) (.eo 180 (.st [(0,none)] 1) .dY .dY) .dY)) (.eo 201 .one (.eo 187 .one (.eo 185 (.st [(0,none),(1,some 1),(2,some 2048)] 2050) .dY .dY) .dY) (.eo 208 .one (.eo 207 .one .dY .dY) .dY)))) (.eo 246 (.sl 64 1 24) (.eo 228 .one (.eo 222 .ptr (.eo 215 .one (.eo 212 (.st [(0,some 952),(952,none),(953,some 6),(959,some 2),(961,none),(962,none),(963,none)] 964) .dY .dY) (.eo 220 .one .dY .dY)) (.eo 226 .one (.eo 225 .ptr .dY .dY) .dY)) (.eo 236 .one (.eo 234 .one (.eo 232 .one .dY .dY) .dY) (.eo 243 .one (.eo 237 .one .dY .dY) .dY))) (.eo 335 .ptr (.eo 310 .one (.eo 305 (.sl 96 4 24) (.eo 284 .one .dY .dY) .dY) (.eo 332 .one (.eo 312 .one .dY .dY) .dY)) (.eo 351 .one (.eo 350 .one (.eo 342 .one .dY .dY) .dY) (.eo 356 .one (.eo 355 .ptr .dY .dY) .dY))))))
def tt:TT Tryz.prog sg:=⟨fds,teT,by kernel_rfl⟩
theorem zt3(J:World->Prop)(ρ:aY):∃u:Value,bK Tryz.prog 3=some u.cells.toList/\rv (G:=sg) J ρ (.int .i64 0) u:=⟨.int .i64 0,by kernel_rfl,rfl⟩
theorem zt4(J:World->Prop)(ρ:aY):∃u:Value,bK Tryz.prog 4=some u.cells.toList/\rv (G:=sg) J ρ (.bool false) u:=⟨.bool false,by kernel_rfl,rfl⟩
theorem zt5(J:World->Prop)(ρ:aY):∃u:Value,bK Tryz.prog 5=some u.cells.toList/\rv (G:=sg) J ρ (.int .u8 0) u:=⟨.int .u8 0,by kernel_rfl,rfl⟩
theorem ag6(J:World->Prop)(ρ:aY):∃u:Value,bK Tryz.prog 22=some u.cells.toList/\rv (G:=sg) J ρ .jD u:=⟨.slice none 0 0,by kernel_rfl,rfl⟩
theorem ag5(J:World->Prop)(ρ:aY):∃u:Value,bK Tryz.prog 25=some u.cells.toList/\rv (G:=sg) J ρ (.int .u32 0) u:=⟨.int .u32 0,by kernel_rfl,rfl⟩
theorem ag4(J:World->Prop)(ρ:aY):∃u:Value,bK Tryz.prog 27=some u.cells.toList/\rv (G:=sg) J ρ (.st (.part 1 .ou (.part 1 (.int .u32 0) (.part 1 (.int .i64 0) .nil)))) u:=⟨.agg ((([.pointer none]:List Value)++(([.int .u32 0]:List Value)++(([.int .i64 0]:List Value)++([]:List Value))))).toArray,by kernel_rfl,⟨_,rfl,⟨[.pointer none],_, .pointer none,rfl,by kernel_rfl,rfl,rfl,⟨[.int .u32 0],_, .int .u32 0,rfl,by kernel_rfl,rfl,rfl,⟨[.int .i64 0],_, .int .i64 0,rfl,by kernel_rfl,rfl,rfl,rfl⟩⟩⟩,iF (by kernel_rfl)⟩⟩
theorem ag3(J:World->Prop)(ρ:aY):∃u:Value,bK Tryz.prog 31=some u.cells.toList/\rv (G:=sg) J ρ (.int .i64 0) u:=⟨.int .i64 0,by kernel_rfl,rfl⟩
theorem ag2(J:World->Prop)(ρ:aY):∃u:Value,bK Tryz.prog 33=some u.cells.toList/\rv (G:=sg) J ρ (.int .u64 0) u:=⟨.int .u64 0,by kernel_rfl,rfl⟩
theorem ag1(J:World->Prop)(ρ:aY):∃u:Value,bK Tryz.prog 44=some u.cells.toList/\rv (G:=sg) J ρ (.dat (.st 1) kF) u:=⟨.agg (Ay).toArray,by kernel_rfl,_,rfl,Ii,λ_ =>⟨_,rfl⟩,nofun⟩
theorem ag0(J:World->Prop)(ρ:aY):∃u:Value,bK Tryz.prog 48=some u.cells.toList/\rv (G:=sg) J ρ (.dat (.st 0) qH) u:=⟨.agg (BK).toArray,by kernel_rfl,_,rfl,JM,λ_ =>⟨_,rfl⟩,nofun⟩
theorem agZ(J:World->Prop)(ρ:aY):∃u:Value,bK Tryz.prog 55=some u.cells.toList/\rv (G:=sg) J ρ (.dat (.st 2) ay) u:=⟨.agg (iM).toArray,by kernel_rfl,_,rfl,w5,λ_ =>⟨_,rfl⟩,nofun⟩
theorem agY(J:World->Prop)(ρ:aY):∃u:Value,bK Tryz.prog 58=some u.cells.toList/\rv (G:=sg) J ρ (.dat (.st 3) eF) u:=⟨.agg (kT).toArray,by kernel_rfl,_,rfl,uL,λ_ =>⟨_,rfl⟩,nofun⟩
theorem agX(J:World->Prop)(ρ:aY):∃u:Value,bK Tryz.prog 59=some u.cells.toList/\rv (G:=sg) J ρ (.st (.part 3 (.st (.part 1 .ou (.part 1 (.int .u32 0) (.part 1 (.int .i64 0) .nil)))) (.part 3 (.st (.part 1 .ou (.part 1 (.int .u32 0) (.part 1 (.int .i64 0) .nil)))) (.part 3 (.st (.part 1 .ou (.part 1 (.int .u32 0) (.part 1 (.int .i64 0) .nil)))) .nil)))) u:=⟨.agg ((((([.pointer none]:List Value)++(([.int .u32 0]:List Value)++(([.int .i64 0]:List Value)++([]:List Value)))):List Value)++(((([.pointer none]:List Value)++(([.int .u32 0]:List Value)++(([.int .i64 0]:List Value)++([]:List Value)))):List Value)++(((([.pointer none]:List Value)++(([.int .u32 0]:List Value)++(([.int .i64 0]:List Value)++([]:List Value)))):List Value)++([]:List Value))))).toArray,by kernel_rfl,⟨_,rfl,⟨(([.pointer none]:List Value)++(([.int .u32 0]:List Value)++(([.int .i64 0]:List Value)++([]:List Value)))),_, .agg ((([.pointer none]:List Value)++(([.int .u32 0]:List Value)++(([.int .i64 0]:List Value)++([]:List Value))))).toArray,rfl,by kernel_rfl,⟨_,rfl,⟨[.pointer none],_, .pointer none,rfl,by kernel_rfl,rfl,rfl,⟨[.int .u32 0],_, .int .u32 0,rfl,by kernel_rfl,rfl,rfl,⟨[.int .i64 0],_, .int .i64 0,rfl,by kernel_rfl,rfl,rfl,rfl⟩⟩⟩,iF (by kernel_rfl)⟩,rfl,⟨(([.pointer none]:List Value)++(([.int .u32 0]:List Value)++(([.int .i64 0]:List Value)++([]:List Value)))),_, .agg ((([.pointer none]:List Value)++(([.int .u32 0]:List Value)++(([.int .i64 0]:List Value)++([]:List Value))))).toArray,rfl,by kernel_rfl,⟨_,rfl,⟨[.pointer none],_, .pointer none,rfl,by kernel_rfl,rfl,rfl,⟨[.int .u32 0],_, .int .u32 0,rfl,by kernel_rfl,rfl,rfl,⟨[.int .i64 0],_, .int .i64 0,rfl,by kernel_rfl,rfl,rfl,rfl⟩⟩⟩,iF (by kernel_rfl)⟩,rfl,⟨(([.pointer none]:List Value)++(([.int .u32 0]:List Value)++(([.int .i64 0]:List Value)++([]:List Value)))),_, .agg ((([.pointer none]:List Value)++(([.int .u32 0]:List Value)++(([.int .i64 0]:List Value)++([]:List Value))))).toArray,rfl,by kernel_rfl,⟨_,rfl,⟨[.pointer none],_, .pointer none,rfl,by kernel_rfl,rfl,rfl,⟨[.int .u32 0],_, .int .u32 0,rfl,by kernel_rfl,rfl,rfl,⟨[.int .i64 0],_, .int .i64 0,rfl,by kernel_rfl,rfl,rfl,rfl⟩⟩⟩,iF (by kernel_rfl)⟩,rfl,rfl⟩⟩⟩,iF (by kernel_rfl)⟩⟩
theorem agW(J:World->Prop)(ρ:aY):∃u:Value,bK Tryz.prog 64=some u.cells.toList/\rv (G:=sg) J ρ .jD u:=⟨.slice none 0 0,by kernel_rfl,rfl⟩
theorem agV(J:World->Prop)(ρ:aY):∃u:Value,bK Tryz.prog 66=some u.cells.toList/\rv (G:=sg) J ρ (.dat (.st 5) cE) u:=⟨.agg (ig).toArray,by kernel_rfl,_,rfl,mG,λ_ =>⟨_,rfl⟩,nofun⟩
theorem agU(J:World->Prop)(ρ:aY):∃u:Value,bK Tryz.prog 69=some u.cells.toList/\rv (G:=sg) J ρ (.dat (.st 6) iz) u:=⟨.agg (qT).toArray,by kernel_rfl,_,rfl,wZ,λ_ =>⟨_,rfl⟩,nofun⟩
theorem agT(J:World->Prop)(ρ:aY):∃u:Value,bK Tryz.prog 72=some u.cells.toList/\rv (G:=sg) J ρ (.dat (.st 7) jv) u:=⟨.agg (sJ).toArray,by kernel_rfl,_,rfl,yc,λ_ =>⟨_,rfl⟩,nofun⟩
theorem agS(J:World->Prop)(ρ:aY):∃u:Value,bK Tryz.prog 75=some u.cells.toList/\rv (G:=sg) J ρ (.dat (.st 8) ic) u:=⟨.agg (oA).toArray,by kernel_rfl,_,rfl,sG,λ_ =>⟨_,rfl⟩,nofun⟩
theorem agR(J:World->Prop)(ρ:aY):∃u:Value,bK Tryz.prog 80=some u.cells.toList/\rv (G:=sg) J ρ (.dat (.st 10) ei) u:=⟨.agg (sI).toArray,by kernel_rfl,_,rfl,ya,λ_ =>⟨_,rfl⟩,nofun⟩
theorem agQ(J:World->Prop)(ρ:aY):∃u:Value,bK Tryz.prog 82=some u.cells.toList/\rv (G:=sg) J ρ (.dat (.st 11) sD) u:=⟨.agg (AT).toArray,by kernel_rfl,_,rfl,FV,λ_ =>⟨_,rfl⟩,nofun⟩
theorem agP(J:World->Prop)(ρ:aY):∃u:Value,bK Tryz.prog 84=some u.cells.toList/\rv (G:=sg) J ρ (.dat (.st 12) pY) u:=⟨.agg (yd).toArray,by kernel_rfl,_,rfl,Ei,λ_ =>⟨_,rfl⟩,nofun⟩
theorem agO(J:World->Prop)(ρ:aY):∃u:Value,bK Tryz.prog 87=some u.cells.toList/\rv (G:=sg) J ρ (.dat (.st 13) pZ) u:=⟨.agg (ye).toArray,by kernel_rfl,_,rfl,Ej,λ_ =>⟨_,rfl⟩,nofun⟩
theorem agN(J:World->Prop)(ρ:aY):∃u:Value,bK Tryz.prog 89=some u.cells.toList/\rv (G:=sg) J ρ (.dat (.st 14) ia) u:=⟨.agg (sH).toArray,by kernel_rfl,_,rfl,xZ,λ_ =>⟨_,rfl⟩,nofun⟩
theorem agM(J:World->Prop)(ρ:aY):∃u:Value,bK Tryz.prog 92=some u.cells.toList/\rv (G:=sg) J ρ (.dat (.st 15) dL) u:=⟨.agg (qS).toArray,by kernel_rfl,_,rfl,wY,λ_ =>⟨_,rfl⟩,nofun⟩
theorem agL(J:World->Prop)(ρ:aY):∃u:Value,bK Tryz.prog 96=some u.cells.toList/\rv (G:=sg) J ρ (.dat (.st 17) iA) u:=⟨.agg (qU).toArray,by kernel_rfl,_,rfl,w6,λ_ =>⟨_,rfl⟩,nofun⟩
theorem agK(J:World->Prop)(ρ:aY):∃u:Value,bK Tryz.prog 99=some u.cells.toList/\rv (G:=sg) J ρ (.dat (.st 18) p6) u:=⟨.agg (yf).toArray,by kernel_rfl,_,rfl,El,λ_ =>⟨_,rfl⟩,nofun⟩
theorem aem(J:World->Prop)(ρ:aY):∃u:Value,bK Tryz.prog 103=some u.cells.toList/\rv (G:=sg) J ρ (.dat (.st 19) cS) u:=⟨.agg (gv).toArray,by kernel_rfl,_,rfl,sF,λ_ =>⟨_,rfl⟩,nofun⟩
theorem ael(J:World->Prop)(ρ:aY):∃u:Value,bK Tryz.prog 107=some u.cells.toList/\rv (G:=sg) J ρ (.dat (.st 20) oo) u:=⟨.agg (vY).toArray,by kernel_rfl,_,rfl,BH,λ_ =>⟨_,rfl⟩,nofun⟩
theorem aek(J:World->Prop)(ρ:aY):∃u:Value,bK Tryz.prog 110=some u.cells.toList/\rv (G:=sg) J ρ (.dat (.st 21) bA) u:=⟨.agg (nj).toArray,by kernel_rfl,_,rfl,Au,λ_ =>⟨_,rfl⟩,nofun⟩
theorem aej(J:World->Prop)(ρ:aY):∃u:Value,bK Tryz.prog 111=some u.cells.toList/\rv (G:=sg) J ρ .jD u:=⟨.slice none 0 0,by kernel_rfl,rfl⟩
theorem aei(J:World->Prop)(ρ:aY):∃u:Value,bK Tryz.prog 113=some u.cells.toList/\rv (G:=sg) J ρ (.st (.part 952 (.dat (.st 19) cS) (.part 1 .ou (.part 320 (.dat (.st 21) bA) (.part 1 .jD .nil))))) u:=⟨.agg (((gv:List Value)++(([.pointer none]:List Value)++((nj:List Value)++(([.slice none 0 0]:List Value)++([]:List Value)))))).toArray,by kernel_rfl,⟨_,rfl,⟨gv,_, .agg (gv).toArray,rfl,by kernel_rfl,⟨_,rfl,sF,λ_ =>⟨_,rfl⟩,nofun⟩,rfl,⟨[.pointer none],_, .pointer none,rfl,by kernel_rfl,rfl,rfl,⟨nj,_, .agg (nj).toArray,rfl,by kernel_rfl,⟨_,rfl,Au,λ_ =>⟨_,rfl⟩,nofun⟩,rfl,⟨[.slice none 0 0],_, .slice none 0 0,rfl,by kernel_rfl,rfl,rfl,rfl⟩⟩⟩⟩,iF (by kernel_rfl)⟩⟩
theorem aeh(J:World->Prop)(ρ:aY):∃u:Value,bK Tryz.prog 141=some u.cells.toList/\rv (G:=sg) J ρ (.st (.part 1 .ou (.part 1 (.int .i64 0) .nil))) u:=⟨.agg ((([.pointer none]:List Value)++(([.int .i64 0]:List Value)++([]:List Value)))).toArray,by kernel_rfl,⟨_,rfl,⟨[.pointer none],_, .pointer none,rfl,by kernel_rfl,rfl,rfl,⟨[.int .i64 0],_, .int .i64 0,rfl,by kernel_rfl,rfl,rfl,rfl⟩⟩,iF (by kernel_rfl)⟩⟩
theorem aeg(J:World->Prop)(ρ:aY):∃u:Value,bK Tryz.prog 143=some u.cells.toList/\rv (G:=sg) J ρ .ow u:=⟨.nilFunc,by kernel_rfl,rfl⟩
theorem aef(J:World->Prop)(ρ:aY):∃u:Value,bK Tryz.prog 150=some u.cells.toList/\rv (G:=sg) J ρ (.st (.part 3 (.st (.part 1 .ou (.part 1 (.int .u32 0) (.part 1 (.int .i64 0) .nil)))) (.part 1 (.int .i64 0) .nil))) u:=⟨.agg ((((([.pointer none]:List Value)++(([.int .u32 0]:List Value)++(([.int .i64 0]:List Value)++([]:List Value)))):List Value)++(([.int .i64 0]:List Value)++([]:List Value)))).toArray,by kernel_rfl,⟨_,rfl,⟨(([.pointer none]:List Value)++(([.int .u32 0]:List Value)++(([.int .i64 0]:List Value)++([]:List Value)))),_, .agg ((([.pointer none]:List Value)++(([.int .u32 0]:List Value)++(([.int .i64 0]:List Value)++([]:List Value))))).toArray,rfl,by kernel_rfl,⟨_,rfl,⟨[.pointer none],_, .pointer none,rfl,by kernel_rfl,rfl,rfl,⟨[.int .u32 0],_, .int .u32 0,rfl,by kernel_rfl,rfl,rfl,⟨[.int .i64 0],_, .int .i64 0,rfl,by kernel_rfl,rfl,rfl,rfl⟩⟩⟩,iF (by kernel_rfl)⟩,rfl,⟨[.int .i64 0],_, .int .i64 0,rfl,by kernel_rfl,rfl,rfl,rfl⟩⟩,iF (by kernel_rfl)⟩⟩
theorem aee(J:World->Prop)(ρ:aY):∃u:Value,bK Tryz.prog 158=some u.cells.toList/\rv (G:=sg) J ρ (.dat (.st 4) aB) u:=⟨.agg (n8).toArray,by kernel_rfl,_,rfl,yb,λ_ =>⟨_,rfl⟩,nofun⟩
theorem aed(J:World->Prop)(ρ:aY):∃u:Value,bK Tryz.prog 160=some u.cells.toList/\rv (G:=sg) J ρ (.dat (.st 22) jY) u:=⟨.agg (oB).toArray,by kernel_rfl,_,rfl,BI,λ_ =>⟨_,rfl⟩,nofun⟩
theorem aec(J:World->Prop)(ρ:aY):∃u:Value,bK Tryz.prog 173=some u.cells.toList/\rv (G:=sg) J ρ (.st (.part 1 .ou (.part 12 (.dat (.st 22) jY) (.part 3 (.dat (.st 2) ay) (.part 1 (.bool false) .nil))))) u:=⟨.agg ((([.pointer none]:List Value)++((oB:List Value)++((iM:List Value)++(([.bool false]:List Value)++([]:List Value)))))).toArray,by kernel_rfl,⟨_,rfl,⟨[.pointer none],_, .pointer none,rfl,by kernel_rfl,rfl,rfl,⟨oB,_, .agg (oB).toArray,rfl,by kernel_rfl,⟨_,rfl,BI,λ_ =>⟨_,rfl⟩,nofun⟩,rfl,⟨iM,_, .agg (iM).toArray,rfl,by kernel_rfl,⟨_,rfl,w5,λ_ =>⟨_,rfl⟩,nofun⟩,rfl,⟨[.bool false],_, .bool false,rfl,by kernel_rfl,rfl,rfl,rfl⟩⟩⟩⟩,iF (by kernel_rfl)⟩⟩
theorem aeb(J:World->Prop)(ρ:aY):∃u:Value,bK Tryz.prog 174=some u.cells.toList/\rv (G:=sg) J ρ (.st (.part 1 .ow (.part 1 .ow (.part 1 .ow (.part 1 .ow (.part 1 .ow .nil)))))) u:=⟨.agg ((([.nilFunc]:List Value)++(([.nilFunc]:List Value)++(([.nilFunc]:List Value)++(([.nilFunc]:List Value)++(([.nilFunc]:List Value)++([]:List Value))))))).toArray,by kernel_rfl,⟨_,rfl,⟨[.nilFunc],_, .nilFunc,rfl,by kernel_rfl,rfl,rfl,⟨[.nilFunc],_, .nilFunc,rfl,by kernel_rfl,rfl,rfl,⟨[.nilFunc],_, .nilFunc,rfl,by kernel_rfl,rfl,rfl,⟨[.nilFunc],_, .nilFunc,rfl,by kernel_rfl,rfl,rfl,⟨[.nilFunc],_, .nilFunc,rfl,by kernel_rfl,rfl,rfl,rfl⟩⟩⟩⟩⟩,iF (by kernel_rfl)⟩⟩
theorem aea(J:World->Prop)(ρ:aY):∃u:Value,bK Tryz.prog 180=some u.cells.toList/\rv (G:=sg) J ρ (.dat (.st 23) jW) u:=⟨.agg (vX).toArray,by kernel_rfl,_,rfl,BG,λ_ =>⟨_,rfl⟩,nofun⟩
theorem ad9(J:World->Prop)(ρ:aY):∃u:Value,bK Tryz.prog 185=some u.cells.toList/\rv (G:=sg) J ρ (.dat (.st 24) jX) u:=⟨.agg (BJ).toArray,by kernel_rfl,_,rfl,JL,λ_ =>⟨_,rfl⟩,nofun⟩
theorem ad8(J:World->Prop)(ρ:aY):∃u:Value,bK Tryz.prog 212=some u.cells.toList/\rv (G:=sg) J ρ (.st (.part 952 (.dat (.st 19) cS) (.part 1 (.int .i64 0) (.part 6 (.dat (.st 3) eF) (.part 2 (.dat (.st 4) aB) (.part 1 (.int .i64 0) (.part 1 (.bool false) (.part 1 .jD .nil)))))))) u:=⟨.agg (((gv:List Value)++(([.int .i64 0]:List Value)++((kT:List Value)++((n8:List Value)++(([.int .i64 0]:List Value)++(([.bool false]:List Value)++(([.slice none 0 0]:List Value)++([]:List Value))))))))).toArray,by kernel_rfl,⟨_,rfl,⟨gv,_, .agg (gv).toArray,rfl,by kernel_rfl,⟨_,rfl,sF,λ_ =>⟨_,rfl⟩,nofun⟩,rfl,⟨[.int .i64 0],_, .int .i64 0,rfl,by kernel_rfl,rfl,rfl,⟨kT,_, .agg (kT).toArray,rfl,by kernel_rfl,⟨_,rfl,uL,λ_ =>⟨_,rfl⟩,nofun⟩,rfl,⟨n8,_, .agg (n8).toArray,rfl,by kernel_rfl,⟨_,rfl,yb,λ_ =>⟨_,rfl⟩,nofun⟩,rfl,⟨[.int .i64 0],_, .int .i64 0,rfl,by kernel_rfl,rfl,rfl,⟨[.bool false],_, .bool false,rfl,by kernel_rfl,rfl,rfl,⟨[.slice none 0 0],_, .slice none 0 0,rfl,by kernel_rfl,rfl,rfl,rfl⟩⟩⟩⟩⟩⟩⟩,iF (by kernel_rfl)⟩⟩
theorem ad7(J:World->Prop)(ρ:aY):∃u:Value,bK Tryz.prog 215=some u.cells.toList/\rv (G:=sg) J ρ .ow u:=⟨.nilFunc,by kernel_rfl,rfl⟩
theorem ad6(J:World->Prop)(ρ:aY):∃u:Value,bK Tryz.prog 284=some u.cells.toList/\rv (G:=sg) J ρ .ow u:=⟨.nilFunc,by kernel_rfl,rfl⟩
theorem ad5(J:World->Prop)(ρ:aY):∃u:Value,bK Tryz.prog 305=some u.cells.toList/\rv (G:=sg) J ρ .jD u:=⟨.slice none 0 0,by kernel_rfl,rfl⟩
theorem ad4(J:World->Prop)(ρ:aY):∃u:Value,bK Tryz.prog 332=some u.cells.toList/\rv (G:=sg) J ρ .Ck u:=⟨.map none,by kernel_rfl,rfl⟩
def ztT:MU (AV sg):=(.eo 89 (.dat (.st 14) ia) (.eo 58 (.dat (.st 3) eF) (.eo 27 (.st (.part 1 .ou (.part 1 (.int .u32 0) (.part 1 (.int .i64 0) .nil)))) (.eo 5 (.int .u8 0) (.eo 4 (.bool false) (.eo 3 (.int .i64 0) .dY .dY) .dY) (.eo 25 (.int .u32 0) (.eo 22 .jD .dY .dY) .dY)) (.eo 44 (.dat (.st 1) kF) (.eo 33 (.int .u64 0) (.eo 31 (.int .i64 0) .dY .dY) .dY) (.eo 55 (.dat (.st 2) ay) (.eo 48 (.dat (.st 0) qH) .dY .dY) .dY))) (.eo 75 (.dat (.st 8) ic) (.eo 66 (.dat (.st 5) cE) (.eo 64 .jD (.eo 59 (.st (.part 3 (.st (.part 1 .ou (.part 1 (.int .u32 0) (.part 1 (.int .i64 0) .nil)))) (.part 3 (.st (.part 1 .ou (.part 1 (.int .u32 0) (.part 1 (.int .i64 0) .nil)))) (.part 3 (.st (.part 1 .ou (.part 1 (.int .u32 0) (.part 1 (.int .i64 0) .nil)))) .nil)))) .dY .dY) .dY) (.eo 72 (.dat (.st 7) jv) (.eo 69 (.dat (.st 6) iz) .dY .dY) .dY)) (.eo 84 (.dat (.st 12) pY) (.eo 82 (.dat (.st 11) sD) (.eo 80 (.dat (.st 10) ei) .dY .dY) .dY) (.eo 87 (.dat (.st 13) pZ) .dY .dY)))) (.eo 158 (.dat (.st 4) aB) (.eo 110 (.dat (.st 21) bA) (.eo 99 (.dat (.st 18) p6) (.eo 96 (.dat (.st 17) iA) (.eo 92 (.dat (.st 15) dL) .dY .dY) .dY) (.eo 107 (.dat (.st 20) oo) (.eo 103 (.dat (.st 19) cS) .dY .dY) .dY)) (.eo 141 (.st (.part 1 .ou (.part 1 (.int .i64 0) .nil))) (.eo 113 (.st (.part 952 (.dat (.st 19) cS) (.part 1 .ou (.part 320 (.dat (.st 21) bA) (.part 1 .jD .nil))))) (.eo 111 .jD .dY .dY) .dY) (.eo 150 (.st (.part 3 (.st (.part 1 .ou (.part 1 (.int .u32 0) (.part 1 (.int .i64 0) .nil)))) (.part 1 (.int .i64 0) .nil))) (.eo 143 .ow .dY .dY) .dY))) (.eo 212 (.st (.part 952 (.dat (.st 19) cS) (.part 1 (.int .i64 0) (.part 6 (.dat (.st 3) eF) (.part 2 (.dat (.st 4) aB) (.part 1 (.int .i64 0) (.part 1 (.bool false) (.part 1 .jD .nil)))))))) (.eo 174 (.st (.part 1 .ow (.part 1 .ow (.part 1 .ow (.part 1 .ow (.part 1 .ow .nil)))))) (.eo 173 (.st (.part 1 .ou (.part 12 (.dat (.st 22) jY) (.part 3 (.dat (.st 2) ay) (.part 1 (.bool false) .nil))))) (.eo 160 (.dat (.st 22) jY) .dY .dY) .dY) (.eo 185 (.dat (.st 24) jX) (.eo 180 (.dat (.st 23) jW) .dY .dY) .dY)) (.eo 305 .jD (.eo 284 .ow (.eo 215 .ow .dY .dY) .dY) (.eo 332 .Ck .dY .dY)))))
def zt:ZT Tryz.prog sg:=⟨ztT,adf ⟨agN,⟨agY,⟨ag4,⟨zt5,⟨zt4,⟨zt3,trivial,trivial⟩,trivial⟩,⟨ag5,⟨ag6,trivial,trivial⟩,trivial⟩⟩,⟨ag1,⟨ag2,⟨ag3,trivial,trivial⟩,trivial⟩,⟨agZ,⟨ag0,trivial,trivial⟩,trivial⟩⟩⟩,⟨agS,⟨agV,⟨agW,⟨agX,trivial,trivial⟩,trivial⟩,⟨agT,⟨agU,trivial,trivial⟩,trivial⟩⟩,⟨agP,⟨agQ,⟨agR,trivial,trivial⟩,trivial⟩,⟨agO,trivial,trivial⟩⟩⟩⟩,⟨aee,⟨aek,⟨agK,⟨agL,⟨agM,trivial,trivial⟩,trivial⟩,⟨ael,⟨aem,trivial,trivial⟩,trivial⟩⟩,⟨aeh,⟨aei,⟨aej,trivial,trivial⟩,trivial⟩,⟨aef,⟨aeg,trivial,trivial⟩,trivial⟩⟩⟩,⟨ad8,⟨aeb,⟨aec,⟨aed,trivial,trivial⟩,trivial⟩,⟨ad9,⟨aea,trivial,trivial⟩,trivial⟩⟩,⟨ad5,⟨ad6,⟨ad7,trivial,trivial⟩,trivial⟩,⟨ad4,trivial,trivial⟩⟩⟩⟩⟩⟩
end Go.Proofs.Z
