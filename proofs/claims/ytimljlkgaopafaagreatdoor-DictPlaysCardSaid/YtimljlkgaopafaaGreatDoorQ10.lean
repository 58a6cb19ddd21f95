/- Part 10 of what a proof leans on; pruned and shortened by a program out of longer texts. -/
import Derived.Test.YtimljlkgaopafaaGreatDoorQ9
namespace Go.Rw
open Go Go.Bw Go.RowKit
variable {G:Sg} {P:Program} {N:Nat} {C:CC G} {Z:Type} {tb:wS P G} {rec:WT G Z} {cp:List Nat} {all:Array Oper} {r:List Oper} {K:Ex G->AS G->Option Z} {z:Z}
theorem Es(bJ:qe P rec){o:Oper}{S:AS G}(hg:Oy N all C S o)(h:wPv tb rec N cp C all r o S K=some z):∃e S',K e S'=some z/\S.nx<=S'.nx/\US P N C (.ops all (o::r)) S S' e:=by
 obtain⟨d,op,ty,ps,af,g⟩:=o;unfold wPv at h;dsimp only at h;split at h
 ·rename_i gs v hv
  obtain⟨h1,h2⟩:=ahp h;exact dF bJ hg (af1 hv h1) (Nat.le_refl _) h2
 ·split at h
  ·cases h
  ·obtain⟨e,S1,h1,h2,h3⟩:=bJ _ _ _ _ _ _ _ h
   rw[xy]at h2;exact⟨e,S1,h1,h2,CY _ h3⟩
theorem aen{d:Option Tmp}{op:Op}{ty:TypeId}{ps:String}{af:Array Edge}{g:Option (Nat×Bool)}{T d1:Nat}{r r2:List Oper}(h:aeo ⟨d,op,ty,ps,af,g⟩ T r=some (d1,r2)):
  ∃t2 p2 f2,d=some d1/\g=none/\r=⟨none, .call ⟨.builtin .clear, #[.tmp d1], #[T]⟩,t2,p2,f2,none⟩::r2:=by
 unfold aeo at h;split at h
 ·rename_i a t t2 p2 f2 r3
  split at h
  ·rename_i e1 d2 T2 hd hg ha ht
   cases hb:(Nat.beq _ d2&&Nat.beq T T2)with
   |false=>rw[hb]at h;cases h
   |true=>
    rw[hb]at h;simp only[akg]at hb;have eA:a= #[.tmp d2]:=by rw[← Array.toArray_toList (xs:=a),ha]
    have eT:t= #[T2]:=by rw[← Array.toArray_toList (xs:=t),ht]
    subst eA;subst eT;obtain rfl:=akf hb.1;obtain rfl:=akf hb.2;cases h;exact⟨_,_,_,hd,hg,rfl⟩
  ·cases h
 ·cases h
theorem Uz(bJ:qe P rec){o:Oper}{S:AS G}(hg:Oy N all C S o)(h:wOp tb rec N cp C all r o S K=some z):∃e S',K e S'=some z/\S.nx<=S'.nx/\US P N C (.ops all (o::r)) S S' e:=by
 obtain⟨d,op,ty,ps,af,g⟩:=o;unfold wOp at h;dsimp only at h;split at h
 ·split at h
  ·rename_i v hv
   exact dF bJ hg (acH hv) (Nat.le_succ _) h
  ·cases h
 ·split at h
  ·rename_i v hv
   exact dF bJ hg (U7 hv) (Nat.le_succ _) h
  ·cases h
 ·split at h
  ·obtain⟨e,S1,h1,h2,h3⟩:=bJ _ _ _ _ _ _ _ h
   rw[xy]at h2;exact⟨e,S1,h1,h2,CY _ h3⟩
  ·split at h
   ·rename_i q p v hx hy
    split at h
    ·rename_i T' cc ho
     cases hb:wP tb.tt _ v with
     |false=>rw[hb]at h;cases h
     |true=>rw[hb]at h;obtain⟨c',h1,h2⟩:=UY h;exact dF bJ hg (U2 hx hy ho h1 hb) (Nat.le_refl _) h2
    ·rename_i e sz t xs ho
     cases hb:(WV p sz&&wP tb.tt _ v)with
     |false=>rw[hb]at h;cases h
     |true=>
      rw[hb]at h;simp only[akg]at hb;simp only[cond_true]at h;split at h
      ·rename_i pl Uc
       split at h
       ·rename_i y' hu
        exact dF bJ hg (U1 hx hy ho hb.1 Uc hu hb.2) (Nat.le_refl _) h
       ·cases h
      ·cases h
    ·cases h
   ·cases h
 ·split at h
  ·rename_i e sz _ ht
   split at h
   ·rename_i z hz
    split at h
    ·rename_i t _
     split at h
     ·rename_i xs hxs
      cases hc:((Nat.beq xs.length _ &&Nat.beq (t.L G).n sz)&&(Nat.blt 0 (_ *sz)&&Nat.ble (_ *sz) 16777216))with
      |false=>rw[hc]at h;cases h
      |true=>rw[hc]at h;simp only[akg]at hc;obtain⟨⟨c1,c2⟩,c3,c4⟩:=hc;simp only[cond_true]at h;exact dF bJ hg (af3 ht hz hxs (akf c1) (akf c2) (by simpa[Nat.blt_eq]using c3) (Nat.le_of_ble_eq_true c4)) (Nat.le_succ _) h
     ·exact Es bJ hg h
    ·split at h
     ·rename_i vs hvs
      cases hc:((Nat.beq _ _ &&Nat.beq sz 1)&&(Nat.blt 0 _ &&Nat.ble _ 16777216))with
      |false=>rw[hc]at h;cases h
      |true=>rw[hc]at h;simp only[akg]at hc;obtain⟨⟨c1,c2⟩,c3,c4⟩:=hc;obtain rfl:=akf c2;simp only[cond_true]at h;exact dF bJ hg (acG ht hz hvs (akf c1) (by simpa[Nat.blt_eq]using c3) (Nat.le_of_ble_eq_true c4)) (Nat.le_succ _) h
     ·cases h
   ·cases h
  ·cases h
 ·rename_i T s s'
  cases hs:Nat.beq s s' with
  |false=>rw[hs]at h;cases h
  |true=>
   rw[hs]at h;obtain rfl:=akf hs;simp only[cond_true]at h;split at h
   ·rename_i i _ e sz bt hx ht
    split at h
    ·rename_i k z0 hz
     cases hc:(Nat.beq sz 1&&Nat.blt 0 bt)with
     |false=>rw[hc]at h;cases h
     |true=>rw[hc]at h;simp only[akg]at hc;obtain rfl:=akf hc.1;simp only[cond_true]at h;obtain⟨g1,h⟩:=qo h;obtain⟨g2,h⟩:=qo h;exact dF bJ hg (acC ht hz hx g1 g2 (by simpa[Nat.blt_eq]using hc.2)) (Nat.le_succ _) h
    ·cases h
   ·cases h
 ·split at h
  ·rename_i t v hx
   exact⟨_,_,h,Nat.le_refl _,UE hg hx⟩
  ·cases h
 ·split at h
  ·rename_i k x y l hf ha
   cases hb:((pb x&&pb l)&&(pb y&&yC (my C)))with
   |false=>rw[hb]at h;cases h
   |true=>rw[hb]at h;simp only[akg]at hb;obtain⟨e,S3,k1,k2,k3⟩:=bJ _ _ _ _ _ _ _ h;exact⟨e,S3,k1,k2,UF hg hf ha hb.2.2 k3⟩
  ·cases h
 ·rename_i args Ju
  split at h
  ·rename_i x y T T' hA hT
   have eA:args= #[x,y]:=by rw[← Array.toArray_toList (xs:=args),hA]
   have eT:Ju= #[T,T']:=by rw[← Array.toArray_toList (xs:=Ju),hT]
   subst eA;subst eT;cases hb:Nat.beq T T' with
   |false=>rw[hb]at h;cases h
   |true=>
    rw[hb]at h;obtain rfl:=akf hb;simp only[cond_true]at h;split at h
    ·rename_i q vy e sz bt hx hy ht
     split at h
     ·rename_i e' sz' t xs l ho hl
      cases hc:(Nat.beq e' e&&Nat.beq sz' sz)with
      |false=>rw[hc]at h;cases h
      |true=>
       rw[hc]at h;simp only[akg]at hc;obtain rfl:=akf hc.1;obtain rfl:=akf hc.2;simp only[cond_true]at h;split at h
       ·rename_i ys hys
        obtain⟨g1,h⟩:=qo h;exact dF bJ hg (acI ht hx hy ho hl hys g1) (Nat.le_succ _) h
       ·cases h
     ·cases h
    ·rename_i vy e sz bt hx hy ht
     split at h
     ·rename_i l hl
      cases hc:Nat.beq (l.t.L G).n sz with
      |false=>rw[hc]at h;cases h
      |true=>rw[hc]at h;simp only[cond_true]at h;obtain⟨g1,h⟩:=qo h;exact dF bJ hg (Zp ht hx hy hl (akf hc) g1) (Nat.le_succ _) h
     ·cases h
    ·cases h
  ·cases h
 ·rename_i args Ju
  split at h
  ·rename_i x y T T' hA hT
   have eA:args= #[x,y]:=by rw[← Array.toArray_toList (xs:=args),hA]
   have eT:Ju= #[T,T']:=by rw[← Array.toArray_toList (xs:=Ju),hT]
   subst eA;subst eT;split at h
   ·rename_i q vy e sz bt hx hy ht
    split at h
    ·rename_i e' sz' k xs l ho hl
     cases hc:((Nat.beq e' e&&Nat.beq sz 1)&&Nat.beq sz' 1)with
     |false=>rw[hc]at h;cases h
     |true=>
      rw[hc]at h;simp only[akg]at hc;obtain rfl:=akf hc.1.1;obtain rfl:=akf hc.1.2;obtain rfl:=akf hc.2;simp only[cond_true]at h;split at h
      ·rename_i ys hys
       exact dF bJ hg (Zo ht hx hy ho hl hys) (Nat.le_refl _) h
      ·cases h
    ·cases h
   ·rename_i q p n i q' p' n' j e sz bt hx hy ht
    split at h
    ·rename_i T2 cc ho
     split at h
     ·rename_i m k f hl
      cases hc:((Nat.beq q q'&&Nat.beq n n')&&((Nat.beq m n&&Nat.beq sz 1)&&(Ko p p'&&acM [T,T'] T)))with
      |false=>rw[hc]at h;cases h
      |true=>rw[hc]at h;simp only[akg]at hc;obtain rfl:=akf hc.1.1;obtain rfl:=akf hc.1.2;obtain rfl:=akf hc.2.1.1;obtain rfl:=akf hc.2.1.2;have hT:=hc.2.2.2;simp only[acM,akg]at hT;obtain rfl:=akf hT.2;simp only[cond_true]at h;obtain⟨c',h1,h2⟩:=UY h;exact dF bJ hg (acE ht hx hy hc.2.2.1 ho hl h1) (Nat.le_refl _) h2
     ·cases h
    ·cases h
   ·cases h
  ·cases h
 ·rename_i args Ju
  split at h
  ·rename_i x T hA hT
   have eA:args= #[x]:=by rw[← Array.toArray_toList (xs:=args),hA]
   have eT:Ju= #[T]:=by rw[← Array.toArray_toList (xs:=Ju),hT]
   subst eA;subst eT;split at h
   ·rename_i q p n i e sz bt hx ht
    split at h
    ·rename_i T2 cc ho
     split at h
     ·rename_i m k f hl
      cases hc:((Nat.beq i.toNat n&&Nat.blt 0 n)&&((Nat.beq m n&&Nat.beq sz 1)&&DF P e k))with
      |false=>rw[hc]at h;cases h
      |true=>rw[hc]at h;simp only[akg]at hc;obtain rfl:=akf hc.2.1.1;obtain rfl:=akf hc.2.1.2;simp only[cond_true]at h;obtain⟨c',h1,h2⟩:=UY h;exact dF bJ hg (acF ht hx hc.1.1 hc.1.2 ho hl hc.2.2 h1) (Nat.le_refl _) h2
     ·cases h
    ·cases h
   ·cases h
  ·cases h
 ·split at h
  ·exact dF bJ hg (OT _) (Nat.le_succ _) h
  ·cases h
 ·split at h
  ·rename_i q ky k _ v hx hy hz
   split at h
   ·rename_i ik ks vs ho
    cases hc:((G5 ky ik&&NZ P _ ik)&&(KC k ks&&pb vs))with
    |false=>rw[hc]at h;cases h
    |true=>rw[hc]at h;simp only[akg]at hc;exact dF bJ hg (SB hx hy hz ho hc.1.1 hc.1.2 hc.2.1 hc.2.2) (Nat.le_refl _) h
   ·cases h
  ·cases h
 ·split at h
  ·rename_i k fst cap l hf ha
   have h0:=abw h;clear h;rcases h0 with⟨ct,x,g',KU,h⟩|⟨b,l',h⟩|h
   ·cases hb:((pb fst&&pb l)&&(pb cap&&Nat.beq ct.s.k k))with
    |false=>rw[hb]at h;cases h
    |true=>
     rw[hb]at h;simp only[akg]at hb;obtain⟨⟨b1,b2⟩,b3,b4⟩:=hb;obtain rfl:=akf b4;have Nz:=aaB KU;rcases ct.cps x _ _ z h with⟨y,hR,hy⟩|⟨y,hR,hy⟩
     ·split at hy
      ·rename_i v hd
       exact dF bJ hg (af2 hf ha b1 b2 KU hR hd) (Nat.le_trans Nz (Nat.le_add_right _ _)) hy
      ·cases hy
     ·split at hy
      ·rename_i v hd
       exact⟨_,_,hy,Nat.le_trans Nz (Nat.le_add_right _ _),acu hg hf ha b1 b2 KU hR hd⟩
      ·cases hy
   ·obtain⟨e,S1,h1,h2,h3⟩:=bJ _ _ _ _ _ _ _ h
    have h2:=Nat.le_trans (M9 l' _) h2;rw[xy]at h2;exact⟨e,S1,h1,h2,CY b (MY l' h3)⟩
   split at h
   ·rename_i fi Ir
    cases hb:((pb fst&&pb l)&&(pb cap&&Nat.ble (zD (n7 fst (n7 l cap))) fi.N))with
    |false=>rw[hb]at h;cases h
    |true=>
     rw[hb]at h;simp only[akg]at hb;obtain⟨⟨b1,b2⟩,b3,b4⟩:=hb;have b4:=Nat.le_of_ble_eq_true b4;obtain⟨e,S1,h1,h2,h3⟩:=bJ _ _ _ _ _ _ _ h;have h2:S.nx<=S1.nx:=h2;split at h1
     ·rename_i v O2 hX
      exact⟨_,_,h1,h2,UJ (tt:=tb.tt) hg hf ha Ir b1 b2 b3 b4 h3 hX⟩
     ·rename_i O2 hX
      split at h1
      ·rename_i v hres
       exact dF bJ hg (QC hf ha Ir b1 b2 b3 b4 h3 hX (.inl rfl) hres) h2 h1
      ·cases h1
     ·rename_i O2 hX
      split at h1
      ·rename_i v hres
       exact dF bJ hg (QC hf ha Ir b1 b2 b3 b4 h3 hX (.inr rfl) hres) h2 h1
      ·cases h1
     ·cases h1
   ·cases h
  ·rename_i q l hf ha
   split at h
   ·rename_i N2 ks vs ps a b hq
    cases hb:yC (my C)with
    |false=>rw[hb]at h;cases h
    |true=>
     rw[hb]at h;simp only[cond_true]at h;obtain⟨S2,hbi,h⟩:=RS h;obtain⟨e1,S3,h1,h2,h3⟩:=bJ _ _ _ _ _ _ _ h;cases e1 with
     |jK=>
      obtain⟨e2,S4,k1,k2,k3⟩:=bJ _ _ _ _ _ _ _ h1;cases e2 with
      |jK=>
       split at k1
       ·rename_i hD
        have hn:=I2 hbi;have hn:S2.nx=S.nx:=hn;exact dF bJ hg (U0 hf ha hq hb hbi h3 h2 k3 k2 hD) (by show S.nx<=S4.nx;omega) k1
       ·cases k1
      |_ =>cases k1
     |_ =>cases h1
   ·cases h
  ·cases h
 ·split at h
  ·rename_i g0 hgt
   cases hb:sC P _ with
   |false=>rw[hb]at h;cases h
   |true=>rw[hb]at h;exact dF bJ hg (U5 hgt hb) (Nat.le_succ _) h
  ·cases h
 ·split at h
  ·rename_i q ik k kb hx hy
   split at h
   ·rename_i ho
    split at h
    ·rename_i g0 hgt
     cases hb:(Nat.beq (Ty.bS.ik ik) (Ty.bS.ik g0.1)&&FV P _ g0.1)with
     |false=>rw[hb]at h;cases h
     |true=>rw[hb]at h;simp only[akg]at hb;exact dF bJ hg (SA hgt hx ho hy hb.1 hb.2) (Nat.le_refl _) (agH h)
    ·cases h
   ·rename_i qk ks vs ho
    cases hb:(G5 ik qk&&FV P _ qk)with
    |false=>rw[hb]at h;cases h
    |true=>rw[hb]at h;simp only[akg]at hb;obtain⟨t,t1,t2⟩:=agI h;exact dF bJ hg (U4 hx hy ho hb.1 hb.2 t2) (Nat.le_refl _) t1
   ·cases h
  ·cases h
 ·split at h
  ·rename_i q k i qq e sz bt hx hh ht _
   split at h
   ·rename_i e' sz' t xs ho
    cases hc:(Nat.beq e' e&&Nat.beq sz' sz)with
    |false=>rw[hc]at h;cases h
    |true=>rw[hc]at h;simp only[akg]at hc;obtain rfl:=akf hc.1;obtain rfl:=akf hc.2;simp only[cond_true]at h;obtain⟨g1,h⟩:=qo h;exact dF bJ hg (acD ht hx ho hh g1) (Nat.le_succ _) h
   ·cases h
  ·rename_i q p k i qq hx hh _
   split at h
   ·rename_i T2 cc n e0 sz ho hT
    split at h
    ·rename_i m e f hl
     cases hc:Nat.beq m n with
     |false=>rw[hc]at h;cases h
     |true=>rw[hc]at h;obtain rfl:=akf hc;simp only[cond_true]at h;obtain⟨g1,h⟩:=qo h;exact dF bJ hg (U3 hT hx hh ho hl g1) (Nat.le_refl _) h
    ·cases h
   ·cases h
  ·exact Es bJ hg h
 ·split at h
  ·rename_i q k i qq e sz bt hc hx hh ht
   split at h
   ·rename_i e' sz' t xs ho _
    cases hc:(Nat.beq e' e&&Nat.beq sz' sz)with
    |false=>rw[hc]at h;cases h
    |true=>rw[hc]at h;simp only[akg]at hc;obtain rfl:=akf hc.1;obtain rfl:=akf hc.2;simp only[cond_true]at h;obtain⟨g1,h⟩:=qo h;exact dF bJ hg (U6 ht hx ho hh g1) (Nat.le_succ _) h
   ·exact Es bJ hg h
  ·rename_i d1 r2 q k0 i qq e sz bt hc hx hl ht
   split at h
   ·rename_i e' sz' k xs S1 ho hp
    cases hb:((Nat.beq e' e&&Nat.beq sz 1)&&(Nat.beq sz' 1&&DF P e k))with
    |false=>rw[hb]at h;cases h
    |true=>rw[hb]at h;simp only[akg]at hb;obtain rfl:=akf hb.1.1;obtain rfl:=akf hb.1.2;obtain rfl:=akf hb.2.1;simp only[cond_true]at h;obtain⟨g1,h⟩:=qo h;obtain⟨e1,S3,h1,h2,h3⟩:=bJ _ _ _ _ _ _ _ h;have Nz:=oh hp;refine⟨e1,S3,h1,(by rw[← Nz];exact h2),?_⟩;obtain⟨t2,p2,f2,rfl,rfl,rfl⟩:=aen hc;exact UI ht hb.2.2 hx ho hl g1 hp h3
   ·exact Es bJ hg h
  ·exact Es bJ hg h
 ·exact Es bJ hg h
theorem ael(bJ:qe P rec){o:Oper}{S:AS G}{j dj:Nat}{w:Bool}{no:Option Z}{gx:Option Bool}{cx:Option (Nat×AV G)}(Md:o.guard=some (j,w))(hd:IP all j=some dj)(he:PE C S 8 dj w=gx)(hc:N7 C S (chain C S 8 dj w) o.op=cx)
  (hno:no=some z->∃e S',K e S'=some z/\S.nx<=S'.nx/\US P N C (.ops all (o::r)) S S' e)(h:ctT tb rec N cp C all r o S K dj w no gx cx=some z):∃e S',K e S'=some z/\S.nx<=S'.nx/\US P N C (.ops all (o::r)) S S' e:=by
 unfold ctT at h;split at h
 ·rename_i g k akc
  have h0:=abw h;clear h;rcases h0 with⟨ct,x,g',KU,h⟩|⟨b,l',h⟩|h
  ·cases hb:Nat.beq ct.s.k k with
   |false=>rw[hb]at h;cases h
   |true=>
    rw[hb]at h;have hk:=akf hb;simp only[cond_true]at h;unfold ctG at h;split at h
    ·rename_i hnm
     cases hn:(GZ true ct.s.vS&&GZ false ct.s.cP)with
     |false=>rw[hn]at h;exact hno h
     |true=>
      rw[hn]at h;simp only[akg]at hn;obtain⟨y,hR,hy⟩:=ct.cgs g x _ z h;split at hy
      ·rename_i v hv
       split at hy
       ·rename_i S2 hp
        obtain⟨e,S3,k1,k2,k3⟩:=bJ _ _ _ _ _ _ _ hy;have:=oh hp;exact⟨e,S3,k1,by omega,acv Md hd he hc hk KU hnm hn.1 hn.2 hR hv hp k3⟩
       ·cases hy
      ·cases hy
    ·exact hno h
  ·obtain⟨e,S1,h1,h2,h3⟩:=bJ _ _ _ _ _ _ _ h
   have h2:=Nat.le_trans (M9 l' _) h2;rw[xy]at h2;exact⟨e,S1,h1,h2,CY b (MY l' h3)⟩
  ·exact hno h
 ·exact hno h
theorem Qz{x:Operand}{a b:Code}{t:Bool}{S S1:AS G}{e:Ex G}(hx:gv C S [] x=some (.bool t))(h:US P N C (.code (bif t then a else b)) S S1 e):US P N C (.code (.cond x a b)) S S1 e:=by
 intro c ρ J HK X ac w Q hr hq;have ex:=As ((dk hr (ch:=[]) (by simp)).ok _ _ hx);cases t with
 |true=>exact wpIn_cond_true ex (h c ρ J HK X ac w Q hr hq)
 |false=>exact wpIn_cond_false ex (h c ρ J HK X ac w Q hr hq)
theorem UH{x:Operand}{a b:Code}{t:Bool}{S S1:AS G}{e:Ex G}(hx:gv C S [] x=some (.kb t))(h:US P N C (.code (bif t then a else b)) S S1 e):US P N C (.code (.cond x a b)) S S1 e:=by
 intro c ρ J HK X ac w Q hr hq;have ex:=Ks ((dk hr (ch:=[]) (by simp)).ok _ _ hx);cases t with
 |true=>exact wpIn_cond_true ex (h c ρ J HK X ac w Q hr hq)
 |false=>exact wpIn_cond_false ex (h c ρ J HK X ac w Q hr hq)
theorem So{i:Nat}{ops:Array Oper}{S S1:AS G}{e:Ex G}(h:US P N C (.ops ops ops.toList) S S1 e):US P N C (.code (.region i ops false)) S S1 e:=by intro c ρ J HK X a w Q hr hq;exact wpIn_region_list (h c ρ J HK X a w Q hr hq)
theorem Lo{cf:Cf}{S S1:AS G}{e:Ex G}(p q:Nat->Bool)(h:US P N (⟨jM (λd=> !p d) S.F,bK (λr=> !q r) S.O,S.D⟩::C) cf ⟨jM p S.F,bK q S.O,S.nx,[]⟩ S1 e):US P N C cf S (MO ⟨jM (λd=> !p d) S.F,bK (λr=> !q r) S.O,S.D⟩ S1) e:=by intro c ρ J HK X a w Q hr hq;obtain⟨H2,p1,p2⟩:=hr.push p q;refine h c ρ J (H2++HK) X a w Q p2 λρ' J' Y a' w' me k1 k2 k3 k4=>?_;have hle:=k1.le hr.fr;exact hq ρ' J' Y a' w' me k1 k2 k3 (k4.MO (p1.up k2 hle) (hr.Oo k2 hle) hr.si.n)
theorem Zg{x y:Code}{S S1 S2:AS G}{ly:Ly G}{g:Om}{p q:Nat->Bool}{e:HL G (aL (sY g.l))}{e2:Ex G}(hly:ly=⟨jM (λd=> !p d) S.F,bK (λr=> !q r) S.O,S.D⟩)(hl:yP S.nx (ly::C)=true)
  (h1:US P N (ly::C) (.code x) ⟨jM p S.F,bK q S.O,S.nx,[]⟩ S1 .jK)(hg:Iu (ly::C) (mL (ly::C) S1 g.l) g S.nx=some e)(h2:US P N C (.code y) (MO ly (JP g S.nx e)) S2 e2):US P N C (.code (.seq x y)) S S2 e2:=by
 subst hly;intro c ρ J HK X a w Q hr hq;obtain⟨H2,p1,p2⟩:=hr.push p q;refine wpIn_seq (h1 c ρ J (H2++HK) X a w _ p2 λρ' J' Y a' w' me k1 k2 k3 k4=>?_);rw[jE k3];obtain⟨J2,Y2,j1,k5⟩:=k4.mL g.l;obtain⟨ρ2,m1,m2⟩:=ZZ k5 hg hl;have hto:ρ.to ρ2 S.nx:=λr hr'=>(m1 r hr').trans (k1 r hr');have hle:=hto.le hr.fr;have k2':∀w,J2 w->J w:=λw h=>k2 w (j1 w h);rw[← List.append_assoc]at m2;refine h2 c ρ2 J2 HK ((Y2++Y)++X) a' w' Q (m2.MO (p1.up k2' hle) (hr.Oo k2' hle) hr.si.n) (hq.iH hto k2' ?_);show S.nx<=S.nx+_;omega
def USl(P:Program)(N:Nat)(C:CC G)(base:Nat)(x:Code)(S S':AS G)(e:Ex G):Prop:=∀(c:Cx) (ρ:bh) (J:World->Prop) (HK X:List aE) (a:Act) (w:World) (Q:Exit->Act->World->Prop),Rl c N ρ J HK X C S a w->Aft c N C ρ J HK X base S' e Q->LPr P c x Q a w
theorem UB{x:Code}{g:Om}{base:Nat}{e e':HL G (aL (sY g.l))}{S1 S2:AS G}{e2:Ex G}(hl:yP base C=true)(h1:US P N C (.code x) (JP g base e) S1 .jK)(hg:Iu C (mL C S1 g.l) g base=some e')(h2:USl P N C base x (JP g base e') S2 e2):USl P N C base x (JP g base e) S2 e2:=by intro c ρ J HK X a w Q hr hq;refine Dq (h1 c ρ J HK X a w _ hr λρ' J' Y a' w' me k1 k2 k3 k4=>?_);rw[jE k3];obtain⟨J2,Y2,j1,k5⟩:=k4.mL g.l;obtain⟨ρ2,m1,m2⟩:=ZZ k5 hg hl;have Oq:ρ.to ρ' base:=λr hr'=>k1 r (by show r<base+_;omega);rw[← List.append_assoc]at m2;exact h2 c ρ2 J2 HK ((Y2++Y)++X) a' w' Q m2 (hq.iH (λr hr'=>(m1 r hr').trans (Oq r hr')) (λw h=>k2 w (j1 w h)) (Nat.le_refl _))
theorem HG{x:Code}{g:Om}{base:Nat}{e:HL G (aL (sY g.l))}{S1:AS G}{e1:Ex G}(h1:US P N C (.code x) (JP g base e) S1 e1)(he:e1≠ .jK):USl P N C base x (JP g base e) S1 e1:=by intro c ρ J HK X a w Q hr hq;refine Dq (h1 c ρ J HK X a w _ hr λρ' J' Y a' w' me k1 k2 k3 k4=>?_);exact nh (nZ he k3) (hq ρ' J' Y a' w' me (λr hr'=>k1 r (by show r<base+_;omega)) k2 k3 k4)
theorem Zf{x:Code}{S S1:AS G}{g:Om}{v:AV G}{x0:HL G (aL (sY g.l))}{g':GS G}{p:Nat->Bool}{ly:Ly G}{e:Ex G}(hv:Et C S g.l=some v)(KU:nW (sY g.l) v ⟨[],S.O,S.nx⟩=some (x0,g'))(b1:xp g.nm g'.th=true)(b2:xq S.nx g.nm=true)
  (hly:ly=⟨jM p S.F,g'.O,S.D⟩)(hl:yP S.nx (ly::C)=true)(h:USl P N (ly::C) S.nx x (JP g S.nx x0) S1 e):US P N C (.code (.loop x)) S (MO ly S1) e:=by
 intro c ρ J HK X a w Q hr hq;refine Ie ?_;have hlC:yP S.nx C=true:=by simp only[yP,akg]at hl;exact hl.2.2.2
 obtain⟨ρ',ρ2,HB,H',hto,ht2,Is,hleft,hC,hp,hF,hfc,hfr⟩:=QW hr hv KU b1 b2 (Nat.le_refl _) hlC;have hag:∀r,r<S.nx->ρ' r=ρ2 r:=λr hr'=>(hto r hr').trans (ht2 r hr').symm;subst hly;have hl':=hl;simp only[yP,akg]at hl';have hleft:=hleft.fJ hag hl'.2.1;have hr':Rl c N ρ' J (H'++HK) X (⟨jM p S.F,g'.O,S.D⟩::C) (JP g S.nx x0) a w:=by
  refine⟨hr.tm,?_,⟨hr.si.s,λq=>hr.si.n (Dk q)⟩,hF,λy hy=>?_,λr o e=>?_,⟨HB,Is,by simpa using hp⟩,hr.kn,hfr⟩
  ·exact hr.df.fJ hto (LY hl'.2.2.1 (FD hlC).2)
  ·rcases List.mem_cons.1 hy with rfl|hy
   ·exact(hr.fs.YS).fJ hto hl'.1
   ·exact hfc y hy
  ·have e:dm (g'.O++my C) r=some o:=e
   rw[kR]at e;split at e
   ·rename_i v' JU
    cases e;obtain⟨x,h1,h2⟩:=hleft.lk JU;exact⟨x,akk _ h1,h2⟩
   ·obtain⟨x,h1,h2⟩:=hC r o e
    exact⟨x,akj _ h1,h2⟩
 refine h c ρ' J (H'++HK) X a w Q hr' λρ3 J3 Y a' w' me k1 k2 k3 k4=>?_;have Oq:ρ.to ρ3 S.nx:=λr q=>(k1 r q).trans (hto r q);refine hq ρ3 J3 Y a' w' me Oq k2 k3 (k4.MO ((hleft.fJ k1 hl'.2.1).up k2 (bh.le_refl _)) (hr.Oo k2 (Oq.le hr.fr)) hr.si.n)
theorem Z3(bJ:qe P rec){x:Code}{g:Om}{base:Nat}{ly:Ly G}(hl:yP base (ly::C)=true){vw:Option (Vw G (aL (sY g.l)))}:∀(n:Nat) (e:HL G (aL (sY g.l))),lpV vw (λgo e=>rec N cp (ly::C) (.code x) (JP g base e) λe1 S1=>match e1 with
   | .jK=>match Iu (ly::C) (mL (ly::C) S1 g.l) g base with
    |some e=>go e
    |none=>none
   |e1=>K e1 (MO ly S1)) n e=some z->
  ∃e1 S1,K e1 (MO ly S1)=some z/\base<=S1.nx/\USl P N (ly::C) base x (JP g base e) S1 e1:=by
 intro n
 induction n with
 |zero=>intro e h;obtain⟨m,h1,_⟩:=QY h;cases h1
 |succ n ih=>
  intro e h;obtain⟨m,h1,h2⟩:=QY h;cases h1;obtain⟨e1,S1,k1,k2,k3⟩:=bJ _ _ _ _ _ _ _ h2;have k2:base<=S1.nx:=Nat.le_trans (Nat.le_add_right _ _) k2;cases e1 with
  |jK=>
   dsimp only at k1;split at k1
   ·rename_i e' hg
    obtain⟨e2,S2,m1,m2,m3⟩:=ih e' k1;exact⟨e2,S2,m1,m2,UB hl k3 hg m3⟩
   ·cases k1
  |exit i=>exact⟨_,S1,k1,k2,HG k3 (by simp)⟩
  |ret=>exact⟨_,S1,k1,k2,HG k3 (by simp)⟩
  |wY v=>exact⟨_,S1,k1,k2,HG k3 (by simp)⟩
theorem acL(bJ:qe P rec){x y:Code}{S:AS G}(h:(rec N cp C (.code x) S λe S'=>match e with
    | .jK=>rec N cp C (.code y) S' K
    |e=>K e S')=some z):∃e S',K e S'=some z/\S.nx<=S'.nx/\US P N C (.code (.seq x y)) S S' e:=by
 obtain⟨e1,S1,k1,k2,k3⟩:=bJ _ _ _ _ _ _ _ h;cases e1 with
 |jK=>obtain⟨e2,S2,m1,m2,m3⟩:=bJ _ _ _ _ _ _ _ k1;exact⟨e2,S2,m1,Nat.le_trans k2 m2,acr k3 m3 k2⟩
 |exit i=>exact⟨_,S1,k1,k2,oS k3 (by simp)⟩
 |ret=>exact⟨_,S1,k1,k2,oS k3 (by simp)⟩
 |wY v=>exact⟨_,S1,k1,k2,oS k3 (by simp)⟩
theorem ZJ{x:Code}{S:AS G}{g:Om}{r:Option Z}(h:r=some z->∃e S',K e S'=some z/\(mL C S g.l).nx<=S'.nx/\US P N C (.code x) (mL C S g.l) S' e)(hr:r=some z):∃e S',K e S'=some z/\S.nx<=S'.nx/\US P N C (.code x) S S' e:=by obtain⟨e,S',h1,h2,h3⟩:=h hr;rw[Db]at h2;exact⟨e,S',h1,h2,Ze _ h3⟩
theorem acP(bJ:qe P rec){ps:List Nat}{a b:Code}{S1:AS G}{g:Om}{it:It P G}{O:Os G}:∀(l:List it.B) (e:HL G (aL (sY g.l))),rgW rec N cp C ps a b S1 K g it l O e=some z->
  ∃e1 Sf,K e1 (SQ S1.nx S1 O Sf)=some z/\S1.nx<=Sf.nx/\RgT P N (Wi ps a b C S1 O) ps a b g (S1.nx+2) it l e e1 Sf:=by
 intro l
 induction l with
 |nil=>intro e h;exact⟨_,_,aaf h,by show S1.nx<=S1.nx+2+_;omega, .nil⟩
 |cons y l ih=>
  intro e h;have h:=Wu h;obtain⟨S2,hb,h⟩:=RS h;obtain⟨e1,S3,k1,k2,k3⟩:=bJ _ _ _ _ _ _ _ h;have hS2:S1.nx<=S2.nx:=by rw[I2 hb];show S1.nx<=S1.nx+2+_;omega
  cases e1 with
  |jK=>
   obtain⟨e2,S4,m1,m2,m3⟩:=bJ _ _ _ _ _ _ _ k1;cases e2 with
   |jK=>
    dsimp only at m1;split at m1
    ·rename_i e' hg
     obtain⟨e3,Sf,n1,n2,n3⟩:=ih e' m1;exact⟨e3,Sf,n1,n2, .iH hb k3 k2 m3 hg n3⟩
    ·cases m1
   |ret=>
    dsimp only at m1;cases hD:V7 S4.D with
    |false=>rw[hD]at m1;cases m1
    |true=>rw[hD]at m1;exact⟨_,S4,m1,by omega, .stop hb k3 k2 m3 (.inl rfl) (V6 hD)⟩
   |exit i=>
    dsimp only at m1;cases hD:V7 S4.D with
    |false=>rw[hD]at m1;cases m1
    |true=>rw[hD]at m1;exact⟨_,S4,m1,by omega, .stop hb k3 k2 m3 (.inr ⟨i,rfl⟩) (V6 hD)⟩
   |wY v=>cases m1
  |_ =>cases k1
theorem acQ(bJ:qe P rec){ps:Array Nat}{a b:Code}{k:Nat}{cap:AV G}{gl:List (T3×Sh)}{S:AS G}{Ud:Operand}(Md:gv C S [] Ud=some (.fn (.func k) .nil cap)):∀{l:List (It P G)},rgK rec N cp C ps.toList a b k cap gl S K l=some z->
  ∃e S',K e S'=some z/\S.nx<=S'.nx/\US P N C (.code (.rangeFunc Ud ps a b)) S S' e:=by
 intro l
 induction l with
 |nil=>intro h;cases h
 |cons it q ih=>
  intro h;unfold rgK at h;split at h
  ·exact ih h
  ·rename_i x g1 KU
   split at h
   ·rename_i g hg
    dsimp only at h;split at h
    ·rename_i v hv
     split at h
     ·rename_i x0 g2 adH
      revert h;generalize hcc:(((Nat.beq it.k k&&Nat.beq it.n ps.toList.length&&yC (my C))&&(xp g.nm g2.th&&xq ((mL C ⟨S.F,g1.O,g1.nx,S.D⟩ g.l).nx+2) g.nm&&yP ((mL C ⟨S.F,g1.O,g1.nx,S.D⟩ g.l).nx+2) (Wi ps.toList a b C (mL C ⟨S.F,g1.O,g1.nx,S.D⟩ g.l) g2.O)))&&((uY ((mL C ⟨S.F,g1.O,g1.nx,S.D⟩ g.l).nx+2) g2.O&&psN N ps.toList)&&(yP ((mL C ⟨S.F,g1.O,g1.nx,S.D⟩ g.l).nx+2) C&&LQ (g2.O++my C))))=cc;intro h;cases cc with
      |false=>cases h
      |true=>simp only[akg]at hcc;obtain⟨⟨⟨⟨c1,c2⟩,c3⟩,⟨c4,c5⟩,c6⟩,⟨c7,c8⟩,c9,c10⟩:=hcc;obtain rfl:=akf c1;obtain⟨l,hf,h⟩:=tg h;obtain⟨e1,Sf,k1,k2,k3⟩:=acP bJ l x0 h;refine⟨e1,_,k1,?_,UD Md KU rfl hv adH c4 c5 (by simpa using akf c2) c3 c6 c7 c9 c8 c10 hf k3⟩;show S.nx<=Sf.nx;rw[Db]at k2;exact Nat.le_trans (Xb KU) k2
     ·cases h
    ·cases h
   ·cases h
theorem acR(bJ:qe P rec){ps:Array Nat}{a b:Code}{k:Nat}{cap:AV G}{S:AS G}{Ud:Operand}(Md:gv C S [] Ud=some (.fn (.func k) .nil cap))(h:rgI tb rec N cp C ps.toList a b k cap S K=some z):
  ∃e S',K e S'=some z/\S.nx<=S'.nx/\US P N C (.code (.rangeFunc Ud ps a b)) S S' e:=by
 unfold rgI at h;split at h
 ·rename_i fi ks vs Ir hkv
  split at h
  ·rename_i hres
   cases hb:((pb cap&&Nat.ble (zD cap+1) fi.N)&&yC (my C))with
   |false=>rw[hb]at h;cases h
   |true=>
    rw[hb]at h;simp only[akg]at hb;obtain⟨⟨b1,b2⟩,b3⟩:=hb;have b2:=Nat.le_of_ble_eq_true b2;obtain⟨e,S1,h1,h2,h3⟩:=bJ _ _ _ _ _ _ _ h;have h2:S.nx+2<=S1.nx:=h2;split at h1
    ·rename_i O2 hX
     exact⟨_,_,h1,by show S.nx<=S1.nx;omega,Kk (tt:=tb.tt) Md Ir hres b1 b2 b3 hkv h3 h2 hX (.inl rfl)⟩
    ·rename_i O2 hX
     exact⟨_,_,h1,by show S.nx<=S1.nx;omega,Kk (tt:=tb.tt) Md Ir hres b1 b2 b3 hkv h3 h2 hX (.inr rfl)⟩
    ·cases h1
  ·cases h
 ·cases h
theorem Zm(bJ:qe P rec):qe P (step tb rec):=by
 intro N cp C cf S K z h;unfold step at h;dsimp only at h;split at h
 ·exact⟨_,_,h,Nat.le_refl _,acs⟩
 ·rename_i all o r
  split at h
  ·rename_i hg;exact Uz bJ (.none hg) h
  ·rename_i j w hg
   split at h
   ·rename_i dj hd
    split at h
    ·rename_i hk;exact Uz bJ (.abP hg hd hk) h
    ·rename_i hk
     split at h
     ·rename_i S2 hp
      obtain⟨e,S3,k1,k2,k3⟩:=bJ _ _ _ _ _ _ _ h;have:=oh hp;exact⟨e,S3,k1,by omega,Zd hg hd hk hp k3⟩
     ·cases h
    ·split at h
     ·rename_i g gs v he hv
      obtain⟨h1,h2⟩:=ahq h;split at h2
      ·rename_i S2 hp
       obtain⟨e,S3,k1,k2,k3⟩:=bJ _ _ _ _ _ _ _ h2;have:=oh hp;exact⟨e,S3,k1,by omega,UG hg hd he hv h1 hp k3⟩
      ·cases h2
     ·refine ael bJ hg hd rfl rfl (λh=>?_) h
      split at h
      ·rename_i k b hk
       cases b with
       |true=>have h:=P8 rfl h;obtain⟨e,S3,k1,k2,k3⟩:=bJ _ _ _ _ _ _ _ h;exact⟨e,S3,k1,k2,Qy hk k3⟩
       |false=>have h:=P9 rfl h;obtain⟨e,S3,k1,k2,k3⟩:=bJ _ _ _ _ _ _ _ h;exact⟨e,S3,k1,k2,Qy hk k3⟩
      ·cases h
   ·cases h
 ·split at h
  ·exact⟨_,_,h,Nat.le_refl _,λc ρ J HK X a w Q hr hq=>wpIn_skip (hq.here hr trivial)⟩
  ·exact⟨_,_,h,Nat.le_refl _,λc ρ J HK X a w Q hr hq=>wpIn_label (hq.here hr trivial)⟩
  ·exact⟨_,_,h,Nat.le_refl _,λc ρ J HK X a w Q hr hq=>wpIn_ret (hq.here hr trivial)⟩
  ·exact⟨_,_,h,Nat.le_refl _,λc ρ J HK X a w Q hr hq=>wpIn_exit (hq.here hr rfl)⟩
  ·obtain⟨e,S1,k1,k2,k3⟩:=bJ _ _ _ _ _ _ _ h
   exact⟨e,S1,k1,k2,So k3⟩
  ·exact aef bJ h
  ·rename_i i x
   obtain⟨e1,S1,k1,k2,k3⟩:=bJ _ _ _ _ _ _ _ h;cases e1 with
   |exit j=>
    dsimp only at k1;cases hb:Nat.beq i j with
    |true=>rw[hb]at k1;have e:=akf hb;exact⟨_,S1,k1,k2,zh k3 (.inl ⟨by rw[e],rfl⟩)⟩
    |false=>rw[hb]at k1;exact⟨_,S1,k1,k2,zh k3 (.inr ⟨rfl,λq=>by cases q;rw[Nat.beq_refl]at hb;cases hb⟩)⟩
   |jK=>exact⟨_,S1,k1,k2,zh k3 (.inr ⟨rfl,by simp⟩)⟩
   |ret=>exact⟨_,S1,k1,k2,zh k3 (.inr ⟨rfl,by simp⟩)⟩
   |wY v=>exact⟨_,S1,k1,k2,zh k3 (.inr ⟨rfl,by simp⟩)⟩
  ·obtain⟨e,S1,k1,k2,k3⟩:=bJ _ _ _ _ _ _ _ h
   exact⟨e,S1,k1,k2,UC k3⟩
  ·split at h
   ·rename_i t hx
    cases t with
    |true=>have h:=P8 rfl h;obtain⟨e,S1,k1,k2,k3⟩:=bJ _ _ _ _ _ _ _ h;exact⟨e,S1,k1,k2,Qz hx k3⟩
    |false=>have h:=P9 rfl h;obtain⟨e,S1,k1,k2,k3⟩:=bJ _ _ _ _ _ _ _ h;exact⟨e,S1,k1,k2,Qz hx k3⟩
   ·rename_i t hx
    obtain⟨e,S1,k1,k2,k3⟩:=bJ _ _ _ _ _ _ _ h;exact⟨e,S1,k1,k2,UH hx k3⟩
   ·cases h
  ·rename_i x y
   split at h
   ·rename_i gl ex _
    split at h
    ·rename_i g _
     cases hb:yP S.nx ((⟨jM (λd=> !(cv (Kh x) d||zG g.l d)) S.F,bK (λq=> !cv (Sr C S gl++Nm C S ex) q) S.O,S.D⟩:Ly G)::C)with
     |false=>rw[hb]at h;cases h
     |true=>
      rw[hb]at h;have h:=agK h;obtain⟨e1,S1,k1,k2,k3⟩:=bJ _ _ _ _ _ _ _ h;have k2:S.nx<=S1.nx:=k2;cases e1 with
      |jK=>
       dsimp only at k1;split at k1
       ·rename_i e hg
        obtain⟨e2,S2,m1,m2,m3⟩:=bJ _ _ _ _ _ _ _ k1;have m2:S.nx+g.nm.length<=S2.nx:=m2;exact⟨e2,S2,m1,by omega,Zg rfl hb k3 hg m3⟩
       ·cases k1
      |exit i=>exact⟨_,_,k1,k2,oS (Lo _ _ k3) (by simp)⟩
      |ret=>exact⟨_,_,k1,k2,oS (Lo _ _ k3) (by simp)⟩
      |wY v=>exact⟨_,_,k1,k2,oS (Lo _ _ k3) (by simp)⟩
    ·cases h
   ·exact acL bJ h
  ·rename_i x
   split at h
   ·rename_i gl _
    split at h
    ·cases h
    ·rename_i g _
     have hp:=Db (C:=C) (S:=S) (l:=g.l);refine ZJ (g:=g) (λh=>?_) h;clear hp;generalize mL C S g.l=S at h;split at h
     ·rename_i v hv
      split at h
      ·rename_i x0 g' KU
       cases hb:(xp g.nm g'.th&&xq S.nx g.nm)with
       |false=>rw[hb]at h;cases h
       |true=>
        rw[hb]at h;simp only[akg]at hb;simp only[cond_true]at h;cases hc:yP S.nx ((⟨jM (λd=> !(cv (Kh x) d||zG g.l d)) S.F,g'.O,S.D⟩:Ly G)::C)with
        |false=>rw[hc]at h;cases h
        |true=>rw[hc]at h;obtain⟨e1,S1,k1,k2,k3⟩:=Z3 (g:=g) bJ hc _ _ h;exact⟨e1,_,k1,k2,Zf hv KU hb.1 hb.2 rfl hc k3⟩
      ·cases h
     ·cases h
   ·obtain⟨e1,S1,k1,k2,k3⟩:=bJ _ _ _ _ _ _ _ h
    exact⟨e1,S1,k1,k2,afQ k3⟩
   ·cases h
  ·split at h
   ·rename_i Md _
    exact acQ bJ Md h
   ·rename_i Md _
    exact acR bJ Md h
   ·cases h
  ·cases h
 ·rename_i x
  obtain⟨e1,S1,k1,k2,k3⟩:=bJ _ _ _ _ _ _ _ h;cases e1 with
  |jK=>obtain⟨e2,S2,m1,m2,m3⟩:=bJ _ _ _ _ _ _ _ k1;exact⟨e2,S2,m1,Nat.le_trans k2 m2,OM k3 m3 k2⟩
  |exit i=>exact⟨_,S1,k1,k2,BP k3 (by simp)⟩
  |ret=>exact⟨_,S1,k1,k2,BP k3 (by simp)⟩
  |wY v=>exact⟨_,S1,k1,k2,BP k3 (by simp)⟩
theorem ahS:∀n:Nat,qe P (W (Z:=Z) tb n):=by
 intro n
 induction n with
 |zero=>intro N cp C cf S K z h;cases h
 |succ n ih=>exact Zm ih
end Go.Rw
namespace Go.Proofs.Z
open Go Go.Bw Go.Rw Go.RowKit
structure fD where
 Do:Int
 iZ:Int
 uR:Int
abbrev m0:cZ fD:=cZ.via (LP (LI .u8) (LP (LI .u64) (LI .u64))) (λx=>(x.Do,x.iZ,x.uR))
abbrev FX:fD:=⟨0,0,0⟩
instance:Inhabited fD:=⟨FX⟩
theorem Jp:aV m0 (LI .u8) 0 (λx=>x.Do) (λx v=>{x with Do:=v}):=(aV.fst aV.id).via _ _ _ 0 rfl (λ_ =>rfl) (λ_ _ =>rfl)
theorem GJ:aV m0 (LI .u64) 1 (λx=>x.iZ) (λx v=>{x with iZ:=v}):=(aV.snd (aV.fst aV.id)).via _ _ _ 1 rfl (λ_ =>rfl) (λ_ _ =>rfl)
theorem GH:aV m0 (LI .u64) 2 (λx=>x.uR) (λx v=>{x with uR:=v}):=(aV.snd (aV.snd aV.id)).via _ _ _ 2 rfl (λ_ =>rfl) (λ_ _ =>rfl)
structure aM where
 iZ:Int
 uR:Int
abbrev nB:cZ aM:=cZ.via (LP (LI .u64) (LI .u64)) (λx=>(x.iZ,x.uR))
abbrev gL:aM:=⟨0,0⟩
instance:Inhabited aM:=⟨gL⟩
def Bg:List Value:=[.int .u64 0]++([.int .u64 0])
theorem JD{A:World->Prop}:nB.fg A Bg gL:=⟨_,_,rfl,rfl,rfl⟩
theorem Fh:aV nB (LI .u64) 0 (λx=>x.iZ) (λx v=>{x with iZ:=v}):=(aV.fst aV.id).via _ _ _ 0 rfl (λ_ =>rfl) (λ_ _ =>rfl)
theorem Fg:aV nB (LI .u64) 1 (λx=>x.uR) (λx v=>{x with uR:=v}):=(aV.snd aV.id).via _ _ _ 1 rfl (λ_ =>rfl) (λ_ _ =>rfl)
structure bj where
 L:(List aM)
 mh:Int
abbrev tw:cZ bj:=cZ.via (LP (@YG aM ⟨gL⟩ nB) (LI .i64)) (λx=>(x.L,x.mh))
abbrev jG:bj:=⟨[],0⟩
instance:Inhabited bj:=⟨jG⟩
def Bh:List Value:=[.slice none 0 0]++([.int .i64 0])
theorem JE{A:World->Prop}:tw.fg A Bh jG:=⟨_,_,rfl,⟨_,_,rfl,Cq.nil⟩,rfl⟩
theorem Jg:aV tw (@YG aM ⟨gL⟩ nB) 0 (λx=>x.L) (λx v=>{x with L:=v}):=(aV.fst aV.id).via _ _ _ 0 rfl (λ_ =>rfl) (λ_ _ =>rfl)
theorem Cj:aV tw (LI .i64) 1 (λx=>x.mh) (λx v=>{x with mh:=v}):=(aV.snd aV.id).via _ _ _ 1 rfl (λ_ =>rfl) (λ_ _ =>rfl)
structure bN where
 iZ:Int
 uR:Int
abbrev vF:cZ bN:=cZ.via (LP (LI .u64) (LI .u64)) (λx=>(x.iZ,x.uR))
abbrev fC:bN:=⟨0,0⟩
instance:Inhabited bN:=⟨fC⟩
def Cy:List Value:=[.int .u64 0]++([.int .u64 0])
theorem Lf{A:World->Prop}:vF.fg A Cy fC:=⟨_,_,rfl,rfl,rfl⟩
theorem GL:aV vF (LI .u64) 0 (λx=>x.iZ) (λx v=>{x with iZ:=v}):=(aV.fst aV.id).via _ _ _ 0 rfl (λ_ =>rfl) (λ_ _ =>rfl)
theorem GK:aV vF (LI .u64) 1 (λx=>x.uR) (λx v=>{x with uR:=v}):=(aV.snd aV.id).via _ _ _ 1 rfl (λ_ =>rfl) (λ_ _ =>rfl)
structure av where
 At:Int
 N:Int
abbrev bO:cZ av:=cZ.via (LP (LI .i64) (LI .i64)) (λx=>(x.At,x.N))
abbrev aB:av:=⟨0,0⟩
instance:Inhabited av:=⟨aB⟩
def oQ:List Value:=[.int .i64 0]++([.int .i64 0])
theorem yU{A:World->Prop}:bO.fg A oQ aB:=⟨_,_,rfl,rfl,rfl⟩
theorem J7:aV bO (LI .i64) 0 (λx=>x.At) (λx v=>{x with At:=v}):=(aV.fst aV.id).via _ _ _ 0 rfl (λ_ =>rfl) (λ_ _ =>rfl)
theorem MK:aV bO (LI .i64) 1 (λx=>x.N) (λx v=>{x with N:=v}):=(aV.snd aV.id).via _ _ _ 1 rfl (λ_ =>rfl) (λ_ _ =>rfl)
structure aC where
 aN:(List av)
 er:Int
abbrev jo:cZ aC:=cZ.via (LP (@YG av ⟨aB⟩ bO) (LI .i64)) (λx=>(x.aN,x.er))
abbrev cQ:aC:=⟨[],0⟩
instance:Inhabited aC:=⟨cQ⟩
def iG:List Value:=[.slice none 0 0]++([.int .i64 0])
theorem nf{A:World->Prop}:jo.fg A iG cQ:=⟨_,_,rfl,⟨_,_,rfl,Cq.nil⟩,rfl⟩
theorem Al:aV jo (@YG av ⟨aB⟩ bO) 0 (λx=>x.aN) (λx v=>{x with aN:=v}):=(aV.fst aV.id).via _ _ _ 0 rfl (λ_ =>rfl) (λ_ _ =>rfl)
theorem A9:aV jo (LI .i64) 1 (λx=>x.er) (λx v=>{x with er:=v}):=(aV.snd aV.id).via _ _ _ 1 rfl (λ_ =>rfl) (λ_ _ =>rfl)
structure aP where
 Up:Int
 gq:Int
 E:aC
 rV:(Nat->Int)
abbrev gU:cZ aP:=cZ.via (LP (LI .u32) (LP (LI .i64) (LP jo (LA (LI .u32) 8)))) (λx=>(x.Up,x.gq,x.E,x.rV))
abbrev iS:aP:=⟨0,0,cQ,(λ_ =>0)⟩
instance:Inhabited aP:=⟨iS⟩
def r8:List Value:=[.int .u32 0]++([.int .i64 0]++(iG++((flat (λ_ =>[.int .u32 0]) 8))))
theorem xR{A:World->Prop}:gU.fg A r8 iS:=⟨_,_,rfl,rfl,⟨_,_,rfl,rfl,⟨_,_,rfl,nf,⟨_,rfl,λ_ _ =>rfl⟩⟩⟩⟩
theorem DQ:aV gU (LI .u32) 0 (λx=>x.Up) (λx v=>{x with Up:=v}):=(aV.fst aV.id).via _ _ _ 0 rfl (λ_ =>rfl) (λ_ _ =>rfl)
theorem Ai:aV gU (LI .i64) 1 (λx=>x.gq) (λx v=>{x with gq:=v}):=(aV.snd (aV.fst aV.id)).via _ _ _ 1 rfl (λ_ =>rfl) (λ_ _ =>rfl)
theorem Ff:aV gU jo 2 (λx=>x.E) (λx v=>{x with E:=v}):=(aV.snd (aV.snd (aV.fst aV.id))).via _ _ _ 2 rfl (λ_ =>rfl) (λ_ _ =>rfl)
theorem Aj:aV gU (LA (LI .u32) 8) 4 (λx=>x.rV) (λx v=>{x with rV:=v}):=(aV.snd (aV.snd (aV.snd aV.id))).via _ _ _ 4 rfl (λ_ =>rfl) (λ_ _ =>rfl)
structure dQ where
 gen:Int
 kS:Bool
 kM:Bool
abbrev cm:cZ dQ:=cZ.via (LP (LI .u32) (LP LB LB)) (λx=>(x.gen,x.kS,x.kM))
abbrev jO:dQ:=⟨0,false,false⟩
def tL:List Value:=[.int .u32 0]++([.bool false]++([.bool false]))
theorem yV{A:World->Prop}:cm.fg A tL jO:=⟨_,_,rfl,rfl,⟨_,_,rfl,rfl,rfl⟩⟩
theorem jI:aV cm (LI .u32) 0 (λx=>x.gen) (λx v=>{x with gen:=v}):=(aV.fst aV.id).via _ _ _ 0 rfl (λ_ =>rfl) (λ_ _ =>rfl)
theorem mX:aV cm LB 1 (λx=>x.kS) (λx v=>{x with kS:=v}):=(aV.snd (aV.fst aV.id)).via _ _ _ 1 rfl (λ_ =>rfl) (λ_ _ =>rfl)
theorem qy:aV cm LB 2 (λx=>x.kM) (λx v=>{x with kM:=v}):=(aV.snd (aV.snd aV.id)).via _ _ _ 2 rfl (λ_ =>rfl) (λ_ _ =>rfl)
structure cj where
 bB:(Nat->dQ)
abbrev aO:cZ cj:=cZ.via (LA cm 32) (λx=>x.bB)
abbrev iF:cj:=⟨(λ_ =>jO)⟩
instance:Inhabited cj:=⟨iF⟩
def pc:List Value:=(flat (λ_ =>tL) 32)
theorem tI{A:World->Prop}:aO.fg A pc iF:=⟨_,rfl,λ_ _ =>yV⟩
theorem dU:aV aO (LA cm 32) 0 (λx=>x.bB) (λx v=>{x with bB:=v}):=aV.id.via _ _ _ 0 rfl (λ_ =>rfl) (λ_ _ =>rfl)
structure mF where
 lI:cj
abbrev qh:cZ mF:=cZ.via aO (λx=>x.lI)
abbrev xL:mF:=⟨iF⟩
def Bf:List Value:=pc
theorem JC{A:World->Prop}:qh.fg A Bf xL:=tI
theorem DP:aV qh aO 0 (λx=>x.lI) (λx v=>{x with lI:=v}):=aV.id.via _ _ _ 0 rfl (λ_ =>rfl) (λ_ _ =>rfl)
structure ay where
 fT:mF
 aZ:(Nat->aP)
abbrev lU:cZ ay:=cZ.via (LP qh (LA gU 32)) (λx=>(x.fT,x.aZ))
abbrev eE:ay:=⟨xL,(λ_ =>iS)⟩
instance:Inhabited ay:=⟨eE⟩
def tK:List Value:=Bf++((flat (λ_ =>r8) 32))
theorem yT{A:World->Prop}:lU.fg A tK eE:=⟨_,_,rfl,JC,⟨_,rfl,λ_ _ =>xR⟩⟩
theorem Ci:aV lU qh 0 (λx=>x.fT) (λx v=>{x with fT:=v}):=(aV.fst aV.id).via _ _ _ 0 rfl (λ_ =>rfl) (λ_ _ =>rfl)
theorem yK:aV lU (LA gU 32) 96 (λx=>x.aZ) (λx v=>{x with aZ:=v}):=(aV.snd aV.id).via _ _ _ 96 rfl (λ_ =>rfl) (λ_ _ =>rfl)
structure fS where
 yM:Int
 kA:Int
 jJ:Int
abbrev qU:cZ fS:=cZ.via (LP (LI .u8) (LP (LI .u8) (LI .u8))) (λx=>(x.yM,x.kA,x.jJ))
abbrev tG:fS:=⟨0,0,0⟩
instance:Inhabited fS:=⟨tG⟩
def BD:List Value:=[.int .u8 0]++([.int .u8 0]++([.int .u8 0]))
theorem Hr{A:World->Prop}:qU.fg A BD tG:=⟨_,_,rfl,rfl,⟨_,_,rfl,rfl,rfl⟩⟩
theorem Jj:aV qU (LI .u8) 0 (λx=>x.yM) (λx v=>{x with yM:=v}):=(aV.fst aV.id).via _ _ _ 0 rfl (λ_ =>rfl) (λ_ _ =>rfl)
theorem Ji:aV qU (LI .u8) 1 (λx=>x.kA) (λx v=>{x with kA:=v}):=(aV.snd (aV.fst aV.id)).via _ _ _ 1 rfl (λ_ =>rfl) (λ_ _ =>rfl)
theorem DU:aV qU (LI .u8) 2 (λx=>x.jJ) (λx v=>{x with jJ:=v}):=(aV.snd (aV.snd aV.id)).via _ _ _ 2 rfl (λ_ =>rfl) (λ_ _ =>rfl)
structure mO where
 root:Int
 own:fS
abbrev qT:cZ mO:=cZ.via (LP (LI .u32) qU) (λx=>(x.root,x.own))
abbrev qN:mO:=⟨0,tG⟩
def yW:List Value:=[.int .u32 0]++(BD)
theorem Fv{A:World->Prop}:qT.fg A yW qN:=⟨_,_,rfl,rfl,Hr⟩
theorem GA:aV qT (LI .u32) 0 (λx=>x.root) (λx v=>{x with root:=v}):=(aV.fst aV.id).via _ _ _ 0 rfl (λ_ =>rfl) (λ_ _ =>rfl)
theorem Jh:aV qT qU 1 (λx=>x.own) (λx v=>{x with own:=v}):=(aV.snd aV.id).via _ _ _ 1 rfl (λ_ =>rfl) (λ_ _ =>rfl)
structure dM where
 bB:(Nat->mO)
abbrev uS:cZ dM:=cZ.via (LA qT 32) (λx=>x.bB)
abbrev qO:dM:=⟨(λ_ =>qN)⟩
instance:Inhabited dM:=⟨qO⟩
def yX:List Value:=(flat (λ_ =>yW) 32)
theorem Fw{A:World->Prop}:uS.fg A yX qO:=⟨_,rfl,λ_ _ =>Fv⟩
theorem Fk:aV uS (LA qT 32) 0 (λx=>x.bB) (λx v=>{x with bB:=v}):=aV.id.via _ _ _ 0 rfl (λ_ =>rfl) (λ_ _ =>rfl)
structure bI where
 Region:Int
 By:Int
 To:Int
 nA:Bool
 vG:Int
abbrev bE:cZ bI:=cZ.via (LP (LI .u32) (LP (LI .u8) (LP (LI .u8) (LP LB (LI .u32))))) (λx=>(x.Region,x.By,x.To,x.nA,x.vG))
abbrev iE:bI:=⟨0,0,0,false,0⟩
instance:Inhabited bI:=⟨iE⟩
def tJ:List Value:=[.int .u32 0]++([.int .u8 0]++([.int .u8 0]++([.bool false]++([.int .u32 0]))))
theorem yS{A:World->Prop}:bE.fg A tJ iE:=⟨_,_,rfl,rfl,⟨_,_,rfl,rfl,⟨_,_,rfl,rfl,⟨_,_,rfl,rfl,rfl⟩⟩⟩⟩
theorem Ah:aV bE (LI .u32) 0 (λx=>x.Region) (λx v=>{x with Region:=v}):=(aV.fst aV.id).via _ _ _ 0 rfl (λ_ =>rfl) (λ_ _ =>rfl)
theorem Fe:aV bE (LI .u8) 1 (λx=>x.By) (λx v=>{x with By:=v}):=(aV.snd (aV.fst aV.id)).via _ _ _ 1 rfl (λ_ =>rfl) (λ_ _ =>rfl)
theorem Fc:aV bE (LI .u8) 2 (λx=>x.To) (λx v=>{x with To:=v}):=(aV.snd (aV.snd (aV.fst aV.id))).via _ _ _ 2 rfl (λ_ =>rfl) (λ_ _ =>rfl)
theorem yJ:aV bE LB 3 (λx=>x.nA) (λx v=>{x with nA:=v}):=(aV.snd (aV.snd (aV.snd (aV.fst aV.id)))).via _ _ _ 3 rfl (λ_ =>rfl) (λ_ _ =>rfl)
theorem sW:aV bE (LI .u32) 4 (λx=>x.vG) (λx v=>{x with vG:=v}):=(aV.snd (aV.snd (aV.snd (aV.snd aV.id)))).via _ _ _ 4 rfl (λ_ =>rfl) (λ_ _ =>rfl)
structure aY where
 fT:cj
 bB:(Nat->bI)
abbrev aA:cZ aY:=cZ.via (LP aO (LA bE 16)) (λx=>(x.fT,x.bB))
abbrev dY:aY:=⟨iF,(λ_ =>iE)⟩
instance:Inhabited aY:=⟨dY⟩
def r7:List Value:=pc++((flat (λ_ =>tJ) 16))
theorem xQ{A:World->Prop}:aA.fg A r7 dY:=⟨_,_,rfl,tI,⟨_,rfl,λ_ _ =>yS⟩⟩
theorem fz:aV aA aO 0 (λx=>x.fT) (λx v=>{x with fT:=v}):=(aV.fst aV.id).via _ _ _ 0 rfl (λ_ =>rfl) (λ_ _ =>rfl)
theorem rQ:aV aA (LA bE 16) 96 (λx=>x.bB) (λx v=>{x with bB:=v}):=(aV.snd aV.id).via _ _ _ 96 rfl (λ_ =>rfl) (λ_ _ =>rfl)
structure cu where
 T:ay
 O:dM
 K:aY
abbrev fN:cZ cu:=cZ.via (LP lU (LP uS aA)) (λx=>(x.T,x.O,x.K))
abbrev xM:cu:=⟨eE,qO,dY⟩
def Bi:List Value:=tK++(yX++(r7))
theorem JF{A:World->Prop}:fN.fg A Bi xM:=⟨_,_,rfl,yT,⟨_,_,rfl,Fw,xQ⟩⟩
theorem Jq:aV fN lU 0 (λx=>x.T) (λx v=>{x with T:=v}):=(aV.fst aV.id).via _ _ _ 0 rfl (λ_ =>rfl) (λ_ _ =>rfl)
theorem Jr:aV fN uS 480 (λx=>x.O) (λx v=>{x with O:=v}):=(aV.snd (aV.fst aV.id)).via _ _ _ 480 rfl (λ_ =>rfl) (λ_ _ =>rfl)
theorem Js:aV fN aA 608 (λx=>x.K) (λx v=>{x with K:=v}):=(aV.snd (aV.snd aV.id)).via _ _ _ 608 rfl (λ_ =>rfl) (λ_ _ =>rfl)
structure aT where
 Jt:Int
 JZ:Int
 Region:Int
 Ae:Bool
abbrev fK:cZ aT:=cZ.via (LP (LI .u8) (LP (LI .u64) (LP (LI .u32) LB))) (λx=>(x.Jt,x.JZ,x.Region,x.Ae))
abbrev iT:aT:=⟨0,0,0,false⟩
instance:Inhabited aT:=⟨iT⟩
def r9:List Value:=[.int .u8 0]++([.int .u64 0]++([.int .u32 0]++([.bool false])))
theorem xT{A:World->Prop}:fK.fg A r9 iT:=⟨_,_,rfl,rfl,⟨_,_,rfl,rfl,⟨_,_,rfl,rfl,rfl⟩⟩⟩
theorem A8:aV fK (LI .u8) 0 (λx=>x.Jt) (λx v=>{x with Jt:=v}):=(aV.fst aV.id).via _ _ _ 0 rfl (λ_ =>rfl) (λ_ _ =>rfl)
theorem A7:aV fK (LI .u64) 1 (λx=>x.JZ) (λx v=>{x with JZ:=v}):=(aV.snd (aV.fst aV.id)).via _ _ _ 1 rfl (λ_ =>rfl) (λ_ _ =>rfl)
theorem yL:aV fK (LI .u32) 2 (λx=>x.Region) (λx v=>{x with Region:=v}):=(aV.snd (aV.snd (aV.fst aV.id))).via _ _ _ 2 rfl (λ_ =>rfl) (λ_ _ =>rfl)
theorem Ak:aV fK LB 3 (λx=>x.Ae) (λx v=>{x with Ae:=v}):=(aV.snd (aV.snd (aV.snd aV.id))).via _ _ _ 3 rfl (λ_ =>rfl) (λ_ _ =>rfl)
structure cE where
 ring:(Nat->aT)
 yo:Int
 n:Int
 closed:Bool
abbrev mZ:cZ cE:=cZ.via (LP (LA fK 4) (LP (LI .i64) (LP (LI .i64) LB))) (λx=>(x.ring,x.yo,x.n,x.closed))
abbrev qP:cE:=⟨(λ_ =>iT),0,0,false⟩
instance:Inhabited cE:=⟨qP⟩
def yY:List Value:=(flat (λ_ =>r9) 4)++([.int .i64 0]++([.int .i64 0]++([.bool false])))
theorem Fx{A:World->Prop}:mZ.fg A yY qP:=⟨_,_,rfl,⟨_,rfl,λ_ _ =>xT⟩,⟨_,_,rfl,rfl,⟨_,_,rfl,rfl,rfl⟩⟩⟩
theorem GF:aV mZ (LA fK 4) 0 (λx=>x.ring) (λx v=>{x with ring:=v}):=(aV.fst aV.id).via _ _ _ 0 rfl (λ_ =>rfl) (λ_ _ =>rfl)
theorem Ft:aV mZ (LI .i64) 16 (λx=>x.yo) (λx v=>{x with yo:=v}):=(aV.snd (aV.fst aV.id)).via _ _ _ 16 rfl (λ_ =>rfl) (λ_ _ =>rfl)
theorem MM:aV mZ (LI .i64) 17 (λx=>x.n) (λx v=>{x with n:=v}):=(aV.snd (aV.snd (aV.fst aV.id))).via _ _ _ 17 rfl (λ_ =>rfl) (λ_ _ =>rfl)
theorem DW:aV mZ LB 18 (λx=>x.closed) (λx v=>{x with closed:=v}):=(aV.snd (aV.snd (aV.snd aV.id))).via _ _ _ 18 rfl (λ_ =>rfl) (λ_ _ =>rfl)
structure ae where
 dR:cu
 lH:(Nat->cE)
 m9:(Nat->Bool)
 GQ:(Nat->Bool)
abbrev lV:cZ ae:=cZ.via (LP fN (LP (LA mZ 8) (LP (LA LB 8) (LA LB 8)))) (λx=>(x.dR,x.lH,x.m9,x.GQ))
abbrev dx:ae:=⟨xM,(λ_ =>qP),(λ_ =>false),(λ_ =>false)⟩
instance:Inhabited ae:=⟨dx⟩
def gO:List Value:=Bi++((flat (λ_ =>yY) 8)++((flat (λ_ =>[.bool false]) 8)++((flat (λ_ =>[.bool false]) 8))))
theorem tH{A:World->Prop}:lV.fg A gO dx:=⟨_,_,rfl,JF,⟨_,_,rfl,⟨_,rfl,λ_ _ =>Fx⟩,⟨_,_,rfl,⟨_,rfl,λ_ _ =>rfl⟩,⟨_,rfl,λ_ _ =>rfl⟩⟩⟩⟩
theorem DV:aV lV fN 0 (λx=>x.dR) (λx v=>{x with dR:=v}):=(aV.fst aV.id).via _ _ _ 0 rfl (λ_ =>rfl) (λ_ _ =>rfl)
theorem A5:aV lV (LA mZ 8) 784 (λx=>x.lH) (λx v=>{x with lH:=v}):=(aV.snd (aV.fst aV.id)).via _ _ _ 784 rfl (λ_ =>rfl) (λ_ _ =>rfl)
theorem A6:aV lV (LA LB 8) 936 (λx=>x.m9) (λx v=>{x with m9:=v}):=(aV.snd (aV.snd (aV.fst aV.id))).via _ _ _ 936 rfl (λ_ =>rfl) (λ_ _ =>rfl)
theorem Ck:aV lV (LA LB 8) 944 (λx=>x.GQ) (λx v=>{x with GQ:=v}):=(aV.snd (aV.snd (aV.snd aV.id))).via _ _ _ 944 rfl (λ_ =>rfl) (λ_ _ =>rfl)
structure cC where
 Gq:Int
 n:Int
 F6:(Nat->Int)
abbrev mY:cZ cC:=cZ.via (LP (LI .u8) (LP (LI .i64) (LA (LI .u8) 8))) (λx=>(x.Gq,x.n,x.F6))
abbrev oY:cC:=⟨0,0,(λ_ =>0)⟩
instance:Inhabited cC:=⟨oY⟩
def w6:List Value:=[.int .u8 0]++([.int .i64 0]++((flat (λ_ =>[.int .u8 0]) 8)))
theorem Cs{A:World->Prop}:mY.fg A w6 oY:=⟨_,_,rfl,rfl,⟨_,_,rfl,rfl,⟨_,rfl,λ_ _ =>rfl⟩⟩⟩
theorem GD:aV mY (LI .u8) 0 (λx=>x.Gq) (λx v=>{x with Gq:=v}):=(aV.fst aV.id).via _ _ _ 0 rfl (λ_ =>rfl) (λ_ _ =>rfl)
theorem J9:aV mY (LI .i64) 1 (λx=>x.n) (λx v=>{x with n:=v}):=(aV.snd (aV.fst aV.id)).via _ _ _ 1 rfl (λ_ =>rfl) (λ_ _ =>rfl)
theorem Fq:aV mY (LA (LI .u8) 8) 2 (λx=>x.F6) (λx v=>{x with F6:=v}):=(aV.snd (aV.snd aV.id)).via _ _ _ 2 rfl (λ_ =>rfl) (λ_ _ =>rfl)
structure ai where
 bB:(Nat->cC)
abbrev xP:cZ ai:=cZ.via (LA mY 32) (λx=>x.bB)
abbrev bG:ai:=⟨(λ_ =>oY)⟩
instance:Inhabited ai:=⟨bG⟩
def nR:List Value:=(flat (λ_ =>w6) 32)
theorem Bd{A:World->Prop}:xP.fg A nR bG:=⟨_,rfl,λ_ _ =>Cs⟩
theorem Cm:aV xP (LA mY 32) 0 (λx=>x.bB) (λx v=>{x with bB:=v}):=aV.id.via _ _ _ 0 rfl (λ_ =>rfl) (λ_ _ =>rfl)
structure ah where
 E:Int
 V:Int
 W:Int
abbrev dK:cZ ah:=cZ.via (LP (LI .i64) (LP (LI .u64) (LI .u32))) (λx=>(x.E,x.V,x.W))
abbrev az:ah:=⟨0,0,0⟩
instance:Inhabited ah:=⟨az⟩
def ji:List Value:=[.int .i64 0]++([.int .u64 0]++([.int .u32 0]))
theorem xS{A:World->Prop}:dK.fg A ji az:=⟨_,_,rfl,rfl,⟨_,_,rfl,rfl,rfl⟩⟩
theorem Fp:aV dK (LI .i64) 0 (λx=>x.E) (λx v=>{x with E:=v}):=(aV.fst aV.id).via _ _ _ 0 rfl (λ_ =>rfl) (λ_ _ =>rfl)
theorem Fo:aV dK (LI .u64) 1 (λx=>x.V) (λx v=>{x with V:=v}):=(aV.snd (aV.fst aV.id)).via _ _ _ 1 rfl (λ_ =>rfl) (λ_ _ =>rfl)
theorem Fm:aV dK (LI .u32) 2 (λx=>x.W) (λx v=>{x with W:=v}):=(aV.snd (aV.snd aV.id)).via _ _ _ 2 rfl (λ_ =>rfl) (λ_ _ =>rfl)
structure aD where
 Do:Int
 R:Int
 S:Int
 A:Int
 B:Int
 V:Int
abbrev gM:cZ aD:=cZ.via (LP (LI .u8) (LP (LI .u32) (LP (LI .u32) (LP (LI .u32) (LP (LI .u32) (LI .u64)))))) (λx=>(x.Do,x.R,x.S,x.A,x.B,x.V))
abbrev fb:aD:=⟨0,0,0,0,0,0⟩
def lJ:List Value:=[.int .u8 0]++([.int .u32 0]++([.int .u32 0]++([.int .u32 0]++([.int .u32 0]++([.int .u64 0])))))
theorem vH{A:World->Prop}:gM.fg A lJ fb:=⟨_,_,rfl,rfl,⟨_,_,rfl,rfl,⟨_,_,rfl,rfl,⟨_,_,rfl,rfl,⟨_,_,rfl,rfl,rfl⟩⟩⟩⟩⟩
theorem GC:aV gM (LI .u8) 0 (λx=>x.Do) (λx v=>{x with Do:=v}):=(aV.fst aV.id).via _ _ _ 0 rfl (λ_ =>rfl) (λ_ _ =>rfl)
theorem Jm:aV gM (LI .u32) 1 (λx=>x.R) (λx v=>{x with R:=v}):=(aV.snd (aV.fst aV.id)).via _ _ _ 1 rfl (λ_ =>rfl) (λ_ _ =>rfl)
theorem Jl:aV gM (LI .u32) 2 (λx=>x.S) (λx v=>{x with S:=v}):=(aV.snd (aV.snd (aV.fst aV.id))).via _ _ _ 2 rfl (λ_ =>rfl) (λ_ _ =>rfl)
theorem Jo:aV gM (LI .u32) 3 (λx=>x.A) (λx v=>{x with A:=v}):=(aV.snd (aV.snd (aV.snd (aV.fst aV.id)))).via _ _ _ 3 rfl (λ_ =>rfl) (λ_ _ =>rfl)
theorem Jn:aV gM (LI .u32) 4 (λx=>x.B) (λx v=>{x with B:=v}):=(aV.snd (aV.snd (aV.snd (aV.snd (aV.fst aV.id))))).via _ _ _ 4 rfl (λ_ =>rfl) (λ_ _ =>rfl)
theorem Jk:aV gM (LI .u64) 5 (λx=>x.V) (λx v=>{x with V:=v}):=(aV.snd (aV.snd (aV.snd (aV.snd (aV.snd aV.id))))).via _ _ _ 5 rfl (λ_ =>rfl) (λ_ _ =>rfl)
structure aF where
 kA:Int
 C:aD
 Checked:Bool
 eJ:(List Int)
 yR:av
 q8:Int
abbrev kG:cZ aF:=cZ.via (LP (LI .i64) (LP gM (LP LB (LP (@YG Int ⟨0⟩ (LI .u32)) (LP bO (LI .i64)))))) (λx=>(x.kA,x.C,x.Checked,x.eJ,x.yR,x.q8))
abbrev kF:aF:=⟨0,fb,false,[],aB,0⟩
instance:Inhabited aF:=⟨kF⟩
def po:List Value:=[.int .i64 0]++(lJ++([.bool false]++([.slice none 0 0]++(oQ++([.int .i64 0])))))
theorem Cu{A:World->Prop}:kG.fg A po kF:=⟨_,_,rfl,rfl,⟨_,_,rfl,vH,⟨_,_,rfl,rfl,⟨_,_,rfl,⟨_,_,rfl,Cq.nil⟩,⟨_,_,rfl,yU,rfl⟩⟩⟩⟩⟩
theorem Fu:aV kG (LI .i64) 0 (λx=>x.kA) (λx v=>{x with kA:=v}):=(aV.fst aV.id).via _ _ _ 0 rfl (λ_ =>rfl) (λ_ _ =>rfl)
theorem Ka:aV kG gM 1 (λx=>x.C) (λx v=>{x with C:=v}):=(aV.snd (aV.fst aV.id)).via _ _ _ 1 rfl (λ_ =>rfl) (λ_ _ =>rfl)
theorem Bc:aV kG LB 7 (λx=>x.Checked) (λx v=>{x with Checked:=v}):=(aV.snd (aV.snd (aV.fst aV.id))).via _ _ _ 7 rfl (λ_ =>rfl) (λ_ _ =>rfl)
theorem Ba:aV kG (@YG Int ⟨0⟩ (LI .u32)) 8 (λx=>x.eJ) (λx v=>{x with eJ:=v}):=(aV.snd (aV.snd (aV.snd (aV.fst aV.id)))).via _ _ _ 8 rfl (λ_ =>rfl) (λ_ _ =>rfl)
theorem GM:aV kG bO 9 (λx=>x.yR) (λx v=>{x with yR:=v}):=(aV.snd (aV.snd (aV.snd (aV.snd (aV.fst aV.id))))).via _ _ _ 9 rfl (λ_ =>rfl) (λ_ _ =>rfl)
theorem Bb:aV kG (LI .i64) 11 (λx=>x.q8) (λx v=>{x with q8:=v}):=(aV.snd (aV.snd (aV.snd (aV.snd (aV.snd aV.id))))).via _ _ _ 11 rfl (λ_ =>rfl) (λ_ _ =>rfl)
structure br where
 l:(List av)
abbrev rS:cZ br:=cZ.via (@YG av ⟨aB⟩ bO) (λx=>x.l)
abbrev kD:br:=⟨[]⟩
instance:Inhabited br:=⟨kD⟩
def w5:List Value:=[.slice none 0 0]
theorem Cr{A:World->Prop}:rS.fg A w5 kD:=⟨_,_,rfl,Cq.nil⟩
theorem J6:aV rS (@YG av ⟨aB⟩ bO) 0 (λx=>x.l) (λx v=>{x with l:=v}):=aV.id.via _ _ _ 0 rfl (λ_ =>rfl) (λ_ _ =>rfl)
structure aj where
 n:Int
 eo:br
 bytes:(Nat->(Nat->Int))
abbrev rT:cZ aj:=cZ.via (LP (LI .i64) (LP rS (LA (LA (LI .u8) 32) 64))) (λx=>(x.n,x.eo,x.bytes))
abbrev kE:aj:=⟨0,kD,(λ_ =>(λ_ =>0))⟩
instance:Inhabited aj:=⟨kE⟩
def Cv:List Value:=[.int .i64 0]++(w5++((flat (λ_ =>(flat (λ_ =>[.int .u8 0]) 32)) 64)))
theorem Le{A:World->Prop}:rT.fg A Cv kE:=⟨_,_,rfl,rfl,⟨_,_,rfl,Cr,⟨_,rfl,λ_ _ =>⟨_,rfl,λ_ _ =>rfl⟩⟩⟩⟩
theorem J8:aV rT (LI .i64) 0 (λx=>x.n) (λx v=>{x with n:=v}):=(aV.fst aV.id).via _ _ _ 0 rfl (λ_ =>rfl) (λ_ _ =>rfl)
theorem Fj:aV rT rS 1 (λx=>x.eo) (λx v=>{x with eo:=v}):=(aV.snd (aV.fst aV.id)).via _ _ _ 1 rfl (λ_ =>rfl) (λ_ _ =>rfl)
theorem DT:aV rT (LA (LA (LI .u8) 32) 64) 2 (λx=>x.bytes) (λx v=>{x with bytes:=v}):=(aV.snd (aV.snd aV.id)).via _ _ _ 2 rfl (λ_ =>rfl) (λ_ _ =>rfl)
structure aq where
 aH:ae
 fZ:Int
 c:aD
 run:av
 lD:Int
 z6:Bool
 gk:(List av)
abbrev I7:aq:=⟨dx,0,fb,aB,0,false,[]⟩
instance:Inhabited aq:=⟨I7⟩
structure Bu where
 A:Type
 z:A
 L:cZ A
def bu:List Bu:=[⟨fD,FX,m0⟩,⟨aM,gL,nB⟩,⟨bj,jG,tw⟩,⟨bN,fC,vF⟩,⟨av,aB,bO⟩,⟨aC,cQ,jo⟩,⟨aP,iS,gU⟩,⟨dQ,jO,cm⟩,⟨cj,iF,aO⟩,⟨mF,xL,qh⟩,⟨ay,eE,lU⟩,⟨fS,tG,qU⟩,⟨mO,qN,qT⟩,⟨dM,qO,uS⟩,⟨bI,iE,bE⟩,⟨aY,dY,aA⟩,⟨cu,xM,fN⟩,⟨aT,iT,fK⟩,⟨cE,qP,mZ⟩,⟨ae,dx,lV⟩,⟨cC,oY,mY⟩,⟨ai,bG,xP⟩,⟨ah,az,dK⟩,⟨aD,fb,gM⟩,⟨aF,kF,kG⟩,⟨br,kD,rS⟩,⟨aj,kE,rT⟩]
def b0:Bu:=⟨Bool,false,LB⟩
def nth:List Bu->Nat->Bu
 |[],_ =>b0
 |b::r,i=>match i with
  |0=>b
  |i+1=>nth r i
def sg:Sg:=⟨λi=>(nth bu i).A,λi=>(nth bu i).z,λi=>(nth bu i).L,some (.u8,[(1,181),(2,182),(3,183),(4,184),(5,185),(6,186),(7,187),(8,188),(9,189),(10,190),(11,191),(12,192),(13,193),(14,194),(15,195),(16,195),(17,196),(18,197),(19,198),(20,199),(21,200),(22,201)])⟩
def fds:Qt sg
 |0=>[⟨(.int .u8),0,λ(x:fD)=>x.Do,λ(x:fD) v=>({x with Do:=v}:fD),Jp⟩,⟨(.int .u64),1,λ(x:fD)=>x.iZ,λ(x:fD) v=>({x with iZ:=v}:fD),GJ⟩,⟨(.int .u64),2,λ(x:fD)=>x.uR,λ(x:fD) v=>({x with uR:=v}:fD),GH⟩]
 |1=>[⟨(.int .u64),0,λ(x:aM)=>x.iZ,λ(x:aM) v=>({x with iZ:=v}:aM),Fh⟩,⟨(.int .u64),1,λ(x:aM)=>x.uR,λ(x:aM) v=>({x with uR:=v}:aM),Fg⟩]
 |2=>[⟨(.sl (.st 1)),0,λ(x:bj)=>x.L,λ(x:bj) v=>({x with L:=v}:bj),Jg⟩,⟨(.int .i64),1,λ(x:bj)=>x.mh,λ(x:bj) v=>({x with mh:=v}:bj),Cj⟩]
 |3=>[⟨(.int .u64),0,λ(x:bN)=>x.iZ,λ(x:bN) v=>({x with iZ:=v}:bN),GL⟩,⟨(.int .u64),1,λ(x:bN)=>x.uR,λ(x:bN) v=>({x with uR:=v}:bN),GK⟩]
 |4=>[⟨(.int .i64),0,λ(x:av)=>x.At,λ(x:av) v=>({x with At:=v}:av),J7⟩,⟨(.int .i64),1,λ(x:av)=>x.N,λ(x:av) v=>({x with N:=v}:av),MK⟩]
 |5=>[⟨(.sl (.st 4)),0,λ(x:aC)=>x.aN,λ(x:aC) v=>({x with aN:=v}:aC),Al⟩,⟨(.int .i64),1,λ(x:aC)=>x.er,λ(x:aC) v=>({x with er:=v}:aC),A9⟩]
 |6=>[⟨(.int .u32),0,λ(x:aP)=>x.Up,λ(x:aP) v=>({x with Up:=v}:aP),DQ⟩,⟨(.int .i64),1,λ(x:aP)=>x.gq,λ(x:aP) v=>({x with gq:=v}:aP),Ai⟩,⟨(.st 5),2,λ(x:aP)=>x.E,λ(x:aP) v=>({x with E:=v}:aP),Ff⟩,⟨(.mV 8 (.int .u32)),4,λ(x:aP)=>x.rV,λ(x:aP) v=>({x with rV:=v}:aP),Aj⟩]
 |7=>[⟨(.int .u32),0,λ(x:dQ)=>x.gen,λ(x:dQ) v=>({x with gen:=v}:dQ),jI⟩,⟨.bool,1,λ(x:dQ)=>x.kS,λ(x:dQ) v=>({x with kS:=v}:dQ),mX⟩,⟨.bool,2,λ(x:dQ)=>x.kM,λ(x:dQ) v=>({x with kM:=v}:dQ),qy⟩]
 |8=>[⟨(.mV 32 (.st 7)),0,λ(x:cj)=>x.bB,λ(x:cj) v=>({x with bB:=v}:cj),dU⟩]
 |9=>[⟨(.st 8),0,λ(x:mF)=>x.lI,λ(x:mF) v=>({x with lI:=v}:mF),DP⟩]
 |10=>[⟨(.st 9),0,λ(x:ay)=>x.fT,λ(x:ay) v=>({x with fT:=v}:ay),Ci⟩,⟨(.mV 32 (.st 6)),96,λ(x:ay)=>x.aZ,λ(x:ay) v=>({x with aZ:=v}:ay),yK⟩]
 |11=>[⟨(.int .u8),0,λ(x:fS)=>x.yM,λ(x:fS) v=>({x with yM:=v}:fS),Jj⟩,⟨(.int .u8),1,λ(x:fS)=>x.kA,λ(x:fS) v=>({x with kA:=v}:fS),Ji⟩,⟨(.int .u8),2,λ(x:fS)=>x.jJ,λ(x:fS) v=>({x with jJ:=v}:fS),DU⟩]
 |12=>[⟨(.int .u32),0,λ(x:mO)=>x.root,λ(x:mO) v=>({x with root:=v}:mO),GA⟩,⟨(.st 11),1,λ(x:mO)=>x.own,λ(x:mO) v=>({x with own:=v}:mO),Jh⟩]
 |13=>[⟨(.mV 32 (.st 12)),0,λ(x:dM)=>x.bB,λ(x:dM) v=>({x with bB:=v}:dM),Fk⟩]
 |14=>[⟨(.int .u32),0,λ(x:bI)=>x.Region,λ(x:bI) v=>({x with Region:=v}:bI),Ah⟩,⟨(.int .u8),1,λ(x:bI)=>x.By,λ(x:bI) v=>({x with By:=v}:bI),Fe⟩,⟨(.int .u8),2,λ(x:bI)=>x.To,λ(x:bI) v=>({x with To:=v}:bI),Fc⟩,⟨.bool,3,λ(x:bI)=>x.nA,λ(x:bI) v=>({x with nA:=v}:bI),yJ⟩,⟨(.int .u32),4,λ(x:bI)=>x.vG,λ(x:bI) v=>({x with vG:=v}:bI),sW⟩]
 |15=>[⟨(.st 8),0,λ(x:aY)=>x.fT,λ(x:aY) v=>({x with fT:=v}:aY),fz⟩,⟨(.mV 16 (.st 14)),96,λ(x:aY)=>x.bB,λ(x:aY) v=>({x with bB:=v}:aY),rQ⟩]
 |16=>[⟨(.st 10),0,λ(x:cu)=>x.T,λ(x:cu) v=>({x with T:=v}:cu),Jq⟩,⟨(.st 13),480,λ(x:cu)=>x.O,λ(x:cu) v=>({x with O:=v}:cu),Jr⟩,⟨(.st 15),608,λ(x:cu)=>x.K,λ(x:cu) v=>({x with K:=v}:cu),Js⟩]
 |17=>[⟨(.int .u8),0,λ(x:aT)=>x.Jt,λ(x:aT) v=>({x with Jt:=v}:aT),A8⟩,⟨(.int .u64),1,λ(x:aT)=>x.JZ,λ(x:aT) v=>({x with JZ:=v}:aT),A7⟩,⟨(.int .u32),2,λ(x:aT)=>x.Region,λ(x:aT) v=>({x with Region:=v}:aT),yL⟩,⟨.bool,3,λ(x:aT)=>x.Ae,λ(x:aT) v=>({x with Ae:=v}:aT),Ak⟩]
 |18=>[⟨(.mV 4 (.st 17)),0,λ(x:cE)=>x.ring,λ(x:cE) v=>({x with ring:=v}:cE),GF⟩,⟨(.int .i64),16,λ(x:cE)=>x.yo,λ(x:cE) v=>({x with yo:=v}:cE),Ft⟩,⟨(.int .i64),17,λ(x:cE)=>x.n,λ(x:cE) v=>({x with n:=v}:cE),MM⟩,⟨.bool,18,λ(x:cE)=>x.closed,λ(x:cE) v=>({x with closed:=v}:cE),DW⟩]
 |19=>[⟨(.st 16),0,λ(x:ae)=>x.dR,λ(x:ae) v=>({x with dR:=v}:ae),DV⟩,⟨(.mV 8 (.st 18)),784,λ(x:ae)=>x.lH,λ(x:ae) v=>({x with lH:=v}:ae),A5⟩,⟨(.mV 8 .bool),936,λ(x:ae)=>x.m9,λ(x:ae) v=>({x with m9:=v}:ae),A6⟩,⟨(.mV 8 .bool),944,λ(x:ae)=>x.GQ,λ(x:ae) v=>({x with GQ:=v}:ae),Ck⟩]
 |20=>[⟨(.int .u8),0,λ(x:cC)=>x.Gq,λ(x:cC) v=>({x with Gq:=v}:cC),GD⟩,⟨(.int .i64),1,λ(x:cC)=>x.n,λ(x:cC) v=>({x with n:=v}:cC),J9⟩,⟨(.mV 8 (.int .u8)),2,λ(x:cC)=>x.F6,λ(x:cC) v=>({x with F6:=v}:cC),Fq⟩]
 |21=>[⟨(.mV 32 (.st 20)),0,λ(x:ai)=>x.bB,λ(x:ai) v=>({x with bB:=v}:ai),Cm⟩]
 |22=>[⟨(.int .i64),0,λ(x:ah)=>x.E,λ(x:ah) v=>({x with E:=v}:ah),Fp⟩,⟨(.int .u64),1,λ(x:ah)=>x.V,λ(x:ah) v=>({x with V:=v}:ah),Fo⟩,⟨(.int .u32),2,λ(x:ah)=>x.W,λ(x:ah) v=>({x with W:=v}:ah),Fm⟩]
 |23=>[⟨(.int .u8),0,λ(x:aD)=>x.Do,λ(x:aD) v=>({x with Do:=v}:aD),GC⟩,⟨(.int .u32),1,λ(x:aD)=>x.R,λ(x:aD) v=>({x with R:=v}:aD),Jm⟩,⟨(.int .u32),2,λ(x:aD)=>x.S,λ(x:aD) v=>({x with S:=v}:aD),Jl⟩,⟨(.int .u32),3,λ(x:aD)=>x.A,λ(x:aD) v=>({x with A:=v}:aD),Jo⟩,⟨(.int .u32),4,λ(x:aD)=>x.B,λ(x:aD) v=>({x with B:=v}:aD),Jn⟩,⟨(.int .u64),5,λ(x:aD)=>x.V,λ(x:aD) v=>({x with V:=v}:aD),Jk⟩]
 |24=>[⟨(.int .i64),0,λ(x:aF)=>x.kA,λ(x:aF) v=>({x with kA:=v}:aF),Fu⟩,⟨(.st 23),1,λ(x:aF)=>x.C,λ(x:aF) v=>({x with C:=v}:aF),Ka⟩,⟨.bool,7,λ(x:aF)=>x.Checked,λ(x:aF) v=>({x with Checked:=v}:aF),Bc⟩,⟨(.sl (.int .u32)),8,λ(x:aF)=>x.eJ,λ(x:aF) v=>({x with eJ:=v}:aF),Ba⟩,⟨(.st 4),9,λ(x:aF)=>x.yR,λ(x:aF) v=>({x with yR:=v}:aF),GM⟩,⟨(.int .i64),11,λ(x:aF)=>x.q8,λ(x:aF) v=>({x with q8:=v}:aF),Bb⟩]
 |25=>[⟨(.sl (.st 4)),0,λ(x:br)=>x.l,λ(x:br) v=>({x with l:=v}:br),J6⟩]
 |26=>[⟨(.int .i64),0,λ(x:aj)=>x.n,λ(x:aj) v=>({x with n:=v}:aj),J8⟩,⟨(.st 25),1,λ(x:aj)=>x.eo,λ(x:aj) v=>({x with eo:=v}:aj),Fj⟩,⟨(.mV 64 (.mV 32 (.int .u8))),2,λ(x:aj)=>x.bytes,λ(x:aj) v=>({x with bytes:=v}:aj),DT⟩]
 |_ =>[]
def teT:Og TE:=(.eD 120 (.st [(0,none),(1,none),(2,none)] 3) (.eD 75 (.st [(0,some 96)] 96) (.eD 33 (.sl 116 2 16) (.eD 22 (.sl 39 3 24) (.eD 5 (.int .u8) (.eD 3 (.int .i64) (.eD 1 .one .eC .eC) (.eD 4 .bool .eC .eC)) (.eD 20 .one (.eD 9 .one .eC .eC) .eC)) (.eD 27 (.int .u32) (.eD 25 .one (.eD 23 (.int .u64) .eC .eC) (.eD 26 .ptr .eC .eC)) (.eD 30 (.st [(0,none),(1,none),(2,none)] 3) (.eD 28 (.int .u32) .eC .eC) .eC))) (.eD 64 (.sl 169 2 16) (.eD 53 (.sl 57 2 16) (.eD 39 (.st [(0,none),(1,none),(2,none)] 3) (.eD 35 (.st [(0,none),(1,none)] 2) .eC .eC) (.eD 43 (.int .i64) .eC .eC)) (.eD 61 (.sl 23 1 8) (.eD 57 (.st [(0,none),(1,none)] 2) .eC .eC) .eC)) (.eD 69 (.st [(0,none),(1,none),(2,some 2),(4,some 8)] 12) (.eD 67 (.mV 8 28 1 8) (.eD 66 (.st [(0,none),(1,none)] 2) .eC .eC) .eC) (.eD 73 (.mV 32 72 3 96) (.eD 72 (.st [(0,none),(1,none),(2,none)] 3) .eC .eC) .eC)))) (.eD 97 (.mV 4 96 4 16) (.eD 87 (.st [(0,some 128)] 128) (.eD 82 (.st [(0,none),(1,none),(2,none)] 3) (.eD 78 (.mV 32 69 12 384) (.eD 77 (.st [(0,some 96)] 96) .eC .eC) (.eD 80 (.st [(0,some 96),(96,some 384)] 480) .eC .eC)) (.eD 85 (.mV 32 84 4 128) (.eD 84 (.st [(0,none),(1,some 3)] 4) .eC .eC) .eC)) (.eD 92 (.st [(0,some 96),(96,some 80)] 176) (.eD 90 (.mV 16 89 5 80) (.eD 89 (.st [(0,none),(1,none),(2,none),(3,none),(4,none)] 5) .eC .eC) .eC) (.eD 96 (.st [(0,none),(1,none),(2,none),(3,none)] 4) (.eD 94 (.st [(0,some 480),(480,some 128),(608,some 176)] 784) .eC .eC) .eC))) (.eD 107 (.st [(0,none),(1,none),(2,some 8)] 10) (.eD 103 (.st [(0,some 784),(784,some 152),(936,some 8),(944,some 8)] 952) (.eD 100 (.mV 8 99 19 152) (.eD 99 (.st [(0,some 16),(16,none),(17,none),(18,none)] 19) .eC .eC) (.eD 101 (.mV 8 4 1 8) .eC .eC)) (.eD 105 (.mV 8 5 1 8) (.eD 104 .ptr .eC .eC) .eC)) (.eD 111 (.sl 3 1 8) (.eD 110 (.st [(0,some 320)] 320) (.eD 108 (.mV 32 107 10 320) .eC .eC) .eC) (.eD 116 (.st [(0,none),(1,none)] 2) (.eD 113 (.st [(0,some 952),(952,none),(953,some 320),(1273,none)] 1274) .eC .eC) .eC))))) (.eD 220 .ptr (.eD 171 (.st [(0,none),(1,some 6),(7,none),(8,none),(9,some 2),(11,none)] 12) (.eD 147 .ptr (.eD 137 .one (.eD 134 .ptr (.eD 123 (.st [(0,none),(1,none),(2,none),(3,none),(4,none),(5,none)] 6) .eC .eC) (.eD 136 .one .eC .eC)) (.eD 145 .one (.eD 141 (.st [(0,some 3),(3,none)] 4) .eC .eC) .eC)) (.eD 158 .ptr (.eD 151 .one (.eD 149 (.st [(0,none),(1,none)] 2) .eC .eC) .eC) (.eD 169 (.st [(0,none),(1,none)] 2) (.eD 167 (.sl 28 1 4) .eC .eC) .eC))) (.eD 189 (.mV 5 25 1 5) (.eD 184 (.st [(0,none),(1,some 1),(2,some 2048)] 2050) (.eD 181 (.mV 32 5 1 32) (.eD 179 (.st [(0,none)] 1) .eC .eC) (.eD 182 (.mV 64 181 32 2048) .eC .eC)) (.eD 188 (.st [(0,none),(1,some 12),(13,some 3),(16,none)] 17) (.eD 186 .ptr .eC .eC) .eC)) (.eD 209 .one (.eD 196 .one (.eD 193 .ptr .eC .eC) .eC) (.eD 217 .one (.eD 216 .one .eC .eC) .eC)))) (.eD 248 .one (.eD 237 .ptr (.eD 232 .ptr (.eD 225 .one (.eD 222 (.st [(0,some 952),(952,none),(953,some 6),(959,some 2),(961,none),(962,none),(963,none)] 964) .eC .eC) (.eD 230 .one .eC .eC)) (.eD 235 (.sl 5 1 1) (.eD 233 .one .eC .eC) .eC)) (.eD 243 .one (.eD 240 .one (.eD 238 .one .eC .eC) .eC) (.eD 247 .one (.eD 245 .one .eC .eC) .eC))) (.eD 342 .one (.eD 315 (.sl 96 4 24) (.eD 257 (.sl 64 1 24) (.eD 254 .one .eC .eC) (.eD 294 .one .eC .eC)) (.eD 322 .one (.eD 320 .one .eC .eC) .eC)) (.eD 359 .one (.eD 358 .one (.eD 350 .one .eC .eC) .eC) (.eD 364 .one (.eD 363 .ptr .eC .eC) .eC))))))
def tt:TT Tryz.prog sg:=⟨fds,teT,by kernel_rfl⟩
theorem zt3(J:World->Prop)(ρ:bh):∃u:Value,bT Tryz.prog 3=some u.cells.toList/\rv (G:=sg) J ρ (.int .i64 0) u:=⟨.int .i64 0,by kernel_rfl,rfl⟩
theorem zt4(J:World->Prop)(ρ:bh):∃u:Value,bT Tryz.prog 4=some u.cells.toList/\rv (G:=sg) J ρ (.bool false) u:=⟨.bool false,by kernel_rfl,rfl⟩
theorem zt5(J:World->Prop)(ρ:bh):∃u:Value,bT Tryz.prog 5=some u.cells.toList/\rv (G:=sg) J ρ (.int .u8 0) u:=⟨.int .u8 0,by kernel_rfl,rfl⟩
theorem aiw(J:World->Prop)(ρ:bh):∃u:Value,bT Tryz.prog 23=some u.cells.toList/\rv (G:=sg) J ρ (.int .u64 0) u:=⟨.int .u64 0,by kernel_rfl,rfl⟩
theorem aiv(J:World->Prop)(ρ:bh):∃u:Value,bT Tryz.prog 28=some u.cells.toList/\rv (G:=sg) J ρ (.int .u32 0) u:=⟨.int .u32 0,by kernel_rfl,rfl⟩
theorem aiu(J:World->Prop)(ρ:bh):∃u:Value,bT Tryz.prog 30=some u.cells.toList/\rv (G:=sg) J ρ (.st (.part 1 .s8 (.part 1 (.int .u32 0) (.part 1 (.int .i64 0) .nil)))) u:=⟨.agg ((([.pointer none]:List Value)++(([.int .u32 0]:List Value)++(([.int .i64 0]:List Value)++([]:List Value))))).toArray,by kernel_rfl,⟨_,rfl,⟨[.pointer none],_, .pointer none,rfl,by kernel_rfl,rfl,rfl,⟨[.int .u32 0],_, .int .u32 0,rfl,by kernel_rfl,rfl,rfl,⟨[.int .i64 0],_, .int .i64 0,rfl,by kernel_rfl,rfl,rfl,rfl⟩⟩⟩,ld (by kernel_rfl)⟩⟩
theorem ait(J:World->Prop)(ρ:bh):∃u:Value,bT Tryz.prog 35=some u.cells.toList/\rv (G:=sg) J ρ (.dat (.st 2) jG) u:=⟨.agg (Bh).toArray,by kernel_rfl,_,rfl,JE,λ_ =>⟨_,rfl⟩,nofun⟩
theorem ais(J:World->Prop)(ρ:bh):∃u:Value,bT Tryz.prog 43=some u.cells.toList/\rv (G:=sg) J ρ (.int .i64 0) u:=⟨.int .i64 0,by kernel_rfl,rfl⟩
theorem air(J:World->Prop)(ρ:bh):∃u:Value,bT Tryz.prog 53=some u.cells.toList/\rv (G:=sg) J ρ .kz u:=⟨.slice none 0 0,by kernel_rfl,rfl⟩
theorem aiq(J:World->Prop)(ρ:bh):∃u:Value,bT Tryz.prog 57=some u.cells.toList/\rv (G:=sg) J ρ (.dat (.st 3) fC) u:=⟨.agg (Cy).toArray,by kernel_rfl,_,rfl,Lf,λ_ =>⟨_,rfl⟩,nofun⟩
theorem aip(J:World->Prop)(ρ:bh):∃u:Value,bT Tryz.prog 64=some u.cells.toList/\rv (G:=sg) J ρ .kz u:=⟨.slice none 0 0,by kernel_rfl,rfl⟩
theorem aio(J:World->Prop)(ρ:bh):∃u:Value,bT Tryz.prog 66=some u.cells.toList/\rv (G:=sg) J ρ (.dat (.st 5) cQ) u:=⟨.agg (iG).toArray,by kernel_rfl,_,rfl,nf,λ_ =>⟨_,rfl⟩,nofun⟩
theorem ain(J:World->Prop)(ρ:bh):∃u:Value,bT Tryz.prog 69=some u.cells.toList/\rv (G:=sg) J ρ (.dat (.st 6) iS) u:=⟨.agg (r8).toArray,by kernel_rfl,_,rfl,xR,λ_ =>⟨_,rfl⟩,nofun⟩
theorem aim(J:World->Prop)(ρ:bh):∃u:Value,bT Tryz.prog 72=some u.cells.toList/\rv (G:=sg) J ρ (.dat (.st 7) jO) u:=⟨.agg (tL).toArray,by kernel_rfl,_,rfl,yV,λ_ =>⟨_,rfl⟩,nofun⟩
theorem ail(J:World->Prop)(ρ:bh):∃u:Value,bT Tryz.prog 75=some u.cells.toList/\rv (G:=sg) J ρ (.dat (.st 8) iF) u:=⟨.agg (pc).toArray,by kernel_rfl,_,rfl,tI,λ_ =>⟨_,rfl⟩,nofun⟩
theorem aik(J:World->Prop)(ρ:bh):∃u:Value,bT Tryz.prog 80=some u.cells.toList/\rv (G:=sg) J ρ (.dat (.st 10) eE) u:=⟨.agg (tK).toArray,by kernel_rfl,_,rfl,yT,λ_ =>⟨_,rfl⟩,nofun⟩
theorem aij(J:World->Prop)(ρ:bh):∃u:Value,bT Tryz.prog 82=some u.cells.toList/\rv (G:=sg) J ρ (.dat (.st 11) tG) u:=⟨.agg (BD).toArray,by kernel_rfl,_,rfl,Hr,λ_ =>⟨_,rfl⟩,nofun⟩
theorem aii(J:World->Prop)(ρ:bh):∃u:Value,bT Tryz.prog 84=some u.cells.toList/\rv (G:=sg) J ρ (.dat (.st 12) qN) u:=⟨.agg (yW).toArray,by kernel_rfl,_,rfl,Fv,λ_ =>⟨_,rfl⟩,nofun⟩
theorem aih(J:World->Prop)(ρ:bh):∃u:Value,bT Tryz.prog 87=some u.cells.toList/\rv (G:=sg) J ρ (.dat (.st 13) qO) u:=⟨.agg (yX).toArray,by kernel_rfl,_,rfl,Fw,λ_ =>⟨_,rfl⟩,nofun⟩
theorem aif(J:World->Prop)(ρ:bh):∃u:Value,bT Tryz.prog 89=some u.cells.toList/\rv (G:=sg) J ρ (.dat (.st 14) iE) u:=⟨.agg (tJ).toArray,by kernel_rfl,_,rfl,yS,λ_ =>⟨_,rfl⟩,nofun⟩
theorem aie(J:World->Prop)(ρ:bh):∃u:Value,bT Tryz.prog 92=some u.cells.toList/\rv (G:=sg) J ρ (.dat (.st 15) dY) u:=⟨.agg (r7).toArray,by kernel_rfl,_,rfl,xQ,λ_ =>⟨_,rfl⟩,nofun⟩
theorem aid(J:World->Prop)(ρ:bh):∃u:Value,bT Tryz.prog 96=some u.cells.toList/\rv (G:=sg) J ρ (.dat (.st 17) iT) u:=⟨.agg (r9).toArray,by kernel_rfl,_,rfl,xT,λ_ =>⟨_,rfl⟩,nofun⟩
theorem aic(J:World->Prop)(ρ:bh):∃u:Value,bT Tryz.prog 99=some u.cells.toList/\rv (G:=sg) J ρ (.dat (.st 18) qP) u:=⟨.agg (yY).toArray,by kernel_rfl,_,rfl,Fx,λ_ =>⟨_,rfl⟩,nofun⟩
theorem afK(J:World->Prop)(ρ:bh):∃u:Value,bT Tryz.prog 103=some u.cells.toList/\rv (G:=sg) J ρ (.dat (.st 19) dx) u:=⟨.agg (gO).toArray,by kernel_rfl,_,rfl,tH,λ_ =>⟨_,rfl⟩,nofun⟩
theorem afJ(J:World->Prop)(ρ:bh):∃u:Value,bT Tryz.prog 107=some u.cells.toList/\rv (G:=sg) J ρ (.dat (.st 20) oY) u:=⟨.agg (w6).toArray,by kernel_rfl,_,rfl,Cs,λ_ =>⟨_,rfl⟩,nofun⟩
theorem afI(J:World->Prop)(ρ:bh):∃u:Value,bT Tryz.prog 110=some u.cells.toList/\rv (G:=sg) J ρ (.dat (.st 21) bG) u:=⟨.agg (nR).toArray,by kernel_rfl,_,rfl,Bd,λ_ =>⟨_,rfl⟩,nofun⟩
theorem afH(J:World->Prop)(ρ:bh):∃u:Value,bT Tryz.prog 113=some u.cells.toList/\rv (G:=sg) J ρ (.st (.part 952 (.dat (.st 19) dx) (.part 1 .s8 (.part 320 (.dat (.st 21) bG) (.part 1 .kz .nil))))) u:=⟨.agg (((gO:List Value)++(([.pointer none]:List Value)++((nR:List Value)++(([.slice none 0 0]:List Value)++([]:List Value)))))).toArray,by kernel_rfl,⟨_,rfl,⟨gO,_, .agg (gO).toArray,rfl,by kernel_rfl,⟨_,rfl,tH,λ_ =>⟨_,rfl⟩,nofun⟩,rfl,⟨[.pointer none],_, .pointer none,rfl,by kernel_rfl,rfl,rfl,⟨nR,_, .agg (nR).toArray,rfl,by kernel_rfl,⟨_,rfl,Bd,λ_ =>⟨_,rfl⟩,nofun⟩,rfl,⟨[.slice none 0 0],_, .slice none 0 0,rfl,by kernel_rfl,rfl,rfl,rfl⟩⟩⟩⟩,ld (by kernel_rfl)⟩⟩
theorem afG(J:World->Prop)(ρ:bh):∃u:Value,bT Tryz.prog 116=some u.cells.toList/\rv (G:=sg) J ρ (.dat (.st 1) gL) u:=⟨.agg (Bg).toArray,by kernel_rfl,_,rfl,JD,λ_ =>⟨_,rfl⟩,nofun⟩
theorem afF(J:World->Prop)(ρ:bh):∃u:Value,bT Tryz.prog 120=some u.cells.toList/\rv (G:=sg) J ρ (.dat (.st 22) az) u:=⟨.agg (ji).toArray,by kernel_rfl,_,rfl,xS,λ_ =>⟨_,rfl⟩,nofun⟩
theorem afE(J:World->Prop)(ρ:bh):∃u:Value,bT Tryz.prog 123=some u.cells.toList/\rv (G:=sg) J ρ (.dat (.st 23) fb) u:=⟨.agg (lJ).toArray,by kernel_rfl,_,rfl,vH,λ_ =>⟨_,rfl⟩,nofun⟩
theorem afD(J:World->Prop)(ρ:bh):∃u:Value,bT Tryz.prog 137=some u.cells.toList/\rv (G:=sg) J ρ .nn u:=⟨.nilFunc,by kernel_rfl,rfl⟩
theorem afC(J:World->Prop)(ρ:bh):∃u:Value,bT Tryz.prog 141=some u.cells.toList/\rv (G:=sg) J ρ (.st (.part 3 (.st (.part 1 .s8 (.part 1 (.int .u32 0) (.part 1 (.int .i64 0) .nil)))) (.part 1 (.int .i64 0) .nil))) u:=⟨.agg ((((([.pointer none]:List Value)++(([.int .u32 0]:List Value)++(([.int .i64 0]:List Value)++([]:List Value)))):List Value)++(([.int .i64 0]:List Value)++([]:List Value)))).toArray,by kernel_rfl,⟨_,rfl,⟨(([.pointer none]:List Value)++(([.int .u32 0]:List Value)++(([.int .i64 0]:List Value)++([]:List Value)))),_, .agg ((([.pointer none]:List Value)++(([.int .u32 0]:List Value)++(([.int .i64 0]:List Value)++([]:List Value))))).toArray,rfl,by kernel_rfl,⟨_,rfl,⟨[.pointer none],_, .pointer none,rfl,by kernel_rfl,rfl,rfl,⟨[.int .u32 0],_, .int .u32 0,rfl,by kernel_rfl,rfl,rfl,⟨[.int .i64 0],_, .int .i64 0,rfl,by kernel_rfl,rfl,rfl,rfl⟩⟩⟩,ld (by kernel_rfl)⟩,rfl,⟨[.int .i64 0],_, .int .i64 0,rfl,by kernel_rfl,rfl,rfl,rfl⟩⟩,ld (by kernel_rfl)⟩⟩
theorem afB(J:World->Prop)(ρ:bh):∃u:Value,bT Tryz.prog 145=some u.cells.toList/\rv (G:=sg) J ρ .nn u:=⟨.nilFunc,by kernel_rfl,rfl⟩
theorem afA(J:World->Prop)(ρ:bh):∃u:Value,bT Tryz.prog 149=some u.cells.toList/\rv (G:=sg) J ρ (.st (.part 1 .s8 (.part 1 (.int .i64 0) .nil))) u:=⟨.agg ((([.pointer none]:List Value)++(([.int .i64 0]:List Value)++([]:List Value)))).toArray,by kernel_rfl,⟨_,rfl,⟨[.pointer none],_, .pointer none,rfl,by kernel_rfl,rfl,rfl,⟨[.int .i64 0],_, .int .i64 0,rfl,by kernel_rfl,rfl,rfl,rfl⟩⟩,ld (by kernel_rfl)⟩⟩
theorem afz(J:World->Prop)(ρ:bh):∃u:Value,bT Tryz.prog 151=some u.cells.toList/\rv (G:=sg) J ρ .nn u:=⟨.nilFunc,by kernel_rfl,rfl⟩
theorem afy(J:World->Prop)(ρ:bh):∃u:Value,bT Tryz.prog 169=some u.cells.toList/\rv (G:=sg) J ρ (.dat (.st 4) aB) u:=⟨.agg (oQ).toArray,by kernel_rfl,_,rfl,yU,λ_ =>⟨_,rfl⟩,nofun⟩
theorem afx(J:World->Prop)(ρ:bh):∃u:Value,bT Tryz.prog 171=some u.cells.toList/\rv (G:=sg) J ρ (.dat (.st 24) kF) u:=⟨.agg (po).toArray,by kernel_rfl,_,rfl,Cu,λ_ =>⟨_,rfl⟩,nofun⟩
theorem afw(J:World->Prop)(ρ:bh):∃u:Value,bT Tryz.prog 179=some u.cells.toList/\rv (G:=sg) J ρ (.dat (.st 25) kD) u:=⟨.agg (w5).toArray,by kernel_rfl,_,rfl,Cr,λ_ =>⟨_,rfl⟩,nofun⟩
theorem afv(J:World->Prop)(ρ:bh):∃u:Value,bT Tryz.prog 184=some u.cells.toList/\rv (G:=sg) J ρ (.dat (.st 26) kE) u:=⟨.agg (Cv).toArray,by kernel_rfl,_,rfl,Le,λ_ =>⟨_,rfl⟩,nofun⟩
theorem afu(J:World->Prop)(ρ:bh):∃u:Value,bT Tryz.prog 188=some u.cells.toList/\rv (G:=sg) J ρ (.st (.part 1 .s8 (.part 12 (.dat (.st 24) kF) (.part 3 (.dat (.st 22) az) (.part 1 (.bool false) .nil))))) u:=⟨.agg ((([.pointer none]:List Value)++((po:List Value)++((ji:List Value)++(([.bool false]:List Value)++([]:List Value)))))).toArray,by kernel_rfl,⟨_,rfl,⟨[.pointer none],_, .pointer none,rfl,by kernel_rfl,rfl,rfl,⟨po,_, .agg (po).toArray,rfl,by kernel_rfl,⟨_,rfl,Cu,λ_ =>⟨_,rfl⟩,nofun⟩,rfl,⟨ji,_, .agg (ji).toArray,rfl,by kernel_rfl,⟨_,rfl,xS,λ_ =>⟨_,rfl⟩,nofun⟩,rfl,⟨[.bool false],_, .bool false,rfl,by kernel_rfl,rfl,rfl,rfl⟩⟩⟩⟩,ld (by kernel_rfl)⟩⟩
theorem afs(J:World->Prop)(ρ:bh):∃u:Value,bT Tryz.prog 189=some u.cells.toList/\rv (G:=sg) J ρ (.st (.part 1 .nn (.part 1 .nn (.part 1 .nn (.part 1 .nn (.part 1 .nn .nil)))))) u:=⟨.agg ((([.nilFunc]:List Value)++(([.nilFunc]:List Value)++(([.nilFunc]:List Value)++(([.nilFunc]:List Value)++(([.nilFunc]:List Value)++([]:List Value))))))).toArray,by kernel_rfl,⟨_,rfl,⟨[.nilFunc],_, .nilFunc,rfl,by kernel_rfl,rfl,rfl,⟨[.nilFunc],_, .nilFunc,rfl,by kernel_rfl,rfl,rfl,⟨[.nilFunc],_, .nilFunc,rfl,by kernel_rfl,rfl,rfl,⟨[.nilFunc],_, .nilFunc,rfl,by kernel_rfl,rfl,rfl,⟨[.nilFunc],_, .nilFunc,rfl,by kernel_rfl,rfl,rfl,rfl⟩⟩⟩⟩⟩,ld (by kernel_rfl)⟩⟩
theorem afr(J:World->Prop)(ρ:bh):∃u:Value,bT Tryz.prog 222=some u.cells.toList/\rv (G:=sg) J ρ (.st (.part 952 (.dat (.st 19) dx) (.part 1 (.int .i64 0) (.part 6 (.dat (.st 23) fb) (.part 2 (.dat (.st 4) aB) (.part 1 (.int .i64 0) (.part 1 (.bool false) (.part 1 .kz .nil)))))))) u:=⟨.agg (((gO:List Value)++(([.int .i64 0]:List Value)++((lJ:List Value)++((oQ:List Value)++(([.int .i64 0]:List Value)++(([.bool false]:List Value)++(([.slice none 0 0]:List Value)++([]:List Value))))))))).toArray,by kernel_rfl,⟨_,rfl,⟨gO,_, .agg (gO).toArray,rfl,by kernel_rfl,⟨_,rfl,tH,λ_ =>⟨_,rfl⟩,nofun⟩,rfl,⟨[.int .i64 0],_, .int .i64 0,rfl,by kernel_rfl,rfl,rfl,⟨lJ,_, .agg (lJ).toArray,rfl,by kernel_rfl,⟨_,rfl,vH,λ_ =>⟨_,rfl⟩,nofun⟩,rfl,⟨oQ,_, .agg (oQ).toArray,rfl,by kernel_rfl,⟨_,rfl,yU,λ_ =>⟨_,rfl⟩,nofun⟩,rfl,⟨[.int .i64 0],_, .int .i64 0,rfl,by kernel_rfl,rfl,rfl,⟨[.bool false],_, .bool false,rfl,by kernel_rfl,rfl,rfl,⟨[.slice none 0 0],_, .slice none 0 0,rfl,by kernel_rfl,rfl,rfl,rfl⟩⟩⟩⟩⟩⟩⟩,ld (by kernel_rfl)⟩⟩
theorem afq(J:World->Prop)(ρ:bh):∃u:Value,bT Tryz.prog 225=some u.cells.toList/\rv (G:=sg) J ρ .nn u:=⟨.nilFunc,by kernel_rfl,rfl⟩
theorem afp(J:World->Prop)(ρ:bh):∃u:Value,bT Tryz.prog 294=some u.cells.toList/\rv (G:=sg) J ρ .nn u:=⟨.nilFunc,by kernel_rfl,rfl⟩
theorem afo(J:World->Prop)(ρ:bh):∃u:Value,bT Tryz.prog 315=some u.cells.toList/\rv (G:=sg) J ρ .kz u:=⟨.slice none 0 0,by kernel_rfl,rfl⟩
theorem afn(J:World->Prop)(ρ:bh):∃u:Value,bT Tryz.prog 342=some u.cells.toList/\rv (G:=sg) J ρ .Dl u:=⟨.map none,by kernel_rfl,rfl⟩
def ztT:Og (AV sg):=(.eD 103 (.dat (.st 19) dx) (.eD 66 (.dat (.st 5) cQ) (.eD 30 (.st (.part 1 .s8 (.part 1 (.int .u32 0) (.part 1 (.int .i64 0) .nil)))) (.eD 5 (.int .u8 0) (.eD 4 (.bool false) (.eD 3 (.int .i64 0) .eC .eC) .eC) (.eD 28 (.int .u32 0) (.eD 23 (.int .u64 0) .eC .eC) .eC)) (.eD 53 .kz (.eD 43 (.int .i64 0) (.eD 35 (.dat (.st 2) jG) .eC .eC) .eC) (.eD 64 .kz (.eD 57 (.dat (.st 3) fC) .eC .eC) .eC))) (.eD 84 (.dat (.st 12) qN) (.eD 75 (.dat (.st 8) iF) (.eD 72 (.dat (.st 7) jO) (.eD 69 (.dat (.st 6) iS) .eC .eC) .eC) (.eD 82 (.dat (.st 11) tG) (.eD 80 (.dat (.st 10) eE) .eC .eC) .eC)) (.eD 92 (.dat (.st 15) dY) (.eD 89 (.dat (.st 14) iE) (.eD 87 (.dat (.st 13) qO) .eC .eC) .eC) (.eD 99 (.dat (.st 18) qP) (.eD 96 (.dat (.st 17) iT) .eC .eC) .eC)))) (.eD 169 (.dat (.st 4) aB) (.eD 123 (.dat (.st 23) fb) (.eD 113 (.st (.part 952 (.dat (.st 19) dx) (.part 1 .s8 (.part 320 (.dat (.st 21) bG) (.part 1 .kz .nil))))) (.eD 110 (.dat (.st 21) bG) (.eD 107 (.dat (.st 20) oY) .eC .eC) .eC) (.eD 120 (.dat (.st 22) az) (.eD 116 (.dat (.st 1) gL) .eC .eC) .eC)) (.eD 145 .nn (.eD 141 (.st (.part 3 (.st (.part 1 .s8 (.part 1 (.int .u32 0) (.part 1 (.int .i64 0) .nil)))) (.part 1 (.int .i64 0) .nil))) (.eD 137 .nn .eC .eC) .eC) (.eD 151 .nn (.eD 149 (.st (.part 1 .s8 (.part 1 (.int .i64 0) .nil))) .eC .eC) .eC))) (.eD 222 (.st (.part 952 (.dat (.st 19) dx) (.part 1 (.int .i64 0) (.part 6 (.dat (.st 23) fb) (.part 2 (.dat (.st 4) aB) (.part 1 (.int .i64 0) (.part 1 (.bool false) (.part 1 .kz .nil)))))))) (.eD 184 (.dat (.st 26) kE) (.eD 179 (.dat (.st 25) kD) (.eD 171 (.dat (.st 24) kF) .eC .eC) .eC) (.eD 189 (.st (.part 1 .nn (.part 1 .nn (.part 1 .nn (.part 1 .nn (.part 1 .nn .nil)))))) (.eD 188 (.st (.part 1 .s8 (.part 12 (.dat (.st 24) kF) (.part 3 (.dat (.st 22) az) (.part 1 (.bool false) .nil))))) .eC .eC) .eC)) (.eD 315 .kz (.eD 294 .nn (.eD 225 .nn .eC .eC) .eC) (.eD 342 .Dl .eC .eC)))))
def zt:ZT Tryz.prog sg:=⟨ztT,aeC ⟨afK,⟨aio,⟨aiu,⟨zt5,⟨zt4,⟨zt3,trivial,trivial⟩,trivial⟩,⟨aiv,⟨aiw,trivial,trivial⟩,trivial⟩⟩,⟨air,⟨ais,⟨ait,trivial,trivial⟩,trivial⟩,⟨aip,⟨aiq,trivial,trivial⟩,trivial⟩⟩⟩,⟨aii,⟨ail,⟨aim,⟨ain,trivial,trivial⟩,trivial⟩,⟨aij,⟨aik,trivial,trivial⟩,trivial⟩⟩,⟨aie,⟨aif,⟨aih,trivial,trivial⟩,trivial⟩,⟨aic,⟨aid,trivial,trivial⟩,trivial⟩⟩⟩⟩,⟨afy,⟨afE,⟨afH,⟨afI,⟨afJ,trivial,trivial⟩,trivial⟩,⟨afF,⟨afG,trivial,trivial⟩,trivial⟩⟩,⟨afB,⟨afC,⟨afD,trivial,trivial⟩,trivial⟩,⟨afz,⟨afA,trivial,trivial⟩,trivial⟩⟩⟩,⟨afr,⟨afv,⟨afw,⟨afx,trivial,trivial⟩,trivial⟩,⟨afs,⟨afu,trivial,trivial⟩,trivial⟩⟩,⟨afo,⟨afp,⟨afq,trivial,trivial⟩,trivial⟩,⟨afn,trivial,trivial⟩⟩⟩⟩⟩⟩
end Go.Proofs.Z
