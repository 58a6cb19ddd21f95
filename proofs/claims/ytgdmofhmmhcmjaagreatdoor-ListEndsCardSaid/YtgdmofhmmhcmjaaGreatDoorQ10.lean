/- Part 10 of what a proof leans on; pruned and shortened by a program out of longer texts. -/
import Derived.Test.YtgdmofhmmhcmjaaGreatDoorQ9
namespace Go.Rw
open Go Go.Bw Go.RowKit
variable {G:Sg} {P:Program} {N:Nat} {C:CC G} {Z:Type} {tb:wZ P G} {rec:WT G Z} {cp:List Nat} {all:Array Oper} {r:List Oper} {K:Ex G->AS G->Option Z} {z:Z}
theorem C0(bB:o5 P rec){o:Oper}{S:AS G}(hg:Mv N all C S o)(h:Zy tb rec N cp C all r o S K=some z):∃e S',K e S'=some z/\S.nx<=S'.nx/\US P N C (.ops all (o::r)) S S' e:=by
 obtain⟨d,op,ty,ps,af,g⟩:=o;unfold Zy at h;dsimp only at h;split at h
 ·rename_i gs v hv
  obtain⟨h1,h2⟩:=afl h;exact cS bB hg (ad1 hv h1) (Nat.le_refl _) h2
 ·split at h
  ·cases h
  ·obtain⟨e,S1,h1,h2,h3⟩:=bB _ _ _ _ _ _ _ h
   rw[v7]at h2;exact⟨e,S1,h1,h2,BB _ h3⟩
theorem aco{d:Option Tmp}{op:Op}{ty:TypeId}{ps:String}{af:Array Edge}{g:Option (Nat×Bool)}{T d1:Nat}{r r2:List Oper}(h:acp ⟨d,op,ty,ps,af,g⟩ T r=some (d1,r2)):
  ∃t2 p2 f2,d=some d1/\g=none/\r=⟨none, .call ⟨.builtin .clear, #[.tmp d1], #[T]⟩,t2,p2,f2,none⟩::r2:=by
 unfold acp at h;split at h
 ·rename_i a t t2 p2 f2 r3
  split at h
  ·rename_i e1 d2 T2 hd hg ha ht
   cases hb:(Nat.beq _ d2&&Nat.beq T T2)with
   |false=>rw[hb]at h;cases h
   |true=>
    rw[hb]at h;simp only[aid]at hb;have eA:a= #[.tmp d2]:=by rw[← Array.toArray_toList (xs:=a),ha]
    have eT:t= #[T2]:=by rw[← Array.toArray_toList (xs:=t),ht]
    subst eA;subst eT;obtain rfl:=aic hb.1;obtain rfl:=aic hb.2;cases h;exact⟨_,_,_,hd,hg,rfl⟩
  ·cases h
 ·cases h
theorem RK(bB:o5 P rec){o:Oper}{S:AS G}(hg:Mv N all C S o)(h:wOp tb rec N cp C all r o S K=some z):∃e S',K e S'=some z/\S.nx<=S'.nx/\US P N C (.ops all (o::r)) S S' e:=by
 obtain⟨d,op,ty,ps,af,g⟩:=o;unfold wOp at h;dsimp only at h;split at h
 ·split at h
  ·rename_i v hv
   exact cS bB hg (aaO hv) (Nat.le_succ _) h
  ·cases h
 ·split at h
  ·rename_i v hv
   exact cS bB hg (Sw hv) (Nat.le_succ _) h
  ·cases h
 ·split at h
  ·obtain⟨e,S1,h1,h2,h3⟩:=bB _ _ _ _ _ _ _ h
   rw[v7]at h2;exact⟨e,S1,h1,h2,BB _ h3⟩
  ·split at h
   ·rename_i q p v hx hy
    split at h
    ·rename_i T' cc ho
     cases hb:vx tb.tt _ v with
     |false=>rw[hb]at h;cases h
     |true=>rw[hb]at h;obtain⟨c',h1,h2⟩:=Si h;exact cS bB hg (So hx hy ho h1 hb) (Nat.le_refl _) h2
    ·rename_i e sz t xs ho
     cases hb:(Ug p sz&&vx tb.tt _ v)with
     |false=>rw[hb]at h;cases h
     |true=>
      rw[hb]at h;simp only[aid]at hb;simp only[cond_true]at h;split at h
      ·rename_i pl Rj
       split at h
       ·rename_i y' hu
        exact cS bB hg (Sm hx hy ho hb.1 Rj hu hb.2) (Nat.le_refl _) h
       ·cases h
      ·cases h
    ·cases h
   ·cases h
 ·split at h
  ·rename_i e sz _ ht
   split at h
   ·rename_i z hz
    split at h
    ·rename_i t _
     split at h
     ·rename_i xs hxs
      cases hc:((Nat.beq xs.length _ &&Nat.beq (t.L G).n sz)&&(Nat.blt 0 (_ *sz)&&Nat.ble (_ *sz) 16777216))with
      |false=>rw[hc]at h;cases h
      |true=>rw[hc]at h;simp only[aid]at hc;obtain⟨⟨c1,c2⟩,c3,c4⟩:=hc;simp only[cond_true]at h;exact cS bB hg (ad3 ht hz hxs (aic c1) (aic c2) (by simpa[Nat.blt_eq]using c3) (Nat.le_of_ble_eq_true c4)) (Nat.le_succ _) h
     ·exact C0 bB hg h
    ·split at h
     ·rename_i vs hvs
      cases hc:((Nat.beq _ _ &&Nat.beq sz 1)&&(Nat.blt 0 _ &&Nat.ble _ 16777216))with
      |false=>rw[hc]at h;cases h
      |true=>rw[hc]at h;simp only[aid]at hc;obtain⟨⟨c1,c2⟩,c3,c4⟩:=hc;obtain rfl:=aic c2;simp only[cond_true]at h;exact cS bB hg (aaN ht hz hvs (aic c1) (by simpa[Nat.blt_eq]using c3) (Nat.le_of_ble_eq_true c4)) (Nat.le_succ _) h
     ·cases h
   ·cases h
  ·cases h
 ·rename_i T s s'
  cases hs:Nat.beq s s' with
  |false=>rw[hs]at h;cases h
  |true=>
   rw[hs]at h;obtain rfl:=aic hs;simp only[cond_true]at h;split at h
   ·rename_i i _ e sz bt hx ht
    split at h
    ·rename_i k z0 hz
     cases hc:(Nat.beq sz 1&&Nat.blt 0 bt)with
     |false=>rw[hc]at h;cases h
     |true=>rw[hc]at h;simp only[aid]at hc;obtain rfl:=aic hc.1;simp only[cond_true]at h;obtain⟨g1,h⟩:=pq h;obtain⟨g2,h⟩:=pq h;exact cS bB hg (aaJ ht hz hx g1 g2 (by simpa[Nat.blt_eq]using hc.2)) (Nat.le_succ _) h
    ·cases h
   ·cases h
 ·split at h
  ·rename_i t v hx
   exact⟨_,_,h,Nat.le_refl _,RR hg hx⟩
  ·cases h
 ·split at h
  ·rename_i k x y l hf ha
   cases hb:((om x&&om l)&&(om y&&xg (lA C)))with
   |false=>rw[hb]at h;cases h
   |true=>rw[hb]at h;simp only[aid]at hb;obtain⟨e,S3,k1,k2,k3⟩:=bB _ _ _ _ _ _ _ h;exact⟨e,S3,k1,k2,RS hg hf ha hb.2.2 k3⟩
  ·cases h
 ·rename_i args Hx
  split at h
  ·rename_i x y T T' hA hT
   have eA:args= #[x,y]:=by rw[← Array.toArray_toList (xs:=args),hA]
   have eT:Hx= #[T,T']:=by rw[← Array.toArray_toList (xs:=Hx),hT]
   subst eA;subst eT;cases hb:Nat.beq T T' with
   |false=>rw[hb]at h;cases h
   |true=>
    rw[hb]at h;obtain rfl:=aic hb;simp only[cond_true]at h;split at h
    ·rename_i q vy e sz bt hx hy ht
     split at h
     ·rename_i e' sz' t xs l ho hl
      cases hc:(Nat.beq e' e&&Nat.beq sz' sz)with
      |false=>rw[hc]at h;cases h
      |true=>
       rw[hc]at h;simp only[aid]at hc;obtain rfl:=aic hc.1;obtain rfl:=aic hc.2;simp only[cond_true]at h;split at h
       ·rename_i ys hys
        obtain⟨g1,h⟩:=pq h;exact cS bB hg (aaP ht hx hy ho hl hys g1) (Nat.le_succ _) h
       ·cases h
     ·cases h
    ·rename_i vy e sz bt hx hy ht
     split at h
     ·rename_i l hl
      cases hc:Nat.beq (l.t.L G).n sz with
      |false=>rw[hc]at h;cases h
      |true=>rw[hc]at h;simp only[cond_true]at h;obtain⟨g1,h⟩:=pq h;exact cS bB hg (WV ht hx hy hl (aic hc) g1) (Nat.le_succ _) h
     ·cases h
    ·cases h
  ·cases h
 ·rename_i args Hx
  split at h
  ·rename_i x y T T' hA hT
   have eA:args= #[x,y]:=by rw[← Array.toArray_toList (xs:=args),hA]
   have eT:Hx= #[T,T']:=by rw[← Array.toArray_toList (xs:=Hx),hT]
   subst eA;subst eT;split at h
   ·rename_i q vy e sz bt hx hy ht
    split at h
    ·rename_i e' sz' k xs l ho hl
     cases hc:((Nat.beq e' e&&Nat.beq sz 1)&&Nat.beq sz' 1)with
     |false=>rw[hc]at h;cases h
     |true=>
      rw[hc]at h;simp only[aid]at hc;obtain rfl:=aic hc.1.1;obtain rfl:=aic hc.1.2;obtain rfl:=aic hc.2;simp only[cond_true]at h;split at h
      ·rename_i ys hys
       exact cS bB hg (WU ht hx hy ho hl hys) (Nat.le_refl _) h
      ·cases h
    ·cases h
   ·rename_i q p n i q' p' n' j e sz bt hx hy ht
    split at h
    ·rename_i T2 cc ho
     split at h
     ·rename_i m k f hl
      cases hc:((Nat.beq q q'&&Nat.beq n n')&&((Nat.beq m n&&Nat.beq sz 1)&&(Iu p p'&&aaT [T,T'] T)))with
      |false=>rw[hc]at h;cases h
      |true=>rw[hc]at h;simp only[aid]at hc;obtain rfl:=aic hc.1.1;obtain rfl:=aic hc.1.2;obtain rfl:=aic hc.2.1.1;obtain rfl:=aic hc.2.1.2;have hT:=hc.2.2.2;simp only[aaT,aid]at hT;obtain rfl:=aic hT.2;simp only[cond_true]at h;obtain⟨c',h1,h2⟩:=Si h;exact cS bB hg (aaL ht hx hy hc.2.2.1 ho hl h1) (Nat.le_refl _) h2
     ·cases h
    ·cases h
   ·cases h
  ·cases h
 ·rename_i args Hx
  split at h
  ·rename_i x T hA hT
   have eA:args= #[x]:=by rw[← Array.toArray_toList (xs:=args),hA]
   have eT:Hx= #[T]:=by rw[← Array.toArray_toList (xs:=Hx),hT]
   subst eA;subst eT;split at h
   ·rename_i q p n i e sz bt hx ht
    split at h
    ·rename_i T2 cc ho
     split at h
     ·rename_i m k f hl
      cases hc:((Nat.beq i.toNat n&&Nat.blt 0 n)&&((Nat.beq m n&&Nat.beq sz 1)&&Ce P e k))with
      |false=>rw[hc]at h;cases h
      |true=>rw[hc]at h;simp only[aid]at hc;obtain rfl:=aic hc.2.1.1;obtain rfl:=aic hc.2.1.2;simp only[cond_true]at h;obtain⟨c',h1,h2⟩:=Si h;exact cS bB hg (aaM ht hx hc.1.1 hc.1.2 ho hl hc.2.2 h1) (Nat.le_refl _) h2
     ·cases h
    ·cases h
   ·cases h
  ·cases h
 ·split at h
  ·exact cS bB hg (MR _) (Nat.le_succ _) h
  ·cases h
 ·split at h
  ·rename_i q ky k _ v hx hy hz
   split at h
   ·rename_i ik ks vs ho
    cases hc:((Fb ky ik&&LX P _ ik)&&(IJ k ks&&om vs))with
    |false=>rw[hc]at h;cases h
    |true=>rw[hc]at h;simp only[aid]at hc;exact cS bB hg (P9 hx hy hz ho hc.1.1 hc.1.2 hc.2.1 hc.2.2) (Nat.le_refl _) h
   ·cases h
  ·cases h
 ·split at h
  ·rename_i k fst cap l hf ha
   have h0:=Zz h;clear h;rcases h0 with⟨ct,x,g',IX,h⟩|⟨b,l',h⟩|h
   ·cases hb:((om fst&&om l)&&(om cap&&Nat.beq ct.s.k k))with
    |false=>rw[hb]at h;cases h
    |true=>
     rw[hb]at h;simp only[aid]at hb;obtain⟨⟨b1,b2⟩,b3,b4⟩:=hb;obtain rfl:=aic b4;have Lv:=Yq IX;rcases ct.cps x _ _ z h with⟨y,hR,hy⟩|⟨y,hR,hy⟩
     ·split at hy
      ·rename_i v hd
       exact cS bB hg (ad2 hf ha b1 b2 IX hR hd) (Nat.le_trans Lv (Nat.le_add_right _ _)) hy
      ·cases hy
     ·split at hy
      ·rename_i v hd
       exact⟨_,_,hy,Nat.le_trans Lv (Nat.le_add_right _ _),aaD hg hf ha b1 b2 IX hR hd⟩
      ·cases hy
   ·obtain⟨e,S1,h1,h2,h3⟩:=bB _ _ _ _ _ _ _ h
    have h2:=Nat.le_trans (K0 l' _) h2;rw[v7]at h2;exact⟨e,S1,h1,h2,BB b (KP l' h3)⟩
   split at h
   ·rename_i fi Gl
    cases hb:((om fst&&om l)&&(om cap&&Nat.ble (yh (ni fst (ni l cap))) fi.N))with
    |false=>rw[hb]at h;cases h
    |true=>
     rw[hb]at h;simp only[aid]at hb;obtain⟨⟨b1,b2⟩,b3,b4⟩:=hb;have b4:=Nat.le_of_ble_eq_true b4;obtain⟨e,S1,h1,h2,h3⟩:=bB _ _ _ _ _ _ _ h;have h2:S.nx<=S1.nx:=h2;split at h1
     ·rename_i v O2 hX
      exact⟨_,_,h1,h2,RY (tt:=tb.tt) hg hf ha Gl b1 b2 b3 b4 h3 hX⟩
     ·rename_i O2 hX
      split at h1
      ·rename_i v hres
       exact cS bB hg (Om hf ha Gl b1 b2 b3 b4 h3 hX (.inl rfl) hres) h2 h1
      ·cases h1
     ·rename_i O2 hX
      split at h1
      ·rename_i v hres
       exact cS bB hg (Om hf ha Gl b1 b2 b3 b4 h3 hX (.inr rfl) hres) h2 h1
      ·cases h1
     ·cases h1
   ·cases h
  ·rename_i q l hf ha
   split at h
   ·rename_i N2 ks vs ps a b hq
    cases hb:xg (lA C)with
    |false=>rw[hb]at h;cases h
    |true=>
     rw[hb]at h;simp only[cond_true]at h;obtain⟨S2,hbi,h⟩:=Pt h;obtain⟨e1,S3,h1,h2,h3⟩:=bB _ _ _ _ _ _ _ h;cases e1 with
     |jl=>
      obtain⟨e2,S4,k1,k2,k3⟩:=bB _ _ _ _ _ _ _ h1;cases e2 with
      |jl=>
       split at k1
       ·rename_i hD
        have hn:=GV hbi;have hn:S2.nx=S.nx:=hn;exact cS bB hg (Sk hf ha hq hb hbi h3 h2 k3 k2 hD) (by show S.nx<=S4.nx;omega) k1
       ·cases k1
      |_ =>cases k1
     |_ =>cases h1
   ·cases h
  ·cases h
 ·split at h
  ·rename_i g0 hgt
   cases hb:qS P _ with
   |false=>rw[hb]at h;cases h
   |true=>rw[hb]at h;exact cS bB hg (Ss hgt hb) (Nat.le_succ _) h
  ·cases h
 ·split at h
  ·rename_i q ik k kb hx hy
   split at h
   ·rename_i ho
    split at h
    ·rename_i g0 hgt
     cases hb:(Nat.beq (Ty.bU.ik ik) (Ty.bU.ik g0.1)&&Ef P _ g0.1)with
     |false=>rw[hb]at h;cases h
     |true=>rw[hb]at h;simp only[aid]at hb;exact cS bB hg (P8 hgt hx ho hy hb.1 hb.2) (Nat.le_refl _) (aeF h)
    ·cases h
   ·rename_i qk ks vs ho
    cases hb:(Fb ik qk&&Ef P _ qk)with
    |false=>rw[hb]at h;cases h
    |true=>rw[hb]at h;simp only[aid]at hb;obtain⟨t,t1,t2⟩:=aeG h;exact cS bB hg (Sr hx hy ho hb.1 hb.2 t2) (Nat.le_refl _) t1
   ·cases h
  ·cases h
 ·split at h
  ·rename_i q k i qq e sz bt hx hh ht _
   split at h
   ·rename_i e' sz' t xs ho
    cases hc:(Nat.beq e' e&&Nat.beq sz' sz)with
    |false=>rw[hc]at h;cases h
    |true=>rw[hc]at h;simp only[aid]at hc;obtain rfl:=aic hc.1;obtain rfl:=aic hc.2;simp only[cond_true]at h;obtain⟨g1,h⟩:=pq h;exact cS bB hg (aaK ht hx ho hh g1) (Nat.le_succ _) h
   ·cases h
  ·rename_i q p k i qq hx hh _
   split at h
   ·rename_i T2 cc n e0 sz ho hT
    split at h
    ·rename_i m e f hl
     cases hc:Nat.beq m n with
     |false=>rw[hc]at h;cases h
     |true=>rw[hc]at h;obtain rfl:=aic hc;simp only[cond_true]at h;obtain⟨g1,h⟩:=pq h;exact cS bB hg (Sq hT hx hh ho hl g1) (Nat.le_refl _) h
    ·cases h
   ·cases h
  ·exact C0 bB hg h
 ·split at h
  ·rename_i q k i qq e sz bt hc hx hh ht
   split at h
   ·rename_i e' sz' t xs ho _
    cases hc:(Nat.beq e' e&&Nat.beq sz' sz)with
    |false=>rw[hc]at h;cases h
    |true=>rw[hc]at h;simp only[aid]at hc;obtain rfl:=aic hc.1;obtain rfl:=aic hc.2;simp only[cond_true]at h;obtain⟨g1,h⟩:=pq h;exact cS bB hg (Sv ht hx ho hh g1) (Nat.le_succ _) h
   ·exact C0 bB hg h
  ·rename_i d1 r2 q k0 i qq e sz bt hc hx hl ht
   split at h
   ·rename_i e' sz' k xs S1 ho hp
    cases hb:((Nat.beq e' e&&Nat.beq sz 1)&&(Nat.beq sz' 1&&Ce P e k))with
    |false=>rw[hb]at h;cases h
    |true=>rw[hb]at h;simp only[aid]at hb;obtain rfl:=aic hb.1.1;obtain rfl:=aic hb.1.2;obtain rfl:=aic hb.2.1;simp only[cond_true]at h;obtain⟨g1,h⟩:=pq h;obtain⟨e1,S3,h1,h2,h3⟩:=bB _ _ _ _ _ _ _ h;have Lv:=nr hp;refine⟨e1,S3,h1,(by rw[← Lv];exact h2),?_⟩;obtain⟨t2,p2,f2,rfl,rfl,rfl⟩:=aco hc;exact RW ht hb.2.2 hx ho hl g1 hp h3
   ·exact C0 bB hg h
  ·exact C0 bB hg h
 ·exact C0 bB hg h
theorem acm(bB:o5 P rec){o:Oper}{S:AS G}{j dj:Nat}{w:Bool}{no:Option Z}{gx:Option Bool}{cx:Option (Nat×AV G)}(J7:o.guard=some (j,w))(hd:GF all j=some dj)(he:Nx C S 8 dj w=gx)(hc:L5 C S (chain C S 8 dj w) o.op=cx)
  (hno:no=some z->∃e S',K e S'=some z/\S.nx<=S'.nx/\US P N C (.ops all (o::r)) S S' e)(h:ctT tb rec N cp C all r o S K dj w no gx cx=some z):∃e S',K e S'=some z/\S.nx<=S'.nx/\US P N C (.ops all (o::r)) S S' e:=by
 unfold ctT at h;split at h
 ·rename_i g k ah9
  have h0:=Zz h;clear h;rcases h0 with⟨ct,x,g',IX,h⟩|⟨b,l',h⟩|h
  ·cases hb:Nat.beq ct.s.k k with
   |false=>rw[hb]at h;cases h
   |true=>
    rw[hb]at h;have hk:=aic hb;simp only[cond_true]at h;unfold ctG at h;split at h
    ·rename_i hnm
     cases hn:(E9 true ct.s.uC&&E9 false ct.s.cJ)with
     |false=>rw[hn]at h;exact hno h
     |true=>
      rw[hn]at h;simp only[aid]at hn;obtain⟨y,hR,hy⟩:=ct.cgs g x _ z h;split at hy
      ·rename_i v hv
       split at hy
       ·rename_i S2 hp
        obtain⟨e,S3,k1,k2,k3⟩:=bB _ _ _ _ _ _ _ hy;have:=nr hp;exact⟨e,S3,k1,by omega,aaE J7 hd he hc hk IX hnm hn.1 hn.2 hR hv hp k3⟩
       ·cases hy
      ·cases hy
    ·exact hno h
  ·obtain⟨e,S1,h1,h2,h3⟩:=bB _ _ _ _ _ _ _ h
   have h2:=Nat.le_trans (K0 l' _) h2;rw[v7]at h2;exact⟨e,S1,h1,h2,BB b (KP l' h3)⟩
  ·exact hno h
 ·exact hno h
theorem Oi{x:Operand}{a b:Code}{t:Bool}{S S1:AS G}{e:Ex G}(hx:fQ C S [] x=some (.bool t))(h:US P N C (.code (bif t then a else b)) S S1 e):US P N C (.code (.cond x a b)) S S1 e:=by
 intro c ρ J HK X ac w Q hr hq;have ex:=zb ((cL hr (ch:=[]) (by simp)).ok _ _ hx);cases t with
 |true=>exact wpIn_cond_true ex (h c ρ J HK X ac w Q hr hq)
 |false=>exact wpIn_cond_false ex (h c ρ J HK X ac w Q hr hq)
theorem RU{x:Operand}{a b:Code}{t:Bool}{S S1:AS G}{e:Ex G}(hx:fQ C S [] x=some (.kb t))(h:US P N C (.code (bif t then a else b)) S S1 e):US P N C (.code (.cond x a b)) S S1 e:=by
 intro c ρ J HK X ac w Q hr hq;have ex:=Iz ((cL hr (ch:=[]) (by simp)).ok _ _ hx);cases t with
 |true=>exact wpIn_cond_true ex (h c ρ J HK X ac w Q hr hq)
 |false=>exact wpIn_cond_false ex (h c ρ J HK X ac w Q hr hq)
theorem PT{i:Nat}{ops:Array Oper}{S S1:AS G}{e:Ex G}(h:US P N C (.ops ops ops.toList) S S1 e):US P N C (.code (.region i ops false)) S S1 e:=by intro c ρ J HK X a w Q hr hq;exact wpIn_region_list (h c ρ J HK X a w Q hr hq)
theorem Jq{cf:Cf}{S S1:AS G}{e:Ex G}(p q:Nat->Bool)(h:US P N (⟨jr (λd=> !p d) S.F,cF (λr=> !q r) S.O,S.D⟩::C) cf ⟨jr p S.F,cF q S.O,S.nx,[]⟩ S1 e):US P N C cf S (KG ⟨jr (λd=> !p d) S.F,cF (λr=> !q r) S.O,S.D⟩ S1) e:=by intro c ρ J HK X a w Q hr hq;obtain⟨H2,p1,p2⟩:=hr.push p q;refine h c ρ J (H2++HK) X a w Q p2 λρ' J' Y a' w' me k1 k2 k3 k4=>?_;have hle:=k1.le hr.fr;exact hq ρ' J' Y a' w' me k1 k2 k3 (k4.KG (p1.up k2 hle) (hr.Mn k2 hle) hr.si.n)
theorem WG{x y:Code}{S S1 S2:AS G}{ly:Ly G}{g:Ml}{p q:Nat->Bool}{e:HL G (aL (rC g.l))}{e2:Ex G}(hly:ly=⟨jr (λd=> !p d) S.F,cF (λr=> !q r) S.O,S.D⟩)(hl:xx S.nx (ly::C)=true)
  (h1:US P N (ly::C) (.code x) ⟨jr p S.F,cF q S.O,S.nx,[]⟩ S1 .jl)(hg:Gn (ly::C) (lR (ly::C) S1 g.l) g S.nx=some e)(h2:US P N C (.code y) (KG ly (HT g S.nx e)) S2 e2):US P N C (.code (.seq x y)) S S2 e2:=by
 subst hly;intro c ρ J HK X a w Q hr hq;obtain⟨H2,p1,p2⟩:=hr.push p q;refine wpIn_seq (h1 c ρ J (H2++HK) X a w _ p2 λρ' J' Y a' w' me k1 k2 k3 k4=>?_);rw[jg k3];obtain⟨J2,Y2,j1,k5⟩:=k4.lR g.l;obtain⟨ρ2,m1,m2⟩:=XB k5 hg hl;have hto:ρ.to ρ2 S.nx:=λr hr'=>(m1 r hr').trans (k1 r hr');have hle:=hto.le hr.fr;have k2':∀w,J2 w->J w:=λw h=>k2 w (j1 w h);rw[← List.append_assoc]at m2;refine h2 c ρ2 J2 HK ((Y2++Y)++X) a' w' Q (m2.KG (p1.up k2' hle) (hr.Mn k2' hle) hr.si.n) (hq.gW hto k2' ?_);show S.nx<=S.nx+_;omega
def USl(P:Program)(N:Nat)(C:CC G)(base:Nat)(x:Code)(S S':AS G)(e:Ex G):Prop:=∀(c:Cx) (ρ:aW) (J:World->Prop) (HK X:List aE) (a:Act) (w:World) (Q:Exit->Act->World->Prop),Rl c N ρ J HK X C S a w->Zv c N C ρ J HK X base S' e Q->LPr P c x Q a w
theorem RM{x:Code}{g:Ml}{base:Nat}{e e':HL G (aL (rC g.l))}{S1 S2:AS G}{e2:Ex G}(hl:xx base C=true)(h1:US P N C (.code x) (HT g base e) S1 .jl)(hg:Gn C (lR C S1 g.l) g base=some e')(h2:USl P N C base x (HT g base e') S2 e2):USl P N C base x (HT g base e) S2 e2:=by intro c ρ J HK X a w Q hr hq;refine BY (h1 c ρ J HK X a w _ hr λρ' J' Y a' w' me k1 k2 k3 k4=>?_);rw[jg k3];obtain⟨J2,Y2,j1,k5⟩:=k4.lR g.l;obtain⟨ρ2,m1,m2⟩:=XB k5 hg hl;have Mq:ρ.to ρ' base:=λr hr'=>k1 r (by show r<base+_;omega);rw[← List.append_assoc]at m2;exact h2 c ρ2 J2 HK ((Y2++Y)++X) a' w' Q m2 (hq.gW (λr hr'=>(m1 r hr').trans (Mq r hr')) (λw h=>k2 w (j1 w h)) (Nat.le_refl _))
theorem FO{x:Code}{g:Ml}{base:Nat}{e:HL G (aL (rC g.l))}{S1:AS G}{e1:Ex G}(h1:US P N C (.code x) (HT g base e) S1 e1)(he:e1≠ .jl):USl P N C base x (HT g base e) S1 e1:=by intro c ρ J HK X a w Q hr hq;refine BY (h1 c ρ J HK X a w _ hr λρ' J' Y a' w' me k1 k2 k3 k4=>?_);exact mz (ng he k3) (hq ρ' J' Y a' w' me (λr hr'=>k1 r (by show r<base+_;omega)) k2 k3 k4)
theorem WE{x:Code}{S S1:AS G}{g:Ml}{v:AV G}{x0:HL G (aL (rC g.l))}{g':GS G}{p:Nat->Bool}{ly:Ly G}{e:Ex G}(hv:C3 C S g.l=some v)(IX:m9 (rC g.l) v ⟨[],S.O,S.nx⟩=some (x0,g'))(b1:vW g.nm g'.th=true)(b2:vX S.nx g.nm=true)
  (hly:ly=⟨jr p S.F,g'.O,S.D⟩)(hl:xx S.nx (ly::C)=true)(h:USl P N (ly::C) S.nx x (HT g S.nx x0) S1 e):US P N C (.code (.loop x)) S (KG ly S1) e:=by
 intro c ρ J HK X a w Q hr hq;refine F7 ?_;have X4:xx S.nx C=true:=by simp only[xx,aid]at hl;exact hl.2.2.2
 obtain⟨ρ',ρ2,HB,H',hto,ht2,Gm,hleft,hC,hp,hF,hfc,hfr⟩:=OH hr hv IX b1 b2 (Nat.le_refl _) X4;have hag:∀r,r<S.nx->ρ' r=ρ2 r:=λr hr'=>(hto r hr').trans (ht2 r hr').symm;subst hly;have hl':=hl;simp only[xx,aid]at hl';have hleft:=hleft.eW hag hl'.2.1;have hr':Rl c N ρ' J (H'++HK) X (⟨jr p S.F,g'.O,S.D⟩::C) (HT g S.nx x0) a w:=by
  refine⟨hr.tm,?_,⟨hr.si.s,λq=>hr.si.n (BT q)⟩,hF,λy hy=>?_,λr o e=>?_,⟨HB,Gm,by simpa using hp⟩,hr.kn,hfr⟩
  ·exact hr.df.eW hto (JQ hl'.2.2.1 (D3 X4).2)
  ·rcases List.mem_cons.1 hy with rfl|hy
   ·exact(hr.fs.Wi).eW hto hl'.1
   ·exact hfc y hy
  ·have e:cQ (g'.O++lA C) r=some o:=e
   rw[kr]at e;split at e
   ·rename_i v' Ls
    cases e;obtain⟨x,h1,h2⟩:=hleft.lk Ls;exact⟨x,aii _ h1,h2⟩
   ·obtain⟨x,h1,h2⟩:=hC r o e
    exact⟨x,aih _ h1,h2⟩
 refine h c ρ' J (H'++HK) X a w Q hr' λρ3 J3 Y a' w' me k1 k2 k3 k4=>?_;have Mq:ρ.to ρ3 S.nx:=λr q=>(k1 r q).trans (hto r q);refine hq ρ3 J3 Y a' w' me Mq k2 k3 (k4.KG ((hleft.eW k1 hl'.2.1).up k2 (aW.le_refl _)) (hr.Mn k2 (Mq.le hr.fr)) hr.si.n)
theorem XF(bB:o5 P rec){x:Code}{g:Ml}{base:Nat}{ly:Ly G}(hl:xx base (ly::C)=true){vw:Option (Vw G (aL (rC g.l)))}:∀(n:Nat) (e:HL G (aL (rC g.l))),ZV vw (λgo e=>rec N cp (ly::C) (.code x) (HT g base e) λe1 S1=>match e1 with
   | .jl=>match Gn (ly::C) (lR (ly::C) S1 g.l) g base with
    |some e=>go e
    |none=>none
   |e1=>K e1 (KG ly S1)) n e=some z->
  ∃e1 S1,K e1 (KG ly S1)=some z/\base<=S1.nx/\USl P N (ly::C) base x (HT g base e) S1 e1:=by
 intro n
 induction n with
 |zero=>intro e h;obtain⟨m,h1,_⟩:=OI h;cases h1
 |succ n ih=>
  intro e h;obtain⟨m,h1,h2⟩:=OI h;cases h1;obtain⟨e1,S1,k1,k2,k3⟩:=bB _ _ _ _ _ _ _ h2;have k2:base<=S1.nx:=Nat.le_trans (Nat.le_add_right _ _) k2;cases e1 with
  |jl=>
   dsimp only at k1;split at k1
   ·rename_i e' hg
    obtain⟨e2,S2,m1,m2,m3⟩:=ih e' k1;exact⟨e2,S2,m1,m2,RM hl k3 hg m3⟩
   ·cases k1
  |exit i=>exact⟨_,S1,k1,k2,FO k3 (by simp)⟩
  |ret=>exact⟨_,S1,k1,k2,FO k3 (by simp)⟩
  |vE v=>exact⟨_,S1,k1,k2,FO k3 (by simp)⟩
theorem aaS(bB:o5 P rec){x y:Code}{S:AS G}(h:(rec N cp C (.code x) S λe S'=>match e with
    | .jl=>rec N cp C (.code y) S' K
    |e=>K e S')=some z):∃e S',K e S'=some z/\S.nx<=S'.nx/\US P N C (.code (.seq x y)) S S' e:=by
 obtain⟨e1,S1,k1,k2,k3⟩:=bB _ _ _ _ _ _ _ h;cases e1 with
 |jl=>obtain⟨e2,S2,m1,m2,m3⟩:=bB _ _ _ _ _ _ _ k1;exact⟨e2,S2,m1,Nat.le_trans k2 m2,aaB k3 m3 k2⟩
 |exit i=>exact⟨_,S1,k1,k2,nW k3 (by simp)⟩
 |ret=>exact⟨_,S1,k1,k2,nW k3 (by simp)⟩
 |vE v=>exact⟨_,S1,k1,k2,nW k3 (by simp)⟩
theorem Xo{x:Code}{S:AS G}{g:Ml}{r:Option Z}(h:r=some z->∃e S',K e S'=some z/\(lR C S g.l).nx<=S'.nx/\US P N C (.code x) (lR C S g.l) S' e)(hr:r=some z):∃e S',K e S'=some z/\S.nx<=S'.nx/\US P N C (.code x) S S' e:=by obtain⟨e,S',h1,h2,h3⟩:=h hr;rw[BL]at h2;exact⟨e,S',h1,h2,WD _ h3⟩
theorem aaV(bB:o5 P rec){ps:List Nat}{a b:Code}{S1:AS G}{g:Ml}{it:It P G}{O:Os G}:∀(l:List it.B) (e:HL G (aL (rC g.l))),rgW rec N cp C ps a b S1 K g it l O e=some z->
  ∃e1 Sf,K e1 (Qj S1.nx S1 O Sf)=some z/\S1.nx<=Sf.nx/\RgT P N (TI ps a b C S1 O) ps a b g (S1.nx+2) it l e e1 Sf:=by
 intro l
 induction l with
 |nil=>intro e h;exact⟨_,_,XV h,by show S1.nx<=S1.nx+2+_;omega, .nil⟩
 |cons y l ih=>
  intro e h;have h:=TR h;obtain⟨S2,hb,h⟩:=Pt h;obtain⟨e1,S3,k1,k2,k3⟩:=bB _ _ _ _ _ _ _ h;have hS2:S1.nx<=S2.nx:=by rw[GV hb];show S1.nx<=S1.nx+2+_;omega
  cases e1 with
  |jl=>
   obtain⟨e2,S4,m1,m2,m3⟩:=bB _ _ _ _ _ _ _ k1;cases e2 with
   |jl=>
    dsimp only at m1;split at m1
    ·rename_i e' hg
     obtain⟨e3,Sf,n1,n2,n3⟩:=ih e' m1;exact⟨e3,Sf,n1,n2, .gW hb k3 k2 m3 hg n3⟩
    ·cases m1
   |ret=>
    dsimp only at m1;cases hD:TA S4.D with
    |false=>rw[hD]at m1;cases m1
    |true=>rw[hD]at m1;exact⟨_,S4,m1,by omega, .stop hb k3 k2 m3 (.inl rfl) (Tz hD)⟩
   |exit i=>
    dsimp only at m1;cases hD:TA S4.D with
    |false=>rw[hD]at m1;cases m1
    |true=>rw[hD]at m1;exact⟨_,S4,m1,by omega, .stop hb k3 k2 m3 (.inr ⟨i,rfl⟩) (Tz hD)⟩
   |vE v=>cases m1
  |_ =>cases k1
theorem aaW(bB:o5 P rec){ps:Array Nat}{a b:Code}{k:Nat}{cap:AV G}{gl:List (Re×Sh)}{S:AS G}{Rk:Operand}(J7:fQ C S [] Rk=some (.fn (.func k) .nil cap)):∀{l:List (It P G)},rgK rec N cp C ps.toList a b k cap gl S K l=some z->
  ∃e S',K e S'=some z/\S.nx<=S'.nx/\US P N C (.code (.rangeFunc Rk ps a b)) S S' e:=by
 intro l
 induction l with
 |nil=>intro h;cases h
 |cons it q ih=>
  intro h;unfold rgK at h;split at h
  ·exact ih h
  ·rename_i x g1 IX
   split at h
   ·rename_i g hg
    dsimp only at h;split at h
    ·rename_i v hv
     split at h
     ·rename_i x0 g2 abJ
      revert h;generalize hcc:(((Nat.beq it.k k&&Nat.beq it.n ps.toList.length&&xg (lA C))&&(vW g.nm g2.th&&vX ((lR C ⟨S.F,g1.O,g1.nx,S.D⟩ g.l).nx+2) g.nm&&xx ((lR C ⟨S.F,g1.O,g1.nx,S.D⟩ g.l).nx+2) (TI ps.toList a b C (lR C ⟨S.F,g1.O,g1.nx,S.D⟩ g.l) g2.O)))&&((tw ((lR C ⟨S.F,g1.O,g1.nx,S.D⟩ g.l).nx+2) g2.O&&psN N ps.toList)&&(xx ((lR C ⟨S.F,g1.O,g1.nx,S.D⟩ g.l).nx+2) C&&JL (g2.O++lA C))))=cc;intro h;cases cc with
      |false=>cases h
      |true=>simp only[aid]at hcc;obtain⟨⟨⟨⟨c1,c2⟩,c3⟩,⟨c4,c5⟩,c6⟩,⟨c7,c8⟩,c9,c10⟩:=hcc;obtain rfl:=aic c1;obtain⟨l,hf,h⟩:=rL h;obtain⟨e1,Sf,k1,k2,k3⟩:=aaV bB l x0 h;refine⟨e1,_,k1,?_,RP J7 IX rfl hv abJ c4 c5 (by simpa using aic c2) c3 c6 c7 c9 c8 c10 hf k3⟩;show S.nx<=Sf.nx;rw[BL]at k2;exact Nat.le_trans (Us IX) k2
     ·cases h
    ·cases h
   ·cases h
theorem aaX(bB:o5 P rec){ps:Array Nat}{a b:Code}{k:Nat}{cap:AV G}{S:AS G}{Rk:Operand}(J7:fQ C S [] Rk=some (.fn (.func k) .nil cap))(h:rgI tb rec N cp C ps.toList a b k cap S K=some z):
  ∃e S',K e S'=some z/\S.nx<=S'.nx/\US P N C (.code (.rangeFunc Rk ps a b)) S S' e:=by
 unfold rgI at h;split at h
 ·rename_i fi ks vs Gl hkv
  split at h
  ·rename_i hres
   cases hb:((om cap&&Nat.ble (yh cap+1) fi.N)&&xg (lA C))with
   |false=>rw[hb]at h;cases h
   |true=>
    rw[hb]at h;simp only[aid]at hb;obtain⟨⟨b1,b2⟩,b3⟩:=hb;have b2:=Nat.le_of_ble_eq_true b2;obtain⟨e,S1,h1,h2,h3⟩:=bB _ _ _ _ _ _ _ h;have h2:S.nx+2<=S1.nx:=h2;split at h1
    ·rename_i O2 hX
     exact⟨_,_,h1,by show S.nx<=S1.nx;omega,Io (tt:=tb.tt) J7 Gl hres b1 b2 b3 hkv h3 h2 hX (.inl rfl)⟩
    ·rename_i O2 hX
     exact⟨_,_,h1,by show S.nx<=S1.nx;omega,Io (tt:=tb.tt) J7 Gl hres b1 b2 b3 hkv h3 h2 hX (.inr rfl)⟩
    ·cases h1
  ·cases h
 ·cases h
theorem WO(bB:o5 P rec):o5 P (step tb rec):=by
 intro N cp C cf S K z h;unfold step at h;dsimp only at h;split at h
 ·exact⟨_,_,h,Nat.le_refl _,aaC⟩
 ·rename_i all o r
  split at h
  ·rename_i hg;exact RK bB (.none hg) h
  ·rename_i j w hg
   split at h
   ·rename_i dj hd
    split at h
    ·rename_i hk;exact RK bB (.ZX hg hd hk) h
    ·rename_i hk
     split at h
     ·rename_i S2 hp
      obtain⟨e,S3,k1,k2,k3⟩:=bB _ _ _ _ _ _ _ h;have:=nr hp;exact⟨e,S3,k1,by omega,WC hg hd hk hp k3⟩
     ·cases h
    ·split at h
     ·rename_i g gs v he hv
      obtain⟨h1,h2⟩:=afm h;split at h2
      ·rename_i S2 hp
       obtain⟨e,S3,k1,k2,k3⟩:=bB _ _ _ _ _ _ _ h2;have:=nr hp;exact⟨e,S3,k1,by omega,RT hg hd he hv h1 hp k3⟩
      ·cases h2
     ·refine acm bB hg hd rfl rfl (λh=>?_) h
      split at h
      ·rename_i k b hk
       cases b with
       |true=>have h:=NK rfl h;obtain⟨e,S3,k1,k2,k3⟩:=bB _ _ _ _ _ _ _ h;exact⟨e,S3,k1,k2,Oh hk k3⟩
       |false=>have h:=NL rfl h;obtain⟨e,S3,k1,k2,k3⟩:=bB _ _ _ _ _ _ _ h;exact⟨e,S3,k1,k2,Oh hk k3⟩
      ·cases h
   ·cases h
 ·split at h
  ·exact⟨_,_,h,Nat.le_refl _,λc ρ J HK X a w Q hr hq=>wpIn_skip (hq.here hr trivial)⟩
  ·exact⟨_,_,h,Nat.le_refl _,λc ρ J HK X a w Q hr hq=>wpIn_label (hq.here hr trivial)⟩
  ·exact⟨_,_,h,Nat.le_refl _,λc ρ J HK X a w Q hr hq=>wpIn_ret (hq.here hr trivial)⟩
  ·exact⟨_,_,h,Nat.le_refl _,λc ρ J HK X a w Q hr hq=>wpIn_exit (hq.here hr rfl)⟩
  ·obtain⟨e,S1,k1,k2,k3⟩:=bB _ _ _ _ _ _ _ h
   exact⟨e,S1,k1,k2,PT k3⟩
  ·exact ach bB h
  ·rename_i i x
   obtain⟨e1,S1,k1,k2,k3⟩:=bB _ _ _ _ _ _ _ h;cases e1 with
   |exit j=>
    dsimp only at k1;cases hb:Nat.beq i j with
    |true=>rw[hb]at k1;have e:=aic hb;exact⟨_,S1,k1,k2,xR k3 (.inl ⟨by rw[e],rfl⟩)⟩
    |false=>rw[hb]at k1;exact⟨_,S1,k1,k2,xR k3 (.inr ⟨rfl,λq=>by cases q;rw[Nat.beq_refl]at hb;cases hb⟩)⟩
   |jl=>exact⟨_,S1,k1,k2,xR k3 (.inr ⟨rfl,by simp⟩)⟩
   |ret=>exact⟨_,S1,k1,k2,xR k3 (.inr ⟨rfl,by simp⟩)⟩
   |vE v=>exact⟨_,S1,k1,k2,xR k3 (.inr ⟨rfl,by simp⟩)⟩
  ·obtain⟨e,S1,k1,k2,k3⟩:=bB _ _ _ _ _ _ _ h
   exact⟨e,S1,k1,k2,RN k3⟩
  ·split at h
   ·rename_i t hx
    cases t with
    |true=>have h:=NK rfl h;obtain⟨e,S1,k1,k2,k3⟩:=bB _ _ _ _ _ _ _ h;exact⟨e,S1,k1,k2,Oi hx k3⟩
    |false=>have h:=NL rfl h;obtain⟨e,S1,k1,k2,k3⟩:=bB _ _ _ _ _ _ _ h;exact⟨e,S1,k1,k2,Oi hx k3⟩
   ·rename_i t hx
    obtain⟨e,S1,k1,k2,k3⟩:=bB _ _ _ _ _ _ _ h;exact⟨e,S1,k1,k2,RU hx k3⟩
   ·cases h
  ·rename_i x y
   split at h
   ·rename_i gl ex _
    split at h
    ·rename_i g _
     cases hb:xx S.nx ((⟨jr (λd=> !(cZ (Ik x) d||ym g.l d)) S.F,cF (λq=> !cZ (PW C S gl++Lb C S ex) q) S.O,S.D⟩:Ly G)::C)with
     |false=>rw[hb]at h;cases h
     |true=>
      rw[hb]at h;have h:=aeH h;obtain⟨e1,S1,k1,k2,k3⟩:=bB _ _ _ _ _ _ _ h;have k2:S.nx<=S1.nx:=k2;cases e1 with
      |jl=>
       dsimp only at k1;split at k1
       ·rename_i e hg
        obtain⟨e2,S2,m1,m2,m3⟩:=bB _ _ _ _ _ _ _ k1;have m2:S.nx+g.nm.length<=S2.nx:=m2;exact⟨e2,S2,m1,by omega,WG rfl hb k3 hg m3⟩
       ·cases k1
      |exit i=>exact⟨_,_,k1,k2,nW (Jq _ _ k3) (by simp)⟩
      |ret=>exact⟨_,_,k1,k2,nW (Jq _ _ k3) (by simp)⟩
      |vE v=>exact⟨_,_,k1,k2,nW (Jq _ _ k3) (by simp)⟩
    ·cases h
   ·exact aaS bB h
  ·rename_i x
   split at h
   ·rename_i gl _
    split at h
    ·cases h
    ·rename_i g _
     have hp:=BL (C:=C) (S:=S) (l:=g.l);refine Xo (g:=g) (λh=>?_) h;clear hp;generalize lR C S g.l=S at h;split at h
     ·rename_i v hv
      split at h
      ·rename_i x0 g' IX
       cases hb:(vW g.nm g'.th&&vX S.nx g.nm)with
       |false=>rw[hb]at h;cases h
       |true=>
        rw[hb]at h;simp only[aid]at hb;simp only[cond_true]at h;cases hc:xx S.nx ((⟨jr (λd=> !(cZ (Ik x) d||ym g.l d)) S.F,g'.O,S.D⟩:Ly G)::C)with
        |false=>rw[hc]at h;cases h
        |true=>rw[hc]at h;obtain⟨e1,S1,k1,k2,k3⟩:=XF (g:=g) bB hc _ _ h;exact⟨e1,_,k1,k2,WE hv IX hb.1 hb.2 rfl hc k3⟩
      ·cases h
     ·cases h
   ·obtain⟨e1,S1,k1,k2,k3⟩:=bB _ _ _ _ _ _ _ h
    exact⟨e1,S1,k1,k2,adQ k3⟩
   ·cases h
  ·split at h
   ·rename_i J7 _
    exact aaW bB J7 h
   ·rename_i J7 _
    exact aaX bB J7 h
   ·cases h
  ·cases h
 ·rename_i x
  obtain⟨e1,S1,k1,k2,k3⟩:=bB _ _ _ _ _ _ _ h;cases e1 with
  |jl=>obtain⟨e2,S2,m1,m2,m3⟩:=bB _ _ _ _ _ _ _ k1;exact⟨e2,S2,m1,Nat.le_trans k2 m2,MJ k3 m3 k2⟩
  |exit i=>exact⟨_,S1,k1,k2,AB k3 (by simp)⟩
  |ret=>exact⟨_,S1,k1,k2,AB k3 (by simp)⟩
  |vE v=>exact⟨_,S1,k1,k2,AB k3 (by simp)⟩
theorem afM:∀n:Nat,o5 P (W (Z:=Z) tb n):=by
 intro n
 induction n with
 |zero=>intro N cp C cf S K z h;cases h
 |succ n ih=>exact WO ih
end Go.Rw
namespace Go.Proofs.Z
open Go Go.Bw Go.Rw Go.RowKit
structure iP where
 Do:Int
 I:Int
 V:Int
abbrev qE:cP iP:=cP.via (LP (LI .u8) (LP (LI .i64) (LI .u64))) (λx=>(x.Do,x.I,x.V))
abbrev ua:iP:=⟨0,0,0⟩
def Bi:List Value:=[.int .u8 0]++([.int .i64 0]++([.int .u64 0]))
theorem Jh{A:World->Prop}:qE.fk A Bi ua:=⟨_,_,rfl,rfl,⟨_,_,rfl,rfl,rfl⟩⟩
theorem Hr:aU qE (LI .u8) 0 (λx=>x.Do) (λx v=>{x with Do:=v}):=(aU.fst aU.id).via _ _ _ 0 rfl (λ_ =>rfl) (λ_ _ =>rfl)
theorem Ih:aU qE (LI .i64) 1 (λx=>x.I) (λx v=>{x with I:=v}):=(aU.snd (aU.fst aU.id)).via _ _ _ 1 rfl (λ_ =>rfl) (λ_ _ =>rfl)
theorem Ig:aU qE (LI .u64) 2 (λx=>x.V) (λx v=>{x with V:=v}):=(aU.snd (aU.snd aU.id)).via _ _ _ 2 rfl (λ_ =>rfl) (λ_ _ =>rfl)
structure ig where
 L:(List Int)
 Mi:Int
abbrev rS:cP ig:=cP.via (LP (@VT Int ⟨0⟩ (LI .u64)) (LI .i64)) (λx=>(x.L,x.Mi))
abbrev oZ:ig:=⟨[],0⟩
def zX:List Value:=[.slice none 0 0]++([.int .i64 0])
theorem HG{A:World->Prop}:rS.fk A zX oZ:=⟨_,_,rfl,⟨_,_,rfl,Bd.nil⟩,rfl⟩
theorem He:aU rS (@VT Int ⟨0⟩ (LI .u64)) 0 (λx=>x.L) (λx v=>{x with L:=v}):=(aU.fst aU.id).via _ _ _ 0 rfl (λ_ =>rfl) (λ_ _ =>rfl)
theorem A7:aU rS (LI .i64) 1 (λx=>x.Mi) (λx v=>{x with Mi:=v}):=(aU.snd aU.id).via _ _ _ 1 rfl (λ_ =>rfl) (λ_ _ =>rfl)
structure ah where
 E:Int
 V:Int
 W:Int
abbrev cY:cP ah:=cP.via (LP (LI .i64) (LP (LI .u64) (LI .u32))) (λx=>(x.E,x.V,x.W))
abbrev ay:ah:=⟨0,0,0⟩
instance:Inhabited ah:=⟨ay⟩
def iL:List Value:=[.int .i64 0]++([.int .u64 0]++([.int .u32 0]))
theorem wC{A:World->Prop}:cY.fk A iL ay:=⟨_,_,rfl,rfl,⟨_,_,rfl,rfl,rfl⟩⟩
theorem DT:aU cY (LI .i64) 0 (λx=>x.E) (λx v=>{x with E:=v}):=(aU.fst aU.id).via _ _ _ 0 rfl (λ_ =>rfl) (λ_ _ =>rfl)
theorem DQ:aU cY (LI .u64) 1 (λx=>x.V) (λx v=>{x with V:=v}):=(aU.snd (aU.fst aU.id)).via _ _ _ 1 rfl (λ_ =>rfl) (λ_ _ =>rfl)
theorem DP:aU cY (LI .u32) 2 (λx=>x.W) (λx v=>{x with W:=v}):=(aU.snd (aU.snd aU.id)).via _ _ _ 2 rfl (λ_ =>rfl) (λ_ _ =>rfl)
structure aC where
 Do:Int
 R:Int
 S:Int
 A:Int
 B:Int
 V:Int
abbrev gk:cP aC:=cP.via (LP (LI .u8) (LP (LI .u32) (LP (LI .u32) (LP (LI .u32) (LP (LI .u32) (LI .u64)))))) (λx=>(x.Do,x.R,x.S,x.A,x.B,x.V))
abbrev eC:aC:=⟨0,0,0,0,0,0⟩
def kP:List Value:=[.int .u8 0]++([.int .u32 0]++([.int .u32 0]++([.int .u32 0]++([.int .u32 0]++([.int .u64 0])))))
theorem ug{A:World->Prop}:gk.fk A kP eC:=⟨_,_,rfl,rfl,⟨_,_,rfl,rfl,⟨_,_,rfl,rfl,⟨_,_,rfl,rfl,⟨_,_,rfl,rfl,rfl⟩⟩⟩⟩⟩
theorem EO:aU gk (LI .u8) 0 (λx=>x.Do) (λx v=>{x with Do:=v}):=(aU.fst aU.id).via _ _ _ 0 rfl (λ_ =>rfl) (λ_ _ =>rfl)
theorem Hl:aU gk (LI .u32) 1 (λx=>x.R) (λx v=>{x with R:=v}):=(aU.snd (aU.fst aU.id)).via _ _ _ 1 rfl (λ_ =>rfl) (λ_ _ =>rfl)
theorem Hj:aU gk (LI .u32) 2 (λx=>x.S) (λx v=>{x with S:=v}):=(aU.snd (aU.snd (aU.fst aU.id))).via _ _ _ 2 rfl (λ_ =>rfl) (λ_ _ =>rfl)
theorem Hq:aU gk (LI .u32) 3 (λx=>x.A) (λx v=>{x with A:=v}):=(aU.snd (aU.snd (aU.snd (aU.fst aU.id)))).via _ _ _ 3 rfl (λ_ =>rfl) (λ_ _ =>rfl)
theorem Hp:aU gk (LI .u32) 4 (λx=>x.B) (λx v=>{x with B:=v}):=(aU.snd (aU.snd (aU.snd (aU.snd (aU.fst aU.id))))).via _ _ _ 4 rfl (λ_ =>rfl) (λ_ _ =>rfl)
theorem Hi:aU gk (LI .u64) 5 (λx=>x.V) (λx v=>{x with V:=v}):=(aU.snd (aU.snd (aU.snd (aU.snd (aU.snd aU.id))))).via _ _ _ 5 rfl (λ_ =>rfl) (λ_ _ =>rfl)
structure au where
 At:Int
 N:Int
abbrev bG:cP au:=cP.via (LP (LI .i64) (LI .i64)) (λx=>(x.At,x.N))
abbrev aA:au:=⟨0,0⟩
instance:Inhabited au:=⟨aA⟩
def nU:List Value:=[.int .i64 0]++([.int .i64 0])
theorem xD{A:World->Prop}:bG.fk A nU aA:=⟨_,_,rfl,rfl,rfl⟩
theorem Ib:aU bG (LI .i64) 0 (λx=>x.At) (λx v=>{x with At:=v}):=(aU.fst aU.id).via _ _ _ 0 rfl (λ_ =>rfl) (λ_ _ =>rfl)
theorem KC:aU bG (LI .i64) 1 (λx=>x.N) (λx v=>{x with N:=v}):=(aU.snd aU.id).via _ _ _ 1 rfl (λ_ =>rfl) (λ_ _ =>rfl)
structure aD where
 aK:(List au)
 eY:Int
abbrev iQ:cP aD:=cP.via (LP (@VT au ⟨aA⟩ bG) (LI .i64)) (λx=>(x.aK,x.eY))
abbrev cB:aD:=⟨[],0⟩
instance:Inhabited aD:=⟨cB⟩
def gV:List Value:=[.slice none 0 0]++([.int .i64 0])
theorem mw{A:World->Prop}:iQ.fk A gV cB:=⟨_,_,rfl,⟨_,_,rfl,Bd.nil⟩,rfl⟩
theorem yW:aU iQ (@VT au ⟨aA⟩ bG) 0 (λx=>x.aK) (λx v=>{x with aK:=v}):=(aU.fst aU.id).via _ _ _ 0 rfl (λ_ =>rfl) (λ_ _ =>rfl)
theorem zQ:aU iQ (LI .i64) 1 (λx=>x.eY) (λx v=>{x with eY:=v}):=(aU.snd aU.id).via _ _ _ 1 rfl (λ_ =>rfl) (λ_ _ =>rfl)
structure aN where
 Up:Int
 fU:Int
 E:aD
 qG:(Nat->Int)
abbrev gA:cP aN:=cP.via (LP (LI .u32) (LP (LI .i64) (LP iQ (LA (LI .u32) 8)))) (λx=>(x.Up,x.fU,x.E,x.qG))
abbrev iw:aN:=⟨0,0,cB,(λ_ =>0)⟩
instance:Inhabited aN:=⟨iw⟩
def qL:List Value:=[.int .u32 0]++([.int .i64 0]++(gV++((flat (λ_ =>[.int .u32 0]) 8))))
theorem wB{A:World->Prop}:gA.fk A qL iw:=⟨_,_,rfl,rfl,⟨_,_,rfl,rfl,⟨_,_,rfl,mw,⟨_,rfl,λ_ _ =>rfl⟩⟩⟩⟩
theorem Cq:aU gA (LI .u32) 0 (λx=>x.Up) (λx v=>{x with Up:=v}):=(aU.fst aU.id).via _ _ _ 0 rfl (λ_ =>rfl) (λ_ _ =>rfl)
theorem yT:aU gA (LI .i64) 1 (λx=>x.fU) (λx v=>{x with fU:=v}):=(aU.snd (aU.fst aU.id)).via _ _ _ 1 rfl (λ_ =>rfl) (λ_ _ =>rfl)
theorem DM:aU gA iQ 2 (λx=>x.E) (λx v=>{x with E:=v}):=(aU.snd (aU.snd (aU.fst aU.id))).via _ _ _ 2 rfl (λ_ =>rfl) (λ_ _ =>rfl)
theorem yU:aU gA (LA (LI .u32) 8) 4 (λx=>x.qG) (λx v=>{x with qG:=v}):=(aU.snd (aU.snd (aU.snd aU.id))).via _ _ _ 4 rfl (λ_ =>rfl) (λ_ _ =>rfl)
structure dw where
 gen:Int
 kx:Bool
 j9:Bool
abbrev bV:cP dw:=cP.via (LP (LI .u32) (LP LB LB)) (λx=>(x.gen,x.kx,x.j9))
abbrev ju:dw:=⟨0,false,false⟩
def sq:List Value:=[.int .u32 0]++([.bool false]++([.bool false]))
theorem xE{A:World->Prop}:bV.fk A sq ju:=⟨_,_,rfl,rfl,⟨_,_,rfl,rfl,rfl⟩⟩
theorem jj:aU bV (LI .u32) 0 (λx=>x.gen) (λx v=>{x with gen:=v}):=(aU.fst aU.id).via _ _ _ 0 rfl (λ_ =>rfl) (λ_ _ =>rfl)
theorem l9:aU bV LB 1 (λx=>x.kx) (λx v=>{x with kx:=v}):=(aU.snd (aU.fst aU.id)).via _ _ _ 1 rfl (λ_ =>rfl) (λ_ _ =>rfl)
theorem pF:aU bV LB 2 (λx=>x.j9) (λx v=>{x with j9:=v}):=(aU.snd (aU.snd aU.id)).via _ _ _ 2 rfl (λ_ =>rfl) (λ_ _ =>rfl)
structure bQ where
 bp:(Nat->dw)
abbrev aM:cP bQ:=cP.via (LA bV 32) (λx=>x.bp)
abbrev gU:bQ:=⟨(λ_ =>ju)⟩
instance:Inhabited bQ:=⟨gU⟩
def oo:List Value:=(flat (λ_ =>sq) 32)
theorem r9{A:World->Prop}:aM.fk A oo gU:=⟨_,rfl,λ_ _ =>xE⟩
theorem dy:aU aM (LA bV 32) 0 (λx=>x.bp) (λx v=>{x with bp:=v}):=aU.id.via _ _ _ 0 rfl (λ_ =>rfl) (λ_ _ =>rfl)
structure lI where
 kO:bQ
abbrev o8:cP lI:=cP.via aM (λx=>x.kO)
abbrev wk:lI:=⟨gU⟩
def zW:List Value:=oo
theorem HF{A:World->Prop}:o8.fk A zW wk:=r9
theorem Cp:aU o8 aM 0 (λx=>x.kO) (λx v=>{x with kO:=v}):=aU.id.via _ _ _ 0 rfl (λ_ =>rfl) (λ_ _ =>rfl)
structure ax where
 fB:lI
 aT:(Nat->aN)
abbrev kS:cP ax:=cP.via (LP o8 (LA gA 32)) (λx=>(x.fB,x.aT))
abbrev dV:ax:=⟨wk,(λ_ =>iw)⟩
instance:Inhabited ax:=⟨dV⟩
def so:List Value:=zW++((flat (λ_ =>qL) 32))
theorem xC{A:World->Prop}:kS.fk A so dV:=⟨_,_,rfl,HF,⟨_,rfl,λ_ _ =>wB⟩⟩
theorem A6:aU kS o8 0 (λx=>x.fB) (λx v=>{x with fB:=v}):=(aU.fst aU.id).via _ _ _ 0 rfl (λ_ =>rfl) (λ_ _ =>rfl)
theorem xp:aU kS (LA gA 32) 96 (λx=>x.aT) (λx v=>{x with aT:=v}):=(aU.snd aU.id).via _ _ _ 96 rfl (λ_ =>rfl) (λ_ _ =>rfl)
structure fA where
 xu:Int
 jS:Int
 jk:Int
abbrev pV:cP fA:=cP.via (LP (LI .u8) (LP (LI .u8) (LI .u8))) (λx=>(x.xu,x.jS,x.jk))
abbrev rZ:fA:=⟨0,0,0⟩
instance:Inhabited fA:=⟨rZ⟩
def Ao:List Value:=[.int .u8 0]++([.int .u8 0]++([.int .u8 0]))
theorem Fu{A:World->Prop}:pV.fk A Ao rZ:=⟨_,_,rfl,rfl,⟨_,_,rfl,rfl,rfl⟩⟩
theorem Hh:aU pV (LI .u8) 0 (λx=>x.xu) (λx v=>{x with xu:=v}):=(aU.fst aU.id).via _ _ _ 0 rfl (λ_ =>rfl) (λ_ _ =>rfl)
theorem Hg:aU pV (LI .u8) 1 (λx=>x.jS) (λx v=>{x with jS:=v}):=(aU.snd (aU.fst aU.id)).via _ _ _ 1 rfl (λ_ =>rfl) (λ_ _ =>rfl)
theorem Cs:aU pV (LI .u8) 2 (λx=>x.jk) (λx v=>{x with jk:=v}):=(aU.snd (aU.snd aU.id)).via _ _ _ 2 rfl (λ_ =>rfl) (λ_ _ =>rfl)
structure lV where
 root:Int
 own:fA
abbrev pU:cP lV:=cP.via (LP (LI .u32) pV) (λx=>(x.root,x.own))
abbrev pP:lV:=⟨0,rZ⟩
def xF:List Value:=[.int .u32 0]++(Ao)
theorem DX{A:World->Prop}:pU.fk A xF pP:=⟨_,_,rfl,rfl,Fu⟩
theorem EN:aU pU (LI .u32) 0 (λx=>x.root) (λx v=>{x with root:=v}):=(aU.fst aU.id).via _ _ _ 0 rfl (λ_ =>rfl) (λ_ _ =>rfl)
theorem Hf:aU pU pV 1 (λx=>x.own) (λx v=>{x with own:=v}):=(aU.snd aU.id).via _ _ _ 1 rfl (λ_ =>rfl) (λ_ _ =>rfl)
structure dh where
 bp:(Nat->lV)
abbrev tn:cP dh:=cP.via (LA pU 32) (λx=>x.bp)
abbrev pQ:dh:=⟨(λ_ =>pP)⟩
instance:Inhabited dh:=⟨pQ⟩
def xG:List Value:=(flat (λ_ =>xF) 32)
theorem DY{A:World->Prop}:tn.fk A xG pQ:=⟨_,rfl,λ_ _ =>DX⟩
theorem DO:aU tn (LA pU 32) 0 (λx=>x.bp) (λx v=>{x with bp:=v}):=aU.id.via _ _ _ 0 rfl (λ_ =>rfl) (λ_ _ =>rfl)
structure bw where
 Region:Int
 By:Int
 To:Int
 mI:Bool
 uf:Int
abbrev bq:cP bw:=cP.via (LP (LI .u32) (LP (LI .u8) (LP (LI .u8) (LP LB (LI .u32))))) (λx=>(x.Region,x.By,x.To,x.mI,x.uf))
abbrev gT:bw:=⟨0,0,0,false,0⟩
instance:Inhabited bw:=⟨gT⟩
def se:List Value:=[.int .u32 0]++([.int .u8 0]++([.int .u8 0]++([.bool false]++([.int .u32 0]))))
theorem xB{A:World->Prop}:bq.fk A se gT:=⟨_,_,rfl,rfl,⟨_,_,rfl,rfl,⟨_,_,rfl,rfl,⟨_,_,rfl,rfl,rfl⟩⟩⟩⟩
theorem yS:aU bq (LI .u32) 0 (λx=>x.Region) (λx v=>{x with Region:=v}):=(aU.fst aU.id).via _ _ _ 0 rfl (λ_ =>rfl) (λ_ _ =>rfl)
theorem DL:aU bq (LI .u8) 1 (λx=>x.By) (λx v=>{x with By:=v}):=(aU.snd (aU.fst aU.id)).via _ _ _ 1 rfl (λ_ =>rfl) (λ_ _ =>rfl)
theorem DK:aU bq (LI .u8) 2 (λx=>x.To) (λx v=>{x with To:=v}):=(aU.snd (aU.snd (aU.fst aU.id))).via _ _ _ 2 rfl (λ_ =>rfl) (λ_ _ =>rfl)
theorem xo:aU bq LB 3 (λx=>x.mI) (λx v=>{x with mI:=v}):=(aU.snd (aU.snd (aU.snd (aU.fst aU.id)))).via _ _ _ 3 rfl (λ_ =>rfl) (λ_ _ =>rfl)
theorem rA:aU bq (LI .u32) 4 (λx=>x.uf) (λx v=>{x with uf:=v}):=(aU.snd (aU.snd (aU.snd (aU.snd aU.id)))).via _ _ _ 4 rfl (λ_ =>rfl) (λ_ _ =>rfl)
structure aS where
 fB:bQ
 bp:(Nat->bw)
abbrev az:cP aS:=cP.via (LP aM (LA bq 16)) (λx=>(x.fB,x.bp))
abbrev dB:aS:=⟨gU,(λ_ =>gT)⟩
instance:Inhabited aS:=⟨dB⟩
def qK:List Value:=oo++((flat (λ_ =>se) 16))
theorem wA{A:World->Prop}:az.fk A qK dB:=⟨_,_,rfl,r9,⟨_,rfl,λ_ _ =>xB⟩⟩
theorem eI:aU az aM 0 (λx=>x.fB) (λx v=>{x with fB:=v}):=(aU.fst aU.id).via _ _ _ 0 rfl (λ_ =>rfl) (λ_ _ =>rfl)
theorem qA:aU az (LA bq 16) 96 (λx=>x.bp) (λx v=>{x with bp:=v}):=(aU.snd aU.id).via _ _ _ 96 rfl (λ_ =>rfl) (λ_ _ =>rfl)
structure bX where
 T:ax
 O:dh
 K:aS
abbrev fb:cP bX:=cP.via (LP kS (LP tn az)) (λx=>(x.T,x.O,x.K))
abbrev wm:bX:=⟨dV,pQ,dB⟩
def zY:List Value:=so++(xG++(qK))
theorem HH{A:World->Prop}:fb.fk A zY wm:=⟨_,_,rfl,xC,⟨_,_,rfl,DY,wA⟩⟩
theorem Ht:aU fb kS 0 (λx=>x.T) (λx v=>{x with T:=v}):=(aU.fst aU.id).via _ _ _ 0 rfl (λ_ =>rfl) (λ_ _ =>rfl)
theorem Hu:aU fb tn 480 (λx=>x.O) (λx v=>{x with O:=v}):=(aU.snd (aU.fst aU.id)).via _ _ _ 480 rfl (λ_ =>rfl) (λ_ _ =>rfl)
theorem Hv:aU fb az 608 (λx=>x.K) (λx v=>{x with K:=v}):=(aU.snd (aU.snd aU.id)).via _ _ _ 608 rfl (λ_ =>rfl) (λ_ _ =>rfl)
structure aQ where
 Hw:Int
 H7:Int
 Region:Int
 yP:Bool
abbrev eX:cP aQ:=cP.via (LP (LI .u8) (LP (LI .u64) (LP (LI .u32) LB))) (λx=>(x.Hw,x.H7,x.Region,x.yP))
abbrev iy:aQ:=⟨0,0,0,false⟩
instance:Inhabited aQ:=⟨iy⟩
def qM:List Value:=[.int .u8 0]++([.int .u64 0]++([.int .u32 0]++([.bool false])))
theorem wD{A:World->Prop}:eX.fk A qM iy:=⟨_,_,rfl,rfl,⟨_,_,rfl,rfl,⟨_,_,rfl,rfl,rfl⟩⟩⟩
theorem zP:aU eX (LI .u8) 0 (λx=>x.Hw) (λx v=>{x with Hw:=v}):=(aU.fst aU.id).via _ _ _ 0 rfl (λ_ =>rfl) (λ_ _ =>rfl)
theorem zO:aU eX (LI .u64) 1 (λx=>x.H7) (λx v=>{x with H7:=v}):=(aU.snd (aU.fst aU.id)).via _ _ _ 1 rfl (λ_ =>rfl) (λ_ _ =>rfl)
theorem xq:aU eX (LI .u32) 2 (λx=>x.Region) (λx v=>{x with Region:=v}):=(aU.snd (aU.snd (aU.fst aU.id))).via _ _ _ 2 rfl (λ_ =>rfl) (λ_ _ =>rfl)
theorem yV:aU eX LB 3 (λx=>x.yP) (λx v=>{x with yP:=v}):=(aU.snd (aU.snd (aU.snd aU.id))).via _ _ _ 3 rfl (λ_ =>rfl) (λ_ _ =>rfl)
structure cm where
 ring:(Nat->aQ)
 wW:Int
 n:Int
 closed:Bool
abbrev mh:cP cm:=cP.via (LP (LA eX 4) (LP (LI .i64) (LP (LI .i64) LB))) (λx=>(x.ring,x.wW,x.n,x.closed))
abbrev pR:cm:=⟨(λ_ =>iy),0,0,false⟩
instance:Inhabited cm:=⟨pR⟩
def xH:List Value:=(flat (λ_ =>qM) 4)++([.int .i64 0]++([.int .i64 0]++([.bool false])))
theorem DZ{A:World->Prop}:mh.fk A xH pR:=⟨_,_,rfl,⟨_,rfl,λ_ _ =>wD⟩,⟨_,_,rfl,rfl,⟨_,_,rfl,rfl,rfl⟩⟩⟩
theorem ER:aU mh (LA eX 4) 0 (λx=>x.ring) (λx v=>{x with ring:=v}):=(aU.fst aU.id).via _ _ _ 0 rfl (λ_ =>rfl) (λ_ _ =>rfl)
theorem DV:aU mh (LI .i64) 16 (λx=>x.wW) (λx v=>{x with wW:=v}):=(aU.snd (aU.fst aU.id)).via _ _ _ 16 rfl (λ_ =>rfl) (λ_ _ =>rfl)
theorem KD:aU mh (LI .i64) 17 (λx=>x.n) (λx v=>{x with n:=v}):=(aU.snd (aU.snd (aU.fst aU.id))).via _ _ _ 17 rfl (λ_ =>rfl) (λ_ _ =>rfl)
theorem Cv:aU mh LB 18 (λx=>x.closed) (λx v=>{x with closed:=v}):=(aU.snd (aU.snd (aU.snd aU.id))).via _ _ _ 18 rfl (λ_ =>rfl) (λ_ _ =>rfl)
structure ae where
 dx:bX
 kN:(Nat->cm)
 mj:(Nat->Bool)
 EV:(Nat->Bool)
abbrev kT:cP ae:=cP.via (LP fb (LP (LA mh 8) (LP (LA LB 8) (LA LB 8)))) (λx=>(x.dx,x.kN,x.mj,x.EV))
abbrev cO:ae:=⟨wm,(λ_ =>pR),(λ_ =>false),(λ_ =>false)⟩
instance:Inhabited ae:=⟨cO⟩
def gp:List Value:=zY++((flat (λ_ =>xH) 8)++((flat (λ_ =>[.bool false]) 8)++((flat (λ_ =>[.bool false]) 8))))
theorem r8{A:World->Prop}:kT.fk A gp cO:=⟨_,_,rfl,HH,⟨_,_,rfl,⟨_,rfl,λ_ _ =>DZ⟩,⟨_,_,rfl,⟨_,rfl,λ_ _ =>rfl⟩,⟨_,rfl,λ_ _ =>rfl⟩⟩⟩⟩
theorem Cu:aU kT fb 0 (λx=>x.dx) (λx v=>{x with dx:=v}):=(aU.fst aU.id).via _ _ _ 0 rfl (λ_ =>rfl) (λ_ _ =>rfl)
theorem zM:aU kT (LA mh 8) 784 (λx=>x.kN) (λx v=>{x with kN:=v}):=(aU.snd (aU.fst aU.id)).via _ _ _ 784 rfl (λ_ =>rfl) (λ_ _ =>rfl)
theorem zN:aU kT (LA LB 8) 936 (λx=>x.mj) (λx v=>{x with mj:=v}):=(aU.snd (aU.snd (aU.fst aU.id))).via _ _ _ 936 rfl (λ_ =>rfl) (λ_ _ =>rfl)
theorem A8:aU kT (LA LB 8) 944 (λx=>x.EV) (λx v=>{x with EV:=v}):=(aU.snd (aU.snd (aU.snd aU.id))).via _ _ _ 944 rfl (λ_ =>rfl) (λ_ _ =>rfl)
structure cj where
 EE:Int
 n:Int
 Eo:(Nat->Int)
abbrev mg:cP cj:=cP.via (LP (LI .u8) (LP (LI .i64) (LA (LI .u8) 8))) (λx=>(x.EE,x.n,x.Eo))
abbrev n7:cj:=⟨0,0,(λ_ =>0)⟩
instance:Inhabited cj:=⟨n7⟩
def vG:List Value:=[.int .u8 0]++([.int .i64 0]++((flat (λ_ =>[.int .u8 0]) 8)))
theorem Bf{A:World->Prop}:mg.fk A vG n7:=⟨_,_,rfl,rfl,⟨_,_,rfl,rfl,⟨_,rfl,λ_ _ =>rfl⟩⟩⟩
theorem EP:aU mg (LI .u8) 0 (λx=>x.EE) (λx v=>{x with EE:=v}):=(aU.fst aU.id).via _ _ _ 0 rfl (λ_ =>rfl) (λ_ _ =>rfl)
theorem Ie:aU mg (LI .i64) 1 (λx=>x.n) (λx v=>{x with n:=v}):=(aU.snd (aU.fst aU.id)).via _ _ _ 1 rfl (λ_ =>rfl) (λ_ _ =>rfl)
theorem DU:aU mg (LA (LI .u8) 8) 2 (λx=>x.Eo) (λx v=>{x with Eo:=v}):=(aU.snd (aU.snd aU.id)).via _ _ _ 2 rfl (λ_ =>rfl) (λ_ _ =>rfl)
structure ai where
 bp:(Nat->cj)
abbrev wz:cP ai:=cP.via (LA mg 32) (λx=>x.bp)
abbrev bn:ai:=⟨(λ_ =>n7)⟩
instance:Inhabited ai:=⟨bn⟩
def mV:List Value:=(flat (λ_ =>vG) 32)
theorem zU{A:World->Prop}:wz.fk A mV bn:=⟨_,rfl,λ_ _ =>Bf⟩
theorem A9:aU wz (LA mg 32) 0 (λx=>x.bp) (λx v=>{x with bp:=v}):=aU.id.via _ _ _ 0 rfl (λ_ =>rfl) (λ_ _ =>rfl)
structure aF where
 jS:Int
 C:aC
 Checked:Bool
 ei:(List Int)
 xA:au
 pZ:Int
abbrev jX:cP aF:=cP.via (LP (LI .i64) (LP gk (LP LB (LP (@VT Int ⟨0⟩ (LI .u32)) (LP bG (LI .i64)))))) (λx=>(x.jS,x.C,x.Checked,x.ei,x.xA,x.pZ))
abbrev jW:aF:=⟨0,eC,false,[],aA,0⟩
instance:Inhabited aF:=⟨jW⟩
def oq:List Value:=[.int .i64 0]++(kP++([.bool false]++([.slice none 0 0]++(nU++([.int .i64 0])))))
theorem Bg{A:World->Prop}:jX.fk A oq jW:=⟨_,_,rfl,rfl,⟨_,_,rfl,ug,⟨_,_,rfl,rfl,⟨_,_,rfl,⟨_,_,rfl,Bd.nil⟩,⟨_,_,rfl,xD,rfl⟩⟩⟩⟩⟩
theorem DW:aU jX (LI .i64) 0 (λx=>x.jS) (λx v=>{x with jS:=v}):=(aU.fst aU.id).via _ _ _ 0 rfl (λ_ =>rfl) (λ_ _ =>rfl)
theorem Ii:aU jX gk 1 (λx=>x.C) (λx v=>{x with C:=v}):=(aU.snd (aU.fst aU.id)).via _ _ _ 1 rfl (λ_ =>rfl) (λ_ _ =>rfl)
theorem zT:aU jX LB 7 (λx=>x.Checked) (λx v=>{x with Checked:=v}):=(aU.snd (aU.snd (aU.fst aU.id))).via _ _ _ 7 rfl (λ_ =>rfl) (λ_ _ =>rfl)
theorem zR:aU jX (@VT Int ⟨0⟩ (LI .u32)) 8 (λx=>x.ei) (λx v=>{x with ei:=v}):=(aU.snd (aU.snd (aU.snd (aU.fst aU.id)))).via _ _ _ 8 rfl (λ_ =>rfl) (λ_ _ =>rfl)
theorem ES:aU jX bG 9 (λx=>x.xA) (λx v=>{x with xA:=v}):=(aU.snd (aU.snd (aU.snd (aU.snd (aU.fst aU.id))))).via _ _ _ 9 rfl (λ_ =>rfl) (λ_ _ =>rfl)
theorem zS:aU jX (LI .i64) 11 (λx=>x.pZ) (λx v=>{x with pZ:=v}):=(aU.snd (aU.snd (aU.snd (aU.snd (aU.snd aU.id))))).via _ _ _ 11 rfl (λ_ =>rfl) (λ_ _ =>rfl)
structure bg where
 l:(List au)
abbrev qC:cP bg:=cP.via (@VT au ⟨aA⟩ bG) (λx=>x.l)
abbrev jU:bg:=⟨[]⟩
instance:Inhabited bg:=⟨jU⟩
def vF:List Value:=[.slice none 0 0]
theorem Be{A:World->Prop}:qC.fk A vF jU:=⟨_,_,rfl,Bd.nil⟩
theorem Ia:aU qC (@VT au ⟨aA⟩ bG) 0 (λx=>x.l) (λx v=>{x with l:=v}):=aU.id.via _ _ _ 0 rfl (λ_ =>rfl) (λ_ _ =>rfl)
structure aj where
 n:Int
 dF:bg
 bytes:(Nat->(Nat->Int))
abbrev qD:cP aj:=cP.via (LP (LI .i64) (LP qC (LA (LA (LI .u8) 32) 64))) (λx=>(x.n,x.dF,x.bytes))
abbrev jV:aj:=⟨0,jU,(λ_ =>(λ_ =>0))⟩
instance:Inhabited aj:=⟨jV⟩
def Bh:List Value:=[.int .i64 0]++(vF++((flat (λ_ =>(flat (λ_ =>[.int .u8 0]) 32)) 64)))
theorem Jg{A:World->Prop}:qD.fk A Bh jV:=⟨_,_,rfl,rfl,⟨_,_,rfl,Be,⟨_,rfl,λ_ _ =>⟨_,rfl,λ_ _ =>rfl⟩⟩⟩⟩
theorem Ic:aU qD (LI .i64) 0 (λx=>x.n) (λx v=>{x with n:=v}):=(aU.fst aU.id).via _ _ _ 0 rfl (λ_ =>rfl) (λ_ _ =>rfl)
theorem DN:aU qD qC 1 (λx=>x.dF) (λx v=>{x with dF:=v}):=(aU.snd (aU.fst aU.id)).via _ _ _ 1 rfl (λ_ =>rfl) (λ_ _ =>rfl)
theorem Cr:aU qD (LA (LA (LI .u8) 32) 64) 2 (λx=>x.bytes) (λx v=>{x with bytes:=v}):=(aU.snd (aU.snd aU.id)).via _ _ _ 2 rfl (λ_ =>rfl) (λ_ _ =>rfl)
structure ak where
 aG:ae
 fJ:Int
 c:aC
 run:au
 kL:Int
 yI:Bool
 fC:(List au)
abbrev G4:ak:=⟨cO,0,eC,aA,0,false,[]⟩
instance:Inhabited ak:=⟨G4⟩
structure Bu where
 A:Type
 z:A
 L:cP A
def bu:List Bu:=[⟨iP,ua,qE⟩,⟨ig,oZ,rS⟩,⟨ah,ay,cY⟩,⟨aC,eC,gk⟩,⟨au,aA,bG⟩,⟨aD,cB,iQ⟩,⟨aN,iw,gA⟩,⟨dw,ju,bV⟩,⟨bQ,gU,aM⟩,⟨lI,wk,o8⟩,⟨ax,dV,kS⟩,⟨fA,rZ,pV⟩,⟨lV,pP,pU⟩,⟨dh,pQ,tn⟩,⟨bw,gT,bq⟩,⟨aS,dB,az⟩,⟨bX,wm,fb⟩,⟨aQ,iy,eX⟩,⟨cm,pR,mh⟩,⟨ae,cO,kT⟩,⟨cj,n7,mg⟩,⟨ai,bn,wz⟩,⟨aF,jW,jX⟩,⟨bg,jU,qC⟩,⟨aj,jV,qD⟩]
def b0:Bu:=⟨Bool,false,LB⟩
def nth:List Bu->Nat->Bu
 |[],_ =>b0
 |b::r,i=>match i with
  |0=>b
  |i+1=>nth r i
def sg:Sg:=⟨λi=>(nth bu i).A,λi=>(nth bu i).z,λi=>(nth bu i).L,some (.u8,[(1,177),(2,178),(3,179),(4,180),(5,181),(6,182),(7,183),(8,184),(9,185),(10,186),(11,187),(12,188),(13,189),(14,190),(15,191),(16,191),(17,192),(18,193),(19,194),(20,195),(21,196),(22,197)])⟩
def fds:N8 sg
 |0=>[⟨(.int .u8),0,λ(x:iP)=>x.Do,λ(x:iP) v=>({x with Do:=v}:iP),Hr⟩,⟨(.int .i64),1,λ(x:iP)=>x.I,λ(x:iP) v=>({x with I:=v}:iP),Ih⟩,⟨(.int .u64),2,λ(x:iP)=>x.V,λ(x:iP) v=>({x with V:=v}:iP),Ig⟩]
 |1=>[⟨(.sl (.int .u64)),0,λ(x:ig)=>x.L,λ(x:ig) v=>({x with L:=v}:ig),He⟩,⟨(.int .i64),1,λ(x:ig)=>x.Mi,λ(x:ig) v=>({x with Mi:=v}:ig),A7⟩]
 |2=>[⟨(.int .i64),0,λ(x:ah)=>x.E,λ(x:ah) v=>({x with E:=v}:ah),DT⟩,⟨(.int .u64),1,λ(x:ah)=>x.V,λ(x:ah) v=>({x with V:=v}:ah),DQ⟩,⟨(.int .u32),2,λ(x:ah)=>x.W,λ(x:ah) v=>({x with W:=v}:ah),DP⟩]
 |3=>[⟨(.int .u8),0,λ(x:aC)=>x.Do,λ(x:aC) v=>({x with Do:=v}:aC),EO⟩,⟨(.int .u32),1,λ(x:aC)=>x.R,λ(x:aC) v=>({x with R:=v}:aC),Hl⟩,⟨(.int .u32),2,λ(x:aC)=>x.S,λ(x:aC) v=>({x with S:=v}:aC),Hj⟩,⟨(.int .u32),3,λ(x:aC)=>x.A,λ(x:aC) v=>({x with A:=v}:aC),Hq⟩,⟨(.int .u32),4,λ(x:aC)=>x.B,λ(x:aC) v=>({x with B:=v}:aC),Hp⟩,⟨(.int .u64),5,λ(x:aC)=>x.V,λ(x:aC) v=>({x with V:=v}:aC),Hi⟩]
 |4=>[⟨(.int .i64),0,λ(x:au)=>x.At,λ(x:au) v=>({x with At:=v}:au),Ib⟩,⟨(.int .i64),1,λ(x:au)=>x.N,λ(x:au) v=>({x with N:=v}:au),KC⟩]
 |5=>[⟨(.sl (.st 4)),0,λ(x:aD)=>x.aK,λ(x:aD) v=>({x with aK:=v}:aD),yW⟩,⟨(.int .i64),1,λ(x:aD)=>x.eY,λ(x:aD) v=>({x with eY:=v}:aD),zQ⟩]
 |6=>[⟨(.int .u32),0,λ(x:aN)=>x.Up,λ(x:aN) v=>({x with Up:=v}:aN),Cq⟩,⟨(.int .i64),1,λ(x:aN)=>x.fU,λ(x:aN) v=>({x with fU:=v}:aN),yT⟩,⟨(.st 5),2,λ(x:aN)=>x.E,λ(x:aN) v=>({x with E:=v}:aN),DM⟩,⟨(.lD 8 (.int .u32)),4,λ(x:aN)=>x.qG,λ(x:aN) v=>({x with qG:=v}:aN),yU⟩]
 |7=>[⟨(.int .u32),0,λ(x:dw)=>x.gen,λ(x:dw) v=>({x with gen:=v}:dw),jj⟩,⟨.bool,1,λ(x:dw)=>x.kx,λ(x:dw) v=>({x with kx:=v}:dw),l9⟩,⟨.bool,2,λ(x:dw)=>x.j9,λ(x:dw) v=>({x with j9:=v}:dw),pF⟩]
 |8=>[⟨(.lD 32 (.st 7)),0,λ(x:bQ)=>x.bp,λ(x:bQ) v=>({x with bp:=v}:bQ),dy⟩]
 |9=>[⟨(.st 8),0,λ(x:lI)=>x.kO,λ(x:lI) v=>({x with kO:=v}:lI),Cp⟩]
 |10=>[⟨(.st 9),0,λ(x:ax)=>x.fB,λ(x:ax) v=>({x with fB:=v}:ax),A6⟩,⟨(.lD 32 (.st 6)),96,λ(x:ax)=>x.aT,λ(x:ax) v=>({x with aT:=v}:ax),xp⟩]
 |11=>[⟨(.int .u8),0,λ(x:fA)=>x.xu,λ(x:fA) v=>({x with xu:=v}:fA),Hh⟩,⟨(.int .u8),1,λ(x:fA)=>x.jS,λ(x:fA) v=>({x with jS:=v}:fA),Hg⟩,⟨(.int .u8),2,λ(x:fA)=>x.jk,λ(x:fA) v=>({x with jk:=v}:fA),Cs⟩]
 |12=>[⟨(.int .u32),0,λ(x:lV)=>x.root,λ(x:lV) v=>({x with root:=v}:lV),EN⟩,⟨(.st 11),1,λ(x:lV)=>x.own,λ(x:lV) v=>({x with own:=v}:lV),Hf⟩]
 |13=>[⟨(.lD 32 (.st 12)),0,λ(x:dh)=>x.bp,λ(x:dh) v=>({x with bp:=v}:dh),DO⟩]
 |14=>[⟨(.int .u32),0,λ(x:bw)=>x.Region,λ(x:bw) v=>({x with Region:=v}:bw),yS⟩,⟨(.int .u8),1,λ(x:bw)=>x.By,λ(x:bw) v=>({x with By:=v}:bw),DL⟩,⟨(.int .u8),2,λ(x:bw)=>x.To,λ(x:bw) v=>({x with To:=v}:bw),DK⟩,⟨.bool,3,λ(x:bw)=>x.mI,λ(x:bw) v=>({x with mI:=v}:bw),xo⟩,⟨(.int .u32),4,λ(x:bw)=>x.uf,λ(x:bw) v=>({x with uf:=v}:bw),rA⟩]
 |15=>[⟨(.st 8),0,λ(x:aS)=>x.fB,λ(x:aS) v=>({x with fB:=v}:aS),eI⟩,⟨(.lD 16 (.st 14)),96,λ(x:aS)=>x.bp,λ(x:aS) v=>({x with bp:=v}:aS),qA⟩]
 |16=>[⟨(.st 10),0,λ(x:bX)=>x.T,λ(x:bX) v=>({x with T:=v}:bX),Ht⟩,⟨(.st 13),480,λ(x:bX)=>x.O,λ(x:bX) v=>({x with O:=v}:bX),Hu⟩,⟨(.st 15),608,λ(x:bX)=>x.K,λ(x:bX) v=>({x with K:=v}:bX),Hv⟩]
 |17=>[⟨(.int .u8),0,λ(x:aQ)=>x.Hw,λ(x:aQ) v=>({x with Hw:=v}:aQ),zP⟩,⟨(.int .u64),1,λ(x:aQ)=>x.H7,λ(x:aQ) v=>({x with H7:=v}:aQ),zO⟩,⟨(.int .u32),2,λ(x:aQ)=>x.Region,λ(x:aQ) v=>({x with Region:=v}:aQ),xq⟩,⟨.bool,3,λ(x:aQ)=>x.yP,λ(x:aQ) v=>({x with yP:=v}:aQ),yV⟩]
 |18=>[⟨(.lD 4 (.st 17)),0,λ(x:cm)=>x.ring,λ(x:cm) v=>({x with ring:=v}:cm),ER⟩,⟨(.int .i64),16,λ(x:cm)=>x.wW,λ(x:cm) v=>({x with wW:=v}:cm),DV⟩,⟨(.int .i64),17,λ(x:cm)=>x.n,λ(x:cm) v=>({x with n:=v}:cm),KD⟩,⟨.bool,18,λ(x:cm)=>x.closed,λ(x:cm) v=>({x with closed:=v}:cm),Cv⟩]
 |19=>[⟨(.st 16),0,λ(x:ae)=>x.dx,λ(x:ae) v=>({x with dx:=v}:ae),Cu⟩,⟨(.lD 8 (.st 18)),784,λ(x:ae)=>x.kN,λ(x:ae) v=>({x with kN:=v}:ae),zM⟩,⟨(.lD 8 .bool),936,λ(x:ae)=>x.mj,λ(x:ae) v=>({x with mj:=v}:ae),zN⟩,⟨(.lD 8 .bool),944,λ(x:ae)=>x.EV,λ(x:ae) v=>({x with EV:=v}:ae),A8⟩]
 |20=>[⟨(.int .u8),0,λ(x:cj)=>x.EE,λ(x:cj) v=>({x with EE:=v}:cj),EP⟩,⟨(.int .i64),1,λ(x:cj)=>x.n,λ(x:cj) v=>({x with n:=v}:cj),Ie⟩,⟨(.lD 8 (.int .u8)),2,λ(x:cj)=>x.Eo,λ(x:cj) v=>({x with Eo:=v}:cj),DU⟩]
 |21=>[⟨(.lD 32 (.st 20)),0,λ(x:ai)=>x.bp,λ(x:ai) v=>({x with bp:=v}:ai),A9⟩]
 |22=>[⟨(.int .i64),0,λ(x:aF)=>x.jS,λ(x:aF) v=>({x with jS:=v}:aF),DW⟩,⟨(.st 3),1,λ(x:aF)=>x.C,λ(x:aF) v=>({x with C:=v}:aF),Ii⟩,⟨.bool,7,λ(x:aF)=>x.Checked,λ(x:aF) v=>({x with Checked:=v}:aF),zT⟩,⟨(.sl (.int .u32)),8,λ(x:aF)=>x.ei,λ(x:aF) v=>({x with ei:=v}:aF),zR⟩,⟨(.st 4),9,λ(x:aF)=>x.xA,λ(x:aF) v=>({x with xA:=v}:aF),ES⟩,⟨(.int .i64),11,λ(x:aF)=>x.pZ,λ(x:aF) v=>({x with pZ:=v}:aF),zS⟩]
 |23=>[⟨(.sl (.st 4)),0,λ(x:bg)=>x.l,λ(x:bg) v=>({x with l:=v}:bg),Ia⟩]
 |24=>[⟨(.int .i64),0,λ(x:aj)=>x.n,λ(x:aj) v=>({x with n:=v}:aj),Ic⟩,⟨(.st 23),1,λ(x:aj)=>x.dF,λ(x:aj) v=>({x with dF:=v}:aj),DN⟩,⟨(.lD 64 (.lD 32 (.int .u8))),2,λ(x:aj)=>x.bytes,λ(x:aj) v=>({x with bytes:=v}:aj),Cr⟩]
 |_ =>[]
def teT:Md TE:=(.dW 113 (.st [(0,some 952),(952,none),(953,some 320),(1273,none)] 1274) (.dW 72 (.st [(0,none),(1,none),(2,none)] 3) (.dW 31 (.int .i64) (.dW 22 (.sl 33 1 8) (.dW 5 (.int .u8) (.dW 3 (.int .i64) (.dW 1 .one .dS .dS) (.dW 4 .bool .dS .dS)) (.dW 20 .one (.dW 9 .one .dS .dS) .dS)) (.dW 25 (.int .u32) (.dW 24 (.int .u32) (.dW 23 .ptr .dS .dS) .dS) (.dW 30 .one (.dW 27 (.st [(0,none),(1,none),(2,none)] 3) .dS .dS) .dS))) (.dW 58 (.st [(0,none),(1,none),(2,none),(3,none),(4,none),(5,none)] 6) (.dW 48 (.st [(0,none),(1,none),(2,none)] 3) (.dW 42 (.sl 48 3 24) (.dW 33 (.int .u64) .dS .dS) (.dW 44 (.st [(0,none),(1,none)] 2) .dS .dS)) (.dW 55 (.st [(0,none),(1,none),(2,none)] 3) (.dW 51 (.sl 5 1 1) .dS .dS) .dS)) (.dW 66 (.st [(0,none),(1,none)] 2) (.dW 64 (.sl 158 2 16) (.dW 59 (.lD 3 27 3 9) .dS .dS) .dS) (.dW 69 (.st [(0,none),(1,none),(2,some 2),(4,some 8)] 12) (.dW 67 (.lD 8 25 1 8) .dS .dS) .dS)))) (.dW 94 (.st [(0,some 480),(480,some 128),(608,some 176)] 784) (.dW 84 (.st [(0,none),(1,some 3)] 4) (.dW 78 (.lD 32 69 12 384) (.dW 75 (.st [(0,some 96)] 96) (.dW 73 (.lD 32 72 3 96) .dS .dS) (.dW 77 (.st [(0,some 96)] 96) .dS .dS)) (.dW 82 (.st [(0,none),(1,none),(2,none)] 3) (.dW 80 (.st [(0,some 96),(96,some 384)] 480) .dS .dS) .dS)) (.dW 89 (.st [(0,none),(1,none),(2,none),(3,none),(4,none)] 5) (.dW 87 (.st [(0,some 128)] 128) (.dW 85 (.lD 32 84 4 128) .dS .dS) .dS) (.dW 92 (.st [(0,some 96),(96,some 80)] 176) (.dW 90 (.lD 16 89 5 80) .dS .dS) .dS))) (.dW 104 .ptr (.dW 100 (.lD 8 99 19 152) (.dW 97 (.lD 4 96 4 16) (.dW 96 (.st [(0,none),(1,none),(2,none),(3,none)] 4) .dS .dS) (.dW 99 (.st [(0,some 16),(16,none),(17,none),(18,none)] 19) .dS .dS)) (.dW 103 (.st [(0,some 784),(784,some 152),(936,some 8),(944,some 8)] 952) (.dW 101 (.lD 8 4 1 8) .dS .dS) .dS)) (.dW 108 (.lD 32 107 10 320) (.dW 107 (.st [(0,none),(1,none),(2,some 8)] 10) (.dW 105 (.lD 8 5 1 8) .dS .dS) .dS) (.dW 111 (.sl 3 1 8) (.dW 110 (.st [(0,some 320)] 320) .dS .dS) .dS))))) (.dW 210 .ptr (.dW 160 (.st [(0,none),(1,some 6),(7,none),(8,none),(9,some 2),(11,none)] 12) (.dW 141 (.st [(0,none),(1,none)] 2) (.dW 128 .one (.dW 125 .one (.dW 120 .ptr .dS .dS) (.dW 127 .one .dS .dS)) (.dW 139 .ptr (.dW 130 .one .dS .dS) .dS)) (.dW 153 .one (.dW 150 (.st [(0,some 3),(3,none)] 4) (.dW 143 .one .dS .dS) .dS) (.dW 158 (.st [(0,none),(1,none)] 2) (.dW 156 (.sl 25 1 4) .dS .dS) .dS))) (.dW 183 (.lD 64 182 32 2048) (.dW 178 .ptr (.dW 173 (.st [(0,none),(1,some 12),(13,some 3),(16,none)] 17) (.dW 171 .ptr .dS .dS) (.dW 174 (.lD 5 30 1 5) .dS .dS)) (.dW 182 (.lD 32 5 1 32) (.dW 180 (.st [(0,none)] 1) .dS .dS) .dS)) (.dW 201 .one (.dW 187 .one (.dW 185 (.st [(0,none),(1,some 1),(2,some 2048)] 2050) .dS .dS) .dS) (.dW 208 .one (.dW 207 .one .dS .dS) .dS)))) (.dW 246 (.sl 64 1 24) (.dW 228 .one (.dW 222 .ptr (.dW 215 .one (.dW 212 (.st [(0,some 952),(952,none),(953,some 6),(959,some 2),(961,none),(962,none),(963,none)] 964) .dS .dS) (.dW 220 .one .dS .dS)) (.dW 226 .one (.dW 225 .ptr .dS .dS) .dS)) (.dW 236 .one (.dW 234 .one (.dW 232 .one .dS .dS) .dS) (.dW 243 .one (.dW 237 .one .dS .dS) .dS))) (.dW 335 .ptr (.dW 310 .one (.dW 305 (.sl 96 4 24) (.dW 284 .one .dS .dS) .dS) (.dW 332 .one (.dW 312 .one .dS .dS) .dS)) (.dW 351 .one (.dW 350 .one (.dW 342 .one .dS .dS) .dS) (.dW 356 .one (.dW 355 .ptr .dS .dS) .dS))))))
def tt:TT Tryz.prog sg:=⟨fds,teT,by kernel_rfl⟩
theorem zt3(J:World->Prop)(ρ:aW):∃u:Value,bI Tryz.prog 3=some u.cells.toList/\rv (G:=sg) J ρ (.int .i64 0) u:=⟨.int .i64 0,by kernel_rfl,rfl⟩
theorem zt4(J:World->Prop)(ρ:aW):∃u:Value,bI Tryz.prog 4=some u.cells.toList/\rv (G:=sg) J ρ (.bool false) u:=⟨.bool false,by kernel_rfl,rfl⟩
theorem zt5(J:World->Prop)(ρ:aW):∃u:Value,bI Tryz.prog 5=some u.cells.toList/\rv (G:=sg) J ρ (.int .u8 0) u:=⟨.int .u8 0,by kernel_rfl,rfl⟩
theorem agu(J:World->Prop)(ρ:aW):∃u:Value,bI Tryz.prog 22=some u.cells.toList/\rv (G:=sg) J ρ .jB u:=⟨.slice none 0 0,by kernel_rfl,rfl⟩
theorem agt(J:World->Prop)(ρ:aW):∃u:Value,bI Tryz.prog 25=some u.cells.toList/\rv (G:=sg) J ρ (.int .u32 0) u:=⟨.int .u32 0,by kernel_rfl,rfl⟩
theorem ags(J:World->Prop)(ρ:aW):∃u:Value,bI Tryz.prog 27=some u.cells.toList/\rv (G:=sg) J ρ (.st (.part 1 .oa (.part 1 (.int .u32 0) (.part 1 (.int .i64 0) .nil)))) u:=⟨.agg ((([.pointer none]:List Value)++(([.int .u32 0]:List Value)++(([.int .i64 0]:List Value)++([]:List Value))))).toArray,by kernel_rfl,⟨_,rfl,⟨[.pointer none],_, .pointer none,rfl,by kernel_rfl,rfl,rfl,⟨[.int .u32 0],_, .int .u32 0,rfl,by kernel_rfl,rfl,rfl,⟨[.int .i64 0],_, .int .i64 0,rfl,by kernel_rfl,rfl,rfl,rfl⟩⟩⟩,iD (by kernel_rfl)⟩⟩
theorem agr(J:World->Prop)(ρ:aW):∃u:Value,bI Tryz.prog 31=some u.cells.toList/\rv (G:=sg) J ρ (.int .i64 0) u:=⟨.int .i64 0,by kernel_rfl,rfl⟩
theorem agq(J:World->Prop)(ρ:aW):∃u:Value,bI Tryz.prog 33=some u.cells.toList/\rv (G:=sg) J ρ (.int .u64 0) u:=⟨.int .u64 0,by kernel_rfl,rfl⟩
theorem agp(J:World->Prop)(ρ:aW):∃u:Value,bI Tryz.prog 44=some u.cells.toList/\rv (G:=sg) J ρ (.dat (.st 1) oZ) u:=⟨.agg (zX).toArray,by kernel_rfl,_,rfl,HG,λ_ =>⟨_,rfl⟩,nofun⟩
theorem ago(J:World->Prop)(ρ:aW):∃u:Value,bI Tryz.prog 48=some u.cells.toList/\rv (G:=sg) J ρ (.dat (.st 0) ua) u:=⟨.agg (Bi).toArray,by kernel_rfl,_,rfl,Jh,λ_ =>⟨_,rfl⟩,nofun⟩
theorem agn(J:World->Prop)(ρ:aW):∃u:Value,bI Tryz.prog 55=some u.cells.toList/\rv (G:=sg) J ρ (.dat (.st 2) ay) u:=⟨.agg (iL).toArray,by kernel_rfl,_,rfl,wC,λ_ =>⟨_,rfl⟩,nofun⟩
theorem agm(J:World->Prop)(ρ:aW):∃u:Value,bI Tryz.prog 58=some u.cells.toList/\rv (G:=sg) J ρ (.dat (.st 3) eC) u:=⟨.agg (kP).toArray,by kernel_rfl,_,rfl,ug,λ_ =>⟨_,rfl⟩,nofun⟩
theorem agl(J:World->Prop)(ρ:aW):∃u:Value,bI Tryz.prog 59=some u.cells.toList/\rv (G:=sg) J ρ (.st (.part 3 (.st (.part 1 .oa (.part 1 (.int .u32 0) (.part 1 (.int .i64 0) .nil)))) (.part 3 (.st (.part 1 .oa (.part 1 (.int .u32 0) (.part 1 (.int .i64 0) .nil)))) (.part 3 (.st (.part 1 .oa (.part 1 (.int .u32 0) (.part 1 (.int .i64 0) .nil)))) .nil)))) u:=⟨.agg ((((([.pointer none]:List Value)++(([.int .u32 0]:List Value)++(([.int .i64 0]:List Value)++([]:List Value)))):List Value)++(((([.pointer none]:List Value)++(([.int .u32 0]:List Value)++(([.int .i64 0]:List Value)++([]:List Value)))):List Value)++(((([.pointer none]:List Value)++(([.int .u32 0]:List Value)++(([.int .i64 0]:List Value)++([]:List Value)))):List Value)++([]:List Value))))).toArray,by kernel_rfl,⟨_,rfl,⟨(([.pointer none]:List Value)++(([.int .u32 0]:List Value)++(([.int .i64 0]:List Value)++([]:List Value)))),_, .agg ((([.pointer none]:List Value)++(([.int .u32 0]:List Value)++(([.int .i64 0]:List Value)++([]:List Value))))).toArray,rfl,by kernel_rfl,⟨_,rfl,⟨[.pointer none],_, .pointer none,rfl,by kernel_rfl,rfl,rfl,⟨[.int .u32 0],_, .int .u32 0,rfl,by kernel_rfl,rfl,rfl,⟨[.int .i64 0],_, .int .i64 0,rfl,by kernel_rfl,rfl,rfl,rfl⟩⟩⟩,iD (by kernel_rfl)⟩,rfl,⟨(([.pointer none]:List Value)++(([.int .u32 0]:List Value)++(([.int .i64 0]:List Value)++([]:List Value)))),_, .agg ((([.pointer none]:List Value)++(([.int .u32 0]:List Value)++(([.int .i64 0]:List Value)++([]:List Value))))).toArray,rfl,by kernel_rfl,⟨_,rfl,⟨[.pointer none],_, .pointer none,rfl,by kernel_rfl,rfl,rfl,⟨[.int .u32 0],_, .int .u32 0,rfl,by kernel_rfl,rfl,rfl,⟨[.int .i64 0],_, .int .i64 0,rfl,by kernel_rfl,rfl,rfl,rfl⟩⟩⟩,iD (by kernel_rfl)⟩,rfl,⟨(([.pointer none]:List Value)++(([.int .u32 0]:List Value)++(([.int .i64 0]:List Value)++([]:List Value)))),_, .agg ((([.pointer none]:List Value)++(([.int .u32 0]:List Value)++(([.int .i64 0]:List Value)++([]:List Value))))).toArray,rfl,by kernel_rfl,⟨_,rfl,⟨[.pointer none],_, .pointer none,rfl,by kernel_rfl,rfl,rfl,⟨[.int .u32 0],_, .int .u32 0,rfl,by kernel_rfl,rfl,rfl,⟨[.int .i64 0],_, .int .i64 0,rfl,by kernel_rfl,rfl,rfl,rfl⟩⟩⟩,iD (by kernel_rfl)⟩,rfl,rfl⟩⟩⟩,iD (by kernel_rfl)⟩⟩
theorem agk(J:World->Prop)(ρ:aW):∃u:Value,bI Tryz.prog 64=some u.cells.toList/\rv (G:=sg) J ρ .jB u:=⟨.slice none 0 0,by kernel_rfl,rfl⟩
theorem agj(J:World->Prop)(ρ:aW):∃u:Value,bI Tryz.prog 66=some u.cells.toList/\rv (G:=sg) J ρ (.dat (.st 5) cB) u:=⟨.agg (gV).toArray,by kernel_rfl,_,rfl,mw,λ_ =>⟨_,rfl⟩,nofun⟩
theorem agi(J:World->Prop)(ρ:aW):∃u:Value,bI Tryz.prog 69=some u.cells.toList/\rv (G:=sg) J ρ (.dat (.st 6) iw) u:=⟨.agg (qL).toArray,by kernel_rfl,_,rfl,wB,λ_ =>⟨_,rfl⟩,nofun⟩
theorem agh(J:World->Prop)(ρ:aW):∃u:Value,bI Tryz.prog 72=some u.cells.toList/\rv (G:=sg) J ρ (.dat (.st 7) ju) u:=⟨.agg (sq).toArray,by kernel_rfl,_,rfl,xE,λ_ =>⟨_,rfl⟩,nofun⟩
theorem agf(J:World->Prop)(ρ:aW):∃u:Value,bI Tryz.prog 75=some u.cells.toList/\rv (G:=sg) J ρ (.dat (.st 8) gU) u:=⟨.agg (oo).toArray,by kernel_rfl,_,rfl,r9,λ_ =>⟨_,rfl⟩,nofun⟩
theorem age(J:World->Prop)(ρ:aW):∃u:Value,bI Tryz.prog 80=some u.cells.toList/\rv (G:=sg) J ρ (.dat (.st 10) dV) u:=⟨.agg (so).toArray,by kernel_rfl,_,rfl,xC,λ_ =>⟨_,rfl⟩,nofun⟩
theorem agd(J:World->Prop)(ρ:aW):∃u:Value,bI Tryz.prog 82=some u.cells.toList/\rv (G:=sg) J ρ (.dat (.st 11) rZ) u:=⟨.agg (Ao).toArray,by kernel_rfl,_,rfl,Fu,λ_ =>⟨_,rfl⟩,nofun⟩
theorem agc(J:World->Prop)(ρ:aW):∃u:Value,bI Tryz.prog 84=some u.cells.toList/\rv (G:=sg) J ρ (.dat (.st 12) pP) u:=⟨.agg (xF).toArray,by kernel_rfl,_,rfl,DX,λ_ =>⟨_,rfl⟩,nofun⟩
theorem agb(J:World->Prop)(ρ:aW):∃u:Value,bI Tryz.prog 87=some u.cells.toList/\rv (G:=sg) J ρ (.dat (.st 13) pQ) u:=⟨.agg (xG).toArray,by kernel_rfl,_,rfl,DY,λ_ =>⟨_,rfl⟩,nofun⟩
theorem aga(J:World->Prop)(ρ:aW):∃u:Value,bI Tryz.prog 89=some u.cells.toList/\rv (G:=sg) J ρ (.dat (.st 14) gT) u:=⟨.agg (se).toArray,by kernel_rfl,_,rfl,xB,λ_ =>⟨_,rfl⟩,nofun⟩
theorem af9(J:World->Prop)(ρ:aW):∃u:Value,bI Tryz.prog 92=some u.cells.toList/\rv (G:=sg) J ρ (.dat (.st 15) dB) u:=⟨.agg (qK).toArray,by kernel_rfl,_,rfl,wA,λ_ =>⟨_,rfl⟩,nofun⟩
theorem af8(J:World->Prop)(ρ:aW):∃u:Value,bI Tryz.prog 96=some u.cells.toList/\rv (G:=sg) J ρ (.dat (.st 17) iy) u:=⟨.agg (qM).toArray,by kernel_rfl,_,rfl,wD,λ_ =>⟨_,rfl⟩,nofun⟩
theorem af7(J:World->Prop)(ρ:aW):∃u:Value,bI Tryz.prog 99=some u.cells.toList/\rv (G:=sg) J ρ (.dat (.st 18) pR) u:=⟨.agg (xH).toArray,by kernel_rfl,_,rfl,DZ,λ_ =>⟨_,rfl⟩,nofun⟩
theorem adL(J:World->Prop)(ρ:aW):∃u:Value,bI Tryz.prog 103=some u.cells.toList/\rv (G:=sg) J ρ (.dat (.st 19) cO) u:=⟨.agg (gp).toArray,by kernel_rfl,_,rfl,r8,λ_ =>⟨_,rfl⟩,nofun⟩
theorem adK(J:World->Prop)(ρ:aW):∃u:Value,bI Tryz.prog 107=some u.cells.toList/\rv (G:=sg) J ρ (.dat (.st 20) n7) u:=⟨.agg (vG).toArray,by kernel_rfl,_,rfl,Bf,λ_ =>⟨_,rfl⟩,nofun⟩
theorem adJ(J:World->Prop)(ρ:aW):∃u:Value,bI Tryz.prog 110=some u.cells.toList/\rv (G:=sg) J ρ (.dat (.st 21) bn) u:=⟨.agg (mV).toArray,by kernel_rfl,_,rfl,zU,λ_ =>⟨_,rfl⟩,nofun⟩
theorem adI(J:World->Prop)(ρ:aW):∃u:Value,bI Tryz.prog 111=some u.cells.toList/\rv (G:=sg) J ρ .jB u:=⟨.slice none 0 0,by kernel_rfl,rfl⟩
theorem adH(J:World->Prop)(ρ:aW):∃u:Value,bI Tryz.prog 113=some u.cells.toList/\rv (G:=sg) J ρ (.st (.part 952 (.dat (.st 19) cO) (.part 1 .oa (.part 320 (.dat (.st 21) bn) (.part 1 .jB .nil))))) u:=⟨.agg (((gp:List Value)++(([.pointer none]:List Value)++((mV:List Value)++(([.slice none 0 0]:List Value)++([]:List Value)))))).toArray,by kernel_rfl,⟨_,rfl,⟨gp,_, .agg (gp).toArray,rfl,by kernel_rfl,⟨_,rfl,r8,λ_ =>⟨_,rfl⟩,nofun⟩,rfl,⟨[.pointer none],_, .pointer none,rfl,by kernel_rfl,rfl,rfl,⟨mV,_, .agg (mV).toArray,rfl,by kernel_rfl,⟨_,rfl,zU,λ_ =>⟨_,rfl⟩,nofun⟩,rfl,⟨[.slice none 0 0],_, .slice none 0 0,rfl,by kernel_rfl,rfl,rfl,rfl⟩⟩⟩⟩,iD (by kernel_rfl)⟩⟩
theorem adG(J:World->Prop)(ρ:aW):∃u:Value,bI Tryz.prog 141=some u.cells.toList/\rv (G:=sg) J ρ (.st (.part 1 .oa (.part 1 (.int .i64 0) .nil))) u:=⟨.agg ((([.pointer none]:List Value)++(([.int .i64 0]:List Value)++([]:List Value)))).toArray,by kernel_rfl,⟨_,rfl,⟨[.pointer none],_, .pointer none,rfl,by kernel_rfl,rfl,rfl,⟨[.int .i64 0],_, .int .i64 0,rfl,by kernel_rfl,rfl,rfl,rfl⟩⟩,iD (by kernel_rfl)⟩⟩
theorem adF(J:World->Prop)(ρ:aW):∃u:Value,bI Tryz.prog 143=some u.cells.toList/\rv (G:=sg) J ρ .od u:=⟨.nilFunc,by kernel_rfl,rfl⟩
theorem adE(J:World->Prop)(ρ:aW):∃u:Value,bI Tryz.prog 150=some u.cells.toList/\rv (G:=sg) J ρ (.st (.part 3 (.st (.part 1 .oa (.part 1 (.int .u32 0) (.part 1 (.int .i64 0) .nil)))) (.part 1 (.int .i64 0) .nil))) u:=⟨.agg ((((([.pointer none]:List Value)++(([.int .u32 0]:List Value)++(([.int .i64 0]:List Value)++([]:List Value)))):List Value)++(([.int .i64 0]:List Value)++([]:List Value)))).toArray,by kernel_rfl,⟨_,rfl,⟨(([.pointer none]:List Value)++(([.int .u32 0]:List Value)++(([.int .i64 0]:List Value)++([]:List Value)))),_, .agg ((([.pointer none]:List Value)++(([.int .u32 0]:List Value)++(([.int .i64 0]:List Value)++([]:List Value))))).toArray,rfl,by kernel_rfl,⟨_,rfl,⟨[.pointer none],_, .pointer none,rfl,by kernel_rfl,rfl,rfl,⟨[.int .u32 0],_, .int .u32 0,rfl,by kernel_rfl,rfl,rfl,⟨[.int .i64 0],_, .int .i64 0,rfl,by kernel_rfl,rfl,rfl,rfl⟩⟩⟩,iD (by kernel_rfl)⟩,rfl,⟨[.int .i64 0],_, .int .i64 0,rfl,by kernel_rfl,rfl,rfl,rfl⟩⟩,iD (by kernel_rfl)⟩⟩
theorem adD(J:World->Prop)(ρ:aW):∃u:Value,bI Tryz.prog 158=some u.cells.toList/\rv (G:=sg) J ρ (.dat (.st 4) aA) u:=⟨.agg (nU).toArray,by kernel_rfl,_,rfl,xD,λ_ =>⟨_,rfl⟩,nofun⟩
theorem adC(J:World->Prop)(ρ:aW):∃u:Value,bI Tryz.prog 160=some u.cells.toList/\rv (G:=sg) J ρ (.dat (.st 22) jW) u:=⟨.agg (oq).toArray,by kernel_rfl,_,rfl,Bg,λ_ =>⟨_,rfl⟩,nofun⟩
theorem adB(J:World->Prop)(ρ:aW):∃u:Value,bI Tryz.prog 173=some u.cells.toList/\rv (G:=sg) J ρ (.st (.part 1 .oa (.part 12 (.dat (.st 22) jW) (.part 3 (.dat (.st 2) ay) (.part 1 (.bool false) .nil))))) u:=⟨.agg ((([.pointer none]:List Value)++((oq:List Value)++((iL:List Value)++(([.bool false]:List Value)++([]:List Value)))))).toArray,by kernel_rfl,⟨_,rfl,⟨[.pointer none],_, .pointer none,rfl,by kernel_rfl,rfl,rfl,⟨oq,_, .agg (oq).toArray,rfl,by kernel_rfl,⟨_,rfl,Bg,λ_ =>⟨_,rfl⟩,nofun⟩,rfl,⟨iL,_, .agg (iL).toArray,rfl,by kernel_rfl,⟨_,rfl,wC,λ_ =>⟨_,rfl⟩,nofun⟩,rfl,⟨[.bool false],_, .bool false,rfl,by kernel_rfl,rfl,rfl,rfl⟩⟩⟩⟩,iD (by kernel_rfl)⟩⟩
theorem adA(J:World->Prop)(ρ:aW):∃u:Value,bI Tryz.prog 174=some u.cells.toList/\rv (G:=sg) J ρ (.st (.part 1 .od (.part 1 .od (.part 1 .od (.part 1 .od (.part 1 .od .nil)))))) u:=⟨.agg ((([.nilFunc]:List Value)++(([.nilFunc]:List Value)++(([.nilFunc]:List Value)++(([.nilFunc]:List Value)++(([.nilFunc]:List Value)++([]:List Value))))))).toArray,by kernel_rfl,⟨_,rfl,⟨[.nilFunc],_, .nilFunc,rfl,by kernel_rfl,rfl,rfl,⟨[.nilFunc],_, .nilFunc,rfl,by kernel_rfl,rfl,rfl,⟨[.nilFunc],_, .nilFunc,rfl,by kernel_rfl,rfl,rfl,⟨[.nilFunc],_, .nilFunc,rfl,by kernel_rfl,rfl,rfl,⟨[.nilFunc],_, .nilFunc,rfl,by kernel_rfl,rfl,rfl,rfl⟩⟩⟩⟩⟩,iD (by kernel_rfl)⟩⟩
theorem adz(J:World->Prop)(ρ:aW):∃u:Value,bI Tryz.prog 180=some u.cells.toList/\rv (G:=sg) J ρ (.dat (.st 23) jU) u:=⟨.agg (vF).toArray,by kernel_rfl,_,rfl,Be,λ_ =>⟨_,rfl⟩,nofun⟩
theorem ady(J:World->Prop)(ρ:aW):∃u:Value,bI Tryz.prog 185=some u.cells.toList/\rv (G:=sg) J ρ (.dat (.st 24) jV) u:=⟨.agg (Bh).toArray,by kernel_rfl,_,rfl,Jg,λ_ =>⟨_,rfl⟩,nofun⟩
theorem adx(J:World->Prop)(ρ:aW):∃u:Value,bI Tryz.prog 212=some u.cells.toList/\rv (G:=sg) J ρ (.st (.part 952 (.dat (.st 19) cO) (.part 1 (.int .i64 0) (.part 6 (.dat (.st 3) eC) (.part 2 (.dat (.st 4) aA) (.part 1 (.int .i64 0) (.part 1 (.bool false) (.part 1 .jB .nil)))))))) u:=⟨.agg (((gp:List Value)++(([.int .i64 0]:List Value)++((kP:List Value)++((nU:List Value)++(([.int .i64 0]:List Value)++(([.bool false]:List Value)++(([.slice none 0 0]:List Value)++([]:List Value))))))))).toArray,by kernel_rfl,⟨_,rfl,⟨gp,_, .agg (gp).toArray,rfl,by kernel_rfl,⟨_,rfl,r8,λ_ =>⟨_,rfl⟩,nofun⟩,rfl,⟨[.int .i64 0],_, .int .i64 0,rfl,by kernel_rfl,rfl,rfl,⟨kP,_, .agg (kP).toArray,rfl,by kernel_rfl,⟨_,rfl,ug,λ_ =>⟨_,rfl⟩,nofun⟩,rfl,⟨nU,_, .agg (nU).toArray,rfl,by kernel_rfl,⟨_,rfl,xD,λ_ =>⟨_,rfl⟩,nofun⟩,rfl,⟨[.int .i64 0],_, .int .i64 0,rfl,by kernel_rfl,rfl,rfl,⟨[.bool false],_, .bool false,rfl,by kernel_rfl,rfl,rfl,⟨[.slice none 0 0],_, .slice none 0 0,rfl,by kernel_rfl,rfl,rfl,rfl⟩⟩⟩⟩⟩⟩⟩,iD (by kernel_rfl)⟩⟩
theorem adw(J:World->Prop)(ρ:aW):∃u:Value,bI Tryz.prog 215=some u.cells.toList/\rv (G:=sg) J ρ .od u:=⟨.nilFunc,by kernel_rfl,rfl⟩
theorem adv(J:World->Prop)(ρ:aW):∃u:Value,bI Tryz.prog 284=some u.cells.toList/\rv (G:=sg) J ρ .od u:=⟨.nilFunc,by kernel_rfl,rfl⟩
theorem adu(J:World->Prop)(ρ:aW):∃u:Value,bI Tryz.prog 305=some u.cells.toList/\rv (G:=sg) J ρ .jB u:=⟨.slice none 0 0,by kernel_rfl,rfl⟩
theorem adt(J:World->Prop)(ρ:aW):∃u:Value,bI Tryz.prog 332=some u.cells.toList/\rv (G:=sg) J ρ .BU u:=⟨.map none,by kernel_rfl,rfl⟩
def ztT:Md (AV sg):=(.dW 89 (.dat (.st 14) gT) (.dW 58 (.dat (.st 3) eC) (.dW 27 (.st (.part 1 .oa (.part 1 (.int .u32 0) (.part 1 (.int .i64 0) .nil)))) (.dW 5 (.int .u8 0) (.dW 4 (.bool false) (.dW 3 (.int .i64 0) .dS .dS) .dS) (.dW 25 (.int .u32 0) (.dW 22 .jB .dS .dS) .dS)) (.dW 44 (.dat (.st 1) oZ) (.dW 33 (.int .u64 0) (.dW 31 (.int .i64 0) .dS .dS) .dS) (.dW 55 (.dat (.st 2) ay) (.dW 48 (.dat (.st 0) ua) .dS .dS) .dS))) (.dW 75 (.dat (.st 8) gU) (.dW 66 (.dat (.st 5) cB) (.dW 64 .jB (.dW 59 (.st (.part 3 (.st (.part 1 .oa (.part 1 (.int .u32 0) (.part 1 (.int .i64 0) .nil)))) (.part 3 (.st (.part 1 .oa (.part 1 (.int .u32 0) (.part 1 (.int .i64 0) .nil)))) (.part 3 (.st (.part 1 .oa (.part 1 (.int .u32 0) (.part 1 (.int .i64 0) .nil)))) .nil)))) .dS .dS) .dS) (.dW 72 (.dat (.st 7) ju) (.dW 69 (.dat (.st 6) iw) .dS .dS) .dS)) (.dW 84 (.dat (.st 12) pP) (.dW 82 (.dat (.st 11) rZ) (.dW 80 (.dat (.st 10) dV) .dS .dS) .dS) (.dW 87 (.dat (.st 13) pQ) .dS .dS)))) (.dW 158 (.dat (.st 4) aA) (.dW 110 (.dat (.st 21) bn) (.dW 99 (.dat (.st 18) pR) (.dW 96 (.dat (.st 17) iy) (.dW 92 (.dat (.st 15) dB) .dS .dS) .dS) (.dW 107 (.dat (.st 20) n7) (.dW 103 (.dat (.st 19) cO) .dS .dS) .dS)) (.dW 141 (.st (.part 1 .oa (.part 1 (.int .i64 0) .nil))) (.dW 113 (.st (.part 952 (.dat (.st 19) cO) (.part 1 .oa (.part 320 (.dat (.st 21) bn) (.part 1 .jB .nil))))) (.dW 111 .jB .dS .dS) .dS) (.dW 150 (.st (.part 3 (.st (.part 1 .oa (.part 1 (.int .u32 0) (.part 1 (.int .i64 0) .nil)))) (.part 1 (.int .i64 0) .nil))) (.dW 143 .od .dS .dS) .dS))) (.dW 212 (.st (.part 952 (.dat (.st 19) cO) (.part 1 (.int .i64 0) (.part 6 (.dat (.st 3) eC) (.part 2 (.dat (.st 4) aA) (.part 1 (.int .i64 0) (.part 1 (.bool false) (.part 1 .jB .nil)))))))) (.dW 174 (.st (.part 1 .od (.part 1 .od (.part 1 .od (.part 1 .od (.part 1 .od .nil)))))) (.dW 173 (.st (.part 1 .oa (.part 12 (.dat (.st 22) jW) (.part 3 (.dat (.st 2) ay) (.part 1 (.bool false) .nil))))) (.dW 160 (.dat (.st 22) jW) .dS .dS) .dS) (.dW 185 (.dat (.st 24) jV) (.dW 180 (.dat (.st 23) jU) .dS .dS) .dS)) (.dW 305 .jB (.dW 284 .od (.dW 215 .od .dS .dS) .dS) (.dW 332 .BU .dS .dS)))))
def zt:ZT Tryz.prog sg:=⟨ztT,acF ⟨aga,⟨agm,⟨ags,⟨zt5,⟨zt4,⟨zt3,trivial,trivial⟩,trivial⟩,⟨agt,⟨agu,trivial,trivial⟩,trivial⟩⟩,⟨agp,⟨agq,⟨agr,trivial,trivial⟩,trivial⟩,⟨agn,⟨ago,trivial,trivial⟩,trivial⟩⟩⟩,⟨agf,⟨agj,⟨agk,⟨agl,trivial,trivial⟩,trivial⟩,⟨agh,⟨agi,trivial,trivial⟩,trivial⟩⟩,⟨agc,⟨agd,⟨age,trivial,trivial⟩,trivial⟩,⟨agb,trivial,trivial⟩⟩⟩⟩,⟨adD,⟨adJ,⟨af7,⟨af8,⟨af9,trivial,trivial⟩,trivial⟩,⟨adK,⟨adL,trivial,trivial⟩,trivial⟩⟩,⟨adG,⟨adH,⟨adI,trivial,trivial⟩,trivial⟩,⟨adE,⟨adF,trivial,trivial⟩,trivial⟩⟩⟩,⟨adx,⟨adA,⟨adB,⟨adC,trivial,trivial⟩,trivial⟩,⟨ady,⟨adz,trivial,trivial⟩,trivial⟩⟩,⟨adu,⟨adv,⟨adw,trivial,trivial⟩,trivial⟩,⟨adt,trivial,trivial⟩⟩⟩⟩⟩⟩
end Go.Proofs.Z
