/- Part 10 of what a proof leans on; pruned and shortened by a program out of longer texts. -/
import Derived.Test.YtgdmofhmmhcmjaaGreatDoorQ9
namespace Go.Rw
open Go Go.Bw Go.RowKit
variable {G:Sg} {P:Program} {N:Nat} {C:CC G} {Z:Type} {tb:xu P G} {rec:WT G Z} {cp:List Nat} {all:Array Oper} {r:List Oper} {K:Ex G->AS G->Option Z} {z:Z}
theorem Dl(bE:pC P rec){o:Oper}{S:AS G}(hg:M1 N all C S o)(h:wPv tb rec N cp C all r o S K=some z):∃e S',K e S'=some z/\S.nx<=S'.nx/\US P N C (.ops all (o::r)) S S' e:=by
 obtain⟨d,op,ty,ps,af,g⟩:=o;unfold wPv at h;dsimp only at h;split at h
 ·rename_i gs v hv
  obtain⟨h1,h2⟩:=afT h;exact cY bE hg (aex hv h1) (Nat.le_refl _) h2
 ·split at h
  ·cases h
  ·obtain⟨e,S1,h1,h2,h3⟩:=bE _ _ _ _ _ _ _ h
   rw[wH]at h2;exact⟨e,S1,h1,h2,BW _ h3⟩
theorem acV{d:Option Tmp}{op:Op}{ty:TypeId}{ps:String}{af:Array Edge}{g:Option (Nat×Bool)}{T d1:Nat}{r r2:List Oper}(h:acW ⟨d,op,ty,ps,af,g⟩ T r=some (d1,r2)):
  ∃t2 p2 f2,d=some d1/\g=none/\r=⟨none, .call ⟨.builtin .clear, #[.tmp d1], #[T]⟩,t2,p2,f2,none⟩::r2:=by
 unfold acW at h;split at h
 ·rename_i a t t2 p2 f2 r3
  split at h
  ·rename_i e1 d2 T2 hd hg ha ht
   cases hb:(Nat.beq _ d2&&Nat.beq T T2)with
   |false=>rw[hb]at h;cases h
   |true=>
    rw[hb]at h;simp only[aiJ]at hb;have eA:a= #[.tmp d2]:=by rw[← Array.toArray_toList (xs:=a),ha]
    have eT:t= #[T2]:=by rw[← Array.toArray_toList (xs:=t),ht]
    subst eA;subst eT;obtain rfl:=aiI hb.1;obtain rfl:=aiI hb.2;cases h;exact⟨_,_,_,hd,hg,rfl⟩
  ·cases h
 ·cases h
theorem Sv(bE:pC P rec){o:Oper}{S:AS G}(hg:M1 N all C S o)(h:wOp tb rec N cp C all r o S K=some z):∃e S',K e S'=some z/\S.nx<=S'.nx/\US P N C (.ops all (o::r)) S S' e:=by
 obtain⟨d,op,ty,ps,af,g⟩:=o;unfold wOp at h;dsimp only at h;split at h
 ·split at h
  ·rename_i v hv
   exact cY bE hg (abj hv) (Nat.le_succ _) h
  ·cases h
 ·split at h
  ·rename_i v hv
   exact cY bE hg (Tg hv) (Nat.le_succ _) h
  ·cases h
 ·split at h
  ·obtain⟨e,S1,h1,h2,h3⟩:=bE _ _ _ _ _ _ _ h
   rw[wH]at h2;exact⟨e,S1,h1,h2,BW _ h3⟩
  ·split at h
   ·rename_i q p v hx hy
    split at h
    ·rename_i T' cc ho
     cases hb:vO tb.tt _ v with
     |false=>rw[hb]at h;cases h
     |true=>rw[hb]at h;obtain⟨c',h1,h2⟩:=S5 h;exact cY bE hg (S9 hx hy ho h1 hb) (Nat.le_refl _) h2
    ·rename_i e sz t xs ho
     cases hb:(UQ p sz&&vO tb.tt _ v)with
     |false=>rw[hb]at h;cases h
     |true=>
      rw[hb]at h;simp only[aiJ]at hb;simp only[cond_true]at h;split at h
      ·rename_i pl RZ
       split at h
       ·rename_i y' hu
        exact cY bE hg (S8 hx hy ho hb.1 RZ hu hb.2) (Nat.le_refl _) h
       ·cases h
      ·cases h
    ·cases h
   ·cases h
 ·split at h
  ·rename_i e sz _ ht
   split at h
   ·rename_i z hz
    split at h
    ·rename_i t _
     split at h
     ·rename_i xs hxs
      cases hc:((Nat.beq xs.length _ &&Nat.beq (t.L G).n sz)&&(Nat.blt 0 (_ *sz)&&Nat.ble (_ *sz) 16777216))with
      |false=>rw[hc]at h;cases h
      |true=>rw[hc]at h;simp only[aiJ]at hc;obtain⟨⟨c1,c2⟩,c3,c4⟩:=hc;simp only[cond_true]at h;exact cY bE hg (aez ht hz hxs (aiI c1) (aiI c2) (by simpa[Nat.blt_eq]using c3) (Nat.le_of_ble_eq_true c4)) (Nat.le_succ _) h
     ·exact Dl bE hg h
    ·split at h
     ·rename_i vs hvs
      cases hc:((Nat.beq _ _ &&Nat.beq sz 1)&&(Nat.blt 0 _ &&Nat.ble _ 16777216))with
      |false=>rw[hc]at h;cases h
      |true=>rw[hc]at h;simp only[aiJ]at hc;obtain⟨⟨c1,c2⟩,c3,c4⟩:=hc;obtain rfl:=aiI c2;simp only[cond_true]at h;exact cY bE hg (abi ht hz hvs (aiI c1) (by simpa[Nat.blt_eq]using c3) (Nat.le_of_ble_eq_true c4)) (Nat.le_succ _) h
     ·cases h
   ·cases h
  ·cases h
 ·rename_i T s s'
  cases hs:Nat.beq s s' with
  |false=>rw[hs]at h;cases h
  |true=>
   rw[hs]at h;obtain rfl:=aiI hs;simp only[cond_true]at h;split at h
   ·rename_i i _ e sz bt hx ht
    split at h
    ·rename_i k z0 hz
     cases hc:(Nat.beq sz 1&&Nat.blt 0 bt)with
     |false=>rw[hc]at h;cases h
     |true=>rw[hc]at h;simp only[aiJ]at hc;obtain rfl:=aiI hc.1;simp only[cond_true]at h;obtain⟨g1,h⟩:=pJ h;obtain⟨g2,h⟩:=pJ h;exact cY bE hg (abe ht hz hx g1 g2 (by simpa[Nat.blt_eq]using hc.2)) (Nat.le_succ _) h
    ·cases h
   ·cases h
 ·split at h
  ·rename_i t v hx
   exact⟨_,_,h,Nat.le_refl _,SB hg hx⟩
  ·cases h
 ·split at h
  ·rename_i k x y l hf ha
   cases hb:((oD x&&oD l)&&(oD y&&xE (lJ C)))with
   |false=>rw[hb]at h;cases h
   |true=>rw[hb]at h;simp only[aiJ]at hb;obtain⟨e,S3,k1,k2,k3⟩:=bE _ _ _ _ _ _ _ h;exact⟨e,S3,k1,k2,SD hg hf ha hb.2.2 k3⟩
  ·cases h
 ·rename_i args H6
  split at h
  ·rename_i x y T T' hA hT
   have eA:args= #[x,y]:=by rw[← Array.toArray_toList (xs:=args),hA]
   have eT:H6= #[T,T']:=by rw[← Array.toArray_toList (xs:=H6),hT]
   subst eA;subst eT;cases hb:Nat.beq T T' with
   |false=>rw[hb]at h;cases h
   |true=>
    rw[hb]at h;obtain rfl:=aiI hb;simp only[cond_true]at h;split at h
    ·rename_i q vy e sz bt hx hy ht
     split at h
     ·rename_i e' sz' t xs l ho hl
      cases hc:(Nat.beq e' e&&Nat.beq sz' sz)with
      |false=>rw[hc]at h;cases h
      |true=>
       rw[hc]at h;simp only[aiJ]at hc;obtain rfl:=aiI hc.1;obtain rfl:=aiI hc.2;simp only[cond_true]at h;split at h
       ·rename_i ys hys
        obtain⟨g1,h⟩:=pJ h;exact cY bE hg (abk ht hx hy ho hl hys g1) (Nat.le_succ _) h
       ·cases h
     ·cases h
    ·rename_i vy e sz bt hx hy ht
     split at h
     ·rename_i l hl
      cases hc:Nat.beq (l.t.L G).n sz with
      |false=>rw[hc]at h;cases h
      |true=>rw[hc]at h;simp only[cond_true]at h;obtain⟨g1,h⟩:=pJ h;exact cY bE hg (XG ht hx hy hl (aiI hc) g1) (Nat.le_succ _) h
     ·cases h
    ·cases h
  ·cases h
 ·rename_i args H6
  split at h
  ·rename_i x y T T' hA hT
   have eA:args= #[x,y]:=by rw[← Array.toArray_toList (xs:=args),hA]
   have eT:H6= #[T,T']:=by rw[← Array.toArray_toList (xs:=H6),hT]
   subst eA;subst eT;split at h
   ·rename_i q vy e sz bt hx hy ht
    split at h
    ·rename_i e' sz' k xs l ho hl
     cases hc:((Nat.beq e' e&&Nat.beq sz 1)&&Nat.beq sz' 1)with
     |false=>rw[hc]at h;cases h
     |true=>
      rw[hc]at h;simp only[aiJ]at hc;obtain rfl:=aiI hc.1.1;obtain rfl:=aiI hc.1.2;obtain rfl:=aiI hc.2;simp only[cond_true]at h;split at h
      ·rename_i ys hys
       exact cY bE hg (XF ht hx hy ho hl hys) (Nat.le_refl _) h
      ·cases h
    ·cases h
   ·rename_i q p n i q' p' n' j e sz bt hx hy ht
    split at h
    ·rename_i T2 cc ho
     split at h
     ·rename_i m k f hl
      cases hc:((Nat.beq q q'&&Nat.beq n n')&&((Nat.beq m n&&Nat.beq sz 1)&&(IW p p'&&abq [T,T'] T)))with
      |false=>rw[hc]at h;cases h
      |true=>rw[hc]at h;simp only[aiJ]at hc;obtain rfl:=aiI hc.1.1;obtain rfl:=aiI hc.1.2;obtain rfl:=aiI hc.2.1.1;obtain rfl:=aiI hc.2.1.2;have hT:=hc.2.2.2;simp only[abq,aiJ]at hT;obtain rfl:=aiI hT.2;simp only[cond_true]at h;obtain⟨c',h1,h2⟩:=S5 h;exact cY bE hg (abg ht hx hy hc.2.2.1 ho hl h1) (Nat.le_refl _) h2
     ·cases h
    ·cases h
   ·cases h
  ·cases h
 ·rename_i args H6
  split at h
  ·rename_i x T hA hT
   have eA:args= #[x]:=by rw[← Array.toArray_toList (xs:=args),hA]
   have eT:H6= #[T]:=by rw[← Array.toArray_toList (xs:=H6),hT]
   subst eA;subst eT;split at h
   ·rename_i q p n i e sz bt hx ht
    split at h
    ·rename_i T2 cc ho
     split at h
     ·rename_i m k f hl
      cases hc:((Nat.beq i.toNat n&&Nat.blt 0 n)&&((Nat.beq m n&&Nat.beq sz 1)&&CA P e k))with
      |false=>rw[hc]at h;cases h
      |true=>rw[hc]at h;simp only[aiJ]at hc;obtain rfl:=aiI hc.2.1.1;obtain rfl:=aiI hc.2.1.2;simp only[cond_true]at h;obtain⟨c',h1,h2⟩:=S5 h;exact cY bE hg (abh ht hx hc.1.1 hc.1.2 ho hl hc.2.2 h1) (Nat.le_refl _) h2
     ·cases h
    ·cases h
   ·cases h
  ·cases h
 ·split at h
  ·exact cY bE hg (Nn _) (Nat.le_succ _) h
  ·cases h
 ·split at h
  ·rename_i q ky k _ v hx hy hz
   split at h
   ·rename_i ik ks vs ho
    cases hc:((Fy ky ik&&Mz P _ ik)&&(Jd k ks&&oD vs))with
    |false=>rw[hc]at h;cases h
    |true=>rw[hc]at h;simp only[aiJ]at hc;exact cY bE hg (QD hx hy hz ho hc.1.1 hc.1.2 hc.2.1 hc.2.2) (Nat.le_refl _) h
   ·cases h
  ·cases h
 ·split at h
  ·rename_i k fst cap l hf ha
   have h0:=aah h;clear h;rcases h0 with⟨ct,x,g',Jr,h⟩|⟨b,l',h⟩|h
   ·cases hb:((oD fst&&oD l)&&(oD cap&&Nat.beq ct.s.k k))with
    |false=>rw[hb]at h;cases h
    |true=>
     rw[hb]at h;simp only[aiJ]at hb;obtain⟨⟨b1,b2⟩,b3,b4⟩:=hb;obtain rfl:=aiI b4;have Mc:=Zc Jr;rcases ct.cps x _ _ z h with⟨y,hR,hy⟩|⟨y,hR,hy⟩
     ·split at hy
      ·rename_i v hd
       exact cY bE hg (aey hf ha b1 b2 Jr hR hd) (Nat.le_trans Mc (Nat.le_add_right _ _)) hy
      ·cases hy
     ·split at hy
      ·rename_i v hd
       exact⟨_,_,hy,Nat.le_trans Mc (Nat.le_add_right _ _),aa7 hg hf ha b1 b2 Jr hR hd⟩
      ·cases hy
   ·obtain⟨e,S1,h1,h2,h3⟩:=bE _ _ _ _ _ _ _ h
    have h2:=Nat.le_trans (LD l' _) h2;rw[wH]at h2;exact⟨e,S1,h1,h2,BW b (Lp l' h3)⟩
   split at h
   ·rename_i fi GN
    cases hb:((oD fst&&oD l)&&(oD cap&&Nat.ble (yM (nC fst (nC l cap))) fi.N))with
    |false=>rw[hb]at h;cases h
    |true=>
     rw[hb]at h;simp only[aiJ]at hb;obtain⟨⟨b1,b2⟩,b3,b4⟩:=hb;have b4:=Nat.le_of_ble_eq_true b4;obtain⟨e,S1,h1,h2,h3⟩:=bE _ _ _ _ _ _ _ h;have h2:S.nx<=S1.nx:=h2;split at h1
     ·rename_i v O2 hX
      exact⟨_,_,h1,h2,SH (tt:=tb.tt) hg hf ha GN b1 b2 b3 b4 h3 hX⟩
     ·rename_i O2 hX
      split at h1
      ·rename_i v hres
       exact cY bE hg (OT hf ha GN b1 b2 b3 b4 h3 hX (.inl rfl) hres) h2 h1
      ·cases h1
     ·rename_i O2 hX
      split at h1
      ·rename_i v hres
       exact cY bE hg (OT hf ha GN b1 b2 b3 b4 h3 hX (.inr rfl) hres) h2 h1
      ·cases h1
     ·cases h1
   ·cases h
  ·rename_i q l hf ha
   split at h
   ·rename_i N2 ks vs ps a b hq
    cases hb:xE (lJ C)with
    |false=>rw[hb]at h;cases h
    |true=>
     rw[hb]at h;simp only[cond_true]at h;obtain⟨S2,hbi,h⟩:=Qb h;obtain⟨e1,S3,h1,h2,h3⟩:=bE _ _ _ _ _ _ _ h;cases e1 with
     |jj=>
      obtain⟨e2,S4,k1,k2,k3⟩:=bE _ _ _ _ _ _ _ h1;cases e2 with
      |jj=>
       split at k1
       ·rename_i hD
        have hn:=Hv hbi;have hn:S2.nx=S.nx:=hn;exact cY bE hg (S7 hf ha hq hb hbi h3 h2 k3 k2 hD) (by show S.nx<=S4.nx;omega) k1
       ·cases k1
      |_ =>cases k1
     |_ =>cases h1
   ·cases h
  ·cases h
 ·split at h
  ·rename_i g0 hgt
   cases hb:rj P _ with
   |false=>rw[hb]at h;cases h
   |true=>rw[hb]at h;exact cY bE hg (Te hgt hb) (Nat.le_succ _) h
  ·cases h
 ·split at h
  ·rename_i q ik k kb hx hy
   split at h
   ·rename_i ho
    split at h
    ·rename_i g0 hgt
     cases hb:(Nat.beq (Ty.bU.ik ik) (Ty.bU.ik g0.1)&&Ez P _ g0.1)with
     |false=>rw[hb]at h;cases h
     |true=>rw[hb]at h;simp only[aiJ]at hb;exact cY bE hg (QC hgt hx ho hy hb.1 hb.2) (Nat.le_refl _) (afb h)
    ·cases h
   ·rename_i qk ks vs ho
    cases hb:(Fy ik qk&&Ez P _ qk)with
    |false=>rw[hb]at h;cases h
    |true=>rw[hb]at h;simp only[aiJ]at hb;obtain⟨t,t1,t2⟩:=afc h;exact cY bE hg (Td hx hy ho hb.1 hb.2 t2) (Nat.le_refl _) t1
   ·cases h
  ·cases h
 ·split at h
  ·rename_i q k i qq e sz bt hx hh ht _
   split at h
   ·rename_i e' sz' t xs ho
    cases hc:(Nat.beq e' e&&Nat.beq sz' sz)with
    |false=>rw[hc]at h;cases h
    |true=>rw[hc]at h;simp only[aiJ]at hc;obtain rfl:=aiI hc.1;obtain rfl:=aiI hc.2;simp only[cond_true]at h;obtain⟨g1,h⟩:=pJ h;exact cY bE hg (abf ht hx ho hh g1) (Nat.le_succ _) h
   ·cases h
  ·rename_i q p k i qq hx hh _
   split at h
   ·rename_i T2 cc n e0 sz ho hT
    split at h
    ·rename_i m e f hl
     cases hc:Nat.beq m n with
     |false=>rw[hc]at h;cases h
     |true=>rw[hc]at h;obtain rfl:=aiI hc;simp only[cond_true]at h;obtain⟨g1,h⟩:=pJ h;exact cY bE hg (Ta hT hx hh ho hl g1) (Nat.le_refl _) h
    ·cases h
   ·cases h
  ·exact Dl bE hg h
 ·split at h
  ·rename_i q k i qq e sz bt hc hx hh ht
   split at h
   ·rename_i e' sz' t xs ho _
    cases hc:(Nat.beq e' e&&Nat.beq sz' sz)with
    |false=>rw[hc]at h;cases h
    |true=>rw[hc]at h;simp only[aiJ]at hc;obtain rfl:=aiI hc.1;obtain rfl:=aiI hc.2;simp only[cond_true]at h;obtain⟨g1,h⟩:=pJ h;exact cY bE hg (Tf ht hx ho hh g1) (Nat.le_succ _) h
   ·exact Dl bE hg h
  ·rename_i d1 r2 q k0 i qq e sz bt hc hx hl ht
   split at h
   ·rename_i e' sz' k xs S1 ho hp
    cases hb:((Nat.beq e' e&&Nat.beq sz 1)&&(Nat.beq sz' 1&&CA P e k))with
    |false=>rw[hb]at h;cases h
    |true=>rw[hb]at h;simp only[aiJ]at hb;obtain rfl:=aiI hb.1.1;obtain rfl:=aiI hb.1.2;obtain rfl:=aiI hb.2.1;simp only[cond_true]at h;obtain⟨g1,h⟩:=pJ h;obtain⟨e1,S3,h1,h2,h3⟩:=bE _ _ _ _ _ _ _ h;have Mc:=nJ hp;refine⟨e1,S3,h1,(by rw[← Mc];exact h2),?_⟩;obtain⟨t2,p2,f2,rfl,rfl,rfl⟩:=acV hc;exact SG ht hb.2.2 hx ho hl g1 hp h3
   ·exact Dl bE hg h
  ·exact Dl bE hg h
 ·exact Dl bE hg h
theorem acT(bE:pC P rec){o:Oper}{S:AS G}{j dj:Nat}{w:Bool}{no:Option Z}{gx:Option Bool}{cx:Option (Nat×AV G)}(KH:o.guard=some (j,w))(hd:Hf all j=some dj)(he:N6 C S 8 dj w=gx)(hc:MG C S (chain C S 8 dj w) o.op=cx)
  (hno:no=some z->∃e S',K e S'=some z/\S.nx<=S'.nx/\US P N C (.ops all (o::r)) S S' e)(h:ctT tb rec N cp C all r o S K dj w no gx cx=some z):∃e S',K e S'=some z/\S.nx<=S'.nx/\US P N C (.ops all (o::r)) S S' e:=by
 unfold ctT at h;split at h
 ·rename_i g k aiF
  have h0:=aah h;clear h;rcases h0 with⟨ct,x,g',Jr,h⟩|⟨b,l',h⟩|h
  ·cases hb:Nat.beq ct.s.k k with
   |false=>rw[hb]at h;cases h
   |true=>
    rw[hb]at h;have hk:=aiI hb;simp only[cond_true]at h;unfold ctG at h;split at h
    ·rename_i hnm
     cases hn:(Fw true ct.s.uT&&Fw false ct.s.cN)with
     |false=>rw[hn]at h;exact hno h
     |true=>
      rw[hn]at h;simp only[aiJ]at hn;obtain⟨y,hR,hy⟩:=ct.cgs g x _ z h;split at hy
      ·rename_i v hv
       split at hy
       ·rename_i S2 hp
        obtain⟨e,S3,k1,k2,k3⟩:=bE _ _ _ _ _ _ _ hy;have:=nJ hp;exact⟨e,S3,k1,by omega,aa8 KH hd he hc hk Jr hnm hn.1 hn.2 hR hv hp k3⟩
       ·cases hy
      ·cases hy
    ·exact hno h
  ·obtain⟨e,S1,h1,h2,h3⟩:=bE _ _ _ _ _ _ _ h
   have h2:=Nat.le_trans (LD l' _) h2;rw[wH]at h2;exact⟨e,S1,h1,h2,BW b (Lp l' h3)⟩
  ·exact hno h
 ·exact hno h
theorem OP{x:Operand}{a b:Code}{t:Bool}{S S1:AS G}{e:Ex G}(hx:fR C S [] x=some (.bool t))(h:US P N C (.code (bif t then a else b)) S S1 e):US P N C (.code (.cond x a b)) S S1 e:=by
 intro c ρ J HK X ac w Q hr hq;have ex:=zF ((cQ hr (ch:=[]) (by simp)).ok _ _ hx);cases t with
 |true=>exact wpIn_cond_true ex (h c ρ J HK X ac w Q hr hq)
 |false=>exact wpIn_cond_false ex (h c ρ J HK X ac w Q hr hq)
theorem SF{x:Operand}{a b:Code}{t:Bool}{S S1:AS G}{e:Ex G}(hx:fR C S [] x=some (.kb t))(h:US P N C (.code (bif t then a else b)) S S1 e):US P N C (.code (.cond x a b)) S S1 e:=by
 intro c ρ J HK X ac w Q hr hq;have ex:=IZ ((cQ hr (ch:=[]) (by simp)).ok _ _ hx);cases t with
 |true=>exact wpIn_cond_true ex (h c ρ J HK X ac w Q hr hq)
 |false=>exact wpIn_cond_false ex (h c ρ J HK X ac w Q hr hq)
theorem Qv{i:Nat}{ops:Array Oper}{S S1:AS G}{e:Ex G}(h:US P N C (.ops ops ops.toList) S S1 e):US P N C (.code (.region i ops false)) S S1 e:=by intro c ρ J HK X a w Q hr hq;exact wpIn_region_list (h c ρ J HK X a w Q hr hq)
theorem JV{cf:Cf}{S S1:AS G}{e:Ex G}(p q:Nat->Bool)(h:US P N (⟨jq (λd=> !p d) S.F,cG (λr=> !q r) S.O,S.D⟩::C) cf ⟨jq p S.F,cG q S.O,S.nx,[]⟩ S1 e):US P N C cf S (I7 ⟨jq (λd=> !p d) S.F,cG (λr=> !q r) S.O,S.D⟩ S1) e:=by intro c ρ J HK X a w Q hr hq;obtain⟨H2,p1,p2⟩:=hr.push p q;refine h c ρ J (H2++HK) X a w Q p2 λρ' J' Y a' w' me k1 k2 k3 k4=>?_;have hle:=k1.le hr.fr;exact hq ρ' J' Y a' w' me k1 k2 k3 (k4.I7 (p1.up k2 hle) (hr.MW k2 hle) hr.si.n)
theorem Xw{x y:Code}{S S1 S2:AS G}{ly:Ly G}{g:MV}{p q:Nat->Bool}{e:HL G (aN (rR g.l))}{e2:Ex G}(hly:ly=⟨jq (λd=> !p d) S.F,cG (λr=> !q r) S.O,S.D⟩)(hl:xS S.nx (ly::C)=true)
  (h1:US P N (ly::C) (.code x) ⟨jq p S.F,cG q S.O,S.nx,[]⟩ S1 .jj)(hg:GQ (ly::C) (l6 (ly::C) S1 g.l) g S.nx=some e)(h2:US P N C (.code y) (I7 ly (Io g S.nx e)) S2 e2):US P N C (.code (.seq x y)) S S2 e2:=by
 subst hly;intro c ρ J HK X a w Q hr hq;obtain⟨H2,p1,p2⟩:=hr.push p q;refine wpIn_seq (h1 c ρ J (H2++HK) X a w _ p2 λρ' J' Y a' w' me k1 k2 k3 k4=>?_);rw[je k3];obtain⟨J2,Y2,j1,k5⟩:=k4.l6 g.l;obtain⟨ρ2,m1,m2⟩:=Ym k5 hg hl;have hto:ρ.to ρ2 S.nx:=λr hr'=>(m1 r hr').trans (k1 r hr');have hle:=hto.le hr.fr;have k2':∀w,J2 w->J w:=λw h=>k2 w (j1 w h);rw[← List.append_assoc]at m2;refine h2 c ρ2 J2 HK ((Y2++Y)++X) a' w' Q (m2.I7 (p1.up k2' hle) (hr.MW k2' hle) hr.si.n) (hq.g9 hto k2' ?_);show S.nx<=S.nx+_;omega
def USl(P:Program)(N:Nat)(C:CC G)(base:Nat)(x:Code)(S S':AS G)(e:Ex G):Prop:=∀(c:Cx) (ρ:aZ) (J:World->Prop) (HK X:List aE) (a:Act) (w:World) (Q:Exit->Act->World->Prop),Rl c N ρ J HK X C S a w->Aft c N C ρ J HK X base S' e Q->LPr P c x Q a w
theorem Sy{x:Code}{g:MV}{base:Nat}{e e':HL G (aN (rR g.l))}{S1 S2:AS G}{e2:Ex G}(hl:xS base C=true)(h1:US P N C (.code x) (Io g base e) S1 .jj)(hg:GQ C (l6 C S1 g.l) g base=some e')(h2:USl P N C base x (Io g base e') S2 e2):USl P N C base x (Io g base e) S2 e2:=by intro c ρ J HK X a w Q hr hq;refine Ck (h1 c ρ J HK X a w _ hr λρ' J' Y a' w' me k1 k2 k3 k4=>?_);rw[je k3];obtain⟨J2,Y2,j1,k5⟩:=k4.l6 g.l;obtain⟨ρ2,m1,m2⟩:=Ym k5 hg hl;have MX:ρ.to ρ' base:=λr hr'=>k1 r (by show r<base+_;omega);rw[← List.append_assoc]at m2;exact h2 c ρ2 J2 HK ((Y2++Y)++X) a' w' Q m2 (hq.g9 (λr hr'=>(m1 r hr').trans (MX r hr')) (λw h=>k2 w (j1 w h)) (Nat.le_refl _))
theorem Ga{x:Code}{g:MV}{base:Nat}{e:HL G (aN (rR g.l))}{S1:AS G}{e1:Ex G}(h1:US P N C (.code x) (Io g base e) S1 e1)(he:e1≠ .jj):USl P N C base x (Io g base e) S1 e1:=by intro c ρ J HK X a w Q hr hq;refine Ck (h1 c ρ J HK X a w _ hr λρ' J' Y a' w' me k1 k2 k3 k4=>?_);exact mK (nA he k3) (hq ρ' J' Y a' w' me (λr hr'=>k1 r (by show r<base+_;omega)) k2 k3 k4)
theorem Xv{x:Code}{S S1:AS G}{g:MV}{v:AV G}{x0:HL G (aN (rR g.l))}{g':GS G}{p:Nat->Bool}{ly:Ly G}{e:Ex G}(hv:Dm C S g.l=some v)(Jr:nu (rR g.l) v ⟨[],S.O,S.nx⟩=some (x0,g'))(b1:wA g.nm g'.th=true)(b2:wB S.nx g.nm=true)
  (hly:ly=⟨jq p S.F,g'.O,S.D⟩)(hl:xS S.nx (ly::C)=true)(h:USl P N (ly::C) S.nx x (Io g S.nx x0) S1 e):US P N C (.code (.loop x)) S (I7 ly S1) e:=by
 intro c ρ J HK X a w Q hr hq;refine Gw ?_;have YO:xS S.nx C=true:=by simp only[xS,aiJ]at hl;exact hl.2.2.2
 obtain⟨ρ',ρ2,HB,H',hto,ht2,GO,hleft,hC,hp,hF,hfc,hfr⟩:=Pb hr hv Jr b1 b2 (Nat.le_refl _) YO;have hag:∀r,r<S.nx->ρ' r=ρ2 r:=λr hr'=>(hto r hr').trans (ht2 r hr').symm;subst hly;have hl':=hl;simp only[xS,aiJ]at hl';have hleft:=hleft.eZ hag hl'.2.1;have hr':Rl c N ρ' J (H'++HK) X (⟨jq p S.F,g'.O,S.D⟩::C) (Io g S.nx x0) a w:=by
  refine⟨hr.tm,?_,⟨hr.si.s,λq=>hr.si.n (Ce q)⟩,hF,λy hy=>?_,λr o e=>?_,⟨HB,GO,by simpa using hp⟩,hr.kn,hfr⟩
  ·exact hr.df.eZ hto (Kw hl'.2.2.1 (Ei YO).2)
  ·rcases List.mem_cons.1 hy with rfl|hy
   ·exact(hr.fs.Xb).eZ hto hl'.1
   ·exact hfc y hy
  ·have e:cU (g'.O++lJ C) r=some o:=e
   rw[kB]at e;split at e
   ·rename_i v' L9
    cases e;obtain⟨x,h1,h2⟩:=hleft.lk L9;exact⟨x,aiN _ h1,h2⟩
   ·obtain⟨x,h1,h2⟩:=hC r o e
    exact⟨x,aiM _ h1,h2⟩
 refine h c ρ' J (H'++HK) X a w Q hr' λρ3 J3 Y a' w' me k1 k2 k3 k4=>?_;have MX:ρ.to ρ3 S.nx:=λr q=>(k1 r q).trans (hto r q);refine hq ρ3 J3 Y a' w' me MX k2 k3 (k4.I7 ((hleft.eZ k1 hl'.2.1).up k2 (aZ.le_refl _)) (hr.MW k2 (MX.le hr.fr)) hr.si.n)
theorem Yq(bE:pC P rec){x:Code}{g:MV}{base:Nat}{ly:Ly G}(hl:xS base (ly::C)=true){vw:Option (Vw G (aN (rR g.l)))}:∀(n:Nat) (e:HL G (aN (rR g.l))),lpV vw (λgo e=>rec N cp (ly::C) (.code x) (Io g base e) λe1 S1=>match e1 with
   | .jj=>match GQ (ly::C) (l6 (ly::C) S1 g.l) g base with
    |some e=>go e
    |none=>none
   |e1=>K e1 (I7 ly S1)) n e=some z->
  ∃e1 S1,K e1 (I7 ly S1)=some z/\base<=S1.nx/\USl P N (ly::C) base x (Io g base e) S1 e1:=by
 intro n
 induction n with
 |zero=>intro e h;obtain⟨m,h1,_⟩:=Pc h;cases h1
 |succ n ih=>
  intro e h;obtain⟨m,h1,h2⟩:=Pc h;cases h1;obtain⟨e1,S1,k1,k2,k3⟩:=bE _ _ _ _ _ _ _ h2;have k2:base<=S1.nx:=Nat.le_trans (Nat.le_add_right _ _) k2;cases e1 with
  |jj=>
   dsimp only at k1;split at k1
   ·rename_i e' hg
    obtain⟨e2,S2,m1,m2,m3⟩:=ih e' k1;exact⟨e2,S2,m1,m2,Sy hl k3 hg m3⟩
   ·cases k1
  |exit i=>exact⟨_,S1,k1,k2,Ga k3 (by simp)⟩
  |ret=>exact⟨_,S1,k1,k2,Ga k3 (by simp)⟩
  |vW v=>exact⟨_,S1,k1,k2,Ga k3 (by simp)⟩
theorem abo(bE:pC P rec){x y:Code}{S:AS G}(h:(rec N cp C (.code x) S λe S'=>match e with
    | .jj=>rec N cp C (.code y) S' K
    |e=>K e S')=some z):∃e S',K e S'=some z/\S.nx<=S'.nx/\US P N C (.code (.seq x y)) S S' e:=by
 obtain⟨e1,S1,k1,k2,k3⟩:=bE _ _ _ _ _ _ _ h;cases e1 with
 |jj=>obtain⟨e2,S2,m1,m2,m3⟩:=bE _ _ _ _ _ _ _ k1;exact⟨e2,S2,m1,Nat.le_trans k2 m2,aa5 k3 m3 k2⟩
 |exit i=>exact⟨_,S1,k1,k2,oh k3 (by simp)⟩
 |ret=>exact⟨_,S1,k1,k2,oh k3 (by simp)⟩
 |vW v=>exact⟨_,S1,k1,k2,oh k3 (by simp)⟩
theorem X3{x:Code}{S:AS G}{g:MV}{r:Option Z}(h:r=some z->∃e S',K e S'=some z/\(l6 C S g.l).nx<=S'.nx/\US P N C (.code x) (l6 C S g.l) S' e)(hr:r=some z):∃e S',K e S'=some z/\S.nx<=S'.nx/\US P N C (.code x) S S' e:=by obtain⟨e,S',h1,h2,h3⟩:=h hr;rw[B6]at h2;exact⟨e,S',h1,h2,Xu _ h3⟩
theorem abt(bE:pC P rec){ps:List Nat}{a b:Code}{S1:AS G}{g:MV}{it:It P G}{O:Os G}:∀(l:List it.B) (e:HL G (aN (rR g.l))),rgW rec N cp C ps a b S1 K g it l O e=some z->
  ∃e1 Sf,K e1 (QO S1.nx S1 O Sf)=some z/\S1.nx<=Sf.nx/\RgT P N (Uk ps a b C S1 O) ps a b g (S1.nx+2) it l e e1 Sf:=by
 intro l
 induction l with
 |nil=>intro e h;exact⟨_,_,YH h,by show S1.nx<=S1.nx+2+_;omega, .nil⟩
 |cons y l ih=>
  intro e h;have h:=Uw h;obtain⟨S2,hb,h⟩:=Qb h;obtain⟨e1,S3,k1,k2,k3⟩:=bE _ _ _ _ _ _ _ h;have hS2:S1.nx<=S2.nx:=by rw[Hv hb];show S1.nx<=S1.nx+2+_;omega
  cases e1 with
  |jj=>
   obtain⟨e2,S4,m1,m2,m3⟩:=bE _ _ _ _ _ _ _ k1;cases e2 with
   |jj=>
    dsimp only at m1;split at m1
    ·rename_i e' hg
     obtain⟨e3,Sf,n1,n2,n3⟩:=ih e' m1;exact⟨e3,Sf,n1,n2, .g9 hb k3 k2 m3 hg n3⟩
    ·cases m1
   |ret=>
    dsimp only at m1;cases hD:Ud S4.D with
    |false=>rw[hD]at m1;cases m1
    |true=>rw[hD]at m1;exact⟨_,S4,m1,by omega, .stop hb k3 k2 m3 (.inl rfl) (Uc hD)⟩
   |exit i=>
    dsimp only at m1;cases hD:Ud S4.D with
    |false=>rw[hD]at m1;cases m1
    |true=>rw[hD]at m1;exact⟨_,S4,m1,by omega, .stop hb k3 k2 m3 (.inr ⟨i,rfl⟩) (Uc hD)⟩
   |vW v=>cases m1
  |_ =>cases k1
theorem abu(bE:pC P rec){ps:Array Nat}{a b:Code}{k:Nat}{cap:AV G}{gl:List (RS×Sh)}{S:AS G}{R2:Operand}(KH:fR C S [] R2=some (.fn (.func k) .nil cap)):∀{l:List (It P G)},rgK rec N cp C ps.toList a b k cap gl S K l=some z->
  ∃e S',K e S'=some z/\S.nx<=S'.nx/\US P N C (.code (.rangeFunc R2 ps a b)) S S' e:=by
 intro l
 induction l with
 |nil=>intro h;cases h
 |cons it q ih=>
  intro h;unfold rgK at h;split at h
  ·exact ih h
  ·rename_i x g1 Jr
   split at h
   ·rename_i g hg
    dsimp only at h;split at h
    ·rename_i v hv
     split at h
     ·rename_i x0 g2 ach
      revert h;generalize hcc:(((Nat.beq it.k k&&Nat.beq it.n ps.toList.length&&xE (lJ C))&&(wA g.nm g2.th&&wB ((l6 C ⟨S.F,g1.O,g1.nx,S.D⟩ g.l).nx+2) g.nm&&xS ((l6 C ⟨S.F,g1.O,g1.nx,S.D⟩ g.l).nx+2) (Uk ps.toList a b C (l6 C ⟨S.F,g1.O,g1.nx,S.D⟩ g.l) g2.O)))&&((tP ((l6 C ⟨S.F,g1.O,g1.nx,S.D⟩ g.l).nx+2) g2.O&&psN N ps.toList)&&(xS ((l6 C ⟨S.F,g1.O,g1.nx,S.D⟩ g.l).nx+2) C&&Kr (g2.O++lJ C))))=cc;intro h;cases cc with
      |false=>cases h
      |true=>simp only[aiJ]at hcc;obtain⟨⟨⟨⟨c1,c2⟩,c3⟩,⟨c4,c5⟩,c6⟩,⟨c7,c8⟩,c9,c10⟩:=hcc;obtain rfl:=aiI c1;obtain⟨l,hf,h⟩:=r7 h;obtain⟨e1,Sf,k1,k2,k3⟩:=abt bE l x0 h;refine⟨e1,_,k1,?_,SA KH Jr rfl hv ach c4 c5 (by simpa using aiI c2) c3 c6 c7 c9 c8 c10 hf k3⟩;show S.nx<=Sf.nx;rw[B6]at k2;exact Nat.le_trans (U3 Jr) k2
     ·cases h
    ·cases h
   ·cases h
theorem abv(bE:pC P rec){ps:Array Nat}{a b:Code}{k:Nat}{cap:AV G}{S:AS G}{R2:Operand}(KH:fR C S [] R2=some (.fn (.func k) .nil cap))(h:rgI tb rec N cp C ps.toList a b k cap S K=some z):
  ∃e S',K e S'=some z/\S.nx<=S'.nx/\US P N C (.code (.rangeFunc R2 ps a b)) S S' e:=by
 unfold rgI at h;split at h
 ·rename_i fi ks vs GN hkv
  split at h
  ·rename_i hres
   cases hb:((oD cap&&Nat.ble (yM cap+1) fi.N)&&xE (lJ C))with
   |false=>rw[hb]at h;cases h
   |true=>
    rw[hb]at h;simp only[aiJ]at hb;obtain⟨⟨b1,b2⟩,b3⟩:=hb;have b2:=Nat.le_of_ble_eq_true b2;obtain⟨e,S1,h1,h2,h3⟩:=bE _ _ _ _ _ _ _ h;have h2:S.nx+2<=S1.nx:=h2;split at h1
    ·rename_i O2 hX
     exact⟨_,_,h1,by show S.nx<=S1.nx;omega,IS (tt:=tb.tt) KH GN hres b1 b2 b3 hkv h3 h2 hX (.inl rfl)⟩
    ·rename_i O2 hX
     exact⟨_,_,h1,by show S.nx<=S1.nx;omega,IS (tt:=tb.tt) KH GN hres b1 b2 b3 hkv h3 h2 hX (.inr rfl)⟩
    ·cases h1
  ·cases h
 ·cases h
theorem XC(bE:pC P rec):pC P (step tb rec):=by
 intro N cp C cf S K z h;unfold step at h;dsimp only at h;split at h
 ·exact⟨_,_,h,Nat.le_refl _,aa6⟩
 ·rename_i all o r
  split at h
  ·rename_i hg;exact Sv bE (.none hg) h
  ·rename_i j w hg
   split at h
   ·rename_i dj hd
    split at h
    ·rename_i hk;exact Sv bE (.aay hg hd hk) h
    ·rename_i hk
     split at h
     ·rename_i S2 hp
      obtain⟨e,S3,k1,k2,k3⟩:=bE _ _ _ _ _ _ _ h;have:=nJ hp;exact⟨e,S3,k1,by omega,Xt hg hd hk hp k3⟩
     ·cases h
    ·split at h
     ·rename_i g gs v he hv
      obtain⟨h1,h2⟩:=afU h;split at h2
      ·rename_i S2 hp
       obtain⟨e,S3,k1,k2,k3⟩:=bE _ _ _ _ _ _ _ h2;have:=nJ hp;exact⟨e,S3,k1,by omega,SE hg hd he hv h1 hp k3⟩
      ·cases h2
     ·refine acT bE hg hd rfl rfl (λh=>?_) h
      split at h
      ·rename_i k b hk
       cases b with
       |true=>have h:=Oj rfl h;obtain⟨e,S3,k1,k2,k3⟩:=bE _ _ _ _ _ _ _ h;exact⟨e,S3,k1,k2,OO hk k3⟩
       |false=>have h:=Ok rfl h;obtain⟨e,S3,k1,k2,k3⟩:=bE _ _ _ _ _ _ _ h;exact⟨e,S3,k1,k2,OO hk k3⟩
      ·cases h
   ·cases h
 ·split at h
  ·exact⟨_,_,h,Nat.le_refl _,λc ρ J HK X a w Q hr hq=>wpIn_skip (hq.here hr trivial)⟩
  ·exact⟨_,_,h,Nat.le_refl _,λc ρ J HK X a w Q hr hq=>wpIn_label (hq.here hr trivial)⟩
  ·exact⟨_,_,h,Nat.le_refl _,λc ρ J HK X a w Q hr hq=>wpIn_ret (hq.here hr trivial)⟩
  ·exact⟨_,_,h,Nat.le_refl _,λc ρ J HK X a w Q hr hq=>wpIn_exit (hq.here hr rfl)⟩
  ·obtain⟨e,S1,k1,k2,k3⟩:=bE _ _ _ _ _ _ _ h
   exact⟨e,S1,k1,k2,Qv k3⟩
  ·exact acP bE h
  ·rename_i i x
   obtain⟨e1,S1,k1,k2,k3⟩:=bE _ _ _ _ _ _ _ h;cases e1 with
   |exit j=>
    dsimp only at k1;cases hb:Nat.beq i j with
    |true=>rw[hb]at k1;have e:=aiI hb;exact⟨_,S1,k1,k2,yw k3 (.inl ⟨by rw[e],rfl⟩)⟩
    |false=>rw[hb]at k1;exact⟨_,S1,k1,k2,yw k3 (.inr ⟨rfl,λq=>by cases q;rw[Nat.beq_refl]at hb;cases hb⟩)⟩
   |jj=>exact⟨_,S1,k1,k2,yw k3 (.inr ⟨rfl,by simp⟩)⟩
   |ret=>exact⟨_,S1,k1,k2,yw k3 (.inr ⟨rfl,by simp⟩)⟩
   |vW v=>exact⟨_,S1,k1,k2,yw k3 (.inr ⟨rfl,by simp⟩)⟩
  ·obtain⟨e,S1,k1,k2,k3⟩:=bE _ _ _ _ _ _ _ h
   exact⟨e,S1,k1,k2,Sz k3⟩
  ·split at h
   ·rename_i t hx
    cases t with
    |true=>have h:=Oj rfl h;obtain⟨e,S1,k1,k2,k3⟩:=bE _ _ _ _ _ _ _ h;exact⟨e,S1,k1,k2,OP hx k3⟩
    |false=>have h:=Ok rfl h;obtain⟨e,S1,k1,k2,k3⟩:=bE _ _ _ _ _ _ _ h;exact⟨e,S1,k1,k2,OP hx k3⟩
   ·rename_i t hx
    obtain⟨e,S1,k1,k2,k3⟩:=bE _ _ _ _ _ _ _ h;exact⟨e,S1,k1,k2,SF hx k3⟩
   ·cases h
  ·rename_i x y
   split at h
   ·rename_i gl ex _
    split at h
    ·rename_i g _
     cases hb:xS S.nx ((⟨jq (λd=> !(di (IN x) d||yO g.l d)) S.F,cG (λq=> !di (Qx C S gl++LU C S ex) q) S.O,S.D⟩:Ly G)::C)with
     |false=>rw[hb]at h;cases h
     |true=>
      rw[hb]at h;have h:=afd h;obtain⟨e1,S1,k1,k2,k3⟩:=bE _ _ _ _ _ _ _ h;have k2:S.nx<=S1.nx:=k2;cases e1 with
      |jj=>
       dsimp only at k1;split at k1
       ·rename_i e hg
        obtain⟨e2,S2,m1,m2,m3⟩:=bE _ _ _ _ _ _ _ k1;have m2:S.nx+g.nm.length<=S2.nx:=m2;exact⟨e2,S2,m1,by omega,Xw rfl hb k3 hg m3⟩
       ·cases k1
      |exit i=>exact⟨_,_,k1,k2,oh (JV _ _ k3) (by simp)⟩
      |ret=>exact⟨_,_,k1,k2,oh (JV _ _ k3) (by simp)⟩
      |vW v=>exact⟨_,_,k1,k2,oh (JV _ _ k3) (by simp)⟩
    ·cases h
   ·exact abo bE h
  ·rename_i x
   split at h
   ·rename_i gl _
    split at h
    ·cases h
    ·rename_i g _
     have hp:=B6 (C:=C) (S:=S) (l:=g.l);refine X3 (g:=g) (λh=>?_) h;clear hp;generalize l6 C S g.l=S at h;split at h
     ·rename_i v hv
      split at h
      ·rename_i x0 g' Jr
       cases hb:(wA g.nm g'.th&&wB S.nx g.nm)with
       |false=>rw[hb]at h;cases h
       |true=>
        rw[hb]at h;simp only[aiJ]at hb;simp only[cond_true]at h;cases hc:xS S.nx ((⟨jq (λd=> !(di (IN x) d||yO g.l d)) S.F,g'.O,S.D⟩:Ly G)::C)with
        |false=>rw[hc]at h;cases h
        |true=>rw[hc]at h;obtain⟨e1,S1,k1,k2,k3⟩:=Yq (g:=g) bE hc _ _ h;exact⟨e1,_,k1,k2,Xv hv Jr hb.1 hb.2 rfl hc k3⟩
      ·cases h
     ·cases h
   ·obtain⟨e1,S1,k1,k2,k3⟩:=bE _ _ _ _ _ _ _ h
    exact⟨e1,S1,k1,k2,ael k3⟩
   ·cases h
  ·split at h
   ·rename_i KH _
    exact abu bE KH h
   ·rename_i KH _
    exact abv bE KH h
   ·cases h
  ·cases h
 ·rename_i x
  obtain⟨e1,S1,k1,k2,k3⟩:=bE _ _ _ _ _ _ _ h;cases e1 with
  |jj=>obtain⟨e2,S2,m1,m2,m3⟩:=bE _ _ _ _ _ _ _ k1;exact⟨e2,S2,m1,Nat.le_trans k2 m2,Ng k3 m3 k2⟩
  |exit i=>exact⟨_,S1,k1,k2,A0 k3 (by simp)⟩
  |ret=>exact⟨_,S1,k1,k2,A0 k3 (by simp)⟩
  |vW v=>exact⟨_,S1,k1,k2,A0 k3 (by simp)⟩
theorem agj:∀n:Nat,pC P (W (Z:=Z) tb n):=by
 intro n
 induction n with
 |zero=>intro N cp C cf S K z h;cases h
 |succ n ih=>exact XC ih
end Go.Rw
namespace Go.Proofs.Z
open Go Go.Bw Go.Rw Go.RowKit
structure fA where
 Do:Int
 I:Int
 V:Int
abbrev j8:cP fA:=cP.via (LP (LI .u8) (LP (LI .i64) (LI .u64))) (λx=>(x.Do,x.I,x.V))
abbrev qI:fA:=⟨0,0,0⟩
instance:Inhabited fA:=⟨qI⟩
def BD:List Value:=[.int .u8 0]++([.int .i64 0]++([.int .u64 0]))
theorem JJ{A:World->Prop}:j8.eH A BD qI:=⟨_,_,rfl,rfl,⟨_,_,rfl,rfl,rfl⟩⟩
theorem HV:aW j8 (LI .u8) 0 (λx=>x.Do) (λx v=>{x with Do:=v}):=(aW.fst aW.id).via _ _ _ 0 rfl (λ_ =>rfl) (λ_ _ =>rfl)
theorem II:aW j8 (LI .i64) 1 (λx=>x.I) (λx v=>{x with I:=v}):=(aW.snd (aW.fst aW.id)).via _ _ _ 1 rfl (λ_ =>rfl) (λ_ _ =>rfl)
theorem IG:aW j8 (LI .u64) 2 (λx=>x.V) (λx v=>{x with V:=v}):=(aW.snd (aW.snd aW.id)).via _ _ _ 2 rfl (λ_ =>rfl) (λ_ _ =>rfl)
structure aM where
 L:(List Int)
 gq:Int
abbrev sw:cP aM:=cP.via (LP (@WH Int ⟨0⟩ (LI .u64)) (LI .i64)) (λx=>(x.L,x.gq))
abbrev kH:aM:=⟨[],0⟩
instance:Inhabited aM:=⟨kH⟩
def Ar:List Value:=[.slice none 0 0]++([.int .i64 0])
theorem Ic{A:World->Prop}:sw.eH A Ar kH:=⟨_,_,rfl,⟨_,_,rfl,Bv.nil⟩,rfl⟩
theorem HH:aW sw (@WH Int ⟨0⟩ (LI .u64)) 0 (λx=>x.L) (λx v=>{x with L:=v}):=(aW.fst aW.id).via _ _ _ 0 rfl (λ_ =>rfl) (λ_ _ =>rfl)
theorem Bp:aW sw (LI .i64) 1 (λx=>x.gq) (λx v=>{x with gq:=v}):=(aW.snd aW.id).via _ _ _ 1 rfl (λ_ =>rfl) (λ_ _ =>rfl)
structure ah where
 E:Int
 V:Int
 W:Int
abbrev dg:cP ah:=cP.via (LP (LI .i64) (LP (LI .u64) (LI .u32))) (λx=>(x.E,x.V,x.W))
abbrev ay:ah:=⟨0,0,0⟩
instance:Inhabited ah:=⟨ay⟩
def iL:List Value:=[.int .i64 0]++([.int .u64 0]++([.int .u32 0]))
theorem wX{A:World->Prop}:dg.eH A iL ay:=⟨_,_,rfl,rfl,⟨_,_,rfl,rfl,rfl⟩⟩
theorem D7:aW dg (LI .i64) 0 (λx=>x.E) (λx v=>{x with E:=v}):=(aW.fst aW.id).via _ _ _ 0 rfl (λ_ =>rfl) (λ_ _ =>rfl)
theorem D6:aW dg (LI .u64) 1 (λx=>x.V) (λx v=>{x with V:=v}):=(aW.snd (aW.fst aW.id)).via _ _ _ 1 rfl (λ_ =>rfl) (λ_ _ =>rfl)
theorem D5:aW dg (LI .u32) 2 (λx=>x.W) (λx v=>{x with W:=v}):=(aW.snd (aW.snd aW.id)).via _ _ _ 2 rfl (λ_ =>rfl) (λ_ _ =>rfl)
structure aC where
 Do:Int
 R:Int
 S:Int
 A:Int
 B:Int
 V:Int
abbrev gv:cP aC:=cP.via (LP (LI .u8) (LP (LI .u32) (LP (LI .u32) (LP (LI .u32) (LP (LI .u32) (LI .u64)))))) (λx=>(x.Do,x.R,x.S,x.A,x.B,x.V))
abbrev eF:aC:=⟨0,0,0,0,0,0⟩
def kV:List Value:=[.int .u8 0]++([.int .u32 0]++([.int .u32 0]++([.int .u32 0]++([.int .u32 0]++([.int .u64 0])))))
theorem uK{A:World->Prop}:gv.eH A kV eF:=⟨_,_,rfl,rfl,⟨_,_,rfl,rfl,⟨_,_,rfl,rfl,⟨_,_,rfl,rfl,⟨_,_,rfl,rfl,rfl⟩⟩⟩⟩⟩
theorem Fe:aW gv (LI .u8) 0 (λx=>x.Do) (λx v=>{x with Do:=v}):=(aW.fst aW.id).via _ _ _ 0 rfl (λ_ =>rfl) (λ_ _ =>rfl)
theorem HR:aW gv (LI .u32) 1 (λx=>x.R) (λx v=>{x with R:=v}):=(aW.snd (aW.fst aW.id)).via _ _ _ 1 rfl (λ_ =>rfl) (λ_ _ =>rfl)
theorem HQ:aW gv (LI .u32) 2 (λx=>x.S) (λx v=>{x with S:=v}):=(aW.snd (aW.snd (aW.fst aW.id))).via _ _ _ 2 rfl (λ_ =>rfl) (λ_ _ =>rfl)
theorem HU:aW gv (LI .u32) 3 (λx=>x.A) (λx v=>{x with A:=v}):=(aW.snd (aW.snd (aW.snd (aW.fst aW.id)))).via _ _ _ 3 rfl (λ_ =>rfl) (λ_ _ =>rfl)
theorem HT:aW gv (LI .u32) 4 (λx=>x.B) (λx v=>{x with B:=v}):=(aW.snd (aW.snd (aW.snd (aW.snd (aW.fst aW.id))))).via _ _ _ 4 rfl (λ_ =>rfl) (λ_ _ =>rfl)
theorem HP:aW gv (LI .u64) 5 (λx=>x.V) (λx v=>{x with V:=v}):=(aW.snd (aW.snd (aW.snd (aW.snd (aW.snd aW.id))))).via _ _ _ 5 rfl (λ_ =>rfl) (λ_ _ =>rfl)
structure av where
 At:Int
 N:Int
abbrev bI:cP av:=cP.via (LP (LI .i64) (LI .i64)) (λx=>(x.At,x.N))
abbrev aB:av:=⟨0,0⟩
instance:Inhabited av:=⟨aB⟩
def oe:List Value:=[.int .i64 0]++([.int .i64 0])
theorem xY{A:World->Prop}:bI.eH A oe aB:=⟨_,_,rfl,rfl,rfl⟩
theorem ID:aW bI (LI .i64) 0 (λx=>x.At) (λx v=>{x with At:=v}):=(aW.fst aW.id).via _ _ _ 0 rfl (λ_ =>rfl) (λ_ _ =>rfl)
theorem Lf:aW bI (LI .i64) 1 (λx=>x.N) (λx v=>{x with N:=v}):=(aW.snd aW.id).via _ _ _ 1 rfl (λ_ =>rfl) (λ_ _ =>rfl)
structure aD where
 aL:(List av)
 ep:Int
abbrev iP:cP aD:=cP.via (LP (@WH av ⟨aB⟩ bI) (LI .i64)) (λx=>(x.aL,x.ep))
abbrev cB:aD:=⟨[],0⟩
instance:Inhabited aD:=⟨cB⟩
def g8:List Value:=[.slice none 0 0]++([.int .i64 0])
theorem mH{A:World->Prop}:iP.eH A g8 cB:=⟨_,_,rfl,⟨_,_,rfl,Bv.nil⟩,rfl⟩
theorem zu:aW iP (@WH av ⟨aB⟩ bI) 0 (λx=>x.aL) (λx v=>{x with aL:=v}):=(aW.fst aW.id).via _ _ _ 0 rfl (λ_ =>rfl) (λ_ _ =>rfl)
theorem Ak:aW iP (LI .i64) 1 (λx=>x.ep) (λx v=>{x with ep:=v}):=(aW.snd aW.id).via _ _ _ 1 rfl (λ_ =>rfl) (λ_ _ =>rfl)
structure aP where
 Up:Int
 gF:Int
 E:aD
 qQ:(Nat->Int)
abbrev gG:cP aP:=cP.via (LP (LI .u32) (LP (LI .i64) (LP iP (LA (LI .u32) 8)))) (λx=>(x.Up,x.gF,x.E,x.qQ))
abbrev iy:aP:=⟨0,0,cB,(λ_ =>0)⟩
instance:Inhabited aP:=⟨iy⟩
def qV:List Value:=[.int .u32 0]++([.int .i64 0]++(g8++((flat (λ_ =>[.int .u32 0]) 8))))
theorem wW{A:World->Prop}:gG.eH A qV iy:=⟨_,_,rfl,rfl,⟨_,_,rfl,rfl,⟨_,_,rfl,mH,⟨_,rfl,λ_ _ =>rfl⟩⟩⟩⟩
theorem CM:aW gG (LI .u32) 0 (λx=>x.Up) (λx v=>{x with Up:=v}):=(aW.fst aW.id).via _ _ _ 0 rfl (λ_ =>rfl) (λ_ _ =>rfl)
theorem zn:aW gG (LI .i64) 1 (λx=>x.gF) (λx v=>{x with gF:=v}):=(aW.snd (aW.fst aW.id)).via _ _ _ 1 rfl (λ_ =>rfl) (λ_ _ =>rfl)
theorem D2:aW gG iP 2 (λx=>x.E) (λx v=>{x with E:=v}):=(aW.snd (aW.snd (aW.fst aW.id))).via _ _ _ 2 rfl (λ_ =>rfl) (λ_ _ =>rfl)
theorem zo:aW gG (LA (LI .u32) 8) 4 (λx=>x.qQ) (λx v=>{x with qQ:=v}):=(aW.snd (aW.snd (aW.snd aW.id))).via _ _ _ 4 rfl (λ_ =>rfl) (λ_ _ =>rfl)
structure dG where
 gen:Int
 kD:Bool
 ku:Bool
abbrev bV:cP dG:=cP.via (LP (LI .u32) (LP LB LB)) (λx=>(x.gen,x.kD,x.ku))
abbrev ju:dG:=⟨0,false,false⟩
def sI:List Value:=[.int .u32 0]++([.bool false]++([.bool false]))
theorem xZ{A:World->Prop}:bV.eH A sI ju:=⟨_,_,rfl,rfl,⟨_,_,rfl,rfl,rfl⟩⟩
theorem jh:aW bV (LI .u32) 0 (λx=>x.gen) (λx v=>{x with gen:=v}):=(aW.fst aW.id).via _ _ _ 0 rfl (λ_ =>rfl) (λ_ _ =>rfl)
theorem mB:aW bV LB 1 (λx=>x.kD) (λx v=>{x with kD:=v}):=(aW.snd (aW.fst aW.id)).via _ _ _ 1 rfl (λ_ =>rfl) (λ_ _ =>rfl)
theorem pQ:aW bV LB 2 (λx=>x.ku) (λx v=>{x with ku:=v}):=(aW.snd (aW.snd aW.id)).via _ _ _ 2 rfl (λ_ =>rfl) (λ_ _ =>rfl)
structure bR where
 bw:(Nat->dG)
abbrev aO:cP bR:=cP.via (LA bV 32) (λx=>x.bw)
abbrev g6:bR:=⟨(λ_ =>ju)⟩
instance:Inhabited bR:=⟨g6⟩
def oE:List Value:=(flat (λ_ =>sI) 32)
theorem sF{A:World->Prop}:aO.eH A oE g6:=⟨_,rfl,λ_ _ =>xZ⟩
theorem dH:aW aO (LA bV 32) 0 (λx=>x.bw) (λx v=>{x with bw:=v}):=aW.id.via _ _ _ 0 rfl (λ_ =>rfl) (λ_ _ =>rfl)
structure lV where
 kU:bR
abbrev pF:cP lV:=cP.via aO (λx=>x.kU)
abbrev wO:lV:=⟨g6⟩
def Aq:List Value:=oE
theorem Ib{A:World->Prop}:pF.eH A Aq wO:=sF
theorem CL:aW pF aO 0 (λx=>x.kU) (λx v=>{x with kU:=v}):=aW.id.via _ _ _ 0 rfl (λ_ =>rfl) (λ_ _ =>rfl)
structure ax where
 fC:lV
 aY:(Nat->aP)
abbrev kZ:cP ax:=cP.via (LP pF (LA gG 32)) (λx=>(x.fC,x.aY))
abbrev dY:ax:=⟨wO,(λ_ =>iy)⟩
instance:Inhabited ax:=⟨dY⟩
def sH:List Value:=Aq++((flat (λ_ =>qV) 32))
theorem xX{A:World->Prop}:kZ.eH A sH dY:=⟨_,_,rfl,Ib,⟨_,rfl,λ_ _ =>wW⟩⟩
theorem Bo:aW kZ pF 0 (λx=>x.fC) (λx v=>{x with fC:=v}):=(aW.fst aW.id).via _ _ _ 0 rfl (λ_ =>rfl) (λ_ _ =>rfl)
theorem xN:aW kZ (LA gG 32) 96 (λx=>x.aY) (λx v=>{x with aY:=v}):=(aW.snd aW.id).via _ _ _ 96 rfl (λ_ =>rfl) (λ_ _ =>rfl)
structure fB where
 xP:Int
 jW:Int
 ji:Int
abbrev qa:cP fB:=cP.via (LP (LI .u8) (LP (LI .u8) (LI .u8))) (λx=>(x.xP,x.jW,x.ji))
abbrev sC:fB:=⟨0,0,0⟩
instance:Inhabited fB:=⟨sC⟩
def AL:List Value:=[.int .u8 0]++([.int .u8 0]++([.int .u8 0]))
theorem FR{A:World->Prop}:qa.eH A AL sC:=⟨_,_,rfl,rfl,⟨_,_,rfl,rfl,rfl⟩⟩
theorem HO:aW qa (LI .u8) 0 (λx=>x.xP) (λx v=>{x with xP:=v}):=(aW.fst aW.id).via _ _ _ 0 rfl (λ_ =>rfl) (λ_ _ =>rfl)
theorem HM:aW qa (LI .u8) 1 (λx=>x.jW) (λx v=>{x with jW:=v}):=(aW.snd (aW.fst aW.id)).via _ _ _ 1 rfl (λ_ =>rfl) (λ_ _ =>rfl)
theorem CO:aW qa (LI .u8) 2 (λx=>x.ji) (λx v=>{x with ji:=v}):=(aW.snd (aW.snd aW.id)).via _ _ _ 2 rfl (λ_ =>rfl) (λ_ _ =>rfl)
structure mg where
 root:Int
 own:fB
abbrev p9:cP mg:=cP.via (LP (LI .u32) qa) (λx=>(x.root,x.own))
abbrev pY:mg:=⟨0,sC⟩
def ya:List Value:=[.int .u32 0]++(AL)
theorem Eb{A:World->Prop}:p9.eH A ya pY:=⟨_,_,rfl,rfl,FR⟩
theorem Fc:aW p9 (LI .u32) 0 (λx=>x.root) (λx v=>{x with root:=v}):=(aW.fst aW.id).via _ _ _ 0 rfl (λ_ =>rfl) (λ_ _ =>rfl)
theorem HJ:aW p9 qa 1 (λx=>x.own) (λx v=>{x with own:=v}):=(aW.snd aW.id).via _ _ _ 1 rfl (λ_ =>rfl) (λ_ _ =>rfl)
structure dy where
 bw:(Nat->mg)
abbrev tM:cP dy:=cP.via (LA p9 32) (λx=>x.bw)
abbrev pZ:dy:=⟨(λ_ =>pY)⟩
instance:Inhabited dy:=⟨pZ⟩
def yb:List Value:=(flat (λ_ =>ya) 32)
theorem Ec{A:World->Prop}:tM.eH A yb pZ:=⟨_,rfl,λ_ _ =>Eb⟩
theorem D4:aW tM (LA p9 32) 0 (λx=>x.bw) (λx v=>{x with bw:=v}):=aW.id.via _ _ _ 0 rfl (λ_ =>rfl) (λ_ _ =>rfl)
structure bC where
 Region:Int
 By:Int
 To:Int
 mW:Bool
 uJ:Int
abbrev bz:cP bC:=cP.via (LP (LI .u32) (LP (LI .u8) (LP (LI .u8) (LP LB (LI .u32))))) (λx=>(x.Region,x.By,x.To,x.mW,x.uJ))
abbrev gZ:bC:=⟨0,0,0,false,0⟩
instance:Inhabited bC:=⟨gZ⟩
def sG:List Value:=[.int .u32 0]++([.int .u8 0]++([.int .u8 0]++([.bool false]++([.int .u32 0]))))
theorem xW{A:World->Prop}:bz.eH A sG gZ:=⟨_,_,rfl,rfl,⟨_,_,rfl,rfl,⟨_,_,rfl,rfl,⟨_,_,rfl,rfl,rfl⟩⟩⟩⟩
theorem zm:aW bz (LI .u32) 0 (λx=>x.Region) (λx v=>{x with Region:=v}):=(aW.fst aW.id).via _ _ _ 0 rfl (λ_ =>rfl) (λ_ _ =>rfl)
theorem D1:aW bz (LI .u8) 1 (λx=>x.By) (λx v=>{x with By:=v}):=(aW.snd (aW.fst aW.id)).via _ _ _ 1 rfl (λ_ =>rfl) (λ_ _ =>rfl)
theorem DZ:aW bz (LI .u8) 2 (λx=>x.To) (λx v=>{x with To:=v}):=(aW.snd (aW.snd (aW.fst aW.id))).via _ _ _ 2 rfl (λ_ =>rfl) (λ_ _ =>rfl)
theorem xM:aW bz LB 3 (λx=>x.mW) (λx v=>{x with mW:=v}):=(aW.snd (aW.snd (aW.snd (aW.fst aW.id)))).via _ _ _ 3 rfl (λ_ =>rfl) (λ_ _ =>rfl)
theorem rO:aW bz (LI .u32) 4 (λx=>x.uJ) (λx v=>{x with uJ:=v}):=(aW.snd (aW.snd (aW.snd (aW.snd aW.id)))).via _ _ _ 4 rfl (λ_ =>rfl) (λ_ _ =>rfl)
structure aV where
 fC:bR
 bw:(Nat->bC)
abbrev az:cP aV:=cP.via (LP aO (LA bz 16)) (λx=>(x.fC,x.bw))
abbrev dJ:aV:=⟨g6,(λ_ =>gZ)⟩
instance:Inhabited aV:=⟨dJ⟩
def qU:List Value:=oE++((flat (λ_ =>sG) 16))
theorem wV{A:World->Prop}:az.eH A qU dJ:=⟨_,_,rfl,sF,⟨_,rfl,λ_ _ =>xW⟩⟩
theorem eL:aW az aO 0 (λx=>x.fC) (λx v=>{x with fC:=v}):=(aW.fst aW.id).via _ _ _ 0 rfl (λ_ =>rfl) (λ_ _ =>rfl)
theorem qL:aW az (LA bz 16) 96 (λx=>x.bw) (λx v=>{x with bw:=v}):=(aW.snd aW.id).via _ _ _ 96 rfl (λ_ =>rfl) (λ_ _ =>rfl)
structure bX where
 T:ax
 O:dy
 K:aV
abbrev fg:cP bX:=cP.via (LP kZ (LP tM az)) (λx=>(x.T,x.O,x.K))
abbrev wP:bX:=⟨dY,pZ,dJ⟩
def As:List Value:=sH++(yb++(qU))
theorem Ie{A:World->Prop}:fg.eH A As wP:=⟨_,_,rfl,xX,⟨_,_,rfl,Ec,wV⟩⟩
theorem HW:aW fg kZ 0 (λx=>x.T) (λx v=>{x with T:=v}):=(aW.fst aW.id).via _ _ _ 0 rfl (λ_ =>rfl) (λ_ _ =>rfl)
theorem HX:aW fg tM 480 (λx=>x.O) (λx v=>{x with O:=v}):=(aW.snd (aW.fst aW.id)).via _ _ _ 480 rfl (λ_ =>rfl) (λ_ _ =>rfl)
theorem HY:aW fg az 608 (λx=>x.K) (λx v=>{x with K:=v}):=(aW.snd (aW.snd aW.id)).via _ _ _ 608 rfl (λ_ =>rfl) (λ_ _ =>rfl)
structure aU where
 HZ:Int
 Iz:Int
 Region:Int
 zi:Bool
abbrev fb:cP aU:=cP.via (LP (LI .u8) (LP (LI .u64) (LP (LI .u32) LB))) (λx=>(x.HZ,x.Iz,x.Region,x.zi))
abbrev iz:aU:=⟨0,0,0,false⟩
instance:Inhabited aU:=⟨iz⟩
def qW:List Value:=[.int .u8 0]++([.int .u64 0]++([.int .u32 0]++([.bool false])))
theorem wY{A:World->Prop}:fb.eH A qW iz:=⟨_,_,rfl,rfl,⟨_,_,rfl,rfl,⟨_,_,rfl,rfl,rfl⟩⟩⟩
theorem Aj:aW fb (LI .u8) 0 (λx=>x.HZ) (λx v=>{x with HZ:=v}):=(aW.fst aW.id).via _ _ _ 0 rfl (λ_ =>rfl) (λ_ _ =>rfl)
theorem Ai:aW fb (LI .u64) 1 (λx=>x.Iz) (λx v=>{x with Iz:=v}):=(aW.snd (aW.fst aW.id)).via _ _ _ 1 rfl (λ_ =>rfl) (λ_ _ =>rfl)
theorem xO:aW fb (LI .u32) 2 (λx=>x.Region) (λx v=>{x with Region:=v}):=(aW.snd (aW.snd (aW.fst aW.id))).via _ _ _ 2 rfl (λ_ =>rfl) (λ_ _ =>rfl)
theorem zq:aW fb LB 3 (λx=>x.zi) (λx v=>{x with zi:=v}):=(aW.snd (aW.snd (aW.snd aW.id))).via _ _ _ 3 rfl (λ_ =>rfl) (λ_ _ =>rfl)
structure cm where
 ring:(Nat->aU)
 xo:Int
 n:Int
 closed:Bool
abbrev mE:cP cm:=cP.via (LP (LA fb 4) (LP (LI .i64) (LP (LI .i64) LB))) (λx=>(x.ring,x.xo,x.n,x.closed))
abbrev p6:cm:=⟨(λ_ =>iz),0,0,false⟩
instance:Inhabited cm:=⟨p6⟩
def yc:List Value:=(flat (λ_ =>qW) 4)++([.int .i64 0]++([.int .i64 0]++([.bool false])))
theorem Ed{A:World->Prop}:mE.eH A yc p6:=⟨_,_,rfl,⟨_,rfl,λ_ _ =>wY⟩,⟨_,_,rfl,rfl,⟨_,_,rfl,rfl,rfl⟩⟩⟩
theorem Fg:aW mE (LA fb 4) 0 (λx=>x.ring) (λx v=>{x with ring:=v}):=(aW.fst aW.id).via _ _ _ 0 rfl (λ_ =>rfl) (λ_ _ =>rfl)
theorem D9:aW mE (LI .i64) 16 (λx=>x.xo) (λx v=>{x with xo:=v}):=(aW.snd (aW.fst aW.id)).via _ _ _ 16 rfl (λ_ =>rfl) (λ_ _ =>rfl)
theorem Lh:aW mE (LI .i64) 17 (λx=>x.n) (λx v=>{x with n:=v}):=(aW.snd (aW.snd (aW.fst aW.id))).via _ _ _ 17 rfl (λ_ =>rfl) (λ_ _ =>rfl)
theorem CQ:aW mE LB 18 (λx=>x.closed) (λx v=>{x with closed:=v}):=(aW.snd (aW.snd (aW.snd aW.id))).via _ _ _ 18 rfl (λ_ =>rfl) (λ_ _ =>rfl)
structure ae where
 dK:bX
 kT:(Nat->cm)
 mF:(Nat->Bool)
 Fm:(Nat->Bool)
abbrev ld:cP ae:=cP.via (LP fg (LP (LA mE 8) (LP (LA LB 8) (LA LB 8)))) (λx=>(x.dK,x.kT,x.mF,x.Fm))
abbrev cS:ae:=⟨wP,(λ_ =>p6),(λ_ =>false),(λ_ =>false)⟩
instance:Inhabited ae:=⟨cS⟩
def gw:List Value:=As++((flat (λ_ =>yc) 8)++((flat (λ_ =>[.bool false]) 8)++((flat (λ_ =>[.bool false]) 8))))
theorem sE{A:World->Prop}:ld.eH A gw cS:=⟨_,_,rfl,Ie,⟨_,_,rfl,⟨_,rfl,λ_ _ =>Ed⟩,⟨_,_,rfl,⟨_,rfl,λ_ _ =>rfl⟩,⟨_,rfl,λ_ _ =>rfl⟩⟩⟩⟩
theorem CP:aW ld fg 0 (λx=>x.dK) (λx v=>{x with dK:=v}):=(aW.fst aW.id).via _ _ _ 0 rfl (λ_ =>rfl) (λ_ _ =>rfl)
theorem Ag:aW ld (LA mE 8) 784 (λx=>x.kT) (λx v=>{x with kT:=v}):=(aW.snd (aW.fst aW.id)).via _ _ _ 784 rfl (λ_ =>rfl) (λ_ _ =>rfl)
theorem Ah:aW ld (LA LB 8) 936 (λx=>x.mF) (λx v=>{x with mF:=v}):=(aW.snd (aW.snd (aW.fst aW.id))).via _ _ _ 936 rfl (λ_ =>rfl) (λ_ _ =>rfl)
theorem Bq:aW ld (LA LB 8) 944 (λx=>x.Fm) (λx v=>{x with Fm:=v}):=(aW.snd (aW.snd (aW.snd aW.id))).via _ _ _ 944 rfl (λ_ =>rfl) (λ_ _ =>rfl)
structure cj where
 EX:Int
 n:Int
 EH:(Nat->Int)
abbrev mD:cP cj:=cP.via (LP (LI .u8) (LP (LI .i64) (LA (LI .u8) 8))) (λx=>(x.EX,x.n,x.EH))
abbrev ow:cj:=⟨0,0,(λ_ =>0)⟩
instance:Inhabited cj:=⟨ow⟩
def vY:List Value:=[.int .u8 0]++([.int .i64 0]++((flat (λ_ =>[.int .u8 0]) 8)))
theorem Bz{A:World->Prop}:mD.eH A vY ow:=⟨_,_,rfl,rfl,⟨_,_,rfl,rfl,⟨_,rfl,λ_ _ =>rfl⟩⟩⟩
theorem Ff:aW mD (LI .u8) 0 (λx=>x.EX) (λx v=>{x with EX:=v}):=(aW.fst aW.id).via _ _ _ 0 rfl (λ_ =>rfl) (λ_ _ =>rfl)
theorem IF:aW mD (LI .i64) 1 (λx=>x.n) (λx v=>{x with n:=v}):=(aW.snd (aW.fst aW.id)).via _ _ _ 1 rfl (λ_ =>rfl) (λ_ _ =>rfl)
theorem D8:aW mD (LA (LI .u8) 8) 2 (λx=>x.EH) (λx v=>{x with EH:=v}):=(aW.snd (aW.snd aW.id)).via _ _ _ 2 rfl (λ_ =>rfl) (λ_ _ =>rfl)
structure ai where
 bw:(Nat->cj)
abbrev wU:cP ai:=cP.via (LA mD 32) (λx=>x.bw)
abbrev bB:ai:=⟨(λ_ =>ow)⟩
instance:Inhabited ai:=⟨bB⟩
def nn:List Value:=(flat (λ_ =>vY) 32)
theorem Ao{A:World->Prop}:wU.eH A nn bB:=⟨_,rfl,λ_ _ =>Bz⟩
theorem Br:aW wU (LA mD 32) 0 (λx=>x.bw) (λx v=>{x with bw:=v}):=aW.id.via _ _ _ 0 rfl (λ_ =>rfl) (λ_ _ =>rfl)
structure aF where
 jW:Int
 C:aC
 Checked:Bool
 eu:(List Int)
 xV:av
 qj:Int
abbrev j9:cP aF:=cP.via (LP (LI .i64) (LP gv (LP LB (LP (@WH Int ⟨0⟩ (LI .u32)) (LP bI (LI .i64)))))) (λx=>(x.jW,x.C,x.Checked,x.eu,x.xV,x.qj))
abbrev j0:aF:=⟨0,eF,false,[],aB,0⟩
instance:Inhabited aF:=⟨j0⟩
def oF:List Value:=[.int .i64 0]++(kV++([.bool false]++([.slice none 0 0]++(oe++([.int .i64 0])))))
theorem BA{A:World->Prop}:j9.eH A oF j0:=⟨_,_,rfl,rfl,⟨_,_,rfl,uK,⟨_,_,rfl,rfl,⟨_,_,rfl,⟨_,_,rfl,Bv.nil⟩,⟨_,_,rfl,xY,rfl⟩⟩⟩⟩⟩
theorem Ea:aW j9 (LI .i64) 0 (λx=>x.jW) (λx v=>{x with jW:=v}):=(aW.fst aW.id).via _ _ _ 0 rfl (λ_ =>rfl) (λ_ _ =>rfl)
theorem IJ:aW j9 gv 1 (λx=>x.C) (λx v=>{x with C:=v}):=(aW.snd (aW.fst aW.id)).via _ _ _ 1 rfl (λ_ =>rfl) (λ_ _ =>rfl)
theorem An:aW j9 LB 7 (λx=>x.Checked) (λx v=>{x with Checked:=v}):=(aW.snd (aW.snd (aW.fst aW.id))).via _ _ _ 7 rfl (λ_ =>rfl) (λ_ _ =>rfl)
theorem Al:aW j9 (@WH Int ⟨0⟩ (LI .u32)) 8 (λx=>x.eu) (λx v=>{x with eu:=v}):=(aW.snd (aW.snd (aW.snd (aW.fst aW.id)))).via _ _ _ 8 rfl (λ_ =>rfl) (λ_ _ =>rfl)
theorem Fh:aW j9 bI 9 (λx=>x.xV) (λx v=>{x with xV:=v}):=(aW.snd (aW.snd (aW.snd (aW.snd (aW.fst aW.id))))).via _ _ _ 9 rfl (λ_ =>rfl) (λ_ _ =>rfl)
theorem Am:aW j9 (LI .i64) 11 (λx=>x.qj) (λx v=>{x with qj:=v}):=(aW.snd (aW.snd (aW.snd (aW.snd (aW.snd aW.id))))).via _ _ _ 11 rfl (λ_ =>rfl) (λ_ _ =>rfl)
structure bn where
 l:(List av)
abbrev qN:cP bn:=cP.via (@WH av ⟨aB⟩ bI) (λx=>x.l)
abbrev jY:bn:=⟨[]⟩
instance:Inhabited bn:=⟨jY⟩
def vX:List Value:=[.slice none 0 0]
theorem Bx{A:World->Prop}:qN.eH A vX jY:=⟨_,_,rfl,Bv.nil⟩
theorem IC:aW qN (@WH av ⟨aB⟩ bI) 0 (λx=>x.l) (λx v=>{x with l:=v}):=aW.id.via _ _ _ 0 rfl (λ_ =>rfl) (λ_ _ =>rfl)
structure aj where
 n:Int
 dV:bn
 bytes:(Nat->(Nat->Int))
abbrev qO:cP aj:=cP.via (LP (LI .i64) (LP qN (LA (LA (LI .u8) 32) 64))) (λx=>(x.n,x.dV,x.bytes))
abbrev jZ:aj:=⟨0,jY,(λ_ =>(λ_ =>0))⟩
instance:Inhabited aj:=⟨jZ⟩
def BB:List Value:=[.int .i64 0]++(vX++((flat (λ_ =>(flat (λ_ =>[.int .u8 0]) 32)) 64)))
theorem JI{A:World->Prop}:qO.eH A BB jZ:=⟨_,_,rfl,rfl,⟨_,_,rfl,Bx,⟨_,rfl,λ_ _ =>⟨_,rfl,λ_ _ =>rfl⟩⟩⟩⟩
theorem IE:aW qO (LI .i64) 0 (λx=>x.n) (λx v=>{x with n:=v}):=(aW.fst aW.id).via _ _ _ 0 rfl (λ_ =>rfl) (λ_ _ =>rfl)
theorem D3:aW qO qN 1 (λx=>x.dV) (λx v=>{x with dV:=v}):=(aW.snd (aW.fst aW.id)).via _ _ _ 1 rfl (λ_ =>rfl) (λ_ _ =>rfl)
theorem CN:aW qO (LA (LA (LI .u8) 32) 64) 2 (λx=>x.bytes) (λx v=>{x with bytes:=v}):=(aW.snd (aW.snd aW.id)).via _ _ _ 2 rfl (λ_ =>rfl) (λ_ _ =>rfl)
structure aq where
 aG:ae
 fK:Int
 c:aC
 run:av
 kP:Int
 y9:Bool
 fD:(List av)
abbrev HA:aq:=⟨cS,0,eF,aB,0,false,[]⟩
instance:Inhabited aq:=⟨HA⟩
structure Bu where
 A:Type
 z:A
 L:cP A
def bu:List Bu:=[⟨fA,qI,j8⟩,⟨aM,kH,sw⟩,⟨ah,ay,dg⟩,⟨aC,eF,gv⟩,⟨av,aB,bI⟩,⟨aD,cB,iP⟩,⟨aP,iy,gG⟩,⟨dG,ju,bV⟩,⟨bR,g6,aO⟩,⟨lV,wO,pF⟩,⟨ax,dY,kZ⟩,⟨fB,sC,qa⟩,⟨mg,pY,p9⟩,⟨dy,pZ,tM⟩,⟨bC,gZ,bz⟩,⟨aV,dJ,az⟩,⟨bX,wP,fg⟩,⟨aU,iz,fb⟩,⟨cm,p6,mE⟩,⟨ae,cS,ld⟩,⟨cj,ow,mD⟩,⟨ai,bB,wU⟩,⟨aF,j0,j9⟩,⟨bn,jY,qN⟩,⟨aj,jZ,qO⟩]
def b0:Bu:=⟨Bool,false,LB⟩
def nth:List Bu->Nat->Bu
 |[],_ =>b0
 |b::r,i=>match i with
  |0=>b
  |i+1=>nth r i
def sg:Sg:=⟨λi=>(nth bu i).A,λi=>(nth bu i).z,λi=>(nth bu i).L,some (.u8,[(1,177),(2,178),(3,179),(4,180),(5,181),(6,182),(7,183),(8,184),(9,185),(10,186),(11,187),(12,188),(13,189),(14,190),(15,191),(16,191),(17,192),(18,193),(19,194),(20,195),(21,196),(22,197)])⟩
def fds:OH sg
 |0=>[⟨(.int .u8),0,λ(x:fA)=>x.Do,λ(x:fA) v=>({x with Do:=v}:fA),HV⟩,⟨(.int .i64),1,λ(x:fA)=>x.I,λ(x:fA) v=>({x with I:=v}:fA),II⟩,⟨(.int .u64),2,λ(x:fA)=>x.V,λ(x:fA) v=>({x with V:=v}:fA),IG⟩]
 |1=>[⟨(.sl (.int .u64)),0,λ(x:aM)=>x.L,λ(x:aM) v=>({x with L:=v}:aM),HH⟩,⟨(.int .i64),1,λ(x:aM)=>x.gq,λ(x:aM) v=>({x with gq:=v}:aM),Bp⟩]
 |2=>[⟨(.int .i64),0,λ(x:ah)=>x.E,λ(x:ah) v=>({x with E:=v}:ah),D7⟩,⟨(.int .u64),1,λ(x:ah)=>x.V,λ(x:ah) v=>({x with V:=v}:ah),D6⟩,⟨(.int .u32),2,λ(x:ah)=>x.W,λ(x:ah) v=>({x with W:=v}:ah),D5⟩]
 |3=>[⟨(.int .u8),0,λ(x:aC)=>x.Do,λ(x:aC) v=>({x with Do:=v}:aC),Fe⟩,⟨(.int .u32),1,λ(x:aC)=>x.R,λ(x:aC) v=>({x with R:=v}:aC),HR⟩,⟨(.int .u32),2,λ(x:aC)=>x.S,λ(x:aC) v=>({x with S:=v}:aC),HQ⟩,⟨(.int .u32),3,λ(x:aC)=>x.A,λ(x:aC) v=>({x with A:=v}:aC),HU⟩,⟨(.int .u32),4,λ(x:aC)=>x.B,λ(x:aC) v=>({x with B:=v}:aC),HT⟩,⟨(.int .u64),5,λ(x:aC)=>x.V,λ(x:aC) v=>({x with V:=v}:aC),HP⟩]
 |4=>[⟨(.int .i64),0,λ(x:av)=>x.At,λ(x:av) v=>({x with At:=v}:av),ID⟩,⟨(.int .i64),1,λ(x:av)=>x.N,λ(x:av) v=>({x with N:=v}:av),Lf⟩]
 |5=>[⟨(.sl (.st 4)),0,λ(x:aD)=>x.aL,λ(x:aD) v=>({x with aL:=v}:aD),zu⟩,⟨(.int .i64),1,λ(x:aD)=>x.ep,λ(x:aD) v=>({x with ep:=v}:aD),Ak⟩]
 |6=>[⟨(.int .u32),0,λ(x:aP)=>x.Up,λ(x:aP) v=>({x with Up:=v}:aP),CM⟩,⟨(.int .i64),1,λ(x:aP)=>x.gF,λ(x:aP) v=>({x with gF:=v}:aP),zn⟩,⟨(.st 5),2,λ(x:aP)=>x.E,λ(x:aP) v=>({x with E:=v}:aP),D2⟩,⟨(.lQ 8 (.int .u32)),4,λ(x:aP)=>x.qQ,λ(x:aP) v=>({x with qQ:=v}:aP),zo⟩]
 |7=>[⟨(.int .u32),0,λ(x:dG)=>x.gen,λ(x:dG) v=>({x with gen:=v}:dG),jh⟩,⟨.bool,1,λ(x:dG)=>x.kD,λ(x:dG) v=>({x with kD:=v}:dG),mB⟩,⟨.bool,2,λ(x:dG)=>x.ku,λ(x:dG) v=>({x with ku:=v}:dG),pQ⟩]
 |8=>[⟨(.lQ 32 (.st 7)),0,λ(x:bR)=>x.bw,λ(x:bR) v=>({x with bw:=v}:bR),dH⟩]
 |9=>[⟨(.st 8),0,λ(x:lV)=>x.kU,λ(x:lV) v=>({x with kU:=v}:lV),CL⟩]
 |10=>[⟨(.st 9),0,λ(x:ax)=>x.fC,λ(x:ax) v=>({x with fC:=v}:ax),Bo⟩,⟨(.lQ 32 (.st 6)),96,λ(x:ax)=>x.aY,λ(x:ax) v=>({x with aY:=v}:ax),xN⟩]
 |11=>[⟨(.int .u8),0,λ(x:fB)=>x.xP,λ(x:fB) v=>({x with xP:=v}:fB),HO⟩,⟨(.int .u8),1,λ(x:fB)=>x.jW,λ(x:fB) v=>({x with jW:=v}:fB),HM⟩,⟨(.int .u8),2,λ(x:fB)=>x.ji,λ(x:fB) v=>({x with ji:=v}:fB),CO⟩]
 |12=>[⟨(.int .u32),0,λ(x:mg)=>x.root,λ(x:mg) v=>({x with root:=v}:mg),Fc⟩,⟨(.st 11),1,λ(x:mg)=>x.own,λ(x:mg) v=>({x with own:=v}:mg),HJ⟩]
 |13=>[⟨(.lQ 32 (.st 12)),0,λ(x:dy)=>x.bw,λ(x:dy) v=>({x with bw:=v}:dy),D4⟩]
 |14=>[⟨(.int .u32),0,λ(x:bC)=>x.Region,λ(x:bC) v=>({x with Region:=v}:bC),zm⟩,⟨(.int .u8),1,λ(x:bC)=>x.By,λ(x:bC) v=>({x with By:=v}:bC),D1⟩,⟨(.int .u8),2,λ(x:bC)=>x.To,λ(x:bC) v=>({x with To:=v}:bC),DZ⟩,⟨.bool,3,λ(x:bC)=>x.mW,λ(x:bC) v=>({x with mW:=v}:bC),xM⟩,⟨(.int .u32),4,λ(x:bC)=>x.uJ,λ(x:bC) v=>({x with uJ:=v}:bC),rO⟩]
 |15=>[⟨(.st 8),0,λ(x:aV)=>x.fC,λ(x:aV) v=>({x with fC:=v}:aV),eL⟩,⟨(.lQ 16 (.st 14)),96,λ(x:aV)=>x.bw,λ(x:aV) v=>({x with bw:=v}:aV),qL⟩]
 |16=>[⟨(.st 10),0,λ(x:bX)=>x.T,λ(x:bX) v=>({x with T:=v}:bX),HW⟩,⟨(.st 13),480,λ(x:bX)=>x.O,λ(x:bX) v=>({x with O:=v}:bX),HX⟩,⟨(.st 15),608,λ(x:bX)=>x.K,λ(x:bX) v=>({x with K:=v}:bX),HY⟩]
 |17=>[⟨(.int .u8),0,λ(x:aU)=>x.HZ,λ(x:aU) v=>({x with HZ:=v}:aU),Aj⟩,⟨(.int .u64),1,λ(x:aU)=>x.Iz,λ(x:aU) v=>({x with Iz:=v}:aU),Ai⟩,⟨(.int .u32),2,λ(x:aU)=>x.Region,λ(x:aU) v=>({x with Region:=v}:aU),xO⟩,⟨.bool,3,λ(x:aU)=>x.zi,λ(x:aU) v=>({x with zi:=v}:aU),zq⟩]
 |18=>[⟨(.lQ 4 (.st 17)),0,λ(x:cm)=>x.ring,λ(x:cm) v=>({x with ring:=v}:cm),Fg⟩,⟨(.int .i64),16,λ(x:cm)=>x.xo,λ(x:cm) v=>({x with xo:=v}:cm),D9⟩,⟨(.int .i64),17,λ(x:cm)=>x.n,λ(x:cm) v=>({x with n:=v}:cm),Lh⟩,⟨.bool,18,λ(x:cm)=>x.closed,λ(x:cm) v=>({x with closed:=v}:cm),CQ⟩]
 |19=>[⟨(.st 16),0,λ(x:ae)=>x.dK,λ(x:ae) v=>({x with dK:=v}:ae),CP⟩,⟨(.lQ 8 (.st 18)),784,λ(x:ae)=>x.kT,λ(x:ae) v=>({x with kT:=v}:ae),Ag⟩,⟨(.lQ 8 .bool),936,λ(x:ae)=>x.mF,λ(x:ae) v=>({x with mF:=v}:ae),Ah⟩,⟨(.lQ 8 .bool),944,λ(x:ae)=>x.Fm,λ(x:ae) v=>({x with Fm:=v}:ae),Bq⟩]
 |20=>[⟨(.int .u8),0,λ(x:cj)=>x.EX,λ(x:cj) v=>({x with EX:=v}:cj),Ff⟩,⟨(.int .i64),1,λ(x:cj)=>x.n,λ(x:cj) v=>({x with n:=v}:cj),IF⟩,⟨(.lQ 8 (.int .u8)),2,λ(x:cj)=>x.EH,λ(x:cj) v=>({x with EH:=v}:cj),D8⟩]
 |21=>[⟨(.lQ 32 (.st 20)),0,λ(x:ai)=>x.bw,λ(x:ai) v=>({x with bw:=v}:ai),Br⟩]
 |22=>[⟨(.int .i64),0,λ(x:aF)=>x.jW,λ(x:aF) v=>({x with jW:=v}:aF),Ea⟩,⟨(.st 3),1,λ(x:aF)=>x.C,λ(x:aF) v=>({x with C:=v}:aF),IJ⟩,⟨.bool,7,λ(x:aF)=>x.Checked,λ(x:aF) v=>({x with Checked:=v}:aF),An⟩,⟨(.sl (.int .u32)),8,λ(x:aF)=>x.eu,λ(x:aF) v=>({x with eu:=v}:aF),Al⟩,⟨(.st 4),9,λ(x:aF)=>x.xV,λ(x:aF) v=>({x with xV:=v}:aF),Fh⟩,⟨(.int .i64),11,λ(x:aF)=>x.qj,λ(x:aF) v=>({x with qj:=v}:aF),Am⟩]
 |23=>[⟨(.sl (.st 4)),0,λ(x:bn)=>x.l,λ(x:bn) v=>({x with l:=v}:bn),IC⟩]
 |24=>[⟨(.int .i64),0,λ(x:aj)=>x.n,λ(x:aj) v=>({x with n:=v}:aj),IE⟩,⟨(.st 23),1,λ(x:aj)=>x.dV,λ(x:aj) v=>({x with dV:=v}:aj),D3⟩,⟨(.lQ 64 (.lQ 32 (.int .u8))),2,λ(x:aj)=>x.bytes,λ(x:aj) v=>({x with bytes:=v}:aj),CN⟩]
 |_ =>[]
def teT:MP TE:=(.dZ 113 (.st [(0,some 952),(952,none),(953,some 320),(1273,none)] 1274) (.dZ 72 (.st [(0,none),(1,none),(2,none)] 3) (.dZ 31 (.int .i64) (.dZ 22 (.sl 33 1 8) (.dZ 5 (.int .u8) (.dZ 3 (.int .i64) (.dZ 1 .one .dW .dW) (.dZ 4 .bool .dW .dW)) (.dZ 20 .one (.dZ 9 .one .dW .dW) .dW)) (.dZ 25 (.int .u32) (.dZ 24 (.int .u32) (.dZ 23 .ptr .dW .dW) .dW) (.dZ 30 .one (.dZ 27 (.st [(0,none),(1,none),(2,none)] 3) .dW .dW) .dW))) (.dZ 58 (.st [(0,none),(1,none),(2,none),(3,none),(4,none),(5,none)] 6) (.dZ 48 (.st [(0,none),(1,none),(2,none)] 3) (.dZ 42 (.sl 48 3 24) (.dZ 33 (.int .u64) .dW .dW) (.dZ 44 (.st [(0,none),(1,none)] 2) .dW .dW)) (.dZ 55 (.st [(0,none),(1,none),(2,none)] 3) (.dZ 51 (.sl 5 1 1) .dW .dW) .dW)) (.dZ 66 (.st [(0,none),(1,none)] 2) (.dZ 64 (.sl 158 2 16) (.dZ 59 (.lQ 3 27 3 9) .dW .dW) .dW) (.dZ 69 (.st [(0,none),(1,none),(2,some 2),(4,some 8)] 12) (.dZ 67 (.lQ 8 25 1 8) .dW .dW) .dW)))) (.dZ 94 (.st [(0,some 480),(480,some 128),(608,some 176)] 784) (.dZ 84 (.st [(0,none),(1,some 3)] 4) (.dZ 78 (.lQ 32 69 12 384) (.dZ 75 (.st [(0,some 96)] 96) (.dZ 73 (.lQ 32 72 3 96) .dW .dW) (.dZ 77 (.st [(0,some 96)] 96) .dW .dW)) (.dZ 82 (.st [(0,none),(1,none),(2,none)] 3) (.dZ 80 (.st [(0,some 96),(96,some 384)] 480) .dW .dW) .dW)) (.dZ 89 (.st [(0,none),(1,none),(2,none),(3,none),(4,none)] 5) (.dZ 87 (.st [(0,some 128)] 128) (.dZ 85 (.lQ 32 84 4 128) .dW .dW) .dW) (.dZ 92 (.st [(0,some 96),(96,some 80)] 176) (.dZ 90 (.lQ 16 89 5 80) .dW .dW) .dW))) (.dZ 104 .ptr (.dZ 100 (.lQ 8 99 19 152) (.dZ 97 (.lQ 4 96 4 16) (.dZ 96 (.st [(0,none),(1,none),(2,none),(3,none)] 4) .dW .dW) (.dZ 99 (.st [(0,some 16),(16,none),(17,none),(18,none)] 19) .dW .dW)) (.dZ 103 (.st [(0,some 784),(784,some 152),(936,some 8),(944,some 8)] 952) (.dZ 101 (.lQ 8 4 1 8) .dW .dW) .dW)) (.dZ 108 (.lQ 32 107 10 320) (.dZ 107 (.st [(0,none),(1,none),(2,some 8)] 10) (.dZ 105 (.lQ 8 5 1 8) .dW .dW) .dW) (.dZ 111 (.sl 3 1 8) (.dZ 110 (.st [(0,some 320)] 320) .dW .dW) .dW))))) (.dZ 210 .ptr (.dZ 160 (.st [(0,none),(1,some 6),(7,none),(8,none),(9,some 2),(11,none)] 12) (.dZ 141 (.st [(0,none),(1,none)] 2) (.dZ 128 .one (.dZ 125 .one (.dZ 120 .ptr .dW .dW) (.dZ 127 .one .dW .dW)) (.dZ 139 .ptr (.dZ 130 .one .dW .dW) .dW)) (.dZ 153 .one (.dZ 150 (.st [(0,some 3),(3,none)] 4) (.dZ 143 .one .dW .dW) .dW) (.dZ 158 (.st [(0,none),(1,none)] 2) (.dZ 156 (.sl 25 1 4) .dW .dW) .dW))) (.dZ 183 (.lQ 64 182 32 2048) (.dZ 178 .ptr (.dZ 173 (.st [(0,none),(1,some 12),(13,some 3),(16,none)] 17) (.dZ 171 .ptr .dW .dW) (.dZ 174 (.lQ 5 30 1 5) .dW .dW)) (.dZ 182 (.lQ 32 5 1 32) (.dZ 180 (.st [(0,none)] 1) .dW .dW) .dW)) (.dZ 201 .one (.dZ 187 .one (.dZ 185 (.st [(0,none),(1,some 1),(2,some 2048)] 2050) .dW .dW) .dW) (.dZ 208 .one (.dZ 207 .one .dW .dW) .dW)))) (.dZ 246 (.sl 64 1 24) (.dZ 228 .one (.dZ 222 .ptr (.dZ 215 .one (.dZ 212 (.st [(0,some 952),(952,none),(953,some 6),(959,some 2),(961,none),(962,none),(963,none)] 964) .dW .dW) (.dZ 220 .one .dW .dW)) (.dZ 226 .one (.dZ 225 .ptr .dW .dW) .dW)) (.dZ 236 .one (.dZ 234 .one (.dZ 232 .one .dW .dW) .dW) (.dZ 243 .one (.dZ 237 .one .dW .dW) .dW))) (.dZ 335 .ptr (.dZ 310 .one (.dZ 305 (.sl 96 4 24) (.dZ 284 .one .dW .dW) .dW) (.dZ 332 .one (.dZ 312 .one .dW .dW) .dW)) (.dZ 351 .one (.dZ 350 .one (.dZ 342 .one .dW .dW) .dW) (.dZ 356 .one (.dZ 355 .ptr .dW .dW) .dW))))))
def tt:TT Tryz.prog sg:=⟨fds,teT,by kernel_rfl⟩
theorem zt3(J:World->Prop)(ρ:aZ):∃u:Value,bK Tryz.prog 3=some u.cells.toList/\rv (G:=sg) J ρ (.int .i64 0) u:=⟨.int .i64 0,by kernel_rfl,rfl⟩
theorem zt4(J:World->Prop)(ρ:aZ):∃u:Value,bK Tryz.prog 4=some u.cells.toList/\rv (G:=sg) J ρ (.bool false) u:=⟨.bool false,by kernel_rfl,rfl⟩
theorem zt5(J:World->Prop)(ρ:aZ):∃u:Value,bK Tryz.prog 5=some u.cells.toList/\rv (G:=sg) J ρ (.int .u8 0) u:=⟨.int .u8 0,by kernel_rfl,rfl⟩
theorem agZ(J:World->Prop)(ρ:aZ):∃u:Value,bK Tryz.prog 22=some u.cells.toList/\rv (G:=sg) J ρ .jB u:=⟨.slice none 0 0,by kernel_rfl,rfl⟩
theorem agY(J:World->Prop)(ρ:aZ):∃u:Value,bK Tryz.prog 25=some u.cells.toList/\rv (G:=sg) J ρ (.int .u32 0) u:=⟨.int .u32 0,by kernel_rfl,rfl⟩
theorem agX(J:World->Prop)(ρ:aZ):∃u:Value,bK Tryz.prog 27=some u.cells.toList/\rv (G:=sg) J ρ (.st (.part 1 .oz (.part 1 (.int .u32 0) (.part 1 (.int .i64 0) .nil)))) u:=⟨.agg ((([.pointer none]:List Value)++(([.int .u32 0]:List Value)++(([.int .i64 0]:List Value)++([]:List Value))))).toArray,by kernel_rfl,⟨_,rfl,⟨[.pointer none],_, .pointer none,rfl,by kernel_rfl,rfl,rfl,⟨[.int .u32 0],_, .int .u32 0,rfl,by kernel_rfl,rfl,rfl,⟨[.int .i64 0],_, .int .i64 0,rfl,by kernel_rfl,rfl,rfl,rfl⟩⟩⟩,iE (by kernel_rfl)⟩⟩
theorem agW(J:World->Prop)(ρ:aZ):∃u:Value,bK Tryz.prog 31=some u.cells.toList/\rv (G:=sg) J ρ (.int .i64 0) u:=⟨.int .i64 0,by kernel_rfl,rfl⟩
theorem agV(J:World->Prop)(ρ:aZ):∃u:Value,bK Tryz.prog 33=some u.cells.toList/\rv (G:=sg) J ρ (.int .u64 0) u:=⟨.int .u64 0,by kernel_rfl,rfl⟩
theorem agU(J:World->Prop)(ρ:aZ):∃u:Value,bK Tryz.prog 44=some u.cells.toList/\rv (G:=sg) J ρ (.dat (.st 1) kH) u:=⟨.agg (Ar).toArray,by kernel_rfl,_,rfl,Ic,λ_ =>⟨_,rfl⟩,nofun⟩
theorem agT(J:World->Prop)(ρ:aZ):∃u:Value,bK Tryz.prog 48=some u.cells.toList/\rv (G:=sg) J ρ (.dat (.st 0) qI) u:=⟨.agg (BD).toArray,by kernel_rfl,_,rfl,JJ,λ_ =>⟨_,rfl⟩,nofun⟩
theorem agS(J:World->Prop)(ρ:aZ):∃u:Value,bK Tryz.prog 55=some u.cells.toList/\rv (G:=sg) J ρ (.dat (.st 2) ay) u:=⟨.agg (iL).toArray,by kernel_rfl,_,rfl,wX,λ_ =>⟨_,rfl⟩,nofun⟩
theorem agR(J:World->Prop)(ρ:aZ):∃u:Value,bK Tryz.prog 58=some u.cells.toList/\rv (G:=sg) J ρ (.dat (.st 3) eF) u:=⟨.agg (kV).toArray,by kernel_rfl,_,rfl,uK,λ_ =>⟨_,rfl⟩,nofun⟩
theorem agQ(J:World->Prop)(ρ:aZ):∃u:Value,bK Tryz.prog 59=some u.cells.toList/\rv (G:=sg) J ρ (.st (.part 3 (.st (.part 1 .oz (.part 1 (.int .u32 0) (.part 1 (.int .i64 0) .nil)))) (.part 3 (.st (.part 1 .oz (.part 1 (.int .u32 0) (.part 1 (.int .i64 0) .nil)))) (.part 3 (.st (.part 1 .oz (.part 1 (.int .u32 0) (.part 1 (.int .i64 0) .nil)))) .nil)))) u:=⟨.agg ((((([.pointer none]:List Value)++(([.int .u32 0]:List Value)++(([.int .i64 0]:List Value)++([]:List Value)))):List Value)++(((([.pointer none]:List Value)++(([.int .u32 0]:List Value)++(([.int .i64 0]:List Value)++([]:List Value)))):List Value)++(((([.pointer none]:List Value)++(([.int .u32 0]:List Value)++(([.int .i64 0]:List Value)++([]:List Value)))):List Value)++([]:List Value))))).toArray,by kernel_rfl,⟨_,rfl,⟨(([.pointer none]:List Value)++(([.int .u32 0]:List Value)++(([.int .i64 0]:List Value)++([]:List Value)))),_, .agg ((([.pointer none]:List Value)++(([.int .u32 0]:List Value)++(([.int .i64 0]:List Value)++([]:List Value))))).toArray,rfl,by kernel_rfl,⟨_,rfl,⟨[.pointer none],_, .pointer none,rfl,by kernel_rfl,rfl,rfl,⟨[.int .u32 0],_, .int .u32 0,rfl,by kernel_rfl,rfl,rfl,⟨[.int .i64 0],_, .int .i64 0,rfl,by kernel_rfl,rfl,rfl,rfl⟩⟩⟩,iE (by kernel_rfl)⟩,rfl,⟨(([.pointer none]:List Value)++(([.int .u32 0]:List Value)++(([.int .i64 0]:List Value)++([]:List Value)))),_, .agg ((([.pointer none]:List Value)++(([.int .u32 0]:List Value)++(([.int .i64 0]:List Value)++([]:List Value))))).toArray,rfl,by kernel_rfl,⟨_,rfl,⟨[.pointer none],_, .pointer none,rfl,by kernel_rfl,rfl,rfl,⟨[.int .u32 0],_, .int .u32 0,rfl,by kernel_rfl,rfl,rfl,⟨[.int .i64 0],_, .int .i64 0,rfl,by kernel_rfl,rfl,rfl,rfl⟩⟩⟩,iE (by kernel_rfl)⟩,rfl,⟨(([.pointer none]:List Value)++(([.int .u32 0]:List Value)++(([.int .i64 0]:List Value)++([]:List Value)))),_, .agg ((([.pointer none]:List Value)++(([.int .u32 0]:List Value)++(([.int .i64 0]:List Value)++([]:List Value))))).toArray,rfl,by kernel_rfl,⟨_,rfl,⟨[.pointer none],_, .pointer none,rfl,by kernel_rfl,rfl,rfl,⟨[.int .u32 0],_, .int .u32 0,rfl,by kernel_rfl,rfl,rfl,⟨[.int .i64 0],_, .int .i64 0,rfl,by kernel_rfl,rfl,rfl,rfl⟩⟩⟩,iE (by kernel_rfl)⟩,rfl,rfl⟩⟩⟩,iE (by kernel_rfl)⟩⟩
theorem agP(J:World->Prop)(ρ:aZ):∃u:Value,bK Tryz.prog 64=some u.cells.toList/\rv (G:=sg) J ρ .jB u:=⟨.slice none 0 0,by kernel_rfl,rfl⟩
theorem agO(J:World->Prop)(ρ:aZ):∃u:Value,bK Tryz.prog 66=some u.cells.toList/\rv (G:=sg) J ρ (.dat (.st 5) cB) u:=⟨.agg (g8).toArray,by kernel_rfl,_,rfl,mH,λ_ =>⟨_,rfl⟩,nofun⟩
theorem agN(J:World->Prop)(ρ:aZ):∃u:Value,bK Tryz.prog 69=some u.cells.toList/\rv (G:=sg) J ρ (.dat (.st 6) iy) u:=⟨.agg (qV).toArray,by kernel_rfl,_,rfl,wW,λ_ =>⟨_,rfl⟩,nofun⟩
theorem agM(J:World->Prop)(ρ:aZ):∃u:Value,bK Tryz.prog 72=some u.cells.toList/\rv (G:=sg) J ρ (.dat (.st 7) ju) u:=⟨.agg (sI).toArray,by kernel_rfl,_,rfl,xZ,λ_ =>⟨_,rfl⟩,nofun⟩
theorem agL(J:World->Prop)(ρ:aZ):∃u:Value,bK Tryz.prog 75=some u.cells.toList/\rv (G:=sg) J ρ (.dat (.st 8) g6) u:=⟨.agg (oE).toArray,by kernel_rfl,_,rfl,sF,λ_ =>⟨_,rfl⟩,nofun⟩
theorem agK(J:World->Prop)(ρ:aZ):∃u:Value,bK Tryz.prog 80=some u.cells.toList/\rv (G:=sg) J ρ (.dat (.st 10) dY) u:=⟨.agg (sH).toArray,by kernel_rfl,_,rfl,xX,λ_ =>⟨_,rfl⟩,nofun⟩
theorem agJ(J:World->Prop)(ρ:aZ):∃u:Value,bK Tryz.prog 82=some u.cells.toList/\rv (G:=sg) J ρ (.dat (.st 11) sC) u:=⟨.agg (AL).toArray,by kernel_rfl,_,rfl,FR,λ_ =>⟨_,rfl⟩,nofun⟩
theorem agI(J:World->Prop)(ρ:aZ):∃u:Value,bK Tryz.prog 84=some u.cells.toList/\rv (G:=sg) J ρ (.dat (.st 12) pY) u:=⟨.agg (ya).toArray,by kernel_rfl,_,rfl,Eb,λ_ =>⟨_,rfl⟩,nofun⟩
theorem agH(J:World->Prop)(ρ:aZ):∃u:Value,bK Tryz.prog 87=some u.cells.toList/\rv (G:=sg) J ρ (.dat (.st 13) pZ) u:=⟨.agg (yb).toArray,by kernel_rfl,_,rfl,Ec,λ_ =>⟨_,rfl⟩,nofun⟩
theorem agG(J:World->Prop)(ρ:aZ):∃u:Value,bK Tryz.prog 89=some u.cells.toList/\rv (G:=sg) J ρ (.dat (.st 14) gZ) u:=⟨.agg (sG).toArray,by kernel_rfl,_,rfl,xW,λ_ =>⟨_,rfl⟩,nofun⟩
theorem agF(J:World->Prop)(ρ:aZ):∃u:Value,bK Tryz.prog 92=some u.cells.toList/\rv (G:=sg) J ρ (.dat (.st 15) dJ) u:=⟨.agg (qU).toArray,by kernel_rfl,_,rfl,wV,λ_ =>⟨_,rfl⟩,nofun⟩
theorem agE(J:World->Prop)(ρ:aZ):∃u:Value,bK Tryz.prog 96=some u.cells.toList/\rv (G:=sg) J ρ (.dat (.st 17) iz) u:=⟨.agg (qW).toArray,by kernel_rfl,_,rfl,wY,λ_ =>⟨_,rfl⟩,nofun⟩
theorem agD(J:World->Prop)(ρ:aZ):∃u:Value,bK Tryz.prog 99=some u.cells.toList/\rv (G:=sg) J ρ (.dat (.st 18) p6) u:=⟨.agg (yc).toArray,by kernel_rfl,_,rfl,Ed,λ_ =>⟨_,rfl⟩,nofun⟩
theorem aeh(J:World->Prop)(ρ:aZ):∃u:Value,bK Tryz.prog 103=some u.cells.toList/\rv (G:=sg) J ρ (.dat (.st 19) cS) u:=⟨.agg (gw).toArray,by kernel_rfl,_,rfl,sE,λ_ =>⟨_,rfl⟩,nofun⟩
theorem aeg(J:World->Prop)(ρ:aZ):∃u:Value,bK Tryz.prog 107=some u.cells.toList/\rv (G:=sg) J ρ (.dat (.st 20) ow) u:=⟨.agg (vY).toArray,by kernel_rfl,_,rfl,Bz,λ_ =>⟨_,rfl⟩,nofun⟩
theorem aef(J:World->Prop)(ρ:aZ):∃u:Value,bK Tryz.prog 110=some u.cells.toList/\rv (G:=sg) J ρ (.dat (.st 21) bB) u:=⟨.agg (nn).toArray,by kernel_rfl,_,rfl,Ao,λ_ =>⟨_,rfl⟩,nofun⟩
theorem aee(J:World->Prop)(ρ:aZ):∃u:Value,bK Tryz.prog 111=some u.cells.toList/\rv (G:=sg) J ρ .jB u:=⟨.slice none 0 0,by kernel_rfl,rfl⟩
theorem aed(J:World->Prop)(ρ:aZ):∃u:Value,bK Tryz.prog 113=some u.cells.toList/\rv (G:=sg) J ρ (.st (.part 952 (.dat (.st 19) cS) (.part 1 .oz (.part 320 (.dat (.st 21) bB) (.part 1 .jB .nil))))) u:=⟨.agg (((gw:List Value)++(([.pointer none]:List Value)++((nn:List Value)++(([.slice none 0 0]:List Value)++([]:List Value)))))).toArray,by kernel_rfl,⟨_,rfl,⟨gw,_, .agg (gw).toArray,rfl,by kernel_rfl,⟨_,rfl,sE,λ_ =>⟨_,rfl⟩,nofun⟩,rfl,⟨[.pointer none],_, .pointer none,rfl,by kernel_rfl,rfl,rfl,⟨nn,_, .agg (nn).toArray,rfl,by kernel_rfl,⟨_,rfl,Ao,λ_ =>⟨_,rfl⟩,nofun⟩,rfl,⟨[.slice none 0 0],_, .slice none 0 0,rfl,by kernel_rfl,rfl,rfl,rfl⟩⟩⟩⟩,iE (by kernel_rfl)⟩⟩
theorem aec(J:World->Prop)(ρ:aZ):∃u:Value,bK Tryz.prog 141=some u.cells.toList/\rv (G:=sg) J ρ (.st (.part 1 .oz (.part 1 (.int .i64 0) .nil))) u:=⟨.agg ((([.pointer none]:List Value)++(([.int .i64 0]:List Value)++([]:List Value)))).toArray,by kernel_rfl,⟨_,rfl,⟨[.pointer none],_, .pointer none,rfl,by kernel_rfl,rfl,rfl,⟨[.int .i64 0],_, .int .i64 0,rfl,by kernel_rfl,rfl,rfl,rfl⟩⟩,iE (by kernel_rfl)⟩⟩
theorem aeb(J:World->Prop)(ρ:aZ):∃u:Value,bK Tryz.prog 143=some u.cells.toList/\rv (G:=sg) J ρ .oA u:=⟨.nilFunc,by kernel_rfl,rfl⟩
theorem aea(J:World->Prop)(ρ:aZ):∃u:Value,bK Tryz.prog 150=some u.cells.toList/\rv (G:=sg) J ρ (.st (.part 3 (.st (.part 1 .oz (.part 1 (.int .u32 0) (.part 1 (.int .i64 0) .nil)))) (.part 1 (.int .i64 0) .nil))) u:=⟨.agg ((((([.pointer none]:List Value)++(([.int .u32 0]:List Value)++(([.int .i64 0]:List Value)++([]:List Value)))):List Value)++(([.int .i64 0]:List Value)++([]:List Value)))).toArray,by kernel_rfl,⟨_,rfl,⟨(([.pointer none]:List Value)++(([.int .u32 0]:List Value)++(([.int .i64 0]:List Value)++([]:List Value)))),_, .agg ((([.pointer none]:List Value)++(([.int .u32 0]:List Value)++(([.int .i64 0]:List Value)++([]:List Value))))).toArray,rfl,by kernel_rfl,⟨_,rfl,⟨[.pointer none],_, .pointer none,rfl,by kernel_rfl,rfl,rfl,⟨[.int .u32 0],_, .int .u32 0,rfl,by kernel_rfl,rfl,rfl,⟨[.int .i64 0],_, .int .i64 0,rfl,by kernel_rfl,rfl,rfl,rfl⟩⟩⟩,iE (by kernel_rfl)⟩,rfl,⟨[.int .i64 0],_, .int .i64 0,rfl,by kernel_rfl,rfl,rfl,rfl⟩⟩,iE (by kernel_rfl)⟩⟩
theorem ad9(J:World->Prop)(ρ:aZ):∃u:Value,bK Tryz.prog 158=some u.cells.toList/\rv (G:=sg) J ρ (.dat (.st 4) aB) u:=⟨.agg (oe).toArray,by kernel_rfl,_,rfl,xY,λ_ =>⟨_,rfl⟩,nofun⟩
theorem ad8(J:World->Prop)(ρ:aZ):∃u:Value,bK Tryz.prog 160=some u.cells.toList/\rv (G:=sg) J ρ (.dat (.st 22) j0) u:=⟨.agg (oF).toArray,by kernel_rfl,_,rfl,BA,λ_ =>⟨_,rfl⟩,nofun⟩
theorem ad7(J:World->Prop)(ρ:aZ):∃u:Value,bK Tryz.prog 173=some u.cells.toList/\rv (G:=sg) J ρ (.st (.part 1 .oz (.part 12 (.dat (.st 22) j0) (.part 3 (.dat (.st 2) ay) (.part 1 (.bool false) .nil))))) u:=⟨.agg ((([.pointer none]:List Value)++((oF:List Value)++((iL:List Value)++(([.bool false]:List Value)++([]:List Value)))))).toArray,by kernel_rfl,⟨_,rfl,⟨[.pointer none],_, .pointer none,rfl,by kernel_rfl,rfl,rfl,⟨oF,_, .agg (oF).toArray,rfl,by kernel_rfl,⟨_,rfl,BA,λ_ =>⟨_,rfl⟩,nofun⟩,rfl,⟨iL,_, .agg (iL).toArray,rfl,by kernel_rfl,⟨_,rfl,wX,λ_ =>⟨_,rfl⟩,nofun⟩,rfl,⟨[.bool false],_, .bool false,rfl,by kernel_rfl,rfl,rfl,rfl⟩⟩⟩⟩,iE (by kernel_rfl)⟩⟩
theorem ad6(J:World->Prop)(ρ:aZ):∃u:Value,bK Tryz.prog 174=some u.cells.toList/\rv (G:=sg) J ρ (.st (.part 1 .oA (.part 1 .oA (.part 1 .oA (.part 1 .oA (.part 1 .oA .nil)))))) u:=⟨.agg ((([.nilFunc]:List Value)++(([.nilFunc]:List Value)++(([.nilFunc]:List Value)++(([.nilFunc]:List Value)++(([.nilFunc]:List Value)++([]:List Value))))))).toArray,by kernel_rfl,⟨_,rfl,⟨[.nilFunc],_, .nilFunc,rfl,by kernel_rfl,rfl,rfl,⟨[.nilFunc],_, .nilFunc,rfl,by kernel_rfl,rfl,rfl,⟨[.nilFunc],_, .nilFunc,rfl,by kernel_rfl,rfl,rfl,⟨[.nilFunc],_, .nilFunc,rfl,by kernel_rfl,rfl,rfl,⟨[.nilFunc],_, .nilFunc,rfl,by kernel_rfl,rfl,rfl,rfl⟩⟩⟩⟩⟩,iE (by kernel_rfl)⟩⟩
theorem ad5(J:World->Prop)(ρ:aZ):∃u:Value,bK Tryz.prog 180=some u.cells.toList/\rv (G:=sg) J ρ (.dat (.st 23) jY) u:=⟨.agg (vX).toArray,by kernel_rfl,_,rfl,Bx,λ_ =>⟨_,rfl⟩,nofun⟩
theorem ad4(J:World->Prop)(ρ:aZ):∃u:Value,bK Tryz.prog 185=some u.cells.toList/\rv (G:=sg) J ρ (.dat (.st 24) jZ) u:=⟨.agg (BB).toArray,by kernel_rfl,_,rfl,JI,λ_ =>⟨_,rfl⟩,nofun⟩
theorem ad3(J:World->Prop)(ρ:aZ):∃u:Value,bK Tryz.prog 212=some u.cells.toList/\rv (G:=sg) J ρ (.st (.part 952 (.dat (.st 19) cS) (.part 1 (.int .i64 0) (.part 6 (.dat (.st 3) eF) (.part 2 (.dat (.st 4) aB) (.part 1 (.int .i64 0) (.part 1 (.bool false) (.part 1 .jB .nil)))))))) u:=⟨.agg (((gw:List Value)++(([.int .i64 0]:List Value)++((kV:List Value)++((oe:List Value)++(([.int .i64 0]:List Value)++(([.bool false]:List Value)++(([.slice none 0 0]:List Value)++([]:List Value))))))))).toArray,by kernel_rfl,⟨_,rfl,⟨gw,_, .agg (gw).toArray,rfl,by kernel_rfl,⟨_,rfl,sE,λ_ =>⟨_,rfl⟩,nofun⟩,rfl,⟨[.int .i64 0],_, .int .i64 0,rfl,by kernel_rfl,rfl,rfl,⟨kV,_, .agg (kV).toArray,rfl,by kernel_rfl,⟨_,rfl,uK,λ_ =>⟨_,rfl⟩,nofun⟩,rfl,⟨oe,_, .agg (oe).toArray,rfl,by kernel_rfl,⟨_,rfl,xY,λ_ =>⟨_,rfl⟩,nofun⟩,rfl,⟨[.int .i64 0],_, .int .i64 0,rfl,by kernel_rfl,rfl,rfl,⟨[.bool false],_, .bool false,rfl,by kernel_rfl,rfl,rfl,⟨[.slice none 0 0],_, .slice none 0 0,rfl,by kernel_rfl,rfl,rfl,rfl⟩⟩⟩⟩⟩⟩⟩,iE (by kernel_rfl)⟩⟩
theorem ad2(J:World->Prop)(ρ:aZ):∃u:Value,bK Tryz.prog 215=some u.cells.toList/\rv (G:=sg) J ρ .oA u:=⟨.nilFunc,by kernel_rfl,rfl⟩
theorem ad1(J:World->Prop)(ρ:aZ):∃u:Value,bK Tryz.prog 284=some u.cells.toList/\rv (G:=sg) J ρ .oA u:=⟨.nilFunc,by kernel_rfl,rfl⟩
theorem ad0(J:World->Prop)(ρ:aZ):∃u:Value,bK Tryz.prog 305=some u.cells.toList/\rv (G:=sg) J ρ .jB u:=⟨.slice none 0 0,by kernel_rfl,rfl⟩
theorem adZ(J:World->Prop)(ρ:aZ):∃u:Value,bK Tryz.prog 332=some u.cells.toList/\rv (G:=sg) J ρ .Cg u:=⟨.map none,by kernel_rfl,rfl⟩
def ztT:MP (AV sg):=(.dZ 89 (.dat (.st 14) gZ) (.dZ 58 (.dat (.st 3) eF) (.dZ 27 (.st (.part 1 .oz (.part 1 (.int .u32 0) (.part 1 (.int .i64 0) .nil)))) (.dZ 5 (.int .u8 0) (.dZ 4 (.bool false) (.dZ 3 (.int .i64 0) .dW .dW) .dW) (.dZ 25 (.int .u32 0) (.dZ 22 .jB .dW .dW) .dW)) (.dZ 44 (.dat (.st 1) kH) (.dZ 33 (.int .u64 0) (.dZ 31 (.int .i64 0) .dW .dW) .dW) (.dZ 55 (.dat (.st 2) ay) (.dZ 48 (.dat (.st 0) qI) .dW .dW) .dW))) (.dZ 75 (.dat (.st 8) g6) (.dZ 66 (.dat (.st 5) cB) (.dZ 64 .jB (.dZ 59 (.st (.part 3 (.st (.part 1 .oz (.part 1 (.int .u32 0) (.part 1 (.int .i64 0) .nil)))) (.part 3 (.st (.part 1 .oz (.part 1 (.int .u32 0) (.part 1 (.int .i64 0) .nil)))) (.part 3 (.st (.part 1 .oz (.part 1 (.int .u32 0) (.part 1 (.int .i64 0) .nil)))) .nil)))) .dW .dW) .dW) (.dZ 72 (.dat (.st 7) ju) (.dZ 69 (.dat (.st 6) iy) .dW .dW) .dW)) (.dZ 84 (.dat (.st 12) pY) (.dZ 82 (.dat (.st 11) sC) (.dZ 80 (.dat (.st 10) dY) .dW .dW) .dW) (.dZ 87 (.dat (.st 13) pZ) .dW .dW)))) (.dZ 158 (.dat (.st 4) aB) (.dZ 110 (.dat (.st 21) bB) (.dZ 99 (.dat (.st 18) p6) (.dZ 96 (.dat (.st 17) iz) (.dZ 92 (.dat (.st 15) dJ) .dW .dW) .dW) (.dZ 107 (.dat (.st 20) ow) (.dZ 103 (.dat (.st 19) cS) .dW .dW) .dW)) (.dZ 141 (.st (.part 1 .oz (.part 1 (.int .i64 0) .nil))) (.dZ 113 (.st (.part 952 (.dat (.st 19) cS) (.part 1 .oz (.part 320 (.dat (.st 21) bB) (.part 1 .jB .nil))))) (.dZ 111 .jB .dW .dW) .dW) (.dZ 150 (.st (.part 3 (.st (.part 1 .oz (.part 1 (.int .u32 0) (.part 1 (.int .i64 0) .nil)))) (.part 1 (.int .i64 0) .nil))) (.dZ 143 .oA .dW .dW) .dW))) (.dZ 212 (.st (.part 952 (.dat (.st 19) cS) (.part 1 (.int .i64 0) (.part 6 (.dat (.st 3) eF) (.part 2 (.dat (.st 4) aB) (.part 1 (.int .i64 0) (.part 1 (.bool false) (.part 1 .jB .nil)))))))) (.dZ 174 (.st (.part 1 .oA (.part 1 .oA (.part 1 .oA (.part 1 .oA (.part 1 .oA .nil)))))) (.dZ 173 (.st (.part 1 .oz (.part 12 (.dat (.st 22) j0) (.part 3 (.dat (.st 2) ay) (.part 1 (.bool false) .nil))))) (.dZ 160 (.dat (.st 22) j0) .dW .dW) .dW) (.dZ 185 (.dat (.st 24) jZ) (.dZ 180 (.dat (.st 23) jY) .dW .dW) .dW)) (.dZ 305 .jB (.dZ 284 .oA (.dZ 215 .oA .dW .dW) .dW) (.dZ 332 .Cg .dW .dW)))))
def zt:ZT Tryz.prog sg:=⟨ztT,ac9 ⟨agG,⟨agR,⟨agX,⟨zt5,⟨zt4,⟨zt3,trivial,trivial⟩,trivial⟩,⟨agY,⟨agZ,trivial,trivial⟩,trivial⟩⟩,⟨agU,⟨agV,⟨agW,trivial,trivial⟩,trivial⟩,⟨agS,⟨agT,trivial,trivial⟩,trivial⟩⟩⟩,⟨agL,⟨agO,⟨agP,⟨agQ,trivial,trivial⟩,trivial⟩,⟨agM,⟨agN,trivial,trivial⟩,trivial⟩⟩,⟨agI,⟨agJ,⟨agK,trivial,trivial⟩,trivial⟩,⟨agH,trivial,trivial⟩⟩⟩⟩,⟨ad9,⟨aef,⟨agD,⟨agE,⟨agF,trivial,trivial⟩,trivial⟩,⟨aeg,⟨aeh,trivial,trivial⟩,trivial⟩⟩,⟨aec,⟨aed,⟨aee,trivial,trivial⟩,trivial⟩,⟨aea,⟨aeb,trivial,trivial⟩,trivial⟩⟩⟩,⟨ad3,⟨ad6,⟨ad7,⟨ad8,trivial,trivial⟩,trivial⟩,⟨ad4,⟨ad5,trivial,trivial⟩,trivial⟩⟩,⟨ad0,⟨ad1,⟨ad2,trivial,trivial⟩,trivial⟩,⟨adZ,trivial,trivial⟩⟩⟩⟩⟩⟩
end Go.Proofs.Z
