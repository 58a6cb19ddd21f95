/- Part 10 of what a proof leans on; pruned and shortened by a program out of longer texts. -/
import Derived.Test.YtioeklchieeebaaGreatDoorQ9
namespace Go.Rw
open Go Go.Bw Go.RowKit
variable {G:Sg} {P:Program} {N:Nat} {C:CC G} {Z:Type} {tb:uo P G} {rec:WT G Z} {cp:List Nat} {all:Array Oper} {r:List Oper} {K:Ex G->AS G->Option Z} {z:Z}
theorem AT(br:mT P rec){o:Oper}{S:AS G}(hg:IN N all C S o)(h:TX tb rec N cp C all r o S K=some z):∃e S',K e S'=some z/\S.nx<=S'.nx/\US P N C (.ops all (o::r)) S S' e:=by
 obtain⟨d,op,ty,ps,af,g⟩:=o;unfold TX at h;dsimp only at h;split at h
 ·rename_i gs v hv
  obtain⟨h1,h2⟩:=abI h;exact b6 br hg (aaw hv h1) (Nat.le_refl _) h2
 ·split at h
  ·cases h
  ·obtain⟨e,S1,h1,h2,h3⟩:=br _ _ _ _ _ _ _ h
   rw[s9]at h2;exact⟨e,S1,h1,h2,zi _ h3⟩
theorem WV{d:Option Tmp}{op:Op}{ty:TypeId}{ps:String}{af:Array Edge}{g:Option (Nat×Bool)}{T d1:Nat}{r r2:List Oper}(h:WW ⟨d,op,ty,ps,af,g⟩ T r=some (d1,r2)):
  ∃t2 p2 f2,d=some d1/\g=none/\r=⟨none, .call ⟨.builtin .clear, #[.tmp d1], #[T]⟩,t2,p2,f2,none⟩::r2:=by
 unfold WW at h;split at h
 ·rename_i a t t2 p2 f2 r3
  split at h
  ·rename_i e1 d2 T2 hd hg ha ht
   cases hb:(Nat.beq _ d2&&Nat.beq T T2)with
   |false=>rw[hb]at h;cases h
   |true=>
    rw[hb]at h;simp only[aiC]at hb;have eA:a= #[.tmp d2]:=by rw[← Array.toArray_toList (xs:=a),ha]
    have eT:t= #[T2]:=by rw[← Array.toArray_toList (xs:=t),ht]
    subst eA;subst eT;obtain rfl:=aiB hb.1;obtain rfl:=aiB hb.2;cases h;exact⟨_,_,_,hd,hg,rfl⟩
  ·cases h
 ·cases h
theorem NO(br:mT P rec){o:Oper}{S:AS G}(hg:IN N all C S o)(h:wOp tb rec N cp C all r o S K=some z):∃e S',K e S'=some z/\S.nx<=S'.nx/\US P N C (.ops all (o::r)) S S' e:=by
 obtain⟨d,op,ty,ps,af,g⟩:=o;unfold wOp at h;dsimp only at h;split at h
 ·split at h
  ·rename_i v hv
   exact b6 br hg (Vh hv) (Nat.le_succ _) h
  ·cases h
 ·split at h
  ·rename_i v hv
   exact b6 br hg (Ok hv) (Nat.le_succ _) h
  ·cases h
 ·split at h
  ·obtain⟨e,S1,h1,h2,h3⟩:=br _ _ _ _ _ _ _ h
   rw[s9]at h2;exact⟨e,S1,h1,h2,zi _ h3⟩
  ·split at h
   ·rename_i q p v hx hy
    split at h
    ·rename_i T' cc ho
     cases hb:sA tb.tt _ v with
     |false=>rw[hb]at h;cases h
     |true=>rw[hb]at h;obtain⟨c',h1,h2⟩:=Oa h;exact b6 br hg (Oe hx hy ho h1 hb) (Nat.le_refl _) h2
    ·rename_i e sz t xs ho
     cases hb:(Pr p sz&&sA tb.tt _ v)with
     |false=>rw[hb]at h;cases h
     |true=>
      rw[hb]at h;simp only[aiC]at hb;simp only[cond_true]at h;split at h
      ·rename_i pl hpl
       split at h
       ·rename_i y' hu
        exact b6 br hg (Od hx hy ho hb.1 hpl hu hb.2) (Nat.le_refl _) h
       ·cases h
      ·cases h
    ·cases h
   ·cases h
 ·split at h
  ·rename_i e sz _ ht
   split at h
   ·rename_i z hz
    split at h
    ·rename_i t _
     split at h
     ·rename_i xs hxs
      cases hc:((Nat.beq xs.length _ &&Nat.beq (t.L G).n sz)&&(Nat.blt 0 (_ *sz)&&Nat.ble (_ *sz) 16777216))with
      |false=>rw[hc]at h;cases h
      |true=>rw[hc]at h;simp only[aiC]at hc;obtain⟨⟨c1,c2⟩,c3,c4⟩:=hc;simp only[cond_true]at h;exact b6 br hg (aay ht hz hxs (aiB c1) (aiB c2) (by simpa[Nat.blt_eq]using c3) (Nat.le_of_ble_eq_true c4)) (Nat.le_succ _) h
     ·exact AT br hg h
    ·split at h
     ·rename_i vs hvs
      cases hc:((Nat.beq _ _ &&Nat.beq sz 1)&&(Nat.blt 0 _ &&Nat.ble _ 16777216))with
      |false=>rw[hc]at h;cases h
      |true=>rw[hc]at h;simp only[aiC]at hc;obtain⟨⟨c1,c2⟩,c3,c4⟩:=hc;obtain rfl:=aiB c2;simp only[cond_true]at h;exact b6 br hg (Vg ht hz hvs (aiB c1) (by simpa[Nat.blt_eq]using c3) (Nat.le_of_ble_eq_true c4)) (Nat.le_succ _) h
     ·cases h
   ·cases h
  ·cases h
 ·rename_i T s s'
  cases hs:Nat.beq s s' with
  |false=>rw[hs]at h;cases h
  |true=>
   rw[hs]at h;obtain rfl:=aiB hs;simp only[cond_true]at h;split at h
   ·rename_i i _ e sz bt hx ht
    split at h
    ·rename_i k z0 hz
     cases hc:(Nat.beq sz 1&&Nat.blt 0 bt)with
     |false=>rw[hc]at h;cases h
     |true=>rw[hc]at h;simp only[aiC]at hc;obtain rfl:=aiB hc.1;simp only[cond_true]at h;obtain⟨g1,h⟩:=mN h;obtain⟨g2,h⟩:=mN h;exact b6 br hg (Vc ht hz hx g1 g2 (by simpa[Nat.blt_eq]using hc.2)) (Nat.le_succ _) h
    ·cases h
   ·cases h
 ·split at h
  ·rename_i t v hx
   exact⟨_,_,h,Nat.le_refl _,NU hg hx⟩
  ·cases h
 ·split at h
  ·rename_i k x y l hf ha
   cases hb:((lR x&&lR l)&&(lR y&&uD (iV C)))with
   |false=>rw[hb]at h;cases h
   |true=>rw[hb]at h;simp only[aiC]at hb;obtain⟨e,S3,k1,k2,k3⟩:=br _ _ _ _ _ _ _ h;exact⟨e,S3,k1,k2,NW hg hf ha hb.2.2 k3⟩
  ·cases h
 ·rename_i args EA
  split at h
  ·rename_i x y T T' hA hT
   have eA:args= #[x,y]:=by rw[← Array.toArray_toList (xs:=args),hA]
   have eT:EA= #[T,T']:=by rw[← Array.toArray_toList (xs:=EA),hT]
   subst eA;subst eT;cases hb:Nat.beq T T' with
   |false=>rw[hb]at h;cases h
   |true=>
    rw[hb]at h;obtain rfl:=aiB hb;simp only[cond_true]at h;split at h
    ·rename_i q vy e sz bt hx hy ht
     split at h
     ·rename_i e' sz' t xs l ho hl
      cases hc:(Nat.beq e' e&&Nat.beq sz' sz)with
      |false=>rw[hc]at h;cases h
      |true=>
       rw[hc]at h;simp only[aiC]at hc;obtain rfl:=aiB hc.1;obtain rfl:=aiB hc.2;simp only[cond_true]at h;split at h
       ·rename_i ys hys
        obtain⟨g1,h⟩:=mN h;exact b6 br hg (Vi ht hx hy ho hl hys g1) (Nat.le_succ _) h
       ·cases h
     ·cases h
    ·rename_i vy e sz bt hx hy ht
     split at h
     ·rename_i l hl
      cases hc:Nat.beq (l.t.L G).n sz with
      |false=>rw[hc]at h;cases h
      |true=>rw[hc]at h;simp only[cond_true]at h;obtain⟨g1,h⟩:=mN h;exact b6 br hg (RF ht hx hy hl (aiB hc) g1) (Nat.le_succ _) h
     ·cases h
    ·cases h
  ·cases h
 ·rename_i args EA
  split at h
  ·rename_i x y T T' hA hT
   have eA:args= #[x,y]:=by rw[← Array.toArray_toList (xs:=args),hA]
   have eT:EA= #[T,T']:=by rw[← Array.toArray_toList (xs:=EA),hT]
   subst eA;subst eT;split at h
   ·rename_i q vy e sz bt hx hy ht
    split at h
    ·rename_i e' sz' k xs l ho hl
     cases hc:((Nat.beq e' e&&Nat.beq sz 1)&&Nat.beq sz' 1)with
     |false=>rw[hc]at h;cases h
     |true=>
      rw[hc]at h;simp only[aiC]at hc;obtain rfl:=aiB hc.1.1;obtain rfl:=aiB hc.1.2;obtain rfl:=aiB hc.2;simp only[cond_true]at h;split at h
      ·rename_i ys hys
       exact b6 br hg (RD ht hx hy ho hl hys) (Nat.le_refl _) h
      ·cases h
    ·cases h
   ·rename_i q p n i q' p' n' j e sz bt hx hy ht
    split at h
    ·rename_i T2 cc ho
     split at h
     ·rename_i m k f hl
      cases hc:((Nat.beq q q'&&Nat.beq n n')&&((Nat.beq m n&&Nat.beq sz 1)&&(Fe p p'&&Vl [T,T'] T)))with
      |false=>rw[hc]at h;cases h
      |true=>rw[hc]at h;simp only[aiC]at hc;obtain rfl:=aiB hc.1.1;obtain rfl:=aiB hc.1.2;obtain rfl:=aiB hc.2.1.1;obtain rfl:=aiB hc.2.1.2;have hT:=hc.2.2.2;simp only[Vl,aiC]at hT;obtain rfl:=aiB hT.2;simp only[cond_true]at h;obtain⟨c',h1,h2⟩:=Oa h;exact b6 br hg (Ve ht hx hy hc.2.2.1 ho hl h1) (Nat.le_refl _) h2
     ·cases h
    ·cases h
   ·cases h
  ·cases h
 ·rename_i args EA
  split at h
  ·rename_i x T hA hT
   have eA:args= #[x]:=by rw[← Array.toArray_toList (xs:=args),hA]
   have eT:EA= #[T]:=by rw[← Array.toArray_toList (xs:=EA),hT]
   subst eA;subst eT;split at h
   ·rename_i q p n i e sz bt hx ht
    split at h
    ·rename_i T2 cc ho
     split at h
     ·rename_i m k f hl
      cases hc:((Nat.beq i.toNat n&&Nat.blt 0 n)&&((Nat.beq m n&&Nat.beq sz 1)&&zU P e k))with
      |false=>rw[hc]at h;cases h
      |true=>rw[hc]at h;simp only[aiC]at hc;obtain rfl:=aiB hc.2.1.1;obtain rfl:=aiB hc.2.1.2;simp only[cond_true]at h;obtain⟨c',h1,h2⟩:=Oa h;exact b6 br hg (Vf ht hx hc.1.1 hc.1.2 ho hl hc.2.2 h1) (Nat.le_refl _) h2
     ·cases h
    ·cases h
   ·cases h
  ·cases h
 ·split at h
  ·exact b6 br hg (I5 _) (Nat.le_succ _) h
  ·cases h
 ·split at h
  ·rename_i q ky k _ v hx hy hz
   split at h
   ·rename_i ik ks vs ho
    cases hc:((EB ky ik&&Ie P _ ik)&&(Fp k ks&&lR vs))with
    |false=>rw[hc]at h;cases h
    |true=>rw[hc]at h;simp only[aiC]at hc;exact b6 br hg (L8 hx hy hz ho hc.1.1 hc.1.2 hc.2.1 hc.2.2) (Nat.le_refl _) h
   ·cases h
  ·cases h
 ·split at h
  ·rename_i k fst cap l hf ha
   have h0:=TY h;clear h;rcases h0 with⟨ct,x,g',Fy,h⟩|⟨b,l',h⟩|h
   ·cases hb:((lR fst&&lR l)&&(lR cap&&Nat.beq ct.s.k k))with
    |false=>rw[hb]at h;cases h
    |true=>
     rw[hb]at h;simp only[aiC]at hb;obtain⟨⟨b1,b2⟩,b3,b4⟩:=hb;obtain rfl:=aiB b4;have HR:=SS Fy;rcases ct.Yh x _ _ z h with⟨y,hR,hy⟩|⟨y,hR,hy⟩
     ·split at hy
      ·rename_i v hd
       exact b6 br hg (aax hf ha b1 b2 Fy hR hd) (Nat.le_trans HR (Nat.le_add_right _ _)) hy
      ·cases hy
     ·split at hy
      ·rename_i v hd
       exact⟨_,_,hy,Nat.le_trans HR (Nat.le_add_right _ _),U6 hg hf ha b1 b2 Fy hR hd⟩
      ·cases hy
   ·obtain⟨e,S1,h1,h2,h3⟩:=br _ _ _ _ _ _ _ h
    have h2:=Nat.le_trans (Hp l' _) h2;rw[s9]at h2;exact⟨e,S1,h1,h2,zi b (Hg l' h3)⟩
   split at h
   ·rename_i fi EU
    cases hb:((lR fst&&lR l)&&(lR cap&&Nat.ble (vH (kj fst (kj l cap))) fi.N))with
    |false=>rw[hb]at h;cases h
    |true=>
     rw[hb]at h;simp only[aiC]at hb;obtain⟨⟨b1,b2⟩,b3,b4⟩:=hb;have b4:=Nat.le_of_ble_eq_true b4;obtain⟨e,S1,h1,h2,h3⟩:=br _ _ _ _ _ _ _ h;have h2:S.nx<=S1.nx:=h2;split at h1
     ·rename_i v O2 hX
      exact⟨_,_,h1,h2,N1 (tt:=tb.tt) hg hf ha EU b1 b2 b3 b4 h3 hX⟩
     ·rename_i O2 hX
      split at h1
      ·rename_i v hres
       exact b6 br hg (Kr hf ha EU b1 b2 b3 b4 h3 hX (.inl rfl) hres) h2 h1
      ·cases h1
     ·rename_i O2 hX
      split at h1
      ·rename_i v hres
       exact b6 br hg (Kr hf ha EU b1 b2 b3 b4 h3 hX (.inr rfl) hres) h2 h1
      ·cases h1
     ·cases h1
   ·cases h
  ·rename_i q l hf ha
   split at h
   ·rename_i N2 ks vs ps a b hq
    cases hb:uD (iV C)with
    |false=>rw[hb]at h;cases h
    |true=>
     rw[hb]at h;simp only[cond_true]at h;obtain⟨S2,hbi,h⟩:=K9 h;obtain⟨e1,S3,h1,h2,h3⟩:=br _ _ _ _ _ _ _ h;cases e1 with
     |gq=>
      obtain⟨e2,S4,k1,k2,k3⟩:=br _ _ _ _ _ _ _ h1;cases e2 with
      |gq=>
       split at k1
       ·rename_i hD
        have hn:=Eb hbi;have hn:S2.nx=S.nx:=hn;exact b6 br hg (Oc hf ha hq hb hbi h3 h2 k3 k2 hD) (by show S.nx<=S4.nx;omega) k1
       ·cases k1
      |_ =>cases k1
     |_ =>cases h1
   ·cases h
  ·cases h
 ·split at h
  ·rename_i g0 hgt
   cases hb:oE P _ with
   |false=>rw[hb]at h;cases h
   |true=>rw[hb]at h;exact b6 br hg (Oi hgt hb) (Nat.le_succ _) h
  ·cases h
 ·split at h
  ·rename_i q ik k kb hx hy
   split at h
   ·rename_i ho
    split at h
    ·rename_i g0 hgt
     cases hb:(Nat.beq (Ty.bF.ik ik) (Ty.bF.ik g0.1)&&BX P _ g0.1)with
     |false=>rw[hb]at h;cases h
     |true=>rw[hb]at h;simp only[aiC]at hb;exact b6 br hg (L7 hgt hx ho hy hb.1 hb.2) (Nat.le_refl _) (aa4 h)
    ·cases h
   ·rename_i qk ks vs ho
    cases hb:(EB ik qk&&BX P _ qk)with
    |false=>rw[hb]at h;cases h
    |true=>rw[hb]at h;simp only[aiC]at hb;obtain⟨t,t1,t2⟩:=aa5 h;exact b6 br hg (Oh hx hy ho hb.1 hb.2 t2) (Nat.le_refl _) t1
   ·cases h
  ·cases h
 ·split at h
  ·rename_i q k i qq e sz bt hx hh ht _
   split at h
   ·rename_i e' sz' t xs ho
    cases hc:(Nat.beq e' e&&Nat.beq sz' sz)with
    |false=>rw[hc]at h;cases h
    |true=>rw[hc]at h;simp only[aiC]at hc;obtain rfl:=aiB hc.1;obtain rfl:=aiB hc.2;simp only[cond_true]at h;obtain⟨g1,h⟩:=mN h;exact b6 br hg (Vd ht hx ho hh g1) (Nat.le_succ _) h
   ·cases h
  ·rename_i q p k i qq hx hh _
   split at h
   ·rename_i T2 cc n e0 sz ho hT
    split at h
    ·rename_i m e f hl
     cases hc:Nat.beq m n with
     |false=>rw[hc]at h;cases h
     |true=>rw[hc]at h;obtain rfl:=aiB hc;simp only[cond_true]at h;obtain⟨g1,h⟩:=mN h;exact b6 br hg (Og hT hx hh ho hl g1) (Nat.le_refl _) h
    ·cases h
   ·cases h
  ·exact AT br hg h
 ·split at h
  ·rename_i q k i qq e sz bt hc hx hh ht
   split at h
   ·rename_i e' sz' t xs ho _
    cases hc:(Nat.beq e' e&&Nat.beq sz' sz)with
    |false=>rw[hc]at h;cases h
    |true=>rw[hc]at h;simp only[aiC]at hc;obtain rfl:=aiB hc.1;obtain rfl:=aiB hc.2;simp only[cond_true]at h;obtain⟨g1,h⟩:=mN h;exact b6 br hg (Oj ht hx ho hh g1) (Nat.le_succ _) h
   ·exact AT br hg h
  ·rename_i d1 r2 q k0 i qq e sz bt hc hx hl ht
   split at h
   ·rename_i e' sz' k xs S1 ho hp
    cases hb:((Nat.beq e' e&&Nat.beq sz 1)&&(Nat.beq sz' 1&&zU P e k))with
    |false=>rw[hb]at h;cases h
    |true=>rw[hb]at h;simp only[aiC]at hb;obtain rfl:=aiB hb.1.1;obtain rfl:=aiB hb.1.2;obtain rfl:=aiB hb.2.1;simp only[cond_true]at h;obtain⟨g1,h⟩:=mN h;obtain⟨e1,S3,h1,h2,h3⟩:=br _ _ _ _ _ _ _ h;have HR:=kB hp;refine⟨e1,S3,h1,(by rw[← HR];exact h2),?_⟩;obtain⟨t2,p2,f2,rfl,rfl,rfl⟩:=WV hc;exact N0 ht hb.2.2 hx ho hl g1 hp h3
   ·exact AT br hg h
  ·exact AT br hg h
 ·exact AT br hg h
theorem WS(br:mT P rec){o:Oper}{S:AS G}{j dj:Nat}{w:Bool}{no:Option Z}{gx:Option Bool}{cx:Option (Nat×AV G)}(Gx:o.guard=some (j,w))(hd:D4 all j=some dj)(he:JJ C S 8 dj w=gx)(hc:Ik C S (chain C S 8 dj w) o.op=cx)
  (hno:no=some z->∃e S',K e S'=some z/\S.nx<=S'.nx/\US P N C (.ops all (o::r)) S S' e)(h:ctT tb rec N cp C all r o S K dj w no gx cx=some z):∃e S',K e S'=some z/\S.nx<=S'.nx/\US P N C (.ops all (o::r)) S S' e:=by
 unfold ctT at h;split at h
 ·rename_i g k aiy
  have h0:=TY h;clear h;rcases h0 with⟨ct,x,g',Fy,h⟩|⟨b,l',h⟩|h
  ·cases hb:Nat.beq ct.s.k k with
   |false=>rw[hb]at h;cases h
   |true=>
    rw[hb]at h;have hk:=aiB hb;simp only[cond_true]at h;unfold ctG at h;split at h
    ·rename_i hnm
     cases hn:(CB true ct.s.rI&&CB false ct.s.bV)with
     |false=>rw[hn]at h;exact hno h
     |true=>
      rw[hn]at h;simp only[aiC]at hn;obtain⟨y,hR,hy⟩:=ct.cgs g x _ z h;split at hy
      ·rename_i v hv
       split at hy
       ·rename_i S2 hp
        obtain⟨e,S3,k1,k2,k3⟩:=br _ _ _ _ _ _ _ hy;have:=kB hp;exact⟨e,S3,k1,by omega,U7 Gx hd he hc hk Fy hnm hn.1 hn.2 hR hv hp k3⟩
       ·cases hy
      ·cases hy
    ·exact hno h
  ·obtain⟨e,S1,h1,h2,h3⟩:=br _ _ _ _ _ _ _ h
   have h2:=Nat.le_trans (Hp l' _) h2;rw[s9]at h2;exact⟨e,S1,h1,h2,zi b (Hg l' h3)⟩
  ·exact hno h
 ·exact hno h
theorem Km{x:Operand}{a b:Code}{t:Bool}{S S1:AS G}{e:Ex G}(hx:ei C S [] x=some (.bool t))(h:US P N C (.code (bif t then a else b)) S S1 e):US P N C (.code (.cond x a b)) S S1 e:=by
 intro c ρ J HK X ac w Q hr hq;have ex:=wF ((bX hr (ch:=[]) (by simp)).ok _ _ hx);cases t with
 |true=>exact wpIn_cond_true ex (h c ρ J HK X ac w Q hr hq)
 |false=>exact wpIn_cond_false ex (h c ρ J HK X ac w Q hr hq)
theorem NZ{x:Operand}{a b:Code}{t:Bool}{S S1:AS G}{e:Ex G}(hx:ei C S [] x=some (.kb t))(h:US P N C (.code (bif t then a else b)) S S1 e):US P N C (.code (.cond x a b)) S S1 e:=by
 intro c ρ J HK X ac w Q hr hq;have ex:=Fh ((bX hr (ch:=[]) (by simp)).ok _ _ hx);cases t with
 |true=>exact wpIn_cond_true ex (h c ρ J HK X ac w Q hr hq)
 |false=>exact wpIn_cond_false ex (h c ρ J HK X ac w Q hr hq)
theorem L1{i:Nat}{ops:Array Oper}{S S1:AS G}{e:Ex G}(h:US P N C (.ops ops ops.toList) S S1 e):US P N C (.code (.region i ops false)) S S1 e:=by intro c ρ J HK X a w Q hr hq;exact wpIn_region_list (h c ρ J HK X a w Q hr hq)
theorem FZ{cf:Cf}{S S1:AS G}{e:Ex G}(p q:Nat->Bool)(h:US P N (⟨gw (λd=> !p d) S.F,bS (λr=> !q r) S.O,S.D⟩::C) cf ⟨gw p S.F,bS q S.O,S.nx,[]⟩ S1 e):US P N C cf S (G8 ⟨gw (λd=> !p d) S.F,bS (λr=> !q r) S.O,S.D⟩ S1) e:=by intro c ρ J HK X a w Q hr hq;obtain⟨H2,p1,p2⟩:=hr.push p q;refine h c ρ J (H2++HK) X a w Q p2 λρ' J' Y a' w' me k1 k2 k3 k4=>?_;have hle:=k1.le hr.fr;exact hq ρ' J' Y a' w' me k1 k2 k3 (k4.G8 (p1.up k2 hle) (hr.IE k2 hle) hr.si.n)
theorem Rv{x y:Code}{S S1 S2:AS G}{ly:Ly G}{g:IA}{p q:Nat->Bool}{e:HL G (aK (o7 g.l))}{e2:Ex G}(hly:ly=⟨gw (λd=> !p d) S.F,bS (λr=> !q r) S.O,S.D⟩)(hl:uN S.nx (ly::C)=true)
  (h1:US P N (ly::C) (.code x) ⟨gw p S.F,bS q S.O,S.nx,[]⟩ S1 .gq)(hg:DP (ly::C) (jg (ly::C) S1 g.l) g S.nx=some e)(h2:US P N C (.code y) (G8 ly (EP g S.nx e)) S2 e2):US P N C (.code (.seq x y)) S S2 e2:=by
 subst hly;intro c ρ J HK X a w Q hr hq;obtain⟨H2,p1,p2⟩:=hr.push p q;refine wpIn_seq (h1 c ρ J (H2++HK) X a w _ p2 λρ' J' Y a' w' me k1 k2 k3 k4=>?_);rw[gh k3];obtain⟨J2,Y2,j1,k5⟩:=k4.jg g.l;obtain⟨ρ2,m1,m2⟩:=Sc k5 hg hl;have hto:ρ.to ρ2 S.nx:=λr hr'=>(m1 r hr').trans (k1 r hr');have hle:=hto.le hr.fr;have k2':∀w,J2 w->J w:=λw h=>k2 w (j1 w h);rw[← List.append_assoc]at m2;refine h2 c ρ2 J2 HK ((Y2++Y)++X) a' w' Q (m2.G8 (p1.up k2' hle) (hr.IE k2' hle) hr.si.n) (hq.fA hto k2' ?_);show S.nx<=S.nx+_;omega
def USl(P:Program)(N:Nat)(C:CC G)(base:Nat)(x:Code)(S S':AS G)(e:Ex G):Prop:=∀(c:Cx) (ρ:aX) (J:World->Prop) (HK X:List aF) (a:Act) (w:World) (Q:Exit->Act->World->Prop),Rl c N ρ J HK X C S a w->TR c N C ρ J HK X base S' e Q->Yp P c x Q a w
theorem NQ{x:Code}{g:IA}{base:Nat}{e e':HL G (aK (o7 g.l))}{S1 S2:AS G}{e2:Ex G}(hl:uN base C=true)(h1:US P N C (.code x) (EP g base e) S1 .gq)(hg:DP C (jg C S1 g.l) g base=some e')(h2:USl P N C base x (EP g base e') S2 e2):USl P N C base x (EP g base e) S2 e2:=by intro c ρ J HK X a w Q hr hq;refine zG (h1 c ρ J HK X a w _ hr λρ' J' Y a' w' me k1 k2 k3 k4=>?_);rw[gh k3];obtain⟨J2,Y2,j1,k5⟩:=k4.jg g.l;obtain⟨ρ2,m1,m2⟩:=Sc k5 hg hl;have IF:ρ.to ρ' base:=λr hr'=>k1 r (by show r<base+_;omega);rw[← List.append_assoc]at m2;exact h2 c ρ2 J2 HK ((Y2++Y)++X) a' w' Q m2 (hq.fA (λr hr'=>(m1 r hr').trans (IF r hr')) (λw h=>k2 w (j1 w h)) (Nat.le_refl _))
theorem Dr{x:Code}{g:IA}{base:Nat}{e:HL G (aK (o7 g.l))}{S1:AS G}{e1:Ex G}(h1:US P N C (.code x) (EP g base e) S1 e1)(he:e1≠ .gq):USl P N C base x (EP g base e) S1 e1:=by intro c ρ J HK X a w Q hr hq;refine zG (h1 c ρ J HK X a w _ hr λρ' J' Y a' w' me k1 k2 k3 k4=>?_);exact jB (ke he k3) (hq ρ' J' Y a' w' me (λr hr'=>k1 r (by show r<base+_;omega)) k2 k3 k4)
theorem Ru{x:Code}{S S1:AS G}{g:IA}{v:AV G}{x0:HL G (aK (o7 g.l))}{g':GS G}{p:Nat->Bool}{ly:Ly G}{e:Ex G}(hv:AU C S g.l=some v)(Fy:j0 (o7 g.l) v ⟨[],S.O,S.nx⟩=some (x0,g'))(b1:s0 g.nm g'.th=true)(b2:s5 S.nx g.nm=true)
  (hly:ly=⟨gw p S.F,g'.O,S.D⟩)(hl:uN S.nx (ly::C)=true)(h:USl P N (ly::C) S.nx x (EP g S.nx x0) S1 e):US P N C (.code (.loop x)) S (G8 ly S1) e:=by
 intro c ρ J HK X a w Q hr hq;refine DC ?_;have SF:uN S.nx C=true:=by simp only[uN,aiC]at hl;exact hl.2.2.2
 obtain⟨ρ',ρ2,HB,H',hto,ht2,DO,hleft,hC,hp,hF,hfc,hfr⟩:=KF hr hv Fy b1 b2 (Nat.le_refl _) SF;have hag:∀r,r<S.nx->ρ' r=ρ2 r:=λr hr'=>(hto r hr').trans (ht2 r hr').symm;subst hly;have hl':=hl;simp only[uN,aiC]at hl';have hleft:=hleft.dI hag hl'.2.1;have hr':Rl c N ρ' J (H'++HK) X (⟨gw p S.F,g'.O,S.D⟩::C) (EP g S.nx x0) a w:=by
  refine⟨hr.tm,?_,⟨hr.si.s,λq=>hr.si.n (zB q)⟩,hF,λy hy=>?_,λr o e=>?_,⟨HB,DO,by simpa using hp⟩,hr.kn,hfr⟩
  ·exact hr.df.dI hto (Gm hl'.2.2.1 (BM SF).2)
  ·rcases List.mem_cons.1 hy with rfl|hy
   ·exact(hr.fs.Ra).dI hto hl'.1
   ·exact hfc y hy
  ·have e:bY (g'.O++iV C) r=some o:=e
   rw[ic]at e;split at e
   ·rename_i v' HQ
    cases e;obtain⟨x,h1,h2⟩:=hleft.lk HQ;exact⟨x,aiG _ h1,h2⟩
   ·obtain⟨x,h1,h2⟩:=hC r o e
    exact⟨x,aiF _ h1,h2⟩
 refine h c ρ' J (H'++HK) X a w Q hr' λρ3 J3 Y a' w' me k1 k2 k3 k4=>?_;have IF:ρ.to ρ3 S.nx:=λr q=>(k1 r q).trans (hto r q);refine hq ρ3 J3 Y a' w' me IF k2 k3 (k4.G8 ((hleft.dI k1 hl'.2.1).up k2 (aX.le_refl _)) (hr.IE k2 (IF.le hr.fr)) hr.si.n)
theorem Sj(br:mT P rec){x:Code}{g:IA}{base:Nat}{ly:Ly G}(hl:uN base (ly::C)=true){vw:Option (Vw G (aK (o7 g.l)))}:∀(n:Nat) (e:HL G (aK (o7 g.l))),Uf vw (λgo e=>rec N cp (ly::C) (.code x) (EP g base e) λe1 S1=>match e1 with
   | .gq=>match DP (ly::C) (jg (ly::C) S1 g.l) g base with
    |some e=>go e
    |none=>none
   |e1=>K e1 (G8 ly S1)) n e=some z->
  ∃e1 S1,K e1 (G8 ly S1)=some z/\base<=S1.nx/\USl P N (ly::C) base x (EP g base e) S1 e1:=by
 intro n
 induction n with
 |zero=>intro e h;obtain⟨m,h1,_⟩:=KG h;cases h1
 |succ n ih=>
  intro e h;obtain⟨m,h1,h2⟩:=KG h;cases h1;obtain⟨e1,S1,k1,k2,k3⟩:=br _ _ _ _ _ _ _ h2;have k2:base<=S1.nx:=Nat.le_trans (Nat.le_add_right _ _) k2;cases e1 with
  |gq=>
   dsimp only at k1;split at k1
   ·rename_i e' hg
    obtain⟨e2,S2,m1,m2,m3⟩:=ih e' k1;exact⟨e2,S2,m1,m2,NQ hl k3 hg m3⟩
   ·cases k1
  |exit i=>exact⟨_,S1,k1,k2,Dr k3 (by simp)⟩
  |ret=>exact⟨_,S1,k1,k2,Dr k3 (by simp)⟩
  |sH v=>exact⟨_,S1,k1,k2,Dr k3 (by simp)⟩
theorem Vk(br:mT P rec){x y:Code}{S:AS G}(h:(rec N cp C (.code x) S λe S'=>match e with
    | .gq=>rec N cp C (.code y) S' K
    |e=>K e S')=some z):∃e S',K e S'=some z/\S.nx<=S'.nx/\US P N C (.code (.seq x y)) S S' e:=by
 obtain⟨e1,S1,k1,k2,k3⟩:=br _ _ _ _ _ _ _ h;cases e1 with
 |gq=>obtain⟨e2,S2,m1,m2,m3⟩:=br _ _ _ _ _ _ _ k1;exact⟨e2,S2,m1,Nat.le_trans k2 m2,U4 k3 m3 k2⟩
 |exit i=>exact⟨_,S1,k1,k2,lz k3 (by simp)⟩
 |ret=>exact⟨_,S1,k1,k2,lz k3 (by simp)⟩
 |sH v=>exact⟨_,S1,k1,k2,lz k3 (by simp)⟩
theorem R2{x:Code}{S:AS G}{g:IA}{r:Option Z}(h:r=some z->∃e S',K e S'=some z/\(jg C S g.l).nx<=S'.nx/\US P N C (.code x) (jg C S g.l) S' e)(hr:r=some z):∃e S',K e S'=some z/\S.nx<=S'.nx/\US P N C (.code x) S S' e:=by obtain⟨e,S',h1,h2,h3⟩:=h hr;rw[zq]at h2;exact⟨e,S',h1,h2,Rt _ h3⟩
theorem Vn(br:mT P rec){ps:List Nat}{a b:Code}{S1:AS G}{g:IA}{it:It P G}{O:Os G}:∀(l:List it.B) (e:HL G (aK (o7 g.l))),rgW rec N cp C ps a b S1 K g it l O e=some z->
  ∃e1 Sf,K e1 (Mg S1.nx S1 O Sf)=some z/\S1.nx<=Sf.nx/\Xz P N (O3 ps a b C S1 O) ps a b g (S1.nx+2) it l e e1 Sf:=by
 intro l
 induction l with
 |nil=>intro e h;exact⟨_,_,Sy h,by show S1.nx<=S1.nx+2+_;omega, .nil⟩
 |cons y l ih=>
  intro e h;have h:=O9 h;obtain⟨S2,hb,h⟩:=K9 h;obtain⟨e1,S3,k1,k2,k3⟩:=br _ _ _ _ _ _ _ h;have hS2:S1.nx<=S2.nx:=by rw[Eb hb];show S1.nx<=S1.nx+2+_;omega
  cases e1 with
  |gq=>
   obtain⟨e2,S4,m1,m2,m3⟩:=br _ _ _ _ _ _ _ k1;cases e2 with
   |gq=>
    dsimp only at m1;split at m1
    ·rename_i e' hg
     obtain⟨e3,Sf,n1,n2,n3⟩:=ih e' m1;exact⟨e3,Sf,n1,n2, .fA hb k3 k2 m3 hg n3⟩
    ·cases m1
   |ret=>
    dsimp only at m1;cases hD:OY S4.D with
    |false=>rw[hD]at m1;cases m1
    |true=>rw[hD]at m1;exact⟨_,S4,m1,by omega, .stop hb k3 k2 m3 (.inl rfl) (OX hD)⟩
   |exit i=>
    dsimp only at m1;cases hD:OY S4.D with
    |false=>rw[hD]at m1;cases m1
    |true=>rw[hD]at m1;exact⟨_,S4,m1,by omega, .stop hb k3 k2 m3 (.inr ⟨i,rfl⟩) (OX hD)⟩
   |sH v=>cases m1
  |_ =>cases k1
theorem Vo(br:mT P rec){ps:Array Nat}{a b:Code}{k:Nat}{cap:AV G}{gl:List (MT×Sh)}{S:AS G}{M0:Operand}(Gx:ei C S [] M0=some (.fn (.func k) .nil cap)):∀{l:List (It P G)},rgK rec N cp C ps.toList a b k cap gl S K l=some z->
  ∃e S',K e S'=some z/\S.nx<=S'.nx/\US P N C (.code (.rangeFunc M0 ps a b)) S S' e:=by
 intro l
 induction l with
 |nil=>intro h;cases h
 |cons it q ih=>
  intro h;unfold rgK at h;split at h
  ·exact ih h
  ·rename_i x g1 Fy
   split at h
   ·rename_i g hg
    dsimp only at h;split at h
    ·rename_i v hv
     split at h
     ·rename_i x0 g2 Wg
      revert h;generalize hcc:(((Nat.beq it.k k&&Nat.beq it.n ps.toList.length&&uD (iV C))&&(s0 g.nm g2.th&&s5 ((jg C ⟨S.F,g1.O,g1.nx,S.D⟩ g.l).nx+2) g.nm&&uN ((jg C ⟨S.F,g1.O,g1.nx,S.D⟩ g.l).nx+2) (O3 ps.toList a b C (jg C ⟨S.F,g1.O,g1.nx,S.D⟩ g.l) g2.O)))&&((qJ ((jg C ⟨S.F,g1.O,g1.nx,S.D⟩ g.l).nx+2) g2.O&&XZ N ps.toList)&&(uN ((jg C ⟨S.F,g1.O,g1.nx,S.D⟩ g.l).nx+2) C&&Gi (g2.O++iV C))))=cc;intro h;cases cc with
      |false=>cases h
      |true=>simp only[aiC]at hcc;obtain⟨⟨⟨⟨c1,c2⟩,c3⟩,⟨c4,c5⟩,c6⟩,⟨c7,c8⟩,c9,c10⟩:=hcc;obtain rfl:=aiB c1;obtain⟨l,hf,h⟩:=pq h;obtain⟨e1,Sf,k1,k2,k3⟩:=Vn br l x0 h;refine⟨e1,_,k1,?_,NT Gx Fy rfl hv Wg c4 c5 (by simpa using aiB c2) c3 c6 c7 c9 c8 c10 hf k3⟩;show S.nx<=Sf.nx;rw[zq]at k2;exact Nat.le_trans (PA Fy) k2
     ·cases h
    ·cases h
   ·cases h
theorem Vp(br:mT P rec){ps:Array Nat}{a b:Code}{k:Nat}{cap:AV G}{S:AS G}{M0:Operand}(Gx:ei C S [] M0=some (.fn (.func k) .nil cap))(h:rgI tb rec N cp C ps.toList a b k cap S K=some z):
  ∃e S',K e S'=some z/\S.nx<=S'.nx/\US P N C (.code (.rangeFunc M0 ps a b)) S S' e:=by
 unfold rgI at h;split at h
 ·rename_i fi ks vs EU hkv
  split at h
  ·rename_i hres
   cases hb:((lR cap&&Nat.ble (vH cap+1) fi.N)&&uD (iV C))with
   |false=>rw[hb]at h;cases h
   |true=>
    rw[hb]at h;simp only[aiC]at hb;obtain⟨⟨b1,b2⟩,b3⟩:=hb;have b2:=Nat.le_of_ble_eq_true b2;obtain⟨e,S1,h1,h2,h3⟩:=br _ _ _ _ _ _ _ h;have h2:S.nx+2<=S1.nx:=h2;split at h1
    ·rename_i O2 hX
     exact⟨_,_,h1,by show S.nx<=S1.nx;omega,Fa (tt:=tb.tt) Gx EU hres b1 b2 b3 hkv h3 h2 hX (.inl rfl)⟩
    ·rename_i O2 hX
     exact⟨_,_,h1,by show S.nx<=S1.nx;omega,Fa (tt:=tb.tt) Gx EU hres b1 b2 b3 hkv h3 h2 hX (.inr rfl)⟩
    ·cases h1
  ·cases h
 ·cases h
theorem RB(br:mT P rec):mT P (step tb rec):=by
 intro N cp C cf S K z h;unfold step at h;dsimp only at h;split at h
 ·exact⟨_,_,h,Nat.le_refl _,U5⟩
 ·rename_i all o r
  split at h
  ·rename_i hg;exact NO br (.none hg) h
  ·rename_i j w hg
   split at h
   ·rename_i dj hd
    split at h
    ·rename_i hk;exact NO br (.Uh hg hd hk) h
    ·rename_i hk
     split at h
     ·rename_i S2 hp
      obtain⟨e,S3,k1,k2,k3⟩:=br _ _ _ _ _ _ _ h;have:=kB hp;exact⟨e,S3,k1,by omega,Rs hg hd hk hp k3⟩
     ·cases h
    ·split at h
     ·rename_i g gs v he hv
      obtain⟨h1,h2⟩:=abJ h;split at h2
      ·rename_i S2 hp
       obtain⟨e,S3,k1,k2,k3⟩:=br _ _ _ _ _ _ _ h2;have:=kB hp;exact⟨e,S3,k1,by omega,NY hg hd he hv h1 hp k3⟩
      ·cases h2
     ·refine WS br hg hd rfl rfl (λh=>?_) h
      split at h
      ·rename_i k b hk
       cases b with
       |true=>have h:=JS rfl h;obtain⟨e,S3,k1,k2,k3⟩:=br _ _ _ _ _ _ _ h;exact⟨e,S3,k1,k2,Kl hk k3⟩
       |false=>have h:=JU rfl h;obtain⟨e,S3,k1,k2,k3⟩:=br _ _ _ _ _ _ _ h;exact⟨e,S3,k1,k2,Kl hk k3⟩
      ·cases h
   ·cases h
 ·split at h
  ·exact⟨_,_,h,Nat.le_refl _,λc ρ J HK X a w Q hr hq=>wpIn_skip (hq.here hr trivial)⟩
  ·exact⟨_,_,h,Nat.le_refl _,λc ρ J HK X a w Q hr hq=>wpIn_label (hq.here hr trivial)⟩
  ·exact⟨_,_,h,Nat.le_refl _,λc ρ J HK X a w Q hr hq=>wpIn_ret (hq.here hr trivial)⟩
  ·exact⟨_,_,h,Nat.le_refl _,λc ρ J HK X a w Q hr hq=>wpIn_exit (hq.here hr rfl)⟩
  ·obtain⟨e,S1,k1,k2,k3⟩:=br _ _ _ _ _ _ _ h
   exact⟨e,S1,k1,k2,L1 k3⟩
  ·exact WO br h
  ·rename_i i x
   obtain⟨e1,S1,k1,k2,k3⟩:=br _ _ _ _ _ _ _ h;cases e1 with
   |exit j=>
    dsimp only at k1;cases hb:Nat.beq i j with
    |true=>rw[hb]at k1;have e:=aiB hb;exact⟨_,S1,k1,k2,vh k3 (.inl ⟨by rw[e],rfl⟩)⟩
    |false=>rw[hb]at k1;exact⟨_,S1,k1,k2,vh k3 (.inr ⟨rfl,λq=>by cases q;rw[Nat.beq_refl]at hb;cases hb⟩)⟩
   |gq=>exact⟨_,S1,k1,k2,vh k3 (.inr ⟨rfl,by simp⟩)⟩
   |ret=>exact⟨_,S1,k1,k2,vh k3 (.inr ⟨rfl,by simp⟩)⟩
   |sH v=>exact⟨_,S1,k1,k2,vh k3 (.inr ⟨rfl,by simp⟩)⟩
  ·obtain⟨e,S1,k1,k2,k3⟩:=br _ _ _ _ _ _ _ h
   exact⟨e,S1,k1,k2,NR k3⟩
  ·split at h
   ·rename_i t hx
    cases t with
    |true=>have h:=JS rfl h;obtain⟨e,S1,k1,k2,k3⟩:=br _ _ _ _ _ _ _ h;exact⟨e,S1,k1,k2,Km hx k3⟩
    |false=>have h:=JU rfl h;obtain⟨e,S1,k1,k2,k3⟩:=br _ _ _ _ _ _ _ h;exact⟨e,S1,k1,k2,Km hx k3⟩
   ·rename_i t hx
    obtain⟨e,S1,k1,k2,k3⟩:=br _ _ _ _ _ _ _ h;exact⟨e,S1,k1,k2,NZ hx k3⟩
   ·cases h
  ·rename_i x y
   split at h
   ·rename_i gl ex _
    split at h
    ·rename_i g _
     cases hb:uN S.nx ((⟨gw (λd=> !(cv (E8 x) d||vJ g.l d)) S.F,bS (λq=> !cv (L3 C S gl++Hz C S ex) q) S.O,S.D⟩:Ly G)::C)with
     |false=>rw[hb]at h;cases h
     |true=>
      rw[hb]at h;have h:=aa6 h;obtain⟨e1,S1,k1,k2,k3⟩:=br _ _ _ _ _ _ _ h;have k2:S.nx<=S1.nx:=k2;cases e1 with
      |gq=>
       dsimp only at k1;split at k1
       ·rename_i e hg
        obtain⟨e2,S2,m1,m2,m3⟩:=br _ _ _ _ _ _ _ k1;have m2:S.nx+g.nm.length<=S2.nx:=m2;exact⟨e2,S2,m1,by omega,Rv rfl hb k3 hg m3⟩
       ·cases k1
      |exit i=>exact⟨_,_,k1,k2,lz (FZ _ _ k3) (by simp)⟩
      |ret=>exact⟨_,_,k1,k2,lz (FZ _ _ k3) (by simp)⟩
      |sH v=>exact⟨_,_,k1,k2,lz (FZ _ _ k3) (by simp)⟩
    ·cases h
   ·exact Vk br h
  ·rename_i x
   split at h
   ·rename_i gl _
    split at h
    ·cases h
    ·rename_i g _
     have hp:=zq (C:=C) (S:=S) (l:=g.l);refine R2 (g:=g) (λh=>?_) h;clear hp;generalize jg C S g.l=S at h;split at h
     ·rename_i v hv
      split at h
      ·rename_i x0 g' Fy
       cases hb:(s0 g.nm g'.th&&s5 S.nx g.nm)with
       |false=>rw[hb]at h;cases h
       |true=>
        rw[hb]at h;simp only[aiC]at hb;simp only[cond_true]at h;cases hc:uN S.nx ((⟨gw (λd=> !(cv (E8 x) d||vJ g.l d)) S.F,g'.O,S.D⟩:Ly G)::C)with
        |false=>rw[hc]at h;cases h
        |true=>rw[hc]at h;obtain⟨e1,S1,k1,k2,k3⟩:=Sj (g:=g) br hc _ _ h;exact⟨e1,_,k1,k2,Ru hv Fy hb.1 hb.2 rfl hc k3⟩
      ·cases h
     ·cases h
   ·obtain⟨e1,S1,k1,k2,k3⟩:=br _ _ _ _ _ _ _ h
    exact⟨e1,S1,k1,k2,aar k3⟩
   ·cases h
  ·split at h
   ·rename_i Gx _
    exact Vo br Gx h
   ·rename_i Gx _
    exact Vp br Gx h
   ·cases h
  ·cases h
 ·rename_i x
  obtain⟨e1,S1,k1,k2,k3⟩:=br _ _ _ _ _ _ _ h;cases e1 with
  |gq=>obtain⟨e2,S2,m1,m2,m3⟩:=br _ _ _ _ _ _ _ k1;exact⟨e2,S2,m1,Nat.le_trans k2 m2,I1 k3 m3 k2⟩
  |exit i=>exact⟨_,S1,k1,k2,xV k3 (by simp)⟩
  |ret=>exact⟨_,S1,k1,k2,xV k3 (by simp)⟩
  |sH v=>exact⟨_,S1,k1,k2,xV k3 (by simp)⟩
theorem ab3:∀n:Nat,mT P (W (Z:=Z) tb n):=by
 intro n
 induction n with
 |zero=>intro N cp C cf S K z h;cases h
 |succ n ih=>exact RB ih
end Go.Rw
namespace Go.Proofs.Z
open Go Go.Bw Go.Rw Go.RowKit
structure cG where
 gen:Int
 iM:Bool
 g8:Bool
abbrev bG:cj cG:=cj.via (LP (LI .u32) (LP LB LB)) (λx=>(x.gen,x.iM,x.g8))
abbrev kr:cG:=⟨0,false,false⟩
def pO:List Value:=[.int .u32 0]++([.bool false]++([.bool false]))
theorem uR{A:World->Prop}:bG.ef A pO kr:=⟨_,_,rfl,rfl,⟨_,_,rfl,rfl,rfl⟩⟩
theorem gk:aY bG (LI .u32) 0 (λx=>x.gen) (λx v=>{x with gen:=v}):=(aY.fst aY.id).via _ _ _ 0 rfl (λ_ =>rfl) (λ_ _ =>rfl)
theorem jr:aY bG LB 1 (λx=>x.iM) (λx v=>{x with iM:=v}):=(aY.snd (aY.fst aY.id)).via _ _ _ 1 rfl (λ_ =>rfl) (λ_ _ =>rfl)
theorem nn:aY bG LB 2 (λx=>x.g8) (λx v=>{x with g8:=v}):=(aY.snd (aY.snd aY.id)).via _ _ _ 2 rfl (λ_ =>rfl) (λ_ _ =>rfl)
structure bC where
 bD:(Nat->cG)
abbrev aL:cj bC:=cj.via (LA bG 32) (λx=>x.bD)
abbrev fj:bC:=⟨(λ_ =>kr)⟩
instance:Inhabited bC:=⟨fj⟩
def lT:List Value:=(flat (λ_ =>pO) 32)
theorem pL{A:World->Prop}:aL.ef A lT fj:=⟨_,rfl,λ_ _ =>uR⟩
theorem cH:aY aL (LA bG 32) 0 (λx=>x.bD) (λx v=>{x with bD:=v}):=aY.id.via _ _ _ 0 rfl (λ_ =>rfl) (λ_ _ =>rfl)
structure jd where
 iX:bC
abbrev mV:cj jd:=cj.via aL (λx=>x.iX)
abbrev tu:jd:=⟨fj⟩
def xk:List Value:=lT
theorem ED{A:World->Prop}:mV.ef A xk tu:=pL
theorem z8:aY mV aL 0 (λx=>x.iX) (λx v=>{x with iX:=v}):=aY.id.via _ _ _ 0 rfl (λ_ =>rfl) (λ_ _ =>rfl)
structure av where
 At:Int
 N:Int
abbrev bw:cj av:=cj.via (LP (LI .i64) (LI .i64)) (λx=>(x.At,x.N))
abbrev cy:av:=⟨0,0⟩
instance:Inhabited av:=⟨cy⟩
def lq:List Value:=[.int .i64 0]++([.int .i64 0])
theorem uQ{A:World->Prop}:bw.ef A lq cy:=⟨_,_,rfl,rfl,rfl⟩
theorem E0:aY bw (LI .i64) 0 (λx=>x.At) (λx v=>{x with At:=v}):=(aY.fst aY.id).via _ _ _ 0 rfl (λ_ =>rfl) (λ_ _ =>rfl)
theorem G2:aY bw (LI .i64) 1 (λx=>x.N) (λx v=>{x with N:=v}):=(aY.snd aY.id).via _ _ _ 1 rfl (λ_ =>rfl) (λ_ _ =>rfl)
structure bh where
 qN:(List av)
 Kg:Int
abbrev fT:cj bh:=cj.via (LP (@QW av ⟨cy⟩ bw) (LI .i64)) (λx=>(x.qN,x.Kg))
abbrev cI:bh:=⟨[],0⟩
instance:Inhabited bh:=⟨cI⟩
def fk:List Value:=[.slice none 0 0]++([.int .i64 0])
theorem jx{A:World->Prop}:fT.ef A fk cI:=⟨_,_,rfl,⟨_,_,rfl,yH.nil⟩,rfl⟩
theorem wq:aY fT (@QW av ⟨cy⟩ bw) 0 (λx=>x.qN) (λx v=>{x with qN:=v}):=(aY.fst aY.id).via _ _ _ 0 rfl (λ_ =>rfl) (λ_ _ =>rfl)
theorem xb:aY fT (LI .i64) 1 (λx=>x.Kg) (λx v=>{x with Kg:=v}):=(aY.snd aY.id).via _ _ _ 1 rfl (λ_ =>rfl) (λ_ _ =>rfl)
structure aT where
 Up:Int
 ur:Int
 E:bh
 ou:(Nat->Int)
abbrev eH:cj aT:=cj.via (LP (LI .u32) (LP (LI .i64) (LP fT (LA (LI .u32) 8)))) (λx=>(x.Up,x.ur,x.E,x.ou))
abbrev gO:aT:=⟨0,0,cI,(λ_ =>0)⟩
instance:Inhabited aT:=⟨gO⟩
def ow:List Value:=[.int .u32 0]++([.int .i64 0]++(fk++((flat (λ_ =>[.int .u32 0]) 8))))
theorem tH{A:World->Prop}:eH.ef A ow gO:=⟨_,_,rfl,rfl,⟨_,_,rfl,rfl,⟨_,_,rfl,jx,⟨_,rfl,λ_ _ =>rfl⟩⟩⟩⟩
theorem Aa:aY eH (LI .u32) 0 (λx=>x.Up) (λx v=>{x with Up:=v}):=(aY.fst aY.id).via _ _ _ 0 rfl (λ_ =>rfl) (λ_ _ =>rfl)
theorem wk:aY eH (LI .i64) 1 (λx=>x.ur) (λx v=>{x with ur:=v}):=(aY.snd (aY.fst aY.id)).via _ _ _ 1 rfl (λ_ =>rfl) (λ_ _ =>rfl)
theorem Bs:aY eH fT 2 (λx=>x.E) (λx v=>{x with E:=v}):=(aY.snd (aY.snd (aY.fst aY.id))).via _ _ _ 2 rfl (λ_ =>rfl) (λ_ _ =>rfl)
theorem wm:aY eH (LA (LI .u32) 8) 4 (λx=>x.ou) (λx v=>{x with ou:=v}):=(aY.snd (aY.snd (aY.snd aY.id))).via _ _ _ 4 rfl (λ_ =>rfl) (λ_ _ =>rfl)
structure ay where
 bN:jd
 fL:(Nat->aT)
abbrev iG:cj ay:=cj.via (LP mV (LA eH 32)) (λx=>(x.bN,x.fL))
abbrev eB:ay:=⟨tu,(λ_ =>gO)⟩
instance:Inhabited ay:=⟨eB⟩
def pN:List Value:=xk++((flat (λ_ =>ow) 32))
theorem uP{A:World->Prop}:iG.ef A pN eB:=⟨_,_,rfl,ED,⟨_,rfl,λ_ _ =>tH⟩⟩
theorem yA:aY iG mV 0 (λx=>x.bN) (λx v=>{x with bN:=v}):=(aY.fst aY.id).via _ _ _ 0 rfl (λ_ =>rfl) (λ_ _ =>rfl)
theorem uJ:aY iG (LA eH 32) 96 (λx=>x.fL) (λx v=>{x with fL:=v}):=(aY.snd aY.id).via _ _ _ 96 rfl (λ_ =>rfl) (λ_ _ =>rfl)
structure dR where
 uL:Int
 nc:Int
 gp:Int
abbrev nI:cj dR:=cj.via (LP (LI .u8) (LP (LI .u8) (LI .u8))) (λx=>(x.uL,x.nc,x.gp))
abbrev pH:dR:=⟨0,0,0⟩
instance:Inhabited dR:=⟨pH⟩
def xJ:List Value:=[.int .u8 0]++([.int .u8 0]++([.int .u8 0]))
theorem CM{A:World->Prop}:nI.ef A xJ pH:=⟨_,_,rfl,rfl,⟨_,_,rfl,rfl,rfl⟩⟩
theorem Eo:aY nI (LI .u8) 0 (λx=>x.uL) (λx v=>{x with uL:=v}):=(aY.fst aY.id).via _ _ _ 0 rfl (λ_ =>rfl) (λ_ _ =>rfl)
theorem En:aY nI (LI .u8) 1 (λx=>x.nc) (λx v=>{x with nc:=v}):=(aY.snd (aY.fst aY.id)).via _ _ _ 1 rfl (λ_ =>rfl) (λ_ _ =>rfl)
theorem Ac:aY nI (LI .u8) 2 (λx=>x.gp) (λx v=>{x with gp:=v}):=(aY.snd (aY.snd aY.id)).via _ _ _ 2 rfl (λ_ =>rfl) (λ_ _ =>rfl)
structure jh where
 root:Int
 own:dR
abbrev nH:cj jh:=cj.via (LP (LI .u32) nI) (λx=>(x.root,x.own))
abbrev qB:jh:=⟨0,pH⟩
def uS:List Value:=[.int .u32 0]++(xJ)
theorem BF{A:World->Prop}:nH.ef A uS qB:=⟨_,_,rfl,rfl,CM⟩
theorem Cp:aY nH (LI .u32) 0 (λx=>x.root) (λx v=>{x with root:=v}):=(aY.fst aY.id).via _ _ _ 0 rfl (λ_ =>rfl) (λ_ _ =>rfl)
theorem Em:aY nH nI 1 (λx=>x.own) (λx v=>{x with own:=v}):=(aY.snd aY.id).via _ _ _ 1 rfl (λ_ =>rfl) (λ_ _ =>rfl)
structure cB where
 bD:(Nat->jh)
abbrev qE:cj cB:=cj.via (LA nH 32) (λx=>x.bD)
abbrev nD:cB:=⟨(λ_ =>qB)⟩
instance:Inhabited cB:=⟨nD⟩
def uT:List Value:=(flat (λ_ =>uS) 32)
theorem BG{A:World->Prop}:qE.ef A uT nD:=⟨_,rfl,λ_ _ =>BF⟩
theorem Bv:aY qE (LA nH 32) 0 (λx=>x.bD) (λx v=>{x with bD:=v}):=aY.id.via _ _ _ 0 rfl (λ_ =>rfl) (λ_ _ =>rfl)
structure bp where
 Region:Int
 By:Int
 To:Int
 jH:Bool
 rq:Int
abbrev bj:cj bp:=cj.via (LP (LI .u32) (LP (LI .u8) (LP (LI .u8) (LP LB (LI .u32))))) (λx=>(x.Region,x.By,x.To,x.jH,x.rq))
abbrev fg:bp:=⟨0,0,0,false,0⟩
instance:Inhabited bp:=⟨fg⟩
def pM:List Value:=[.int .u32 0]++([.int .u8 0]++([.int .u8 0]++([.bool false]++([.int .u32 0]))))
theorem uO{A:World->Prop}:bj.ef A pM fg:=⟨_,_,rfl,rfl,⟨_,_,rfl,rfl,⟨_,_,rfl,rfl,⟨_,_,rfl,rfl,rfl⟩⟩⟩⟩
theorem wj:aY bj (LI .u32) 0 (λx=>x.Region) (λx v=>{x with Region:=v}):=(aY.fst aY.id).via _ _ _ 0 rfl (λ_ =>rfl) (λ_ _ =>rfl)
theorem Br:aY bj (LI .u8) 1 (λx=>x.By) (λx v=>{x with By:=v}):=(aY.snd (aY.fst aY.id)).via _ _ _ 1 rfl (λ_ =>rfl) (λ_ _ =>rfl)
theorem Bq:aY bj (LI .u8) 2 (λx=>x.To) (λx v=>{x with To:=v}):=(aY.snd (aY.snd (aY.fst aY.id))).via _ _ _ 2 rfl (λ_ =>rfl) (λ_ _ =>rfl)
theorem uI:aY bj LB 3 (λx=>x.jH) (λx v=>{x with jH:=v}):=(aY.snd (aY.snd (aY.snd (aY.fst aY.id)))).via _ _ _ 3 rfl (λ_ =>rfl) (λ_ _ =>rfl)
theorem o4:aY bj (LI .u32) 4 (λx=>x.rq) (λx v=>{x with rq:=v}):=(aY.snd (aY.snd (aY.snd (aY.snd aY.id)))).via _ _ _ 4 rfl (λ_ =>rfl) (λ_ _ =>rfl)
structure aS where
 bN:bC
 bD:(Nat->bp)
abbrev aA:cj aS:=cj.via (LP aL (LA bj 16)) (λx=>(x.bN,x.bD))
abbrev cS:aS:=⟨fj,(λ_ =>fg)⟩
instance:Inhabited aS:=⟨cS⟩
def ov:List Value:=lT++((flat (λ_ =>pM) 16))
theorem tG{A:World->Prop}:aA.ef A ov cS:=⟨_,_,rfl,pL,⟨_,rfl,λ_ _ =>uO⟩⟩
theorem dB:aY aA aL 0 (λx=>x.bN) (λx v=>{x with bN:=v}):=(aY.fst aY.id).via _ _ _ 0 rfl (λ_ =>rfl) (λ_ _ =>rfl)
theorem om:aY aA (LA bj 16) 96 (λx=>x.bD) (λx v=>{x with bD:=v}):=(aY.snd aY.id).via _ _ _ 96 rfl (λ_ =>rfl) (λ_ _ =>rfl)
structure bK where
 T:ay
 O:cB
 K:aS
abbrev dN:cj bK:=cj.via (LP iG (LP qE aA)) (λx=>(x.T,x.O,x.K))
abbrev tv:bK:=⟨eB,nD,cS⟩
def xl:List Value:=pN++(uT++(ov))
theorem EE{A:World->Prop}:dN.ef A xl tv:=⟨_,_,rfl,uP,⟨_,_,rfl,BG,tG⟩⟩
theorem Ev:aY dN iG 0 (λx=>x.T) (λx v=>{x with T:=v}):=(aY.fst aY.id).via _ _ _ 0 rfl (λ_ =>rfl) (λ_ _ =>rfl)
theorem Ew:aY dN qE 480 (λx=>x.O) (λx v=>{x with O:=v}):=(aY.snd (aY.fst aY.id)).via _ _ _ 480 rfl (λ_ =>rfl) (λ_ _ =>rfl)
theorem Ey:aY dN aA 608 (λx=>x.K) (λx v=>{x with K:=v}):=(aY.snd (aY.snd aY.id)).via _ _ _ 608 rfl (λ_ =>rfl) (λ_ _ =>rfl)
structure aQ where
 Ez:Int
 EW:Int
 Region:Int
 we:Bool
abbrev dJ:cj aQ:=cj.via (LP (LI .u8) (LP (LI .u64) (LP (LI .u32) LB))) (λx=>(x.Ez,x.EW,x.Region,x.we))
abbrev fF:aQ:=⟨0,0,0,false⟩
instance:Inhabited aQ:=⟨fF⟩
def ox:List Value:=[.int .u8 0]++([.int .u64 0]++([.int .u32 0]++([.bool false])))
theorem tJ{A:World->Prop}:dJ.ef A ox fF:=⟨_,_,rfl,rfl,⟨_,_,rfl,rfl,⟨_,_,rfl,rfl,rfl⟩⟩⟩
theorem w9:aY dJ (LI .u8) 0 (λx=>x.Ez) (λx v=>{x with Ez:=v}):=(aY.fst aY.id).via _ _ _ 0 rfl (λ_ =>rfl) (λ_ _ =>rfl)
theorem w8:aY dJ (LI .u64) 1 (λx=>x.EW) (λx v=>{x with EW:=v}):=(aY.snd (aY.fst aY.id)).via _ _ _ 1 rfl (λ_ =>rfl) (λ_ _ =>rfl)
theorem uK:aY dJ (LI .u32) 2 (λx=>x.Region) (λx v=>{x with Region:=v}):=(aY.snd (aY.snd (aY.fst aY.id))).via _ _ _ 2 rfl (λ_ =>rfl) (λ_ _ =>rfl)
theorem wo:aY dJ LB 3 (λx=>x.we) (λx v=>{x with we:=v}):=(aY.snd (aY.snd (aY.snd aY.id))).via _ _ _ 3 rfl (λ_ =>rfl) (λ_ _ =>rfl)
structure bM where
 ring:(Nat->aQ)
 uh:Int
 n:Int
 closed:Bool
abbrev ju:cj bM:=cj.via (LP (LA dJ 4) (LP (LI .i64) (LP (LI .i64) LB))) (λx=>(x.ring,x.uh,x.n,x.closed))
abbrev nE:bM:=⟨(λ_ =>fF),0,0,false⟩
instance:Inhabited bM:=⟨nE⟩
def uU:List Value:=(flat (λ_ =>ox) 4)++([.int .i64 0]++([.int .i64 0]++([.bool false])))
theorem BH{A:World->Prop}:ju.ef A uU nE:=⟨_,_,rfl,⟨_,rfl,λ_ _ =>tJ⟩,⟨_,_,rfl,rfl,⟨_,_,rfl,rfl,rfl⟩⟩⟩
theorem Cs:aY ju (LA dJ 4) 0 (λx=>x.ring) (λx v=>{x with ring:=v}):=(aY.fst aY.id).via _ _ _ 0 rfl (λ_ =>rfl) (λ_ _ =>rfl)
theorem BD:aY ju (LI .i64) 16 (λx=>x.uh) (λx v=>{x with uh:=v}):=(aY.snd (aY.fst aY.id)).via _ _ _ 16 rfl (λ_ =>rfl) (λ_ _ =>rfl)
theorem G3:aY ju (LI .i64) 17 (λx=>x.n) (λx v=>{x with n:=v}):=(aY.snd (aY.snd (aY.fst aY.id))).via _ _ _ 17 rfl (λ_ =>rfl) (λ_ _ =>rfl)
theorem Ae:aY ju LB 18 (λx=>x.closed) (λx v=>{x with closed:=v}):=(aY.snd (aY.snd (aY.snd aY.id))).via _ _ _ 18 rfl (λ_ =>rfl) (λ_ _ =>rfl)
structure ak where
 dg:bK
 iD:(Nat->bM)
 lI:(Nat->Bool)
 E6:(Nat->Bool)
abbrev iH:cj ak:=cj.via (LP dN (LP (LA ju 8) (LP (LA LB 8) (LA LB 8)))) (λx=>(x.dg,x.iD,x.lI,x.E6))
abbrev cZ:ak:=⟨tv,(λ_ =>nE),(λ_ =>false),(λ_ =>false)⟩
instance:Inhabited ak:=⟨cZ⟩
def eD:List Value:=xl++((flat (λ_ =>uU) 8)++((flat (λ_ =>[.bool false]) 8)++((flat (λ_ =>[.bool false]) 8))))
theorem pK{A:World->Prop}:iH.ef A eD cZ:=⟨_,_,rfl,EE,⟨_,_,rfl,⟨_,rfl,λ_ _ =>BH⟩,⟨_,_,rfl,⟨_,rfl,λ_ _ =>rfl⟩,⟨_,rfl,λ_ _ =>rfl⟩⟩⟩⟩
theorem Ad:aY iH dN 0 (λx=>x.dg) (λx v=>{x with dg:=v}):=(aY.fst aY.id).via _ _ _ 0 rfl (λ_ =>rfl) (λ_ _ =>rfl)
theorem w6:aY iH (LA ju 8) 784 (λx=>x.iD) (λx v=>{x with iD:=v}):=(aY.snd (aY.fst aY.id)).via _ _ _ 784 rfl (λ_ =>rfl) (λ_ _ =>rfl)
theorem w7:aY iH (LA LB 8) 936 (λx=>x.lI) (λx v=>{x with lI:=v}):=(aY.snd (aY.snd (aY.fst aY.id))).via _ _ _ 936 rfl (λ_ =>rfl) (λ_ _ =>rfl)
theorem yC:aY iH (LA LB 8) 944 (λx=>x.E6) (λx v=>{x with E6:=v}):=(aY.snd (aY.snd (aY.snd aY.id))).via _ _ _ 944 rfl (λ_ =>rfl) (λ_ _ =>rfl)
structure bP where
 Q8:Int
 n:Int
 B5:(Nat->Int)
abbrev jt:cj bP:=cj.via (LP (LI .u8) (LP (LI .i64) (LA (LI .u8) 8))) (λx=>(x.Q8,x.n,x.B5))
abbrev lG:bP:=⟨0,0,(λ_ =>0)⟩
instance:Inhabited bP:=⟨lG⟩
def sJ:List Value:=[.int .u8 0]++([.int .i64 0]++((flat (λ_ =>[.int .u8 0]) 8)))
theorem yJ{A:World->Prop}:jt.ef A sJ lG:=⟨_,_,rfl,rfl,⟨_,_,rfl,rfl,⟨_,rfl,λ_ _ =>rfl⟩⟩⟩
theorem Cr:aY jt (LI .u8) 0 (λx=>x.Q8) (λx v=>{x with Q8:=v}):=(aY.fst aY.id).via _ _ _ 0 rfl (λ_ =>rfl) (λ_ _ =>rfl)
theorem E3:aY jt (LI .i64) 1 (λx=>x.n) (λx v=>{x with n:=v}):=(aY.snd (aY.fst aY.id)).via _ _ _ 1 rfl (λ_ =>rfl) (λ_ _ =>rfl)
theorem BB:aY jt (LA (LI .u8) 8) 2 (λx=>x.B5) (λx v=>{x with B5:=v}):=(aY.snd (aY.snd aY.id)).via _ _ _ 2 rfl (λ_ =>rfl) (λ_ _ =>rfl)
structure aq where
 bD:(Nat->bP)
abbrev tF:cj aq:=cj.via (LA jt 32) (λx=>x.bD)
abbrev bW:aq:=⟨(λ_ =>lG)⟩
instance:Inhabited aq:=⟨bW⟩
def jU:List Value:=(flat (λ_ =>sJ) 32)
theorem xh{A:World->Prop}:tF.ef A jU bW:=⟨_,rfl,λ_ _ =>yJ⟩
theorem yD:aY tF (LA jt 32) 0 (λx=>x.bD) (λx v=>{x with bD:=v}):=aY.id.via _ _ _ 0 rfl (λ_ =>rfl) (λ_ _ =>rfl)
structure bO where
 l:(List av)
abbrev oq:cj bO:=cj.via (@QW av ⟨cy⟩ bw) (λx=>x.l)
abbrev jq:bO:=⟨[]⟩
instance:Inhabited bO:=⟨jq⟩
def sI:List Value:=[.slice none 0 0]
theorem yI{A:World->Prop}:oq.ef A sI jq:=⟨_,_,rfl,yH.nil⟩
theorem EZ:aY oq (@QW av ⟨cy⟩ bw) 0 (λx=>x.l) (λx v=>{x with l:=v}):=aY.id.via _ _ _ 0 rfl (λ_ =>rfl) (λ_ _ =>rfl)
structure ah where
 E:Int
 V:Int
 W:Int
abbrev cu:cj ah:=cj.via (LP (LI .i64) (LP (LI .u64) (LI .u32))) (λx=>(x.E,x.V,x.W))
abbrev aU:ah:=⟨0,0,0⟩
instance:Inhabited ah:=⟨aU⟩
def fS:List Value:=[.int .i64 0]++([.int .u64 0]++([.int .u32 0]))
theorem tI{A:World->Prop}:cu.ef A fS aU:=⟨_,_,rfl,rfl,⟨_,_,rfl,rfl,rfl⟩⟩
theorem BA:aY cu (LI .i64) 0 (λx=>x.E) (λx v=>{x with E:=v}):=(aY.fst aY.id).via _ _ _ 0 rfl (λ_ =>rfl) (λ_ _ =>rfl)
theorem Bz:aY cu (LI .u64) 1 (λx=>x.V) (λx v=>{x with V:=v}):=(aY.snd (aY.fst aY.id)).via _ _ _ 1 rfl (λ_ =>rfl) (λ_ _ =>rfl)
theorem Bx:aY cu (LI .u32) 2 (λx=>x.W) (λx v=>{x with W:=v}):=(aY.snd (aY.snd aY.id)).via _ _ _ 2 rfl (λ_ =>rfl) (λ_ _ =>rfl)
structure ai where
 Do:Int
 R:Int
 S:Int
 A:Int
 B:Int
 V:Int
abbrev eC:cj ai:=cj.via (LP (LI .u8) (LP (LI .u32) (LP (LI .u32) (LP (LI .u32) (LP (LI .u32) (LI .u64)))))) (λx=>(x.Do,x.R,x.S,x.A,x.B,x.V))
abbrev ax:ai:=⟨0,0,0,0,0,0⟩
def iE:List Value:=[.int .u8 0]++([.int .u32 0]++([.int .u32 0]++([.int .u32 0]++([.int .u32 0]++([.int .u64 0])))))
theorem ru{A:World->Prop}:eC.ef A iE ax:=⟨_,_,rfl,rfl,⟨_,_,rfl,rfl,⟨_,_,rfl,rfl,⟨_,_,rfl,rfl,⟨_,_,rfl,rfl,rfl⟩⟩⟩⟩⟩
theorem Cq:aY eC (LI .u8) 0 (λx=>x.Do) (λx v=>{x with Do:=v}):=(aY.fst aY.id).via _ _ _ 0 rfl (λ_ =>rfl) (λ_ _ =>rfl)
theorem Es:aY eC (LI .u32) 1 (λx=>x.R) (λx v=>{x with R:=v}):=(aY.snd (aY.fst aY.id)).via _ _ _ 1 rfl (λ_ =>rfl) (λ_ _ =>rfl)
theorem Er:aY eC (LI .u32) 2 (λx=>x.S) (λx v=>{x with S:=v}):=(aY.snd (aY.snd (aY.fst aY.id))).via _ _ _ 2 rfl (λ_ =>rfl) (λ_ _ =>rfl)
theorem Eu:aY eC (LI .u32) 3 (λx=>x.A) (λx v=>{x with A:=v}):=(aY.snd (aY.snd (aY.snd (aY.fst aY.id)))).via _ _ _ 3 rfl (λ_ =>rfl) (λ_ _ =>rfl)
theorem Et:aY eC (LI .u32) 4 (λx=>x.B) (λx v=>{x with B:=v}):=(aY.snd (aY.snd (aY.snd (aY.snd (aY.fst aY.id))))).via _ _ _ 4 rfl (λ_ =>rfl) (λ_ _ =>rfl)
theorem Ep:aY eC (LI .u64) 5 (λx=>x.V) (λx v=>{x with V:=v}):=(aY.snd (aY.snd (aY.snd (aY.snd (aY.snd aY.id))))).via _ _ _ 5 rfl (λ_ =>rfl) (λ_ _ =>rfl)
structure au where
 n:Int
 pe:bO
 bytes:(Nat->(Nat->Int))
abbrev ot:cj au:=cj.via (LP (LI .i64) (LP oq (LA (LA (LI .u8) 32) 64))) (λx=>(x.n,x.pe,x.bytes))
abbrev dF:au:=⟨0,jq,(λ_ =>(λ_ =>0))⟩
instance:Inhabited au:=⟨dF⟩
def yM:List Value:=[.int .i64 0]++(sI++((flat (λ_ =>(flat (λ_ =>[.int .u8 0]) 32)) 64)))
theorem FT{A:World->Prop}:ot.ef A yM dF:=⟨_,_,rfl,rfl,⟨_,_,rfl,yI,⟨_,rfl,λ_ _ =>⟨_,rfl,λ_ _ =>rfl⟩⟩⟩⟩
theorem E2:aY ot (LI .i64) 0 (λx=>x.n) (λx v=>{x with n:=v}):=(aY.fst aY.id).via _ _ _ 0 rfl (λ_ =>rfl) (λ_ _ =>rfl)
theorem Bt:aY ot oq 1 (λx=>x.pe) (λx v=>{x with pe:=v}):=(aY.snd (aY.fst aY.id)).via _ _ _ 1 rfl (λ_ =>rfl) (λ_ _ =>rfl)
theorem Ab:aY ot (LA (LA (LI .u8) 32) 64) 2 (λx=>x.bytes) (λx v=>{x with bytes:=v}):=(aY.snd (aY.snd aY.id)).via _ _ _ 2 rfl (λ_ =>rfl) (λ_ _ =>rfl)
structure gJ where
 L:(List Int)
 yG:Int
abbrev rm:cj gJ:=cj.via (LP (@QW Int ⟨0⟩ (LI .u64)) (LI .i64)) (λx=>(x.L,x.yG))
abbrev rj:gJ:=⟨[],0⟩
def yL:List Value:=[.slice none 0 0]++([.int .i64 0])
theorem FR{A:World->Prop}:rm.ef A yL rj:=⟨_,_,rfl,⟨_,_,rfl,yH.nil⟩,rfl⟩
theorem E1:aY rm (@QW Int ⟨0⟩ (LI .u64)) 0 (λx=>x.L) (λx v=>{x with L:=v}):=(aY.fst aY.id).via _ _ _ 0 rfl (λ_ =>rfl) (λ_ _ =>rfl)
theorem yB:aY rm (LI .i64) 1 (λx=>x.yG) (λx v=>{x with yG:=v}):=(aY.snd aY.id).via _ _ _ 1 rfl (λ_ =>rfl) (λ_ _ =>rfl)
structure aN where
 nc:Int
 C:ai
 Checked:Bool
 iv:(List Int)
 Iu:av
 pF:Int
abbrev gX:cj aN:=cj.via (LP (LI .i64) (LP eC (LP LB (LP (@QW Int ⟨0⟩ (LI .u32)) (LP bw (LI .i64)))))) (λx=>(x.nc,x.C,x.Checked,x.iv,x.Iu,x.pF))
abbrev gW:aN:=⟨0,ax,false,[],cy,0⟩
instance:Inhabited aN:=⟨gW⟩
def lU:List Value:=[.int .i64 0]++(iE++([.bool false]++([.slice none 0 0]++(lq++([.int .i64 0])))))
theorem yK{A:World->Prop}:gX.ef A lU gW:=⟨_,_,rfl,rfl,⟨_,_,rfl,ru,⟨_,_,rfl,rfl,⟨_,_,rfl,⟨_,_,rfl,yH.nil⟩,⟨_,_,rfl,uQ,rfl⟩⟩⟩⟩⟩
theorem BE:aY gX (LI .i64) 0 (λx=>x.nc) (λx v=>{x with nc:=v}):=(aY.fst aY.id).via _ _ _ 0 rfl (λ_ =>rfl) (λ_ _ =>rfl)
theorem E4:aY gX eC 1 (λx=>x.C) (λx v=>{x with C:=v}):=(aY.snd (aY.fst aY.id)).via _ _ _ 1 rfl (λ_ =>rfl) (λ_ _ =>rfl)
theorem xg:aY gX LB 7 (λx=>x.Checked) (λx v=>{x with Checked:=v}):=(aY.snd (aY.snd (aY.fst aY.id))).via _ _ _ 7 rfl (λ_ =>rfl) (λ_ _ =>rfl)
theorem xd:aY gX (@QW Int ⟨0⟩ (LI .u32)) 8 (λx=>x.iv) (λx v=>{x with iv:=v}):=(aY.snd (aY.snd (aY.snd (aY.fst aY.id)))).via _ _ _ 8 rfl (λ_ =>rfl) (λ_ _ =>rfl)
theorem Cu:aY gX bw 9 (λx=>x.Iu) (λx v=>{x with Iu:=v}):=(aY.snd (aY.snd (aY.snd (aY.snd (aY.fst aY.id))))).via _ _ _ 9 rfl (λ_ =>rfl) (λ_ _ =>rfl)
theorem xe:aY gX (LI .i64) 11 (λx=>x.pF) (λx v=>{x with pF:=v}):=(aY.snd (aY.snd (aY.snd (aY.snd (aY.snd aY.id))))).via _ _ _ 11 rfl (λ_ =>rfl) (λ_ _ =>rfl)
structure aj where
 aI:ak
 eJ:Int
 c:ai
 run:av
 mA:Int
 Ed:Bool
 lP:(List av)
abbrev Ef:aj:=⟨cZ,0,ax,cy,0,false,[]⟩
instance:Inhabited aj:=⟨Ef⟩
structure Bu where
 A:Type
 z:A
 L:cj A
def bu:List Bu:=[⟨cG,kr,bG⟩,⟨bC,fj,aL⟩,⟨jd,tu,mV⟩,⟨av,cy,bw⟩,⟨bh,cI,fT⟩,⟨aT,gO,eH⟩,⟨ay,eB,iG⟩,⟨dR,pH,nI⟩,⟨jh,qB,nH⟩,⟨cB,nD,qE⟩,⟨bp,fg,bj⟩,⟨aS,cS,aA⟩,⟨bK,tv,dN⟩,⟨aQ,fF,dJ⟩,⟨bM,nE,ju⟩,⟨ak,cZ,iH⟩,⟨bP,lG,jt⟩,⟨aq,bW,tF⟩,⟨bO,jq,oq⟩,⟨ah,aU,cu⟩,⟨ai,ax,eC⟩,⟨au,dF,ot⟩,⟨gJ,rj,rm⟩,⟨aN,gW,gX⟩]
def b0:Bu:=⟨Bool,false,LB⟩
def nth:List Bu->Nat->Bu
 |[],_ =>b0
 |b::r,i=>match i with
  |0=>b
  |i+1=>nth r i
def sg:Sg:=⟨λi=>(nth bu i).A,λi=>(nth bu i).z,λi=>(nth bu i).L,some (.u8,[(1,165),(2,166),(3,167),(4,168),(5,169),(6,170),(7,171),(8,172),(9,173),(10,174),(11,175),(12,176),(13,177),(14,178),(15,179),(16,179),(17,180),(18,181),(19,182),(20,183),(21,184),(22,185)])⟩
def fds:Kj sg
 |0=>[⟨(.int .u32),0,λ(x:cG)=>x.gen,λ(x:cG) v=>({x with gen:=v}:cG),gk⟩,⟨.bool,1,λ(x:cG)=>x.iM,λ(x:cG) v=>({x with iM:=v}:cG),jr⟩,⟨.bool,2,λ(x:cG)=>x.g8,λ(x:cG) v=>({x with g8:=v}:cG),nn⟩]
 |1=>[⟨(.jo 32 (.st 0)),0,λ(x:bC)=>x.bD,λ(x:bC) v=>({x with bD:=v}:bC),cH⟩]
 |2=>[⟨(.st 1),0,λ(x:jd)=>x.iX,λ(x:jd) v=>({x with iX:=v}:jd),z8⟩]
 |3=>[⟨(.int .i64),0,λ(x:av)=>x.At,λ(x:av) v=>({x with At:=v}:av),E0⟩,⟨(.int .i64),1,λ(x:av)=>x.N,λ(x:av) v=>({x with N:=v}:av),G2⟩]
 |4=>[⟨(.sl (.st 3)),0,λ(x:bh)=>x.qN,λ(x:bh) v=>({x with qN:=v}:bh),wq⟩,⟨(.int .i64),1,λ(x:bh)=>x.Kg,λ(x:bh) v=>({x with Kg:=v}:bh),xb⟩]
 |5=>[⟨(.int .u32),0,λ(x:aT)=>x.Up,λ(x:aT) v=>({x with Up:=v}:aT),Aa⟩,⟨(.int .i64),1,λ(x:aT)=>x.ur,λ(x:aT) v=>({x with ur:=v}:aT),wk⟩,⟨(.st 4),2,λ(x:aT)=>x.E,λ(x:aT) v=>({x with E:=v}:aT),Bs⟩,⟨(.jo 8 (.int .u32)),4,λ(x:aT)=>x.ou,λ(x:aT) v=>({x with ou:=v}:aT),wm⟩]
 |6=>[⟨(.st 2),0,λ(x:ay)=>x.bN,λ(x:ay) v=>({x with bN:=v}:ay),yA⟩,⟨(.jo 32 (.st 5)),96,λ(x:ay)=>x.fL,λ(x:ay) v=>({x with fL:=v}:ay),uJ⟩]
 |7=>[⟨(.int .u8),0,λ(x:dR)=>x.uL,λ(x:dR) v=>({x with uL:=v}:dR),Eo⟩,⟨(.int .u8),1,λ(x:dR)=>x.nc,λ(x:dR) v=>({x with nc:=v}:dR),En⟩,⟨(.int .u8),2,λ(x:dR)=>x.gp,λ(x:dR) v=>({x with gp:=v}:dR),Ac⟩]
 |8=>[⟨(.int .u32),0,λ(x:jh)=>x.root,λ(x:jh) v=>({x with root:=v}:jh),Cp⟩,⟨(.st 7),1,λ(x:jh)=>x.own,λ(x:jh) v=>({x with own:=v}:jh),Em⟩]
 |9=>[⟨(.jo 32 (.st 8)),0,λ(x:cB)=>x.bD,λ(x:cB) v=>({x with bD:=v}:cB),Bv⟩]
 |10=>[⟨(.int .u32),0,λ(x:bp)=>x.Region,λ(x:bp) v=>({x with Region:=v}:bp),wj⟩,⟨(.int .u8),1,λ(x:bp)=>x.By,λ(x:bp) v=>({x with By:=v}:bp),Br⟩,⟨(.int .u8),2,λ(x:bp)=>x.To,λ(x:bp) v=>({x with To:=v}:bp),Bq⟩,⟨.bool,3,λ(x:bp)=>x.jH,λ(x:bp) v=>({x with jH:=v}:bp),uI⟩,⟨(.int .u32),4,λ(x:bp)=>x.rq,λ(x:bp) v=>({x with rq:=v}:bp),o4⟩]
 |11=>[⟨(.st 1),0,λ(x:aS)=>x.bN,λ(x:aS) v=>({x with bN:=v}:aS),dB⟩,⟨(.jo 16 (.st 10)),96,λ(x:aS)=>x.bD,λ(x:aS) v=>({x with bD:=v}:aS),om⟩]
 |12=>[⟨(.st 6),0,λ(x:bK)=>x.T,λ(x:bK) v=>({x with T:=v}:bK),Ev⟩,⟨(.st 9),480,λ(x:bK)=>x.O,λ(x:bK) v=>({x with O:=v}:bK),Ew⟩,⟨(.st 11),608,λ(x:bK)=>x.K,λ(x:bK) v=>({x with K:=v}:bK),Ey⟩]
 |13=>[⟨(.int .u8),0,λ(x:aQ)=>x.Ez,λ(x:aQ) v=>({x with Ez:=v}:aQ),w9⟩,⟨(.int .u64),1,λ(x:aQ)=>x.EW,λ(x:aQ) v=>({x with EW:=v}:aQ),w8⟩,⟨(.int .u32),2,λ(x:aQ)=>x.Region,λ(x:aQ) v=>({x with Region:=v}:aQ),uK⟩,⟨.bool,3,λ(x:aQ)=>x.we,λ(x:aQ) v=>({x with we:=v}:aQ),wo⟩]
 |14=>[⟨(.jo 4 (.st 13)),0,λ(x:bM)=>x.ring,λ(x:bM) v=>({x with ring:=v}:bM),Cs⟩,⟨(.int .i64),16,λ(x:bM)=>x.uh,λ(x:bM) v=>({x with uh:=v}:bM),BD⟩,⟨(.int .i64),17,λ(x:bM)=>x.n,λ(x:bM) v=>({x with n:=v}:bM),G3⟩,⟨.bool,18,λ(x:bM)=>x.closed,λ(x:bM) v=>({x with closed:=v}:bM),Ae⟩]
 |15=>[⟨(.st 12),0,λ(x:ak)=>x.dg,λ(x:ak) v=>({x with dg:=v}:ak),Ad⟩,⟨(.jo 8 (.st 14)),784,λ(x:ak)=>x.iD,λ(x:ak) v=>({x with iD:=v}:ak),w6⟩,⟨(.jo 8 .bool),936,λ(x:ak)=>x.lI,λ(x:ak) v=>({x with lI:=v}:ak),w7⟩,⟨(.jo 8 .bool),944,λ(x:ak)=>x.E6,λ(x:ak) v=>({x with E6:=v}:ak),yC⟩]
 |16=>[⟨(.int .u8),0,λ(x:bP)=>x.Q8,λ(x:bP) v=>({x with Q8:=v}:bP),Cr⟩,⟨(.int .i64),1,λ(x:bP)=>x.n,λ(x:bP) v=>({x with n:=v}:bP),E3⟩,⟨(.jo 8 (.int .u8)),2,λ(x:bP)=>x.B5,λ(x:bP) v=>({x with B5:=v}:bP),BB⟩]
 |17=>[⟨(.jo 32 (.st 16)),0,λ(x:aq)=>x.bD,λ(x:aq) v=>({x with bD:=v}:aq),yD⟩]
 |18=>[⟨(.sl (.st 3)),0,λ(x:bO)=>x.l,λ(x:bO) v=>({x with l:=v}:bO),EZ⟩]
 |19=>[⟨(.int .i64),0,λ(x:ah)=>x.E,λ(x:ah) v=>({x with E:=v}:ah),BA⟩,⟨(.int .u64),1,λ(x:ah)=>x.V,λ(x:ah) v=>({x with V:=v}:ah),Bz⟩,⟨(.int .u32),2,λ(x:ah)=>x.W,λ(x:ah) v=>({x with W:=v}:ah),Bx⟩]
 |20=>[⟨(.int .u8),0,λ(x:ai)=>x.Do,λ(x:ai) v=>({x with Do:=v}:ai),Cq⟩,⟨(.int .u32),1,λ(x:ai)=>x.R,λ(x:ai) v=>({x with R:=v}:ai),Es⟩,⟨(.int .u32),2,λ(x:ai)=>x.S,λ(x:ai) v=>({x with S:=v}:ai),Er⟩,⟨(.int .u32),3,λ(x:ai)=>x.A,λ(x:ai) v=>({x with A:=v}:ai),Eu⟩,⟨(.int .u32),4,λ(x:ai)=>x.B,λ(x:ai) v=>({x with B:=v}:ai),Et⟩,⟨(.int .u64),5,λ(x:ai)=>x.V,λ(x:ai) v=>({x with V:=v}:ai),Ep⟩]
 |21=>[⟨(.int .i64),0,λ(x:au)=>x.n,λ(x:au) v=>({x with n:=v}:au),E2⟩,⟨(.st 18),1,λ(x:au)=>x.pe,λ(x:au) v=>({x with pe:=v}:au),Bt⟩,⟨(.jo 64 (.jo 32 (.int .u8))),2,λ(x:au)=>x.bytes,λ(x:au) v=>({x with bytes:=v}:au),Ab⟩]
 |22=>[⟨(.sl (.int .u64)),0,λ(x:gJ)=>x.L,λ(x:gJ) v=>({x with L:=v}:gJ),E1⟩,⟨(.int .i64),1,λ(x:gJ)=>x.yG,λ(x:gJ) v=>({x with yG:=v}:gJ),yB⟩]
 |23=>[⟨(.int .i64),0,λ(x:aN)=>x.nc,λ(x:aN) v=>({x with nc:=v}:aN),BE⟩,⟨(.st 20),1,λ(x:aN)=>x.C,λ(x:aN) v=>({x with C:=v}:aN),E4⟩,⟨.bool,7,λ(x:aN)=>x.Checked,λ(x:aN) v=>({x with Checked:=v}:aN),xg⟩,⟨(.sl (.int .u32)),8,λ(x:aN)=>x.iv,λ(x:aN) v=>({x with iv:=v}:aN),xd⟩,⟨(.st 3),9,λ(x:aN)=>x.Iu,λ(x:aN) v=>({x with Iu:=v}:aN),Cu⟩,⟨(.int .i64),11,λ(x:aN)=>x.pF,λ(x:aN) v=>({x with pF:=v}:aN),xe⟩]
 |_ =>[]
def teT:Ir TE:=(.dw 98 (.st [(0,none)] 1) (.dw 59 (.jo 32 58 12 384) (.dw 28 (.int .i64) (.dw 20 .one (.dw 4 .bool (.dw 3 (.int .i64) (.dw 1 .one .dk .dk) .dk) (.dw 9 .one (.dw 5 (.int .u8) .dk .dk) .dk)) (.dw 24 (.int .u32) (.dw 23 .ptr (.dw 22 (.int .u64) .dk .dk) .dk) (.dw 27 (.st [(0,none),(1,none)] 2) (.dw 25 (.int .u32) .dk .dk) .dk))) (.dw 50 (.st [(0,some 96)] 96) (.dw 45 (.sl 25 1 4) (.dw 42 .one (.dw 36 (.sl 22 1 8) .dk .dk) .dk) (.dw 48 (.jo 32 47 3 96) (.dw 47 (.st [(0,none),(1,none),(2,none)] 3) .dk .dk) .dk)) (.dw 55 (.st [(0,none),(1,none)] 2) (.dw 53 (.sl 131 2 16) (.dw 52 (.st [(0,some 96)] 96) .dk .dk) .dk) (.dw 58 (.st [(0,none),(1,none),(2,some 2),(4,some 8)] 12) (.dw 56 (.jo 8 25 1 8) .dk .dk) .dk)))) (.dw 80 (.st [(0,some 16),(16,none),(17,none),(18,none)] 19) (.dw 70 (.st [(0,none),(1,none),(2,none),(3,none),(4,none)] 5) (.dw 65 (.st [(0,none),(1,some 3)] 4) (.dw 63 (.st [(0,none),(1,none),(2,none)] 3) (.dw 61 (.st [(0,some 96),(96,some 384)] 480) .dk .dk) .dk) (.dw 68 (.st [(0,some 128)] 128) (.dw 66 (.jo 32 65 4 128) .dk .dk) .dk)) (.dw 75 (.st [(0,some 480),(480,some 128),(608,some 176)] 784) (.dw 73 (.st [(0,some 96),(96,some 80)] 176) (.dw 71 (.jo 16 70 5 80) .dk .dk) .dk) (.dw 78 (.jo 4 77 4 16) (.dw 77 (.st [(0,none),(1,none),(2,none),(3,none)] 4) .dk .dk) .dk))) (.dw 88 (.st [(0,none),(1,none),(2,some 8)] 10) (.dw 84 (.st [(0,some 784),(784,some 152),(936,some 8),(944,some 8)] 952) (.dw 82 (.jo 8 4 1 8) (.dw 81 (.jo 8 80 19 152) .dk .dk) .dk) (.dw 86 (.jo 8 5 1 8) (.dw 85 .ptr .dk .dk) .dk)) (.dw 92 (.sl 3 1 8) (.dw 91 (.st [(0,some 320)] 320) (.dw 89 (.jo 32 88 10 320) .dk .dk) .dk) (.dw 96 .one (.dw 94 (.st [(0,some 952),(952,none),(953,some 320),(1273,none)] 1274) .dk .dk) .dk))))) (.dw 198 .ptr (.dw 131 (.st [(0,none),(1,none)] 2) (.dw 121 (.st [(0,none),(1,none)] 2) (.dw 107 (.st [(0,none),(1,none),(2,none),(3,none),(4,none),(5,none)] 6) (.dw 104 (.st [(0,none),(1,none),(2,none)] 3) (.dw 101 .one .dk .dk) .dk) (.dw 117 .ptr (.dw 112 .one .dk .dk) .dk)) (.dw 126 (.st [(0,none),(1,some 1),(2,some 2048)] 2050) (.dw 124 (.jo 64 123 32 2048) (.dw 123 (.jo 32 5 1 32) .dk .dk) .dk) (.dw 128 .one (.dw 127 .one .dk .dk) .dk))) (.dw 166 .ptr (.dw 150 (.st [(0,none),(1,some 6),(7,none),(8,none),(9,some 2),(11,none)] 12) (.dw 139 (.sl 42 1 8) (.dw 136 (.st [(0,none),(1,none)] 2) .dk .dk) .dk) (.dw 161 .one (.dw 160 .one .dk .dk) .dk)) (.dw 173 .ptr (.dw 169 (.jo 5 101 1 5) (.dw 168 (.st [(0,none),(1,some 12),(13,some 3),(16,none)] 17) .dk .dk) .dk) (.dw 191 .one (.dw 176 .one .dk .dk) .dk)))) (.dw 232 (.sl 53 1 24) (.dw 214 .one (.dw 209 .ptr (.dw 207 .one (.dw 200 (.st [(0,some 952),(952,none),(953,some 6),(959,some 2),(961,none),(962,none),(963,none)] 964) .dk .dk) .dk) (.dw 213 .ptr (.dw 211 (.sl 5 1 1) .dk .dk) .dk)) (.dw 221 .one (.dw 219 .one (.dw 216 .one .dk .dk) .dk) (.dw 224 .one (.dw 223 .one .dk .dk) .dk))) (.dw 318 .ptr (.dw 293 .one (.dw 288 (.sl 77 4 24) (.dw 267 .one .dk .dk) .dk) (.dw 315 .one (.dw 295 .one .dk .dk) .dk)) (.dw 334 .one (.dw 333 .one (.dw 325 .one .dk .dk) .dk) (.dw 339 .one (.dw 338 .ptr .dk .dk) .dk))))))
def tt:TT Tryz.prog sg:=⟨fds,teT,by kernel_rfl⟩
theorem zt3(J:World->Prop)(ρ:aX):∃u:Value,bJ Tryz.prog 3=some u.cells.toList/\rv (G:=sg) J ρ (.int .i64 0) u:=⟨.int .i64 0,by kernel_rfl,rfl⟩
theorem zt4(J:World->Prop)(ρ:aX):∃u:Value,bJ Tryz.prog 4=some u.cells.toList/\rv (G:=sg) J ρ (.bool false) u:=⟨.bool false,by kernel_rfl,rfl⟩
theorem zt5(J:World->Prop)(ρ:aX):∃u:Value,bJ Tryz.prog 5=some u.cells.toList/\rv (G:=sg) J ρ (.int .u8 0) u:=⟨.int .u8 0,by kernel_rfl,rfl⟩
theorem acS(J:World->Prop)(ρ:aX):∃u:Value,bJ Tryz.prog 22=some u.cells.toList/\rv (G:=sg) J ρ (.int .u64 0) u:=⟨.int .u64 0,by kernel_rfl,rfl⟩
theorem acR(J:World->Prop)(ρ:aX):∃u:Value,bJ Tryz.prog 25=some u.cells.toList/\rv (G:=sg) J ρ (.int .u32 0) u:=⟨.int .u32 0,by kernel_rfl,rfl⟩
theorem acQ(J:World->Prop)(ρ:aX):∃u:Value,bJ Tryz.prog 27=some u.cells.toList/\rv (G:=sg) J ρ (.st (.part 1 .qI (.part 1 (.int .u32 0) .nil))) u:=⟨.agg ((([.pointer none]:List Value)++(([.int .u32 0]:List Value)++([]:List Value)))).toArray,by kernel_rfl,⟨_,rfl,⟨[.pointer none],_, .pointer none,rfl,by kernel_rfl,rfl,rfl,⟨[.int .u32 0],_, .int .u32 0,rfl,by kernel_rfl,rfl,rfl,rfl⟩⟩,kH (by kernel_rfl)⟩⟩
theorem acP(J:World->Prop)(ρ:aX):∃u:Value,bJ Tryz.prog 28=some u.cells.toList/\rv (G:=sg) J ρ (.int .i64 0) u:=⟨.int .i64 0,by kernel_rfl,rfl⟩
theorem acO(J:World->Prop)(ρ:aX):∃u:Value,bJ Tryz.prog 42=some u.cells.toList/\rv (G:=sg) J ρ .jX u:=⟨.nilFunc,by kernel_rfl,rfl⟩
theorem acN(J:World->Prop)(ρ:aX):∃u:Value,bJ Tryz.prog 47=some u.cells.toList/\rv (G:=sg) J ρ (.dat (.st 0) kr) u:=⟨.agg (pO).toArray,by kernel_rfl,_,rfl,uR,λ_ =>⟨_,rfl⟩,nofun⟩
theorem acM(J:World->Prop)(ρ:aX):∃u:Value,bJ Tryz.prog 50=some u.cells.toList/\rv (G:=sg) J ρ (.dat (.st 1) fj) u:=⟨.agg (lT).toArray,by kernel_rfl,_,rfl,pL,λ_ =>⟨_,rfl⟩,nofun⟩
theorem acL(J:World->Prop)(ρ:aX):∃u:Value,bJ Tryz.prog 53=some u.cells.toList/\rv (G:=sg) J ρ .iC u:=⟨.slice none 0 0,by kernel_rfl,rfl⟩
theorem acK(J:World->Prop)(ρ:aX):∃u:Value,bJ Tryz.prog 55=some u.cells.toList/\rv (G:=sg) J ρ (.dat (.st 4) cI) u:=⟨.agg (fk).toArray,by kernel_rfl,_,rfl,jx,λ_ =>⟨_,rfl⟩,nofun⟩
theorem acJ(J:World->Prop)(ρ:aX):∃u:Value,bJ Tryz.prog 58=some u.cells.toList/\rv (G:=sg) J ρ (.dat (.st 5) gO) u:=⟨.agg (ow).toArray,by kernel_rfl,_,rfl,tH,λ_ =>⟨_,rfl⟩,nofun⟩
theorem acI(J:World->Prop)(ρ:aX):∃u:Value,bJ Tryz.prog 61=some u.cells.toList/\rv (G:=sg) J ρ (.dat (.st 6) eB) u:=⟨.agg (pN).toArray,by kernel_rfl,_,rfl,uP,λ_ =>⟨_,rfl⟩,nofun⟩
theorem acH(J:World->Prop)(ρ:aX):∃u:Value,bJ Tryz.prog 63=some u.cells.toList/\rv (G:=sg) J ρ (.dat (.st 7) pH) u:=⟨.agg (xJ).toArray,by kernel_rfl,_,rfl,CM,λ_ =>⟨_,rfl⟩,nofun⟩
theorem acG(J:World->Prop)(ρ:aX):∃u:Value,bJ Tryz.prog 65=some u.cells.toList/\rv (G:=sg) J ρ (.dat (.st 8) qB) u:=⟨.agg (uS).toArray,by kernel_rfl,_,rfl,BF,λ_ =>⟨_,rfl⟩,nofun⟩
theorem acF(J:World->Prop)(ρ:aX):∃u:Value,bJ Tryz.prog 68=some u.cells.toList/\rv (G:=sg) J ρ (.dat (.st 9) nD) u:=⟨.agg (uT).toArray,by kernel_rfl,_,rfl,BG,λ_ =>⟨_,rfl⟩,nofun⟩
theorem acE(J:World->Prop)(ρ:aX):∃u:Value,bJ Tryz.prog 70=some u.cells.toList/\rv (G:=sg) J ρ (.dat (.st 10) fg) u:=⟨.agg (pM).toArray,by kernel_rfl,_,rfl,uO,λ_ =>⟨_,rfl⟩,nofun⟩
theorem acD(J:World->Prop)(ρ:aX):∃u:Value,bJ Tryz.prog 73=some u.cells.toList/\rv (G:=sg) J ρ (.dat (.st 11) cS) u:=⟨.agg (ov).toArray,by kernel_rfl,_,rfl,tG,λ_ =>⟨_,rfl⟩,nofun⟩
theorem acC(J:World->Prop)(ρ:aX):∃u:Value,bJ Tryz.prog 77=some u.cells.toList/\rv (G:=sg) J ρ (.dat (.st 13) fF) u:=⟨.agg (ox).toArray,by kernel_rfl,_,rfl,tJ,λ_ =>⟨_,rfl⟩,nofun⟩
theorem acB(J:World->Prop)(ρ:aX):∃u:Value,bJ Tryz.prog 80=some u.cells.toList/\rv (G:=sg) J ρ (.dat (.st 14) nE) u:=⟨.agg (uU).toArray,by kernel_rfl,_,rfl,BH,λ_ =>⟨_,rfl⟩,nofun⟩
theorem acA(J:World->Prop)(ρ:aX):∃u:Value,bJ Tryz.prog 84=some u.cells.toList/\rv (G:=sg) J ρ (.dat (.st 15) cZ) u:=⟨.agg (eD).toArray,by kernel_rfl,_,rfl,pK,λ_ =>⟨_,rfl⟩,nofun⟩
theorem acz(J:World->Prop)(ρ:aX):∃u:Value,bJ Tryz.prog 88=some u.cells.toList/\rv (G:=sg) J ρ (.dat (.st 16) lG) u:=⟨.agg (sJ).toArray,by kernel_rfl,_,rfl,yJ,λ_ =>⟨_,rfl⟩,nofun⟩
theorem acy(J:World->Prop)(ρ:aX):∃u:Value,bJ Tryz.prog 91=some u.cells.toList/\rv (G:=sg) J ρ (.dat (.st 17) bW) u:=⟨.agg (jU).toArray,by kernel_rfl,_,rfl,xh,λ_ =>⟨_,rfl⟩,nofun⟩
theorem acw(J:World->Prop)(ρ:aX):∃u:Value,bJ Tryz.prog 94=some u.cells.toList/\rv (G:=sg) J ρ (.st (.part 952 (.dat (.st 15) cZ) (.part 1 .qI (.part 320 (.dat (.st 17) bW) (.part 1 .iC .nil))))) u:=⟨.agg (((eD:List Value)++(([.pointer none]:List Value)++((jU:List Value)++(([.slice none 0 0]:List Value)++([]:List Value)))))).toArray,by kernel_rfl,⟨_,rfl,⟨eD,_, .agg (eD).toArray,rfl,by kernel_rfl,⟨_,rfl,pK,λ_ =>⟨_,rfl⟩,nofun⟩,rfl,⟨[.pointer none],_, .pointer none,rfl,by kernel_rfl,rfl,rfl,⟨jU,_, .agg (jU).toArray,rfl,by kernel_rfl,⟨_,rfl,xh,λ_ =>⟨_,rfl⟩,nofun⟩,rfl,⟨[.slice none 0 0],_, .slice none 0 0,rfl,by kernel_rfl,rfl,rfl,rfl⟩⟩⟩⟩,kH (by kernel_rfl)⟩⟩
theorem acv(J:World->Prop)(ρ:aX):∃u:Value,bJ Tryz.prog 96=some u.cells.toList/\rv (G:=sg) J ρ .jX u:=⟨.nilFunc,by kernel_rfl,rfl⟩
theorem acu(J:World->Prop)(ρ:aX):∃u:Value,bJ Tryz.prog 98=some u.cells.toList/\rv (G:=sg) J ρ (.dat (.st 18) jq) u:=⟨.agg (sI).toArray,by kernel_rfl,_,rfl,yI,λ_ =>⟨_,rfl⟩,nofun⟩
theorem YN(J:World->Prop)(ρ:aX):∃u:Value,bJ Tryz.prog 104=some u.cells.toList/\rv (G:=sg) J ρ (.dat (.st 19) aU) u:=⟨.agg (fS).toArray,by kernel_rfl,_,rfl,tI,λ_ =>⟨_,rfl⟩,nofun⟩
theorem YM(J:World->Prop)(ρ:aX):∃u:Value,bJ Tryz.prog 107=some u.cells.toList/\rv (G:=sg) J ρ (.dat (.st 20) ax) u:=⟨.agg (iE).toArray,by kernel_rfl,_,rfl,ru,λ_ =>⟨_,rfl⟩,nofun⟩
theorem YL(J:World->Prop)(ρ:aX):∃u:Value,bJ Tryz.prog 121=some u.cells.toList/\rv (G:=sg) J ρ (.st (.part 1 .qI (.part 1 (.int .i64 0) .nil))) u:=⟨.agg ((([.pointer none]:List Value)++(([.int .i64 0]:List Value)++([]:List Value)))).toArray,by kernel_rfl,⟨_,rfl,⟨[.pointer none],_, .pointer none,rfl,by kernel_rfl,rfl,rfl,⟨[.int .i64 0],_, .int .i64 0,rfl,by kernel_rfl,rfl,rfl,rfl⟩⟩,kH (by kernel_rfl)⟩⟩
theorem YK(J:World->Prop)(ρ:aX):∃u:Value,bJ Tryz.prog 126=some u.cells.toList/\rv (G:=sg) J ρ (.dat (.st 21) dF) u:=⟨.agg (yM).toArray,by kernel_rfl,_,rfl,FT,λ_ =>⟨_,rfl⟩,nofun⟩
theorem YJ(J:World->Prop)(ρ:aX):∃u:Value,bJ Tryz.prog 131=some u.cells.toList/\rv (G:=sg) J ρ (.dat (.st 3) cy) u:=⟨.agg (lq).toArray,by kernel_rfl,_,rfl,uQ,λ_ =>⟨_,rfl⟩,nofun⟩
theorem YI(J:World->Prop)(ρ:aX):∃u:Value,bJ Tryz.prog 136=some u.cells.toList/\rv (G:=sg) J ρ (.dat (.st 22) rj) u:=⟨.agg (yL).toArray,by kernel_rfl,_,rfl,FR,λ_ =>⟨_,rfl⟩,nofun⟩
theorem YH(J:World->Prop)(ρ:aX):∃u:Value,bJ Tryz.prog 150=some u.cells.toList/\rv (G:=sg) J ρ (.dat (.st 23) gW) u:=⟨.agg (lU).toArray,by kernel_rfl,_,rfl,yK,λ_ =>⟨_,rfl⟩,nofun⟩
theorem YG(J:World->Prop)(ρ:aX):∃u:Value,bJ Tryz.prog 161=some u.cells.toList/\rv (G:=sg) J ρ .jX u:=⟨.nilFunc,by kernel_rfl,rfl⟩
theorem YF(J:World->Prop)(ρ:aX):∃u:Value,bJ Tryz.prog 168=some u.cells.toList/\rv (G:=sg) J ρ (.st (.part 1 .qI (.part 12 (.dat (.st 23) gW) (.part 3 (.dat (.st 19) aU) (.part 1 (.bool false) .nil))))) u:=⟨.agg ((([.pointer none]:List Value)++((lU:List Value)++((fS:List Value)++(([.bool false]:List Value)++([]:List Value)))))).toArray,by kernel_rfl,⟨_,rfl,⟨[.pointer none],_, .pointer none,rfl,by kernel_rfl,rfl,rfl,⟨lU,_, .agg (lU).toArray,rfl,by kernel_rfl,⟨_,rfl,yK,λ_ =>⟨_,rfl⟩,nofun⟩,rfl,⟨fS,_, .agg (fS).toArray,rfl,by kernel_rfl,⟨_,rfl,tI,λ_ =>⟨_,rfl⟩,nofun⟩,rfl,⟨[.bool false],_, .bool false,rfl,by kernel_rfl,rfl,rfl,rfl⟩⟩⟩⟩,kH (by kernel_rfl)⟩⟩
theorem YE(J:World->Prop)(ρ:aX):∃u:Value,bJ Tryz.prog 169=some u.cells.toList/\rv (G:=sg) J ρ (.st (.part 1 .jX (.part 1 .jX (.part 1 .jX (.part 1 .jX (.part 1 .jX .nil)))))) u:=⟨.agg ((([.nilFunc]:List Value)++(([.nilFunc]:List Value)++(([.nilFunc]:List Value)++(([.nilFunc]:List Value)++(([.nilFunc]:List Value)++([]:List Value))))))).toArray,by kernel_rfl,⟨_,rfl,⟨[.nilFunc],_, .nilFunc,rfl,by kernel_rfl,rfl,rfl,⟨[.nilFunc],_, .nilFunc,rfl,by kernel_rfl,rfl,rfl,⟨[.nilFunc],_, .nilFunc,rfl,by kernel_rfl,rfl,rfl,⟨[.nilFunc],_, .nilFunc,rfl,by kernel_rfl,rfl,rfl,⟨[.nilFunc],_, .nilFunc,rfl,by kernel_rfl,rfl,rfl,rfl⟩⟩⟩⟩⟩,kH (by kernel_rfl)⟩⟩
theorem YD(J:World->Prop)(ρ:aX):∃u:Value,bJ Tryz.prog 200=some u.cells.toList/\rv (G:=sg) J ρ (.st (.part 952 (.dat (.st 15) cZ) (.part 1 (.int .i64 0) (.part 6 (.dat (.st 20) ax) (.part 2 (.dat (.st 3) cy) (.part 1 (.int .i64 0) (.part 1 (.bool false) (.part 1 .iC .nil)))))))) u:=⟨.agg (((eD:List Value)++(([.int .i64 0]:List Value)++((iE:List Value)++((lq:List Value)++(([.int .i64 0]:List Value)++(([.bool false]:List Value)++(([.slice none 0 0]:List Value)++([]:List Value))))))))).toArray,by kernel_rfl,⟨_,rfl,⟨eD,_, .agg (eD).toArray,rfl,by kernel_rfl,⟨_,rfl,pK,λ_ =>⟨_,rfl⟩,nofun⟩,rfl,⟨[.int .i64 0],_, .int .i64 0,rfl,by kernel_rfl,rfl,rfl,⟨iE,_, .agg (iE).toArray,rfl,by kernel_rfl,⟨_,rfl,ru,λ_ =>⟨_,rfl⟩,nofun⟩,rfl,⟨lq,_, .agg (lq).toArray,rfl,by kernel_rfl,⟨_,rfl,uQ,λ_ =>⟨_,rfl⟩,nofun⟩,rfl,⟨[.int .i64 0],_, .int .i64 0,rfl,by kernel_rfl,rfl,rfl,⟨[.bool false],_, .bool false,rfl,by kernel_rfl,rfl,rfl,⟨[.slice none 0 0],_, .slice none 0 0,rfl,by kernel_rfl,rfl,rfl,rfl⟩⟩⟩⟩⟩⟩⟩,kH (by kernel_rfl)⟩⟩
theorem YB(J:World->Prop)(ρ:aX):∃u:Value,bJ Tryz.prog 267=some u.cells.toList/\rv (G:=sg) J ρ .jX u:=⟨.nilFunc,by kernel_rfl,rfl⟩
theorem YA(J:World->Prop)(ρ:aX):∃u:Value,bJ Tryz.prog 288=some u.cells.toList/\rv (G:=sg) J ρ .iC u:=⟨.slice none 0 0,by kernel_rfl,rfl⟩
theorem Yz(J:World->Prop)(ρ:aX):∃u:Value,bJ Tryz.prog 315=some u.cells.toList/\rv (G:=sg) J ρ .zC u:=⟨.map none,by kernel_rfl,rfl⟩
def ztT:Ir (AV sg):=(.dw 80 (.dat (.st 14) nE) (.dw 53 .iC (.dw 27 (.st (.part 1 .qI (.part 1 (.int .u32 0) .nil))) (.dw 5 (.int .u8 0) (.dw 4 (.bool false) (.dw 3 (.int .i64 0) .dk .dk) .dk) (.dw 25 (.int .u32 0) (.dw 22 (.int .u64 0) .dk .dk) .dk)) (.dw 47 (.dat (.st 0) kr) (.dw 42 .jX (.dw 28 (.int .i64 0) .dk .dk) .dk) (.dw 50 (.dat (.st 1) fj) .dk .dk))) (.dw 65 (.dat (.st 8) qB) (.dw 61 (.dat (.st 6) eB) (.dw 58 (.dat (.st 5) gO) (.dw 55 (.dat (.st 4) cI) .dk .dk) .dk) (.dw 63 (.dat (.st 7) pH) .dk .dk)) (.dw 73 (.dat (.st 11) cS) (.dw 70 (.dat (.st 10) fg) (.dw 68 (.dat (.st 9) nD) .dk .dk) .dk) (.dw 77 (.dat (.st 13) fF) .dk .dk)))) (.dw 131 (.dat (.st 3) cy) (.dw 98 (.dat (.st 18) jq) (.dw 91 (.dat (.st 17) bW) (.dw 88 (.dat (.st 16) lG) (.dw 84 (.dat (.st 15) cZ) .dk .dk) .dk) (.dw 96 .jX (.dw 94 (.st (.part 952 (.dat (.st 15) cZ) (.part 1 .qI (.part 320 (.dat (.st 17) bW) (.part 1 .iC .nil))))) .dk .dk) .dk)) (.dw 121 (.st (.part 1 .qI (.part 1 (.int .i64 0) .nil))) (.dw 107 (.dat (.st 20) ax) (.dw 104 (.dat (.st 19) aU) .dk .dk) .dk) (.dw 126 (.dat (.st 21) dF) .dk .dk))) (.dw 169 (.st (.part 1 .jX (.part 1 .jX (.part 1 .jX (.part 1 .jX (.part 1 .jX .nil)))))) (.dw 161 .jX (.dw 150 (.dat (.st 23) gW) (.dw 136 (.dat (.st 22) rj) .dk .dk) .dk) (.dw 168 (.st (.part 1 .qI (.part 12 (.dat (.st 23) gW) (.part 3 (.dat (.st 19) aU) (.part 1 (.bool false) .nil))))) .dk .dk)) (.dw 288 .iC (.dw 267 .jX (.dw 200 (.st (.part 952 (.dat (.st 15) cZ) (.part 1 (.int .i64 0) (.part 6 (.dat (.st 20) ax) (.part 2 (.dat (.st 3) cy) (.part 1 (.int .i64 0) (.part 1 (.bool false) (.part 1 .iC .nil)))))))) .dk .dk) .dk) (.dw 315 .zC .dk .dk)))))
def zt:ZT Tryz.prog sg:=⟨ztT,Xb ⟨acB,⟨acL,⟨acQ,⟨zt5,⟨zt4,⟨zt3,trivial,trivial⟩,trivial⟩,⟨acR,⟨acS,trivial,trivial⟩,trivial⟩⟩,⟨acN,⟨acO,⟨acP,trivial,trivial⟩,trivial⟩,⟨acM,trivial,trivial⟩⟩⟩,⟨acG,⟨acI,⟨acJ,⟨acK,trivial,trivial⟩,trivial⟩,⟨acH,trivial,trivial⟩⟩,⟨acD,⟨acE,⟨acF,trivial,trivial⟩,trivial⟩,⟨acC,trivial,trivial⟩⟩⟩⟩,⟨YJ,⟨acu,⟨acy,⟨acz,⟨acA,trivial,trivial⟩,trivial⟩,⟨acv,⟨acw,trivial,trivial⟩,trivial⟩⟩,⟨YL,⟨YM,⟨YN,trivial,trivial⟩,trivial⟩,⟨YK,trivial,trivial⟩⟩⟩,⟨YE,⟨YG,⟨YH,⟨YI,trivial,trivial⟩,trivial⟩,⟨YF,trivial,trivial⟩⟩,⟨YA,⟨YB,⟨YD,trivial,trivial⟩,trivial⟩,⟨Yz,trivial,trivial⟩⟩⟩⟩⟩⟩
end Go.Proofs.Z
namespace Go.Rw
open Go Go.Bw Go.RowKit
variable {G:Sg} {P:Program} {Z:Type}
def L9:AV G->List Nat->Option (AV G)
 |v,[]=>some v
 | .fn _ _ c,i::r=>match Mj c i with
  |some x=>L9 x r
  |none=>none
 |_,_ =>none
theorem RH{J:World->Prop}{ρ:aX}:∀{p:List Nat} {v x:AV G} {u:Value},L9 v p=some x->rv J ρ v u->∃u',rv J ρ x u':=by
 intro p
 induction p with
 |nil=>intro v x u h hv;unfold L9 at h;obtain rfl:=Option.some.inj h;exact⟨u,hv⟩
 |cons i r ih=>
  intro v x u h hv;cases v<;>(try (simp[L9]at h;done))
  case fn f a c=>
   simp only[L9]at h;split at h
   ·rename_i y hy
    obtain⟨fs,cs,_,_,h2⟩:=hv;obtain⟨u',_,k2⟩:=Gg hy h2;exact ih h k2
   ·cases h
def RJ(aiy:AV G):List (List Nat)->Option (AV G)
 |[]=>some .nil
 |(i::p)::r=>match Mj aiy i,RJ aiy r with
  |some v,some l=>match L9 v p with
   |some x=>some (.cons x l)
   |none=>none
  |_,_ =>none
 |_ =>none
theorem RI{J:World->Prop}{ρ:aX}{aiy:AV G}{vs:List Value}(h:rl J ρ aiy vs):∀{bi:List (List Nat)} {bk:AV G},RJ aiy bi=some bk->∃us,rl J ρ bk us:=by
 intro bi
 induction bi with
 |nil=>intro bk e;cases e;exact⟨[],rfl⟩
 |cons q r ih=>
  intro bk e;cases q with
  |nil=>cases e
  |cons i p=>
   simp only[RJ]at e;split at e
   ·rename_i v l h1 h2
    split at e
    ·rename_i x hx
     cases e;obtain⟨u,_,k2⟩:=Gg h1 h;obtain⟨u',k4⟩:=RH hx k2;obtain⟨us,k3⟩:=ih h2;exact⟨u'::us,u',us,rfl,k4,k3⟩
    ·cases e
   ·cases e
def GD(bV:Sh)(nm:List (Option Nat))(base:Nat)(bk v:AV G)(S1:AS G)(k:HL G (aK bV)->Option Z):Option Z:=
 match vK (tn S1.O bV (.cons v bk)) ⟨[(0,v)],S1.O,S1.nx,[]⟩with
 |S3=>match bY S3.F 0 with
  |some v'=>match j0 bV (.cons v' bk) ⟨[],S3.O,S3.nx⟩with
   |some (x,g')=>bif so v'&&(s0 nm g'.th&&s5 base nm)then k x else none
   |none=>none
  |none=>none
theorem PX{bV:Sh}{nm:List (Option Nat)}{bk v:AV G}{S1:AS G}{k:HL G (aK bV)->Option Z}{z:Z}{base:Nat}(h:GD bV nm base bk v S1 k=some z):∃y,GD bV nm base bk v S1 some=some y/\k y=some z:=by
 unfold GD at h ⊢;dsimp only at h ⊢;split at h
 ·rename_i v' HQ
  split at h
  ·rename_i x g' hg
   cases hc:(so v'&&(s0 nm g'.th&&s5 base nm))with
   |false=>rw[hc]at h;cases h
   |true=>rw[hc]at h;exact⟨x,rfl,h⟩
  ·cases h
 ·cases h
theorem KZ{bV:Sh}{nm:List (Option Nat)}{bk v:AV G}{S1:AS G}{y:HL G (aK bV)}{ρ ρ':aX}{J J':World->Prop}{HK X Y H:List aF}{w w':World}{a:Act}{u:Value}{us:List Value}{base:Nat}
  (h:GD bV nm base bk v S1 some=some y)(hb:rl J ρ bk us)(hto:ρ.to ρ' base)(hf:ρ.fr base)(hn:base<=S1.nx)(hJ:∀w,J' w->J w)(hv:rv J' ρ' v u)(hr:Rl ⟨none,w,bn H⟩ 0 ρ' J' HK (Y++X) [] ⟨[],S1.O,S1.nx,[]⟩ a w'):
  yF bV nm y ρ J H HK X w u w':=by
 unfold GD at h;have h2:Rl ⟨none,w,bn H⟩ 1 ρ' J' HK (Y++X) [] ⟨[(0,v)],S1.O,S1.nx,[]⟩ {a with tmps:= #[u]} w':=by
  refine⟨rfl,hr.df,hr.si,λd x e=>?_,λy hy=>(by cases hy),hr.kc,hr.hp,hr.kn,hr.fr⟩;simp only[bY]at e;cases hd:Nat.beq 0 d with
  |true=>rw[hd]at e;cases e;obtain rfl:=aiB hd;exact⟨u,rfl,Hj hv _⟩
  |false=>rw[hd]at e;cases e
 obtain⟨J3,Y3,mJ,h3⟩:=h2.vK (tn S1.O bV (.cons v bk));have HR:(vK (tn S1.O bV (.cons v bk)) (⟨[(0,v)],S1.O,S1.nx,[]⟩:AS G)).nx=S1.nx:=s9 _ _;revert h h3 HR;generalize vK (tn S1.O bV (.cons v bk)) (⟨[(0,v)],S1.O,S1.nx,[]⟩:AS G)=S3;intro h h3 HR;dsimp only at h;split at h
 ·rename_i v' HQ
  split at h
  ·rename_i x g' hg
   cases hc:(so v'&&(s0 nm g'.th&&s5 base nm))with
   |false=>rw[hc]at h;cases h
   |true=>
    rw[hc]at h;cases h;simp only[aiC]at hc;obtain⟨hc0,hc⟩:=hc;obtain⟨u0,e0,hrf⟩:=h3.fs 0 _ HQ;have e0:u0=u:=by have:(#[u]:Array Value)[0]? =some u0:=e0;simpa using this.symm
    subst e0;have hv2:rv J3 ρ' v' u0:=by
     cases v' with
     |gd j ww vv=>cases hc0
     |_ =>exact hrf
    have hle:=hto.le hf;have hb':rl J3 ρ' bk us:=(hb.ext hle).mono λw q=>hJ w (mJ w q);obtain⟨HS,q1,q3⟩:=h3.hp;obtain⟨ρ2,HB,H',hG⟩:=DQ (l:=u0::us) (ρ:=ρ') hg ⟨u0,us,rfl,hv2,hb'⟩ q1 h3.fr;obtain⟨n1,n2⟩:=OV hc.1;have n3:=OW hc.2;refine⟨cmp ρ2 g'.th,J3,Y3++Y,HB,us,λw q=>hJ w (mJ w q),hG.val,hG.bT,?_,h3.si.s,?_,λi j e=>?_,λi hi=>?_⟩
    ·have:=hG.hp _ _ _ _ q3
     refine(this.sub (List.Sublist.append_left (List.sublist_append_right H' _) HB)).gK ?_;rw[List.append_assoc]
    ·rw[List.append_assoc];exact h3.kn
    ·have ht:=n2 i j e
     have hj:=n3 i j e;unfold cmp;rw[ht];dsimp only;rw[hG.to j (by show j<S3.nx;omega),hto j hj]
    ·unfold cmp
     rw[List.getElem?_eq_none (by rw[← n1];exact hi)]
  ·cases h
 ·cases h
def bkP:Sh->AV G->AV G
 | .cons _ .nil,_ => .nil
 |_,bk=>bk
theorem W3{J:World->Prop}{ρ:aX}{bk:AV G}{us:List Value}(h:rl J ρ bk us)(s:Sh):∃us,rl J ρ (bkP s bk) us:=by
 unfold bkP;split
 ·exact⟨[],rfl⟩
 ·exact⟨us,h⟩
def abP(ek:Nat->List (Ek P G))(tt:TT P G)(C:CC G)(xw:List ResultVar)(bk:AV G)(base:Nat)(bV:Sh)(nm:List (Option Nat))(fb:Sh)(OP:List (Option Nat))(fo:HL G (aK bV)->Option Z)(fp:HL G (aK fb)->Option Z):Ex G->AS G->Option Z:=λe S=>match kX ek e S.D S.O with
 |some (.sH v,O2)=>GD fb OP base (bkP fb bk) v ⟨S.F,O2,S.nx,[]⟩ fp
 |some (.gq,O2)=>(match AZ tt C ⟨S.F,O2,S.nx,[]⟩ xw with
  |some v=>GD bV nm base bk v ⟨S.F,O2,S.nx,[]⟩ fo
  |none=>none)
 |some (.ret,O2)=>(match AZ tt C ⟨S.F,O2,S.nx,[]⟩ xw with
  |some v=>GD bV nm base bk v ⟨S.F,O2,S.nx,[]⟩ fo
  |none=>none)
 |_ =>none
noncomputable def Wf(tb:uo P G)(n:Nat)(s:Fs)(fo:HL G (aK s.bV)->Option Z)(fp:HL G (aK s.fb)->Option Z)(i:HI G s):Option Z:=match Ch P s.k with
 |some fi=>match s.bl i with
  |(aiy,O,m)=>match RJ aiy s.bi with
   |some bk=>bif lR aiy&&Nat.ble (vH aiy) fi.N then W tb n fi.N [] [⟨[],s.ro i++[],[]⟩] (.code fi.code) ⟨sy 0 aiy,O,m,[]⟩ (abP tb.ek tb.tt [⟨[],s.ro i++[],[]⟩] fi.xw bk m s.bV s.nm s.fb s.OP fo fp)else none
   |none=>none
 |none=>none
theorem Rl.abX{c:Cx}{N:Nat}{ρ:aX}{J:World->Prop}{HK X:List aF}{O:Os G}{S:AS G}{a:Act}{w:World}(h:Rl c N ρ J HK X [⟨[],O,[]⟩] S a w)(hro:c.ro=none):Rl c N ρ J HK X [] S a w:=
 ⟨h.tm,h.df,⟨h.si.s,λ_ =>hro⟩,h.fs,λy hy=>(by cases hy),λr o e=>(by cases e),h.hp,h.kn,h.fr⟩
theorem Qg{tb:uo P G}{n:Nat}{s:Fs}{fo:HL G (aK s.bV)->Option Z}{fp:HL G (aK s.fb)->Option Z}{x:HI G s}{z:Z}(h:Wf tb n s fo fp x=some z)
  {ρ:aX}{J:World->Prop}{HS HK X:List aF}{w:World}{vs:List Value}(hv:rl J ρ (s.bl x).1 vs)(hO:RO J ρ (s.bl x).2.1 HS)(hrd:∀r o,bY (s.ro x) r=some o->∃y∈HK,ro J ρ r o y)
  (hp:bq (bn (HS++(HK++X))) w.heap.size (HS++(HK++X)) w)(hk:M4 G X J)(hf:ρ.fr (s.bl x).2.2):
  (∃y,fo y=some z/\Calls P s.k vs.toArray w λen w'=>∃u,en= .returned u/\yF s.bV s.nm y ρ J (HS++(HK++X)) HK X w u w')\/
  (∃y,fp y=some z/\Calls P s.k vs.toArray w λen w'=>∃u,en= .panicked [{v:=u,recovered:=false}]/\yF s.fb s.OP y ρ J (HS++(HK++X)) HK X w u w'):=by
 unfold Wf at h;split at h
 ·rename_i fi EU
  revert h hv hO hf;generalize s.bl x=b;obtain⟨aiy,O,m⟩:=b;intro hv hO hf h;dsimp only at h hv hO hf;split at h
  ·rename_i bk hbk
   cases hc:(lR aiy&&Nat.ble (vH aiy) fi.N)with
   |false=>rw[hc]at h;cases h
   |true=>
    rw[hc]at h;simp only[aiC]at hc;obtain⟨e1,S1,k1,k2,k3⟩:=ab3 _ _ _ _ _ _ _ _ h;have k2:m<=S1.nx:=k2;obtain⟨us,hus⟩:=RI hv hbk;have hr:Rl ⟨none,w,bn (HS++(HK++X))⟩ 0 ρ J HK X [⟨[],s.ro x,[]⟩] (⟨[],O,m,[]⟩:AS G) ⟨#[],[]⟩ w:=by
     refine⟨rfl, .nil,⟨aO.refl _ _,λ_ =>rfl⟩,λd x e=>(by cases e),λy hy=>?_,λr o e=>hrd r o ?_,⟨HS,hO,hp⟩,hk,hf⟩
     ·simp at hy;subst hy;exactλd v e=>by cases e
     ·have e:bY (s.ro x++[]) r=some o:=e
      rwa[List.append_nil]at e
    have go:=λe2 O2 hX he=>zW (tt:=tb.tt) (ek:=tb.ek) (e2:=e2) (O2:=O2) hr EU hc.1 (Nat.le_of_ble_eq_true hc.2) hv k3 hX rfl he;have ret:∀v e2 O2,kX tb.ek e1 S1.D S1.O=some (e2,O2)->(e2= .gq\/e2= .ret)->AZ tb.tt [⟨[],s.ro x++[],[]⟩] ⟨S1.F,O2,S1.nx,[]⟩ fi.xw=some v->GD s.bV s.nm m bk v ⟨S1.F,O2,S1.nx,[]⟩ fo=some z->(∃y,fo y=some z/\Calls P s.k vs.toArray w λen w'=>∃u,en= .returned u/\yF s.bV s.nm y ρ J (HS++(HK++X)) HK X w u w'):=by
     intro v e2 O2 hX he hres af6;obtain⟨y,y1,y2⟩:=PX af6;refine⟨y,y2,?_⟩;have qo:=go e2 O2 hX (.inr ⟨he,v,hres⟩);intro cs';obtain⟨en,w',fr,⟨ρ',J',Y,j1,j2,j3,j4⟩,rest⟩:=qo cs';refine⟨en,w',fr,?_,rest⟩;rcases j4 with⟨v',u,q1,_⟩|⟨_,v',u,q1,rfl,q3⟩
     ·rcases he with he|he<;>rw[he]at q1<;>cases q1
     ·have q1:AZ tb.tt [⟨[],s.ro x++[],[]⟩] ⟨S1.F,O2,S1.nx,[]⟩ fi.xw=some v':=q1
      rw[hres]at q1;cases q1;exact⟨u,rfl,KZ (S1:=⟨S1.F,O2,S1.nx,[]⟩) y1 hus j1 hf k2 j2 q3 (j3.abX rfl)⟩
    unfold abP at k1;split at k1
    ·rename_i v O2 hX
     obtain⟨y,y1,y2⟩:=PX k1;obtain⟨up,Yd⟩:=W3 hus s.fb;refine .inr ⟨y,y2,?_⟩;have qo:=go _ O2 hX (.inl ⟨v,rfl⟩);intro cs';obtain⟨en,w',fr,⟨ρ',J',Y,j1,j2,j3,j4⟩,rest⟩:=qo cs';refine⟨en,w',fr,?_,rest⟩;rcases j4 with⟨v',u,q1,rfl,q3⟩|⟨q1,_⟩
     ·cases q1
      exact⟨u,rfl,KZ (S1:=⟨S1.F,O2,S1.nx,[]⟩) (us:=up) y1 Yd j1 hf k2 j2 q3 (j3.abX rfl)⟩
     ·rcases q1 with q1|q1<;>cases q1
    ·rename_i O2 hX
     split at k1
     ·rename_i v hres;exact .inl (ret v _ O2 hX (.inl rfl) hres k1)
     ·cases k1
    ·rename_i O2 hX
     split at k1
     ·rename_i v hres;exact .inl (ret v _ O2 hX (.inr rfl) hres k1)
     ·cases k1
    ·cases k1
  ·cases h
 ·cases h
def RV(s:Fs)(f:HI G s->Option Z)(mu:Z->HL G (aK s.bV))(x:HI G s)(y:HL G (aK s.bV)):Prop:=∃z,f x=some z/\mu z=y
theorem Uv{tb:uo P G}{n:Nat}{s:Fs}{f:HI G s->Option Z}{um:HL G (aK s.bV)->Z}{mu:Z->HL G (aK s.bV)}(e1:∀y,mu (um y)=y)(hW:∀x,Wf tb n s (λy=>some (um y)) (λ_ =>none) x=f x):M8 P s (RV s f mu) (λ_ _ =>False):=by
 intro ρ J HS HK X w vs x hv hO hrd hp hk hfr;refine⟨λy h=>?_,λy h=>h.elim⟩;obtain⟨z,h,hz⟩:=h;rw[← hW]at h;rcases Qg h hv hO hrd hp hk hfr with⟨y',h1,h2⟩|⟨y',h1,_⟩
 ·have h1:=Option.some.inj h1
  have:y'=y:=by rw[← hz, ← h1,e1]
  subst this;exact h2
 ·cases h1
def WR(s:Fs)(f:HI G s->Option Z)(mu:Z->HL G (aK s.bV))(zz:Z)(hf:(Ch P s.k).isSome=true)(ok:M8 P s (RV s f mu) (λ_ _ =>False)):Ct P G where
 s:=s
 R:=RV s f mu
 Rp:=λ_ _ =>False
 cp:=λx ko _ =>bd (f x) λz=>ko (mu z)
 cg:=λg x ko=>cl g (f x) zz λz=>ko (mu z)
 Yh:=λx ko kp z h=>by obtain⟨y,h1,h2⟩:=pq h;exact .inl ⟨mu y,⟨y,h1,rfl⟩,h2⟩
 cgs:=λg x k z h=>by obtain⟨y,h1,_,h2⟩:=S8 h;exact⟨mu y,λq=>⟨y,h1 q,rfl⟩,h2⟩
 fn:=by
  cases h:Ch P s.k with
  |none=>rw[h]at hf;cases hf
  |some fi=>exact yj h
 ok:=ok
def RE{E:Type}(s:Fs)(f:HI G s->Option (Except E Z))(mu:Z->HL G (aK s.bV))(x:HI G s)(y:HL G (aK s.bV)):Prop:=∃z,f x=some (.ok z)/\mu z=y
def RX{E:Type}(s:Fs)(f:HI G s->Option (Except E Z))(me:E->HL G (aK s.fb))(x:HI G s)(y:HL G (aK s.fb)):Prop:=∃e,f x=some (.error e)/\me e=y
theorem PI{E:Type}{tb:uo P G}{n:Nat}{s:Fs}{f:HI G s->Option (Except E Z)}{um:HL G (aK s.bV)->Z}{mu:Z->HL G (aK s.bV)}{ue:HL G (aK s.fb)->E}{me:E->HL G (aK s.fb)}(e1:∀y,mu (um y)=y)(e2:∀y,me (ue y)=y)(hW:∀x,Wf tb n s (λy=>some (.ok (um y))) (λy=>some (.error (ue y))) x=f x):M8 P s (RE s f mu) (RX s f me):=by
 intro ρ J HS HK X w vs x hv hO hrd hp hk hfr;refine⟨λy h=>?_,λy h=>?_⟩
 ·obtain⟨z,h,hz⟩:=h
  rw[← hW]at h;rcases Qg h hv hO hrd hp hk hfr with⟨y',h1,h2⟩|⟨y',h1,_⟩
  ·have h1:=Except.ok.inj (Option.some.inj h1)
   have:y'=y:=by rw[← hz, ← h1,e1]
   subst this;exact h2
  ·cases Option.some.inj h1
 ·obtain⟨z,h,hz⟩:=h
  rw[← hW]at h;rcases Qg h hv hO hrd hp hk hfr with⟨y',h1,h2⟩|⟨y',h1,h2⟩
  ·cases Option.some.inj h1
  ·have h1:=Except.error.inj (Option.some.inj h1)
   have:y'=y:=by rw[← hz, ← h1,e2]
   subst this;exact h2
def P5{E:Type}(s:Fs)(f:HI G s->Option (Except E Z))(mu:Z->HL G (aK s.bV))(me:E->HL G (aK s.fb))(hf:(Ch P s.k).isSome=true)(ok:M8 P s (RE s f mu) (RX s f me)):Ct P G where
 s:=s
 R:=RE s f mu
 Rp:=RX s f me
 cp:=λx ko kp=>bd (f x) λr=>match r with
  | .ok z=>ko (mu z)
  | .error e=>kp (me e)
 cg:=λ_ _ _ =>none
 Yh:=λx ko kp z h=>by
  obtain⟨r,h1,h2⟩:=pq h;cases r with
  |ok y=>exact .inl ⟨mu y,⟨y,h1,rfl⟩,h2⟩
  |error e=>exact .inr ⟨me e,⟨e,h1,rfl⟩,h2⟩
 cgs:=λg x k z h=>by cases h
 fn:=by
  cases h:Ch P s.k with
  |none=>rw[h]at hf;cases hf
  |some fi=>exact yj h
 ok:=ok
def ctX{E:Type}(s:Fs)(f:HI G s->Option (Except E Z))(mu:Z->HL G (aK s.bV))(me:E->HL G (aK s.fb))(hf:(Ch P s.k).isSome=true)(ok:M8 P s (RE s f mu) (RX s f me))(cp:{Y:Type}->HI G s->(HL G (aK s.bV)->Option Y)->(HL G (aK s.fb)->Option Y)->Option Y)
  (hc:∀{Y:Type} (x:HI G s) (ko:HL G (aK s.bV)->Option Y) (kp:HL G (aK s.fb)->Option Y),cp x ko kp=(P5 s f mu me hf ok).cp x ko kp):Ct P G where
 s:=s
 R:=RE s f mu
 Rp:=RX s f me
 cp:=cp
 cg:=λ_ _ _ =>none
 Yh:=λx ko kp z h=>(P5 s f mu me hf ok).Yh x ko kp z (by rw[← hc];exact h)
 cgs:=λg x k z h=>by cases h
 fn:=(P5 s f mu me hf ok).fn
 ok:=ok
abbrev Sh.i:Sh:= .v (.int .i64)
abbrev Sh.b:Sh:= .v .bool
abbrev Sh.s(n:Nat):Sh:= .v (.st n)
abbrev Sh.w:Sh:= .v (.int .u32)
def lS:List Sh->Sh
 |[]=> .nil
 |a::r=> .cons a (lS r)
abbrev Sh.t(l:List Sh):Sh:= .gS (lS l)
abbrev gV(k:Nat)(i o:List Sh):Fs:=⟨k,[],lS i,lS o,[], .nil,[],[]⟩
abbrev fsT(k:Nat)(i o:List Sh)(T:Nat):Fs:=⟨k,[],lS i,lS o,[], .cons (.gP T (.v (.int .i64))) .nil,[],[]⟩
section
variable {A B C D:Type}
def u1(y:A×Unit):A:=y.1
def u2(y:A×B×Unit):A×B:=(y.1,y.2.1)
def u3(y:A×B×C×Unit):A×B×C:=(y.1,y.2.1,y.2.2.1)
def m1(z:A):A×Unit:=(z,())
def m2(z:A×B):A×B×Unit:=(z.1,z.2,())
def m3(z:A×B×C):A×B×C×Unit:=(z.1,z.2.1,z.2.2,())
def a1(f:A->Z)(x:A×Unit):Z:=f x.1
def a2(f:A->B->Z)(x:A×B×Unit):Z:=f x.1 x.2.1
def a3(f:A->B->C->Z)(x:A×B×C×Unit):Z:=f x.1 x.2.1 x.2.2.1
def a4(f:A->B->C->D->Z)(x:A×B×C×D×Unit):Z:=f x.1 x.2.1 x.2.2.1 x.2.2.2.1
end
def cV[Inhabited Z](tb:uo P G)(s:Fs)(f:HI G s->Option Z)(um:HL G (aK s.bV)->Z)(mu:Z->HL G (aK s.bV))(e1:∀y,mu (um y)=y:=by exactλ_ =>rfl)(hf:(Ch P s.k).isSome=true:=by kernel_rfl)(hW:∀x,Wf tb 3000 s (λy=>some (um y)) (λ_ =>none) x=f x:=by intro _;kernel_rfl):Ct P G:=
 WR s f mu default hf (Uv e1 hW)
def cX{E:Type}(tb:uo P G)(s:Fs)(f:HI G s->Option (Except E Z))(um:HL G (aK s.bV)->Z)(mu:Z->HL G (aK s.bV))(ue:HL G (aK s.fb)->E)(me:E->HL G (aK s.fb))(e1:∀y,mu (um y)=y:=by exactλ_ =>rfl)(e2:∀y,me (ue y)=y:=by exactλ_ =>rfl)(hf:(Ch P s.k).isSome=true:=by kernel_rfl)
  (hW:∀x,Wf tb 3000 s (λy=>some (.ok (um y))) (λy=>some (.error (ue y))) x=f x:=by intro _;kernel_rfl):Ct P G:=P5 s f mu me hf (PI e1 e2 hW)
def cT(tb:uo P G)(k:Nat)(i o:List Sh)(T:Nat)(f:HI G (fsT k i o T)->Option (Except Int Z))(um:HL G (aK (fsT k i o T).bV)->Z)(mu:Z->HL G (aK (fsT k i o T).bV))(e1:∀y,mu (um y)=y:=by exactλ_ =>rfl)(hf:(Ch P k).isSome=true:=by kernel_rfl)
  (hW:∀x,Wf tb 3000 (fsT k i o T) (λy=>some (.ok (um y))) (λy=>some (.error (u1 y))) x=f x:=by intro _;kernel_rfl):Ct P G:=P5 (fsT k i o T) f mu m1 hf (PI e1 (λ_ =>rfl) hW)
def MG(k T:Nat):Fs:=⟨k,[], .cons (.v .bool) (.cons (.v (.int .i64)) .nil), .cons (.gS .nil) .nil,[], .cons (.gP T (.v (.int .i64))) .nil,[],[]⟩
def W5{k T:Nat}(x:HI G (MG k T)):Bool:=x.1
def ab0{k T:Nat}(x:HI G (MG k T)):Int:=x.2.1
def Ti{k T:Nat}(x:HI G (MG k T)):Option (Except Int Unit):=cn (!W5 x) (some (.error (ab0 x))) (some (.ok ()))
def ab1{k T:Nat}(y:HL G (aK (MG k T).fb)):Int:=y.1
def Ub(tb:uo P G)(k T:Nat)(hf:(Ch P k).isSome=true)(hW:∀x,Wf tb 300 (MG k T) (λ_ =>some (.ok ())) (λy=>some (.error (ab1 y))) x=Ti x):Ct P G:=
 ctX (MG k T) Ti (λ_ =>()) (λe=>(e,())) hf (PI (tb:=tb) (n:=300) (um:=λ_ =>()) (ue:=ab1) (λ_ =>rfl) (λ_ =>rfl) hW)
  (λx ko kp=>bif W5 x then ko ()else kp (ab0 x,())) (λx ko kp=>by
   show _ =bd (Ti x) _;unfold Ti;cases W5 x<;>rfl)
def lkH{α:Type}:List (Nat×α)->Nat->Option α
 |[],_ =>none
 |(k,v)::r,d=>bif Nat.beq k d then some v else lkH r d
def So:List (Ct P G)->Nat->List (Ct P G)
 |[],_ =>[]
 |c::r,k=>bif Nat.beq c.s.k k then c::So r k else So r k
def F4:List Ty->List Ty->Bool
 |[],[]=>true
 |a::r,b::q=>a.bF b&&F4 r q
 |_,_ =>false
theorem On:∀{l m:List Ty},F4 l m=true->l=m:=by
 intro l
 induction l with
 |nil=>intro m h;cases m with
  |nil=>rfl
  |cons _ _ =>cases h
 |cons a r ih=>intro m h;cases m with
  |nil=>cases h
  |cons b q=>simp only[F4,aiC]at h;rw[Ty.rD h.1,ih h.2]
structure VwA(G:Sg) where
 L:List Ty
 v:Vw G L
def lkV:List (Nat×VwA G)->Nat->(L:List Ty)->Option (Vw G L)
 |[],_,_ =>none
 |(k,a)::r,i,L=>bif Nat.beq k i then(if h:F4 a.L L=true then some (On h▸a.v)else none)else lkV r i L
def Sl:List (It P G)->Nat->List (It P G)
 |[],_ =>[]
 |c::r,k=>bif Nat.beq c.k k then c::Sl r k else Sl r k
def Sm:List (Ek P G)->Nat->List (Ek P G)
 |[],_ =>[]
 |c::r,k=>bif Nat.beq c.k k then c::Sm r k else Sm r k
def aat(tt:TT P G)(zt:ZT P G)(n:Nat)(h:List (Nat×Hn))(cs:List (Ct P G))(vs:List (Nat×VwA G))(Sw:List (It P G))(es:List (Ek P G)):uo P G:=⟨tt,zt,λ_ i=>lkH h i,So cs,n,lkV vs,Sl Sw,Sm es,false⟩
def hcp(cp:List Nat)(i:Nat):Nat:=cp.foldr (λd k=>k*1000+d+1) 0*10000000+i
def afq(tt:TT P G)(zt:ZT P G)(n:Nat)(h:List (Nat×Hn))(cs:List (Ct P G))(Sw:List (It P G))(es:List (Ek P G)):uo P G:=⟨tt,zt,λcp i=>lkH h (hcp cp i),So cs,n,λ_ _ =>none,Sl Sw,Sm es,false⟩
end Go.Rw
