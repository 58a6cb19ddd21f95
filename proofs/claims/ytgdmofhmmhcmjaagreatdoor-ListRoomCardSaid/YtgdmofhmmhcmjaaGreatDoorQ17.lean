/- Part 17 of what a proof leans on; pruned and shortened by a program out of longer texts. -/
import Derived.Test.YtgdmofhmmhcmjaaGreatDoorQ16
namespace Go.Proofs.Z
open Go Go.Bw
def J9(c:Int):Int:=if c=0\/4294967296<c then -1 else c-1
theorem OY{n:Nat}{c:Int}(h0:0<=c)(h1:c<18446744073709551616):gV n c=some (J9 c):=by
 unfold gV J9;by_cases h:c=0\/4294967296<c
 ·rw[aU (by simpa using h),aiM h]
 ·rw[au (by simpa using h),aiN h,sK (by omega) (by omega),br (by omega) (by omega)]
theorem J8{c:Int}(h0:0<=c): -1<=J9 c/\J9 c<4294967296:=by unfold J9;split<;>omega
section
variable {n:Nat} {S:ae} {P P':aj} {M:ai} {Q:List Int} {t h:Int} {k:Nat} {a:Int}
def rdb(S:ae)(k:Nat)(x:Int):Prop:=0<=x/\x+8<=(bw S k).dZ
instance(S:ae)(k:Nat)(x:Int):Decidable (rdb S k x):=by unfold rdb;infer_instance
theorem GR(hn:200<=n)(E:Me n S P M Q t h k)(x:Int):∃v e,cz n S P M Q t h a 0 x=some (v,S,P,M,Q,t,h,a,e)/\(0<=v/\v<18446744073709551616)/\(rdb S k x->v=v7 S P k x/\e=0)/\(¬rdb S k x->e≠0):=by
 by_cases hx:rdb S k x
 ·refine⟨_,0,?_,F3 E.cw k x,λ_ =>⟨rfl,rfl⟩,λh=>absurd hx h⟩
  unfold cz;rw[au (by rfl),ak (OS hn E.cw E.Fb hx.1 hx.2),aP]
 ·obtain⟨e,he,hw⟩:=SE hn E.cw E.Fb (x:=x) hx
  refine⟨0,e,?_,by omega,λh=>absurd h hx,λ_ =>by omega⟩;unfold cz;rw[au (by rfl),ak hw,aP]
def Gv(S:ae)(P:aj)(k:Nat)(c d:Int):Prop:=c≠0/\rdb S k (J9 c+8)/\rdb S k (J9 c)/\d=v7 S P k (J9 c)
def Xb(S:ae)(P:aj)(k:Nat):Nat->Int->Int->Prop
 |0,c,d=>c=d
 |j+1,c,d=>∃x,Xb S P k j c x/\Gv S P k x d
theorem Pc{j:Nat}{c d d':Int}(h:Xb S P k j c d)(h':Xb S P k j c d'):d=d':=by
 induction j generalizing d d' with
 |zero=>have h:c=d:=h;have h':c=d':=h';omega
 |succ j ih=>obtain⟨x,h1,h2⟩:=h;obtain⟨y,h3,h4⟩:=h';obtain rfl:=ih h1 h3;rw[h2.2.2.2,h4.2.2.2]
theorem Ym{j m:Nat}{c d:Int}(h:Xb S P k m c d)(hj:j<=m):∃x,Xb S P k j c x:=by
 induction m generalizing d with
 |zero=>
  obtain rfl:j=0:=by omega
  exact⟨c,rfl⟩
 |succ m ih=>
  rcases Nat.lt_or_ge j (m+1)with h1|h1
  ·obtain⟨x,h2,_⟩:=h
   exact ih h2 (by omega)
  ·obtain rfl:j=m+1:=(by omega)
   exact⟨d,h⟩
end
end Go.Proofs.Z
namespace Go.Proofs.Z
open Go Go.Bw
section
variable {n:Nat} {S:ae} {P P':aj} {M:ai} {Q:List Int} {t h:Int} {k:Nat} {a:Int}
theorem Zv{i:Int}(h0:0<=i)(h1:i<=9223372036854775807):wr .u64 ((wr .u64 (if 0<i then i else 0))+1)=i+1/\wr .u64 i=i:=by
 have e:(if 0<i then i else 0)=i:=by split<;>omega
 rw[e,sK (x:=i) (by omega) (by omega),sK (by omega) (by omega)];exact⟨rfl,rfl⟩
theorem aaV(hn:300<=n)(E:Me n S P M Q t h k)(hb:0<=a/\a%8=0/\a+32<=(bw S k).dZ){i:Nat}(hi:(i:Int)<Wd S P k (a+16))(aiH:i<=127){c d:Int}(hp:Xb S P k i (Wd S P k a) c)(hc:Gv S P k c d):
  jc n S P M Q t h a 0 (i:Int)=some (J9 c,S,P,M,Q,t,h,a,0):=by
 obtain⟨b1,b2,b3⟩:=hb;have hm:=(E.cw.may k).hi;have hs:=(E.cw.may k).gx.sum;have hin:∀z,z=0\/z=8\/z=16\/z=24->mj S k (a+z):=λz hz=>⟨by omega,by omega,by omega⟩;have har:0<=a/\a<=100000:=⟨b1,by omega⟩;have hf:=zg E.cw k a;obtain⟨u1,u2⟩:=Zv (i:=(i:Int)) (by omega) (by omega);have afN:Xb S P k (i+1) (Wd S P k a) d:=⟨c,hp,hc⟩;unfold jc;rw[ak (o6 (by omega) E.mr har (by omega) (hin 16 (by omega))),aP,u1,u2,au (by simp;omega)];dsimp only;rw[ak (o6 (by omega) E.mr har (by omega) (hin 0 (by omega))),aP,au (by simp;omega),Int.add_zero];dsimp only;refine Bc (λ(x:Int) (f:Int) (out:Int) (s:ae) (p:aj) (m:ai) (q:List Int) (t' h' a' e:Int)=>∃j:Nat,x=(j:Int)/\j<=i+1/\Xb S P k j (Wd S P k a) f/\(0<=f/\f<18446744073709551616)/\(j=i+1->out=J9 c)/\s=S/\p=P/\m=M/\q=Q/\t'=t/\h'=h/\a'=a/\e=0) (λ(x:Int) _ _ _ _ _ _ _ _ _ _ =>((i:Int)+1-x).toNat) (λo=>o=some (J9 c,S,P,M,Q,t,h,a,0)) ?_ n 0 _ 0 _ _ _ _ _ _ _ _ ⟨0,rfl,by omega,rfl,hf,λh=>by omega,rfl,rfl,rfl,rfl,rfl,rfl,rfl,rfl⟩ (by omega);rintro kk x f out s p m q t' h' a' e ⟨j,rfl,hj,hpj,hfr,ho,rfl,rfl,rfl,rfl,rfl,rfl,rfl,rfl⟩ ih;by_cases hlt:j<i+1
 ·obtain⟨f2,xw⟩:=Ym afN (j:=j+1) (by omega)
  obtain⟨f1,hp1,hn1⟩:=id xw;obtain rfl:=Pc hp1 hpj;obtain⟨q1,q2,q3,q4⟩:=id hn1;have tr:=J8 hfr.1;rw[aU (by simp;omega),aP,au (by simpa using q1)];dsimp only;obtain⟨v,e1,g1,g2,g3,_⟩:=GR (a:=a') (by omega) E (J9 f1);obtain⟨rfl,rfl⟩:=g3 q3;rw[rX (by rfl) (OY hfr.1 hfr.2),au (by rfl),aP,ak (OY hfr.1 hfr.2),br (x:=J9 f1+0) (by omega) (by omega),Int.add_zero,ak g1,sK (x:=(j:Int)+1) (by omega) (by omega)];refine ih _ _ _ _ _ _ _ _ _ _ _ ⟨j+1,by omega,by omega,?_,g2,λ_=>?_,rfl,rfl,rfl,rfl,rfl,rfl,rfl,rfl⟩ (by omega)
  ·dsimp only
   rw[← q4];exact xw
  ·have:j=i:=by omega
   subst this;rw[Pc hpj hp]
 ·rw[au (by simp;omega),ho (by omega)]
theorem VM(hn:300<=n)(E:Me n S P M Q t h k)(hb:0<=a/\a%8=0/\a+32<=(bw S k).dZ){i:Int}(hi: -9223372036854775808<=i/\i<=9223372036854775807):
  ∃x e,jc n S P M Q t h a 0 i=some (x,S,P,M,Q,t,h,a,e)/\(-1<=x/\x<4294967296)/\(¬(0<=i/\i<Wd S P k (a+16))->e=9):=by
 obtain⟨b1,b2,b3⟩:=hb;have hm:=(E.cw.may k).hi;have hs:=(E.cw.may k).gx.sum;have hin:∀z,z=0\/z=8\/z=16\/z=24->mj S k (a+z):=λz hz=>⟨by omega,by omega,by omega⟩;have har:0<=a/\a<=100000:=⟨b1,by omega⟩;have hc:=zg E.cw k (a+16);have hf:=zg E.cw k a;obtain⟨u,hu,hu0⟩:∃u,wr .u64 ((wr .u64 (if 0<i then i else 0))+1)=u/\1<=u:=by
  refine⟨_,rfl,?_⟩;by_cases h0:0<=i
  ·rw[(Zv h0 hi.2).1];omega
  ·rw[aiN (by omega)];decide
 unfold jc;rw[ak (o6 (by omega) E.mr har (by omega) (hin 16 (by omega))),aP,hu];generalize Wd S P k (a+16)=y6 at hc;have main:∀(e0 f0:Int),(0<=f0/\f0<18446744073709551616)->(e0=0->u<=128)->∃x e,wF (λk52 (gF:Int) (lJ:Int) (v5:Int) (vZ:ae) (IS:aj) (vi:ai) (Fu:(List Int)) (zW:Int) (qV:Int) (tZ:Int) (C4:Int)=>cn (decide (gF<u)) (lt (λ(yh:ae) (lu:aj) (qc:ai) (FY:(List Int)) (yg:Int) (Nc:Int) (FX:Int) (zF:Int)=>cl (((zF !=0)==false)) (gV n lJ) default λJQ=>cn ((zF !=0)) (some (v5,yh,lu,qc,FY,yg,Nc,FX,zF)) (lt (JQ:Int) λSw=>bd (gV n lJ) λQA=>bd (cz n yh lu qc FY yg Nc FX zF (wr .i64 (QA+0))) λvh=>k52 (wr .u64 (gF+1)) vh.1 Sw vh.2.1 vh.2.2.1 vh.2.2.2.1 vh.2.2.2.2.1 vh.2.2.2.2.2.1 vh.2.2.2.2.2.2.1 vh.2.2.2.2.2.2.2.1 vh.2.2.2.2.2.2.2.2)) λj61=>cn (((C4==0)&&(lJ==0))) (j61 vZ IS vi Fu zW qV tZ 3) (j61 vZ IS vi Fu zW qV tZ C4)) (some (v5,vZ,IS,vi,Fu,zW,qV,tZ,C4))) n 0 f0 0 S P M Q t h a e0=some (x,S,P,M,Q,t,h,a,e)/\(-1<=x/\x<4294967296)/\(e0≠0->e=e0):=by
  intro e0 f0 hf0 he0;refine Bc (λ(x:Int) (f:Int) (out:Int) (s:ae) (p:aj) (m:ai) (q:List Int) (t' h' a' e:Int)=>∃j:Nat,x=(j:Int)/\(0<=f/\f<18446744073709551616)/\(-1<=out/\out<4294967296)/\(e0≠0->e=e0/\j=0)/\(e0=0->u<=128)/\s=S/\p=P/\m=M/\q=Q/\t'=t/\h'=h/\a'=a) (λ(x:Int) _ _ _ _ _ _ _ _ _ (e:Int)=>if e=0 then(130-x).toNat else 0) (λo=>∃(x:Int) (e:Int),o=some (x,S,P,M,Q,t,h,a,e)/\(-1<=x/\x<4294967296)/\(e0≠0->e=e0)) ?_ n 0 f0 0 _ _ _ _ _ _ _ e0 ⟨0,rfl,hf0,by omega,λ_ =>⟨rfl,rfl⟩,he0,rfl,rfl,rfl,rfl,rfl,rfl,rfl⟩ (by split<;>omega);rintro kk x f out s p m q t' h' a' e ⟨j,rfl,hfr,hor,hee,hu1,rfl,rfl,rfl,rfl,rfl,rfl,rfl⟩ ih;by_cases hlt:(j:Int)<u
  ·rw[aU (by simpa using hlt),aP]
   by_cases hz:e=0
   ·subst hz
    have acu:e0=0:=Decidable.byContradiction λq=>q (hee q).1.symm;have hu2:=hu1 acu;by_cases hf1:f=0
    ·rw[aU (by rw[hf1];rfl)]
     dsimp only;rw[tH (by rfl),aU (by rfl)];exact⟨out,3,rfl,hor,λh=>absurd acu h⟩
    ·have tr:=J8 hfr.1
     rw[au (by simpa using hf1)];dsimp only;obtain⟨v,e1,g1,g2,g3,g4⟩:=GR (a:=a') (by omega) E (J9 f);rw[rX (by rfl) (OY hfr.1 hfr.2),au (by rfl),aP,ak (OY hfr.1 hfr.2),br (x:=J9 f+0) (by omega) (by omega),Int.add_zero,ak g1,sK (x:=(j:Int)+1) (by omega) (by omega)];refine ih _ _ _ _ _ _ _ _ _ _ _ ⟨j+1,by omega,g2,tr,λh=>absurd acu h,hu1,rfl,rfl,rfl,rfl,rfl,rfl,rfl⟩ ?_;dsimp only;rw[aiM rfl];split<;>omega
   ·have hb:(e==0)=false:=by simpa using hz
    have Ic:(e !=0)=true:=by simpa using hz
    rw[au (by rw[hb];rfl)];dsimp only;rw[Ic,tH (by rfl),aU (by rfl)];exact⟨out,e,rfl,hor,λh=>(hee h).1⟩
  ·rw[au (by simpa using hlt)]
   exact⟨out,e,rfl,hor,λh=>(hee h).1⟩
 by_cases hr:0<=i/\i<y6
 ·rw[(Zv hr.1 hi.2).2,au (by simp;omega)]
  dsimp only;rw[ak (o6 (by omega) E.mr har (by omega) (hin 0 (by omega))),aP,Int.add_zero];by_cases h128:128<u
  ·rw[aU (by simpa using h128)]
   obtain⟨x,e,h1,h2,_⟩:=main 3 (Wd S P k a) hf (λh=>by omega);exact⟨x,e,h1,h2,λh=>absurd hr h⟩
  ·rw[au (by simpa using h128)]
   obtain⟨x,e,h1,h2,_⟩:=main 0 (Wd S P k a) hf (λ_ =>by omega);exact⟨x,e,h1,h2,λh=>absurd hr h⟩
 ·have hg:((0:Int)==0&&(decide (i<0)||decide (y6<=wr .u64 i)))=true:=by
   by_cases h0:0<=i
   ·rw[(Zv h0 hi.2).2];simp;omega
   ·simp;omega
  rw[aU hg];dsimp only;rw[ak (acn (show(9:Int)≠0 by omega)),aP,au (by rfl)];obtain⟨x,e,h1,h2,h3⟩:=main 9 0 (by omega) (λh=>by omega);exact⟨x,e,h1,h2,λ_ =>h3 (by omega)⟩
theorem Zd(hn:300<=n)(E:Me n S P M Q t h k)(hb:0<=a/\a%8=0/\a+32<=(bw S k).dZ){i:Int}(hi: -9223372036854775808<=i/\i<=9223372036854775807):
  ∃v e,kU n S P M Q t h a i=some (v,e,S,P,M,Q,t,h,a)/\(¬(0<=i/\i<Wd S P k (a+16))->e=9/\v=0)/\(0<=i->i<Wd S P k (a+16)->i<=127->∀c d,Xb S P k i.toNat (Wd S P k a) c->Gv S P k c d->e=0/\v=v7 S P k (J9 c+8)):=by
 obtain⟨x,e,h1,h2,h3⟩:=VM hn E hb hi;have fin:∀{x e:Int},(-1<=x/\x<4294967296)->jc n S P M Q t h a 0 i=some (x,S,P,M,Q,t,h,a,e)->∃v e1,kU n S P M Q t h a i=some (v,e1,S,P,M,Q,t,h,a)/\(e≠0->e1=e/\v=0)/\(e=0->rdb S k (x+8)->e1=0/\v=v7 S P k (x+8)):=by
  intro x e hx hh;unfold kU;rw[ak hh,br (x:=x+8) (by omega) (by omega)];by_cases he:e=0
  ·subst he
   obtain⟨v,e1,g1,g2,g3,g4⟩:=GR (a:=a) (by omega) E (x+8);rw[ak g1,aP,aP];by_cases hz:e1=0
   ·subst hz
    rw[au (by rfl)];exact⟨v,0,rfl,λh=>absurd rfl h,λ_ hr=>⟨rfl,(g3 hr).1⟩⟩
   ·rw[aU (by simpa using hz)]
    exact⟨0,e1,rfl,λh=>absurd rfl h,λ_ hr=>absurd (g3 hr).2 hz⟩
  ·rw[ak (Pw he),aP,aP,aU (by simpa using he)]
   exact⟨0,e,rfl,λ_ =>⟨rfl,rfl⟩,λh=>absurd h he⟩
 obtain⟨v,e1,f1,f2,_⟩:=fin h2 h1;refine⟨v,e1,f1,λhr=>?_,λi0 i1 i2 c d hp hc=>?_⟩
 ·have:=h3 hr
  subst this;exact f2 (by omega)
 ·obtain⟨j,rfl⟩:=Int.eq_ofNat_of_zero_le i0
  rw[aiR]at hp;have hok:=aaV hn E hb i1 (by omega) hp hc;have hcr:0<=c:=by
   cases j with
   |zero=>have hp:Wd S P k a=c:=hp;have:=zg E.cw k a;omega
   |succ j=>obtain⟨y,_,hy⟩:=hp;rw[hy.2.2.2];exact(F3 E.cw k _).1
  obtain⟨v',e',g1,_,g3⟩:=fin (J8 hcr) hok;rw[f1]at g1;simp only[Option.some.injEq,Prod.mk.injEq]at g1;obtain⟨k1,k2⟩:=g3 rfl hc.2.1;exact⟨g1.2.1.trans k1,g1.1.trans k2⟩
theorem Uw{vs ns sp:List Int}(R:Lr (Wd S P k) (bw S k).dZ a vs ns sp):∀{i:Nat},i<ns.length->∃d,Xb S P k i (Wd S P k a) (ns.getD i 0+1)/\Gv S P k (ns.getD i 0+1) d/\J9 (ns.getD i 0+1)=ns.getD i 0:=by
 have UO:∀i,i<ns.length->0<=ns.getD i 0/\ns.getD i 0%8=0/\ns.getD i 0+16<=(bw S k).dZ:=λi hi=>by have:=R.nb (ns.getD i 0) (by rw[List.getD,aiV hi];exact aiT _ (List.getElem_mem hi));omega
 have hL:=R.hb.2.2.2;have ab9:∀i,i<ns.length->J9 (ns.getD i 0+1)=ns.getD i 0:=λi hi=>by have:=UO i hi;unfold J9;rw[aiN (by omega)];omega
 have hok:∀i,i<ns.length->Gv S P k (ns.getD i 0+1) (v7 S P k (ns.getD i 0)):=λi hi=>by
  have:=UO i hi;refine⟨by omega,?_,?_,?_⟩<;>rw[ab9 i hi]
  ·exact⟨by omega,by omega⟩
  ·exact⟨by omega,by omega⟩
 have afO:∀i,i<ns.length->Sc (Wd S P k) (ns.drop i) (if i=0 then Wd S P k a else Wd S P k (ns.getD (i-1) 0)):=by
  intro i
  induction i with
  |zero=>intro _;rw[aiM rfl];exact R.first
  |succ i ih=>intro hi;have h1:=ih (by omega);rw[List.drop_eq_getElem_cons (by omega)]at h1;rw[aiN (by omega),Nat.add_sub_cancel,List.getD,aiV (by omega)];exact h1.2
 have KR:∀i,i<ns.length->(if i=0 then Wd S P k a else Wd S P k (ns.getD (i-1) 0))=ns.getD i 0+1:=λi hi=>by have h1:=afO i hi;rw[List.drop_eq_getElem_cons hi]at h1;rw[h1.1,List.getD,aiV hi];rfl
 intro i
 induction i with
 |zero=>intro hi;have h1:=KR 0 hi;rw[aiM rfl]at h1;exact⟨_,h1,hok 0 hi,ab9 0 hi⟩
 |succ i ih=>intro hi;obtain⟨d,h1,h2,h3⟩:=ih (by omega);have h4:=KR (i+1) hi;rw[aiN (by omega),Nat.add_sub_cancel]at h4;have h5:=UO i (by omega);refine⟨_,⟨_,h1,⟨h2.1,h2.2.1,h2.2.2.1,?_⟩⟩,hok (i+1) hi,ab9 (i+1) hi⟩;rw[h3, ← h4,VZ ⟨by omega,by omega,by omega⟩]
theorem Zc(hn:300<=n)(E:Me n S P M Q t h k){vs ns sp:List Int}(R:Lr (Wd S P k) (bw S k).dZ a vs ns sp){i:Int}(hi: -9223372036854775808<=i/\i<=9223372036854775807):
  kU n S P M Q t h a i=some (if 0<=i/\i<vs.length then vs.getD i.toNat 0 else 0,if 0<=i/\i<vs.length then 0 else 9,S,P,M,Q,t,h,a):=by
 have hm:=R.Cn;rw[List.length_append]at hm;have hlen:=R.len;have xL:Wd S P k (a+16)=(vs.length:Int):=by rw[R.y6,hlen]
 obtain⟨v,e,h1,h2,h3⟩:=Zd hn E ⟨R.hb.1,R.hb.2.1,R.hb.2.2.1⟩ hi;rw[xL]at h2 h3;rw[h1];by_cases hr:0<=i/\i<vs.length
 ·obtain⟨j,rfl⟩:=Int.eq_ofNat_of_zero_le hr.1
  obtain⟨d,k1,k2,k3⟩:=Uw R (i:=j) (by omega);obtain⟨g1,g2⟩:=h3 hr.1 hr.2 (by omega) _ d (by rw[aiR];exact k1) k2;rw[aiM hr,aiM hr,g1,g2,k3,aiR];have hj:j<ns.length:=by omega
  have hnb:=R.nb (ns.getD j 0) (by rw[List.getD,aiV hj];exact aiT _ (List.getElem_mem hj));rw[← VZ (S:=S) (P:=P) (k:=k) (a:=ns.getD j 0+8) ⟨by omega,by omega,by omega⟩];have:vs.getD j 0=Wd S P k (ns.getD j 0+8):=by rw[R.val,List.getD,List.getD,List.getElem?_map,aiV hj];rfl
  rw[this]
 ·obtain⟨g1,g2⟩:=h2 hr
  rw[aiN hr,aiN hr,g1,g2]
end
end Go.Proofs.Z
namespace Go.Proofs.Z
open Go Go.Bw
set_option maxRecDepth 100000 in
theorem OU:uA 20000=some true:=by kernel_rfl
theorem ZK{q:Int}(hq:1<=q/\q<=64):cI 20000 WX ({({jX with n:=64}:aj)with dX:=⟨[⟨0,64⟩]⟩}:aj) bA [] 0 ({({eF with Do:=1}:aC)with A:=q}:aC)=some (⟨0,0,1⟩,JJ q,WR 64,bA,[],0):=ae1 (p:=64) ⟨by omega,by omega⟩
end Go.Proofs.Z
namespace Go.Proofs.Z
open Go Go.Bw
section
variable {n:Nat} {S:ae} {P P':aj} {M:ai} {Q:List Int} {t h:Int} {k:Nat} {a:Int}
theorem XP(hn:300<=n)(E:Me n S P M Q t h k){vs ns sp:List Int}(R:Lr (Wd S P k) (bw S k).dZ a vs ns sp){i:Int}(hi: -9223372036854775808<=i/\i<=9223372036854775807){v:Int}(hv:0<=v/\v<18446744073709551616):
  ∃P',qd n S P M Q t h a i v=some (if 0<=i/\i<vs.length then 0 else 9,S,P',M,Q,t,h,a)/\Me n S P' M Q t h k/\Ev S P Q S P' Q k/\Lr (Wd S P' k) (bw S k).dZ a (if 0<=i/\i<vs.length then vs.set i.toNat v else vs) ns sp:=by
 have hm:=R.Cn;rw[List.length_append]at hm;have hlen:=R.len;have xL:Wd S P k (a+16)=(vs.length:Int):=by rw[R.y6,hlen]
 have hL:=R.hb;unfold qd;by_cases hr:0<=i/\i<vs.length
 ·obtain⟨j,rfl⟩:=Int.eq_ofNat_of_zero_le hr.1
  have hj:j<ns.length:=by omega
  obtain⟨d,k1,k2,k3⟩:=Uw R hj;have hat:=aaV hn E ⟨R.hb.1,R.hb.2.1,R.hb.2.2.1⟩ (i:=j) (by rw[xL];exact hr.2) (by omega) k1 k2;have hnm:ns.getD j 0∈ns:=by rw[List.getD,aiV hj];exact List.getElem_mem hj
  have hnb:=R.nb (ns.getD j 0) (aiT _ hnm);obtain⟨P2,f2,E2,W2,V2⟩:=uB (a:=a) (by omega) E (x:=ns.getD j 0+8) (v:=v) ⟨by omega,by omega,by omega⟩ hv;refine⟨P2,?_,E2,V2,?_⟩
  ·rw[ak hat,k3,br (x:=ns.getD j 0+8) (by omega) (by omega),ak f2,aiM hr]
  ·rw[aiM hr,aiR]
   have aaJ:∀y∈ns++sp,y≠ns.getD j 0+8:=λy hy e=>by
    rcases NF R.cr hy (aiT sp hnm)with q|q
    ·omega
    ·unfold tV at q;omega
   have hW:∀z,z≠ns.getD j 0+8->Wd S P2 k z=Wd S P k z:=λz hz=>by rw[W2,Fw _ _ hz]
   refine⟨R.hb,R.nb,R.cr,?_,λpre x e=>?_,?_,?_,?_⟩
   ·rw[hW a (by omega)];exact gk (λy hy=>hW y (aaJ y (by simp[hy]))) R.first
   ·rw[hW _ (by omega)];exact R.IA pre x e
   ·rw[hW _ (by omega)];exact R.y6
   ·rw[hW _ (by omega)];exact gk (λy hy=>hW y (aaJ y (by simp[hy]))) R.spare
   ·refine List.ext_getElem (by rw[List.length_set,List.length_map,hlen]) λu h1 h2=>?_
    rw[List.getElem_map,List.getElem_set];rw[List.length_map]at h2;have hu:vs[u]'(by rw[List.length_set]at h1;exact h1)=Wd S P k (ns[u]+8):=by have:=R.val;subst this;rw[List.getElem_map]
    by_cases hc:j=u
    ·subst hc
     have e1:ns[j]=ns.getD j 0:=by rw[List.getD,aiV hj];rfl
     have hx:Wd S P2 k (ns[j]+8)=v:=by rw[e1,W2,J6]
     rw[aiM rfl];exact hx.symm
    ·rw[aiN hc,hu,hW]
     intro e;have e2:ns.getD j 0=ns[j]:=by rw[List.getD,aiV hj];rfl
     rw[e2]at e;have M5:=(List.pairwise_append.1 R.cr).1;rcases Nat.lt_or_gt_of_ne hc with h3|h3
     ·have:=List.pairwise_iff_getElem.1 M5 j u hj h2 h3
      unfold tV at this;omega
     ·have:=List.pairwise_iff_getElem.1 M5 u j h2 hj h3
      unfold tV at this;omega
 ·obtain⟨x,e,h1,h2,h3⟩:=VM hn E ⟨R.hb.1,R.hb.2.1,R.hb.2.2.1⟩ hi
  rw[xL]at h3;have he:=h3 hr;subst he;refine⟨P,?_,E,Ev.refl _ _ _ _,by rw[aiN hr];exact R⟩;rw[ak h1,ak (Es (show(9:Int)≠0 by omega)),aiN hr]
end
end Go.Proofs.Z
namespace Go.Proofs.Z
open Go Go.Bw
theorem Zw{n:Nat}{S:ae}{P:aj}{M:ai}{Q:List Int}(C:Cw S P M Q):gJ n Q=some Q:=by
 have hl:Q.length<=64:=sA 64 C.qnd λp hp=>by have h1:=(C.R4 p hp).1;have h2:=C.DA.n1;exact⟨h1.1,by have:=h1.2.1;omega⟩
 unfold gJ;rw[bH (ni (by simp;omega) (by simp;omega)),aP,List.nil_append]
end Go.Proofs.Z
namespace Go.Proofs.Z
open Go Go.Bw
section
variable {n:Nat} {S S':ae} {P P':aj} {M:ai} {Q Q':List Int} {t h:Int} {k:Nat} {a:Int}
theorem abx(hn:300<=n)(E:Me n S P M Q t h k){vs ns sp:List Int}(R:Lr (Wd S P k) (bw S k).dZ a vs ns sp)(hL:(bw S k).dZ=32+16*((ns.length:Int)+sp.length)){d v:Int}(hV:0<=v/\v<=18446744073709551615):
  ∃S' P' Q' w' ok vs' ns' sp',wH n S P M Q t h a ⟨[],0⟩ ⟨d, -1,v⟩=some (w',ok,S',P',M,Q',t,h,a)/\Me n S' P' M Q' t h k/\Lr (Wd S' P' k) (bw S' k).dZ a vs' ns' sp'/\(bw S' k).dZ=32+16*((ns'.length:Int)+sp'.length)/\
   (ns'.length=ns.length/\sp'.length=sp.length\/(d<=1\/5<=d)/\(ns'.length+1=ns.length/\sp'.length=sp.length+1\/ns'.length=ns.length+1/\(sp.length=sp'.length+1\/sp.length=0/\sp'.length=0))):=by
 have hm:=R.Cn;rw[List.length_append]at hm;have hl:=R.len;have hv:0<=v/\v<18446744073709551616:=by omega
 have bad:∀(e:Int),d≠e->(d==e)=false:=λe h=>by simpa using h
 have gP:∀{S1:ae} {ns' sp':List Int},WS S S1 k ns sp ns' sp'->(bw S1 k).dZ=32+16*((ns'.length:Int)+sp'.length)/\ns'.length=ns.length+1/\(sp.length=sp'.length+1\/sp.length=0/\sp'.length=0):=λ{S1 ns' sp'} g=>by
  obtain⟨g1,g2|⟨g2,g3,_,g4,_⟩⟩:=g
  ·obtain⟨g3,rfl⟩:=g2
   exact⟨by omega,g1, .inl g3⟩
  ·subst g2 g3
   have g5:=g4 (by simp only[List.length_nil]at hL;omega);exact⟨by simp only[List.length_nil]at hL ⊢;omega,g1, .inr ⟨rfl,rfl⟩⟩
 unfold wH;rw[aP,aP];by_cases d0:d=0
 ·obtain⟨S1,P1,Q1,e,f1,f2,f3,f4⟩:=Rj (by omega) E R hv
  have hr:pR n ⟨[],0⟩ v=some ⟨[v],1⟩:=rfl;rw[aU (by simpa using d0),ak f1,ak hr,aP];dsimp only;rcases f4 with⟨rfl,rfl,e3,_,e5,_⟩|⟨rfl,ns',sp',g1,g2⟩
  ·subst e3
   refine⟨S1,P1,Q1,_,_,vs,ns,[],by rw[aU (by rfl),aP],f2,by rw[e5];exact R,hL, .inl ⟨rfl,rfl⟩⟩
  ·obtain⟨m1,m2,m3⟩:=gP g2
   exact⟨S1,P1,Q1,_,_,_,ns',sp',by rw[au (by rfl),aP],f2,g1,m1, .inr ⟨by omega, .inr ⟨m2,m3⟩⟩⟩
 rw[au (bad 0 d0)];by_cases d1:d=1
 ·have hr:tg n ⟨[],0⟩=some (⟨[],0⟩,0,10):=rfl
  rw[aU (by simpa using d1)];cases vs with
  |nil=>have hns:ns=[]:=List.length_eq_zero_iff.1 (by simpa using hl.symm);subst hns;rw[ak (abJ (by omega) E R),ak hr,aP];dsimp only;exact⟨S,P,Q,_,_,[],[],sp,by rw[au (by rfl),aP],E,R,hL, .inl ⟨rfl,rfl⟩⟩
  |cons u us=>obtain⟨P1,ns',sp',f1,f2,f3,f4,f5,f6⟩:=Yf (by omega) E R;rw[ak f1,ak hr,aP];dsimp only;exact⟨S,P1,Q,_,_,us,ns',sp',by rw[au (by rfl),aP],f2,f4,by omega, .inr ⟨by omega, .inl ⟨by omega,by omega⟩⟩⟩
 rw[au (bad 1 d1)];by_cases d2:d=2
 ·obtain⟨P1,f1,f2,f3,f4⟩:=XP hn E R (i:= -1) (by omega) hv
  have hs:tf n ⟨[],0⟩ (-1) v=some (⟨[],0⟩,9):=rfl;rw[aU (by simpa using d2),ak f1,aiN (by omega),ak hs,aP];rw[aiN (by omega)]at f4;dsimp only;exact⟨S,P1,Q,_,_,vs,ns,sp,by rw[au (by rfl),aP],f2,f4,hL, .inl ⟨rfl,rfl⟩⟩
 rw[au (bad 2 d2)];by_cases d3:d=3
 ·obtain⟨P1,f1,f2,f3,f4⟩:=SY (by omega) E R
  have hr:q7 n ⟨[],0⟩=some ⟨[],0⟩:=by obtain⟨m,rfl⟩:∃m,n=m+1:=⟨n-1,by omega⟩;rfl
  rw[aU (by simpa using d3),ak f1,ak hr,aP];dsimp only;exact⟨S,P1,Q,_,_,_,ns.reverse,sp,by rw[au (by rfl),aP],f2,f4,by rw[List.length_reverse];exact hL, .inl ⟨List.length_reverse,rfl⟩⟩
 rw[au (bad 3 d3)];by_cases d4:d=4
 ·have hg:tj n ⟨[],0⟩ (-1)=some (0,9):=rfl
  rw[aU (by simpa using d4),ak (Zc hn E R (i:= -1) (by omega)),ak hg];dsimp only;exact⟨S,P,Q,_,_,vs,ns,sp,by rw[au (by rfl),aP],E,R,hL, .inl ⟨rfl,rfl⟩⟩
 rw[au (bad 4 d4)];obtain⟨S1,P1,Q1,e,f1,f2,f3,f4⟩:=VJ (by omega) E R hv;have hr:q8 n ⟨[],0⟩ v=some ⟨[v],1⟩:=rfl;rw[ak f1,ak hr,aP];dsimp only;rcases f4 with⟨rfl,rfl,e3,_,e5,_⟩|⟨rfl,ns',sp',g1,g2⟩
 ·subst e3
  refine⟨S1,P1,Q1,_,_,vs,ns,[],by rw[aU (by rfl),aP],f2,by rw[e5];exact R,hL, .inl ⟨rfl,rfl⟩⟩
 ·obtain⟨m1,m2,m3⟩:=gP g2
  have d5:d<0\/5<=d:=by omega
  exact⟨S1,P1,Q1,_,_,_,ns',sp',by rw[au (by rfl),aP],f2,g1,m1, .inr ⟨by omega, .inr ⟨m2,m3⟩⟩⟩
end
theorem XV{a0:List fC}(h0:∀x∈a0,(0<=x.Do/\x.Do<=255)/\(-9223372036854775808<=x.I/\x.I<=9223372036854775807)/\(0<=x.V/\x.V<=18446744073709551615)):tA 20000 a0=some true:=by
 unfold tA;by_cases hg:80<(a0.length:Int)
 ·rw[aU (by simpa using hg),ak OU]
 ·rw[au (by simpa using hg),ak (ahp (p:=64) ⟨by omega,by omega⟩),ak (show ux 20000=some WX from rfl),aal (x:=64) (by omega) (by omega),ak (ZK ⟨by omega,by omega⟩),aP]
  obtain⟨S,P,e1,e2,e3,e4,e5,e6,e7⟩:=abT (p:=64) (q:=64) ⟨by omega,by omega⟩ ⟨by omega,by omega⟩;dsimp only;rw[ak e1,au (by rfl),au (by rfl)];dsimp only;have hL:(bw S 0).dZ=32:=by rw[e4,fS]
  refine GC (λ(i:Int) (Cn:Int) (y6:Int) (s:ae) (p:aj) (m:ai) (q:List Int) (t' h' a':Int)=>∃(j:Nat) (vs ns sp:List Int),i=(j:Int)/\j<=a0.length/\Cn=(ns.length:Int)+sp.length/\y6=(ns.length:Int)/\m=bA/\t'=0/\h'=1/\a'=0/\Me 20000 s p bA q 0 1 0/\Lr (Wd s p 0) (bw s 0).dZ 0 vs ns sp/\(bw s 0).dZ=32+16*((ns.length:Int)+sp.length)) (λi _ _ _ _ _ _ _ _ _ =>((a0.length:Int)-i).toNat) (λo=>o=some true) ?_ 20000 0 0 0 _ _ _ _ _ _ _ ⟨0,[],[],[],rfl,by omega,rfl,rfl,rfl,rfl,rfl,rfl,e2,by rw[hL];exact e7,by rw[hL];rfl⟩ (by omega);rintro kk i Cn y6 s p m q t' h' a' ⟨j,vs,ns,sp,rfl,hj,rfl,rfl,rfl,rfl,rfl,rfl,E,R,hN⟩ ih;have hm:=R.Cn;rw[List.length_append]at hm;by_cases hc:j<a0.length
  ·have hx:=h0 (a0.getD j default) (by rw[List.getD,aiV hc];exact List.getElem_mem hc)
   obtain⟨S',P',Q',w',ok,vs',ns',sp',f1,f2,f3,f4,f5⟩:=abx (by omega) E R hN (d:=(a0.getD j default).Do) hx.2.2;have hm':=f3.Cn;rw[List.length_append]at hm';have hl':=f3.len;rw[aU (by simpa using hc),bH (gU (by omega) (by omega)),bH (gU (by omega) (by omega)),aiR,ak f1,aP];dsimp only;rw[ak (YF (by omega) f2.mr f3)];dsimp only;rw[br (x:=(ns.length:Int)-1) (by omega) (by omega),br (x:=(ns.length:Int)+1) (by omega) (by omega),gU (i:=(j:Int)) (n:=a0.length) (by omega) (by omega),Bool.or_true,bH rfl,Bool.or_true,bH rfl];rw[au (by
    generalize(a0.getD j default).Do=dd at f5 ⊢;rcases f5 with⟨g1,g2⟩|⟨g1,g2|g2⟩<;>simp<;>first|omega|(intros;omega)|(and_intros<;>intros<;>omega)),br (by omega) (by omega)]
   refine ih _ _ _ _ _ _ _ _ _ _ ⟨j+1,vs',ns',sp',by omega,by omega,?_,by omega,rfl,rfl,rfl,rfl,f2,f3,f4⟩ (by omega);split<;>omega
  ·obtain⟨u,hu⟩:=E.Fb.get
   rw[au (by simpa using hc),ak (Zw E.cw),ak hu,aP,br (x:=((ns.length:Int)+sp.length)*16) (by omega) (by omega),br (by omega) (by omega)];have he:(s.dH.T.aW 0).E.dZ=32+((ns.length:Int)+sp.length)*16:=by have:(s.dH.T.aW 0).E.dZ=(bw s 0).dZ:=rfl;omega
   dsimp only;rw[he,rX (by simp) OU];simp
end Go.Proofs.Z
namespace Go.Rw
open Go Go.Bw Go.RowKit
variable {G:Sg} {P:Program}
def Hsn(W w:World):Prop:=W.heap.size<=w.heap.size/\∀b,b<W.heap.size->w.heap[b]? =W.heap[b]?
theorem Y9{g:IntKind×List (Int×Nat)}{mb:Nat}{W w:World}(h:GlX g mb W)(hs:Hsn W w):GlX g mb w:=by
 obtain⟨h1,l,⟨es,clock,h2,h3⟩,h4⟩:=h;have keep:∀{b:Nat} {o:Obj},W.heap[b]? =some o->w.heap[b]? =some o:=λ{b o} hb=>(hs.2 b (aiU.1 hb).1).trans hb;refine⟨?_,l,⟨es,clock,keep h2,h3⟩,h4⟩;unfold World.cell? at h1 ⊢;cases e:W.heap[0]? with
 |none=>rw[e]at h1;cases h1
 |some o=>rw[e]at h1;rw[keep e];exact h1
theorem acD{α:Type}{W:World}{v:Value}{L:cP α}[bg L]{xs:List α}(h:Fz (λw=>aO [] W w) v L xs):Fz (Hsn W) v L xs:=
 ⟨h.sl,λw hw=>Ro.bU (h.ro {w with os:=W.os,tape:=W.tape,output:=W.output} ⟨rfl,rfl,rfl,hw.1,λk hk _ =>hw.2 k hk⟩) (Nat.le_refl _) λ_ _ =>rfl⟩
theorem MM{ct:Ct P G}{W:World}{x:HI G ct.s}{y:HL G (aM ct.s.cN)}{v:Value}{vs:List Value}(hz:ct.R x y)(hgl:∀g,G.gt=some g->∃mb,GlX g mb W)(hv:∀J:World->Prop,(∀w,J w->Hsn W w)->rl J (λ_ =>none) (ct.s.bl x).1 vs)(h0:(ct.s.bl x).2.1=[])(h1:(fA (λm=>m) ct.s.cN y 0).2.1=[])
  (hro:ct.s.ro x=[])(hout:∀(J:World->Prop) (σ:aY) u us,rl J σ (fA (λm=>m) ct.s.cN y 0).1 (u::us)->u=v):
  Calls P ct.s.k vs.toArray W λe W'=>e= .returned v/\aO [] W W':=by
 have nr:∀b,b∈List.range W.heap.size↔b<W.heap.size:=λb=>List.mem_range;generalize List.range W.heap.size=bs at nr;have hR:∀w,Hs [.ext bs (Hsn W)] w->Hsn W w:=λw h=>(h _ List.mem_cons_self).1 w (Nat.le_refl _) λ_ _ =>rfl;have hS:∀w,aO [] W w->Hs [.ext bs (Hsn W)] w:=λw h r hr=>by obtain rfl:=List.mem_singleton.1 hr;exact⟨λw' k1 k2=>⟨Nat.le_trans h.size k1,λb hb=>(k2 b ((nr b).2 hb)).trans (h.block b hb (by simp))⟩,λb hb=>Nat.lt_of_lt_of_le ((nr b).1 hb) h.size⟩
 have:=(yV (ct:=ct) (R:=[.ext bs (Hsn W)]) (mE:=[]) (ρ:=λ_ =>none) hz (λg hg=>by
  obtain⟨mb,h⟩:=hgl g hg;exact⟨mb,λw hw=>Y9 h (hR w hw)⟩) (λJ hJ=>hv J λw hw=>hR w (hJ w hw)) h0 h1 (λJ _ r o e=>by rw[hro]at e;cases e) (λ_ _ =>rfl) hout).calls W (λw hw=>hS w (by simpa[bz]using hw)) (bC.nil _ _ _)
 exact this.mono λe W' ⟨_,_,he,hs,_⟩=>⟨he,by simpa[bz]using hs⟩
end Go.Rw
namespace Go.Bw
open Go Go.RowKit
theorem L7{α β:Type}{f:α->Option β}:∀{l:List α} {m:List β},l.mapM f=some m->(∀x∈l,∃y∈m,f x=some y)/\∀y∈m,∃x∈l,f x=some y
 |[],m,h=>by rw[List.mapM_nil]at h;cases h;exact⟨λx h=>(nomatch h),λx h=>(nomatch h)⟩
 |x::l,m,h=>by
  rw[List.mapM_cons]at h;cases hx:f x with
  |none=>rw[hx]at h;cases h
  |some y=>
   rw[hx]at h;cases hl:l.mapM f with
   |none=>rw[hl]at h;cases h
   |some m'=>
    rw[hl]at h;cases h;obtain⟨h1,h2⟩:=L7 hl;refine⟨λz hz=>?_,λz hz=>?_⟩
    ·rcases List.mem_cons.1 hz with rfl|hz
     ·exact⟨y,by simp,hx⟩
     ·obtain⟨w,hw,he⟩:=h1 z hz;exact⟨w,by simp[hw],he⟩
    ·rcases List.mem_cons.1 hz with rfl|hz
     ·exact⟨x,by simp,hx⟩
     ·obtain⟨w,hw,he⟩:=h2 z hz;exact⟨w,by simp[hw],he⟩
theorem Ps{H:Type}{x y:Lit×DataW H}:∀{l:List (Lit×DataW H)},y∈DataW.insert x l↔y=x\/y∈l
 |[]=>by simp[DataW.insert]
 |z::l=>by
  unfold DataW.insert;split
  ·simp
  ·rw[List.mem_cons,Ps,List.mem_cons]
   constructor
   ·rintro(h|h|h)
    ·exact .inr (.inl h)
    ·exact .inl h
    ·exact .inr (.inr h)
   ·rintro(h|h|h)
    ·exact .inr (.inl h)
    ·exact .inl h
    ·exact .inr (.inr h)
theorem LG{H:Type}{y:Lit×DataW H}:∀{l:List (Lit×DataW H)},y∈l.foldr DataW.insert []↔y∈l
 |[]=>Iff.rfl
 |x::l=>by rw[List.foldr_cons,Ps,LG,List.mem_cons]
theorem wE{β:Type}:∀{l:List (Int×β)} {k:Int},fK l k=none↔∀x∈l,x.1≠k
 |[],k=>⟨λ_ x h=>(nomatch h),λ_ =>rfl⟩
 |p::l,k=>by
  unfold fK;cases h:k==p.1 with
  |true=>
   have:k=p.1:=by simpa using h
   exact⟨λh=>by simp at h,λh2=>absurd this.symm (h2 p (by simp))⟩
  |false=>
   have hn:¬k=p.1:=by simpa using h
   simp only[cond_false,Option.map_eq_none_iff];rw[wE];exact⟨λh2 x hx=>by
    rcases List.mem_cons.1 hx with rfl|hx
    ·exactλe=>hn e.symm
    ·exact h2 x hx,λh2 x hx=>h2 x (by simp[hx])⟩
theorem Bb{β:Type}:∀{l:List (Int×β)} {k:Int} {q:Nat×β},fK l k=some q->(k,q.2)∈l
 |[],k,q,h=>by cases h
 |p::l,k,q,h=>by
  unfold fK at h;cases e:k==p.1 with
  |true=>
   have:k=p.1:=by simpa using e
   rw[e]at h;simp only[cond_true,Option.some.injEq]at h;subst h;subst this;simp
  |false=>rw[e]at h;simp only[cond_false,Option.map_eq_some_iff]at h;obtain⟨a,ha,rfl⟩:=h;have:=Bb ha;exact aiY _ this
theorem NT{β:Type}{l l':List (Int×β)}(h:∀x,x∈l↔x∈l')(hf:∀x∈l',∀y∈l',x.1=y.1->x=y)(k:Int)(z:β):nV l k z=nV l' k z/\pG l k=pG l' k:=by
 unfold nV pG;cases e:fK l k with
 |none=>have:fK l' k=none:=wE.2 λx hx=>wE.1 e x ((h x).2 hx);rw[this];exact⟨rfl,rfl⟩
 |some q=>
  have m1:=Bb e;cases e':fK l' k with
  |none=>exact absurd rfl (wE.1 e' _ ((h _).1 m1))
  |some q'=>have m2:=Bb e';have:=hf _ ((h _).1 m1) _ m2 rfl;have:q.2=q'.2:=(Prod.mk.inj this).2;simp[this]
theorem SZ{H:Type}{enc:TypeId×Value->H}{P:Program}{w:World}{base:Nat}{sp:Nat->Bool}{t k e:TypeId}(ht:P.underlying t=some (.map k e)){fuel:Nat}{cs:List Value}{S:List (Lit×DataW H)}{ps:List MemPlace}(h:DataW.trod enc P w base sp true fuel t cs=some (.map S,ps)):
  ∃b es clock n entries,cs=[.map (some b)]/\w.heap[b]? =some (.map es clock)/\es.all (·.born<clock)=true/\(es.toList.map (·.born)).eraseDups.length=es.size/\
   es.toList.mapM (λx=>(keyOf P k x.key).bind λkey=>if x.val.formed P e=true then(DataW.trod enc P w base sp true n e x.val.cells.toList).map λy=>((key,y.1),y.2)else none)=some entries/\(entries.map (·.1)).foldr DataW.insert []=S:=by
 cases fuel with
 |zero=>simp[DataW.trod]at h
 |succ n=>
  have h0:=h;rw[DataW.trod_step]at h;unfold DataW.trodStep at h;rw[ht]at h;split at h<;>try (simp_all;done)
  rename_i k' e' b hkk;have hke:k=k'/\e=e':=by simpa using hkk
  obtain⟨rfl,rfl⟩:=hke;clear h;rw[DataW.trod_step]at h0;unfold DataW.trodStep at h0;cases hb:w.heap[b]? with
  |none=>simp[ht,hb]at h0
  |some o=>
   cases o
   case map es clock=>
    simp only[ht,hb]at h0;split at h0
    ·rename_i hc
     obtain⟨_,_,U1,tB⟩:=hc;simp only[Option.bind_eq_some_iff]at h0;obtain⟨entries,hm,h3⟩:=h0;split at h3
     ·simp only[Option.some.injEq,Prod.mk.injEq,DataW.map.injEq]at h3
      exact⟨b,es,clock,n,entries,rfl,hb,U1,tB,hm,h3.1⟩
     ·cases h3
    ·cases h0
   all_goals (simp[ht,hb]at h0;done)
theorem NW{P:Program}{w:World}{base:Nat}{sp:Nat->Bool}{t k e:TypeId}{kd:IntKind}{fs rs:Array TypeId}{va:Bool}(ht:P.underlying t=some (.map k e))(hk:P.underlying k=some (.int kd))(he:P.underlying e=some (.func fs rs va))
  {fuel:Nat}{cs:List Value}{ps:List MemPlace}(T:List (Int×FuncId))(nm:FuncId->UInt8×List UInt8)
  (h:DataW.trod (funcToken P) P w base sp true fuel t cs=some (.map (T.map λx=>(.int kd x.1, .held ((nm x.2).1::(nm x.2).2))),ps))
  (hone:∀x∈T,((List.range P.funcs.size).filter λf=>(P.funcs[f]?).any (·.name.toUTF8.data.toList==(nm x.2).1::(nm x.2).2))=[x.2]):
  ∃b l,cs=[.map (some b)]/\MpJ b kd (λv:Value=>v) l w/\∀x,x∈l↔x∈T.map λy=>(y.1,Value.func (.func y.2) #[] #[]):=by
 obtain⟨b,es,clock,n,entries,rfl,hb,U1,tB,hm,hs⟩:=SZ ht h;obtain⟨m1,m2⟩:=L7 hm;have hS:∀y,y∈entries.map (·.1)↔y∈T.map λx=>((Lit.int kd x.1:Lit),(DataW.held ((nm x.2).1::(nm x.2).2):DataW (List UInt8))):=λy=>by rw[← hs,LG]
 have key:∀x∈es.toList,∀y,(keyOf P k x.key).bind (λkey=>if x.val.formed P e=true then(DataW.trod (funcToken P) P w base sp true n e x.val.cells.toList).map λy=>((key,y.1),y.2)else none)=some y->∀t∈T,y.1=((Lit.int kd t.1:Lit),(DataW.held ((nm t.2).1::(nm t.2).2):DataW (List UInt8)))->x.key= .int kd t.1/\x.val= .func (.func t.2) #[] #[]:=by
  intro x hx y hy t' ht' hyt;simp only[Option.bind_eq_some_iff]at hy;obtain⟨lit,N7,h2⟩:=hy;split at h2
  ·rename_i YY
   simp only[Option.map_eq_some_iff]at h2;obtain⟨z,hz,rfl⟩:=h2;obtain⟨e1,e2⟩:=Prod.mk.inj hyt;subst e1;refine⟨?_,?_⟩
   ·unfold keyOf at N7
    rw[hk]at N7;unfold mapKey at N7;rw[hk]at N7;cases hxk:x.key<;>rw[hxk]at N7<;>simp at N7;obtain⟨⟨rfl,_⟩,rfl⟩:=N7;rfl
   ·obtain⟨z1,z2⟩:=z
    dsimp only at e2;subst e2;have hv:x.val.cells.toList=[x.val]:=by cases hxv:x.val<;>first|rfl|(rw[hxv]at YY;simp[Value.formed,he]at YY)
    rw[hv]at hz;exact func_of_trod he (hone t' ht') hz
  ·cases h2
 let l:List (Int×Value):=es.toList.map λx=>(match x.key with| .int _ i=>i|_ =>0,x.val);have hx:∀x∈es.toList,∃t∈T,x.key= .int kd t.1/\x.val= .func (.func t.2) #[] #[]:=λx hx=>by obtain⟨y,hy,hxy⟩:=m1 x hx;have:=(hS y.1).1 (List.mem_map_of_mem hy);obtain⟨t',ht',e1⟩:=List.mem_map.1 this;exact⟨t',ht',key x hx y hxy t' ht' e1.symm⟩
 refine⟨b,l,rfl,⟨es,clock,hb,⟨?_,?_,?_⟩⟩,λ_=>?_⟩
 ·rw[List.map_map]
  refine List.map_congr_left λx hx'=>?_;obtain⟨t',_,e1,_⟩:=hx x hx';simp[e1]
 ·intro x hx'
  have:=Array.all_eq_true_iff_forall_mem.1 U1 x (by simpa using hx');simpa using this
 ·exact Go.ChangeMaps.nodup_of_eraseDups _ (by rw[tB];simp)
 ·constructor
  ·intro hp
   obtain⟨x,hx',rfl⟩:=List.mem_map.1 hp;obtain⟨t',ht',e1,e2⟩:=hx x hx';exact List.mem_map.2 ⟨t',ht',by simp[e1,e2]⟩
  ·intro hp
   obtain⟨t',ht',rfl⟩:=List.mem_map.1 hp;have:=(hS _).2 (List.mem_map_of_mem (f:=λx=>((Lit.int kd x.1:Lit),(DataW.held ((nm x.2).1::(nm x.2).2):DataW (List UInt8)))) ht');obtain⟨y,hy,e1⟩:=List.mem_map.1 this;obtain⟨x,hx',hxy⟩:=m2 y hy;obtain⟨e2,e3⟩:=key x hx' y hxy t' ht' e1;exact List.mem_map.2 ⟨x,hx',by simp[e2,e3]⟩
end Go.Bw
