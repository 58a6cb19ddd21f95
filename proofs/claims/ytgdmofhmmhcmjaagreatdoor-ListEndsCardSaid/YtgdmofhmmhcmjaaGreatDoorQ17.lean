/- Part 17 of what a proof leans on; pruned and shortened by a program out of longer texts. -/
import Derived.Test.YtgdmofhmmhcmjaaGreatDoorQ16
namespace Go.Proofs.Z
open Go Go.Bw
section
variable {n:Nat} {S S':ae} {P P':aj} {M:ai} {Q Q':List Int} {t h:Int} {k:Nat} {a:Int}
theorem XM(hn:200<=n)(E:Mr n S P M Q t h k)(hb:0<=a/\a%8=0/\a+32<=(bC S k).eY)(hl:(bC S k).eY<=2048):mX n S P M Q t h a=some (wr .i64 (Wd S P k (a+16)),0,S,P,M,Q,t,h,a):=by unfold mX;rw[aq (yp hn E ⟨hb.1,by omega⟩ (by omega) ⟨by omega,by omega,by omega⟩),aZ,aZ]
theorem XN(C:Cw S P M Q)(k:Nat):(bC S k).eY<=2048:=by have hm:=(C.may k).hi;have hs:=(C.may k).gx.sum;omega
theorem WX(hn:200<=n)(E:Me n S P M Q t h k){x v:Int}(hx:0<=x/\x%8=0)(hv:0<=v/\v<18446744073709551616):∃P' e,gS n S P M Q t h x v=some (e,S,P',M,Q,t)/\Me n S P' M Q t h k:=by
 by_cases c:oe S k x
 ·obtain⟨P',f1,f2,_⟩:=E.put hn c hv
  exact⟨P',0,f1,f2⟩
 ·obtain⟨e,_,f1⟩:=WW hn E.cw E.Eh (x:=x) (v:=v) (λq=>c ⟨hx.1,hx.2,q.2⟩) hv
  exact⟨P,e,f1,E⟩
theorem P4{l:List Rn}(hl:pG l)(h:1<=bx l):∃v,HY l v 1:=by
 cases l with
 |nil=>exact absurd h (by simp[bx])
 |cons y r=>have:=hl.vg y (by simp);exact⟨y.At,⟨by omega,by omega,by omega⟩,λp h1 h2=>eB.2 (.inl (by omega))⟩
end
set_option maxRecDepth 100000 in
theorem acd{a0:List Int}(h0:∀x∈a0,0<=x/\x<=18446744073709551615){a1:Int}(h1: -9223372036854775808<=a1/\a1<=9223372036854775807):sY 20000 a0 a1=some true:=by
 unfold sY;rw[aq (agN (p:=64) ⟨by omega,by omega⟩),aq (show tQ 20000=some VX from rfl),show wr .u32 16=16 from rfl,aq (YS (q:=16) ⟨by omega,by omega⟩),aZ];obtain⟨S,P,e1,e2,e3,e4,e5,e6,e7⟩:=abh (p:=64) (q:=16) ⟨by omega,by omega⟩ ⟨by omega,by omega⟩;dsimp only;rw[aq e1,av (by rfl)];dsimp only;by_cases hg:30<(a0.length:Int)
 ·rw[aX (by simp;omega),rK (by rfl) Og]
  rfl
 rw[av (by simp;omega)];have hL:(bC S 0).eY=32:=by rw[e4,fK]
 have hR:(bC S 0).aK=[⟨0,1⟩]:=by rw[e4,fK]
 have hq:(S.dx.T.aT 0).fU=16:=by rw[e4,MU];rfl
 have hf:bx P.dF.l=63:=by have:=C6 (l:=[⟨0,64⟩]) (m:=P.dF.l) (x:=[⟨0,1⟩]) (Cg ⟨by omega,by omega,by omega⟩) e2.cw.Cz.Mu (Cg ⟨by omega,by omega,by omega⟩) (λp=>by rw[e6];simp only[eB,jb,or_false];omega) (λp hp=>by rw[e6]at hp;simp only[eB,jb,or_false];omega);simp only[pW]at this;omega
 refine Dk (λ(i:Int) (s:ae) (p:aj) (m:ai) (q:List Int) (t' h' a':Int)=>∃(j:Nat) (vs ns:List Int),i=(j:Int)/\j<=12/\m=bn/\q=[]/\t'=0/\h'=1/\a'=0/\Me 20000 s p bn [] 0 1 0/\Lr (Wd s p 0) (bC s 0).eY 0 vs ns []/\(s.dx.T.aT 0).fU=16/\bx (bC s 0).aK<=1+j/\bx p.dF.l+bx (bC s 0).aK=64) (λi _ _ _ _ _ _ _ =>((12:Int)-i).toNat) (λo=>o=some true) ?_ 20000 0 _ _ _ _ _ _ _ ⟨0,[],[],rfl,by omega,rfl,rfl,rfl,rfl,rfl,e2,by rw[hL];exact e7,hq,by rw[hR,pW];omega,by rw[hR,pW,hf];rfl⟩ (by omega);rintro kk i s p m q t' h' a' ⟨j,vs,ns,rfl,hj,rfl,rfl,rfl,rfl,rfl,E,R,hq,hs,ht⟩ ih;by_cases hc:j<12
 ·obtain⟨S',P',Q',e,f1,f2,f3,f4⟩:=U0 (by omega) E R (v:=(j:Int)) (by omega)
  have hQ:=f3.q rfl;subst hQ;have hp:=f3.pg rfl;rw[aX (by simp;omega),show wr .u64 (j:Int)=j from IntWalk.u64_in _ ⟨by omega,by omega⟩,aq f1];dsimp only;rcases f4 with⟨_,rfl,_,_,_,_,o1⟩|⟨rfl,ns',sp',g1,_,g3⟩
  ·rcases o1 with o|o
   ·omega
   ·obtain⟨v,hv⟩:=P4 f2.cw.Cz.Mu (by omega)
    exact absurd hv (o v)
  ·rcases g3 with⟨g,_⟩|⟨_,rfl,_,_,g4,g5⟩
   ·simp at g
   ·rw[av (by rfl),bD (by omega) (by omega)]
    refine ih _ _ _ _ _ _ _ _ ⟨j+1,_,ns',by omega,by omega,rfl,rfl,rfl,rfl,rfl,f2,g1,?_,?_,by omega⟩ (by omega)
    ·obtain⟨F,hF⟩:=f3.st
     rw[hF,MU,hq]
    ·cases hb:eJ (bC s 0) 16 8 with
     |true=>rw[g4 hb];omega
     |false=>rw[g5 hb];omega
 ·rw[av (by simp;omega)]
  have hb:0+32<=(bC s 0).eY:=R.hb.2.2.1;clear ih hs ht hq R e1 e2 e3 e4 e5 e6 e7;refine Dk (λ(i:Int) (s1:ae) (p:aj) (m:ai) (q:List Int) (t' h' a':Int)=>∃(j:Nat),i=(j:Int)/\j<=a0.length/\s1=s/\m=bn/\q=[]/\t'=0/\h'=1/\a'=0/\Me 20000 s p bn [] 0 1 0) (λi _ _ _ _ _ _ _ =>((a0.length:Int)-i).toNat) (λo=>o=some true) ?_ 20000 0 _ _ _ _ _ _ _ ⟨0,rfl,by omega,rfl,rfl,rfl,rfl,rfl,rfl,E⟩ (by omega);rintro kk i s1 p m q t' h' a' ⟨j,rfl,hj,rfl,rfl,rfl,rfl,rfl,rfl,E⟩ ih;by_cases hc:j<a0.length
  ·have hx:=h0 (a0.getD j default) (by rw[List.getD,aik hc];exact List.getElem_mem hc)
   obtain⟨P',e,f1,f2⟩:=WX (by omega) E (x:=8*(j:Int)) (v:=a0.getD j default) (by omega) (by omega);rw[aX (by simpa using hc),bR (jd (by omega) (by omega)),bD (x:=8*(j:Int)) (by omega) (by omega),aif,aq f1,bD (by omega) (by omega)];exact ih _ _ _ _ _ _ _ _ ⟨j+1,by omega,by omega,rfl,rfl,rfl,rfl,rfl,rfl,f2⟩ (by omega)
  ·rw[av (by simpa using hc)]
   have hb':(0:Int)<=0/\(0:Int)%8=0/\0+32<=(bC s1 0).eY:=⟨by omega,by omega,hb⟩;obtain⟨l,f,g1,g2,g3⟩:=YW (by omega) E hb';obtain⟨v,e,k1,k2,k3⟩:=Yl (by omega) E hb' h1;rw[aq (XM (by omega) E.mr hb' (XN E.cw 0))];dsimp only;rw[aq g1];dsimp only;rw[aq k1];dsimp only;rw[av,aq Og];by_cases Qx:f=0
   ·subst Qx
    obtain⟨w1,w2,d,w3⟩:=g2 rfl;rw[w1,bD (by omega) (by omega)];by_cases hr:0<=a1/\a1<(l.length:Int)
    ·obtain⟨d',q1⟩:=Oz w3 (j:=a1.toNat+1) (by omega)
     obtain⟨c,q2,q3⟩:=q1;obtain⟨q4,_⟩:=k3 hr.1 (by omega) (by omega) c d' q2 q3;subst q4;simp[hr.1,hr.2]
    ·obtain⟨q4,_⟩:=k2 (by rw[w1];exact hr)
     subst q4;simp;omega
   ·have:=g3 Qx
    subst this;simp[Qx]
end Go.Proofs.Z
namespace Go.Rw
open Go Go.Bw Go.RowKit
variable {G:Sg} {P:Program}
def Hsn(W w:World):Prop:=W.heap.size<=w.heap.size/\∀b,b<W.heap.size->w.heap[b]? =W.heap[b]?
theorem Yi{g:IntKind×List (Int×Nat)}{mb:Nat}{W w:World}(h:GlX g mb W)(hs:Hsn W w):GlX g mb w:=by
 obtain⟨h1,l,⟨es,clock,h2,h3⟩,h4⟩:=h;have keep:∀{b:Nat} {o:Obj},W.heap[b]? =some o->w.heap[b]? =some o:=λ{b o} hb=>(hs.2 b (aij.1 hb).1).trans hb;refine⟨?_,l,⟨es,clock,keep h2,h3⟩,h4⟩;unfold World.cell? at h1 ⊢;cases e:W.heap[0]? with
 |none=>rw[e]at h1;cases h1
 |some o=>rw[e]at h1;rw[keep e];exact h1
theorem abW{α:Type}{W:World}{v:Value}{L:cP α}[bf L]{xs:List α}(h:Fz (λw=>aO [] W w) v L xs):Fz (Hsn W) v L xs:=
 ⟨h.sl,λw hw=>Ro.bU (h.ro {w with os:=W.os,tape:=W.tape,output:=W.output} ⟨rfl,rfl,rfl,hw.1,λk hk _ =>hw.2 k hk⟩) (Nat.le_refl _) λ_ _ =>rfl⟩
theorem L4{ct:Ct P G}{W:World}{x:HI G ct.s}{y:HL G (aL ct.s.cJ)}{v:Value}{vs:List Value}(hz:ct.R x y)(hgl:∀g,G.gt=some g->∃mb,GlX g mb W)(hv:∀J:World->Prop,(∀w,J w->Hsn W w)->rl J (λ_ =>none) (ct.s.bl x).1 vs)(h0:(ct.s.bl x).2.1=[])(h1:(fj (λm=>m) ct.s.cJ y 0).2.1=[])
  (hro:ct.s.ro x=[])(hout:∀(J:World->Prop) (σ:aW) u us,rl J σ (fj (λm=>m) ct.s.cJ y 0).1 (u::us)->u=v):
  Calls P ct.s.k vs.toArray W λe W'=>e= .returned v/\aO [] W W':=by
 have nu:∀b,b∈List.range W.heap.size↔b<W.heap.size:=λb=>List.mem_range;generalize List.range W.heap.size=bs at nu;have hR:∀w,Hs [.ext bs (Hsn W)] w->Hsn W w:=λw h=>(h _ List.mem_cons_self).1 w (Nat.le_refl _) λ_ _ =>rfl;have hS:∀w,aO [] W w->Hs [.ext bs (Hsn W)] w:=λw h r hr=>by obtain rfl:=List.mem_singleton.1 hr;exact⟨λw' k1 k2=>⟨Nat.le_trans h.size k1,λb hb=>(k2 b ((nu b).2 hb)).trans (h.block b hb (by simp))⟩,λb hb=>Nat.lt_of_lt_of_le ((nu b).1 hb) h.size⟩
 have:=(yw (ct:=ct) (R:=[.ext bs (Hsn W)]) (mq:=[]) (ρ:=λ_ =>none) hz (λg hg=>by
  obtain⟨mb,h⟩:=hgl g hg;exact⟨mb,λw hw=>Yi h (hR w hw)⟩) (λJ hJ=>hv J λw hw=>hR w (hJ w hw)) h0 h1 (λJ _ r o e=>by rw[hro]at e;cases e) (λ_ _ =>rfl) hout).calls W (λw hw=>hS w (by simpa[br]using hw)) (bA.nil _ _ _)
 exact this.mono λe W' ⟨_,_,he,hs,_⟩=>⟨he,by simpa[br]using hs⟩
end Go.Rw
namespace Go.Bw
open Go Go.RowKit
theorem Lh{α β:Type}{f:α->Option β}:∀{l:List α} {m:List β},l.mapM f=some m->(∀x∈l,∃y∈m,f x=some y)/\∀y∈m,∃x∈l,f x=some y
 |[],m,h=>by rw[List.mapM_nil]at h;cases h;exact⟨λx h=>(nomatch h),λx h=>(nomatch h)⟩
 |x::l,m,h=>by
  rw[List.mapM_cons]at h;cases hx:f x with
  |none=>rw[hx]at h;cases h
  |some y=>
   rw[hx]at h;cases hl:l.mapM f with
   |none=>rw[hl]at h;cases h
   |some m'=>
    rw[hl]at h;cases h;obtain⟨h1,h2⟩:=Lh hl;refine⟨λz hz=>?_,λz hz=>?_⟩
    ·rcases List.mem_cons.1 hz with rfl|hz
     ·exact⟨y,by simp,hx⟩
     ·obtain⟨w,hw,he⟩:=h1 z hz;exact⟨w,by simp[hw],he⟩
    ·rcases List.mem_cons.1 hz with rfl|hz
     ·exact⟨x,by simp,hx⟩
     ·obtain⟨w,hw,he⟩:=h2 z hz;exact⟨w,by simp[hw],he⟩
theorem OQ{H:Type}{x y:Lit×DataW H}:∀{l:List (Lit×DataW H)},y∈DataW.insert x l↔y=x\/y∈l
 |[]=>by simp[DataW.insert]
 |z::l=>by
  unfold DataW.insert;split
  ·simp
  ·rw[List.mem_cons,OQ,List.mem_cons]
   constructor
   ·rintro(h|h|h)
    ·exact .inr (.inl h)
    ·exact .inl h
    ·exact .inr (.inr h)
   ·rintro(h|h|h)
    ·exact .inr (.inl h)
    ·exact .inl h
    ·exact .inr (.inr h)
theorem KW{H:Type}{y:Lit×DataW H}:∀{l:List (Lit×DataW H)},y∈l.foldr DataW.insert []↔y∈l
 |[]=>Iff.rfl
 |x::l=>by rw[List.foldr_cons,OQ,KW,List.mem_cons]
theorem vY{β:Type}:∀{l:List (Int×β)} {k:Int},fG l k=none↔∀x∈l,x.1≠k
 |[],k=>⟨λ_ x h=>(nomatch h),λ_ =>rfl⟩
 |p::l,k=>by
  unfold fG;cases h:k==p.1 with
  |true=>
   have:k=p.1:=by simpa using h
   exact⟨λh=>by simp at h,λh2=>absurd this.symm (h2 p (by simp))⟩
  |false=>
   have hn:¬k=p.1:=by simpa using h
   simp only[cond_false,Option.map_eq_none_iff];rw[vY];exact⟨λh2 x hx=>by
    rcases List.mem_cons.1 hx with rfl|hx
    ·exactλe=>hn e.symm
    ·exact h2 x hx,λh2 x hx=>h2 x (by simp[hx])⟩
theorem AI{β:Type}:∀{l:List (Int×β)} {k:Int} {q:Nat×β},fG l k=some q->(k,q.2)∈l
 |[],k,q,h=>by cases h
 |p::l,k,q,h=>by
  unfold fG at h;cases e:k==p.1 with
  |true=>
   have:k=p.1:=by simpa using e
   rw[e]at h;simp only[cond_true,Option.some.injEq]at h;subst h;subst this;simp
  |false=>rw[e]at h;simp only[cond_false,Option.map_eq_some_iff]at h;obtain⟨a,ha,rfl⟩:=h;have:=AI ha;exact ain _ this
theorem Nj{β:Type}{l l':List (Int×β)}(h:∀x,x∈l↔x∈l')(hf:∀x∈l',∀y∈l',x.1=y.1->x=y)(k:Int)(z:β):nL l k z=nL l' k z/\po l k=po l' k:=by
 unfold nL po;cases e:fG l k with
 |none=>have:fG l' k=none:=vY.2 λx hx=>vY.1 e x ((h x).2 hx);rw[this];exact⟨rfl,rfl⟩
 |some q=>
  have m1:=AI e;cases e':fG l' k with
  |none=>exact absurd rfl (vY.1 e' _ ((h _).1 m1))
  |some q'=>have m2:=AI e';have:=hf _ ((h _).1 m1) _ m2 rfl;have:q.2=q'.2:=(Prod.mk.inj this).2;simp[this]
theorem R4{H:Type}{enc:TypeId×Value->H}{P:Program}{w:World}{base:Nat}{sp:Nat->Bool}{t k e:TypeId}(ht:P.underlying t=some (.map k e)){fuel:Nat}{cs:List Value}{S:List (Lit×DataW H)}{ps:List MemPlace}(h:DataW.trod enc P w base sp true fuel t cs=some (.map S,ps)):
  ∃b es clock n entries,cs=[.map (some b)]/\w.heap[b]? =some (.map es clock)/\es.all (·.born<clock)=true/\(es.toList.map (·.born)).eraseDups.length=es.size/\
   es.toList.mapM (λx=>(keyOf P k x.key).bind λkey=>if x.val.formed P e=true then(DataW.trod enc P w base sp true n e x.val.cells.toList).map λy=>((key,y.1),y.2)else none)=some entries/\(entries.map (·.1)).foldr DataW.insert []=S:=by
 cases fuel with
 |zero=>simp[DataW.trod]at h
 |succ n=>
  have h0:=h;rw[DataW.trod_step]at h;unfold DataW.trodStep at h;rw[ht]at h;split at h<;>try (simp_all;done)
  rename_i k' e' b hkk;have hke:k=k'/\e=e':=by simpa using hkk
  obtain⟨rfl,rfl⟩:=hke;clear h;rw[DataW.trod_step]at h0;unfold DataW.trodStep at h0;cases hb:w.heap[b]? with
  |none=>simp[ht,hb]at h0
  |some o=>
   cases o
   case map es clock=>
    simp only[ht,hb]at h0;split at h0
    ·rename_i hc
     obtain⟨_,_,Uj,uF⟩:=hc;simp only[Option.bind_eq_some_iff]at h0;obtain⟨entries,hm,h3⟩:=h0;split at h3
     ·simp only[Option.some.injEq,Prod.mk.injEq,DataW.map.injEq]at h3
      exact⟨b,es,clock,n,entries,rfl,hb,Uj,uF,hm,h3.1⟩
     ·cases h3
    ·cases h0
   all_goals (simp[ht,hb]at h0;done)
theorem Nm{P:Program}{w:World}{base:Nat}{sp:Nat->Bool}{t k e:TypeId}{kd:IntKind}{fs rs:Array TypeId}{va:Bool}(ht:P.underlying t=some (.map k e))(hk:P.underlying k=some (.int kd))(he:P.underlying e=some (.func fs rs va))
  {fuel:Nat}{cs:List Value}{ps:List MemPlace}(T:List (Int×FuncId))(nm:FuncId->UInt8×List UInt8)
  (h:DataW.trod (funcToken P) P w base sp true fuel t cs=some (.map (T.map λx=>(.int kd x.1, .held ((nm x.2).1::(nm x.2).2))),ps))
  (hone:∀x∈T,((List.range P.funcs.size).filter λf=>(P.funcs[f]?).any (·.name.toUTF8.data.toList==(nm x.2).1::(nm x.2).2))=[x.2]):
  ∃b l,cs=[.map (some b)]/\MpJ b kd (λv:Value=>v) l w/\∀x,x∈l↔x∈T.map λy=>(y.1,Value.func (.func y.2) #[] #[]):=by
 obtain⟨b,es,clock,n,entries,rfl,hb,Uj,uF,hm,hs⟩:=R4 ht h;obtain⟨m1,m2⟩:=Lh hm;have hS:∀y,y∈entries.map (·.1)↔y∈T.map λx=>((Lit.int kd x.1:Lit),(DataW.held ((nm x.2).1::(nm x.2).2):DataW (List UInt8))):=λy=>by rw[← hs,KW]
 have key:∀x∈es.toList,∀y,(keyOf P k x.key).bind (λkey=>if x.val.formed P e=true then(DataW.trod (funcToken P) P w base sp true n e x.val.cells.toList).map λy=>((key,y.1),y.2)else none)=some y->∀t∈T,y.1=((Lit.int kd t.1:Lit),(DataW.held ((nm t.2).1::(nm t.2).2):DataW (List UInt8)))->x.key= .int kd t.1/\x.val= .func (.func t.2) #[] #[]:=by
  intro x hx y hy t' ht' hyt;simp only[Option.bind_eq_some_iff]at hy;obtain⟨lit,Ns,h2⟩:=hy;split at h2
  ·rename_i X8
   simp only[Option.map_eq_some_iff]at h2;obtain⟨z,hz,rfl⟩:=h2;obtain⟨e1,e2⟩:=Prod.mk.inj hyt;subst e1;refine⟨?_,?_⟩
   ·unfold keyOf at Ns
    rw[hk]at Ns;unfold mapKey at Ns;rw[hk]at Ns;cases hxk:x.key<;>rw[hxk]at Ns<;>simp at Ns;obtain⟨⟨rfl,_⟩,rfl⟩:=Ns;rfl
   ·obtain⟨z1,z2⟩:=z
    dsimp only at e2;subst e2;have hv:x.val.cells.toList=[x.val]:=by cases hxv:x.val<;>first|rfl|(rw[hxv]at X8;simp[Value.formed,he]at X8)
    rw[hv]at hz;exact func_of_trod he (hone t' ht') hz
  ·cases h2
 let l:List (Int×Value):=es.toList.map λx=>(match x.key with| .int _ i=>i|_ =>0,x.val);have hx:∀x∈es.toList,∃t∈T,x.key= .int kd t.1/\x.val= .func (.func t.2) #[] #[]:=λx hx=>by obtain⟨y,hy,hxy⟩:=m1 x hx;have:=(hS y.1).1 (List.mem_map_of_mem hy);obtain⟨t',ht',e1⟩:=List.mem_map.1 this;exact⟨t',ht',key x hx y hxy t' ht' e1.symm⟩
 refine⟨b,l,rfl,⟨es,clock,hb,⟨?_,?_,?_⟩⟩,λ_=>?_⟩
 ·rw[List.map_map]
  refine List.map_congr_left λx hx'=>?_;obtain⟨t',_,e1,_⟩:=hx x hx';simp[e1]
 ·intro x hx'
  have:=Array.all_eq_true_iff_forall_mem.1 Uj x (by simpa using hx');simpa using this
 ·exact Go.ChangeMaps.nodup_of_eraseDups _ (by rw[uF];simp)
 ·constructor
  ·intro hp
   obtain⟨x,hx',rfl⟩:=List.mem_map.1 hp;obtain⟨t',ht',e1,e2⟩:=hx x hx';exact List.mem_map.2 ⟨t',ht',by simp[e1,e2]⟩
  ·intro hp
   obtain⟨t',ht',rfl⟩:=List.mem_map.1 hp;have:=(hS _).2 (List.mem_map_of_mem (f:=λx=>((Lit.int kd x.1:Lit),(DataW.held ((nm x.2).1::(nm x.2).2):DataW (List UInt8)))) ht');obtain⟨y,hy,e1⟩:=List.mem_map.1 this;obtain⟨x,hx',hxy⟩:=m2 y hy;obtain⟨e2,e3⟩:=key x hx' y hxy t' ht' e1;exact List.mem_map.2 ⟨x,hx',by simp[e2,e3]⟩
end Go.Bw
