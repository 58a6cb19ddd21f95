/- Part 9 of what a proof leans on; pruned and shortened by a program out of longer texts. -/
import Derived.Test.YtjabpidfkmhbbaaGreatDoorQ8
namespace Go.Rw
open Go Go.Bw Go.RowKit
variable {G:Sg} {P:Program} {N:Nat} {C:CC G} {ops:Array Oper} {A:List Nat} {ws:List (Nat×Nat)} {F0:Fr G} {D0:List (AV G)} {t:Tc G} {l:Array Bool}
structure Hy(P:Program)(N:Nat)(C:CC G)(ops:Array Oper)(A:List Nat)(ws:List (Nat×Nat))(F0:Fr G)(D0:List (AV G))(t:Tc G):Prop where
 hA:A=AJ ops ops.size
 R2:ws=uQ 0 ops.toList
 hW:I9 A ws ws=true
 st:∀q o,ops[q]? =some o->fb P N C ops A ws F0 D0 t o q
 g0:∀d j w x,cu (t.T 0).F d=some (.gd j w x)->∀q,(q,j)∉ws
def Cl(ops:Array Oper)(l:Array Bool):Prop:=∀j,dn l j->∀k∈vT ops j,dn l k
theorem Hy.mem(h:Hy P N C ops A ws F0 D0 t){q d:Nat}:(q,d)∈ws↔∃o,ops[q]? =some o/\o.dst=some d:=by rw[h.R2,Mt];simp
theorem Hy.Iw(h:Hy P N C ops A ws F0 D0 t)(pG:Cl ops l){i j:Nat}(hb:jB A i j=true)(hi:∀k∈vT ops i,dn l k):dn l j:=by rw[h.hA]at hb;exact Ta pG _ _ _ hb hi
theorem Hy.F'(h:Hy P N C ops A ws F0 D0 t){q:Nat}(hq:q<ops.size):(t.T (q+1)).F=t.pr q++(t.T q).F:=by
 have:=h.st q _ (Array.getElem?_eq_getElem hq);unfold fb at this;split at this
 ·exact this.F'
 ·rw[this.1,this.2];rfl
theorem Hy.pr(h:Hy P N C ops A ws F0 D0 t){q:Nat}(hq:q<ops.size):t.pr q=[]\/∃d v,t.pr q=[(d,v)]/\(q,d)∈ws/\∀j w x,v= .gd j w x->JB A q j ws=true:=by
 have ho:ops[q]? =some ops[q]:=Array.getElem?_eq_getElem hq;have:=h.st q _ ho;unfold fb at this;split at this
 ·rcases this.pk with⟨_,e⟩|⟨d,v,e1,e2,_,e3⟩
  ·exact .inl e
  ·exact .inr ⟨d,v,e2,h.mem.2 ⟨_,ho,e1⟩,e3⟩
 ·exact .inl this.2
theorem xX{q d:Nat}{F:Fr G}(h:Hy P N C ops A ws F0 D0 t)(hq:q<ops.size)(hd:(q,d)∉ws):cu (t.pr q++F) d=cu F d:=by
 rcases h.pr hq with e|⟨d',v,e,hm,_⟩
 ·rw[e];rfl
 ·rw[e]
  simp only[List.cons_append,List.nil_append,cu];cases hb:Nat.beq d' d with
  |true=>rw[aa7 hb]at hm;exact absurd hm hd
  |false=>rfl
def FL(t:Tc G)(l:Array Bool):Nat->Fr G
 |0=>(t.T 0).F
 |q+1=>(bif l.getD q false then t.pr q else[])++FL t l q
theorem vt{q:Nat}(h:¬dn l q):FL t l (q+1)=FL t l q:=by
 unfold dn at h;show(bif l.getD q false then t.pr q else[])++FL t l q=_;cases hb:l.getD q false with
 |true=>rw[hb]at h;exact absurd rfl h
 |false=>rfl
theorem wH{q:Nat}(h:dn l q):FL t l (q+1)=t.pr q++FL t l q:=by unfold dn at h;show(bif l.getD q false then t.pr q else[])++FL t l q=_;rw[h];rfl
theorem Hy.bp(h:Hy P N C ops A ws F0 D0 t)(pG:Cl ops l){i d:Nat}(hi:i<ops.size)(hrd:∀k∈vT ops i,dn l k)(qJ:¬dn l i)(hv:wR A i d ws=true):cu (FL t l ops.size) d=cu (t.T i).F d:=by
 have p1:∀q,q<=i->cu (FL t l q) d=cu (t.T q).F d:=by
  intro q
  induction q with
  |zero=>intro _;rfl
  |succ q ih=>
   intro hq;have ih:=ih (by omega);rw[h.F' (by omega)];by_cases hd:(q,d)∈ws
   ·rcases Ke hv q hd with e|⟨_,e⟩|⟨e,_⟩
    ·omega
    ·rw[wH (h.Iw pG e hrd),gA,gA,ih]
    ·omega
   ·rw[xX h (by omega) hd]
    by_cases BI:dn l q
    ·rw[wH BI,xX h (by omega) hd];exact ih
    ·rw[vt BI];exact ih
 have p2:∀k,i+k<=ops.size->cu (FL t l (i+k)) d=cu (FL t l i) d:=by
  intro k
  induction k with
  |zero=>intro _;rfl
  |succ k ih=>
   intro hk;have ih:=ih (by omega);rw[← ih];show cu (FL t l (i+k+1)) d=_;by_cases BI:dn l (i+k)
   ·rw[wH BI]
    refine xX h (by omega) λhd=>?_;rcases Ke hv _ hd with e|⟨e,_⟩|⟨_,e⟩
    ·rw[e]at BI;exact qJ BI
    ·omega
    ·exact qJ (h.Iw pG e (pG _ BI))
   ·rw[vt BI]
 have:=p2 (ops.size-i) (by omega);rw[show i+(ops.size-i)=ops.size from by omega]at this;rw[this,p1 i (Nat.le_refl _)]
theorem Hy.eH(h:Hy P N C ops A ws F0 D0 t)(hs:l.size=ops.size)(pG:Cl ops l){i d:Nat}(hi:i<ops.size)(qJ:¬dn l i):
  ((i,d)∉ws->cu (FL t (l.setIfInBounds i true) ops.size) d=cu (FL t l ops.size) d)/\((i,d)∈ws->∀v,cu (FL t (l.setIfInBounds i true) ops.size) d=some v->t.pr i=[]\/(d,v)∈t.pr i):=by
 have w8:i<l.size:=by omega
 have off:∀q,q≠i->(dn (l.setIfInBounds i true) q↔dn l q):=λq hq=>by rw[dR w8];simp[hq]
 refine⟨λhd=>?_,λhd v hv=>?_⟩
 ·have key:∀q,q<=ops.size->cu (FL t (l.setIfInBounds i true) q) d=cu (FL t l q) d:=by
   intro q
   induction q with
   |zero=>intro _;rfl
   |succ q ih=>
    intro hq;have ih:=ih (by omega);by_cases e:q=i
    ·subst e
     rw[wH ((dR w8).2 (.inr rfl)),vt qJ,xX h hi hd];exact ih
    ·by_cases BI:dn l q
     ·rw[wH ((off q e).2 BI),wH BI,gA,gA,ih]
     ·rw[vt (λx=>BI ((off q e).1 x)),vt BI];exact ih
  exact key _ (Nat.le_refl _)
 ·have key:∀k,i+1+k<=ops.size->cu (FL t (l.setIfInBounds i true) (i+1+k)) d=cu (FL t (l.setIfInBounds i true) (i+1)) d:=by
   intro k
   induction k with
   |zero=>intro _;rfl
   |succ k ih=>
    intro hk;have ih:=ih (by omega);rw[← ih];show cu (FL t _ (i+1+k+1)) d=_;by_cases BI:dn (l.setIfInBounds i true) (i+1+k)
    ·rw[wH BI]
     refine xX h (by omega) λhm=>?_;have LL:=(off _ (by omega)).1 BI;exact qJ (h.Iw pG (Vu h.hW _ _ hm i hd (by omega)) (pG _ LL))
    ·rw[vt BI]
  have e:=key (ops.size-(i+1)) (by omega);rw[show i+1+(ops.size-(i+1))=ops.size from by omega]at e;rw[e,wH ((dR w8).2 (.inr rfl))]at hv;rcases h.pr hi with e|⟨d',v',e,hm,_⟩
  ·exact .inl e
  ·refine .inr ?_
   obtain⟨o1,h1,h2⟩:=h.mem.1 hm;obtain⟨o2,h3,h4⟩:=h.mem.1 hd;rw[h1]at h3;cases h3;rw[h2]at h4;cases h4;rw[e]at hv ⊢;simp only[List.cons_append,List.nil_append,cu,Nat.beq_refl,cond_true]at hv;cases hv;simp
theorem OI{α:Type}:∀{F:List (Nat×α)} {d:Nat} {v:α},cu F d=some v->(d,v)∈F:=by
 intro F
 induction F with
 |nil=>intro d v h;cases h
 |cons q r ih=>
  obtain⟨k,u⟩:=q;intro d v h;simp only[cu]at h;cases hb:Nat.beq k d with
  |true=>rw[hb]at h;cases h;rw[aa7 hb];simp
  |false=>rw[hb]at h;exact abj _ (ih h)
theorem Hy.gd(h:Hy P N C ops A ws F0 D0 t)(pG:Cl ops l){i:Nat}(qJ:¬dn l i){d j:Nat}{w:Bool}{x:AV G}(e:cu (FL t l ops.size) d=some (.gd j w x)):(i,j)∉ws:=by
 have s8:∀q,q<=ops.size->cu (FL t l q) d=some (.gd j w x)->cu (t.T 0).F d=some (.gd j w x)\/∃q',q'<ops.size/\dn l q'/\(d, .gd j w x)∈t.pr q':=by
  intro q
  induction q with
  |zero=>intro _ e;exact .inl e
  |succ q ih=>
   intro hq e;by_cases BI:dn l q
   ·rw[wH BI,gA]at e
    split at e
    ·rename_i v hv;cases e;exact .inr ⟨q,by omega,BI,OI hv⟩
    ·exact ih (by omega) e
   ·rw[vt BI]at e;exact ih (by omega) e
 intro hm;rcases s8 _ (Nat.le_refl _) e with e|⟨q,q1,q2,q3⟩
 ·exact h.g0 d j w x e i hm
 ·rcases h.pr q1 with e|⟨d',v',e,_,hb⟩
  ·rw[e]at q3;cases q3
  ·rw[e]at q3
   simp at q3;exact qJ (h.Iw pG (S7 (hb j w x q3.2.symm) i hm) (pG _ q2))
theorem Hy.sd(h:Hy P N C ops A ws F0 D0 t){q:Nat}(hq:q<ops.size)(hk:t.kd q= .d):XJ P N C ops A ws F0 D0 (ops[q]'hq) q (t.rd q) (t.ac q) (t.on q) (t.pr q) (t.T q) (t.T (q+1)):=by have:=h.st q _ (Array.getElem?_eq_getElem hq);unfold fb at this;rw[hk]at this;exact this
theorem Hy.un(h:Hy P N C ops A ws F0 D0 t){q:Nat}(hq:q<ops.size)(hk:t.kd q≠ .d):t.T (q+1)=t.T q/\t.pr q=[]:=by
 have:=h.st q _ (Array.getElem?_eq_getElem hq);unfold fb at this;split at this
 ·rename_i e;exact absurd e hk
 ·exact this
theorem Hy.lg(h:Hy P N C ops A ws F0 D0 t){q:Nat}(hk:t.kd q= .d):∀{i:Nat},i<=ops.size->q<i->(⟨q,t.rd q,t.ac q,fC (t.on q)⟩:Lg)∈(t.T i).lg:=by
 intro i
 induction i with
 |zero=>intro _ hq;omega
 |succ i ih=>
  intro hi hq;by_cases ki:t.kd i= .d
  ·rw[(h.sd (by omega) ki).lg']
   by_cases e:q=i
   ·subst e;exact List.mem_cons_self
   ·exact abj _ (ih (by omega) (by omega))
  ·rw[(h.un (by omega) ki).1]
   by_cases e:q=i
   ·subst e;exact absurd hk ki
   ·exact ih (by omega) (by omega)
theorem Hy.apart(h:Hy P N C ops A ws F0 D0 t){q i:Nat}(hi:i<ops.size)(hq:q<i)(kq:t.kd q= .d)(ki:t.kd i= .d)(hb:jB A i q≠true):(∀x∈t.ac q++fC (t.on q),x∉t.rd i++t.ac i)/\∀x∈t.ac i++fC (t.on i),x∉t.rd q++t.ac q:=by
 rcases Qc (h.sd hi ki).chk _ (h.lg kq (Nat.le_of_lt hi) hq)with e|e
 ·exact absurd e hb
 ·exact e
theorem jz{p:Nat->Bool}:∀{O O':Os G},bH p (O++O')=bH p O++bH p O':=by
 intro O
 induction O with
 |nil=>intro O';rfl
 |cons q r ih=>
  obtain⟨k,v⟩:=q;intro O';simp only[List.cons_append,bH];cases p k with
  |true=>simp only[cond_true,List.cons_append,ih]
  |false=>simp only[cond_false,ih]
theorem mR{p q:Nat->Bool}:∀{O:Os G},bH p (bH q O)=bH q (bH p O):=by
 intro O
 induction O with
 |nil=>rfl
 |cons x r ih=>obtain⟨k,v⟩:=x;cases hp:p k<;>cases hq:q k<;>simp[bH,hp,hq,ih]
theorem uO{p:Nat->Bool}:∀{O:Os G},(∀k∈fC O,p k=true)->bH p O=O:=by
 intro O
 induction O with
 |nil=>intro _;rfl
 |cons x r ih=>obtain⟨k,v⟩:=x;intro h;simp only[bH,h k (by simp[fC]),cond_true];rw[ih λk hk=>h k (by simp[fC,hk])]
theorem zy{p:Nat->Bool}:∀{O:Os G},(∀k∈fC O,p k=false)->bH p O=[]:=by
 intro O
 induction O with
 |nil=>intro _;rfl
 |cons x r ih=>obtain⟨k,v⟩:=x;intro h;simp only[bH,h k (by simp[fC]),cond_false];exact ih λk hk=>h k (by simp[fC,hk])
theorem Ds{p:Nat->Bool}:∀{O:Os G} {k:Nat},k∈fC (bH p O)->p k=true/\k∈fC O:=by
 intro O
 induction O with
 |nil=>intro k h;cases h
 |cons x r ih=>
  obtain⟨j,v⟩:=x;intro k h;simp only[bH]at h;cases hp:p j with
  |true=>
   rw[hp]at h;simp only[cond_true,fC,List.mem_cons]at h;rcases h with rfl|h
   ·exact⟨hp,by simp[fC]⟩
   ·exact⟨(ih h).1,by simp[fC,(ih h).2]⟩
  |false=>rw[hp]at h;exact⟨(ih h).1,by simp[fC,(ih h).2]⟩
theorem Jw{p:Nat->Bool}{O O':Os G}(h:O.Perm O'):(bH p O).Perm (bH p O'):=by
 induction h with
 |nil=>exact .refl _
 |cons x _ ih=>obtain⟨k,v⟩:=x;simp only[bH];cases p k with
  |true=>exact ih.cons _
  |false=>exact ih
 |swap x y l=>obtain⟨k,v⟩:=x;obtain⟨j,u⟩:=y;simp only[bH];cases p k<;>cases p j<;>first|exact .refl _ |exact .swap _ _ _
 |trans _ _ i1 i2=>exact i1.trans i2
theorem BS{p:Nat->Bool}:∀{O:Os G},(bH p O).Sublist O:=by
 intro O
 induction O with
 |nil=>exact .refl _
 |cons x r ih=>obtain⟨k,v⟩:=x;simp only[bH];cases p k with
  |true=>exact ih.cons_cons _
  |false=>exact ih.cons _
theorem Jv{p:Nat->Bool}{O O':Os G}(h:O.Sublist O'):(bH p O).Sublist (bH p O'):=by
 induction h with
 |slnil=>exact .refl _
 |cons x _ ih=>obtain⟨k,v⟩:=x;simp only[bH];cases p k with
  |true=>exact ih.cons _
  |false=>exact ih
 |cons_cons x _ ih=>obtain⟨k,v⟩:=x;simp only[bH];cases p k with
  |true=>exact ih.cons_cons _
  |false=>exact ih
theorem yc{l:List Nat}{k:Nat}(h:k∉l):bZ l k=false:=by
 cases hb:bZ l k with
 |false=>rfl
 |true=>exact absurd (uC.1 hb) h
theorem Fp{z ac:List Nat}{O:Os G}(hz:∀x∈ac,x∉z):bH (bZ z) (bH (λr=> !bZ ac r) O)=bH (bZ z) O:=by rw[mR];refine uO λk hk=>?_;rw[yc λhm=>hz k hm (uC.1 (Ds hk).1)];rfl
def ML(t:Tc G)(l:Array Bool):Nat->Os G
 |0=>(t.T 0).M
 |q+1=>bif l.getD q false then(match t.kd q with
  | .d=>t.on q++bH (λr=> !bZ (t.ac q) r) (ML t l q)
  |_ =>ML t l q)else ML t l q
theorem pV{q:Nat}(h:¬dn l q):ML t l (q+1)=ML t l q:=by
 unfold dn at h;show(bif l.getD q false then _ else ML t l q)=_;cases hb:l.getD q false with
 |true=>rw[hb]at h;exact absurd rfl h
 |false=>rfl
theorem vr{q:Nat}(h:dn l q)(hk:t.kd q= .d):ML t l (q+1)=t.on q++bH (λr=> !bZ (t.ac q) r) (ML t l q):=by
 unfold dn at h;show(bif l.getD q false then(match t.kd q with
  | .d=>t.on q++bH (λr=> !bZ (t.ac q) r) (ML t l q)
  |_ =>ML t l q)else ML t l q)=_
 rw[h,hk];rfl
theorem TU(h:Hy P N C ops A ws F0 D0 t)(hd:∀q,q<ops.size->dn l q/\t.kd q= .d):∀q,q<=ops.size->ML t l q=(t.T q).M:=by
 intro q
 induction q with
 |zero=>intro _;rfl
 |succ q ih=>intro hq;obtain⟨h1,h2⟩:=hd q (by omega);rw[vr h1 h2,ih (by omega),(h.sd (by omega) h2).M']
theorem Hy.Vj(h:Hy P N C ops A ws F0 D0 t)(pG:Cl ops l){i:Nat}(z:List Nat)(hi:i<ops.size)(qJ:¬dn l i)(hrd:∀k∈vT ops i,dn l k)(Qs:∀q,q<ops.size->dn l q->t.kd q= .d)
  (h1:∀q,q<i->t.kd q= .d->jB A i q≠true->∀x∈t.ac q++fC (t.on q),x∉z)(h2:∀q,i<q->q<ops.size->dn l q->∀x∈t.ac q++fC (t.on q),x∉z):bH (bZ z) (ML t l ops.size)=bH (bZ z) (t.T i).M:=by
 have p1:∀q,q<=i->bH (bZ z) (ML t l q)=bH (bZ z) (t.T q).M:=by
  intro q
  induction q with
  |zero=>intro _;rfl
  |succ q ih=>
   intro hq;have ih:=ih (by omega);by_cases kq:t.kd q= .d
   case neg=>rw[(h.un (by omega) kq).1,pV λhd=>kq (Qs q (by omega) hd)];exact ih
   rw[(h.sd (by omega) kq).M'];by_cases hd:dn l q
   ·rw[vr hd kq,jz,jz,mR,ih,mR]
   ·rw[pV hd,ih,jz]
    have hb:jB A i q≠true:=λhb=>hd (h.Iw pG hb hrd);have hz:=h1 q (by omega) kq hb;rw[zy (O:=t.on q) λk hk=>yc (hz k (abd _ hk)),List.nil_append,Fp λx hx=>hz x (abe _ hx)]
 have p2:∀k,i+k<=ops.size->bH (bZ z) (ML t l (i+k))=bH (bZ z) (ML t l i):=by
  intro k
  induction k with
  |zero=>intro _;rfl
  |succ k ih=>
   intro hk;have ih:=ih (by omega);rw[← ih];show bH (bZ z) (ML t l (i+k+1))=_;by_cases hd:dn l (i+k)
   ·have hne:i<i+k:=by
     rcases Nat.eq_zero_or_pos k with e|e
     ·subst e;exact absurd hd qJ
     ·omega
    rw[vr hd (Qs _ (by omega) hd),jz];have hz:=h2 _ hne (by omega) hd;rw[zy (O:=t.on (i+k)) λk' hk'=>yc (hz k' (abd _ hk')),List.nil_append,Fp λx hx=>hz x (abe _ hx)]
   ·rw[pV hd]
 have:=p2 (ops.size-i) (by omega);rw[show i+(ops.size-i)=ops.size from by omega]at this;rw[this,p1 i (Nat.le_refl _)]
theorem Hy.VB(h:Hy P N C ops A ws F0 D0 t)(hs:l.size=ops.size)(pG:Cl ops l){i:Nat}(hi:i<ops.size)(qJ:¬dn l i)(Qs:∀q,q<ops.size->dn l q->t.kd q= .d)(ki:t.kd i= .d):(ML t (l.setIfInBounds i true) ops.size).Perm (t.on i++bH (λr=> !bZ (t.ac i) r) (ML t l ops.size)):=by
 have w8:i<l.size:=by omega
 have off:∀q,q≠i->(dn (l.setIfInBounds i true) q↔dn l q):=λq hq=>by rw[dR w8];simp[hq]
 have p1:∀q,q<=i->ML t (l.setIfInBounds i true) q=ML t l q:=by
  intro q
  induction q with
  |zero=>intro _;rfl
  |succ q ih=>
   intro hq;have ih:=ih (by omega);by_cases hd:dn l q
   ·rw[vr ((off q (by omega)).2 hd) (Qs q (by omega) hd),vr hd (Qs q (by omega) hd),ih]
   ·rw[pV λx=>hd ((off q (by omega)).1 x),pV hd,ih]
 have p2:∀k,i+1+k<=ops.size->(ML t (l.setIfInBounds i true) (i+1+k)).Perm (t.on i++bH (λr=> !bZ (t.ac i) r) (ML t l (i+1+k))):=by
  intro k
  induction k with
  |zero=>intro _;show(ML t _ (i+1)).Perm (_ ++bH _ (ML t l (i+1)));rw[vr ((dR w8).2 (.inr rfl)) ki,pV qJ,p1 i (Nat.le_refl _)]
  |succ k ih=>
   intro hk;have ih:=ih (by omega);show(ML t _ (i+1+k+1)).Perm (_ ++bH _ (ML t l (i+1+k+1)));by_cases hd:dn l (i+1+k)
   ·have kq:=Qs _ (by omega) hd
    have hb:jB A (i+1+k) i≠true:=λhb=>qJ (h.Iw pG hb (pG _ hd));obtain⟨a1,a2⟩:=h.apart (q:=i) (i:=i+1+k) (by omega) (by omega) ki kq hb;rw[vr ((off _ (by omega)).2 hd) kq,vr hd kq,jz];have e1:bH (λr=> !bZ (t.ac (i+1+k)) r) (t.on i)=t.on i:=uO λk' hk'=>by rw[yc λhm=>a1 k' (abd _ hk') (abd _ hm)];rfl
    have e2:bH (λr=> !bZ (t.ac i) r) (t.on (i+1+k))=t.on (i+1+k):=uO λk' hk'=>by rw[yc λhm=>a2 k' (abd _ hk') (abd _ hm)];rfl
    rw[e2];have ih2:=Jw (p:=λr=> !bZ (t.ac (i+1+k)) r) ih;rw[jz,e1,mR]at ih2;refine(List.Perm.append_left _ ih2).trans ?_;rw[← List.append_assoc, ← List.append_assoc];exact List.Perm.append_right _ List.perm_append_comm
   ·rw[pV λx=>hd ((off _ (by omega)).1 x),pV hd];exact ih
 have:=p2 (ops.size-(i+1)) (by omega);rwa[show i+1+(ops.size-(i+1))=ops.size from by omega]at this
theorem Hy.atP(h:Hy P N C ops A ws F0 D0 t)(pG:Cl ops l){j:Nat}{un:List Nat}(hj:j<ops.size)(qJ:¬dn l j)(hrd:∀k∈vT ops j,dn l k)(Qs:∀q,q<ops.size->dn l q->t.kd q= .d)(WS:∀q,q<j->t.kd q= .d)
  (h1:∀q,q<j->jB A j q=true\/(t.ac q=[]/\∀x∈fC (t.on q),x∈un))(h2:∀q,j<q->q<ops.size->dn l q->t.ac q=[]):(bH (λr=> !bZ un r) (t.T j).M).Sublist (ML t l ops.size):=by
 have D2:∀(O:Os G),bH (λr=> !bZ ([]:List Nat) r) O=O:=λO=>uO λk _ =>rfl;have p1:∀q,q<=j->bH (λr=> !bZ un r) (ML t l q)=bH (λr=> !bZ un r) (t.T q).M:=by
  intro q
  induction q with
  |zero=>intro _;rfl
  |succ q ih=>
   intro hq;have ih:=ih (by omega);have kq:=WS q (by omega);rw[(h.sd (by omega) kq).M'];rcases h1 q (by omega)with hb|⟨ea,hu⟩
   ·rw[vr (h.Iw pG hb hrd) kq,jz,jz,mR,ih,mR]
   ·have en:bH (λr=> !bZ un r) (t.on q)=[]:=zy λk hk=>by rw[uC.2 (hu k hk)];rfl
    rw[ea,D2,jz,en,List.nil_append];by_cases hd:dn l q
    ·rw[vr hd kq,ea,D2,jz,en,List.nil_append,ih]
    ·rw[pV hd,ih]
 have p2:∀k,j+k<=ops.size->(ML t l j).Sublist (ML t l (j+k)):=by
  intro k
  induction k with
  |zero=>intro _;exact .refl _
  |succ k ih=>
   intro hk;have ih:=ih (by omega);show(ML t l j).Sublist (ML t l (j+k+1));by_cases hd:dn l (j+k)
   ·have hne:j<j+k:=by
     rcases Nat.eq_zero_or_pos k with e|e
     ·subst e;exact absurd hd qJ
     ·omega
    rw[vr hd (Qs _ (by omega) hd),h2 _ hne (by omega) hd,D2];exact ih.trans (List.sublist_append_right _ _)
   ·rw[pV hd];exact ih
 have:=p2 (ops.size-j) (by omega);rw[show j+(ops.size-j)=ops.size from by omega]at this;rw[← p1 j (Nat.le_refl _)];exact BS.trans this
end Go.Rw
namespace Go.Rw
open Go Go.Bw Go.RowKit
variable {G:Sg} {P:Program} {N:Nat} {C:CC G} {ops:Array Oper} {A:List Nat} {ws:List (Nat×Nat)} {F0:Fr G} {D0:List (AV G)} {t:Tc G} {l:Array Bool}
theorem I7{a a':Act}{d:Nat}{dst:Option Tmp}{u:Value}{Df:List Deferred}(ha:a'=({a with defers:=Df}:Act).put dst u)(h:dst≠some d):a'.tmps[d]? =a.tmps[d]? :=by
 subst ha;cases dst with
 |none=>rfl
 |some e=>show(a.tmps.setIfInBounds e u)[d]? =_;rw[Array.getElem?_setIfInBounds,aa6 (λq=>h (by rw[q]))]
theorem Rq{J:World->Prop}{ρ:aP}{a a':Act}{dst:Option Tmp}{u x:Value}{Df:List Deferred}{v:AV G}(ha:a'=({a with defers:=Df}:Act).put dst u)(hn:∀j w y,v= .gd j w y->dst≠some j)(h:rf J ρ a.tmps v x):rf J ρ a'.tmps v x:=by
 subst ha;cases dst with
 |none=>exact h
 |some e=>exact DP h λj w y q hj=>hn j w y q (by rw[hj])
structure Iv(N:Nat)(C:CC G)(ops:Array Oper)(F0:Fr G)(D0:List (AV G))(t:Tc G)(c:Cx)(ρ0:aP)(J0:World->Prop)(HK X:List av)(n0:Nat)(l:Array Bool)(a:Act)(w:World):Prop where
 size:l.size=ops.size
 cl:Cl ops l
 kd:∀q,q<ops.size->dn l q->t.kd q= .d
 ex:∃(ρ:aP) (J:World->Prop) (Y:List av),ρ0.to ρ n0/\(∀w,J w->J0 w)/\Rl c N ρ J HK (Y++X) (⟨F0,[],D0⟩::C) ⟨FL t l ops.size,ML t l ops.size,(t.T ops.size).nx,[]⟩ a w/\
  ∀q,q<ops.size->¬dn l q->∀r,(t.T q).nx<=r->r<(t.T (q+1)).nx->ρ r=none
section
variable {c:Cx} {ρ0:aP} {J0:World->Prop} {HK X:List av} {n0 i:Nat} {a:Act} {w:World} {K:Act->World->Prop} {Q:Exit->Act->World->Prop}
theorem SZ(hs:l.size=ops.size)(pG:Cl ops l)(hi:i<ops.size)(hrd:∀k∈vT ops i,dn l k):Cl ops (l.setIfInBounds i true):=λj hj k hk=>by
 have w8:i<l.size:=by omega
 rcases(dR w8).1 hj with h|rfl
 ·exact(dR w8).2 (.inl (pG j h k hk))
 ·exact(dR w8).2 (.inl (hrd k hk))
theorem O8(h:Hy P N C ops A ws F0 D0 t)(hs:l.size=ops.size)(pG:Cl ops l)(hi:i<ops.size)(qJ:¬dn l i){o:Oper}(ho:ops[i]? =some o){nx:Nat}(hpk:TP A ws o i nx (t.pr i)){ρ ρ':aP}{J J':World->Prop}{a a':Act}{u2:Value}{Df:List Deferred}
  (ha:a'=({a with defers:=Df}:Act).put o.dst u2)(hJ:∀w,J' w->J w)(hle:ρ.le ρ')(hfs:l9 J ρ (FL t l ops.size) a.tmps)(hn:∀d v,(d,v)∈t.pr i->v.lt nx=true->∃u,a'.tmps[d]? =some u/\rf J' ρ' a'.tmps v u):l9 J' ρ' (FL t (l.setIfInBounds i true) ops.size) a'.tmps:=λd v e=>by
 obtain⟨m1,m2⟩:=h.eH (d:=d) hs pG hi qJ;by_cases hd:(i,d)∈ws
 ·obtain⟨o',h1,h2⟩:=h.mem.1 hd
  rw[ho]at h1;cases h1;rcases hpk with⟨e1,_⟩|⟨d',v',e1,e2,e3,_⟩
  ·rw[e1]at h2;cases h2
  ·rcases m2 hd v e with q|q
   ·rw[e2]at q;cases q
   ·have q2:=q
    rw[e2]at q2;simp at q2;exact hn d v q (by rw[q2.2];exact e3)
 ·rw[m1 hd]at e
  obtain⟨u,u1,u3⟩:=hfs d v e;refine⟨u,?_,Rq ha (λj w y q hj=>?_) ((u3.mono hJ).ext hle)⟩
  ·rw[I7 ha λq=>hd (h.mem.2 ⟨o,ho,q⟩)];exact u1
  ·subst q;exact h.gd pG qJ e (h.mem.2 ⟨o,ho,hj⟩)
theorem Hy.step(h:Hy P N C ops A ws F0 D0 t){i:Nat}(hi:i<ops.size):(t.T i).nx<=(t.T (i+1)).nx:=by
 by_cases hk:t.kd i= .d
 ·obtain⟨S1,_,_,_,e,e2,_⟩:=(h.sd hi hk).run
  rw[e2];exact e
 ·rw[(h.un hi hk).1];exact Nat.le_refl _
theorem Hy.VC(h:Hy P N C ops A ws F0 D0 t){i:Nat}:∀k,i+k<=ops.size->(t.T i).nx<=(t.T (i+k)).nx:=by
 intro k
 induction k with
 |zero=>intro _;exact Nat.le_refl _
 |succ k ih=>intro hk;exact Nat.le_trans (ih (by omega)) (h.step (i:=i+k) (by omega))
theorem Hy.le(h:Hy P N C ops A ws F0 D0 t){i j:Nat}(hij:i<=j)(hj:j<=ops.size):(t.T i).nx<=(t.T j).nx:=by have:=h.VC (i:=i) (j-i) (by omega);rwa[show i+(j-i)=j from by omega]at this
theorem Im{z ac:List Nat}{O:Os G}(hz:∀x∈ac,x∈z):bH (bZ ac) (bH (bZ z) O)=bH (bZ ac) O:=by rw[mR];refine uO λk hk=>uC.2 (hz k (uC.1 (Ds hk).1))
theorem RO.iu{J:World->Prop}{ρ:aP}{O O':Os G}(h:O.Perm O'):∀{H:List av},RO J ρ O H->∃H',H.Perm H'/\RO J ρ O' H':=by
 induction h with
 |nil=>intro H r;exact⟨H, .refl _,r⟩
 |cons x _ ih=>
  intro H r;cases r with
  |cons h k=>obtain⟨H',p,q⟩:=ih k;exact⟨_,p.cons _, .cons h q⟩
 |swap x y l=>
  intro H r;cases r with
  |cons h k=>cases k with
   |cons h2 k2=>exact⟨_, .swap _ _ _, .cons h2 (.cons h k2)⟩
 |trans _ _ i1 i2=>intro H r;obtain⟨H1,p1,q1⟩:=i1 r;obtain⟨H2,p2,q2⟩:=i2 q1;exact⟨H2,p1.trans p2,q2⟩
theorem RO.sub{J:World->Prop}{ρ:aP}{O O':Os G}(h:O'.Sublist O):∀{H:List av},RO J ρ O H->∃H',H'.Sublist H/\RO J ρ O' H':=by
 induction h with
 |slnil=>intro H r;exact⟨H, .refl _,r⟩
 |cons x _ ih=>
  intro H r;cases r with
  |cons h k=>obtain⟨H',p,q⟩:=ih k;exact⟨H',p.cons _,q⟩
 |cons_cons x _ ih=>
  intro H r;cases r with
  |cons h k=>obtain⟨H',p,q⟩:=ih k;exact⟨_,p.cons_cons _, .cons h q⟩
def aP.Jl(ρ:aP)(n:Nat):aP:=λr=>if r<n then ρ r else none
theorem aP.Eb{ρ:aP}{n r:Nat}(h:r<n):ρ.Jl n r=ρ r:=aa5 h
theorem aP.OW{ρ:aP}{n:Nat}:(ρ.Jl n).fr n:=λr hr=>aa6 (Nat.not_lt.2 hr)
theorem Qn(h:Hy P N C ops A ws F0 D0 t)(cl:Cl ops l)(hi:i<ops.size)(qJ:¬dn l i)(hrd:∀k∈vT ops i,dn l k){rd ac:List Nat}(hz:bH (bZ (rd++ac)) (ML t l ops.size)=bH (bZ (rd++ac)) (t.T i).M)
  (lC:tJ (t.T i).nx (RF F0 D0 (t.T i).M rd ac::C)=true)(lF:Lv (t.T i).nx (fK (λd=>wR A i d ws) (t.T i).F)=true)(lO:qO (t.T i).nx (bH (bZ ac) (t.T i).M)=true){ρ:aP}{J:World->Prop}{Y:List av}
  (hr:Rl c N ρ J HK (Y++X) (⟨F0,[],D0⟩::C) ⟨FL t l ops.size,ML t l ops.size,(t.T ops.size).nx,[]⟩ a w):
  ∃H2,RO J ρ (bH (λq=> !bZ ac q) (ML t l ops.size)) H2/\Rl c N (ρ.Jl (t.T i).nx) J (H2++HK) (Y++X) (RF F0 D0 (t.T i).M rd ac::C) ⟨fK (λd=>wR A i d ws) (t.T i).F,bH (bZ ac) (t.T i).M,(t.T i).nx,[]⟩ a w:=by
 have hag:∀r,r<(t.T i).nx->ρ.Jl (t.T i).nx r=ρ r:=λr hr=>aP.Eb hr;obtain⟨HS,q1,q3⟩:=hr.hp;obtain⟨H1,H2,k1,k2,k3⟩:=q1.NA (p:=bZ ac);have eac:bH (bZ ac) (ML t l ops.size)=bH (bZ ac) (t.T i).M:=by have:=congrArg (bH (bZ ac)) hz;rwa[Im λx hx=>abd _ hx,Im λx hx=>abd _ hx]at this
 have FV:RO J ρ (bH (bZ ac) (t.T i).M) H1:=by rw[← eac];exact k1
 have Sd:=z9 lC;have WR:=Lw lC;refine⟨H2,k2,hr.tm,?_,⟨hr.si.s,λq=>hr.si.n (yd q)⟩,λd v e=>?_,λy hy=>?_,λr o e=>?_,⟨H1,FV.da hag lO,?_⟩,hr.kn,aP.OW⟩
 ·exact DR.da hag hr.df Sd.2
 ·have e0:=e
  have e:cu (fK (λd=>wR A i d ws) (t.T i).F) d=some v:=e;rw[Io]at e;cases hb:wR A i d ws with
  |false=>rw[hb]at e;cases e
  |true=>rw[hb]at e;obtain⟨u,u1,u2⟩:=hr.fs d v ((h.bp cl hi hrd qJ hb).trans e);exact⟨u,u1,u2.da hag (Qh lF e0)⟩
 ·rcases List.mem_cons.1 hy with rfl|hy
  ·exact l9.da (F:=F0) hag (WR _ List.mem_cons_self) (hr.fc _ List.mem_cons_self)
  ·exact(hr.fc y (abj _ hy)).da hag (WR y (abj _ hy))
 ·have hlo:=Lu Sd.1 e
  have e:cu (bH (λq=>bZ rd q&& !bZ ac q) (t.T i).M++rh C) r=some o:=e;rw[gA]at e;split at e
  ·rename_i o' he
   cases e;rw[Eh]at he;cases hb:(bZ rd r&& !bZ ac r)with
   |false=>rw[hb]at he;cases he
   |true=>
    rw[hb]at he;simp only[aa8]at hb;have e2:=congrArg (λO=>cu O r) hz;simp only[Eh]at e2;rw[uC.2 (abe _ (uC.1 hb.1))]at e2;have e3:cu (bH (λq=> !bZ ac q) (ML t l ops.size)) r=some o:=by rw[Eh,hb.2];exact e2.trans he
    obtain⟨x,x1,x2⟩:=k2.lk e3;exact⟨x,abe _ x1,x2.da hag hlo⟩
  ·obtain⟨x,x1,x2⟩:=hr.kc r o e
   exact⟨x,abd _ x1,x2.da hag hlo⟩
 ·refine q3.iu ?_
  rw[List.append_assoc, ← List.append_assoc H1];exact k3.append_right _
theorem ZS(h:Hy P N C ops A ws F0 D0 t)(hv:Iv N C ops F0 D0 t c ρ0 J0 HK X n0 l a w)(h0:n0<=(t.T i).nx)(hi:i<ops.size)(qJ:¬dn l i)(hrd:∀k∈vT ops i,dn l k)(hk:t.kd i= .d)
  (hz:bH (bZ (t.rd i++t.ac i)) (ML t l ops.size)=bH (bZ (t.rd i++t.ac i)) (t.T i).M)(hK:∀a' w',Iv N C ops F0 D0 t c ρ0 J0 HK X n0 (l.setIfInBounds i true) a' w'->K a' w'):
  wpOpIn (FA c.ro) 0 P ops Q i K a w:=by
 have ho:ops[i]? =some ops[i]:=Array.getElem?_eq_getElem hi;have hsi:=h.sd hi hk;obtain⟨size,cl,kd,ρ,J,Y,hto,hJ,hr,hun⟩:=hv;obtain⟨H2,hro,hr'⟩:=Qn h cl hi qJ hrd hz hsi.lC hsi.lF hsi.lO hr;obtain⟨S1,hU,hD,hon,hn,hx',hpr⟩:=hsi.run;have hag:∀r,r<(t.T i).nx->ρ.Jl (t.T i).nx r=ρ r:=λr hr=>aP.Eb hr;have Sd:=z9 hsi.lC;have WR:=Lw hsi.lC;refine Lh ho (hU c _ J (H2++HK) (Y++X) a w (λe a' w'=>e= .normal/\∃(ρ':aP) (J':World->Prop) (Y':List av),(ρ.Jl (t.T i).nx).to ρ' (t.T i).nx/\(∀w,J' w->J w)/\Rl c N ρ' J' (H2++HK) (Y'++(Y++X)) (RF F0 D0 (t.T i).M (t.rd i) (t.ac i)::C) S1 a' w') hr' λρ' J' Y' a' w' me k1 k2 k3 k4=>⟨gE k3,ρ',J',Y',k1,k2,k4⟩) ?_ (λe a w he q=>absurd q.1 he);rintro a' w' ⟨_,ρ',J',Y',m1,m2,m3⟩ ⟨u2,Df,ha⟩;have w8:i<l.size:=by omega
 let ρ2:aP:=λr=>if(t.T i).nx<=r/\r<(t.T (i+1)).nx then ρ' r else ρ r
 have hle:ρ.le ρ2:=λr v e=>by
  show(if _ then _ else _)=_;by_cases hc:(t.T i).nx<=r/\r<(t.T (i+1)).nx
  ·rw[hun i hi qJ r hc.1 hc.2]at e;cases e
  ·rw[aa6 hc];exact e
 have Sy:∀r,r<(t.T (i+1)).nx->ρ2 r=ρ' r:=λr hr=>by
  show(if _ then _ else _)=_;by_cases hc:(t.T i).nx<=r
  ·rw[aa5 ⟨hc,hr⟩]
  ·rw[aa6 λq=>hc q.1,m1 r (by omega),hag r (by omega)]
 have Sw:∀r,r<(t.T i).nx->ρ2 r=ρ' r:=λr hr=>Sy r (Nat.lt_of_lt_of_le hr (h.step hi));have aak:∀r,r<(t.T i).nx->ρ2 r=ρ r:=λr hr=>by show(if _ then _ else _)=_;rw[aa6 (by omega)]
 obtain⟨NG,s1,s3⟩:=m3.hp;rw[hon]at s1;refine hK _ _ ⟨by simpa using size,SZ size cl hi hrd,λq hq hd=>?_,ρ2,J',Y'++Y,λr hr=>(aak r (by omega)).trans (hto r hr),λw q=>hJ w (m2 w q),?_,λq hq hd r r1 r2=>?_⟩
 ·rcases(dR w8).1 hd with hd|rfl
  ·exact kd q hq hd
  ·exact hk
 ·obtain⟨Hn,pn,rn⟩:=RO.iu (h.VB size cl hi qJ kd hk).symm ((s1.da Sy hsi.lN).app (hro.up m2 hle))
  refine⟨m3.tm,?_,⟨m3.si.s,hr.si.n⟩,?_,λy hy=>?_,λr o e=>?_,⟨Hn,rn,?_⟩,by rw[List.append_assoc];exact m3.kn,λr hr'=>?_⟩
  ·have:=m3.df
   rw[hD]at this;exact DR.da (n:=(t.T i).nx) Sw this Sd.2
  ·refine O8 h size cl hi qJ ho hsi.pk ha m2 hle hr.fs λd v hm hlt=>?_
   obtain⟨u,u1,u3⟩:=m3.fs d v (hpr d v hm);exact⟨u,u1,u3.da Sy hlt⟩
  ·rcases List.mem_cons.1 hy with rfl|hy
   ·exact l9.da (F:=F0) Sw (WR _ List.mem_cons_self) (m3.fc _ List.mem_cons_self)
   ·exact(m3.fc y (abj _ hy)).da Sw (WR y (abj _ hy))
  ·obtain⟨x,x1,x2⟩:=hr.kc r o e
   exact⟨x,x1,x2.up m2 hle⟩
  ·refine s3.iu ?_
   have:=pn.append_right (HK++((Y'++Y)++X));simpa[List.append_assoc]using this
  ·have hr':(t.T ops.size).nx<=r:=hr'
   have:(t.T (i+1)).nx<=(t.T ops.size).nx:=h.le (by omega) (Nat.le_refl _);show(if _ then _ else _)=_;rw[aa6 (by omega)];exact hr.fr r hr'
 ·have LL:¬dn l q:=λx=>hd ((dR w8).2 (.inl x))
  have hne:q≠i:=λx=>hd ((dR w8).2 (.inr x));show(if _ then _ else _)=_;have:¬((t.T i).nx<=r/\r<(t.T (i+1)).nx):=λ⟨x1,x2⟩=>by
   rcases Nat.lt_or_ge q i with hlt|hge
   ·have:=h.le (i:=q+1) (j:=i) hlt (Nat.le_of_lt hi);omega
   ·have:=h.le (i:=i+1) (j:=q) (by omega) (Nat.le_of_lt hq);omega
  rw[aa6 this];exact hun q hq LL r r1 r2
theorem OA{n:Nat}{O O':Os G}(h:O'.Sublist O):qO n O=true->qO n O'=true:=by
 induction h with
 |slnil=>exact id
 |cons x _ ih=>
  obtain⟨k,v⟩:=x;intro h;cases v<;>simp only[qO,aa8]at h
  ·exact ih h.2.2
  ·exact ih h.2
  ·exact ih h.2
  ·exact ih h.2
  ·exact ih h.2.2
 |cons_cons x _ ih=>
  obtain⟨k,v⟩:=x;intro h;cases v<;>simp only[qO,aa8]at h ⊢
  ·exact⟨h.1,h.2.1,ih h.2.2⟩
  ·exact⟨h.1,ih h.2⟩
  ·exact⟨h.1,ih h.2⟩
  ·exact⟨h.1,ih h.2⟩
  ·exact⟨h.1,h.2.1,ih h.2.2⟩
theorem ZR(h:Hy P N C ops A ws F0 D0 t)(hv:Iv N C ops F0 D0 t c ρ0 J0 HK X n0 l a w)(h0:n0<=(t.T i).nx)(hi:i<ops.size)(qJ:¬dn l i)(hrd:∀k∈vT ops i,dn l k){rd ac:List Nat}{v:AV G}{S':AS G}(hp:∀o,ops[i]? =some o->StP P N C ops A ws F0 D0 o i rd ac v (t.T i) S')(WS:∀q,q<i->t.kd q= .d)(hah:∀q,i<q->q<ops.size->yQ A i (rd++ac) t q)(hq:P0 c N C ρ0 J0 HK X n0 S' (.rE v) Q):
  wpOpIn (FA c.ro) 0 P ops Q i K a w:=by
 have ho:ops[i]? =some ops[i]:=Array.getElem?_eq_getElem hi;have hsi:=hp _ ho;obtain⟨S1,hU,hD,hn,rfl⟩:=hsi.run;obtain⟨size,cl,kd,ρ,J,Y,hto,hJ,hr,hun⟩:=hv;have hz:=h.Vj cl (rd++ac) hi qJ hrd kd (λq q1 _ hb=>by
  rcases Qc hsi.chk _ (h.lg (WS q q1) (Nat.le_of_lt hi) q1)with e|e
  ·exact absurd e hb
  ·exact e.1) (λq q1 q2 hd=>by
  rcases hah q q1 q2 with⟨_,e1,e2⟩|⟨e,_⟩
  ·rw[e1];exact e2
  ·rw[kd q q2 hd]at e;cases e)
 obtain⟨H2,hro,hr'⟩:=Qn h cl hi qJ hrd hz hsi.lC hsi.lF hsi.lO hr;have hat:=h.atP (un:=Q5 A i (t.T i).lg) cl hi qJ hrd kd WS (λq q1=>by
  have hm:=h.lg (WS q q1) (Nat.le_of_lt hi) q1;cases hb:jB A i q with
  |true=>exact .inl rfl
  |false=>
   rcases Vv hsi.chu _ hm with e|e
   ·have e:jB A i q=true:=e
    rw[hb]at e;cases e
   ·exact .inr ⟨e,Va _ hm hb⟩) (λq q1 q2 hd=>by
  rcases hah q q1 q2 with⟨_,e1,_⟩|⟨e,_⟩
  ·exact e1
  ·rw[kd q q2 hd]at e;cases e)
 obtain⟨HL,sl,rl⟩:=hro.sub (Jv (p:=λq=> !bZ ac q) hat);have Sd:=z9 hsi.lC;have OV:tJ (t.T i).nx C=true:=by have:=hsi.lC;simp only[tJ,aa8]at this;exact this.2.2.2
 refine Lh ho (hU c _ J (H2++HK) (Y++X) a w (λe a' w'=>e≠ .normal/\Q e a' w') hr' λρ' J' Y' a' w' me k1 k2 k3 k4=>⟨jA (by simp) k3,?_⟩) (λa w q=>absurd rfl q.1) (λe a w _ q=>q.2);have hag:∀r,r<(t.T i).nx->ρ' r=ρ r:=λr hr=>(k1 r hr).trans (aP.Eb hr);obtain⟨NG,s1,s3⟩:=k4.hp;refine hq ρ' J' (Y'++Y) a' w' me (λr hr=>(hag r (by omega)).trans (hto r hr)) (λw q=>hJ w (k2 w q)) k3 ?_;refine⟨k4.tm,?_,⟨k4.si.s,hr.si.n⟩,k4.fc _ List.mem_cons_self,λy hy=>k4.fc y (abj _ hy),λr o e=>?_,⟨NG++HL,s1.app ((rl.da hag (OA (BS.trans BS) hsi.lM)).up k2 (aP.le_refl _)),?_⟩,by rw[List.append_assoc];exact k4.kn,k4.fr⟩
 ·have:=k4.df
  rw[hD]at this;exact this
 ·obtain⟨x,x1,x2⟩:=hr.kc r o e
  exact⟨x,x1,(x2.da hag (Lu (z9 OV).1 e)).up k2 (aP.le_refl _)⟩
 ·refine s3.sub ?_
  have:((NG++HL)++(HK++((Y'++Y)++X))).Sublist ((NG++H2)++(HK++((Y'++Y)++X))):=(List.Sublist.append_left sl NG).append (.refl _);simpa[List.append_assoc]using this
theorem SD(h:Hy P N C ops A ws F0 D0 t)(hd:∀q,q<ops.size->dn l q):∀q,q<=ops.size->FL t l q=(t.T q).F:=by
 intro q
 induction q with
 |zero=>intro _;rfl
 |succ q ih=>intro hq;rw[wH (hd q (by omega)),h.F' (by omega),ih (by omega)]
theorem RT(h:Hy P N C ops A ws F0 D0 t)(hB:JP ops []=true){e:Ex G}{S':AS G}(hrun:QK P N C ops A ws F0 D0 ops.toList 0 t e S')(h0:n0<=(t.T 0).nx)(hq:P0 c N C ρ0 J0 HK X n0 S' e Q):∀(fuel:Nat) (l:Array Bool) (a:Act) (w:World),o9 ops l<=fuel->Iv N C ops F0 D0 t c ρ0 J0 HK X n0 l a w->wpAnyIn (FA c.ro) 0 P .any ops Q fuel l a w:=by
 have fin:∀(l:Array Bool) (a:Act) (w:World),Iv N C ops F0 D0 t c ρ0 J0 HK X n0 l a w->(∀q,q<ops.size->dn l q)->Q .normal a w:=by
  intro l a w hv hd;obtain⟨size,cl,kd,ρ,J,Y,hto,hJ,hr,_⟩:=hv;rcases hrun.2 with⟨rfl,rfl,hk⟩|⟨j,o,v,_,_,_,j2,j3,_⟩
  ·have hlen:0+ops.toList.length=ops.size:=by simp
   rw[hlen]at hq;rw[TU h (λq hq=>⟨hd q hq,kd q hq (hd q hq)⟩) _ (Nat.le_refl _),SD h hd _ (Nat.le_refl _)]at hr;refine hq ρ J Y a w .normal hto hJ trivial ?_;obtain⟨HS,q1,q3⟩:=hr.hp;refine⟨hr.tm,hr.df,⟨hr.si.s,hr.si.n⟩,λd v e=>?_,λy hy=>hr.fc y (abj _ hy),hr.kc,⟨HS,q1,q3⟩,hr.kn,hr.fr⟩;have e:cu ((t.T ops.size).F++F0) d=some v:=e;rw[gA]at e;split at e
   ·rename_i v' hv;cases e;exact hr.fs d _ hv
   ·exact hr.fc _ List.mem_cons_self d v e
  ·have hj:j<ops.size:=by
    have:=(List.getElem?_eq_some_iff.1 j2).1;simpa using this
   have:=kd j hj (hd j hj);rw[j3]at this;cases this
 intro fuel
 induction fuel with
 |zero=>
  intro l a w hu hv;have yq:∀i,i<ops.size->dn l i:=λi hi=>by unfold o9 at hu;have h0:(List.range ops.size).filter (λi=> !l.getD i false)=[]:=List.length_eq_zero_iff.1 (by omega);rw[List.filter_eq_nil_iff]at h0;have:=h0 i (by simpa using hi);simpa[dn]using this
  refine⟨?_,fin l a w hv yq⟩;cases hr:Region.ready .any ops l with
  |nil=>rfl
  |cons i r=>
   have:i∈Region.ready .any ops l:=by rw[hr];simp
   obtain⟨h1,h2,_⟩:=(Go.Bw.ri hv.size).1 this;exact absurd (yq i h1) h2
 |succ fuel ih=>
  intro l a w hu hv;refine⟨λhr=>fin l a w hv (FG hB hv.size hr),λi hi=>?_⟩;obtain⟨h1,h2,h3⟩:=(Go.Bw.ri hv.size).1 hi;have Yi:o9 ops (l.setIfInBounds i true)<=fuel:=by have:=Bl hv.size h1 h2;omega
  have hi0:n0<=(t.T i).nx:=Nat.le_trans h0 (h.le (Nat.zero_le _) (Nat.le_of_lt h1));have go:t.kd i= .d->wpOpIn (FA c.ro) 0 P ops Q i (wpAnyIn (FA c.ro) 0 P .any ops Q fuel (l.setIfInBounds i true)) a w:=by intro hk;refine ZS h hv hi0 h1 h2 h3 hk ?_ λa' w' Fe=>ih _ a' w' Yi Fe;refine h.Vj hv.cl _ h1 h2 h3 hv.kd (λq q1 kq hb=>(h.apart h1 q1 kq hk hb).1) λq q1 q2 hd=>?_;have hb:jB A q i≠true:=λhb=>h2 (h.Iw hv.cl hb (hv.cl _ hd));obtain⟨_,a2⟩:=h.apart q2 q1 hk (hv.kd q q2 hd) hb;exact a2
  have hlen:ops.toList.length=ops.size:=by simp
  rcases hrun.2 with⟨_,_,hk⟩|⟨j,o,v,rd,ac,_,j2,j3,rfl,j5,j6,j7⟩
  ·exact go (hk i (Nat.zero_le _) (by omega))
  ·rcases Nat.lt_trichotomy i j with hlt|rfl|hgt
   ·exact go (j6 i (Nat.zero_le _) hlt)
   ·refine ZR h hv hi0 h1 h2 h3 (v:=v) (S':=S') (λo' ho'=>?_) (λq q1=>j6 q (Nat.zero_le _) q1) (λq q1 q2=>j7 q q1 (by omega)) hq
    have j2:ops[i]? =some o:=by simpa using j2
    rw[ho']at j2;cases j2;exact j5
   ·rcases j7 i hgt (by omega)with⟨e,_⟩|⟨_,e⟩
    ·exact go e
    ·have hd:=h.Iw hv.cl e h3
     have hj:j<ops.size:=by omega
     have:=hv.kd j hj hd;rw[j3]at this;cases this
end
section
variable {Z:Type} {rec:WT G Z} {cp:List Nat} {z:Z} {K:Ex G->AS G->Option Z} {S:AS G}
theorem SS(bq:mE P rec){id:Nat}{ops:Array Oper}{tb:tD P G}(h:drR tb rec N cp C (.ops ops ops.toList) S K=some z):∃e S',K e S'=some z/\S.nx<=S'.nx/\US P N C (.code (.region id ops true)) S S' e:=by
 unfold drR at h;dsimp only at h;cases hb:(I9 (AJ ops ops.size) (uQ 0 ops.toList) (uQ 0 ops.toList)&&(JP ops []&&P.follows .mixedOrders))with
 |false=>rw[hb]at h;cases h
 |true=>
  rw[hb]at h;simp only[aa8]at hb;obtain⟨b1,b2,b3⟩:=hb;obtain⟨t,e,S',k1,k2,k3⟩:=Xn bq h;have hy:Hy P N C ops (AJ ops ops.size) (uQ 0 ops.toList) (fK (λd=> !(NN d (uQ 0 ops.toList))&& !Jo (uQ 0 ops.toList) S.F d) S.F) S.D t:=by
   refine⟨rfl,rfl,b1,λq o ho=>k3.1 q o (Nat.zero_le _) (by simpa using ho),λd j w x e q=>?_⟩;rw[k2]at e;have e:cu (fK (λd=>NN d (uQ 0 ops.toList)&& !Jo (uQ 0 ops.toList) S.F d) S.F) d=some (.gd j w x):=e;rw[Io]at e;cases hc:(NN d (uQ 0 ops.toList)&& !Jo (uQ 0 ops.toList) S.F d)with
   |false=>rw[hc]at e;cases e
   |true=>rw[hc]at e;simp only[cond_true]at e;simp only[aa8,Bool.not_eq_true']at hc;have:=hc.2;unfold Jo at this;rw[e]at this;exact U4 this q
  have FW:S.nx<=S'.nx:=by
   have h0:(t.T 0).nx=S.nx:=by rw[k2]
   rcases k3.2 with⟨_,rfl,_⟩|⟨j,o,v,rd,ac,_,j2,_,_,hp,_⟩
   ·have:=hy.le (Nat.zero_le _) (Nat.le_refl ops.size)
    simp only[Nat.zero_add,Array.length_toList]at this ⊢;omega
   ·have hj:j<ops.size:=by
     have:=(List.getElem?_eq_some_iff.1 j2).1;simpa using this
    have:=hy.le (Nat.zero_le j) (Nat.le_of_lt hj);obtain⟨S1,_,_,hn,rfl⟩:=hp.run;show S.nx<=S1.nx;omega
  refine⟨e,S',k1,FW,λc ρ J HK X a w Q hr hq=>?_⟩;refine wpIn_region_any b3 ?_;have hdn:∀j,¬dn (Array.replicate ops.size false) j:=λj h=>by unfold dn at h;simp only[Array.getD_eq_getD_getElem?,Array.getElem?_replicate]at h;split at h<;>simp at h
  have hle:S.nx<=(t.T ops.size).nx:=by have:=hy.le (Nat.zero_le _) (Nat.le_refl ops.size);rw[k2]at this;exact this
  refine RT hy b2 k3 (by rw[k2];exact Nat.le_refl _) hq ops.size _ a _ ?_ ⟨by simp,λj hj=>absurd hj (hdn j),λq _ hd=>absurd hd (hdn q),ρ,J,[],aP.b5 _ _,λ_ h=>h,?_,λq hq _ r r1 _ =>hr.fr r ?_⟩
  ·unfold o9
   exact Nat.le_trans (List.length_filter_le _ _) (by simp)
  ·have hF:FL t (Array.replicate ops.size false) ops.size=(t.T 0).F:=by
    have:∀q,FL t (Array.replicate ops.size false) q=(t.T 0).F:=by
     intro q
     induction q with
     |zero=>rfl
     |succ q ih=>rw[vt (hdn q),ih]
    exact this _
   have hM:ML t (Array.replicate ops.size false) ops.size=(t.T 0).M:=by
    have:∀q,ML t (Array.replicate ops.size false) q=(t.T 0).M:=by
     intro q
     induction q with
     |zero=>rfl
     |succ q ih=>rw[pV (hdn q),ih]
    exact this _
   rw[hF,hM];have e0:=k2;rw[k2];obtain⟨HS,q1,q3⟩:=hr.hp;refine⟨hr.tm,hr.df,⟨hr.si.s.drawn _,hr.si.n⟩,hr.fs.NA,λy hy=>?_,λr o e=>hr.kc r o e,⟨HS,q1,⟨λr hr=>q3.holds r hr,q3.own,q3.apart⟩⟩,hr.kn,λr hr'=>hr.fr r (Nat.le_trans hle hr')⟩;rcases List.mem_cons.1 hy with rfl|hy
   ·exact hr.fs.NA
   ·exact hr.fc y hy
  ·have:=hy.le (Nat.zero_le q) (Nat.le_of_lt hq)
   rw[k2]at this;exact Nat.le_trans this r1
end
end Go.Rw
namespace Go.Rw
open Go Go.Bw Go.RowKit
variable {G:Sg} {P:Program} {N:Nat} {C:CC G} {Z:Type}
theorem xW{S:AS G}{l:List (Src×Sh)}:(iE C S l).nx=S.nx:=by
 unfold iE;split
 ·exact rZ _ _
 ·rfl
theorem NR{cf:Cf}{S S3:AS G}{e:Ex G}(l:List (Src×Sh))(h:US P N C cf (iE C S l) S3 e):US P N C cf S S3 e:=by
 unfold iE at h;split at h
 ·exact xQ _ h
 ·exact h
theorem Rl.iE{c:Cx}{ρ:aP}{J:World->Prop}{HK X:List av}{S:AS G}{a:Act}{w:World}(l:List (Src×Sh))(h:Rl c N ρ J HK X C S a w):∃(J':World->Prop) (Y:List av),(∀w,J' w->J w)/\Rl c N ρ J' HK (Y++X) C (iE C S l) a w:=by
 unfold Go.Rw.iE;split
 ·exact h.uK _
 ·exact⟨J,[],λ_ h=>h,h⟩
def pO(N:Nat)(C:CC G):List Nat->AV G->AS G->Option (AS G)
 |[], .nil,S=>some S
 |p::ps, .cons v r,S=>match qD N C (some p) v S with
  |some S'=>bif wA v then pO N C ps r S' else none
  |none=>none
 |_,_,_ =>none
theorem Pn{z:Z}:∀{ps:List Nat} {v:AV G} {S:AS G} {k:AS G->Option Z},Dv N C ps v S k=some z->∃S',pO N C ps v S=some S'/\k S'=some z:=by
 intro ps
 induction ps with
 |nil=>intro v S k h;cases v<;>first|(exact⟨S,rfl,h⟩)|(simp[Dv]at h)
 |cons p ps ih=>
  intro v S k h;cases v<;>first|(simp[Dv]at h;done)|skip
  rename_i v' r;simp only[Dv]at h;split at h
  ·rename_i S2 hS
   cases hb:wA v' with
   |false=>rw[hb]at h;cases h
   |true=>rw[hb]at h;obtain⟨S3,k1,k2⟩:=ih h;exact⟨S3,by simp only[pO,hS,hb,cond_true];exact k1,k2⟩
  ·cases h
theorem MB:∀{ps:List Nat} {v:AV G} {S S':AS G},pO N C ps v S=some S'->S'.nx=S.nx:=by
 intro ps
 induction ps with
 |nil=>intro v S S' e;cases v<;>first|(simp[pO]at e;done)|(have e:S=S':=(by simpa[pO]using e);rw[e])
 |cons p ps ih=>
  intro v S S' e;cases v<;>first|(simp[pO]at e;done)|skip
  rename_i v r;simp only[pO]at e;split at e
  ·rename_i S2 hS
   cases hb:wA v with
   |false=>rw[hb]at e;cases e
   |true=>rw[hb]at e;exact(ih e).trans (jJ hS)
  ·cases e
theorem Rl.bind{c:Cx}{ρ:aP}{J:World->Prop}{HK X:List av}{w:World}:∀{ps:List Nat} {v:AV G} {S S':AS G} {a:Act} {us:List Value},Rl c N ρ J HK X C S a w->pO N C ps v S=some S'->rl J ρ v us->
  Rl c N ρ J HK X C S' {a with tmps:=(ps.zip us).foldl (λt q=>t.setIfInBounds q.1 q.2) a.tmps} w/\S'.nx=S.nx:=by
 intro ps
 induction ps with
 |nil=>
  intro v S S' a us h e hv;cases v<;>first|(simp[pO]at e;done)|skip
  have e:S=S':=by simpa[pO]using e
  subst e;exact⟨h,rfl⟩
 |cons p ps ih=>
  intro v S S' a us h e hv;cases v<;>first|(simp[pO]at e;done)|skip
  rename_i v r;simp only[pO]at e;split at e
  ·rename_i S2 hS
   cases hb:wA v with
   |false=>rw[hb]at e;cases e
   |true=>rw[hb]at e;obtain⟨u,us',rfl,h1,h2⟩:=hv;have hp:=h.put hS (HD h1 _);obtain⟨q1,q2⟩:=ih hp e h2;exact⟨q1,q2.trans (jJ hS)⟩
  ·cases e
theorem Fj{J:World->Prop}{ρ:aP}{A B:Fr G}{t:Array Value}(h:l9 J ρ A t)(k:l9 J ρ B t):l9 J ρ (A++B) t:=λd v e=>by
 rw[gA]at e;split at e
 ·rename_i v' hv;cases e;exact h d _ hv
 ·exact k d v e
theorem SE{J:World->Prop}{ρ:aP}{t:Array Value}:∀{C:CC G},FC J ρ C t->l9 J ρ (flF C) t:=by
 intro C
 induction C with
 |nil=>intro _ d v e;cases e
 |cons y r ih=>intro h;exact Fj (h y List.mem_cons_self) (ih λz hz=>h z (abj _ hz))
theorem Rl.KI{c:Cx}{ρ:aP}{J:World->Prop}{X B:List av}{d0:av}{l:Nat}{o o':Obj}{S:AS G}{a:Act}{w:World}(h:Rl c N ρ J (d0:: .obj l o::B) X C S a w)(ho:∀b,S8 b o->S8 b o')(hnm:∀es ck,o≠ .map es ck:=by intro _ _ h;cases h):
  Rl c N ρ J (d0:: .obj l o'::B) X C S a (w.putObj l o')/\w.heap[l]? =some o:=by
 obtain⟨HS,q1,q3⟩:=h.hp;have pm:∀x:av,(HS++((d0::x::B)++X)).Perm (x::(HS++(d0::(B++X)))):=λx=>by simpa using(List.perm_middle (a:=x) (l₁:=HS++[d0]) (l₂:=B++X))
 have q4:=q3.iu (pm _);have hm:av.obj l o∈(av.obj l o::(HS++(d0::(B++X)))):=List.mem_cons_self;have hd:w.heap[l]? =some o:=q4.holds _ hm;have hlt:=(abf.1 hd).1;have gN:aJ [l] w (w.putObj l o'):=⟨rfl,rfl,rfl,by simp[World.putObj],λk _ hk=>World.putObj_heap_other (by simpa using hk)⟩;have q5:=q4.set (k:=0) (r':= .obj l o') rfl gN.size (λj hj hne=>gN.block j hj hne) (World.putObj_heap_same hlt) h.si.s.size (λb' hb'=>by
  have e:b'=l:=by simpa[av.bK]using hb'
  subst e;exact⟨.inl (by simp[av.bK]),by rw[World.putObj];simpa using hlt⟩)
 refine⟨⟨h.tm,h.df,⟨h.si.s.store q4 hm (by simp[av.bK]) gN,h.si.n⟩,h.fs,h.fc,λr ob e=>?_,⟨HS,q1,q5.iu (pm _).symm⟩,h.kn,h.fr⟩,hd⟩;obtain⟨y,y1,y2⟩:=h.kc r ob e;rcases List.mem_cons.1 y1 with rfl|y1
 ·exact⟨_,List.mem_cons_self,y2⟩
 ·rcases List.mem_cons.1 y1 with rfl|y1
  ·refine⟨_,abj _ List.mem_cons_self,?_⟩
   cases ob with
   |bK T c=>obtain⟨_,_,_,e,_⟩:=y2;cases e
   |row _ _ _ _ =>obtain⟨_,_,_,e,_⟩:=y2;cases e
   |gm=>obtain⟨_,e⟩:=y2;cases e
   |fm _ _ _ =>obtain⟨_,es,ck,_,_,e,_⟩:=y2;cases e;exact absurd rfl (hnm es ck)
   |aux b=>obtain⟨n,x,m1,e,m3⟩:=y2;cases e;exact⟨_,_,m1,rfl,ho b m3⟩
  ·exact⟨y,abj _ (abj _ y1),y2⟩
inductive TL(P:Program)(N:Nat)(C':CC G)(ps:List Nat)(a b:Code)(g:FU)(base:Nat)(it:It P G):List it.B->HL G (aD (oA g.l))->Ex G->AS G->Prop
 |nil {e:HL G (aD (oA g.l))}:TL P N C' ps a b g base it [] e .gM (N2 g base e)
 |eH {y:it.B} {l:List it.B} {e e':HL G (aD (oA g.l))} {S2 S3 S4 Sf:AS G} {e1:Ex G} (hb:pO N C' ps (cZ (λm=>m) it.ys (it.en y) 0).1 (N2 g base e)=some S2) (h1:US P N C' (.code a) S2 S3 .gM) (n1:S2.nx<=S3.nx)
   (h2:US P N C' (.code b) S3 S4 .gM) (hg:BK C' (iE C' S4 g.l) g base=some e') (k:TL P N C' ps a b g base it l e' e1 Sf):TL P N C' ps a b g base it (y::l) e e1 Sf
 |stop {y:it.B} {l:List it.B} {e:HL G (aD (oA g.l))} {S2 S3 S4:AS G} {e1:Ex G} (hb:pO N C' ps (cZ (λm=>m) it.ys (it.en y) 0).1 (N2 g base e)=some S2) (h1:US P N C' (.code a) S2 S3 .gM) (n1:S2.nx<=S3.nx)
   (h2:US P N C' (.code b) S3 S4 e1) (he:e1= .ret\/∃i,e1= .exit i) (hD:S4.D=[]):TL P N C' ps a b g base it (y::l) e e1 S4
structure Gh(G:Sg)(L:List Ty) where
 e:HL G L
 ρ:aP
 J:World->Prop
 Y:List av
 HB:List av
structure T3(ρ3:aP)(base:Nat)(X1 L0:List av)(O:Os G)(nx:Nat){L:List Ty}(i:Gh G L):Prop where
 to:ρ3.to i.ρ base
 mJ:∀w,i.J w->Hs X1 w
 ro:RO i.J i.ρ O i.HB
 kn:JY G (i.Y++X1) i.J
 fr:i.ρ.fr nx
 ap:∀b∈aU (i.HB++(L0++i.Y)),b∉aU X1
theorem Vq{N:Nat}:∀{ps:List Nat},Uf N ps=true->ps.all (Nat.blt · N)=true:=by
 intro ps
 induction ps with
 |nil=>intro _;rfl
 |cons p r ih=>intro h;simp only[Uf,aa8]at h;simp only[List.all_cons,aa8];exact⟨h.1,ih h.2⟩
theorem Ab{bs:List Nat}{n0:Nat}{H X:List av}{w:World}(h:aX bs n0 H w)(hs:∀r∈X,r∈H):Hs X w:=λr hr=>⟨h.holds r (hs r hr),λb hb=>(h.own r (hs r hr) b hb).2⟩
theorem Kh{Uq:Operand}{ps:Array Nat}{a b:Code}{S S1:AS G}{it:It P G}{cap v:AV G}{x:HL G (aD it.qH)}{g1 g2:GS G}{g:FU}{x0:HL G (aD (oA g.l))}{l:List it.B}{e1:Ex G}{Sf:AS G}
  (JS:dV C S [] Uq=some (.fn (.func it.k) .nil cap))(Dn:jx it.qH cap ⟨[],S.O,S.nx⟩=some (x,g1))(hS1:iE C ⟨S.F,g1.O,g1.nx,S.D⟩ g.l=S1)(hv:y9 C ⟨S1.F,S1.O,S1.nx+2,S1.D⟩ g.l=some v)
  (Se:jx (oA g.l) v ⟨[],S1.O,S1.nx+2⟩=some (x0,g2))(b1:rV g.nm g2.th=true)(b2:rW (S1.nx+2) g.nm=true)(hn:it.n=ps.size)(hrd:Bx (rh C)=true)(hl:tJ (S1.nx+2) (Lt ps.toList a b C S1 g2.O)=true)
  (Sd:qO (S1.nx+2) g2.O=true)(OV:tJ (S1.nx+2) C=true)(hps:Uf N ps.toList=true)(hf:it.f x=some l)(ht:TL P N (Lt ps.toList a b C S1 g2.O) ps.toList a b g (S1.nx+2) it l x0 e1 Sf):
  US P N C (.code (.rangeFunc Uq ps a b)) S (I8 S1.nx S1 g2.O Sf) e1:=by
 intro c ρ J HK X ac w Q hr hq;obtain⟨fs,cs,e2,r1,r3⟩:=r7 ((bU hr (ch:=[]) (by simp)).ok _ _ JS);have r1:fs=[]:=r1;subst r1;obtain⟨HS,q1,q3⟩:=hr.hp;obtain⟨ρ2,JO,H1,k⟩:=BL Dn r3 q1 hr.fr;have kto:ρ.to ρ2 S.nx:=k.to;have Ff:ρ.le ρ2:=kto.le hr.fr;have Nv:Rl c N ρ2 J (JO++HK) X C ⟨S.F,g1.O,g1.nx,S.D⟩ ac w:=by
  refine⟨hr.tm,hr.df.up (λ_ h=>h) Ff,hr.si,hr.fs.up (λ_ h=>h) Ff,hr.fc.up (λ_ h=>h) Ff,λr o e=>?_,⟨H1,k.left,?_⟩,hr.kn,k.fr⟩
  ·obtain⟨y,y1,y2⟩:=hr.kc r o e
   exact⟨y,abd _ y1,y2.up (λ_ h=>h) Ff⟩
  ·have:=k.hp (HK++X) _ _ _ q3
   refine this.iu ?_;rw[List.append_assoc];exact List.perm_append_comm_assoc JO H1 _
 obtain⟨J1,Y1,mJ,h3⟩:=Nv.iE g.l;rw[hS1]at h3;have aai:S1.nx=g1.nx:=by rw[← hS1,xW]
 obtain⟨ρ3,Ye⟩:∃ρ3:aP,ρ3=(ρ2.set S1.nx (cj w.heap.size 0)).set (S1.nx+1) (cj (w.heap.size+1) 0):=⟨_,rfl⟩;have t3:ρ2.to ρ3 S1.nx:=by rw[Ye];exact(aP.jT ρ2 S1.nx _).trans (aP.jT _ (S1.nx+1) _) (by omega)
 have f3:ρ3.fr (S1.nx+2):=by rw[Ye];exact aP.wU (aP.wU h3.fr _) _
 have l3:ρ2.le ρ3:=t3.le h3.fr;have d3:ρ3 S1.nx=some (cj w.heap.size 0):=by rw[Ye];simp[aP.set]
 have o3:ρ3 (S1.nx+1)=some (cj (w.heap.size+1) 0):=by rw[Ye];simp[aP.set]
 have h4:Rl c N ρ3 J1 (JO++HK) (Y1++X) C ⟨S1.F,S1.O,S1.nx+2,S1.D⟩ ac w:=by obtain⟨JZ,s1,s3⟩:=h3.hp;exact⟨h3.tm,h3.df.up (λ_ h=>h) l3,h3.si,h3.fs.up (λ_ h=>h) l3,h3.fc.up (λ_ h=>h) l3,h3.Jh (λ_ h=>h) l3,⟨JZ,s1.up (λ_ h=>h) l3,s3⟩,h3.kn,f3⟩
 obtain⟨ρ',ρ5,HB,H',hto,ht5,BJ,hleft,_,hp,_,_,hfr⟩:=HW h4 hv Se b1 b2 (Nat.le_refl _) OV;have hto:ρ3.to ρ' (S1.nx+2):=hto;obtain⟨X1,Yp⟩:∃X1,X1=Y1++X:=⟨_,rfl⟩;have Ig:JY G X1 J1:=by rw[Yp];exact h4.kn
 rw[← Yp]at hp;have LU:∀{σ:aP} {J':World->Prop},ρ3.to σ (S1.nx+2)->(∀w,J' w->Hs X1 w)->RO J' σ g2.O H':=λ{σ J'} hs hm=>(hleft.da (λr hr'=>(hs r hr').trans (ht5 r hr').symm) Sd).up (λw q=>Ig.to w (hm w q)) (aP.le_refl _);have hkc:∀{σ:aP} {J':World->Prop},ρ3.to σ (S1.nx+2)->(∀w,J' w->Hs X1 w)->∀r o,cu (rh C) r=some o->∃x∈HK,ro J' σ r o x:=λ{σ J'} hs hm=>hr.Jh (λw q=>mJ w (Ig.to w (hm w q))) (aP.le_trans Ff (aP.le_trans l3 (hs.le f3)));obtain⟨pY,en1,NB,hit⟩:=it.ok (cmp ρ2 g1.th) (Hs X1) JO X1 cs x l hf (k.val.mono λw q=>mJ w (Ig.to w q)) (k.bK.up (λw q=>mJ w (Ig.to w q)) (aP.le_refl _)) ⟨λ_ h=>h,Ig.ex,Ig.gl.mono Ig.to⟩ (λr hr'=>by
  unfold cmp;rw[List.getElem?_eq_none (by have:=k.FY;exact Nat.le_trans (Nat.le_of_eq this.symm) hr')])
 obtain⟨C',Ys⟩:∃C',C'=Lt ps.toList a b C S1 g2.O:=⟨_,rfl⟩;rw[← Ys]at hl ht;obtain⟨H0,Yr⟩:∃H0,H0=JO++(HB++((H'++HK)++[])):=⟨_,rfl⟩;have Jj:aX c.bs c.w0.heap.size (H0++X1) w:=hp.iu (by
  rw[Yr];have:(HB++(H'++((JO++HK)++X1))).Perm (JO++(HB++(H'++(HK++X1)))):=by rw[List.append_assoc JO];refine(List.Perm.append_left HB (List.perm_append_comm_assoc H' JO _)).trans ?_;exact List.perm_append_comm_assoc HB JO _
  simpa using this)
 have hX:Hs X1 w:=Ab Jj λr hr'=>abd _ hr';have XC:∀b∈aU H0,b∉aU X1:=λb h1 h2=>by obtain⟨r,r1,r2⟩:=aN.1 h1;obtain⟨r',r3,r4⟩:=aN.1 h2;exact(List.pairwise_append.1 Jj.apart).2.2 r r1 r' r3 b r2 r4
 have VI:∀b∈aU X1,b<w.heap.size:=λb h2=>by obtain⟨r',r3,r4⟩:=aN.1 h2;exact(hX r' r3).2 b r4
 have Vm:∀{w'},PZ H0 w w'->∀b∈aU X1,w'.heap[b]? =w.heap[b]? :=λ{w'} ha b hb=>ha.2 b (VI b hb) λh=>XC b h hb;have H9:∀{w'},PZ H0 w w'->Hs X1 w':=λ{w'} ha r hr'=>⟨av.gB (hX r hr').1 ha.1 λb hb=>Vm ha b (aN.2 ⟨r,hr',hb⟩),λb hb=>Nat.lt_of_lt_of_le ((hX r hr').2 b hb) ha.1⟩;have pwX:X1.Pairwise av.apart:=(List.pairwise_append.1 Jj.apart).2.1;have Te:∀{bs:List Nat} {n0:Nat} {L:List av} {w':World},aX bs n0 L w'->Hs X1 w'->(∀b∈aU L,b∉aU X1)->(∀b∈aU X1,b∈bs\/n0<=b)->aX bs n0 (L++X1) w':=λ{bs n0 L w'} h1 h2 h3 h4=>⟨λr hr'=>(List.mem_append.1 hr').elim (h1.holds r) λh=>(h2 r h).1,λr hr' b hb=>(List.mem_append.1 hr').elim (λh=>h1.own r h b hb) λh=>⟨h4 b (aN.2 ⟨r,h,hb⟩),(h2 r h).2 b hb⟩,
   List.pairwise_append.2 ⟨h1.apart,pwX,λr r1 s s1 b b1 b2=>h3 b (aN.2 ⟨r,r1,b1⟩) (aN.2 ⟨s,s1,b2⟩)⟩⟩
 have Zu:∀b∈aU X1,b∈c.bs\/c.w0.heap.size<=b:=λb h2=>by obtain⟨r',r3,r4⟩:=aN.1 h2;exact(Jj.own r' (abd _ r3) b r4).1
 have fin:∀(i:Gh G (aD (oA g.l))) (w2:World) (Sx:AS G),T3 ρ3 (S1.nx+2) X1 (H'++HK) Sx.O Sx.nx i->PZ H0 w w2->St N c (Go.Bw.mark w.heap.size::ac.defers) [] (.obj w.heap.size (.deferred (some []))::([]++(i.HB++((H'++HK)++i.Y)))) {ac with defers:=Go.Bw.mark w.heap.size::ac.defers} w2->
   ρ.to i.ρ S.nx/\(∀w,i.J w->J w)/\Rl c N i.ρ i.J HK ((i.Y++Y1)++X) C (I8 S1.nx S1 g2.O Sx) {ac with defers:=Go.Bw.mark w.heap.size::ac.defers} w2:=λi w2 Sx hi ha hst=>by
  have hle:ρ3.le i.ρ:=hi.to.le f3;have aaj:S.nx<=S1.nx:=by rw[aai];exact k.nx
  have Ui:∀w,i.J w->J1 w:=λw q=>Ig.to w (hi.mJ w q);refine⟨(kto.trans t3 aaj).trans hi.to (by omega),λw q=>mJ w (Ui w q),hst.tm,?_,⟨hst.si,hr.si.n⟩,h4.fs.up Ui hle,h4.fc.up Ui hle,hkc hi.to hi.mJ,⟨.obj w.heap.size (.deferred (some []))::(i.HB++H'), .cons ⟨_,_,?_,rfl,rfl⟩ (hi.ro.app (LU hi.to hi.mJ)),?_⟩,by rw[List.append_assoc, ← Yp];exact hi.kn,hi.fr⟩
  ·exact .cons ⟨rfl,_,(hi.to S1.nx (by omega)).trans d3,rfl⟩ (h4.df.up Ui hle)
  ·exact(hi.to S1.nx (by omega)).trans d3
  ·have h1:=hst.hp.sub (List.Sublist.cons_cons _ (List.sublist_append_right [] _))
   have h2:=Te h1 (H9 ha) (λb hb hx=>by
    have hb:b=w.heap.size\/b∈aU (i.HB++((H'++HK)++i.Y)):=by simpa[aU,av.bK]using hb
    rcases hb with rfl|hb
    ·exact absurd (VI _ hx) (by omega)
    ·exact hi.ap b hb hx) Zu
   rw[Yp]at h2;refine h2.iu ?_;simp only[List.append_assoc,List.cons_append];exact .refl _
 have key:=JD (P:=P) (N:=N) (c:=c) (D:=ac.defers) (Q:=Q) (g:=Uq) (ps:=ps.toList) (assign:=a) (body:=b) (gf:=it.k) (n:=l.length) (caps:=cs.toArray) (Hc:=JO) (Ho:=[]) (pY:=pY) (α:=Gh G (aD (oA g.l))) (β:=Gh G (aD (oA g.l))) (a:=ac) (w:=w)
  (H:=H0) ⟨hr.tm,λd v e=>by simp[lk]at e,rfl,hr.si.s,Jj.sub (List.sublist_append_left _ _)⟩ (hr.si.n hrd) e2 (λargs w=>by
   obtain⟨fn,f1,f2,f5⟩:=it.fn;have h1:fn.name≠ "runtime.NumGoroutine" :=by simpa using f5
   obtain⟨code,f2⟩:=Option.isSome_iff_exists.1 f2;simp[callFunc,f1,h1,f2,Go.mark]) (λly Jy Jx bs W1 ha jK Yn hR=>hit ly Jy Jx bs W1 (Te (L:= .ext bs (Jy 0 bs)::JO) ⟨Yn.holds,λr hr' b hb=>⟨(Yn.own r hr' b hb).1.imp (λh=>(List.mem_append.1 h).elim (λh=>abe _ h) λh=>abd _ (abe _ h)) id,(Yn.own r hr' b hb).2⟩,Yn.apart⟩ (H9 ha) (λb hb hx=>by
    have hb:b∈bs\/b∈aU JO:=by simpa[aU,av.bK]using hb
    rcases hb with hb|hb
    ·rcases jK b hb with hb|hb
     ·exact XC b hb hx
     ·exact absurd (VI _ hx) (by omega)
    ·refine XC b ?_ hx
     rw[Yr];obtain⟨r,r1,r2⟩:=aN.1 hb;exact aN.2 ⟨r,abe _ r1,r2⟩) λb hb=> .inl (abd _ (abd _ hb))) hR) (λk=>by rw[NB,hn];simp) (Vq hps)
  (λk i=>T3 ρ3 (S1.nx+2) X1 (H'++HK) (N2 g (S1.nx+2) i.e).O (N2 g (S1.nx+2) i.e).nx i/\TL P N C' ps.toList a b g (S1.nx+2) it (l.drop k) i.e e1 Sf) (λ_ i=>i.HB++((H'++HK)++i.Y))
  (λj i=>T3 ρ3 (S1.nx+2) X1 (H'++HK) Sf.O Sf.nx i/\((e1= .ret/\j= .ret)\/∃id,e1= .exit id/\j= .exit id)) (λi=>i.HB++((H'++HK)++i.Y))
  ⟨x0,ρ',Hs X1,[],HB⟩ ⟨⟨hto,λ_ h=>h,BJ.up Ig.to (aP.le_refl _),⟨λ_ h=>h,Ig.ex,Ig.gl.mono Ig.to⟩,hfr,λb hb=>XC b (by
   rw[Yr];obtain⟨r,r1,r2⟩:=aN.1 hb;exact aN.2 ⟨r,abd _ r1,r2⟩)⟩,by simpa using ht⟩ Yr
  ?_ ?_ ?_
 ·rwa[Array.toArray_toList]at key
 ·rintro k ⟨ie,iρ,iJ,iY,Qp⟩ rec bs W hk ⟨hi,hrun⟩ WA hrp hn0 hT haW WJ
  dsimp only at hrun WJ;have hle:ρ3.le iρ:=hi.to.le f3;have Ui:∀w,iJ w->J1 w:=λw q=>Ig.to w (hi.mJ w q);obtain⟨y,hy,W2⟩:∃y,l[k]? =some y/\l.drop k=y::l.drop (k+1):=⟨l[k],abg hk,List.drop_eq_getElem_cons hk⟩;rw[W2]at hrun;have hpX:aX (bs++aU X1) W.heap.size ((.obj w.heap.size (.deferred (some [])):: .obj (w.heap.size+1) (.loop rec)::(Qp++((H'++HK)++iY)))++X1) W:=by
   refine Te ⟨WJ.holds,λr hr' b hb=>⟨(WJ.own r hr' b hb).1.imp (λh=>abe _ h) id,(WJ.own r hr' b hb).2⟩,WJ.apart⟩ (H9 haW) (λb hb hx=>?_) λb hb=> .inl (abd _ hb);have hb:b=w.heap.size\/b=w.heap.size+1\/b∈aU (Qp++((H'++HK)++iY)):=by simpa[aU,av.bK]using hb
   rcases hb with rfl|rfl|hb
   ·exact absurd (VI _ hx) (by omega)
   ·exact absurd (VI _ hx) (by omega)
   ·exact hi.ap b hb hx
  have zu:Rl ⟨some (w.heap.size+1),W,bs++aU X1⟩ N iρ iJ (.obj w.heap.size (.deferred (some [])):: .obj (w.heap.size+1) (.loop rec)::(H'++HK)) (iY++X1) C' (N2 g (S1.nx+2) ie) ⟨ac.tmps,[]⟩ W:=by
   subst Ys;refine⟨hr.tm, .nil,⟨aJ.refl _ _,λq=>(by cases q)⟩,λd v e=>(by cases e),λy hy=>?_,λr o e=>?_,⟨Qp,hi.ro,hpX.iu ?_⟩,hi.kn,hi.fr⟩
   ·have:y=_ :=List.mem_singleton.1 hy
    subst this;exact((Fj h4.fs (SE h4.fc)).NA).up Ui hle
   ·have e:cu (((S1.nx+1,Ob.aux false)::(g2.O++rh C))++[]) r=some o:=e
    rw[List.append_nil]at e;simp only[cu]at e;cases hb:Nat.beq (S1.nx+1) r with
    |true=>rw[hb]at e;cases e;obtain rfl:=aa7 hb;exact⟨_,abj _ List.mem_cons_self,_,_,(hi.to (S1.nx+1) (by omega)).trans o3,rfl,rec,rfl⟩
    |false=>
     rw[hb]at e;simp only[cond_false]at e;rw[gA]at e;split at e
     ·rename_i v' Fe
      cases e;obtain⟨x,x1,x2⟩:=(LU hi.to hi.mJ).lk Fe;exact⟨x,by simp[x1],x2⟩
     ·obtain⟨x,x1,x2⟩:=hkc hi.to hi.mJ r o e
      exact⟨x,by simp[x1],x2⟩
   ·have e1:Qp++((.obj w.heap.size (.deferred (some [])):: .obj (w.heap.size+1) (.loop rec)::(H'++HK))++(iY++X1))=Qp++(.obj w.heap.size (.deferred (some [])):: .obj (w.heap.size+1) (.loop rec)::((H'++HK)++(iY++X1))):=by simp
    rw[e1];have:=((List.perm_middle (a:=av.obj w.heap.size (.deferred (some []))) (l₁:=Qp) (l₂:= .obj (w.heap.size+1) (.loop rec)::((H'++HK)++(iY++X1)))).trans (List.Perm.cons _ List.perm_middle)).symm;simpa using this
  have hT':∀b,(b∈(⟨some (w.heap.size+1),W,bs⟩:Cx).bs\/(⟨some (w.heap.size+1),W,bs⟩:Cx).w0.heap.size<=b)->(b∈c.bs\/c.w0.heap.size<=b):=hT;have kO:∀{Hb Hy:List av} {o:Obj} {w3:World} {a2:Act},a2.tmps.size=N->a2.defers=[]->aJ (bs++aU X1) W w3->aX (bs++aU X1) W.heap.size (Hb++((.obj w.heap.size (.deferred (some [])):: .obj (w.heap.size+1) o::(H'++HK))++(Hy++(iY++X1)))) w3->
    St N ⟨some (w.heap.size+1),W,bs⟩ [] [] (.obj w.heap.size (.deferred (some [])):: .obj (w.heap.size+1) o::(Hb++((H'++HK)++(Hy++iY)))) a2 w3/\∀b∈aU (Hb++((H'++HK)++(Hy++iY))),b∉aU X1:=λ{Hb Hy o w3 a2} u1 u2 u3 u4=>by
   have e1:Hb++((.obj w.heap.size (.deferred (some [])):: .obj (w.heap.size+1) o::(H'++HK))++(Hy++(iY++X1)))=Hb++(.obj w.heap.size (.deferred (some [])):: .obj (w.heap.size+1) o::(((H'++HK)++(Hy++iY))++X1)):=by simp
   rw[e1]at u4;have u5:=u4.iu ((List.perm_middle (a:=av.obj w.heap.size (.deferred (some []))) (l₁:=Hb)).trans (List.Perm.cons _ List.perm_middle));have e2:(av.obj w.heap.size (.deferred (some []))::av.obj (w.heap.size+1) o::(Hb++(((H'++HK)++(Hy++iY))++X1)))=(.obj w.heap.size (.deferred (some [])):: .obj (w.heap.size+1) o::(Hb++((H'++HK)++(Hy++iY))))++X1:=by simp
   rw[e2]at u5;have hX3:Hs X1 w3:=Ab u5 λr hr'=>abd _ hr';have apL:∀b∈aU (.obj w.heap.size (.deferred (some [])):: .obj (w.heap.size+1) o::(Hb++((H'++HK)++(Hy++iY)))),b∉aU X1:=λb h1 h2=>by obtain⟨r,r1,r2⟩:=aN.1 h1;obtain⟨r',r3,r4⟩:=aN.1 h2;exact(List.pairwise_append.1 u5.apart).2.2 r r1 r' r3 b r2 r4
   refine⟨⟨u1,λd v e=>by simp[lk]at e,u2,⟨u3.os,u3.tape,u3.output,u3.size,λb h1 h2=>?_⟩,⟨λr hr'=>u5.holds r (abe _ hr'),λr hr' b hb=>?_,(List.pairwise_append.1 u5.apart).1⟩⟩,λb hb=>apL b ?_⟩
   ·rcases Classical.em (b∈aU X1)with hx|hx
    ·exact Ig.ex W w3 (H9 haW) hX3 b hx
    ·exact u3.block b h1 λh=>(List.mem_append.1 h).elim h2 hx
   ·obtain⟨o1,o2⟩:=u5.own r (abe _ hr') b hb
    refine⟨?_,o2⟩;rcases o1 with o1|o1
    ·exact(List.mem_append.1 o1).elim .inl λhx=>absurd hx (apL b (aN.2 ⟨r,hr',hb⟩))
    ·exact .inr o1
   ·obtain⟨r,r1,r2⟩:=aN.1 hb
    exact aN.2 ⟨r,abj _ (abj _ r1),r2⟩
  have aaY:(N2 g (S1.nx+2) ie).nx=S1.nx+2+g.nm.length:=rfl;cases hrun with
  |eH hb h1 n1 h2 hg kk=>
   obtain⟨L3,FW⟩:=zu.bind hb ((en1 iρ k y hy).mono hi.mJ);refine h1 ⟨some (w.heap.size+1),W,bs++aU X1⟩ iρ iJ _ _ _ W _ L3 λρa Ja Ya a1 w1 me t1 m1 x1 z1=>?_;rw[gE x1];obtain⟨z2,hh⟩:=z1.KI (o':= .loop {rec with state:= .busy}) (λb hb=>by cases b with
    |true=>cases hb
    |false=>exact⟨_,rfl⟩)
   refine⟨_,run_beginRound hh WA,?_⟩;refine h2 ⟨some (w.heap.size+1),W,bs++aU X1⟩ ρa Ja _ _ a1 _ _ z2 λρb Jb Yb a2 w3 me t2 m2 x2 z3=>?_;rw[gE x2];obtain⟨Jc,Yc,mc,z4⟩:=z3.iE g.l;obtain⟨ρc,tc,z5⟩:=Oz z4 hg hl;obtain⟨HB5,r5,p5⟩:=z5.hp;have hd:a2.defers=[]:=by have h0:=z5.df;subst Ys;have h0:DR Jc ρc ([]:List (AV G)) a2.defers:=h0;generalize a2.defers=D0 at h0;cases h0;rfl
   have e5:Yc++(Yb++(Ya++(iY++X1)))=(Yc++(Yb++Ya))++(iY++X1):=by simp
   rw[e5]at p5;obtain⟨Zm,ap5⟩:=kO z5.tm hd z5.si.s p5;refine Od (l:=w.heap.size+1) (dd:=w.heap.size) (rec:=rec) WA hrp hT' Zm ⟨_,ρc,Jc,(Yc++(Yb++Ya))++iY,HB5⟩ ⟨⟨λr hr'=>?_,λw q=>hi.mJ w (m1 w (m2 w (mc w q))),r5,?_,z5.fr,ap5⟩,kk⟩ rfl
   ·exact(tc r hr').trans ((t2 r (by omega)).trans ((t1 r (by omega)).trans (hi.to r hr')))
   ·have:=z5.kn
    rw[e5, ← List.append_assoc]at this;exact this
  |stop hb h1 n1 h2 he hD=>
   obtain⟨L3,FW⟩:=zu.bind hb ((en1 iρ k y hy).mono hi.mJ);refine h1 ⟨some (w.heap.size+1),W,bs++aU X1⟩ iρ iJ _ _ _ W _ L3 λρa Ja Ya a1 w1 me t1 m1 x1 z1=>?_;rw[gE x1];obtain⟨z2,hh⟩:=z1.KI (o':= .loop {rec with state:= .busy}) (λb hb=>by cases b with
    |true=>cases hb
    |false=>exact⟨_,rfl⟩)
   refine⟨_,run_beginRound hh WA,?_⟩;refine h2 ⟨some (w.heap.size+1),W,bs++aU X1⟩ ρa Ja _ _ a1 _ _ z2 λρb Jb Yb a2 w3 me t2 m2 x2 z3=>?_;obtain⟨HB5,r5,p5⟩:=z3.hp;have hd:a2.defers=[]:=by have h0:=z3.df;rw[hD]at h0;subst Ys;have h0:DR Jb ρb ([]:List (AV G)) a2.defers:=h0;generalize a2.defers=D0 at h0;cases h0;rfl
   have e5:Yb++(Ya++(iY++X1))=(Yb++Ya)++(iY++X1):=by simp
   rw[e5]at p5;obtain⟨Zm,ap5⟩:=kO z3.tm hd z3.si.s p5;obtain⟨j,hj1,hj2⟩:∃j:Code,((me= .ret/\j= .ret)\/∃id,me= .exit id/\j= .exit id)/\((e1= .ret/\j= .ret)\/∃id,e1= .exit id/\j= .exit id):=by
    rcases he with rfl|⟨id,rfl⟩
    ·exact⟨.ret, .inl ⟨A4 x2,rfl⟩, .inl ⟨rfl,rfl⟩⟩
    ·exact⟨.exit id, .inr ⟨id,BT x2,rfl⟩, .inr ⟨id,rfl,rfl⟩⟩
   refine Oc (l:=w.heap.size+1) (dd:=w.heap.size) (rec:=rec) hT' hj1 Zm (j,⟨ie,ρb,Jb,(Yb++Ya)++iY,HB5⟩) ⟨⟨λr hr'=>?_,λw q=>hi.mJ w (m1 w (m2 w q)),r5,?_,z3.fr,ap5⟩,hj2⟩ rfl
   ·exact(t2 r (by omega)).trans ((t1 r (by omega)).trans (hi.to r hr'))
   ·have:=z3.kn
    rw[e5, ← List.append_assoc]at this;exact this
 ·rintro⟨ie,iρ,iJ,iY,Qp⟩ w2 ⟨hi,hrun⟩ ha hst
  rw[List.drop_length]at hrun;generalize hie:(⟨ie,iρ,iJ,iY,Qp⟩:Gh G (aD (oA g.l))).e=ie' at hrun;dsimp only at hie;subst hie;cases hrun with
  |nil=>obtain⟨u1,u2,u3⟩:=fin _ w2 _ hi ha hst;exact hq iρ iJ (iY++Y1) _ w2 .normal u1 u2 trivial u3
 ·rintro j i w2 ⟨hi,hj⟩ ha hst
  obtain⟨u1,u2,u3⟩:=fin _ w2 _ hi ha hst;rcases hj with⟨rfl,rfl⟩|⟨id,rfl,rfl⟩
  ·exact wpIn_ret (hq i.ρ i.J (i.Y++Y1) _ w2 .ret u1 u2 trivial u3)
  ·exact wpIn_exit (hq i.ρ i.J (i.Y++Y1) _ w2 (.exit id) u1 u2 rfl u3)
end Go.Rw
namespace Go.Rw
open Go Go.Bw Go.RowKit
variable {G:Sg} {P:Program} {N:Nat} {C:CC G} {tt:TT P G}
theorem Km{all:Array Oper}{r:List Oper}{S S1 S3:AS G}{e:Ex G}{T el bt q d1:Nat}{x lo:Operand}{k ki:IntKind}{i:Int}{qq:Bool}{xs:List Int}{t1 t2:TypeId}{p1 p2:String}{f1 f2:Array Edge}
  (hT:tt.te.find T=some (.sl el 1 bt))(hz:yC P el k=true)(hx:dV C S [] x=some (.row q))(ho:cu S.O q=some (.row el 1 (.int k) xs))(hl:iZ (dV C S [] lo)=some (ki,i,qq))(hi:cB i (xs.length+1)=true)(hp:qD N C (some d1) .IW S=some S1)
  (bq:US P N C (.ops all r) {S1 with O:=mh S1.O q (.row el 1 (.int k) (xs.take i.toNat++List.replicate (xs.length-i.toNat) (0:Int)))} S3 e):
  US P N C (.ops all (⟨some d1, .slice T x (some lo) none none,t1,p1,f1,none⟩::⟨none, .call ⟨.builtin .clear, #[.tmp d1], #[T]⟩,t2,p2,f2,none⟩::r)) S S3 e:=by
 intro c ρ J HK X a w Q hr hq;refine wpListIn_step λK hK=>?_;rw[aa5 (F1.none rfl c ρ J HK X a w hr)];obtain⟨HS,h1,hs0,hm⟩:=hr.st;have hE:=bU hr (ch:=[]) (by simp);obtain⟨kk,x0,k1,⟨vv,ws,m1,rfl,m3,m4,m5⟩,k3⟩:=h1.set ho;have OR:=qh (hE.ok _ _ hx) m1;have qI:=hE.ev _ _ hx;rw[OR]at qI;obtain⟨g1,g2⟩:=bz hi;have g2:=Nat.lt_succ_iff.1 g2;have fl:=gG hE hl;rw[g1]at fl;haveI:=(tt.sl hT).1;have GL:av.row vv el 1 xs.length ws∈HS++(HK++X):=abe _ (List.mem_of_getElem? k1);haveI:mF c (HS++(HK++X)) vv 1 xs.length ws:=⟨λw' _ hp'=>Ro.rU (hp'.holds _ GL)⟩;refine(DA (P:=P) (N:=N) (c:=c) (F:=kN a) (H:=HS++(HK++X)) i.toNat qI fl g2) a.defers a w K Q hs0 λw' hs=>hK _ _ ?_;have WD:Rl c N ρ J HK X C S1 (a.put (some d1) (nC i.toNat xs.length 1 vv)) w':=(hr.since hs).put hp ⟨_,rfl⟩;have hlt:d1<a.tmps.size/\S1={S with F:=(d1, .IW)::S.F}:=by
  simp only[qD]at hp;cases hb:(Nat.blt d1 N&&(D1 d1 S.F&&EY d1 C)&&Dr d1 (.IW:AV G))with
  |false=>rw[hb]at hp;cases hp
  |true=>rw[hb]at hp;simp only[aa8]at hb;exact⟨by rw[hr.tm];simpa[Nat.blt_eq]using hb.1.1,by cases hp;rfl⟩
 obtain⟨hlt,rfl⟩:=hlt;generalize ha1:a.put (some d1) (nC i.toNat xs.length 1 vv)=a1 at WD ⊢;refine wpListIn_step λK2 hK2=>?_;rw[aa5 (F1.none rfl c ρ J HK X a1 w' WD)];obtain⟨NG,j1,js,jm⟩:=WD.st;obtain⟨kk1,x1,n1,⟨v1,ws1,l1,rfl,l3,l4,l5⟩,n3⟩:=j1.set (r:=q) (o:= .row el 1 (.int k) xs) ho;obtain rfl:vv=v1:=Option.some.inj (m1.symm.trans l1);have hE1:=bU WD (ch:=[]) (by simp);have hev:Bw.ev (kN a1) (.tmp d1)=some (nC i.toNat xs.length 1 vv):=by rw[Ij (x:= .tmp d1) (λt ht=>by cases ht;rw[← ha1];simpa[Act.put]using hlt) (λg h=>by cases h), ← ha1];simp[Act.put,Act.eval,hlt]
 have R2:ws1=cH (LI k) xs:=(aR.iff.1 (show(LA (LI k) xs.length).dJ J ws1 _ from l4)).trans (dZ (LI k) xs).symm;subst R2;have Cy:=mY (m:=HK++X) n1;haveI:qv (NG++(HK++X)) vv el 1 xs.length (cH (LI k) xs) ((NG++(HK++X)).set kk1):=⟨kk1,Cy,λ_ =>rfl⟩;have hz2:(P.info? el).bind (·.zero)=some (.int k 0):=by
  unfold yC at hz;split at hz
  ·rename_i k' n ZZ
   simp only[aa8,beq_iff_eq]at hz;rw[ZZ,BF hz.1,hz.2]
  ·cases hz
 refine JK (L:=LI k) (z0:=(0:Int)) (z:= .int k 0) (xs:=xs) (m:=i.toNat) (tt.sl hT).1.ok ⟨hz2⟩ rfl rfl rfl rfl g2 hev rfl a1.defers a1 w' K2 Q js λ_ w2 _ hs2 yp=>hK2 _ _ ?_;rw[qf n1]at yp;refine bq c ρ J HK X a1 w2 Q (WD.za (n3 _ _ ⟨vv,_,l1,rfl,?_,show(LA (LI k) _).dJ J _ _ from aR.iff.2 (dZ (LI k) _),rfl⟩) hs2 yp) hq;have:∀ys:List Int,ys.length=xs.length->qu vv ys.length:=λys h=>by rw[h];exact l3
 exact this _ (by simp only[List.length_append,List.length_take,List.length_replicate];omega)
end Go.Rw
namespace Go.Rw
open Go Go.Bw Go.RowKit
variable {G:Sg} {P:Program} {N:Nat} {C:CC G} {Z:Type} {tb:tD P G} {rec:WT G Z} {cp:List Nat} {all:Array Oper} {r:List Oper} {K:Ex G->AS G->Option Z} {z:Z}
theorem Bj(bq:mE P rec){o:Oper}{S:AS G}(hg:F1 N all C S o)(h:QY tb rec N cp C all r o S K=some z):∃e S',K e S'=some z/\S.nx<=S'.nx/\US P N C (.ops all (o::r)) S S' e:=by
 obtain⟨d,op,ty,ps,af,g⟩:=o;unfold QY at h;dsimp only at h;split at h
 ·rename_i gs v hv
  obtain⟨h1,h2⟩:=Xa h;exact cm bq hg (Ve hv h1) (Nat.le_refl _) h2
 ·split at h
  ·cases h
  ·obtain⟨e,S1,h1,h2,h3⟩:=bq _ _ _ _ _ _ _ h
   rw[rZ]at h2;exact⟨e,S1,h1,h2,xQ _ h3⟩
theorem SW{d:Option Tmp}{op:Op}{ty:TypeId}{ps:String}{af:Array Edge}{g:Option (Nat×Bool)}{T d1:Nat}{r r2:List Oper}(h:SY ⟨d,op,ty,ps,af,g⟩ T r=some (d1,r2)):
  ∃t2 p2 f2,d=some d1/\g=none/\r=⟨none, .call ⟨.builtin .clear, #[.tmp d1], #[T]⟩,t2,p2,f2,none⟩::r2:=by
 unfold SY at h;split at h
 ·rename_i a t t2 p2 f2 r3
  split at h
  ·rename_i e1 d2 T2 hd hg ha ht
   cases hb:(Nat.beq _ d2&&Nat.beq T T2)with
   |false=>rw[hb]at h;cases h
   |true=>
    rw[hb]at h;simp only[aa8]at hb;have eA:a= #[.tmp d2]:=by rw[← Array.toArray_toList (xs:=a),ha]
    have eT:t= #[T2]:=by rw[← Array.toArray_toList (xs:=t),ht]
    subst eA;subst eT;obtain rfl:=aa7 hb.1;obtain rfl:=aa7 hb.2;cases h;exact⟨_,_,_,hd,hg,rfl⟩
  ·cases h
 ·cases h
theorem Kc(bq:mE P rec){o:Oper}{S:AS G}(hg:F1 N all C S o)(h:XZ tb rec N cp C all r o S K=some z):∃e S',K e S'=some z/\S.nx<=S'.nx/\US P N C (.ops all (o::r)) S S' e:=by
 obtain⟨d,op,ty,ps,af,g⟩:=o;unfold XZ at h;dsimp only at h;split at h
 ·split at h
  ·rename_i v hv
   exact cm bq hg (Rd hv) (Nat.le_succ _) h
  ·cases h
 ·split at h
  ·rename_i v hv
   exact cm bq hg (KG hv) (Nat.le_succ _) h
  ·cases h
 ·split at h
  ·obtain⟨e,S1,h1,h2,h3⟩:=bq _ _ _ _ _ _ _ h
   rw[rZ]at h2;exact⟨e,S1,h1,h2,xQ _ h3⟩
  ·split at h
   ·rename_i q p v hx hy
    split at h
    ·rename_i T' cc ho
     cases hb:ry tb.tt _ v with
     |false=>rw[hb]at h;cases h
     |true=>rw[hb]at h;obtain⟨c',h1,h2⟩:=Ky h;exact cm bq hg (KB hx hy ho h1 hb) (Nat.le_refl _) h2
    ·rename_i e sz t xs ho
     cases hb:(LY p sz&&ry tb.tt _ v)with
     |false=>rw[hb]at h;cases h
     |true=>
      rw[hb]at h;simp only[aa8]at hb;simp only[cond_true]at h;split at h
      ·rename_i pl Yl
       split at h
       ·rename_i y' hu
        exact cm bq hg (Kz hx hy ho hb.1 Yl hu hb.2) (Nat.le_refl _) h
       ·cases h
      ·cases h
    ·cases h
   ·cases h
 ·split at h
  ·rename_i e sz _ ht
   split at h
   ·rename_i z hz
    split at h
    ·rename_i t _
     split at h
     ·rename_i xs hxs
      cases hc:((Nat.beq xs.length _ &&Nat.beq (t.L G).n sz)&&(Nat.blt 0 (_ *sz)&&Nat.ble (_ *sz) 16777216))with
      |false=>rw[hc]at h;cases h
      |true=>rw[hc]at h;simp only[aa8]at hc;obtain⟨⟨c1,c2⟩,c3,c4⟩:=hc;simp only[cond_true]at h;exact cm bq hg (Vg ht hz hxs (aa7 c1) (aa7 c2) (by simpa[Nat.blt_eq]using c3) (Nat.le_of_ble_eq_true c4)) (Nat.le_succ _) h
     ·exact Bj bq hg h
    ·cases h
   ·cases h
  ·cases h
 ·rename_i T s s'
  cases hs:Nat.beq s s' with
  |false=>rw[hs]at h;cases h
  |true=>
   rw[hs]at h;obtain rfl:=aa7 hs;simp only[cond_true]at h;split at h
   ·rename_i i _ e sz bt hx ht
    split at h
    ·rename_i k z0 hz
     cases hc:(Nat.beq sz 1&&Nat.blt 0 bt)with
     |false=>rw[hc]at h;cases h
     |true=>rw[hc]at h;simp only[aa8]at hc;obtain rfl:=aa7 hc.1;simp only[cond_true]at h;obtain⟨g1,h⟩:=mQ h;obtain⟨g2,h⟩:=mQ h;exact cm bq hg (Q9 ht hz hx g1 g2 (by simpa[Nat.blt_eq]using hc.2)) (Nat.le_succ _) h
    ·cases h
   ·cases h
 ·split at h
  ·rename_i t v hx
   exact⟨_,_,h,Nat.le_refl _,Ki hg hx⟩
  ·cases h
 ·split at h
  ·rename_i k x y l hf ha
   cases hb:((mB x&&mB l)&&(mB y&&Bx (rh C)))with
   |false=>rw[hb]at h;cases h
   |true=>rw[hb]at h;simp only[aa8]at hb;obtain⟨e,S3,k1,k2,k3⟩:=bq _ _ _ _ _ _ _ h;exact⟨e,S3,k1,k2,Kj hg hf ha hb.2.2 k3⟩
  ·cases h
 ·rename_i args Cv
  split at h
  ·rename_i x y T T' hA hT
   have eA:args= #[x,y]:=by rw[← Array.toArray_toList (xs:=args),hA]
   have eT:Cv= #[T,T']:=by rw[← Array.toArray_toList (xs:=Cv),hT]
   subst eA;subst eT;cases hb:Nat.beq T T' with
   |false=>rw[hb]at h;cases h
   |true=>
    rw[hb]at h;obtain rfl:=aa7 hb;simp only[cond_true]at h;split at h
    ·rename_i q vy e sz bt hx hy ht
     split at h
     ·rename_i e' sz' t xs l ho hl
      cases hc:(Nat.beq e' e&&Nat.beq sz' sz)with
      |false=>rw[hc]at h;cases h
      |true=>
       rw[hc]at h;simp only[aa8]at hc;obtain rfl:=aa7 hc.1;obtain rfl:=aa7 hc.2;simp only[cond_true]at h;split at h
       ·rename_i ys hys
        obtain⟨g1,h⟩:=mQ h;exact cm bq hg (Re ht hx hy ho hl hys g1) (Nat.le_succ _) h
       ·cases h
     ·cases h
    ·rename_i vy e sz bt hx hy ht
     split at h
     ·rename_i l hl
      cases hc:Nat.beq (l.t.L G).n sz with
      |false=>rw[hc]at h;cases h
      |true=>rw[hc]at h;simp only[cond_true]at h;obtain⟨g1,h⟩:=mQ h;exact cm bq hg (N4 ht hx hy hl (aa7 hc) g1) (Nat.le_succ _) h
     ·cases h
    ·cases h
  ·cases h
 ·rename_i args Cv
  split at h
  ·rename_i x y T T' hA hT
   have eA:args= #[x,y]:=by rw[← Array.toArray_toList (xs:=args),hA]
   have eT:Cv= #[T,T']:=by rw[← Array.toArray_toList (xs:=Cv),hT]
   subst eA;subst eT;split at h
   ·rename_i q vy e sz bt hx hy ht
    split at h
    ·rename_i e' sz' k xs l ho hl
     cases hc:((Nat.beq e' e&&Nat.beq sz 1)&&Nat.beq sz' 1)with
     |false=>rw[hc]at h;cases h
     |true=>
      rw[hc]at h;simp only[aa8]at hc;obtain rfl:=aa7 hc.1.1;obtain rfl:=aa7 hc.1.2;obtain rfl:=aa7 hc.2;simp only[cond_true]at h;split at h
      ·rename_i ys hys
       exact cm bq hg (N3 ht hx hy ho hl hys) (Nat.le_refl _) h
      ·cases h
    ·cases h
   ·rename_i q p n i q' p' n' j e sz bt hx hy ht
    split at h
    ·rename_i T2 cc ho
     split at h
     ·rename_i m k f hl
      cases hc:((Nat.beq q q'&&Nat.beq n n')&&((Nat.beq m n&&Nat.beq sz 1)&&(C6 p p'&&Rh [T,T'] T)))with
      |false=>rw[hc]at h;cases h
      |true=>rw[hc]at h;simp only[aa8]at hc;obtain rfl:=aa7 hc.1.1;obtain rfl:=aa7 hc.1.2;obtain rfl:=aa7 hc.2.1.1;obtain rfl:=aa7 hc.2.1.2;have hT:=hc.2.2.2;simp only[Rh,aa8]at hT;obtain rfl:=aa7 hT.2;simp only[cond_true]at h;obtain⟨c',h1,h2⟩:=Ky h;exact cm bq hg (Rb ht hx hy hc.2.2.1 ho hl h1) (Nat.le_refl _) h2
     ·cases h
    ·cases h
   ·cases h
  ·cases h
 ·rename_i args Cv
  split at h
  ·rename_i x T hA hT
   have eA:args= #[x]:=by rw[← Array.toArray_toList (xs:=args),hA]
   have eT:Cv= #[T]:=by rw[← Array.toArray_toList (xs:=Cv),hT]
   subst eA;subst eT;split at h
   ·rename_i q p n i e sz bt hx ht
    split at h
    ·rename_i T2 cc ho
     split at h
     ·rename_i m k f hl
      cases hc:((Nat.beq i.toNat n&&Nat.blt 0 n)&&((Nat.beq m n&&Nat.beq sz 1)&&yC P e k))with
      |false=>rw[hc]at h;cases h
      |true=>rw[hc]at h;simp only[aa8]at hc;obtain rfl:=aa7 hc.2.1.1;obtain rfl:=aa7 hc.2.1.2;simp only[cond_true]at h;obtain⟨c',h1,h2⟩:=Ky h;exact cm bq hg (Rc ht hx hc.1.1 hc.1.2 ho hl hc.2.2 h1) (Nat.le_refl _) h2
     ·cases h
    ·cases h
   ·cases h
  ·cases h
 ·split at h
  ·exact cm bq hg (Gj _) (Nat.le_succ _) h
  ·cases h
 ·split at h
  ·rename_i q ky k _ v hx hy hz
   split at h
   ·rename_i ik ks vs ho
    cases hc:((Cw ky ik&&Fw P _ ik)&&(De k ks&&mB vs))with
    |false=>rw[hc]at h;cases h
    |true=>rw[hc]at h;simp only[aa8]at hc;exact cm bq hg (I2 hx hy hz ho hc.1.1 hc.1.2 hc.2.1 hc.2.2) (Nat.le_refl _) h
   ·cases h
  ·cases h
 ·split at h
  ·rename_i k fst cap l hf ha
   have h0:=P7 h;clear h;rcases h0 with⟨ct,x,g',Dn,h⟩|⟨b,l',h⟩|h
   ·cases hb:((mB fst&&mB l)&&(mB cap&&Nat.beq ct.s.k k))with
    |false=>rw[hb]at h;cases h
    |true=>
     rw[hb]at h;simp only[aa8]at hb;obtain⟨⟨b1,b2⟩,b3,b4⟩:=hb;obtain rfl:=aa7 b4;have FW:=O7 Dn;rcases ct.Uu x _ _ z h with⟨y,hR,hy⟩|⟨y,hR,hy⟩
     ·split at hy
      ·rename_i v hd
       exact cm bq hg (Vf hf ha b1 b2 Dn hR hd) (Nat.le_trans FW (Nat.le_add_right _ _)) hy
      ·cases hy
     ·split at hy
      ·rename_i v hd
       exact⟨_,_,hy,Nat.le_trans FW (Nat.le_add_right _ _),Q3 hg hf ha b1 b2 Dn hR hd⟩
      ·cases hy
   ·obtain⟨e,S1,h1,h2,h3⟩:=bq _ _ _ _ _ _ _ h
    have h2:=Nat.le_trans (ER l' _) h2;rw[rZ]at h2;exact⟨e,S1,h1,h2,xQ b (EM l' h3)⟩
   split at h
   ·rename_i fi GQ
    cases hb:((mB fst&&mB l)&&(mB cap&&Nat.ble (zo (jC fst (jC l cap))) fi.N))with
    |false=>rw[hb]at h;cases h
    |true=>
     rw[hb]at h;simp only[aa8]at hb;obtain⟨⟨b1,b2⟩,b3,b4⟩:=hb;have b4:=Nat.le_of_ble_eq_true b4;obtain⟨e,S1,h1,h2,h3⟩:=bq _ _ _ _ _ _ _ h;have h2:S.nx<=S1.nx:=h2;split at h1
     ·rename_i v O2 hX
      exact⟨_,_,h1,h2,Ko (tt:=tb.tt) hg hf ha GQ b1 b2 b3 b4 h3 hX⟩
     ·rename_i O2 hX
      split at h1
      ·rename_i v hres
       exact cm bq hg (HC hf ha GQ b1 b2 b3 b4 h3 hX (.inl rfl) hres) h2 h1
      ·cases h1
     ·rename_i O2 hX
      split at h1
      ·rename_i v hres
       exact cm bq hg (HC hf ha GQ b1 b2 b3 b4 h3 hX (.inr rfl) hres) h2 h1
      ·cases h1
     ·cases h1
   ·cases h
  ·cases h
 ·split at h
  ·rename_i g0 hgt
   cases hb:nX P _ with
   |false=>rw[hb]at h;cases h
   |true=>rw[hb]at h;exact cm bq hg (KF hgt hb) (Nat.le_succ _) h
  ·cases h
 ·split at h
  ·rename_i q ik k kb hx hy
   split at h
   ·rename_i ho
    split at h
    ·rename_i g0 hgt
     cases hb:(Nat.beq (Ty.bp.ik ik) (Ty.bp.ik g0.1)&&Al P _ g0.1)with
     |false=>rw[hb]at h;cases h
     |true=>rw[hb]at h;simp only[aa8]at hb;exact cm bq hg (I1 hgt hx ho hy hb.1 hb.2) (Nat.le_refl _) (VW h)
    ·cases h
   ·rename_i qk ks vs ho
    cases hb:(Cw ik qk&&Al P _ qk)with
    |false=>rw[hb]at h;cases h
    |true=>rw[hb]at h;simp only[aa8]at hb;obtain⟨t,t1,t2⟩:=VX h;exact cm bq hg (KD hx hy ho hb.1 hb.2 t2) (Nat.le_refl _) t1
   ·cases h
  ·cases h
 ·split at h
  ·rename_i q k i qq e sz bt hx hh ht _
   split at h
   ·rename_i e' sz' t xs ho
    cases hc:(Nat.beq e' e&&Nat.beq sz' sz)with
    |false=>rw[hc]at h;cases h
    |true=>rw[hc]at h;simp only[aa8]at hc;obtain rfl:=aa7 hc.1;obtain rfl:=aa7 hc.2;simp only[cond_true]at h;obtain⟨g1,h⟩:=mQ h;exact cm bq hg (Ra ht hx ho hh g1) (Nat.le_succ _) h
   ·cases h
  ·rename_i q p k i qq hx hh _
   split at h
   ·rename_i T2 cc n e0 sz ho hT
    split at h
    ·rename_i m e f hl
     cases hc:Nat.beq m n with
     |false=>rw[hc]at h;cases h
     |true=>rw[hc]at h;obtain rfl:=aa7 hc;simp only[cond_true]at h;obtain⟨g1,h⟩:=mQ h;exact cm bq hg (KC hT hx hh ho hl g1) (Nat.le_refl _) h
    ·cases h
   ·cases h
  ·exact Bj bq hg h
 ·split at h
  ·rename_i d1 r2 q k0 i qq e sz bt hc hx hl ht
   split at h
   ·rename_i e' sz' k xs S1 ho hp
    cases hb:((Nat.beq e' e&&Nat.beq sz 1)&&(Nat.beq sz' 1&&yC P e k))with
    |false=>rw[hb]at h;cases h
    |true=>rw[hb]at h;simp only[aa8]at hb;obtain rfl:=aa7 hb.1.1;obtain rfl:=aa7 hb.1.2;obtain rfl:=aa7 hb.2.1;simp only[cond_true]at h;obtain⟨g1,h⟩:=mQ h;obtain⟨e1,S3,h1,h2,h3⟩:=bq _ _ _ _ _ _ _ h;have FW:=jJ hp;refine⟨e1,S3,h1,(by rw[← FW];exact h2),?_⟩;obtain⟨t2,p2,f2,rfl,rfl,rfl⟩:=SW hc;exact Km ht hb.2.2 hx ho hl g1 hp h3
   ·exact Bj bq hg h
  ·exact Bj bq hg h
 ·exact Bj bq hg h
theorem SU(bq:mE P rec){o:Oper}{S:AS G}{j dj:Nat}{w:Bool}{no:Option Z}{gx:Option Bool}{cx:Option (Nat×AV G)}(JS:o.guard=some (j,w))(hd:BW all j=some dj)(he:GU C S 8 dj w=gx)(hc:FE C S (chain C S 8 dj w) o.op=cx)
  (hno:no=some z->∃e S',K e S'=some z/\S.nx<=S'.nx/\US P N C (.ops all (o::r)) S S' e)(h:ctT tb rec N cp C all r o S K dj w no gx cx=some z):∃e S',K e S'=some z/\S.nx<=S'.nx/\US P N C (.ops all (o::r)) S S' e:=by
 unfold ctT at h;split at h
 ·rename_i g k aa4
  have h0:=P7 h;clear h;rcases h0 with⟨ct,x,g',Dn,h⟩|⟨b,l',h⟩|h
  ·cases hb:Nat.beq ct.s.k k with
   |false=>rw[hb]at h;cases h
   |true=>
    rw[hb]at h;have hk:=aa7 hb;simp only[cond_true]at h;unfold ctG at h;split at h
    ·rename_i hnm
     cases hn:(A1 true ct.s.qH&&A1 false ct.s.bI)with
     |false=>rw[hn]at h;exact hno h
     |true=>
      rw[hn]at h;simp only[aa8]at hn;obtain⟨y,hR,hy⟩:=ct.Xq g x _ z h;split at hy
      ·rename_i v hv
       split at hy
       ·rename_i S2 hp
        obtain⟨e,S3,k1,k2,k3⟩:=bq _ _ _ _ _ _ _ hy;have:=jJ hp;exact⟨e,S3,k1,by omega,Q4 JS hd he hc hk Dn hnm hn.1 hn.2 hR hv hp k3⟩
       ·cases hy
      ·cases hy
    ·exact hno h
  ·obtain⟨e,S1,h1,h2,h3⟩:=bq _ _ _ _ _ _ _ h
   have h2:=Nat.le_trans (ER l' _) h2;rw[rZ]at h2;exact⟨e,S1,h1,h2,xQ b (EM l' h3)⟩
  ·exact hno h
 ·exact hno h
theorem Hz{x:Operand}{a b:Code}{t:Bool}{S S1:AS G}{e:Ex G}(hx:dV C S [] x=some (.bool t))(h:US P N C (.code (bif t then a else b)) S S1 e):US P N C (.code (.cond x a b)) S S1 e:=by
 intro c ρ J HK X ac w Q hr hq;have ex:=vA ((bU hr (ch:=[]) (by simp)).ok _ _ hx);cases t with
 |true=>exact wpIn_cond_true ex (h c ρ J HK X ac w Q hr hq)
 |false=>exact wpIn_cond_false ex (h c ρ J HK X ac w Q hr hq)
theorem Kl{x:Operand}{a b:Code}{t:Bool}{S S1:AS G}{e:Ex G}(hx:dV C S [] x=some (.kb t))(h:US P N C (.code (bif t then a else b)) S S1 e):US P N C (.code (.cond x a b)) S S1 e:=by
 intro c ρ J HK X ac w Q hr hq;have ex:=C9 ((bU hr (ch:=[]) (by simp)).ok _ _ hx);cases t with
 |true=>exact wpIn_cond_true ex (h c ρ J HK X ac w Q hr hq)
 |false=>exact wpIn_cond_false ex (h c ρ J HK X ac w Q hr hq)
theorem IU{i:Nat}{ops:Array Oper}{S S1:AS G}{e:Ex G}(h:US P N C (.ops ops ops.toList) S S1 e):US P N C (.code (.region i ops false)) S S1 e:=by intro c ρ J HK X a w Q hr hq;exact wpIn_region_list (h c ρ J HK X a w Q hr hq)
theorem DI{cf:Cf}{S S1:AS G}{e:Ex G}(p q:Nat->Bool)(h:US P N (⟨fK (λd=> !p d) S.F,bH (λr=> !q r) S.O,S.D⟩::C) cf ⟨fK p S.F,bH q S.O,S.nx,[]⟩ S1 e):US P N C cf S (EH ⟨fK (λd=> !p d) S.F,bH (λr=> !q r) S.O,S.D⟩ S1) e:=by intro c ρ J HK X a w Q hr hq;obtain⟨H2,p1,p2⟩:=hr.push p q;refine h c ρ J (H2++HK) X a w Q p2 λρ' J' Y a' w' me k1 k2 k3 k4=>?_;have hle:=k1.le hr.fr;exact hq ρ' J' Y a' w' me k1 k2 k3 (k4.EH (p1.up k2 hle) (hr.Jh k2 hle) hr.si.n)
theorem NU{x y:Code}{S S1 S2:AS G}{ly:Ly G}{g:FU}{p q:Nat->Bool}{e:HL G (aD (oA g.l))}{e2:Ex G}(hly:ly=⟨fK (λd=> !p d) S.F,bH (λr=> !q r) S.O,S.D⟩)(hl:tJ S.nx (ly::C)=true)
  (h1:US P N (ly::C) (.code x) ⟨fK p S.F,bH q S.O,S.nx,[]⟩ S1 .gM)(hg:BK (ly::C) (iE (ly::C) S1 g.l) g S.nx=some e)(h2:US P N C (.code y) (EH ly (CK g S.nx e)) S2 e2):US P N C (.code (.seq x y)) S S2 e2:=by
 subst hly;intro c ρ J HK X a w Q hr hq;obtain⟨H2,p1,p2⟩:=hr.push p q;refine wpIn_seq (h1 c ρ J (H2++HK) X a w _ p2 λρ' J' Y a' w' me k1 k2 k3 k4=>?_);rw[gE k3];obtain⟨J2,Y2,j1,k5⟩:=k4.iE g.l;obtain⟨ρ2,m1,m2⟩:=Oz k5 hg hl;have hto:ρ.to ρ2 S.nx:=λr hr'=>(m1 r hr').trans (k1 r hr');have hle:=hto.le hr.fr;have ZL:∀w,J2 w->J w:=λw h=>k2 w (j1 w h);rw[← List.append_assoc]at m2;refine h2 c ρ2 J2 HK ((Y2++Y)++X) a' w' Q (m2.EH (p1.up ZL hle) (hr.Jh ZL hle) hr.si.n) (hq.eH hto ZL ?_);show S.nx<=S.nx+_;omega
def XH(P:Program)(N:Nat)(C:CC G)(base:Nat)(x:Code)(S S':AS G)(e:Ex G):Prop:=∀(c:Cx) (ρ:aP) (J:World->Prop) (HK X:List av) (a:Act) (w:World) (Q:Exit->Act->World->Prop),Rl c N ρ J HK X C S a w->P0 c N C ρ J HK X base S' e Q->UB P c x Q a w
theorem Kg{x:Code}{g:FU}{base:Nat}{e e':HL G (aD (oA g.l))}{S1 S2:AS G}{e2:Ex G}(hl:tJ base C=true)(h1:US P N C (.code x) (CK g base e) S1 .gM)(hg:BK C (iE C S1 g.l) g base=some e')(h2:XH P N C base x (CK g base e') S2 e2):XH P N C base x (CK g base e) S2 e2:=by intro c ρ J HK X a w Q hr hq;refine yj (h1 c ρ J HK X a w _ hr λρ' J' Y a' w' me k1 k2 k3 k4=>?_);rw[gE k3];obtain⟨J2,Y2,j1,k5⟩:=k4.iE g.l;obtain⟨ρ2,m1,m2⟩:=Oz k5 hg hl;have FV:ρ.to ρ' base:=λr hr'=>k1 r (by show r<base+_;omega);rw[← List.append_assoc]at m2;exact h2 c ρ2 J2 HK ((Y2++Y)++X) a' w' Q m2 (hq.eH (λr hr'=>(m1 r hr').trans (FV r hr')) (λw h=>k2 w (j1 w h)) (Nat.le_refl _))
theorem Bk{x:Code}{g:FU}{base:Nat}{e:HL G (aD (oA g.l))}{S1:AS G}{e1:Ex G}(h1:US P N C (.code x) (CK g base e) S1 e1)(he:e1≠ .gM):XH P N C base x (CK g base e) S1 e1:=by intro c ρ J HK X a w Q hr hq;refine yj (h1 c ρ J HK X a w _ hr λρ' J' Y a' w' me k1 k2 k3 k4=>?_);exact iU (jA he k3) (hq ρ' J' Y a' w' me (λr hr'=>k1 r (by show r<base+_;omega)) k2 k3 k4)
theorem NT{x:Code}{S S1:AS G}{g:FU}{v:AV G}{x0:HL G (aD (oA g.l))}{g':GS G}{p:Nat->Bool}{ly:Ly G}{e:Ex G}(hv:y9 C S g.l=some v)(Dn:jx (oA g.l) v ⟨[],S.O,S.nx⟩=some (x0,g'))(b1:rV g.nm g'.th=true)(b2:rW S.nx g.nm=true)
  (hly:ly=⟨fK p S.F,g'.O,S.D⟩)(hl:tJ S.nx (ly::C)=true)(h:XH P N (ly::C) S.nx x (CK g S.nx x0) S1 e):US P N C (.code (.loop x)) S (EH ly S1) e:=by
 intro c ρ J HK X a w Q hr hq;refine Bz ?_;have OV:tJ S.nx C=true:=by simp only[tJ,aa8]at hl;exact hl.2.2.2
 obtain⟨ρ',ρ2,HB,H',hto,ht2,BJ,hleft,hC,hp,hF,WZ,hfr⟩:=HW hr hv Dn b1 b2 (Nat.le_refl _) OV;have hag:∀r,r<S.nx->ρ' r=ρ2 r:=λr hr'=>(hto r hr').trans (ht2 r hr').symm;subst hly;have hl':=hl;simp only[tJ,aa8]at hl';have hleft:=hleft.da hag hl'.2.1;have hr':Rl c N ρ' J (H'++HK) X (⟨fK p S.F,g'.O,S.D⟩::C) (CK g S.nx x0) a w:=by
  refine⟨hr.tm,?_,⟨hr.si.s,λq=>hr.si.n (yd q)⟩,hF,λy hy=>?_,λr o e=>?_,⟨HB,BJ,by simpa using hp⟩,hr.kn,hfr⟩
  ·exact hr.df.da hto (D4 hl'.2.2.1 (z9 OV).2)
  ·rcases List.mem_cons.1 hy with rfl|hy
   ·exact(hr.fs.NA).da hto hl'.1
   ·exact WZ y hy
  ·have e:cu (g'.O++rh C) r=some o:=e
   rw[gA]at e;split at e
   ·rename_i v' Fe
    cases e;obtain⟨x,h1,h2⟩:=hleft.lk Fe;exact⟨x,abe _ h1,h2⟩
   ·obtain⟨x,h1,h2⟩:=hC r o e
    exact⟨x,abd _ h1,h2⟩
 refine h c ρ' J (H'++HK) X a w Q hr' λρ3 J3 Y a' w' me k1 k2 k3 k4=>?_;have FV:ρ.to ρ3 S.nx:=λr q=>(k1 r q).trans (hto r q);refine hq ρ3 J3 Y a' w' me FV k2 k3 (k4.EH ((hleft.da k1 hl'.2.1).up k2 (aP.le_refl _)) (hr.Jh k2 (FV.le hr.fr)) hr.si.n)
theorem OD(bq:mE P rec){x:Code}{g:FU}{base:Nat}{ly:Ly G}(hl:tJ base (ly::C)=true){vw:Option (Vw G (aD (oA g.l)))}:∀(n:Nat) (e:HL G (aD (oA g.l))),Qj vw (λgo e=>rec N cp (ly::C) (.code x) (CK g base e) λe1 S1=>match e1 with
   | .gM=>match BK (ly::C) (iE (ly::C) S1 g.l) g base with
    |some e=>go e
    |none=>none
   |e1=>K e1 (EH ly S1)) n e=some z->
  ∃e1 S1,K e1 (EH ly S1)=some z/\base<=S1.nx/\XH P N (ly::C) base x (CK g base e) S1 e1:=by
 intro n
 induction n with
 |zero=>intro e h;obtain⟨m,h1,_⟩:=HX h;cases h1
 |succ n ih=>
  intro e h;obtain⟨m,h1,h2⟩:=HX h;cases h1;obtain⟨e1,S1,k1,k2,k3⟩:=bq _ _ _ _ _ _ _ h2;have k2:base<=S1.nx:=Nat.le_trans (Nat.le_add_right _ _) k2;cases e1 with
  |gM=>
   dsimp only at k1;split at k1
   ·rename_i e' hg
    obtain⟨e2,S2,m1,m2,m3⟩:=ih e' k1;exact⟨e2,S2,m1,m2,Kg hl k3 hg m3⟩
   ·cases k1
  |exit i=>exact⟨_,S1,k1,k2,Bk k3 (by simp)⟩
  |ret=>exact⟨_,S1,k1,k2,Bk k3 (by simp)⟩
  |rE v=>exact⟨_,S1,k1,k2,Bk k3 (by simp)⟩
theorem Rg(bq:mE P rec){x y:Code}{S:AS G}(h:(rec N cp C (.code x) S λe S'=>match e with
    | .gM=>rec N cp C (.code y) S' K
    |e=>K e S')=some z):∃e S',K e S'=some z/\S.nx<=S'.nx/\US P N C (.code (.seq x y)) S S' e:=by
 obtain⟨e1,S1,k1,k2,k3⟩:=bq _ _ _ _ _ _ _ h;cases e1 with
 |gM=>obtain⟨e2,S2,m1,m2,m3⟩:=bq _ _ _ _ _ _ _ k1;exact⟨e2,S2,m1,Nat.le_trans k2 m2,QZ k3 m3 k2⟩
 |exit i=>exact⟨_,S1,k1,k2,kE k3 (by simp)⟩
 |ret=>exact⟨_,S1,k1,k2,kE k3 (by simp)⟩
 |rE v=>exact⟨_,S1,k1,k2,kE k3 (by simp)⟩
theorem On{x:Code}{S:AS G}{g:FU}{r:Option Z}(h:r=some z->∃e S',K e S'=some z/\(iE C S g.l).nx<=S'.nx/\US P N C (.code x) (iE C S g.l) S' e)(hr:r=some z):∃e S',K e S'=some z/\S.nx<=S'.nx/\US P N C (.code x) S S' e:=by obtain⟨e,S',h1,h2,h3⟩:=h hr;rw[xW]at h2;exact⟨e,S',h1,h2,NR _ h3⟩
theorem Rk(bq:mE P rec){ps:List Nat}{a b:Code}{S1:AS G}{g:FU}{it:It P G}{O:Os G}:∀(l:List it.B) (e:HL G (aD (oA g.l))),rgW rec N cp C ps a b S1 K g it l O e=some z->
  ∃e1 Sf,K e1 (I8 S1.nx S1 O Sf)=some z/\S1.nx<=Sf.nx/\TL P N (Lt ps a b C S1 O) ps a b g (S1.nx+2) it l e e1 Sf:=by
 intro l
 induction l with
 |nil=>intro e h;exact⟨_,_,OO h,by show S1.nx<=S1.nx+2+_;omega, .nil⟩
 |cons y l ih=>
  intro e h;have h:=LC h;obtain⟨S2,hb,h⟩:=Pn h;obtain⟨e1,S3,k1,k2,k3⟩:=bq _ _ _ _ _ _ _ h;have hS2:S1.nx<=S2.nx:=by rw[MB hb];show S1.nx<=S1.nx+2+_;omega
  cases e1 with
  |gM=>
   obtain⟨e2,S4,m1,m2,m3⟩:=bq _ _ _ _ _ _ _ k1;cases e2 with
   |gM=>
    dsimp only at m1;split at m1
    ·rename_i e' hg
     obtain⟨e3,Sf,n1,n2,n3⟩:=ih e' m1;exact⟨e3,Sf,n1,n2, .eH hb k3 k2 m3 hg n3⟩
    ·cases m1
   |ret=>
    dsimp only at m1;cases hD:Lq S4.D with
    |false=>rw[hD]at m1;cases m1
    |true=>rw[hD]at m1;exact⟨_,S4,m1,by omega, .stop hb k3 k2 m3 (.inl rfl) (Lp hD)⟩
   |exit i=>
    dsimp only at m1;cases hD:Lq S4.D with
    |false=>rw[hD]at m1;cases m1
    |true=>rw[hD]at m1;exact⟨_,S4,m1,by omega, .stop hb k3 k2 m3 (.inr ⟨i,rfl⟩) (Lp hD)⟩
   |rE v=>cases m1
  |_ =>cases k1
theorem Rm(bq:mE P rec){ps:Array Nat}{a b:Code}{k:Nat}{cap:AV G}{gl:List (JN×Sh)}{S:AS G}{Uq:Operand}(JS:dV C S [] Uq=some (.fn (.func k) .nil cap)):∀{l:List (It P G)},X2 rec N cp C ps.toList a b k cap gl S K l=some z->
  ∃e S',K e S'=some z/\S.nx<=S'.nx/\US P N C (.code (.rangeFunc Uq ps a b)) S S' e:=by
 intro l
 induction l with
 |nil=>intro h;cases h
 |cons it q ih=>
  intro h;unfold X2 at h;split at h
  ·exact ih h
  ·rename_i x g1 Dn
   split at h
   ·rename_i g hg
    dsimp only at h;split at h
    ·rename_i v hv
     split at h
     ·rename_i x0 g2 Se
      revert h;generalize hcc:(((Nat.beq it.k k&&Nat.beq it.n ps.toList.length&&Bx (rh C))&&(rV g.nm g2.th&&rW ((iE C ⟨S.F,g1.O,g1.nx,S.D⟩ g.l).nx+2) g.nm&&tJ ((iE C ⟨S.F,g1.O,g1.nx,S.D⟩ g.l).nx+2) (Lt ps.toList a b C (iE C ⟨S.F,g1.O,g1.nx,S.D⟩ g.l) g2.O)))&&((qO ((iE C ⟨S.F,g1.O,g1.nx,S.D⟩ g.l).nx+2) g2.O&&Uf N ps.toList)&&tJ ((iE C ⟨S.F,g1.O,g1.nx,S.D⟩ g.l).nx+2) C))=cc;intro h;cases cc with
      |false=>cases h
      |true=>simp only[aa8]at hcc;obtain⟨⟨⟨⟨c1,c2⟩,c3⟩,⟨c4,c5⟩,c6⟩,⟨c7,c8⟩,c9⟩:=hcc;obtain rfl:=aa7 c1;obtain⟨l,hf,h⟩:=oE h;obtain⟨e1,Sf,k1,k2,k3⟩:=Rk bq l x0 h;refine⟨e1,_,k1,?_,Kh JS Dn rfl hv Se c4 c5 (by simpa using aa7 c2) c3 c6 c7 c9 c8 hf k3⟩;show S.nx<=Sf.nx;rw[xW]at k2;exact Nat.le_trans (L9 Dn) k2
     ·cases h
    ·cases h
   ·cases h
theorem N1(bq:mE P rec):mE P (step tb rec):=by
 intro N cp C cf S K z h;unfold step at h;dsimp only at h;split at h
 ·exact⟨_,_,h,Nat.le_refl _,Q2⟩
 ·rename_i all o r
  split at h
  ·rename_i hg;exact Kc bq (.none hg) h
  ·rename_i j w hg
   split at h
   ·rename_i dj hd
    split at h
    ·rename_i hk;exact Kc bq (.Ql hg hd hk) h
    ·rename_i hk
     split at h
     ·rename_i S2 hp
      obtain⟨e,S3,k1,k2,k3⟩:=bq _ _ _ _ _ _ _ h;have:=jJ hp;exact⟨e,S3,k1,by omega,NQ hg hd hk hp k3⟩
     ·cases h
    ·split at h
     ·rename_i g gs v he hv
      obtain⟨h1,h2⟩:=Xb h;split at h2
      ·rename_i S2 hp
       obtain⟨e,S3,k1,k2,k3⟩:=bq _ _ _ _ _ _ _ h2;have:=jJ hp;exact⟨e,S3,k1,by omega,Kk hg hd he hv h1 hp k3⟩
      ·cases h2
     ·refine SU bq hg hd rfl rfl (λh=>?_) h
      split at h
      ·rename_i k b hk
       cases b with
       |true=>have h:=G6 rfl h;obtain⟨e,S3,k1,k2,k3⟩:=bq _ _ _ _ _ _ _ h;exact⟨e,S3,k1,k2,Hx hk k3⟩
       |false=>have h:=G7 rfl h;obtain⟨e,S3,k1,k2,k3⟩:=bq _ _ _ _ _ _ _ h;exact⟨e,S3,k1,k2,Hx hk k3⟩
      ·cases h
   ·cases h
 ·split at h
  ·exact⟨_,_,h,Nat.le_refl _,λc ρ J HK X a w Q hr hq=>wpIn_skip (hq.here hr trivial)⟩
  ·exact⟨_,_,h,Nat.le_refl _,λc ρ J HK X a w Q hr hq=>wpIn_label (hq.here hr trivial)⟩
  ·exact⟨_,_,h,Nat.le_refl _,λc ρ J HK X a w Q hr hq=>wpIn_ret (hq.here hr trivial)⟩
  ·exact⟨_,_,h,Nat.le_refl _,λc ρ J HK X a w Q hr hq=>wpIn_exit (hq.here hr rfl)⟩
  ·obtain⟨e,S1,k1,k2,k3⟩:=bq _ _ _ _ _ _ _ h
   exact⟨e,S1,k1,k2,IU k3⟩
  ·exact SS bq h
  ·rename_i i x
   obtain⟨e1,S1,k1,k2,k3⟩:=bq _ _ _ _ _ _ _ h;cases e1 with
   |exit j=>
    dsimp only at k1;cases hb:Nat.beq i j with
    |true=>rw[hb]at k1;have e:=aa7 hb;exact⟨_,S1,k1,k2,uc k3 (.inl ⟨by rw[e],rfl⟩)⟩
    |false=>rw[hb]at k1;exact⟨_,S1,k1,k2,uc k3 (.inr ⟨rfl,λq=>by cases q;rw[Nat.beq_refl]at hb;cases hb⟩)⟩
   |gM=>exact⟨_,S1,k1,k2,uc k3 (.inr ⟨rfl,by simp⟩)⟩
   |ret=>exact⟨_,S1,k1,k2,uc k3 (.inr ⟨rfl,by simp⟩)⟩
   |rE v=>exact⟨_,S1,k1,k2,uc k3 (.inr ⟨rfl,by simp⟩)⟩
  ·split at h
   ·rename_i t hx
    cases t with
    |true=>have h:=G6 rfl h;obtain⟨e,S1,k1,k2,k3⟩:=bq _ _ _ _ _ _ _ h;exact⟨e,S1,k1,k2,Hz hx k3⟩
    |false=>have h:=G7 rfl h;obtain⟨e,S1,k1,k2,k3⟩:=bq _ _ _ _ _ _ _ h;exact⟨e,S1,k1,k2,Hz hx k3⟩
   ·rename_i t hx
    obtain⟨e,S1,k1,k2,k3⟩:=bq _ _ _ _ _ _ _ h;exact⟨e,S1,k1,k2,Kl hx k3⟩
   ·cases h
  ·rename_i x y
   split at h
   ·rename_i gl ex _
    split at h
    ·rename_i g _
     cases hb:tJ S.nx ((⟨fK (λd=> !(bZ (C2 x) d||uI g.l d)) S.F,bH (λq=> !bZ (Ku C S gl++EZ C S ex) q) S.O,S.D⟩:Ly G)::C)with
     |false=>rw[hb]at h;cases h
     |true=>
      rw[hb]at h;have h:=V4 h;obtain⟨e1,S1,k1,k2,k3⟩:=bq _ _ _ _ _ _ _ h;have k2:S.nx<=S1.nx:=k2;cases e1 with
      |gM=>
       dsimp only at k1;split at k1
       ·rename_i e hg
        obtain⟨e2,S2,m1,m2,m3⟩:=bq _ _ _ _ _ _ _ k1;have m2:S.nx+g.nm.length<=S2.nx:=m2;exact⟨e2,S2,m1,by omega,NU rfl hb k3 hg m3⟩
       ·cases k1
      |exit i=>exact⟨_,_,k1,k2,kE (DI _ _ k3) (by simp)⟩
      |ret=>exact⟨_,_,k1,k2,kE (DI _ _ k3) (by simp)⟩
      |rE v=>exact⟨_,_,k1,k2,kE (DI _ _ k3) (by simp)⟩
    ·cases h
   ·exact Rg bq h
  ·rename_i x
   split at h
   ·rename_i gl _
    split at h
    ·cases h
    ·rename_i g _
     have hp:=xW (C:=C) (S:=S) (l:=g.l);refine On (g:=g) (λh=>?_) h;clear hp;generalize iE C S g.l=S at h;split at h
     ·rename_i v hv
      split at h
      ·rename_i x0 g' Dn
       cases hb:(rV g.nm g'.th&&rW S.nx g.nm)with
       |false=>rw[hb]at h;cases h
       |true=>
        rw[hb]at h;simp only[aa8]at hb;simp only[cond_true]at h;cases hc:tJ S.nx ((⟨fK (λd=> !(bZ (C2 x) d||uI g.l d)) S.F,g'.O,S.D⟩:Ly G)::C)with
        |false=>rw[hc]at h;cases h
        |true=>rw[hc]at h;obtain⟨e1,S1,k1,k2,k3⟩:=OD (g:=g) bq hc _ _ h;exact⟨e1,_,k1,k2,NT hv Dn hb.1 hb.2 rfl hc k3⟩
      ·cases h
     ·cases h
   ·obtain⟨e1,S1,k1,k2,k3⟩:=bq _ _ _ _ _ _ _ h
    exact⟨e1,S1,k1,k2,U9 k3⟩
   ·cases h
  ·split at h
   ·rename_i JS _
    exact Rm bq JS h
   ·cases h
  ·cases h
 ·rename_i x
  obtain⟨e1,S1,k1,k2,k3⟩:=bq _ _ _ _ _ _ _ h;cases e1 with
  |gM=>obtain⟨e2,S2,m1,m2,m3⟩:=bq _ _ _ _ _ _ _ k1;exact⟨e2,S2,m1,Nat.le_trans k2 m2,Gc k3 m3 k2⟩
  |exit i=>exact⟨_,S1,k1,k2,wS k3 (by simp)⟩
  |ret=>exact⟨_,S1,k1,k2,wS k3 (by simp)⟩
  |rE v=>exact⟨_,S1,k1,k2,wS k3 (by simp)⟩
theorem XE:∀n:Nat,mE P (W (Z:=Z) tb n):=by
 intro n
 induction n with
 |zero=>intro N cp C cf S K z h;cases h
 |succ n ih=>exact N1 ih
end Go.Rw
