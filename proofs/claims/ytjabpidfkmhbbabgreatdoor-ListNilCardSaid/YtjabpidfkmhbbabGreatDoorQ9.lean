/- Part 9 of what a proof leans on; pruned and shortened by a program out of longer texts. -/
import Derived.Test.YtjabpidfkmhbbabGreatDoorQ8
namespace Go.Rw
open Go Go.Bw Go.RowKit
variable {G:Sg} {P:Program} {N:Nat} {C:CC G} {ops:Array Oper} {A:List Nat} {ws:List (Nat×Nat)} {F0:Fr G} {D0:List (AV G)} {t:Tc G} {l:Array Bool}
structure Hy(P:Program)(N:Nat)(C:CC G)(ops:Array Oper)(A:List Nat)(ws:List (Nat×Nat))(F0:Fr G)(D0:List (AV G))(t:Tc G):Prop where
 hA:A=BO ops ops.size
 TU:ws=vL 0 ops.toList
 hW:KH A ws ws=true
 st:∀q o,ops[q]? =some o->fL P N C ops A ws F0 D0 t o q
 g0:∀d j w x,bP (t.T 0).F d=some (.gd j w x)->∀q,(q,j)∉ws
def Cl(ops:Array Oper)(l:Array Bool):Prop:=∀j,dn l j->∀k∈wT ops j,dn l k
theorem Hy.mem(h:Hy P N C ops A ws F0 D0 t){q d:Nat}:(q,d)∈ws↔∃o,ops[q]? =some o/\o.dst=some d:=by rw[h.TU,NU];simp
theorem Hy.J6(h:Hy P N C ops A ws F0 D0 t)(qA:Cl ops l){i j:Nat}(hb:jZ A i j=true)(hi:∀k∈wT ops i,dn l k):dn l j:=by rw[h.hA]at hb;exact UP qA _ _ _ hb hi
theorem Hy.F'(h:Hy P N C ops A ws F0 D0 t){q:Nat}(hq:q<ops.size):(t.T (q+1)).F=t.pr q++(t.T q).F:=by
 have:=h.st q _ (Array.getElem?_eq_getElem hq);unfold fL at this;split at this
 ·exact this.F'
 ·rw[this.1,this.2];rfl
theorem Hy.pr(h:Hy P N C ops A ws F0 D0 t){q:Nat}(hq:q<ops.size):t.pr q=[]\/∃d v,t.pr q=[(d,v)]/\(q,d)∈ws/\∀j w x,v= .gd j w x->La A q j ws=true:=by
 have ho:ops[q]? =some ops[q]:=Array.getElem?_eq_getElem hq;have:=h.st q _ ho;unfold fL at this;split at this
 ·rcases this.pk with⟨_,e⟩|⟨d,v,e1,e2,_,e3⟩
  ·exact .inl e
  ·exact .inr ⟨d,v,e2,h.mem.2 ⟨_,ho,e1⟩,e3⟩
 ·exact .inl this.2
theorem y7{q d:Nat}{F:Fr G}(h:Hy P N C ops A ws F0 D0 t)(hq:q<ops.size)(hd:(q,d)∉ws):bP (t.pr q++F) d=bP F d:=by
 rcases h.pr hq with e|⟨d',v,e,hm,_⟩
 ·rw[e];rfl
 ·rw[e]
  simp only[List.cons_append,List.nil_append,bP];cases hb:Nat.beq d' d with
  |true=>rw[ab6 hb]at hm;exact absurd hm hd
  |false=>rfl
def FL(t:Tc G)(l:Array Bool):Nat->Fr G
 |0=>(t.T 0).F
 |q+1=>(bif l.getD q false then t.pr q else[])++FL t l q
theorem wm{q:Nat}(h:¬dn l q):FL t l (q+1)=FL t l q:=by
 unfold dn at h;show(bif l.getD q false then t.pr q else[])++FL t l q=_;cases hb:l.getD q false with
 |true=>rw[hb]at h;exact absurd rfl h
 |false=>rfl
theorem xD{q:Nat}(h:dn l q):FL t l (q+1)=t.pr q++FL t l q:=by unfold dn at h;show(bif l.getD q false then t.pr q else[])++FL t l q=_;rw[h];rfl
theorem Hy.bz(h:Hy P N C ops A ws F0 D0 t)(qA:Cl ops l){i d:Nat}(hi:i<ops.size)(hrd:∀k∈wT ops i,dn l k)(rC:¬dn l i)(hv:xO A i d ws=true):bP (FL t l ops.size) d=bP (t.T i).F d:=by
 have p1:∀q,q<=i->bP (FL t l q) d=bP (t.T q).F d:=by
  intro q
  induction q with
  |zero=>intro _;rfl
  |succ q ih=>
   intro hq;have ih:=ih (by omega);rw[h.F' (by omega)];by_cases hd:(q,d)∈ws
   ·rcases LR hv q hd with e|⟨_,e⟩|⟨e,_⟩
    ·omega
    ·rw[xD (h.J6 qA e hrd),g8,g8,ih]
    ·omega
   ·rw[y7 h (by omega) hd]
    by_cases CY:dn l q
    ·rw[xD CY,y7 h (by omega) hd];exact ih
    ·rw[wm CY];exact ih
 have p2:∀k,i+k<=ops.size->bP (FL t l (i+k)) d=bP (FL t l i) d:=by
  intro k
  induction k with
  |zero=>intro _;rfl
  |succ k ih=>
   intro hk;have ih:=ih (by omega);rw[← ih];show bP (FL t l (i+k+1)) d=_;by_cases CY:dn l (i+k)
   ·rw[xD CY]
    refine y7 h (by omega) λhd=>?_;rcases LR hv _ hd with e|⟨e,_⟩|⟨_,e⟩
    ·rw[e]at CY;exact rC CY
    ·omega
    ·exact rC (h.J6 qA e (qA _ CY))
   ·rw[wm CY]
 have:=p2 (ops.size-i) (by omega);rw[show i+(ops.size-i)=ops.size from by omega]at this;rw[this,p1 i (Nat.le_refl _)]
theorem Hy.fb(h:Hy P N C ops A ws F0 D0 t)(hs:l.size=ops.size)(qA:Cl ops l){i d:Nat}(hi:i<ops.size)(rC:¬dn l i):
  ((i,d)∉ws->bP (FL t (l.setIfInBounds i true) ops.size) d=bP (FL t l ops.size) d)/\((i,d)∈ws->∀v,bP (FL t (l.setIfInBounds i true) ops.size) d=some v->t.pr i=[]\/(d,v)∈t.pr i):=by
 have ya:i<l.size:=by omega
 have off:∀q,q≠i->(dn (l.setIfInBounds i true) q↔dn l q):=λq hq=>by rw[ez ya];simp[hq]
 refine⟨λhd=>?_,λhd v hv=>?_⟩
 ·have key:∀q,q<=ops.size->bP (FL t (l.setIfInBounds i true) q) d=bP (FL t l q) d:=by
   intro q
   induction q with
   |zero=>intro _;rfl
   |succ q ih=>
    intro hq;have ih:=ih (by omega);by_cases e:q=i
    ·subst e
     rw[xD ((ez ya).2 (.inr rfl)),wm rC,y7 h hi hd];exact ih
    ·by_cases CY:dn l q
     ·rw[xD ((off q e).2 CY),xD CY,g8,g8,ih]
     ·rw[wm (λx=>CY ((off q e).1 x)),wm CY];exact ih
  exact key _ (Nat.le_refl _)
 ·have key:∀k,i+1+k<=ops.size->bP (FL t (l.setIfInBounds i true) (i+1+k)) d=bP (FL t (l.setIfInBounds i true) (i+1)) d:=by
   intro k
   induction k with
   |zero=>intro _;rfl
   |succ k ih=>
    intro hk;have ih:=ih (by omega);rw[← ih];show bP (FL t _ (i+1+k+1)) d=_;by_cases CY:dn (l.setIfInBounds i true) (i+1+k)
    ·rw[xD CY]
     refine y7 h (by omega) λhm=>?_;have Nh:=(off _ (by omega)).1 CY;exact rC (h.J6 qA (Xh h.hW _ _ hm i hd (by omega)) (qA _ Nh))
    ·rw[wm CY]
  have e:=key (ops.size-(i+1)) (by omega);rw[show i+1+(ops.size-(i+1))=ops.size from by omega]at e;rw[e,xD ((ez ya).2 (.inr rfl))]at hv;rcases h.pr hi with e|⟨d',v',e,hm,_⟩
  ·exact .inl e
  ·refine .inr ?_
   obtain⟨o1,h1,h2⟩:=h.mem.1 hm;obtain⟨o2,h3,h4⟩:=h.mem.1 hd;rw[h1]at h3;cases h3;rw[h2]at h4;cases h4;rw[e]at hv ⊢;simp only[List.cons_append,List.nil_append,bP,Nat.beq_refl,cond_true]at hv;cases hv;simp
theorem Qg{α:Type}:∀{F:List (Nat×α)} {d:Nat} {v:α},bP F d=some v->(d,v)∈F:=by
 intro F
 induction F with
 |nil=>intro d v h;cases h
 |cons q r ih=>
  obtain⟨k,u⟩:=q;intro d v h;simp only[bP]at h;cases hb:Nat.beq k d with
  |true=>rw[hb]at h;cases h;rw[ab6 hb];simp
  |false=>rw[hb]at h;exact ack _ (ih h)
theorem Hy.gd(h:Hy P N C ops A ws F0 D0 t)(qA:Cl ops l){i:Nat}(rC:¬dn l i){d j:Nat}{w:Bool}{x:AV G}(e:bP (FL t l ops.size) d=some (.gd j w x)):(i,j)∉ws:=by
 have ua:∀q,q<=ops.size->bP (FL t l q) d=some (.gd j w x)->bP (t.T 0).F d=some (.gd j w x)\/∃q',q'<ops.size/\dn l q'/\(d, .gd j w x)∈t.pr q':=by
  intro q
  induction q with
  |zero=>intro _ e;exact .inl e
  |succ q ih=>
   intro hq e;by_cases CY:dn l q
   ·rw[xD CY,g8]at e
    split at e
    ·rename_i v hv;cases e;exact .inr ⟨q,by omega,CY,Qg hv⟩
    ·exact ih (by omega) e
   ·rw[wm CY]at e;exact ih (by omega) e
 intro hm;rcases ua _ (Nat.le_refl _) e with e|⟨q,q1,q2,q3⟩
 ·exact h.g0 d j w x e i hm
 ·rcases h.pr q1 with e|⟨d',v',e,_,hb⟩
  ·rw[e]at q3;cases q3
  ·rw[e]at q3
   simp at q3;exact rC (h.J6 qA (UN (hb j w x q3.2.symm) i hm) (qA _ q2))
theorem Hy.sd(h:Hy P N C ops A ws F0 D0 t){q:Nat}(hq:q<ops.size)(hk:t.kd q= .d):Zy P N C ops A ws F0 D0 (ops[q]'hq) q (t.rd q) (t.ac q) (t.on q) (t.pr q) (t.T q) (t.T (q+1)):=by have:=h.st q _ (Array.getElem?_eq_getElem hq);unfold fL at this;rw[hk]at this;exact this
theorem Hy.un(h:Hy P N C ops A ws F0 D0 t){q:Nat}(hq:q<ops.size)(hk:t.kd q≠ .d):t.T (q+1)=t.T q/\t.pr q=[]:=by
 have:=h.st q _ (Array.getElem?_eq_getElem hq);unfold fL at this;split at this
 ·rename_i e;exact absurd e hk
 ·exact this
theorem Hy.lg(h:Hy P N C ops A ws F0 D0 t){q:Nat}(hk:t.kd q= .d):∀{i:Nat},i<=ops.size->q<i->(⟨q,t.rd q,t.ac q,fI (t.on q)⟩:Lg)∈(t.T i).lg:=by
 intro i
 induction i with
 |zero=>intro _ hq;omega
 |succ i ih=>
  intro hi hq;by_cases ki:t.kd i= .d
  ·rw[(h.sd (by omega) ki).lg']
   by_cases e:q=i
   ·subst e;exact List.mem_cons_self
   ·exact ack _ (ih (by omega) (by omega))
  ·rw[(h.un (by omega) ki).1]
   by_cases e:q=i
   ·subst e;exact absurd hk ki
   ·exact ih (by omega) (by omega)
theorem Hy.apart(h:Hy P N C ops A ws F0 D0 t){q i:Nat}(hi:i<ops.size)(hq:q<i)(kq:t.kd q= .d)(ki:t.kd i= .d)(hb:jZ A i q≠true):(∀x∈t.ac q++fI (t.on q),x∉t.rd i++t.ac i)/\∀x∈t.ac i++fI (t.on i),x∉t.rd q++t.ac q:=by
 rcases RR (h.sd hi ki).chk _ (h.lg kq (Nat.le_of_lt hi) hq)with e|e
 ·exact absurd e hb
 ·exact e
theorem jX{p:Nat->Bool}:∀{O O':Os G},bJ p (O++O')=bJ p O++bJ p O':=by
 intro O
 induction O with
 |nil=>intro O';rfl
 |cons q r ih=>
  obtain⟨k,v⟩:=q;intro O';simp only[List.cons_append,bJ];cases p k with
  |true=>simp only[cond_true,List.cons_append,ih]
  |false=>simp only[cond_false,ih]
theorem ny{p q:Nat->Bool}:∀{O:Os G},bJ p (bJ q O)=bJ q (bJ p O):=by
 intro O
 induction O with
 |nil=>rfl
 |cons x r ih=>obtain⟨k,v⟩:=x;cases hp:p k<;>cases hq:q k<;>simp[bJ,hp,hq,ih]
theorem vJ{p:Nat->Bool}:∀{O:Os G},(∀k∈fI O,p k=true)->bJ p O=O:=by
 intro O
 induction O with
 |nil=>intro _;rfl
 |cons x r ih=>obtain⟨k,v⟩:=x;intro h;simp only[bJ,h k (by simp[fI]),cond_true];rw[ih λk hk=>h k (by simp[fI,hk])]
theorem Az{p:Nat->Bool}:∀{O:Os G},(∀k∈fI O,p k=false)->bJ p O=[]:=by
 intro O
 induction O with
 |nil=>intro _;rfl
 |cons x r ih=>obtain⟨k,v⟩:=x;intro h;simp only[bJ,h k (by simp[fI]),cond_false];exact ih λk hk=>h k (by simp[fI,hk])
theorem EG{p:Nat->Bool}:∀{O:Os G} {k:Nat},k∈fI (bJ p O)->p k=true/\k∈fI O:=by
 intro O
 induction O with
 |nil=>intro k h;cases h
 |cons x r ih=>
  obtain⟨j,v⟩:=x;intro k h;simp only[bJ]at h;cases hp:p j with
  |true=>
   rw[hp]at h;simp only[cond_true,fI,List.mem_cons]at h;rcases h with rfl|h
   ·exact⟨hp,by simp[fI]⟩
   ·exact⟨(ih h).1,by simp[fI,(ih h).2]⟩
  |false=>rw[hp]at h;exact⟨(ih h).1,by simp[fI,(ih h).2]⟩
theorem K6{p:Nat->Bool}{O O':Os G}(h:O.Perm O'):(bJ p O).Perm (bJ p O'):=by
 induction h with
 |nil=>exact .refl _
 |cons x _ ih=>obtain⟨k,v⟩:=x;simp only[bJ];cases p k with
  |true=>exact ih.cons _
  |false=>exact ih
 |swap x y l=>obtain⟨k,v⟩:=x;obtain⟨j,u⟩:=y;simp only[bJ];cases p k<;>cases p j<;>first|exact .refl _ |exact .swap _ _ _
 |trans _ _ i1 i2=>exact i1.trans i2
theorem C9{p:Nat->Bool}:∀{O:Os G},(bJ p O).Sublist O:=by
 intro O
 induction O with
 |nil=>exact .refl _
 |cons x r ih=>obtain⟨k,v⟩:=x;simp only[bJ];cases p k with
  |true=>exact ih.cons_cons _
  |false=>exact ih.cons _
theorem K5{p:Nat->Bool}{O O':Os G}(h:O.Sublist O'):(bJ p O).Sublist (bJ p O'):=by
 induction h with
 |slnil=>exact .refl _
 |cons x _ ih=>obtain⟨k,v⟩:=x;simp only[bJ];cases p k with
  |true=>exact ih.cons _
  |false=>exact ih
 |cons_cons x _ ih=>obtain⟨k,v⟩:=x;simp only[bJ];cases p k with
  |true=>exact ih.cons_cons _
  |false=>exact ih
theorem ze{l:List Nat}{k:Nat}(h:k∉l):bY l k=false:=by
 cases hb:bY l k with
 |false=>rfl
 |true=>exact absurd (vr.1 hb) h
theorem GU{z ac:List Nat}{O:Os G}(hz:∀x∈ac,x∉z):bJ (bY z) (bJ (λr=> !bY ac r) O)=bJ (bY z) O:=by rw[ny];refine vJ λk hk=>?_;rw[ze λhm=>hz k hm (vr.1 (EG hk).1)];rfl
def ML(t:Tc G)(l:Array Bool):Nat->Os G
 |0=>(t.T 0).M
 |q+1=>bif l.getD q false then(match t.kd q with
  | .d=>t.on q++bJ (λr=> !bY (t.ac q) r) (ML t l q)
  |_ =>ML t l q)else ML t l q
theorem qy{q:Nat}(h:¬dn l q):ML t l (q+1)=ML t l q:=by
 unfold dn at h;show(bif l.getD q false then _ else ML t l q)=_;cases hb:l.getD q false with
 |true=>rw[hb]at h;exact absurd rfl h
 |false=>rfl
theorem wk{q:Nat}(h:dn l q)(hk:t.kd q= .d):ML t l (q+1)=t.on q++bJ (λr=> !bY (t.ac q) r) (ML t l q):=by
 unfold dn at h;show(bif l.getD q false then(match t.kd q with
  | .d=>t.on q++bJ (λr=> !bY (t.ac q) r) (ML t l q)
  |_ =>ML t l q)else ML t l q)=_
 rw[h,hk];rfl
theorem Vt(h:Hy P N C ops A ws F0 D0 t)(hd:∀q,q<ops.size->dn l q/\t.kd q= .d):∀q,q<=ops.size->ML t l q=(t.T q).M:=by
 intro q
 induction q with
 |zero=>intro _;rfl
 |succ q ih=>intro hq;obtain⟨h1,h2⟩:=hd q (by omega);rw[wk h1 h2,ih (by omega),(h.sd (by omega) h2).M']
theorem Hy.W7(h:Hy P N C ops A ws F0 D0 t)(qA:Cl ops l){i:Nat}(z:List Nat)(hi:i<ops.size)(rC:¬dn l i)(hrd:∀k∈wT ops i,dn l k)(Sd:∀q,q<ops.size->dn l q->t.kd q= .d)
  (h1:∀q,q<i->t.kd q= .d->jZ A i q≠true->∀x∈t.ac q++fI (t.on q),x∉z)(h2:∀q,i<q->q<ops.size->dn l q->∀x∈t.ac q++fI (t.on q),x∉z):bJ (bY z) (ML t l ops.size)=bJ (bY z) (t.T i).M:=by
 have p1:∀q,q<=i->bJ (bY z) (ML t l q)=bJ (bY z) (t.T q).M:=by
  intro q
  induction q with
  |zero=>intro _;rfl
  |succ q ih=>
   intro hq;have ih:=ih (by omega);by_cases kq:t.kd q= .d
   case neg=>rw[(h.un (by omega) kq).1,qy λhd=>kq (Sd q (by omega) hd)];exact ih
   rw[(h.sd (by omega) kq).M'];by_cases hd:dn l q
   ·rw[wk hd kq,jX,jX,ny,ih,ny]
   ·rw[qy hd,ih,jX]
    have hb:jZ A i q≠true:=λhb=>hd (h.J6 qA hb hrd);have hz:=h1 q (by omega) kq hb;rw[Az (O:=t.on q) λk hk=>ze (hz k (acd _ hk)),List.nil_append,GU λx hx=>hz x (ace _ hx)]
 have p2:∀k,i+k<=ops.size->bJ (bY z) (ML t l (i+k))=bJ (bY z) (ML t l i):=by
  intro k
  induction k with
  |zero=>intro _;rfl
  |succ k ih=>
   intro hk;have ih:=ih (by omega);rw[← ih];show bJ (bY z) (ML t l (i+k+1))=_;by_cases hd:dn l (i+k)
   ·have hne:i<i+k:=by
     rcases Nat.eq_zero_or_pos k with e|e
     ·subst e;exact absurd hd rC
     ·omega
    rw[wk hd (Sd _ (by omega) hd),jX];have hz:=h2 _ hne (by omega) hd;rw[Az (O:=t.on (i+k)) λk' hk'=>ze (hz k' (acd _ hk')),List.nil_append,GU λx hx=>hz x (ace _ hx)]
   ·rw[qy hd]
 have:=p2 (ops.size-i) (by omega);rw[show i+(ops.size-i)=ops.size from by omega]at this;rw[this,p1 i (Nat.le_refl _)]
theorem Hy.Xn(h:Hy P N C ops A ws F0 D0 t)(hs:l.size=ops.size)(qA:Cl ops l){i:Nat}(hi:i<ops.size)(rC:¬dn l i)(Sd:∀q,q<ops.size->dn l q->t.kd q= .d)(ki:t.kd i= .d):(ML t (l.setIfInBounds i true) ops.size).Perm (t.on i++bJ (λr=> !bY (t.ac i) r) (ML t l ops.size)):=by
 have ya:i<l.size:=by omega
 have off:∀q,q≠i->(dn (l.setIfInBounds i true) q↔dn l q):=λq hq=>by rw[ez ya];simp[hq]
 have p1:∀q,q<=i->ML t (l.setIfInBounds i true) q=ML t l q:=by
  intro q
  induction q with
  |zero=>intro _;rfl
  |succ q ih=>
   intro hq;have ih:=ih (by omega);by_cases hd:dn l q
   ·rw[wk ((off q (by omega)).2 hd) (Sd q (by omega) hd),wk hd (Sd q (by omega) hd),ih]
   ·rw[qy λx=>hd ((off q (by omega)).1 x),qy hd,ih]
 have p2:∀k,i+1+k<=ops.size->(ML t (l.setIfInBounds i true) (i+1+k)).Perm (t.on i++bJ (λr=> !bY (t.ac i) r) (ML t l (i+1+k))):=by
  intro k
  induction k with
  |zero=>intro _;show(ML t _ (i+1)).Perm (_ ++bJ _ (ML t l (i+1)));rw[wk ((ez ya).2 (.inr rfl)) ki,qy rC,p1 i (Nat.le_refl _)]
  |succ k ih=>
   intro hk;have ih:=ih (by omega);show(ML t _ (i+1+k+1)).Perm (_ ++bJ _ (ML t l (i+1+k+1)));by_cases hd:dn l (i+1+k)
   ·have kq:=Sd _ (by omega) hd
    have hb:jZ A (i+1+k) i≠true:=λhb=>rC (h.J6 qA hb (qA _ hd));obtain⟨a1,a2⟩:=h.apart (q:=i) (i:=i+1+k) (by omega) (by omega) ki kq hb;rw[wk ((off _ (by omega)).2 hd) kq,wk hd kq,jX];have e1:bJ (λr=> !bY (t.ac (i+1+k)) r) (t.on i)=t.on i:=vJ λk' hk'=>by rw[ze λhm=>a1 k' (acd _ hk') (acd _ hm)];rfl
    have e2:bJ (λr=> !bY (t.ac i) r) (t.on (i+1+k))=t.on (i+1+k):=vJ λk' hk'=>by rw[ze λhm=>a2 k' (acd _ hk') (acd _ hm)];rfl
    rw[e2];have ih2:=K6 (p:=λr=> !bY (t.ac (i+1+k)) r) ih;rw[jX,e1,ny]at ih2;refine(List.Perm.append_left _ ih2).trans ?_;rw[← List.append_assoc, ← List.append_assoc];exact List.Perm.append_right _ List.perm_append_comm
   ·rw[qy λx=>hd ((off _ (by omega)).1 x),qy hd];exact ih
 have:=p2 (ops.size-(i+1)) (by omega);rwa[show i+1+(ops.size-(i+1))=ops.size from by omega]at this
theorem Hy.atP(h:Hy P N C ops A ws F0 D0 t)(qA:Cl ops l){j:Nat}{un:List Nat}(hj:j<ops.size)(rC:¬dn l j)(hrd:∀k∈wT ops j,dn l k)(Sd:∀q,q<ops.size->dn l q->t.kd q= .d)(YF:∀q,q<j->t.kd q= .d)
  (h1:∀q,q<j->jZ A j q=true\/(t.ac q=[]/\∀x∈fI (t.on q),x∈un))(h2:∀q,j<q->q<ops.size->dn l q->t.ac q=[]):(bJ (λr=> !bY un r) (t.T j).M).Sublist (ML t l ops.size):=by
 have Fj:∀(O:Os G),bJ (λr=> !bY ([]:List Nat) r) O=O:=λO=>vJ λk _ =>rfl;have p1:∀q,q<=j->bJ (λr=> !bY un r) (ML t l q)=bJ (λr=> !bY un r) (t.T q).M:=by
  intro q
  induction q with
  |zero=>intro _;rfl
  |succ q ih=>
   intro hq;have ih:=ih (by omega);have kq:=YF q (by omega);rw[(h.sd (by omega) kq).M'];rcases h1 q (by omega)with hb|⟨ea,hu⟩
   ·rw[wk (h.J6 qA hb hrd) kq,jX,jX,ny,ih,ny]
   ·have en:bJ (λr=> !bY un r) (t.on q)=[]:=Az λk hk=>by rw[vr.2 (hu k hk)];rfl
    rw[ea,Fj,jX,en,List.nil_append];by_cases hd:dn l q
    ·rw[wk hd kq,ea,Fj,jX,en,List.nil_append,ih]
    ·rw[qy hd,ih]
 have p2:∀k,j+k<=ops.size->(ML t l j).Sublist (ML t l (j+k)):=by
  intro k
  induction k with
  |zero=>intro _;exact .refl _
  |succ k ih=>
   intro hk;have ih:=ih (by omega);show(ML t l j).Sublist (ML t l (j+k+1));by_cases hd:dn l (j+k)
   ·have hne:j<j+k:=by
     rcases Nat.eq_zero_or_pos k with e|e
     ·subst e;exact absurd hd rC
     ·omega
    rw[wk hd (Sd _ (by omega) hd),h2 _ hne (by omega) hd,Fj];exact ih.trans (List.sublist_append_right _ _)
   ·rw[qy hd];exact ih
 have:=p2 (ops.size-j) (by omega);rw[show j+(ops.size-j)=ops.size from by omega]at this;rw[← p1 j (Nat.le_refl _)];exact C9.trans this
end Go.Rw
namespace Go.Rw
open Go Go.Bw Go.RowKit
variable {G:Sg} {P:Program} {N:Nat} {C:CC G} {ops:Array Oper} {A:List Nat} {ws:List (Nat×Nat)} {F0:Fr G} {D0:List (AV G)} {t:Tc G} {l:Array Bool}
theorem KF{a a':Act}{d:Nat}{dst:Option Tmp}{u:Value}{Df:List Deferred}(ha:a'=({a with defers:=Df}:Act).put dst u)(h:dst≠some d):a'.tmps[d]? =a.tmps[d]? :=by
 subst ha;cases dst with
 |none=>rfl
 |some e=>show(a.tmps.setIfInBounds e u)[d]? =_;rw[Array.getElem?_setIfInBounds,ab5 (λq=>h (by rw[q]))]
theorem Tl{J:World->Prop}{ρ:aP}{a a':Act}{dst:Option Tmp}{u x:Value}{Df:List Deferred}{v:AV G}(ha:a'=({a with defers:=Df}:Act).put dst u)(hn:∀j w y,v= .gd j w y->dst≠some j)(h:rf J ρ a.tmps v x):rf J ρ a'.tmps v x:=by
 subst ha;cases dst with
 |none=>exact h
 |some e=>exact E6 h λj w y q hj=>hn j w y q (by rw[hj])
structure Iv(N:Nat)(C:CC G)(ops:Array Oper)(F0:Fr G)(D0:List (AV G))(t:Tc G)(c:Cx)(ρ0:aP)(J0:World->Prop)(HK X:List ay)(n0:Nat)(l:Array Bool)(a:Act)(w:World):Prop where
 size:l.size=ops.size
 cl:Cl ops l
 kd:∀q,q<ops.size->dn l q->t.kd q= .d
 ex:∃(ρ:aP) (J:World->Prop) (Y:List ay),ρ0.to ρ n0/\(∀w,J w->J0 w)/\Rl c N ρ J HK (Y++X) (⟨F0,[],D0⟩::C) ⟨FL t l ops.size,ML t l ops.size,(t.T ops.size).nx,[]⟩ a w/\
  ∀q,q<ops.size->¬dn l q->∀r,(t.T q).nx<=r->r<(t.T (q+1)).nx->ρ r=none
section
variable {c:Cx} {ρ0:aP} {J0:World->Prop} {HK X:List ay} {n0 i:Nat} {a:Act} {w:World} {K:Act->World->Prop} {Q:Exit->Act->World->Prop}
theorem UK(hs:l.size=ops.size)(qA:Cl ops l)(hi:i<ops.size)(hrd:∀k∈wT ops i,dn l k):Cl ops (l.setIfInBounds i true):=λj hj k hk=>by
 have ya:i<l.size:=by omega
 rcases(ez ya).1 hj with h|rfl
 ·exact(ez ya).2 (.inl (qA j h k hk))
 ·exact(ez ya).2 (.inl (hrd k hk))
theorem QE(h:Hy P N C ops A ws F0 D0 t)(hs:l.size=ops.size)(qA:Cl ops l)(hi:i<ops.size)(rC:¬dn l i){o:Oper}(ho:ops[i]? =some o){nx:Nat}(hpk:Vo A ws o i nx (t.pr i)){ρ ρ':aP}{J J':World->Prop}{a a':Act}{u2:Value}{Df:List Deferred}
  (ha:a'=({a with defers:=Df}:Act).put o.dst u2)(hJ:∀w,J' w->J w)(hle:ρ.le ρ')(hfs:mV J ρ (FL t l ops.size) a.tmps)(hn:∀d v,(d,v)∈t.pr i->v.lt nx=true->∃u,a'.tmps[d]? =some u/\rf J' ρ' a'.tmps v u):mV J' ρ' (FL t (l.setIfInBounds i true) ops.size) a'.tmps:=λd v e=>by
 obtain⟨m1,m2⟩:=h.fb (d:=d) hs qA hi rC;by_cases hd:(i,d)∈ws
 ·obtain⟨o',h1,h2⟩:=h.mem.1 hd
  rw[ho]at h1;cases h1;rcases hpk with⟨e1,_⟩|⟨d',v',e1,e2,e3,_⟩
  ·rw[e1]at h2;cases h2
  ·rcases m2 hd v e with q|q
   ·rw[e2]at q;cases q
   ·have q2:=q
    rw[e2]at q2;simp at q2;exact hn d v q (by rw[q2.2];exact e3)
 ·rw[m1 hd]at e
  obtain⟨u,u1,u3⟩:=hfs d v e;refine⟨u,?_,Tl ha (λj w y q hj=>?_) ((u3.mono hJ).ext hle)⟩
  ·rw[KF ha λq=>hd (h.mem.2 ⟨o,ho,q⟩)];exact u1
  ·subst q;exact h.gd qA rC e (h.mem.2 ⟨o,ho,hj⟩)
theorem Hy.step(h:Hy P N C ops A ws F0 D0 t){i:Nat}(hi:i<ops.size):(t.T i).nx<=(t.T (i+1)).nx:=by
 by_cases hk:t.kd i= .d
 ·obtain⟨S1,_,_,_,e,e2,_⟩:=(h.sd hi hk).run
  rw[e2];exact e
 ·rw[(h.un hi hk).1];exact Nat.le_refl _
theorem Hy.Xo(h:Hy P N C ops A ws F0 D0 t){i:Nat}:∀k,i+k<=ops.size->(t.T i).nx<=(t.T (i+k)).nx:=by
 intro k
 induction k with
 |zero=>intro _;exact Nat.le_refl _
 |succ k ih=>intro hk;exact Nat.le_trans (ih (by omega)) (h.step (i:=i+k) (by omega))
theorem Hy.le(h:Hy P N C ops A ws F0 D0 t){i j:Nat}(hij:i<=j)(hj:j<=ops.size):(t.T i).nx<=(t.T j).nx:=by have:=h.Xo (i:=i) (j-i) (by omega);rwa[show i+(j-i)=j from by omega]at this
theorem JR{z ac:List Nat}{O:Os G}(hz:∀x∈ac,x∈z):bJ (bY ac) (bJ (bY z) O)=bJ (bY ac) O:=by rw[ny];refine vJ λk hk=>vr.2 (hz k (vr.1 (EG hk).1))
theorem RO.gH{J:World->Prop}{ρ:aP}{O O':Os G}(h:O.Perm O'):∀{H:List ay},RO J ρ O H->∃H',H.Perm H'/\RO J ρ O' H':=by
 induction h with
 |nil=>intro H r;exact⟨H, .refl _,r⟩
 |cons x _ ih=>
  intro H r;cases r with
  |cons h k=>obtain⟨H',p,q⟩:=ih k;exact⟨_,p.cons _, .cons h q⟩
 |swap x y l=>
  intro H r;cases r with
  |cons h k=>cases k with
   |cons h2 k2=>exact⟨_, .swap _ _ _, .cons h2 (.cons h k2)⟩
 |trans _ _ i1 i2=>intro H r;obtain⟨H1,p1,q1⟩:=i1 r;obtain⟨H2,p2,q2⟩:=i2 q1;exact⟨H2,p1.trans p2,q2⟩
theorem RO.sub{J:World->Prop}{ρ:aP}{O O':Os G}(h:O'.Sublist O):∀{H:List ay},RO J ρ O H->∃H',H'.Sublist H/\RO J ρ O' H':=by
 induction h with
 |slnil=>intro H r;exact⟨H, .refl _,r⟩
 |cons x _ ih=>
  intro H r;cases r with
  |cons h k=>obtain⟨H',p,q⟩:=ih k;exact⟨H',p.cons _,q⟩
 |cons_cons x _ ih=>
  intro H r;cases r with
  |cons h k=>obtain⟨H',p,q⟩:=ih k;exact⟨_,p.cons_cons _, .cons h q⟩
def aP.KS(ρ:aP)(n:Nat):aP:=λr=>if r<n then ρ r else none
theorem aP.Fv{ρ:aP}{n r:Nat}(h:r<n):ρ.KS n r=ρ r:=ab4 h
theorem aP.Qt{ρ:aP}{n:Nat}:(ρ.KS n).fr n:=λr hr=>ab5 (Nat.not_lt.2 hr)
theorem R7(h:Hy P N C ops A ws F0 D0 t)(cl:Cl ops l)(hi:i<ops.size)(rC:¬dn l i)(hrd:∀k∈wT ops i,dn l k){rd ac:List Nat}(hz:bJ (bY (rd++ac)) (ML t l ops.size)=bJ (bY (rd++ac)) (t.T i).M)
  (lC:uI (t.T i).nx (TD F0 D0 (t.T i).M rd ac::C)=true)(lF:M3 (t.T i).nx (gj (λd=>xO A i d ws) (t.T i).F)=true)(lO:qB (t.T i).nx (bJ (bY ac) (t.T i).M)=true){ρ:aP}{J:World->Prop}{Y:List ay}
  (hr:Rl c N ρ J HK (Y++X) (⟨F0,[],D0⟩::C) ⟨FL t l ops.size,ML t l ops.size,(t.T ops.size).nx,[]⟩ a w):
  ∃H2,RO J ρ (bJ (λq=> !bY ac q) (ML t l ops.size)) H2/\Rl c N (ρ.KS (t.T i).nx) J (H2++HK) (Y++X) (TD F0 D0 (t.T i).M rd ac::C) ⟨gj (λd=>xO A i d ws) (t.T i).F,bJ (bY ac) (t.T i).M,(t.T i).nx,[]⟩ a w:=by
 have hag:∀r,r<(t.T i).nx->ρ.KS (t.T i).nx r=ρ r:=λr hr=>aP.Fv hr;obtain⟨HS,q1,q3⟩:=hr.hp;obtain⟨H1,H2,k1,k2,k3⟩:=q1.O8 (p:=bY ac);have eac:bJ (bY ac) (ML t l ops.size)=bJ (bY ac) (t.T i).M:=by have:=congrArg (bJ (bY ac)) hz;rwa[JR λx hx=>acd _ hx,JR λx hx=>acd _ hx]at this
 have Hx:RO J ρ (bJ (bY ac) (t.T i).M) H1:=by rw[← eac];exact k1
 have T9:=Bb lC;have YE:=M4 lC;refine⟨H2,k2,hr.tm,?_,⟨hr.si.s,λq=>hr.si.n (zf q)⟩,λd v e=>?_,λy hy=>?_,λr o e=>?_,⟨H1,Hx.di hag lO,?_⟩,hr.kn,aP.Qt⟩
 ·exact DR.di hag hr.df T9.2
 ·have e0:=e
  have e:bP (gj (λd=>xO A i d ws) (t.T i).F) d=some v:=e;rw[JS]at e;cases hb:xO A i d ws with
  |false=>rw[hb]at e;cases e
  |true=>rw[hb]at e;obtain⟨u,u1,u2⟩:=hr.fs d v ((h.bz cl hi hrd rC hb).trans e);exact⟨u,u1,u2.di hag (RY lF e0)⟩
 ·rcases List.mem_cons.1 hy with rfl|hy
  ·exact mV.di (F:=F0) hag (YE _ List.mem_cons_self) (hr.fc _ List.mem_cons_self)
  ·exact(hr.fc y (ack _ hy)).di hag (YE y (ack _ hy))
 ·have hlo:=M1 T9.1 e
  have e:bP (bJ (λq=>bY rd q&& !bY ac q) (t.T i).M++iZ C) r=some o:=e;rw[g8]at e;split at e
  ·rename_i o' he
   cases e;rw[FF]at he;cases hb:(bY rd r&& !bY ac r)with
   |false=>rw[hb]at he;cases he
   |true=>
    rw[hb]at he;simp only[ab7]at hb;have e2:=congrArg (λO=>bP O r) hz;simp only[FF]at e2;rw[vr.2 (ace _ (vr.1 hb.1))]at e2;have e3:bP (bJ (λq=> !bY ac q) (ML t l ops.size)) r=some o:=by rw[FF,hb.2];exact e2.trans he
    obtain⟨x,x1,x2⟩:=k2.lk e3;exact⟨x,ace _ x1,x2.di hag hlo⟩
  ·obtain⟨x,x1,x2⟩:=hr.kc r o e
   exact⟨x,acd _ x1,x2.di hag hlo⟩
 ·refine q3.gH ?_
  rw[List.append_assoc, ← List.append_assoc H1];exact k3.append_right _
theorem aaZ(h:Hy P N C ops A ws F0 D0 t)(hv:Iv N C ops F0 D0 t c ρ0 J0 HK X n0 l a w)(h0:n0<=(t.T i).nx)(hi:i<ops.size)(rC:¬dn l i)(hrd:∀k∈wT ops i,dn l k)(hk:t.kd i= .d)
  (hz:bJ (bY (t.rd i++t.ac i)) (ML t l ops.size)=bJ (bY (t.rd i++t.ac i)) (t.T i).M)(hK:∀a' w',Iv N C ops F0 D0 t c ρ0 J0 HK X n0 (l.setIfInBounds i true) a' w'->K a' w'):
  wpOpIn (FA c.ro) 0 P ops Q i K a w:=by
 have ho:ops[i]? =some ops[i]:=Array.getElem?_eq_getElem hi;have hsi:=h.sd hi hk;obtain⟨size,cl,kd,ρ,J,Y,hto,hJ,hr,hun⟩:=hv;obtain⟨H2,hro,hr'⟩:=R7 h cl hi rC hrd hz hsi.lC hsi.lF hsi.lO hr;obtain⟨S1,hU,hD,hon,hn,hx',hpr⟩:=hsi.run;have hag:∀r,r<(t.T i).nx->ρ.KS (t.T i).nx r=ρ r:=λr hr=>aP.Fv hr;have T9:=Bb hsi.lC;have YE:=M4 hsi.lC;refine MP ho (hU c _ J (H2++HK) (Y++X) a w (λe a' w'=>e= .normal/\∃(ρ':aP) (J':World->Prop) (Y':List ay),(ρ.KS (t.T i).nx).to ρ' (t.T i).nx/\(∀w,J' w->J w)/\Rl c N ρ' J' (H2++HK) (Y'++(Y++X)) (TD F0 D0 (t.T i).M (t.rd i) (t.ac i)::C) S1 a' w') hr' λρ' J' Y' a' w' me k1 k2 k3 k4=>⟨fV k3,ρ',J',Y',k1,k2,k4⟩) ?_ (λe a w he q=>absurd q.1 he);rintro a' w' ⟨_,ρ',J',Y',m1,m2,m3⟩ ⟨u2,Df,ha⟩;have ya:i<l.size:=by omega
 let ρ2:aP:=λr=>if(t.T i).nx<=r/\r<(t.T (i+1)).nx then ρ' r else ρ r
 have hle:ρ.le ρ2:=λr v e=>by
  show(if _ then _ else _)=_;by_cases hc:(t.T i).nx<=r/\r<(t.T (i+1)).nx
  ·rw[hun i hi rC r hc.1 hc.2]at e;cases e
  ·rw[ab5 hc];exact e
 have Um:∀r,r<(t.T (i+1)).nx->ρ2 r=ρ' r:=λr hr=>by
  show(if _ then _ else _)=_;by_cases hc:(t.T i).nx<=r
  ·rw[ab4 ⟨hc,hr⟩]
  ·rw[ab5 λq=>hc q.1,m1 r (by omega),hag r (by omega)]
 have Ul:∀r,r<(t.T i).nx->ρ2 r=ρ' r:=λr hr=>Um r (Nat.lt_of_lt_of_le hr (h.step hi));have abh:∀r,r<(t.T i).nx->ρ2 r=ρ r:=λr hr=>by show(if _ then _ else _)=_;rw[ab5 (by omega)]
 obtain⟨HG,s1,s3⟩:=m3.hp;rw[hon]at s1;refine hK _ _ ⟨by simpa using size,UK size cl hi hrd,λq hq hd=>?_,ρ2,J',Y'++Y,λr hr=>(abh r (by omega)).trans (hto r hr),λw q=>hJ w (m2 w q),?_,λq hq hd r r1 r2=>?_⟩
 ·rcases(ez ya).1 hd with hd|rfl
  ·exact kd q hq hd
  ·exact hk
 ·obtain⟨Hn,pn,rn⟩:=RO.gH (h.Xn size cl hi rC kd hk).symm ((s1.di Um hsi.lN).app (hro.up m2 hle))
  refine⟨m3.tm,?_,⟨m3.si.s,hr.si.n⟩,?_,λy hy=>?_,λr o e=>?_,⟨Hn,rn,?_⟩,by rw[List.append_assoc];exact m3.kn,λr hr'=>?_⟩
  ·have:=m3.df
   rw[hD]at this;exact DR.di (n:=(t.T i).nx) Ul this T9.2
  ·refine QE h size cl hi rC ho hsi.pk ha m2 hle hr.fs λd v hm hlt=>?_
   obtain⟨u,u1,u3⟩:=m3.fs d v (hpr d v hm);exact⟨u,u1,u3.di Um hlt⟩
  ·rcases List.mem_cons.1 hy with rfl|hy
   ·exact mV.di (F:=F0) Ul (YE _ List.mem_cons_self) (m3.fc _ List.mem_cons_self)
   ·exact(m3.fc y (ack _ hy)).di Ul (YE y (ack _ hy))
  ·obtain⟨x,x1,x2⟩:=hr.kc r o e
   exact⟨x,x1,x2.up m2 hle⟩
  ·refine s3.gH ?_
   have:=pn.append_right (HK++((Y'++Y)++X));simpa[List.append_assoc]using this
  ·have hr':(t.T ops.size).nx<=r:=hr'
   have:(t.T (i+1)).nx<=(t.T ops.size).nx:=h.le (by omega) (Nat.le_refl _);show(if _ then _ else _)=_;rw[ab5 (by omega)];exact hr.fr r hr'
 ·have Nh:¬dn l q:=λx=>hd ((ez ya).2 (.inl x))
  have hne:q≠i:=λx=>hd ((ez ya).2 (.inr x));show(if _ then _ else _)=_;have:¬((t.T i).nx<=r/\r<(t.T (i+1)).nx):=λ⟨x1,x2⟩=>by
   rcases Nat.lt_or_ge q i with hlt|hge
   ·have:=h.le (i:=q+1) (j:=i) hlt (Nat.le_of_lt hi);omega
   ·have:=h.le (i:=i+1) (j:=q) (by omega) (Nat.le_of_lt hq);omega
  rw[ab5 this];exact hun q hq Nh r r1 r2
theorem P8{n:Nat}{O O':Os G}(h:O'.Sublist O):qB n O=true->qB n O'=true:=by
 induction h with
 |slnil=>exact id
 |cons x _ ih=>
  obtain⟨k,v⟩:=x;intro h;cases v<;>simp only[qB,ab7]at h
  ·exact ih h.2.2
  ·exact ih h.2
  ·exact ih h.2
  ·exact ih h.2
  ·exact ih h.2.2
  ·exact ih h.2.2
 |cons_cons x _ ih=>
  obtain⟨k,v⟩:=x;intro h;cases v<;>simp only[qB,ab7]at h ⊢
  ·exact⟨h.1,h.2.1,ih h.2.2⟩
  ·exact⟨h.1,ih h.2⟩
  ·exact⟨h.1,ih h.2⟩
  ·exact⟨h.1,ih h.2⟩
  ·exact⟨h.1,h.2.1,ih h.2.2⟩
  ·exact⟨h.1,h.2.1,ih h.2.2⟩
theorem aaY(h:Hy P N C ops A ws F0 D0 t)(hv:Iv N C ops F0 D0 t c ρ0 J0 HK X n0 l a w)(h0:n0<=(t.T i).nx)(hi:i<ops.size)(rC:¬dn l i)(hrd:∀k∈wT ops i,dn l k){rd ac:List Nat}{v:AV G}{S':AS G}(hp:∀o,ops[i]? =some o->StP P N C ops A ws F0 D0 o i rd ac v (t.T i) S')(YF:∀q,q<i->t.kd q= .d)(hah:∀q,i<q->q<ops.size->zS A i (rd++ac) t q)(hq:Ry c N C ρ0 J0 HK X n0 S' (.sC v) Q):
  wpOpIn (FA c.ro) 0 P ops Q i K a w:=by
 have ho:ops[i]? =some ops[i]:=Array.getElem?_eq_getElem hi;have hsi:=hp _ ho;obtain⟨S1,hU,hD,hn,rfl⟩:=hsi.run;obtain⟨size,cl,kd,ρ,J,Y,hto,hJ,hr,hun⟩:=hv;have hz:=h.W7 cl (rd++ac) hi rC hrd kd (λq q1 _ hb=>by
  rcases RR hsi.chk _ (h.lg (YF q q1) (Nat.le_of_lt hi) q1)with e|e
  ·exact absurd e hb
  ·exact e.1) (λq q1 q2 hd=>by
  rcases hah q q1 q2 with⟨_,e1,e2⟩|⟨e,_⟩
  ·rw[e1];exact e2
  ·rw[kd q q2 hd]at e;cases e)
 obtain⟨H2,hro,hr'⟩:=R7 h cl hi rC hrd hz hsi.lC hsi.lF hsi.lO hr;have hat:=h.atP (un:=SV A i (t.T i).lg) cl hi rC hrd kd YF (λq q1=>by
  have hm:=h.lg (YF q q1) (Nat.le_of_lt hi) q1;cases hb:jZ A i q with
  |true=>exact .inl rfl
  |false=>
   rcases Xi hsi.chu _ hm with e|e
   ·have e:jZ A i q=true:=e
    rw[hb]at e;cases e
   ·exact .inr ⟨e,WU _ hm hb⟩) (λq q1 q2 hd=>by
  rcases hah q q1 q2 with⟨_,e1,_⟩|⟨e,_⟩
  ·exact e1
  ·rw[kd q q2 hd]at e;cases e)
 obtain⟨HL,sl,rl⟩:=hro.sub (K5 (p:=λq=> !bY ac q) hat);have T9:=Bb hsi.lC;have Qs:uI (t.T i).nx C=true:=by have:=hsi.lC;simp only[uI,ab7]at this;exact this.2.2.2
 refine MP ho (hU c _ J (H2++HK) (Y++X) a w (λe a' w'=>e≠ .normal/\Q e a' w') hr' λρ' J' Y' a' w' me k1 k2 k3 k4=>⟨jY (by simp) k3,?_⟩) (λa w q=>absurd rfl q.1) (λe a w _ q=>q.2);have hag:∀r,r<(t.T i).nx->ρ' r=ρ r:=λr hr=>(k1 r hr).trans (aP.Fv hr);obtain⟨HG,s1,s3⟩:=k4.hp;refine hq ρ' J' (Y'++Y) a' w' me (λr hr=>(hag r (by omega)).trans (hto r hr)) (λw q=>hJ w (k2 w q)) k3 ?_;refine⟨k4.tm,?_,⟨k4.si.s,hr.si.n⟩,k4.fc _ List.mem_cons_self,λy hy=>k4.fc y (ack _ hy),λr o e=>?_,⟨HG++HL,s1.app ((rl.di hag (P8 (C9.trans C9) hsi.lM)).up k2 (aP.le_refl _)),?_⟩,by rw[List.append_assoc];exact k4.kn,k4.fr⟩
 ·have:=k4.df
  rw[hD]at this;exact this
 ·obtain⟨x,x1,x2⟩:=hr.kc r o e
  exact⟨x,x1,(x2.di hag (M1 (Bb Qs).1 e)).up k2 (aP.le_refl _)⟩
 ·refine s3.sub ?_
  have:((HG++HL)++(HK++((Y'++Y)++X))).Sublist ((HG++H2)++(HK++((Y'++Y)++X))):=(List.Sublist.append_left sl HG).append (.refl _);simpa[List.append_assoc]using this
theorem Uu(h:Hy P N C ops A ws F0 D0 t)(hd:∀q,q<ops.size->dn l q):∀q,q<=ops.size->FL t l q=(t.T q).F:=by
 intro q
 induction q with
 |zero=>intro _;rfl
 |succ q ih=>intro hq;rw[xD (hd q (by omega)),h.F' (by omega),ih (by omega)]
theorem TN(h:Hy P N C ops A ws F0 D0 t)(hB:Lt ops []=true){e:Ex G}{S':AS G}(hrun:SD P N C ops A ws F0 D0 ops.toList 0 t e S')(h0:n0<=(t.T 0).nx)(hq:Ry c N C ρ0 J0 HK X n0 S' e Q):∀(fuel:Nat) (l:Array Bool) (a:Act) (w:World),pV ops l<=fuel->Iv N C ops F0 D0 t c ρ0 J0 HK X n0 l a w->wpAnyIn (FA c.ro) 0 P .any ops Q fuel l a w:=by
 have fin:∀(l:Array Bool) (a:Act) (w:World),Iv N C ops F0 D0 t c ρ0 J0 HK X n0 l a w->(∀q,q<ops.size->dn l q)->Q .normal a w:=by
  intro l a w hv hd;obtain⟨size,cl,kd,ρ,J,Y,hto,hJ,hr,_⟩:=hv;rcases hrun.2 with⟨rfl,rfl,hk⟩|⟨j,o,v,_,_,_,j2,j3,_⟩
  ·have hlen:0+ops.toList.length=ops.size:=by simp
   rw[hlen]at hq;rw[Vt h (λq hq=>⟨hd q hq,kd q hq (hd q hq)⟩) _ (Nat.le_refl _),Uu h hd _ (Nat.le_refl _)]at hr;refine hq ρ J Y a w .normal hto hJ trivial ?_;obtain⟨HS,q1,q3⟩:=hr.hp;refine⟨hr.tm,hr.df,⟨hr.si.s,hr.si.n⟩,λd v e=>?_,λy hy=>hr.fc y (ack _ hy),hr.kc,⟨HS,q1,q3⟩,hr.kn,hr.fr⟩;have e:bP ((t.T ops.size).F++F0) d=some v:=e;rw[g8]at e;split at e
   ·rename_i v' hv;cases e;exact hr.fs d _ hv
   ·exact hr.fc _ List.mem_cons_self d v e
  ·have hj:j<ops.size:=by
    have:=(List.getElem?_eq_some_iff.1 j2).1;simpa using this
   have:=kd j hj (hd j hj);rw[j3]at this;cases this
 intro fuel
 induction fuel with
 |zero=>
  intro l a w hu hv;have zv:∀i,i<ops.size->dn l i:=λi hi=>by unfold pV at hu;have h0:(List.range ops.size).filter (λi=> !l.getD i false)=[]:=List.length_eq_zero_iff.1 (by omega);rw[List.filter_eq_nil_iff]at h0;have:=h0 i (by simpa using hi);simpa[dn]using this
  refine⟨?_,fin l a w hv zv⟩;cases hr:Region.ready .any ops l with
  |nil=>rfl
  |cons i r=>
   have:i∈Region.ready .any ops l:=by rw[hr];simp
   obtain⟨h1,h2,_⟩:=(Go.Bw.r7 hv.size).1 this;exact absurd (zv i h1) h2
 |succ fuel ih=>
  intro l a w hu hv;refine⟨λhr=>fin l a w hv (He hB hv.size hr),λi hi=>?_⟩;obtain⟨h1,h2,h3⟩:=(Go.Bw.r7 hv.size).1 hi;have Z1:pV ops (l.setIfInBounds i true)<=fuel:=by have:=Cz hv.size h1 h2;omega
  have hi0:n0<=(t.T i).nx:=Nat.le_trans h0 (h.le (Nat.zero_le _) (Nat.le_of_lt h1));have go:t.kd i= .d->wpOpIn (FA c.ro) 0 P ops Q i (wpAnyIn (FA c.ro) 0 P .any ops Q fuel (l.setIfInBounds i true)) a w:=by intro hk;refine aaZ h hv hi0 h1 h2 h3 hk ?_ λa' w' GI=>ih _ a' w' Z1 GI;refine h.W7 hv.cl _ h1 h2 h3 hv.kd (λq q1 kq hb=>(h.apart h1 q1 kq hk hb).1) λq q1 q2 hd=>?_;have hb:jZ A q i≠true:=λhb=>h2 (h.J6 hv.cl hb (hv.cl _ hd));obtain⟨_,a2⟩:=h.apart q2 q1 hk (hv.kd q q2 hd) hb;exact a2
  have hlen:ops.toList.length=ops.size:=by simp
  rcases hrun.2 with⟨_,_,hk⟩|⟨j,o,v,rd,ac,_,j2,j3,rfl,j5,j6,j7⟩
  ·exact go (hk i (Nat.zero_le _) (by omega))
  ·rcases Nat.lt_trichotomy i j with hlt|rfl|hgt
   ·exact go (j6 i (Nat.zero_le _) hlt)
   ·refine aaY h hv hi0 h1 h2 h3 (v:=v) (S':=S') (λo' ho'=>?_) (λq q1=>j6 q (Nat.zero_le _) q1) (λq q1 q2=>j7 q q1 (by omega)) hq
    have j2:ops[i]? =some o:=by simpa using j2
    rw[ho']at j2;cases j2;exact j5
   ·rcases j7 i hgt (by omega)with⟨e,_⟩|⟨_,e⟩
    ·exact go e
    ·have hd:=h.J6 hv.cl e h3
     have hj:j<ops.size:=by omega
     have:=hv.kd j hj hd;rw[j3]at this;cases this
end
section
variable {Z:Type} {rec:WT G Z} {cp:List Nat} {z:Z} {K:Ex G->AS G->Option Z} {S:AS G}
theorem UF(aY:mS P rec){id:Nat}{ops:Array Oper}{tb:uf P G}(h:drR tb rec N cp C (.ops ops ops.toList) S K=some z):∃e S',K e S'=some z/\S.nx<=S'.nx/\US P N C (.code (.region id ops true)) S S' e:=by
 unfold drR at h;dsimp only at h;cases hb:(KH (BO ops ops.size) (vL 0 ops.toList) (vL 0 ops.toList)&&(Lt ops []&&P.follows .mixedOrders))with
 |false=>rw[hb]at h;cases h
 |true=>
  rw[hb]at h;simp only[ab7]at hb;obtain⟨b1,b2,b3⟩:=hb;obtain⟨t,e,S',k1,k2,k3⟩:=Zc aY h;have hy:Hy P N C ops (BO ops ops.size) (vL 0 ops.toList) (gj (λd=> !(Pk d (vL 0 ops.toList))&& !KW (vL 0 ops.toList) S.F d) S.F) S.D t:=by
   refine⟨rfl,rfl,b1,λq o ho=>k3.1 q o (Nat.zero_le _) (by simpa using ho),λd j w x e q=>?_⟩;rw[k2]at e;have e:bP (gj (λd=>Pk d (vL 0 ops.toList)&& !KW (vL 0 ops.toList) S.F d) S.F) d=some (.gd j w x):=e;rw[JS]at e;cases hc:(Pk d (vL 0 ops.toList)&& !KW (vL 0 ops.toList) S.F d)with
   |false=>rw[hc]at e;cases e
   |true=>rw[hc]at e;simp only[cond_true]at e;simp only[ab7,Bool.not_eq_true']at hc;have:=hc.2;unfold KW at this;rw[e]at this;exact WJ this q
  have GJ:S.nx<=S'.nx:=by
   have h0:(t.T 0).nx=S.nx:=by rw[k2]
   rcases k3.2 with⟨_,rfl,_⟩|⟨j,o,v,rd,ac,_,j2,_,_,hp,_⟩
   ·have:=hy.le (Nat.zero_le _) (Nat.le_refl ops.size)
    simp only[Nat.zero_add,Array.length_toList]at this ⊢;omega
   ·have hj:j<ops.size:=by
     have:=(List.getElem?_eq_some_iff.1 j2).1;simpa using this
    have:=hy.le (Nat.zero_le j) (Nat.le_of_lt hj);obtain⟨S1,_,_,hn,rfl⟩:=hp.run;show S.nx<=S1.nx;omega
  refine⟨e,S',k1,GJ,λc ρ J HK X a w Q hr hq=>?_⟩;refine wpIn_region_any b3 ?_;have hdn:∀j,¬dn (Array.replicate ops.size false) j:=λj h=>by unfold dn at h;simp only[Array.getD_eq_getD_getElem?,Array.getElem?_replicate]at h;split at h<;>simp at h
  have hle:S.nx<=(t.T ops.size).nx:=by have:=hy.le (Nat.zero_le _) (Nat.le_refl ops.size);rw[k2]at this;exact this
  refine TN hy b2 k3 (by rw[k2];exact Nat.le_refl _) hq ops.size _ a _ ?_ ⟨by simp,λj hj=>absurd hj (hdn j),λq _ hd=>absurd hd (hdn q),ρ,J,[],aP.cB _ _,λ_ h=>h,?_,λq hq _ r r1 _ =>hr.fr r ?_⟩
  ·unfold pV
   exact Nat.le_trans (List.length_filter_le _ _) (by simp)
  ·have hF:FL t (Array.replicate ops.size false) ops.size=(t.T 0).F:=by
    have:∀q,FL t (Array.replicate ops.size false) q=(t.T 0).F:=by
     intro q
     induction q with
     |zero=>rfl
     |succ q ih=>rw[wm (hdn q),ih]
    exact this _
   have hM:ML t (Array.replicate ops.size false) ops.size=(t.T 0).M:=by
    have:∀q,ML t (Array.replicate ops.size false) q=(t.T 0).M:=by
     intro q
     induction q with
     |zero=>rfl
     |succ q ih=>rw[qy (hdn q),ih]
    exact this _
   rw[hF,hM];have e0:=k2;rw[k2];obtain⟨HS,q1,q3⟩:=hr.hp;refine⟨hr.tm,hr.df,⟨hr.si.s.drawn _,hr.si.n⟩,hr.fs.O8,λy hy=>?_,λr o e=>hr.kc r o e,⟨HS,q1,⟨λr hr=>q3.holds r hr,q3.own,q3.apart⟩⟩,hr.kn,λr hr'=>hr.fr r (Nat.le_trans hle hr')⟩;rcases List.mem_cons.1 hy with rfl|hy
   ·exact hr.fs.O8
   ·exact hr.fc y hy
  ·have:=hy.le (Nat.zero_le q) (Nat.le_of_lt hq)
   rw[k2]at this;exact Nat.le_trans this r1
end
end Go.Rw
namespace Go.Rw
open Go Go.Bw Go.RowKit
variable {G:Sg} {P:Program} {N:Nat} {C:CC G} {Z:Type}
theorem y6{S:AS G}{l:List (Src×Sh)}:(ji C S l).nx=S.nx:=by
 unfold ji;split
 ·exact sZ _ _
 ·rfl
theorem Pp{cf:Cf}{S S3:AS G}{e:Ex G}(l:List (Src×Sh))(h:US P N C cf (ji C S l) S3 e):US P N C cf S S3 e:=by
 unfold ji at h;split at h
 ·exact yX _ h
 ·exact h
theorem Rl.ji{c:Cx}{ρ:aP}{J:World->Prop}{HK X:List ay}{S:AS G}{a:Act}{w:World}(l:List (Src×Sh))(h:Rl c N ρ J HK X C S a w):∃(J':World->Prop) (Y:List ay),(∀w,J' w->J w)/\Rl c N ρ J' HK (Y++X) C (ji C S l) a w:=by
 unfold Go.Rw.ji;split
 ·exact h.vF _
 ·exact⟨J,[],λ_ h=>h,h⟩
def lu(N:Nat)(C:CC G):List Nat->AV G->AS G->Option (AS G)
 |[], .nil,S=>some S
 |p::ps, .cons v r,S=>match rq N C (some p) v S with
  |some S'=>bif rZ v then lu N C ps r S' else none
  |none=>none
 |_,_,_ =>none
theorem J5{z:Z}:∀{ps:List Nat} {v:AV G} {S:AS G} {k:AS G->Option Z},Dn N C ps v S k=some z->∃S',lu N C ps v S=some S'/\k S'=some z:=by
 intro ps
 induction ps with
 |nil=>intro v S k h;cases v<;>first|(exact⟨S,rfl,h⟩)|(simp[Dn]at h)
 |cons p ps ih=>
  intro v S k h;cases v<;>first|(simp[Dn]at h;done)|skip
  rename_i v' r;simp only[Dn]at h;split at h
  ·rename_i S2 hS
   cases hb:rZ v' with
   |false=>rw[hb]at h;cases h
   |true=>rw[hb]at h;obtain⟨S3,k1,k2⟩:=ih h;exact⟨S3,by simp only[lu,hS,hb,cond_true];exact k1,k2⟩
  ·cases h
theorem Dm:∀{ps:List Nat} {v:AV G} {S S':AS G},lu N C ps v S=some S'->S'.nx=S.nx:=by
 intro ps
 induction ps with
 |nil=>intro v S S' e;cases v<;>first|(simp[lu]at e;done)|(have e:S=S':=(by simpa[lu]using e);rw[e])
 |cons p ps ih=>
  intro v S S' e;cases v<;>first|(simp[lu]at e;done)|skip
  rename_i v r;simp only[lu]at e;split at e
  ·rename_i S2 hS
   cases hb:rZ v with
   |false=>rw[hb]at e;cases e
   |true=>rw[hb]at e;exact(ih e).trans (kr hS)
  ·cases e
theorem Rl.bind{c:Cx}{ρ:aP}{J:World->Prop}{HK X:List ay}{w:World}:∀{ps:List Nat} {v:AV G} {S S':AS G} {a:Act} {us:List Value},Rl c N ρ J HK X C S a w->lu N C ps v S=some S'->rl J ρ v us->
  Rl c N ρ J HK X C S' {a with tmps:=(ps.zip us).foldl (λt q=>t.setIfInBounds q.1 q.2) a.tmps} w/\S'.nx=S.nx:=by
 intro ps
 induction ps with
 |nil=>
  intro v S S' a us h e hv;cases v<;>first|(simp[lu]at e;done)|skip
  have e:S=S':=by simpa[lu]using e
  subst e;exact⟨h,rfl⟩
 |cons p ps ih=>
  intro v S S' a us h e hv;cases v<;>first|(simp[lu]at e;done)|skip
  rename_i v r;simp only[lu]at e;split at e
  ·rename_i S2 hS
   cases hb:rZ v with
   |false=>rw[hb]at e;cases e
   |true=>rw[hb]at e;obtain⟨u,us',rfl,h1,h2⟩:=hv;have hp:=h.put hS (Gf h1 _);obtain⟨q1,q2⟩:=ih hp e h2;exact⟨q1,q2.trans (kr hS)⟩
  ·cases e
theorem C4{J:World->Prop}{ρ:aP}{A B:Fr G}{t:Array Value}(h:mV J ρ A t)(k:mV J ρ B t):mV J ρ (A++B) t:=λd v e=>by
 rw[g8]at e;split at e
 ·rename_i v' hv;cases e;exact h d _ hv
 ·exact k d v e
theorem NL{J:World->Prop}{ρ:aP}{t:Array Value}:∀{C:CC G},FC J ρ C t->mV J ρ (Y5 C) t:=by
 intro C
 induction C with
 |nil=>intro _ d v e;cases e
 |cons y r ih=>intro h;exact C4 (h y List.mem_cons_self) (ih λz hz=>h z (ack _ hz))
theorem TA:∀{O:Os G} {r:Nat} {o:Ob G},Fg O=true->bP O r=some o->M9 o=false:=by
 intro O
 induction O with
 |nil=>intro r o _ h;cases h
 |cons p q ih=>
  obtain⟨k,u⟩:=p;intro r o h e;simp only[Fg,ab7,Bool.not_eq_true']at h;simp only[bP]at e;cases hb:Nat.beq k r with
  |true=>rw[hb]at e;cases e;exact h.1
  |false=>rw[hb]at e;exact ih h.2 e
theorem Rl.Mk{c:Cx}{ρ:aP}{J:World->Prop}{X B:List ay}{d0:ay}{l:Nat}{o o':Obj}{S:AS G}{a:Act}{w:World}(h:Rl c N ρ J (d0:: .obj l o::B) X C S a w)(ho:∀b,N4 b o->N4 b o')(YA:Fg (iZ C)=true)(hnm:∀es ck,o≠ .map es ck:=by intro _ _ h;cases h):
  Rl c N ρ J (d0:: .obj l o'::B) X C S a (w.putObj l o')/\w.heap[l]? =some o:=by
 obtain⟨HS,q1,q3⟩:=h.hp;have pm:∀x:ay,(HS++((d0::x::B)++X)).Perm (x::(HS++(d0::(B++X)))):=λx=>by simpa using(List.perm_middle (a:=x) (l₁:=HS++[d0]) (l₂:=B++X))
 have q4:=q3.gH (pm _);have hm:ay.obj l o∈(ay.obj l o::(HS++(d0::(B++X)))):=List.mem_cons_self;have hd:w.heap[l]? =some o:=q4.holds _ hm;have hlt:=(acf.1 hd).1;have fF:aG [l] w (w.putObj l o'):=⟨rfl,rfl,rfl,by simp[World.putObj],λk _ hk=>World.putObj_heap_other (by simpa using hk)⟩;have q5:=q4.set (k:=0) (r':= .obj l o') rfl fF.size (λj hj hne=>fF.block j hj hne) (World.putObj_heap_same hlt) h.si.s.size (λb' hb'=>by
  have e:b'=l:=by simpa[ay.bK]using hb'
  subst e;exact⟨.inl (by simp[ay.bK]),by rw[World.putObj];simpa using hlt⟩)
 refine⟨⟨h.tm,h.df,⟨h.si.s.store q4 hm (by simp[ay.bK]) fF,h.si.n⟩,h.fs,h.fc,λr ob e=>?_,⟨HS,q1,q5.gH (pm _).symm⟩,h.kn,h.fr⟩,hd⟩;obtain⟨y,y1,y2⟩:=h.kc r ob e;rcases List.mem_cons.1 y1 with rfl|y1
 ·exact⟨_,List.mem_cons_self,y2⟩
 ·rcases List.mem_cons.1 y1 with rfl|y1
  ·refine⟨_,ack _ List.mem_cons_self,?_⟩
   cases ob with
   |bK T c=>obtain⟨_,_,_,e,_⟩:=y2;cases e
   |row _ _ _ _ =>obtain⟨_,_,_,e,_⟩:=y2;cases e
   |gm=>obtain⟨_,e⟩:=y2;cases e
   |fm _ _ _ =>obtain⟨_,es,ck,_,_,e,_⟩:=y2;cases e;exact absurd rfl (hnm es ck)
   |lp _ _ _ _ _ _ =>cases TA YA e
   |aux b=>obtain⟨n,x,m1,e,m3⟩:=y2;cases e;exact⟨_,_,m1,rfl,ho b m3⟩
  ·exact⟨y,ack _ (ack _ y1),y2⟩
inductive Vk(P:Program)(N:Nat)(C':CC G)(ps:List Nat)(a b:Code)(g:Hv)(base:Nat)(it:It P G):List it.B->HL G (aD (oW g.l))->Ex G->AS G->Prop
 |nil {e:HL G (aD (oW g.l))}:Vk P N C' ps a b g base it [] e .fZ (Px g base e)
 |fb {y:it.B} {l:List it.B} {e e':HL G (aD (oW g.l))} {S2 S3 S4 Sf:AS G} {e1:Ex G} (hb:lu N C' ps (dy (λm=>m) it.ys (it.en y) 0).1 (Px g base e)=some S2) (h1:US P N C' (.code a) S2 S3 .fZ) (n1:S2.nx<=S3.nx)
   (h2:US P N C' (.code b) S3 S4 .fZ) (hg:C0 C' (ji C' S4 g.l) g base=some e') (k:Vk P N C' ps a b g base it l e' e1 Sf):Vk P N C' ps a b g base it (y::l) e e1 Sf
 |stop {y:it.B} {l:List it.B} {e:HL G (aD (oW g.l))} {S2 S3 S4:AS G} {e1:Ex G} (hb:lu N C' ps (dy (λm=>m) it.ys (it.en y) 0).1 (Px g base e)=some S2) (h1:US P N C' (.code a) S2 S3 .fZ) (n1:S2.nx<=S3.nx)
   (h2:US P N C' (.code b) S3 S4 e1) (he:e1= .ret\/∃i,e1= .exit i) (hD:S4.D=[]):Vk P N C' ps a b g base it (y::l) e e1 S4
structure Gh(G:Sg)(L:List Ty) where
 e:HL G L
 ρ:aP
 J:World->Prop
 Y:List ay
 HB:List ay
structure VA(ρ3:aP)(base:Nat)(X1 L0:List ay)(O:Os G)(nx:Nat){L:List Ty}(i:Gh G L):Prop where
 to:ρ3.to i.ρ base
 mJ:∀w,i.J w->Hs X1 w
 ro:RO i.J i.ρ O i.HB
 kn:LC G (i.Y++X1) i.J
 fr:i.ρ.fr nx
 ap:∀b∈aV (i.HB++(L0++i.Y)),b∉aV X1
theorem Xe{N:Nat}:∀{ps:List Nat},VM N ps=true->ps.all (Nat.blt · N)=true:=by
 intro ps
 induction ps with
 |nil=>intro _;rfl
 |cons p r ih=>intro h;simp only[VM,ab7]at h;simp only[List.all_cons,ab7];exact⟨h.1,ih h.2⟩
theorem Be{bs:List Nat}{n0:Nat}{H X:List ay}{w:World}(h:aX bs n0 H w)(hs:∀r∈X,r∈H):Hs X w:=λr hr=>⟨h.holds r (hs r hr),λb hb=>(h.own r (hs r hr) b hb).2⟩
theorem LV{Lw:Operand}{ps:Array Nat}{a b:Code}{S S1:AS G}{it:It P G}{cap v:AV G}{x:HL G (aD it.rA)}{g1 g2:GS G}{g:Hv}{x0:HL G (aD (oW g.l))}{l:List it.B}{e1:Ex G}{Sf:AS G}
  (Fw:dX C S [] Lw=some (.fn (.func it.k) .nil cap))(EC:jV it.rA cap ⟨[],S.O,S.nx⟩=some (x,g1))(hS1:ji C ⟨S.F,g1.O,g1.nx,S.D⟩ g.l=S1)(hv:Ag C ⟨S1.F,S1.O,S1.nx+2,S1.D⟩ g.l=some v)
  (Uc:jV (oW g.l) v ⟨[],S1.O,S1.nx+2⟩=some (x0,g2))(b1:sU g.nm g2.th=true)(b2:sV (S1.nx+2) g.nm=true)(hn:it.n=ps.size)(hrd:uy (iZ C)=true)(hl:uI (S1.nx+2) (M0 ps.toList a b C S1 g2.O)=true)
  (T9:qB (S1.nx+2) g2.O=true)(Qs:uI (S1.nx+2) C=true)(hps:VM N ps.toList=true)(YA:Fg (g2.O++iZ C)=true)(hf:it.f x=some l)(ht:Vk P N (M0 ps.toList a b C S1 g2.O) ps.toList a b g (S1.nx+2) it l x0 e1 Sf):
  US P N C (.code (.rangeFunc Lw ps a b)) S (KG S1.nx S1 g2.O Sf) e1:=by
 intro c ρ J HK X ac w Q hr hq;obtain⟨fs,cs,e2,r1,r3⟩:=qU ((bQ hr (ch:=[]) (by simp)).ok _ _ Fw);have r1:fs=[]:=r1;subst r1;obtain⟨HS,q1,q3⟩:=hr.hp;obtain⟨ρ2,Lp,H1,k⟩:=C2 EC r3 q1 hr.fr;have kto:ρ.to ρ2 S.nx:=k.to;have GL:ρ.le ρ2:=kto.le hr.fr;have hr2:Rl c N ρ2 J (Lp++HK) X C ⟨S.F,g1.O,g1.nx,S.D⟩ ac w:=by
  refine⟨hr.tm,hr.df.up (λ_ h=>h) GL,hr.si,hr.fs.up (λ_ h=>h) GL,hr.fc.up (λ_ h=>h) GL,λr o e=>?_,⟨H1,k.left,?_⟩,hr.kn,k.fr⟩
  ·obtain⟨y,y1,y2⟩:=hr.kc r o e
   exact⟨y,acd _ y1,y2.up (λ_ h=>h) GL⟩
  ·have:=k.hp (HK++X) _ _ _ q3
   refine this.gH ?_;rw[List.append_assoc];exact List.perm_append_comm_assoc Lp H1 _
 obtain⟨J1,Y1,mJ,h3⟩:=hr2.ji g.l;rw[hS1]at h3;have abf:S1.nx=g1.nx:=by rw[← hS1,y6]
 obtain⟨ρ3,Qm⟩:∃ρ3:aP,ρ3=(ρ2.set S1.nx (cy w.heap.size 0)).set (S1.nx+1) (cy (w.heap.size+1) 0):=⟨_,rfl⟩;have t3:ρ2.to ρ3 S1.nx:=by rw[Qm];exact(aP.jg ρ2 S1.nx _).trans (aP.jg _ (S1.nx+1) _) (by omega)
 have f3:ρ3.fr (S1.nx+2):=by rw[Qm];exact aP.sP (aP.sP h3.fr _) _
 have l3:ρ2.le ρ3:=t3.le h3.fr;have d3:ρ3 S1.nx=some (cy w.heap.size 0):=by rw[Qm];simp[aP.set]
 have o3:ρ3 (S1.nx+1)=some (cy (w.heap.size+1) 0):=by rw[Qm];simp[aP.set]
 have h4:Rl c N ρ3 J1 (Lp++HK) (Y1++X) C ⟨S1.F,S1.O,S1.nx+2,S1.D⟩ ac w:=by obtain⟨LD,s1,s3⟩:=h3.hp;exact⟨h3.tm,h3.df.up (λ_ h=>h) l3,h3.si,h3.fs.up (λ_ h=>h) l3,h3.fc.up (λ_ h=>h) l3,h3.Hw (λ_ h=>h) l3,⟨LD,s1.up (λ_ h=>h) l3,s3⟩,h3.kn,f3⟩
 obtain⟨ρ',ρ5,HB,H',hto,ht5,CZ,hleft,_,hp,_,_,hfr⟩:=Jz h4 hv Uc b1 b2 (Nat.le_refl _) Qs;have hto:ρ3.to ρ' (S1.nx+2):=hto;obtain⟨X1,Z9⟩:∃X1,X1=Y1++X:=⟨_,rfl⟩;have JL:LC G X1 J1:=by rw[Z9];exact h4.kn
 rw[← Z9]at hp;have Nl:∀{σ:aP} {J':World->Prop},ρ3.to σ (S1.nx+2)->(∀w,J' w->Hs X1 w)->RO J' σ g2.O H':=λ{σ J'} hs hm=>(hleft.di (λr hr'=>(hs r hr').trans (ht5 r hr').symm) T9).up (λw q=>JL.to w (hm w q)) (aP.le_refl _);have hkc:∀{σ:aP} {J':World->Prop},ρ3.to σ (S1.nx+2)->(∀w,J' w->Hs X1 w)->∀r o,bP (iZ C) r=some o->∃x∈HK,ro J' σ r o x:=λ{σ J'} hs hm=>hr.Hw (λw q=>mJ w (JL.to w (hm w q))) (aP.le_trans GL (aP.le_trans l3 (hs.le f3)));obtain⟨qC,en1,O9,hit⟩:=it.ok (cmp ρ2 g1.th) (Hs X1) Lp X1 cs x l hf (k.val.mono λw q=>mJ w (JL.to w q)) (k.bK.up (λw q=>mJ w (JL.to w q)) (aP.le_refl _)) ⟨λ_ h=>h,JL.ex,JL.gl.mono JL.to⟩ (λr hr'=>by
  unfold cmp;rw[List.getElem?_eq_none (by have:=k.HC;exact Nat.le_trans (Nat.le_of_eq this.symm) hr')])
 obtain⟨C',YS⟩:∃C',C'=M0 ps.toList a b C S1 g2.O:=⟨_,rfl⟩;rw[← YS]at hl ht;have Yz:Fg (iZ C')=true:=by rw[YS];show Fg (((S1.nx+1, .aux false)::(g2.O++iZ C))++[])=true;rw[List.append_nil];exact YA
 obtain⟨H0,hH0⟩:∃H0,H0=Lp++(HB++((H'++HK)++[])):=⟨_,rfl⟩;have KR:aX c.bs c.w0.heap.size (H0++X1) w:=hp.gH (by
  rw[hH0];have:(HB++(H'++((Lp++HK)++X1))).Perm (Lp++(HB++(H'++(HK++X1)))):=by rw[List.append_assoc Lp];refine(List.Perm.append_left HB (List.perm_append_comm_assoc H' Lp _)).trans ?_;exact List.perm_append_comm_assoc HB Lp _
  simpa using this)
 have hX:Hs X1 w:=Be KR λr hr'=>acd _ hr';have Zr:∀b∈aV H0,b∉aV X1:=λb h1 h2=>by obtain⟨r,r1,r2⟩:=aN.1 h1;obtain⟨r',r3,r4⟩:=aN.1 h2;exact(List.pairwise_append.1 KR.apart).2.2 r r1 r' r3 b r2 r4
 have Xt:∀b∈aV X1,b<w.heap.size:=λb h2=>by obtain⟨r',r3,r4⟩:=aN.1 h2;exact(hX r' r3).2 b r4
 have Xa:∀{w'},Rx H0 w w'->∀b∈aV X1,w'.heap[b]? =w.heap[b]? :=λ{w'} ha b hb=>ha.2 b (Xt b hb) λh=>Zr b h hb;have JG:∀{w'},Rx H0 w w'->Hs X1 w':=λ{w'} ha r hr'=>⟨ay.g9 (hX r hr').1 ha.1 λb hb=>Xa ha b (aN.2 ⟨r,hr',hb⟩),λb hb=>Nat.lt_of_lt_of_le ((hX r hr').2 b hb) ha.1⟩;have pwX:X1.Pairwise ay.apart:=(List.pairwise_append.1 KR.apart).2.1;have UR:∀{bs:List Nat} {n0:Nat} {L:List ay} {w':World},aX bs n0 L w'->Hs X1 w'->(∀b∈aV L,b∉aV X1)->(∀b∈aV X1,b∈bs\/n0<=b)->aX bs n0 (L++X1) w':=λ{bs n0 L w'} h1 h2 h3 h4=>⟨λr hr'=>(List.mem_append.1 hr').elim (h1.holds r) λh=>(h2 r h).1,λr hr' b hb=>(List.mem_append.1 hr').elim (λh=>h1.own r h b hb) λh=>⟨h4 b (aN.2 ⟨r,h,hb⟩),(h2 r h).2 b hb⟩,
   List.pairwise_append.2 ⟨h1.apart,pwX,λr r1 s s1 b b1 b2=>h3 b (aN.2 ⟨r,r1,b1⟩) (aN.2 ⟨s,s1,b2⟩)⟩⟩
 have aaN:∀b∈aV X1,b∈c.bs\/c.w0.heap.size<=b:=λb h2=>by obtain⟨r',r3,r4⟩:=aN.1 h2;exact(KR.own r' (acd _ r3) b r4).1
 have fin:∀(i:Gh G (aD (oW g.l))) (w2:World) (Sx:AS G),VA ρ3 (S1.nx+2) X1 (H'++HK) Sx.O Sx.nx i->Rx H0 w w2->St N c (Go.Bw.mark w.heap.size::ac.defers) [] (.obj w.heap.size (.deferred (some []))::([]++(i.HB++((H'++HK)++i.Y)))) {ac with defers:=Go.Bw.mark w.heap.size::ac.defers} w2->
   ρ.to i.ρ S.nx/\(∀w,i.J w->J w)/\Rl c N i.ρ i.J HK ((i.Y++Y1)++X) C (KG S1.nx S1 g2.O Sx) {ac with defers:=Go.Bw.mark w.heap.size::ac.defers} w2:=λi w2 Sx hi ha hst=>by
  have hle:ρ3.le i.ρ:=hi.to.le f3;have abg:S.nx<=S1.nx:=by rw[abf];exact k.nx
  have VP:∀w,i.J w->J1 w:=λw q=>JL.to w (hi.mJ w q);refine⟨(kto.trans t3 abg).trans hi.to (by omega),λw q=>mJ w (VP w q),hst.tm,?_,⟨hst.si,hr.si.n⟩,h4.fs.up VP hle,h4.fc.up VP hle,hkc hi.to hi.mJ,⟨.obj w.heap.size (.deferred (some []))::(i.HB++H'), .cons ⟨_,_,?_,rfl,rfl⟩ (hi.ro.app (Nl hi.to hi.mJ)),?_⟩,by rw[List.append_assoc, ← Z9];exact hi.kn,hi.fr⟩
  ·exact .cons ⟨rfl,_,(hi.to S1.nx (by omega)).trans d3,rfl⟩ (h4.df.up VP hle)
  ·exact(hi.to S1.nx (by omega)).trans d3
  ·have h1:=hst.hp.sub (List.Sublist.cons_cons _ (List.sublist_append_right [] _))
   have h2:=UR h1 (JG ha) (λb hb hx=>by
    have hb:b=w.heap.size\/b∈aV (i.HB++((H'++HK)++i.Y)):=by simpa[aV,ay.bK]using hb
    rcases hb with rfl|hb
    ·exact absurd (Xt _ hx) (by omega)
    ·exact hi.ap b hb hx) aaN
   rw[Z9]at h2;refine h2.gH ?_;simp only[List.append_assoc,List.cons_append];exact .refl _
 have key:=Lc (P:=P) (N:=N) (c:=c) (D:=ac.defers) (Q:=Q) (g:=Lw) (ps:=ps.toList) (assign:=a) (body:=b) (gf:=it.k) (n:=l.length) (caps:=cs.toArray) (Hc:=Lp) (Ho:=[]) (qC:=qC) (α:=Gh G (aD (oW g.l))) (β:=Gh G (aD (oW g.l))) (a:=ac) (w:=w)
  (H:=H0) ⟨hr.tm,λd v e=>by simp[lk]at e,rfl,hr.si.s,KR.sub (List.sublist_append_left _ _)⟩ (hr.si.n hrd) e2 (λargs w=>by
   obtain⟨fn,f1,f2,f5⟩:=it.fn;have h1:fn.name≠ "runtime.NumGoroutine" :=by simpa using f5
   obtain⟨code,f2⟩:=Option.isSome_iff_exists.1 f2;simp[callFunc,f1,h1,f2,Go.mark]) (λly Jy Jx bs W1 ha ku Z6 hR=>hit ly Jy Jx bs W1 (UR (L:= .ext bs (Jy 0 bs)::Lp) ⟨Z6.holds,λr hr' b hb=>⟨(Z6.own r hr' b hb).1.imp (λh=>(List.mem_append.1 h).elim (λh=>ace _ h) λh=>acd _ (ace _ h)) id,(Z6.own r hr' b hb).2⟩,Z6.apart⟩ (JG ha) (λb hb hx=>by
    have hb:b∈bs\/b∈aV Lp:=by simpa[aV,ay.bK]using hb
    rcases hb with hb|hb
    ·rcases ku b hb with hb|hb
     ·exact Zr b hb hx
     ·exact absurd (Xt _ hx) (by omega)
    ·refine Zr b ?_ hx
     rw[hH0];obtain⟨r,r1,r2⟩:=aN.1 hb;exact aN.2 ⟨r,ace _ r1,r2⟩) λb hb=> .inl (acd _ (acd _ hb))) hR) (λk=>by rw[O9,hn];simp) (Xe hps)
  (λk i=>VA ρ3 (S1.nx+2) X1 (H'++HK) (Px g (S1.nx+2) i.e).O (Px g (S1.nx+2) i.e).nx i/\Vk P N C' ps.toList a b g (S1.nx+2) it (l.drop k) i.e e1 Sf) (λ_ i=>i.HB++((H'++HK)++i.Y))
  (λj i=>VA ρ3 (S1.nx+2) X1 (H'++HK) Sf.O Sf.nx i/\((e1= .ret/\j= .ret)\/∃id,e1= .exit id/\j= .exit id)) (λi=>i.HB++((H'++HK)++i.Y))
  ⟨x0,ρ',Hs X1,[],HB⟩ ⟨⟨hto,λ_ h=>h,CZ.up JL.to (aP.le_refl _),⟨λ_ h=>h,JL.ex,JL.gl.mono JL.to⟩,hfr,λb hb=>Zr b (by
   rw[hH0];obtain⟨r,r1,r2⟩:=aN.1 hb;exact aN.2 ⟨r,acd _ r1,r2⟩)⟩,by simpa using ht⟩ hH0
  ?_ ?_ ?_
 ·rwa[Array.toArray_toList]at key
 ·rintro k ⟨ie,iρ,iJ,iY,R9⟩ rec bs W hk ⟨hi,hrun⟩ Yq hrp hn0 hT haW Yw
  dsimp only at hrun Yw;have hle:ρ3.le iρ:=hi.to.le f3;have VP:∀w,iJ w->J1 w:=λw q=>JL.to w (hi.mJ w q);obtain⟨y,hy,YL⟩:∃y,l[k]? =some y/\l.drop k=y::l.drop (k+1):=⟨l[k],acg hk,List.drop_eq_getElem_cons hk⟩;rw[YL]at hrun;have hpX:aX (bs++aV X1) W.heap.size ((.obj w.heap.size (.deferred (some [])):: .obj (w.heap.size+1) (.loop rec)::(R9++((H'++HK)++iY)))++X1) W:=by
   refine UR ⟨Yw.holds,λr hr' b hb=>⟨(Yw.own r hr' b hb).1.imp (λh=>ace _ h) id,(Yw.own r hr' b hb).2⟩,Yw.apart⟩ (JG haW) (λb hb hx=>?_) λb hb=> .inl (acd _ hb);have hb:b=w.heap.size\/b=w.heap.size+1\/b∈aV (R9++((H'++HK)++iY)):=by simpa[aV,ay.bK]using hb
   rcases hb with rfl|rfl|hb
   ·exact absurd (Xt _ hx) (by omega)
   ·exact absurd (Xt _ hx) (by omega)
   ·exact hi.ap b hb hx
  have rB:Rl ⟨some (w.heap.size+1),W,bs++aV X1⟩ N iρ iJ (.obj w.heap.size (.deferred (some [])):: .obj (w.heap.size+1) (.loop rec)::(H'++HK)) (iY++X1) C' (Px g (S1.nx+2) ie) ⟨ac.tmps,[]⟩ W:=by
   subst YS;refine⟨hr.tm, .nil,⟨aG.refl _ _,λq=>(by cases q)⟩,λd v e=>(by cases e),λy hy=>?_,λr o e=>?_,⟨R9,hi.ro,hpX.gH ?_⟩,hi.kn,hi.fr⟩
   ·have:y=_ :=List.mem_singleton.1 hy
    subst this;exact((C4 h4.fs (NL h4.fc)).O8).up VP hle
   ·have e:bP (((S1.nx+1,Ob.aux false)::(g2.O++iZ C))++[]) r=some o:=e
    rw[List.append_nil]at e;simp only[bP]at e;cases hb:Nat.beq (S1.nx+1) r with
    |true=>rw[hb]at e;cases e;obtain rfl:=ab6 hb;exact⟨_,ack _ List.mem_cons_self,_,_,(hi.to (S1.nx+1) (by omega)).trans o3,rfl,rec,rfl⟩
    |false=>
     rw[hb]at e;simp only[cond_false]at e;rw[g8]at e;split at e
     ·rename_i v' GI
      cases e;obtain⟨x,x1,x2⟩:=(Nl hi.to hi.mJ).lk GI;exact⟨x,by simp[x1],x2⟩
     ·obtain⟨x,x1,x2⟩:=hkc hi.to hi.mJ r o e
      exact⟨x,by simp[x1],x2⟩
   ·have e1:R9++((.obj w.heap.size (.deferred (some [])):: .obj (w.heap.size+1) (.loop rec)::(H'++HK))++(iY++X1))=R9++(.obj w.heap.size (.deferred (some [])):: .obj (w.heap.size+1) (.loop rec)::((H'++HK)++(iY++X1))):=by simp
    rw[e1];have:=((List.perm_middle (a:=ay.obj w.heap.size (.deferred (some []))) (l₁:=R9) (l₂:= .obj (w.heap.size+1) (.loop rec)::((H'++HK)++(iY++X1)))).trans (List.Perm.cons _ List.perm_middle)).symm;simpa using this
  have hT':∀b,(b∈(⟨some (w.heap.size+1),W,bs⟩:Cx).bs\/(⟨some (w.heap.size+1),W,bs⟩:Cx).w0.heap.size<=b)->(b∈c.bs\/c.w0.heap.size<=b):=hT;have lH:∀{Hb Hy:List ay} {o:Obj} {w3:World} {a2:Act},a2.tmps.size=N->a2.defers=[]->aG (bs++aV X1) W w3->aX (bs++aV X1) W.heap.size (Hb++((.obj w.heap.size (.deferred (some [])):: .obj (w.heap.size+1) o::(H'++HK))++(Hy++(iY++X1)))) w3->
    St N ⟨some (w.heap.size+1),W,bs⟩ [] [] (.obj w.heap.size (.deferred (some [])):: .obj (w.heap.size+1) o::(Hb++((H'++HK)++(Hy++iY)))) a2 w3/\∀b∈aV (Hb++((H'++HK)++(Hy++iY))),b∉aV X1:=λ{Hb Hy o w3 a2} u1 u2 u3 u4=>by
   have e1:Hb++((.obj w.heap.size (.deferred (some [])):: .obj (w.heap.size+1) o::(H'++HK))++(Hy++(iY++X1)))=Hb++(.obj w.heap.size (.deferred (some [])):: .obj (w.heap.size+1) o::(((H'++HK)++(Hy++iY))++X1)):=by simp
   rw[e1]at u4;have u5:=u4.gH ((List.perm_middle (a:=ay.obj w.heap.size (.deferred (some []))) (l₁:=Hb)).trans (List.Perm.cons _ List.perm_middle));have e2:(ay.obj w.heap.size (.deferred (some []))::ay.obj (w.heap.size+1) o::(Hb++(((H'++HK)++(Hy++iY))++X1)))=(.obj w.heap.size (.deferred (some [])):: .obj (w.heap.size+1) o::(Hb++((H'++HK)++(Hy++iY))))++X1:=by simp
   rw[e2]at u5;have hX3:Hs X1 w3:=Be u5 λr hr'=>acd _ hr';have apL:∀b∈aV (.obj w.heap.size (.deferred (some [])):: .obj (w.heap.size+1) o::(Hb++((H'++HK)++(Hy++iY)))),b∉aV X1:=λb h1 h2=>by obtain⟨r,r1,r2⟩:=aN.1 h1;obtain⟨r',r3,r4⟩:=aN.1 h2;exact(List.pairwise_append.1 u5.apart).2.2 r r1 r' r3 b r2 r4
   refine⟨⟨u1,λd v e=>by simp[lk]at e,u2,⟨u3.os,u3.tape,u3.output,u3.size,λb h1 h2=>?_⟩,⟨λr hr'=>u5.holds r (ace _ hr'),λr hr' b hb=>?_,(List.pairwise_append.1 u5.apart).1⟩⟩,λb hb=>apL b ?_⟩
   ·rcases Classical.em (b∈aV X1)with hx|hx
    ·exact JL.ex W w3 (JG haW) hX3 b hx
    ·exact u3.block b h1 λh=>(List.mem_append.1 h).elim h2 hx
   ·obtain⟨o1,o2⟩:=u5.own r (ace _ hr') b hb
    refine⟨?_,o2⟩;rcases o1 with o1|o1
    ·exact(List.mem_append.1 o1).elim .inl λhx=>absurd hx (apL b (aN.2 ⟨r,hr',hb⟩))
    ·exact .inr o1
   ·obtain⟨r,r1,r2⟩:=aN.1 hb
    exact aN.2 ⟨r,ack _ (ack _ r1),r2⟩
  have abX:(Px g (S1.nx+2) ie).nx=S1.nx+2+g.nm.length:=rfl;cases hrun with
  |fb hb h1 n1 h2 hg kk=>
   obtain⟨KV,GJ⟩:=rB.bind hb ((en1 iρ k y hy).mono hi.mJ);refine h1 ⟨some (w.heap.size+1),W,bs++aV X1⟩ iρ iJ _ _ _ W _ KV λρa Ja Ya a1 w1 me t1 m1 x1 z1=>?_;rw[fV x1];obtain⟨z2,hh⟩:=z1.Mk (o':= .loop {rec with state:= .busy}) (λb hb=>by cases b with
    |true=>cases hb
    |false=>exact⟨_,rfl⟩) Yz
   refine⟨_,run_beginRound hh Yq,?_⟩;refine h2 ⟨some (w.heap.size+1),W,bs++aV X1⟩ ρa Ja _ _ a1 _ _ z2 λρb Jb Yb a2 w3 me t2 m2 x2 z3=>?_;rw[fV x2];obtain⟨Jc,Yc,mc,z4⟩:=z3.ji g.l;obtain⟨ρc,tc,z5⟩:=P7 z4 hg hl;obtain⟨HB5,r5,p5⟩:=z5.hp;have hd:a2.defers=[]:=by have h0:=z5.df;subst YS;have h0:DR Jc ρc ([]:List (AV G)) a2.defers:=h0;generalize a2.defers=D0 at h0;cases h0;rfl
   have e5:Yc++(Yb++(Ya++(iY++X1)))=(Yc++(Yb++Ya))++(iY++X1):=by simp
   rw[e5]at p5;obtain⟨st5,ap5⟩:=lH z5.tm hd z5.si.s p5;refine PJ (l:=w.heap.size+1) (dd:=w.heap.size) (rec:=rec) Yq hrp hT' st5 ⟨_,ρc,Jc,(Yc++(Yb++Ya))++iY,HB5⟩ ⟨⟨λr hr'=>?_,λw q=>hi.mJ w (m1 w (m2 w (mc w q))),r5,?_,z5.fr,ap5⟩,kk⟩ rfl
   ·exact(tc r hr').trans ((t2 r (by omega)).trans ((t1 r (by omega)).trans (hi.to r hr')))
   ·have:=z5.kn
    rw[e5, ← List.append_assoc]at this;exact this
  |stop hb h1 n1 h2 he hD=>
   obtain⟨KV,GJ⟩:=rB.bind hb ((en1 iρ k y hy).mono hi.mJ);refine h1 ⟨some (w.heap.size+1),W,bs++aV X1⟩ iρ iJ _ _ _ W _ KV λρa Ja Ya a1 w1 me t1 m1 x1 z1=>?_;rw[fV x1];obtain⟨z2,hh⟩:=z1.Mk (o':= .loop {rec with state:= .busy}) (λb hb=>by cases b with
    |true=>cases hb
    |false=>exact⟨_,rfl⟩) Yz
   refine⟨_,run_beginRound hh Yq,?_⟩;refine h2 ⟨some (w.heap.size+1),W,bs++aV X1⟩ ρa Ja _ _ a1 _ _ z2 λρb Jb Yb a2 w3 me t2 m2 x2 z3=>?_;obtain⟨HB5,r5,p5⟩:=z3.hp;have hd:a2.defers=[]:=by have h0:=z3.df;rw[hD]at h0;subst YS;have h0:DR Jb ρb ([]:List (AV G)) a2.defers:=h0;generalize a2.defers=D0 at h0;cases h0;rfl
   have e5:Yb++(Ya++(iY++X1))=(Yb++Ya)++(iY++X1):=by simp
   rw[e5]at p5;obtain⟨st5,ap5⟩:=lH z3.tm hd z3.si.s p5;obtain⟨j,hj1,hj2⟩:∃j:Code,((me= .ret/\j= .ret)\/∃id,me= .exit id/\j= .exit id)/\((e1= .ret/\j= .ret)\/∃id,e1= .exit id/\j= .exit id):=by
    rcases he with rfl|⟨id,rfl⟩
    ·exact⟨.ret, .inl ⟨Cb x2,rfl⟩, .inl ⟨rfl,rfl⟩⟩
    ·exact⟨.exit id, .inr ⟨id,Da x2,rfl⟩, .inr ⟨id,rfl,rfl⟩⟩
   refine PI (l:=w.heap.size+1) (dd:=w.heap.size) (rec:=rec) hT' hj1 st5 (j,⟨ie,ρb,Jb,(Yb++Ya)++iY,HB5⟩) ⟨⟨λr hr'=>?_,λw q=>hi.mJ w (m1 w (m2 w q)),r5,?_,z3.fr,ap5⟩,hj2⟩ rfl
   ·exact(t2 r (by omega)).trans ((t1 r (by omega)).trans (hi.to r hr'))
   ·have:=z3.kn
    rw[e5, ← List.append_assoc]at this;exact this
 ·rintro⟨ie,iρ,iJ,iY,R9⟩ w2 ⟨hi,hrun⟩ ha hst
  rw[List.drop_length]at hrun;generalize hie:(⟨ie,iρ,iJ,iY,R9⟩:Gh G (aD (oW g.l))).e=ie' at hrun;dsimp only at hie;subst hie;cases hrun with
  |nil=>obtain⟨u1,u2,u3⟩:=fin _ w2 _ hi ha hst;exact hq iρ iJ (iY++Y1) _ w2 .normal u1 u2 trivial u3
 ·rintro j i w2 ⟨hi,hj⟩ ha hst
  obtain⟨u1,u2,u3⟩:=fin _ w2 _ hi ha hst;rcases hj with⟨rfl,rfl⟩|⟨id,rfl,rfl⟩
  ·exact wpIn_ret (hq i.ρ i.J (i.Y++Y1) _ w2 .ret u1 u2 trivial u3)
  ·exact wpIn_exit (hq i.ρ i.J (i.Y++Y1) _ w2 (.exit id) u1 u2 rfl u3)
end Go.Rw
namespace Go.Rw
open Go Go.Bw Go.RowKit
variable {G:Sg} {P:Program} {N:Nat} {C:CC G} {tt:TT P G}
theorem L1{all:Array Oper}{r:List Oper}{S S1 S3:AS G}{e:Ex G}{T el bt q d1:Nat}{x lo:Operand}{k ki:IntKind}{i:Int}{qq:Bool}{xs:List Int}{t1 t2:TypeId}{p1 p2:String}{f1 f2:Array Edge}
  (hT:tt.te.find T=some (.sl el 1 bt))(hz:zE P el k=true)(hx:dX C S [] x=some (.row q))(ho:bP S.O q=some (.row el 1 (.int k) xs))(hl:jq (dX C S [] lo)=some (ki,i,qq))(hi:cG i (xs.length+1)=true)(hp:rq N C (some d1) .Jj S=some S1)
  (aY:US P N C (.ops all r) {S1 with O:=mX S1.O q (.row el 1 (.int k) (xs.take i.toNat++List.replicate (xs.length-i.toNat) (0:Int)))} S3 e):
  US P N C (.ops all (⟨some d1, .slice T x (some lo) none none,t1,p1,f1,none⟩::⟨none, .call ⟨.builtin .clear, #[.tmp d1], #[T]⟩,t2,p2,f2,none⟩::r)) S S3 e:=by
 intro c ρ J HK X a w Q hr hq;refine wpListIn_step λK hK=>?_;rw[ab4 (HE.none rfl c ρ J HK X a w hr)];obtain⟨HS,h1,hs0,hm⟩:=hr.st;have hE:=bQ hr (ch:=[]) (by simp);obtain⟨kk,x0,k1,⟨vv,ws,m1,rfl,m3,m4,m5⟩,k3⟩:=h1.set ho;have Nd:=oY (hE.ok _ _ hx) m1;have qz:=hE.ev _ _ hx;rw[Nd]at qz;obtain⟨g1,g2⟩:=bB hi;have g2:=Nat.lt_succ_iff.1 g2;have fl:=gK hE hl;rw[g1]at fl;haveI:=(tt.sl hT).1;have GK:ay.row vv el 1 xs.length ws∈HS++(HK++X):=ace _ (List.mem_of_getElem? k1);haveI:mT c (HS++(HK++X)) vv 1 xs.length ws:=⟨λw' _ hp'=>Ro.rz (hp'.holds _ GK)⟩;refine(AP (P:=P) (N:=N) (c:=c) (F:=kQ a) (H:=HS++(HK++X)) i.toNat qz fl g2) a.defers a w K Q hs0 λw' hs=>hK _ _ ?_;have Ys:Rl c N ρ J HK X C S1 (a.put (some d1) (jQ i.toNat xs.length 1 vv)) w':=(hr.since hs).put hp ⟨_,rfl⟩;have hlt:d1<a.tmps.size/\S1={S with F:=(d1, .Jj)::S.F}:=by
  simp only[rq]at hp;cases hb:(Nat.blt d1 N&&(Fh d1 S.F&&Gq d1 C)&&EF d1 (.Jj:AV G))with
  |false=>rw[hb]at hp;cases hp
  |true=>rw[hb]at hp;simp only[ab7]at hb;exact⟨by rw[hr.tm];simpa[Nat.blt_eq]using hb.1.1,by cases hp;rfl⟩
 obtain⟨hlt,rfl⟩:=hlt;generalize ha1:a.put (some d1) (jQ i.toNat xs.length 1 vv)=a1 at Ys ⊢;refine wpListIn_step λK2 hK2=>?_;rw[ab4 (HE.none rfl c ρ J HK X a1 w' Ys)];obtain⟨HG,j1,js,jm⟩:=Ys.st;obtain⟨kk1,x1,n1,⟨v1,ws1,l1,rfl,l3,l4,l5⟩,n3⟩:=j1.set (r:=q) (o:= .row el 1 (.int k) xs) ho;obtain rfl:vv=v1:=Option.some.inj (m1.symm.trans l1);have hE1:=bQ Ys (ch:=[]) (by simp);have hev:Bw.ev (kQ a1) (.tmp d1)=some (jQ i.toNat xs.length 1 vv):=by rw[JO (x:= .tmp d1) (λt ht=>by cases ht;rw[← ha1];simpa[Act.put]using hlt) (λg h=>by cases h), ← ha1];simp[Act.put,Act.eval,hlt]
 have TU:ws1=cS (LI k) xs:=(aS.iff.1 (show(LA (LI k) xs.length).dS J ws1 _ from l4)).trans (eG (LI k) xs).symm;subst TU;have DM:=nG (m:=HK++X) n1;haveI:qZ (HG++(HK++X)) vv el 1 xs.length (cS (LI k) xs) ((HG++(HK++X)).set kk1):=⟨kk1,DM,λ_ =>rfl⟩;have hz2:(P.info? el).bind (·.zero)=some (.int k 0):=by
  unfold zE at hz;split at hz
  ·rename_i k' n hzz
   simp only[ab7,beq_iff_eq]at hz;rw[hzz,CS hz.1,hz.2]
  ·cases hz
 refine Ll (L:=LI k) (z0:=(0:Int)) (z:= .int k 0) (xs:=xs) (m:=i.toNat) (tt.sl hT).1.ok ⟨hz2⟩ rfl rfl rfl rfl g2 hev rfl a1.defers a1 w' K2 Q js λ_ w2 _ hs2 xW=>hK2 _ _ ?_;rw[qO n1]at xW;refine aY c ρ J HK X a1 w2 Q (Ys.yY (n3 _ _ ⟨vv,_,l1,rfl,?_,show(LA (LI k) _).dS J _ _ from aS.iff.2 (eG (LI k) _),rfl⟩) hs2 xW) hq;have:∀ys:List Int,ys.length=xs.length->qF vv ys.length:=λys h=>by rw[h];exact l3
 exact this _ (by simp only[List.length_append,List.length_take,List.length_replicate];omega)
end Go.Rw
namespace Go.Rw
open Go Go.Bw Go.RowKit
variable {G:Sg} {P:Program} {N:Nat} {C:CC G}
theorem No:∀{O:Os G} {r:Nat} {o:Ob G},bP (zu O) r=some o->M9 o=false/\(bP O r=some o\/(o= .aux false/\∃N ks vs ps a b,bP O r=some (.lp N ks vs ps a b))):=by
 intro O
 induction O with
 |nil=>intro r o h;cases h
 |cons p q ih=>
  obtain⟨k,u⟩:=p;intro r o h;cases u with
  |lp N ks vs ps a b=>
   simp only[zu,bP]at h ⊢;cases hb:Nat.beq k r with
   |true=>rw[hb]at h;cases h;exact⟨rfl, .inr ⟨rfl,_,_,_,_,_,_,rfl⟩⟩
   |false=>rw[hb]at h;exact ih h
  |_ =>
   simp only[zu,bP]at h ⊢;cases hb:Nat.beq k r with
   |true=>rw[hb]at h;cases h;exact⟨rfl, .inl rfl⟩
   |false=>rw[hb]at h;exact ih h
theorem Ua:∀{O:Os G} {r N:Nat} {ks:List Nat} {vs:AV G} {ps:List Nat} {a b:Code},bP O r=some (.lp N ks vs ps a b)->uy (zu O)=false:=by
 intro O
 induction O with
 |nil=>intro r N ks vs ps a b h;cases h
 |cons p q ih=>
  obtain⟨k,u⟩:=p;intro r N ks vs ps a b h;cases u with
  |lp _ _ _ _ _ _ =>rfl
  |aux c=>
   simp only[bP]at h;cases hb:Nat.beq k r with
   |true=>rw[hb]at h;cases h
   |false=>
    rw[hb]at h;cases c with
    |true=>exact ih h
    |false=>rfl
  |_ =>
   simp only[bP]at h;cases hb:Nat.beq k r with
   |true=>rw[hb]at h;cases h
   |false=>rw[hb]at h;exact ih h
theorem Fe{O:Os G}:iZ [(⟨[],O,[]⟩:Ly G)]=O:=List.append_nil O
theorem QG{J:World->Prop}{ρ:aP}:∀{ks:List Nat} {vs:AV G} {us:List Value} {d:Nat} {v:AV G},rl J ρ vs us->bP (Uo ks vs) d=some v->∃(j:Nat) (u:Value),ks[j]? =some d/\us[j]? =some u/\rv J ρ v u:=by
 intro ks
 induction ks with
 |nil=>intro vs us d v _ h;cases vs<;>cases h
 |cons k ks ih=>
  intro vs us d v hr h;cases vs with
  |cons x r=>
   obtain⟨u,us',rfl,h1,h2⟩:=hr;simp only[Uo,bP]at h;cases hb:Nat.beq k d with
   |true=>rw[hb]at h;cases h;obtain rfl:=ab6 hb;exact⟨0,u,rfl,rfl,h1⟩
   |false=>rw[hb]at h;obtain⟨j,u',k1,k2,k3⟩:=ih h2 h;exact⟨j+1,u',by simpa using k1,by simpa using k2,k3⟩
  |_ =>cases h
theorem Uq{J:World->Prop}{ρ:aP}{t:Array Value}:∀{F:Fr G} {seen:List Nat} {ks:List Nat} {vs:AV G},Ur seen F=(ks,vs)->(∀d v,bY seen d=false->bP F d=some v->∃u,t[d]? =some u/\rf J ρ t v u)->
  ∃us:List Value,rl J ρ vs us/\∀(j d:Nat) (u:Value),ks[j]? =some d->us[j]? =some u->t[d]? =some u:=by
 intro F
 induction F with
 |nil=>intro seen ks vs h _;cases h;exact⟨[],rfl,λj d u h=>by simp at h⟩
 |cons p r ih=>
  obtain⟨d0,v0⟩:=p;intro seen ks vs h hf;have O3:∀d v,bY (d0::seen) d=false->bP r d=some v->∃u,t[d]? =some u/\rf J ρ t v u:=λd v h1 h2=>by simp only[bY,Bool.or_eq_false_iff]at h1;refine hf d v h1.2 ?_;simp only[bP];have:Nat.beq d0 d=false:=h1.1;rw[this];exact h2
  unfold Ur at h;cases hb:(bY seen d0|| !rZ v0)with
  |true=>rw[hb]at h;exact ih h O3
  |false=>
   rw[hb]at h;simp only[cond_false]at h;rw[Bool.or_eq_false_iff]at hb;cases hr:Ur (d0::seen) r with
   |mk ks' vs'=>
    rw[hr]at h;cases h;obtain⟨us,q1,q2⟩:=ih hr O3;obtain⟨u,k1,k2⟩:=hf d0 v0 hb.1 (by simp only[bP,Nat.beq_refl,cond_true]);have k3:rv J ρ v0 u:=by
     cases v0 with
     |gd j w x=>cases hb.2
     |_ =>exact k2
    refine⟨u::us,⟨u,us,rfl,k3,q1⟩,λj d u' h1 h2=>?_⟩;cases j with
    |zero=>simp at h1 h2;subst h1;subst h2;exact k1
    |succ j=>exact q2 j d u' (by simpa using h1) (by simpa using h2)
theorem Rl.W6{c:Cx}{ρ:aP}{J:World->Prop}{X A B:List ay}{l:Nat}{o o':Obj}{S:AS G}{a:Act}{w:World}(h:Rl c N ρ J (A++ .obj l o::B) X C S a w)(ho:∀b,N4 b o->N4 b o')(hnm:∀es ck,o≠ .map es ck)(YA:∀r ob,bP (iZ C) r=some ob->M9 ob=false):
  Rl c N ρ J (A++ .obj l o'::B) X C S a (w.putObj l o')/\w.heap[l]? =some o:=by
 obtain⟨HS,q1,q3⟩:=h.hp;have pm:∀x:ay,(HS++((A++x::B)++X)).Perm (x::(HS++((A++B)++X))):=λx=>by
  have h1:HS++((A++x::B)++X)=(HS++A)++x::(B++X):=by simp
  have h2:HS++((A++B)++X)=(HS++A)++(B++X):=by simp
  rw[h1,h2];exact List.perm_middle
 have q4:=q3.gH (pm _);have hm:ay.obj l o∈(ay.obj l o::(HS++((A++B)++X))):=List.mem_cons_self;have hd:w.heap[l]? =some o:=q4.holds _ hm;have hlt:=(acf.1 hd).1;have fF:aG [l] w (w.putObj l o'):=⟨rfl,rfl,rfl,by simp[World.putObj],λk _ hk=>World.putObj_heap_other (by simpa using hk)⟩;have q5:=q4.set (k:=0) (r':= .obj l o') rfl fF.size (λj hj hne=>fF.block j hj hne) (World.putObj_heap_same hlt) h.si.s.size (λb' hb'=>by
  have e:b'=l:=by simpa[ay.bK]using hb'
  subst e;exact⟨.inl (by simp[ay.bK]),by rw[World.putObj];simpa using hlt⟩)
 refine⟨⟨h.tm,h.df,⟨h.si.s.store q4 hm (by simp[ay.bK]) fF,h.si.n⟩,h.fs,h.fc,λr ob e=>?_,⟨HS,q1,q5.gH (pm _).symm⟩,h.kn,h.fr⟩,hd⟩;obtain⟨y,y1,y2⟩:=h.kc r ob e;have keep:∀z,(z∈A\/z∈B)->z∈A++ay.obj l o'::B:=λz hz=>by
  rcases hz with hz|hz
  ·exact ace _ hz
  ·exact acd _ (ack _ hz)
 rcases List.mem_append.1 y1 with y1|y1
 ·exact⟨y,keep _ (.inl y1),y2⟩
 ·rcases List.mem_cons.1 y1 with rfl|y1
  ·refine⟨.obj l o',acd _ List.mem_cons_self,?_⟩
   cases ob with
   |bK T c=>obtain⟨_,_,_,e,_⟩:=y2;cases e
   |row _ _ _ _ =>obtain⟨_,_,_,e,_⟩:=y2;cases e
   |gm=>obtain⟨_,e⟩:=y2;cases e
   |fm _ _ _ =>obtain⟨_,es,ck,_,_,e,_⟩:=y2;cases e;exact absurd rfl (hnm es ck)
   |lp _ _ _ _ _ _ =>cases YA _ _ e
   |aux b=>obtain⟨n,x,m1,e,m3⟩:=y2;cases e;exact⟨_,_,m1,rfl,ho b m3⟩
  ·exact⟨y,keep _ (.inr y1),y2⟩
theorem K9{J:World->Prop}{ρ:aP}:∀{ps:List Nat} {v:AV G} {S S':AS G} {us:List Value},lu N C ps v S=some S'->rl J ρ v us->us.length=ps.length:=by
 intro ps
 induction ps with
 |nil=>
  intro v S S' us e hv;cases v<;>first|(simp[lu]at e;done)|skip
  have:us=[]:=hv;subst this;rfl
 |cons p ps ih=>
  intro v S S' us e hv;cases v<;>first|(simp[lu]at e;done)|skip
  rename_i v r;simp only[lu]at e;split at e
  ·rename_i S2 hS
   cases hb:rZ v with
   |false=>rw[hb]at e;cases e
   |true=>rw[hb]at e;obtain⟨u,us',rfl,h1,h2⟩:=hv;simp[ih e h2]
  ·cases e
theorem Mb{S S2 S3 S4:AS G}{f:Operand}{args:Array Operand}{ats:Array TypeId}{q N2:Nat}{ks ps:List Nat}{vs l:AV G}{a b:Code}{d:Option Tmp}{ty:TypeId}{pp:String}{af:Array Edge}{g:Option (Nat×Bool)}
  (hf:dX C S [] f=some (.yl q))(ha:HA (dX C S []) args.toList=some l)(hq:bP (iZ C) q=some (.lp N2 ks vs ps a b))(hrd:uy (iZ C)=true)
  (hb:lu N2 [⟨[],zu (iZ C),[]⟩] ps l ⟨Uo ks vs,S.O,S.nx,[]⟩=some S2)(h1:US P N2 [⟨[],zu (iZ C),[]⟩] (.code a) S2 S3 .fZ)(n1:S2.nx<=S3.nx)(h2:US P N2 [⟨[],zu (iZ C),[]⟩] (.code b) S3 S4 .fZ)(n2:S3.nx<=S4.nx)(hD:S4.D=[]):
  SK P ⟨d, .call ⟨.value f,args,ats⟩,ty,pp,af,g⟩ C S {S with O:=S4.O,nx:=S4.nx} (.kb true):=by
 intro c N ρ J HK X ac w next Q hr hk
 have hE:=bQ hr (ch:=[]) (by simp);obtain⟨n,y1,y2⟩:=hE.ok _ _ hf;have y2:ac.eval f= .func (.yield n) #[] #[]:=(List.cons.inj y2).1;obtain⟨x,hx,n',rec,us,z1,rfl,z3,z4⟩:=hr.kc q _ hq;have en:n'=n:=by rw[y1]at z1;cases z1;rfl
 subst en;obtain⟨r2,_⟩:=rD hE ha;obtain⟨HS,q1,q3⟩:=hr.hp;obtain⟨A,B,rfl⟩:=List.append_of_mem hx;have hm:ay.obj n' (.loop rec)∈HS++((A++ay.obj n' (.loop rec)::B)++X):=by simp
 have hl:w.heap[n']? =some (.loop rec):=q3.holds _ hm;have hro:c.ro=none:=hr.si.n hrd;have hlen:=K9 hb r2;have Yx:=Dm hb;have hy:=run_yield (P:=P) (args:=(args.toList.map ac.eval).toArray) hl (by rw[z4.ps];simpa using hlen);have abd:(rec.params.zip (args.toList.map ac.eval).toArray).foldl (λtmps (t,a)=>tmps.setIfInBounds t a) rec.tmps=(ps.zip (args.toList.map ac.eval)).foldl (λt q=>t.setIfInBounds q.1 q.2) rec.tmps:=by rw[z4.ps, ← Array.foldl_toList];simp
 rw[abd,z4.ab3,z4.bd]at hy;refine⟨λ_ _ =>trivial,?_⟩;rw[Oper.semAt_eq _ _ _ (by simp)];have hrun:(execOp ac.eval ⟨d, .call ⟨.value f,args,ats⟩,ty,pp,af,g⟩).run P w= .ok (.round n' rec.fn ((ps.zip (args.toList.map ac.eval)).foldl (λt q=>t.setIfInBounds q.1 q.2) rec.tmps) a b) w:=by
  have e3: #[]++(args.map ac.eval)=(args.toList.map ac.eval).toArray:=by apply Array.ext';simp
  simp only[execOp,resolve,y2,Deferred.ofValue,Sem.run_bind,Sem.run_pure,Result.andThen_ok,invoke,e3];exact hy
 rw[hrun];refine⟨λh=>by simp at h,⟨trivial,λcf cs hroom=>?_⟩⟩;let c':Cx:=⟨some n',w,aV (HS++((A++ay.obj n' (.loop rec)::B)++X))⟩;have hno:∀r ob,bP (iZ [(⟨[],zu (iZ C),[]⟩:Ly G)]) r=some ob->M9 ob=false:=λr ob e=>by rw[Fe]at e;exact(No e).1
 have hb0:Rl c' N2 ρ J (A++ay.obj n' (.loop rec)::B) X [⟨[],zu (iZ C),[]⟩] ⟨Uo ks vs,S.O,S.nx,[]⟩ {tmps:=rec.tmps,defers:=[]} w:=by
  refine⟨z4.sz, .nil,⟨aG.refl _ _,λh=>?_⟩,λd v e=>?_,λy hy=>?_,λr o e=>?_,⟨HS,q1,⟨q3.holds,λr hm b hb=>⟨.inl (aN.2 ⟨r,hm,hb⟩),(q3.own r hm b hb).2⟩,q3.apart⟩⟩,hr.kn,hr.fr⟩
  ·rw[Fe,Ua hq]at h;cases h
  ·obtain⟨j,u,k1,k2,k3⟩:=QG z3 e
   exact⟨u,z4.fr j d u k1 k2,Gf k3 _⟩
  ·simp at hy;subst hy;exactλd v e=>by cases e
  ·rw[Fe]at e
   rcases(No e).2 with e|⟨rfl,N',ks',vs',ps',a',b',e⟩
   ·exact hr.kc r o e
   ·obtain⟨y,w1,m,rc,_,w2,rfl,_⟩:=hr.kc r _ e
    exact⟨_,w1,m,_,w2,rfl,_,rfl⟩
 obtain⟨KV,_⟩:=hb0.bind hb r2;have rB:=roundIn_of_wpIn (F:=FA none) (n:=0) (P:=P) (l:=n') (f:=rec.fn) (tmps:=(ps.zip (args.toList.map ac.eval)).foldl (λt q=>t.setIfInBounds q.1 q.2) rec.tmps) (assign:=a) (body:=b) (w:=w) (R:=λe W'=>e= .returned (.bool true)/\next (ac.put d (.bool true)) W') trivial (by
  refine h1 c' ρ J _ _ _ w _ KV λρa Ja Ya a1 w1 me t1 m1 x1 k1=>?_;rw[fV x1];obtain⟨k2,hh⟩:=k1.W6 (o':= .loop {rec with state:= .busy}) (λb hb=>by cases b with
   |true=>cases hb
   |false=>exact⟨_,rfl⟩) (λ_ _ h=>by cases h) hno
  refine⟨_,run_beginRound hh z4.st,?_⟩;refine h2 c' ρa Ja _ _ a1 _ _ k2 λρb Jb Yb a2 w3 me t2 m2 x2 k3=>?_;rw[fV x2];obtain⟨k4,Ub⟩:=k3.W6 (o':= .loop rec) (λb hb=>by cases b with
   |true=>cases hb
   |false=>exact⟨_,rfl⟩) (λ_ _ h=>by cases h) hno
  have e:({{rec with state:=LoopState.busy}with state:=if(none:Option Code).isNone then LoopState.ready else .done,pending:=none}:Loop)=rec:=by have s1:=z4.st;have s2:=z4.pn;cases rec;simp_all
  have hend:=run_endRound (P:=P) none Ub;rw[e]at hend;refine⟨_,_,hend,rfl,?_⟩;obtain⟨HG,p1,p3⟩:=k4.hp;have tt:ρ.to ρb S.nx:=(show ρ.to ρa S.nx fromλr q=>t1 r (by rw[Yx];exact q)).trans t2 (by have:S2.nx=S.nx:=Yx;omega);have hle:=tt.le hr.fr;have mm:∀w,Jb w->J w:=λw q=>m1 w (m2 w q);refine hk ρb Jb (Yb++Ya) _ _ tt mm rfl ⟨hr.tm,hr.df.up mm hle,⟨hr.si.s.trans k4.si.s λb hb=>?_,hr.si.n⟩,hr.fs.up mm hle,hr.fc.up mm hle,hr.Hw mm hle,⟨HG,p1,?_⟩,?_,k4.fr⟩
  ·obtain⟨q,hq,T6⟩:=aN.1 hb
   exact(q3.own q hq b T6).1
  ·have e5:(Yb++Ya)++X=Yb++(Ya++X):=List.append_assoc _ _ _
   rw[e5];exact Fu q3 hr.si.size p3
  ·have e5:(Yb++Ya)++X=Yb++(Ya++X):=List.append_assoc _ _ _
   rw[e5];exact k4.kn)
 have YK:FA c.ro=FA none:=by rw[hro]
 rw[YK];obtain⟨hF,IC⟩:=rB;obtain⟨e,W',hpost,Iw⟩:=IC cf cs (by rw[← YK];exact hroom);refine⟨e,W',?_,Iw⟩;obtain⟨rfl,hn⟩:=hpost;exact hn
theorem Ei{tt:TT P G}{ek:Nat->List (Ek P G)}{Lw:Operand}{ps:Array Nat}{a b:Code}{S S1:AS G}{k:Nat}{cap:AV G}{fi:FI}{ks:List Nat}{vs:AV G}{e1 e2:Ex G}{O2:Os G}
  (Fw:dX C S [] Lw=some (.fn (.func k) .nil cap))(D1:BM P k=some fi)(hres:fi.xn=[])(hl:lK cap=true)(hn:vB cap+1<=fi.N)(hrd:uy (iZ C)=true)(hkv:Ur [] (S.F++Y5 C)=(ks,vs))
  (hU:US P fi.N [⟨[],(S.nx+1, .lp N ks vs ps.toList a b)::iZ C,[]⟩] (.code fi.code) ⟨sq 0 (.cons (.yl (S.nx+1)) cap),(S.nx, .aux true)::S.O,S.nx+2,[]⟩ S1 e1)(GJ:S.nx+2<=S1.nx)(hX:kT ek e1 S1.D S1.O=some (e2,O2))(he:e2= .fZ\/e2= .ret):
  US P N C (.code (.rangeFunc Lw ps a b)) S ⟨S.F,O2,S1.nx, .ptr S.nx []::S.D⟩ .fZ:=by
 intro c ρ J HK X ac w Q hr hq;have hE:=bQ hr (ch:=[]) (by simp);obtain⟨fs,cs,e3,r1,r3⟩:=qU (hE.ok _ _ Fw);have r1:fs=[]:=r1;subst r1;have hro:c.ro=none:=hr.si.n hrd;obtain⟨HS,q1,q3⟩:=hr.hp;refine wpIn_rangeFunc λfn _ =>?_;have rB:(FA c.ro).round=none:=hro;rw[rB];obtain⟨rec,aY⟩:∃rec:Loop,rec={state:= .ready,pending:=none,fn,tmps:=ac.tmps,params:=ps,assign:=a,body:=b,defers:=w.heap.size}:=⟨_,rfl⟩;obtain⟨W1,Qx⟩:∃W1,(w.alloc (.deferred (some []))).alloc (.loop rec)=W1:=⟨_,rfl⟩;have Yp:aG [] w W1:=by rw[← Qx];exact(aG.alloc w _).ext (aG.alloc _ _)
 obtain⟨ρ3,Qm⟩:∃ρ3:aP,ρ3=(ρ.set S.nx (cy w.heap.size 0)).set (S.nx+1) (cy (w.heap.size+1) 0):=⟨_,rfl⟩;have t3:ρ.to ρ3 S.nx:=by rw[Qm];exact(aP.jg ρ S.nx _).trans (aP.jg _ (S.nx+1) _) (by omega)
 have f3:ρ3.fr (S.nx+2):=by rw[Qm];exact aP.sP (aP.sP hr.fr _) _
 have l3:ρ.le ρ3:=t3.le hr.fr;have d3:ρ3 S.nx=some (cy w.heap.size 0):=by rw[Qm];simp[aP.set]
 have o3:ρ3 (S.nx+1)=some (cy (w.heap.size+1) 0):=by rw[Qm];simp[aP.set]
 obtain⟨us,u1,u2⟩:=Uq hkv (J:=J) (ρ:=ρ) (t:=ac.tmps) (λd v _ e=>C4 hr.fs (NL hr.fc) d v e);have hLp:ro J ρ3 (S.nx+1) (.lp N ks vs ps.toList a b) (.obj (w.heap.size+1) (.loop rec)):=⟨_,rec,us,o3,rfl,u1.ext l3,⟨by rw[aY];exact hr.tm,by rw[aY];exact u2,by rw[aY],by rw[aY],by rw[aY],by rw[aY],by rw[aY]⟩⟩;have hp1:aX c.bs c.w0.heap.size (.obj (w.heap.size+1) (.loop rec):: .obj w.heap.size (.deferred (some []))::(HS++(HK++X))) W1:=by
  have p0:aX c.bs c.w0.heap.size (.obj w.heap.size (.deferred (some []))::(HS++(HK++X))) (w.alloc (.deferred (some []))):=q3.fresh (aG.alloc _ _) (by show(w.heap.push _)[w.heap.size]? =_;simp) hr.si.size (λb hb=>by
   have e:b=w.heap.size:=by simpa[ay.bK]using hb
   subst e;exact⟨Nat.le_refl _,by simp⟩)
  rw[← Qx];refine p0.fresh (aG.alloc _ _) ?_ (by have:=hr.si.size;simp;omega) (λb hb=>?_)
  ·have:=World.alloc_heap_new (w.alloc (.deferred (some []))) (.loop rec)
   rwa[World.size_alloc]at this
  ·have e:b=w.heap.size+1:=by simpa[ay.bK]using hb
   subst e;simp
 obtain⟨C1,hC1⟩:∃C1:CC G,C1=⟨[],[(S.nx+1, .lp N ks vs ps.toList a b)],[]⟩::C:=⟨_,rfl⟩;have hob:iZ C1=(S.nx+1, .lp N ks vs ps.toList a b)::iZ C:=by rw[hC1];rfl
 have h4:Rl c N ρ3 J (.obj (w.heap.size+1) (.loop rec)::HK) X C1 ⟨S.F,(S.nx, .aux true)::S.O,S.nx+2,S.D⟩ ac W1:=by
  refine⟨hr.tm,?_,⟨hr.si.s.ext Yp,λ_ =>hro⟩,hr.fs.up (λ_ h=>h) l3,λy hy=>?_,λr o e=>?_,⟨.obj w.heap.size (.deferred (some []))::HS, .cons ⟨_,_,d3,rfl,rfl⟩ (q1.up (λ_ h=>h) l3),?_⟩,hr.kn,f3⟩
  ·have:Sq C1=Sq C:=by rw[hC1];rfl
   rw[this];exact hr.df.up (λ_ h=>h) l3
  ·rw[hC1]at hy
   rcases List.mem_cons.1 hy with rfl|hy
   ·exactλd v e=>by cases e
   ·exact hr.fc.up (λ_ h=>h) l3 y hy
  ·rw[hob]at e
   simp only[bP]at e;cases hb:Nat.beq (S.nx+1) r with
   |true=>rw[hb]at e;cases e;rw[← ab6 hb];exact⟨_,List.mem_cons_self,hLp⟩
   |false=>rw[hb]at e;obtain⟨y,k1,k2⟩:=hr.Hw (λ_ h=>h) l3 r o e;exact⟨y,ack _ k1,k2⟩
  ·refine hp1.gH ?_
   have e1:(ay.obj w.heap.size (.deferred (some []))::HS)++((ay.obj (w.heap.size+1) (.loop rec)::HK)++X)=(ay.obj w.heap.size (.deferred (some []))::HS)++ay.obj (w.heap.size+1) (.loop rec)::(HK++X):=rfl;rw[e1];exact(List.perm_middle (l₁:=ay.obj w.heap.size (.deferred (some []))::HS) (a:=ay.obj (w.heap.size+1) (.loop rec)) (l₂:=HK++X)).symm
 have hv:rl J ρ3 (.cons (.yl (S.nx+1)) cap) (Value.func (.yield (w.heap.size+1)) #[] #[]::cs):=⟨_,_,rfl,⟨_,o3,rfl⟩,r3.ext l3⟩;have hU':US P fi.N [⟨[],iZ C1,[]⟩] (.code fi.code) ⟨sq 0 (.cons (.yl (S.nx+1)) cap),(S.nx, .aux true)::S.O,S.nx+2,[]⟩ S1 e1:=by rw[hob];exact hU
 have hrA:Ak tt [⟨[],iZ C1,[]⟩] ⟨S1.F,O2,S1.nx,[]⟩ fi.xn=some (.gO .nil):=by rw[hres];rfl
 have qg:=zF (tt:=tt) h4 D1 (show lK (.cons (.yl (S.nx+1)) cap)=true from hl) (show vB (.cons (.yl (S.nx+1)) cap)<=fi.N from hn) hv hU' hX rfl (.inr ⟨he,_,hrA⟩);obtain⟨fnk,f1,f2,f5⟩:=yb D1;have h1n:fnk.name≠ "runtime.NumGoroutine" :=by simpa using f5
 obtain⟨code,f2⟩:=Option.isSome_iff_exists.1 f2;refine⟨w.heap.size+1,[Go.Bw.mark w.heap.size],W1,{target:= .fn (.func k) cs.toArray,args:= #[.func (.yield (w.heap.size+1)) #[] #[]]},W1,k,
  (Value.func (.yield (w.heap.size+1)) #[] #[]::cs).toArray,W1,?_,?_,λ_ _ =>trivial,?_,λh=>by simp at h,?_⟩
 ·rw[← Qx,aY];exact run_enterLoop_outer _ _ _ _ _
 ·simp only[resolve,e3]
  simp[go_sem]
 ·simp[invoke,callFunc,f1,h1n,f2,Go.mark]
 ·refine gk c.ro ?_
  intro cs';obtain⟨en,w3,fr,⟨ρ',J',Y,k1,k2,k3,k4⟩,rest⟩:=qg cs';refine⟨en,w3,fr,?_,rest⟩;rcases k4 with⟨v',u,p1,_⟩|⟨_,v',u,p1,rfl,p3⟩
  ·rcases he with he|he<;>rw[he]at p1<;>cases p1
  ·obtain⟨HG,p4,p5⟩:=k3.hp
   have Hz:ay.obj (w.heap.size+1) (.loop rec)∈HG++((ay.obj (w.heap.size+1) (.loop rec)::HK)++(Y++X)):=by simp
   have Z7:w3.heap[w.heap.size+1]? =some (.loop rec):=p5.holds _ Hz;have hpe:rec.pending=none:=by rw[aY]
   have hend:(Instr.endLoop (w.heap.size+1)).run P w3= .ok none (w3.putObj (w.heap.size+1) (.loop {rec with state:= .exhausted})):=(run_endLoop (P:=P) Z7 (by rw[aY];simp)).trans (by rw[hpe]);refine⟨none,_,hend,?_⟩;have k1:ρ3.to ρ' (S.nx+2):=k1;have tt':ρ.to ρ' S.nx:=t3.trans k1 (by omega);have hle:=tt'.le hr.fr;have hlt:=(acf.1 Z7).1;have fF:aG [w.heap.size+1] w3 (w3.putObj (w.heap.size+1) (.loop {rec with state:= .exhausted})):=⟨rfl,rfl,rfl,by simp[World.putObj],λk _ hk=>World.putObj_heap_other (by simpa using hk)⟩;have q6:=(p5.gH (List.perm_middle (a:=ay.obj (w.heap.size+1) (.loop rec)) (l₁:=HG) (l₂:=HK++(Y++X)))).set (k:=0) (r':= .obj (w.heap.size+1) (.loop {rec with state:= .exhausted})) rfl fF.size (λj hj hne=>fF.block j hj hne) (World.putObj_heap_same hlt) k3.si.s.size (λb' hb'=>by
    have e:b'=w.heap.size+1:=by simpa[ay.bK]using hb'
    subst e;exact⟨.inl (by simp[ay.bK]),by rw[World.putObj];simpa using hlt⟩)
   refine hq ρ' J' Y _ _ .normal tt' k2 trivial ⟨hr.tm,?_,⟨k3.si.s.store p5 Hz (by simp[ay.bK]) fF,hr.si.n⟩,hr.fs.up k2 hle,hr.fc.up k2 hle,hr.Hw k2 hle,⟨HG,p4,q6.sub (List.Sublist.cons _ (List.Sublist.refl _))⟩,k3.kn,k3.fr⟩;exact .cons ⟨rfl,_,(k1 S.nx (by omega)).trans d3,rfl⟩ (hr.df.up k2 hle)
end Go.Rw
