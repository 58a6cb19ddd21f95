/- Part 9 of what a proof leans on; pruned and shortened by a program out of longer texts. -/
import Derived.Test.YtimljlkgaopafaaGreatDoorQ8
namespace Go.Rw
open Go Go.Bw Go.RowKit
variable {G:Sg} {P:Program} {N:Nat} {C:CC G} {ops:Array Oper} {A:List Nat} {ws:List (Nat×Nat)} {F0:Fr G} {D0:List (AV G)} {t:Tc G} {l:Array Bool}
structure Hy(P:Program)(N:Nat)(C:CC G)(ops:Array Oper)(A:List Nat)(ws:List (Nat×Nat))(F0:Fr G)(D0:List (AV G))(t:Tc G):Prop where
 hA:A=Gs ops ops.size
 hws:ws=zR 0 ops.toList
 hW:SR A ws ws=true
 st:∀q o,ops[q]? =some o->jh P N C ops A ws F0 D0 t o q
 g0:∀d j w x,dm (t.T 0).F d=some (.gd j w x)->∀q,(q,j)∉ws
def Cl(ops:Array Oper)(l:Array Bool):Prop:=∀j,dn l j->∀k∈A3 ops j,dn l k
theorem Hy.mem(h:Hy P N C ops A ws F0 D0 t){q d:Nat}:(q,d)∈ws↔∃o,ops[q]? =some o/\o.dst=some d:=by rw[h.hws,Xw];simp
theorem Hy.RU(h:Hy P N C ops A ws F0 D0 t)(rX:Cl ops l){i j:Nat}(hb:n6 A i j=true)(hi:∀k∈A3 ops i,dn l k):dn l j:=by rw[h.hA]at hb;exact aex rX _ _ _ hb hi
theorem Hy.F'(h:Hy P N C ops A ws F0 D0 t){q:Nat}(hq:q<ops.size):(t.T (q+1)).F=t.pr q++(t.T q).F:=by
 have:=h.st q _ (Array.getElem?_eq_getElem hq);unfold jh at this;split at this
 ·exact this.F'
 ·rw[this.1,this.2];rfl
theorem Hy.pr(h:Hy P N C ops A ws F0 D0 t){q:Nat}(hq:q<ops.size):t.pr q=[]\/∃d v,t.pr q=[(d,v)]/\(q,d)∈ws/\∀j w x,v= .gd j w x->TL A q j ws=true:=by
 have ho:ops[q]? =some ops[q]:=Array.getElem?_eq_getElem hq;have:=h.st q _ ho;unfold jh at this;split at this
 ·rcases this.pk with⟨_,e⟩|⟨d,v,e1,e2,_,e3⟩
  ·exact .inl e
  ·exact .inr ⟨d,v,e2,h.mem.2 ⟨_,ho,e1⟩,e3⟩
 ·exact .inl this.2
theorem Dc{q d:Nat}{F:Fr G}(h:Hy P N C ops A ws F0 D0 t)(hq:q<ops.size)(hd:(q,d)∉ws):dm (t.pr q++F) d=dm F d:=by
 rcases h.pr hq with e|⟨d',v,e,hm,_⟩
 ·rw[e];rfl
 ·rw[e]
  simp only[List.cons_append,List.nil_append,dm];cases hb:Nat.beq d' d with
  |true=>rw[akf hb]at hm;exact absurd hm hd
  |false=>rfl
def FL(t:Tc G)(l:Array Bool):Nat->Fr G
 |0=>(t.T 0).F
 |q+1=>(bif l.getD q false then t.pr q else[])++FL t l q
theorem Ao{q:Nat}(h:¬dn l q):FL t l (q+1)=FL t l q:=by
 unfold dn at h;show(bif l.getD q false then t.pr q else[])++FL t l q=_;cases hb:l.getD q false with
 |true=>rw[hb]at h;exact absurd rfl h
 |false=>rfl
theorem BB{q:Nat}(h:dn l q):FL t l (q+1)=t.pr q++FL t l q:=by unfold dn at h;show(bif l.getD q false then t.pr q else[])++FL t l q=_;rw[h];rfl
theorem Hy.bS(h:Hy P N C ops A ws F0 D0 t)(rX:Cl ops l){i d:Nat}(hi:i<ops.size)(hrd:∀k∈A3 ops i,dn l k)(uU:¬dn l i)(hv:BO A i d ws=true):dm (FL t l ops.size) d=dm (t.T i).F d:=by
 have p1:∀q,q<=i->dm (FL t l q) d=dm (t.T q).F d:=by
  intro q
  induction q with
  |zero=>intro _;rfl
  |succ q ih=>
   intro hq;have ih:=ih (by omega);rw[h.F' (by omega)];by_cases hd:(q,d)∈ws
   ·rcases UA hv q hd with e|⟨_,e⟩|⟨e,_⟩
    ·omega
    ·rw[BB (h.RU rX e hrd),kR,kR,ih]
    ·omega
   ·rw[Dc h (by omega) hd]
    by_cases DZ:dn l q
    ·rw[BB DZ,Dc h (by omega) hd];exact ih
    ·rw[Ao DZ];exact ih
 have p2:∀k,i+k<=ops.size->dm (FL t l (i+k)) d=dm (FL t l i) d:=by
  intro k
  induction k with
  |zero=>intro _;rfl
  |succ k ih=>
   intro hk;have ih:=ih (by omega);rw[← ih];show dm (FL t l (i+k+1)) d=_;by_cases DZ:dn l (i+k)
   ·rw[BB DZ]
    refine Dc h (by omega) λhd=>?_;rcases UA hv _ hd with e|⟨e,_⟩|⟨_,e⟩
    ·rw[e]at DZ;exact uU DZ
    ·omega
    ·exact uU (h.RU rX e (rX _ DZ))
   ·rw[Ao DZ]
 have:=p2 (ops.size-i) (by omega);rw[show i+(ops.size-i)=ops.size from by omega]at this;rw[this,p1 i (Nat.le_refl _)]
theorem Hy.iH(h:Hy P N C ops A ws F0 D0 t)(hs:l.size=ops.size)(rX:Cl ops l){i d:Nat}(hi:i<ops.size)(uU:¬dn l i):
  ((i,d)∉ws->dm (FL t (l.setIfInBounds i true) ops.size) d=dm (FL t l ops.size) d)/\((i,d)∈ws->∀v,dm (FL t (l.setIfInBounds i true) ops.size) d=some v->t.pr i=[]\/(d,v)∈t.pr i):=by
 have yE:i<l.size:=by omega
 have off:∀q,q≠i->(dn (l.setIfInBounds i true) q↔dn l q):=λq hq=>by rw[gT yE];simp[hq]
 refine⟨λhd=>?_,λhd v hv=>?_⟩
 ·have key:∀q,q<=ops.size->dm (FL t (l.setIfInBounds i true) q) d=dm (FL t l q) d:=by
   intro q
   induction q with
   |zero=>intro _;rfl
   |succ q ih=>
    intro hq;have ih:=ih (by omega);by_cases e:q=i
    ·subst e
     rw[BB ((gT yE).2 (.inr rfl)),Ao uU,Dc h hi hd];exact ih
    ·by_cases DZ:dn l q
     ·rw[BB ((off q e).2 DZ),BB DZ,kR,kR,ih]
     ·rw[Ao (λx=>DZ ((off q e).1 x)),Ao DZ];exact ih
  exact key _ (Nat.le_refl _)
 ·have key:∀k,i+1+k<=ops.size->dm (FL t (l.setIfInBounds i true) (i+1+k)) d=dm (FL t (l.setIfInBounds i true) (i+1)) d:=by
   intro k
   induction k with
   |zero=>intro _;rfl
   |succ k ih=>
    intro hk;have ih:=ih (by omega);rw[← ih];show dm (FL t _ (i+1+k+1)) d=_;by_cases DZ:dn (l.setIfInBounds i true) (i+1+k)
    ·rw[BB DZ]
     refine Dc h (by omega) λhm=>?_;have L8:=(off _ (by omega)).1 DZ;exact uU (h.RU rX (agm h.hW _ _ hm i hd (by omega)) (rX _ L8))
    ·rw[Ao DZ]
  have e:=key (ops.size-(i+1)) (by omega);rw[show i+1+(ops.size-(i+1))=ops.size from by omega]at e;rw[e,BB ((gT yE).2 (.inr rfl))]at hv;rcases h.pr hi with e|⟨d',v',e,hm,_⟩
  ·exact .inl e
  ·refine .inr ?_
   obtain⟨o1,h1,h2⟩:=h.mem.1 hm;obtain⟨o2,h3,h4⟩:=h.mem.1 hd;rw[h1]at h3;cases h3;rw[h2]at h4;cases h4;rw[e]at hv ⊢;simp only[List.cons_append,List.nil_append,dm,Nat.beq_refl,cond_true]at hv;cases hv;simp
theorem Z8{α:Type}:∀{F:List (Nat×α)} {d:Nat} {v:α},dm F d=some v->(d,v)∈F:=by
 intro F
 induction F with
 |nil=>intro d v h;cases h
 |cons q r ih=>
  obtain⟨k,u⟩:=q;intro d v h;simp only[dm]at h;cases hb:Nat.beq k d with
  |true=>rw[hb]at h;cases h;rw[akf hb];simp
  |false=>rw[hb]at h;exact akp _ (ih h)
theorem Hy.gd(h:Hy P N C ops A ws F0 D0 t)(rX:Cl ops l){i:Nat}(uU:¬dn l i){d j:Nat}{w:Bool}{x:AV G}(e:dm (FL t l ops.size) d=some (.gd j w x)):(i,j)∉ws:=by
 have yo:∀q,q<=ops.size->dm (FL t l q) d=some (.gd j w x)->dm (t.T 0).F d=some (.gd j w x)\/∃q',q'<ops.size/\dn l q'/\(d, .gd j w x)∈t.pr q':=by
  intro q
  induction q with
  |zero=>intro _ e;exact .inl e
  |succ q ih=>
   intro hq e;by_cases DZ:dn l q
   ·rw[BB DZ,kR]at e
    split at e
    ·rename_i v hv;cases e;exact .inr ⟨q,by omega,DZ,Z8 hv⟩
    ·exact ih (by omega) e
   ·rw[Ao DZ]at e;exact ih (by omega) e
 intro hm;rcases yo _ (Nat.le_refl _) e with e|⟨q,q1,q2,q3⟩
 ·exact h.g0 d j w x e i hm
 ·rcases h.pr q1 with e|⟨d',v',e,_,hb⟩
  ·rw[e]at q3;cases q3
  ·rw[e]at q3
   simp at q3;exact uU (h.RU rX (aeu (hb j w x q3.2.symm) i hm) (rX _ q2))
theorem Hy.sd(h:Hy P N C ops A ws F0 D0 t){q:Nat}(hq:q<ops.size)(hk:t.kd q= .d):StD P N C ops A ws F0 D0 (ops[q]'hq) q (t.rd q) (t.ac q) (t.on q) (t.pr q) (t.T q) (t.T (q+1)):=by have:=h.st q _ (Array.getElem?_eq_getElem hq);unfold jh at this;rw[hk]at this;exact this
theorem Hy.un(h:Hy P N C ops A ws F0 D0 t){q:Nat}(hq:q<ops.size)(hk:t.kd q≠ .d):t.T (q+1)=t.T q/\t.pr q=[]:=by
 have:=h.st q _ (Array.getElem?_eq_getElem hq);unfold jh at this;split at this
 ·rename_i e;exact absurd e hk
 ·exact this
theorem Hy.lg(h:Hy P N C ops A ws F0 D0 t){q:Nat}(hk:t.kd q= .d):∀{i:Nat},i<=ops.size->q<i->(⟨q,t.rd q,t.ac q,jd (t.on q)⟩:Lg)∈(t.T i).lg:=by
 intro i
 induction i with
 |zero=>intro _ hq;omega
 |succ i ih=>
  intro hi hq;by_cases ki:t.kd i= .d
  ·rw[(h.sd (by omega) ki).lg']
   by_cases e:q=i
   ·subst e;exact List.mem_cons_self
   ·exact akp _ (ih (by omega) (by omega))
  ·rw[(h.un (by omega) ki).1]
   by_cases e:q=i
   ·subst e;exact absurd hk ki
   ·exact ih (by omega) (by omega)
theorem Hy.apart(h:Hy P N C ops A ws F0 D0 t){q i:Nat}(hi:i<ops.size)(hq:q<i)(kq:t.kd q= .d)(ki:t.kd i= .d)(hb:n6 A i q≠true):(∀x∈t.ac q++jd (t.on q),x∉t.rd i++t.ac i)/\∀x∈t.ac i++jd (t.on i),x∉t.rd q++t.ac q:=by
 rcases abH (h.sd hi ki).RM _ (h.lg kq (Nat.le_of_lt hi) hq)with e|e
 ·exact absurd e hb
 ·exact e
theorem nY{p:Nat->Bool}:∀{O O':Os G},bK p (O++O')=bK p O++bK p O':=by
 intro O
 induction O with
 |nil=>intro O';rfl
 |cons q r ih=>
  obtain⟨k,v⟩:=q;intro O';simp only[List.cons_append,bK];cases p k with
  |true=>simp only[cond_true,List.cons_append,ih]
  |false=>simp only[cond_false,ih]
theorem qJ{p q:Nat->Bool}:∀{O:Os G},bK p (bK q O)=bK q (bK p O):=by
 intro O
 induction O with
 |nil=>rfl
 |cons x r ih=>obtain⟨k,v⟩:=x;cases hp:p k<;>cases hq:q k<;>simp[bK,hp,hq,ih]
theorem zO{p:Nat->Bool}:∀{O:Os G},(∀k∈jd O,p k=true)->bK p O=O:=by
 intro O
 induction O with
 |nil=>intro _;rfl
 |cons x r ih=>obtain⟨k,v⟩:=x;intro h;simp only[bK,h k (by simp[jd]),cond_true];rw[ih λk hk=>h k (by simp[jd,hk])]
theorem EW{p:Nat->Bool}:∀{O:Os G},(∀k∈jd O,p k=false)->bK p O=[]:=by
 intro O
 induction O with
 |nil=>intro _;rfl
 |cons x r ih=>obtain⟨k,v⟩:=x;intro h;simp only[bK,h k (by simp[jd]),cond_false];exact ih λk hk=>h k (by simp[jd,hk])
theorem KY{p:Nat->Bool}:∀{O:Os G} {k:Nat},k∈jd (bK p O)->p k=true/\k∈jd O:=by
 intro O
 induction O with
 |nil=>intro k h;cases h
 |cons x r ih=>
  obtain⟨j,v⟩:=x;intro k h;simp only[bK]at h;cases hp:p j with
  |true=>
   rw[hp]at h;simp only[cond_true,jd,List.mem_cons]at h;rcases h with rfl|h
   ·exact⟨hp,by simp[jd]⟩
   ·exact⟨(ih h).1,by simp[jd,(ih h).2]⟩
  |false=>rw[hp]at h;exact⟨(ih h).1,by simp[jd,(ih h).2]⟩
theorem Tt{p:Nat->Bool}{O O':Os G}(h:O.Perm O'):(bK p O).Perm (bK p O'):=by
 induction h with
 |nil=>exact .refl _
 |cons x _ ih=>obtain⟨k,v⟩:=x;simp only[bK];cases p k with
  |true=>exact ih.cons _
  |false=>exact ih
 |swap x y l=>obtain⟨k,v⟩:=x;obtain⟨j,u⟩:=y;simp only[bK];cases p k<;>cases p j<;>first|exact .refl _ |exact .swap _ _ _
 |trans _ _ i1 i2=>exact i1.trans i2
theorem II{p:Nat->Bool}:∀{O:Os G},(bK p O).Sublist O:=by
 intro O
 induction O with
 |nil=>exact .refl _
 |cons x r ih=>obtain⟨k,v⟩:=x;simp only[bK];cases p k with
  |true=>exact ih.cons_cons _
  |false=>exact ih.cons _
theorem Ts{p:Nat->Bool}{O O':Os G}(h:O.Sublist O'):(bK p O).Sublist (bK p O'):=by
 induction h with
 |slnil=>exact .refl _
 |cons x _ ih=>obtain⟨k,v⟩:=x;simp only[bK];cases p k with
  |true=>exact ih.cons _
  |false=>exact ih
 |cons_cons x _ ih=>obtain⟨k,v⟩:=x;simp only[bK];cases p k with
  |true=>exact ih.cons_cons _
  |false=>exact ih
theorem xo{l:List Nat}{k:Nat}(h:k∉l):cv l k=false:=by
 cases hb:cv l k with
 |false=>rfl
 |true=>exact absurd (nM.1 hb) h
theorem IJ{z ac:List Nat}{O:Os G}(hz:∀x∈ac,x∉z):bK (cv z) (bK (λr=> !cv ac r) O)=bK (cv z) O:=by rw[qJ];refine zO λk hk=>?_;rw[xo λhm=>hz k hm (nM.1 (KY hk).1)];rfl
def ML(t:Tc G)(l:Array Bool):Nat->Os G
 |0=>(t.T 0).M
 |q+1=>bif l.getD q false then(match t.kd q with
  | .d=>t.on q++bK (λr=> !cv (t.ac q) r) (ML t l q)
  |_ =>ML t l q)else ML t l q
theorem uT{q:Nat}(h:¬dn l q):ML t l (q+1)=ML t l q:=by
 unfold dn at h;show(bif l.getD q false then _ else ML t l q)=_;cases hb:l.getD q false with
 |true=>rw[hb]at h;exact absurd rfl h
 |false=>rfl
theorem An{q:Nat}(h:dn l q)(hk:t.kd q= .d):ML t l (q+1)=t.on q++bK (λr=> !cv (t.ac q) r) (ML t l q):=by
 unfold dn at h;show(bif l.getD q false then(match t.kd q with
  | .d=>t.on q++bK (λr=> !cv (t.ac q) r) (ML t l q)
  |_ =>ML t l q)else ML t l q)=_
 rw[h,hk];rfl
theorem ae6(h:Hy P N C ops A ws F0 D0 t)(hd:∀q,q<ops.size->dn l q/\t.kd q= .d):∀q,q<=ops.size->ML t l q=(t.T q).M:=by
 intro q
 induction q with
 |zero=>intro _;rfl
 |succ q ih=>intro hq;obtain⟨h1,h2⟩:=hd q (by omega);rw[An h1 h2,ih (by omega),(h.sd (by omega) h2).M']
theorem Hy.af7(h:Hy P N C ops A ws F0 D0 t)(rX:Cl ops l){i:Nat}(z:List Nat)(hi:i<ops.size)(uU:¬dn l i)(hrd:∀k∈A3 ops i,dn l k)(hkd:∀q,q<ops.size->dn l q->t.kd q= .d)
  (h1:∀q,q<i->t.kd q= .d->n6 A i q≠true->∀x∈t.ac q++jd (t.on q),x∉z)(h2:∀q,i<q->q<ops.size->dn l q->∀x∈t.ac q++jd (t.on q),x∉z):bK (cv z) (ML t l ops.size)=bK (cv z) (t.T i).M:=by
 have p1:∀q,q<=i->bK (cv z) (ML t l q)=bK (cv z) (t.T q).M:=by
  intro q
  induction q with
  |zero=>intro _;rfl
  |succ q ih=>
   intro hq;have ih:=ih (by omega);by_cases kq:t.kd q= .d
   case neg=>rw[(h.un (by omega) kq).1,uT λhd=>kq (hkd q (by omega) hd)];exact ih
   rw[(h.sd (by omega) kq).M'];by_cases hd:dn l q
   ·rw[An hd kq,nY,nY,qJ,ih,qJ]
   ·rw[uT hd,ih,nY]
    have hb:n6 A i q≠true:=λhb=>hd (h.RU rX hb hrd);have hz:=h1 q (by omega) kq hb;rw[EW (O:=t.on q) λk hk=>xo (hz k (akj _ hk)),List.nil_append,IJ λx hx=>hz x (akk _ hx)]
 have p2:∀k,i+k<=ops.size->bK (cv z) (ML t l (i+k))=bK (cv z) (ML t l i):=by
  intro k
  induction k with
  |zero=>intro _;rfl
  |succ k ih=>
   intro hk;have ih:=ih (by omega);rw[← ih];show bK (cv z) (ML t l (i+k+1))=_;by_cases hd:dn l (i+k)
   ·have hne:i<i+k:=by
     rcases Nat.eq_zero_or_pos k with e|e
     ·subst e;exact absurd hd uU
     ·omega
    rw[An hd (hkd _ (by omega) hd),nY];have hz:=h2 _ hne (by omega) hd;rw[EW (O:=t.on (i+k)) λk' hk'=>xo (hz k' (akj _ hk')),List.nil_append,IJ λx hx=>hz x (akk _ hx)]
   ·rw[uT hd]
 have:=p2 (ops.size-i) (by omega);rw[show i+(ops.size-i)=ops.size from by omega]at this;rw[this,p1 i (Nat.le_refl _)]
theorem Hy.agt(h:Hy P N C ops A ws F0 D0 t)(hs:l.size=ops.size)(rX:Cl ops l){i:Nat}(hi:i<ops.size)(uU:¬dn l i)(hkd:∀q,q<ops.size->dn l q->t.kd q= .d)(ki:t.kd i= .d):(ML t (l.setIfInBounds i true) ops.size).Perm (t.on i++bK (λr=> !cv (t.ac i) r) (ML t l ops.size)):=by
 have yE:i<l.size:=by omega
 have off:∀q,q≠i->(dn (l.setIfInBounds i true) q↔dn l q):=λq hq=>by rw[gT yE];simp[hq]
 have p1:∀q,q<=i->ML t (l.setIfInBounds i true) q=ML t l q:=by
  intro q
  induction q with
  |zero=>intro _;rfl
  |succ q ih=>
   intro hq;have ih:=ih (by omega);by_cases hd:dn l q
   ·rw[An ((off q (by omega)).2 hd) (hkd q (by omega) hd),An hd (hkd q (by omega) hd),ih]
   ·rw[uT λx=>hd ((off q (by omega)).1 x),uT hd,ih]
 have p2:∀k,i+1+k<=ops.size->(ML t (l.setIfInBounds i true) (i+1+k)).Perm (t.on i++bK (λr=> !cv (t.ac i) r) (ML t l (i+1+k))):=by
  intro k
  induction k with
  |zero=>intro _;show(ML t _ (i+1)).Perm (_ ++bK _ (ML t l (i+1)));rw[An ((gT yE).2 (.inr rfl)) ki,uT uU,p1 i (Nat.le_refl _)]
  |succ k ih=>
   intro hk;have ih:=ih (by omega);show(ML t _ (i+1+k+1)).Perm (_ ++bK _ (ML t l (i+1+k+1)));by_cases hd:dn l (i+1+k)
   ·have kq:=hkd _ (by omega) hd
    have hb:n6 A (i+1+k) i≠true:=λhb=>uU (h.RU rX hb (rX _ hd));obtain⟨a1,a2⟩:=h.apart (q:=i) (i:=i+1+k) (by omega) (by omega) ki kq hb;rw[An ((off _ (by omega)).2 hd) kq,An hd kq,nY];have e1:bK (λr=> !cv (t.ac (i+1+k)) r) (t.on i)=t.on i:=zO λk' hk'=>by rw[xo λhm=>a1 k' (akj _ hk') (akj _ hm)];rfl
    have e2:bK (λr=> !cv (t.ac i) r) (t.on (i+1+k))=t.on (i+1+k):=zO λk' hk'=>by rw[xo λhm=>a2 k' (akj _ hk') (akj _ hm)];rfl
    rw[e2];have ih2:=Tt (p:=λr=> !cv (t.ac (i+1+k)) r) ih;rw[nY,e1,qJ]at ih2;refine(List.Perm.append_left _ ih2).trans ?_;rw[← List.append_assoc, ← List.append_assoc];exact List.Perm.append_right _ List.perm_append_comm
   ·rw[uT λx=>hd ((off _ (by omega)).1 x),uT hd];exact ih
 have:=p2 (ops.size-(i+1)) (by omega);rwa[show i+1+(ops.size-(i+1))=ops.size from by omega]at this
theorem Hy.atP(h:Hy P N C ops A ws F0 D0 t)(rX:Cl ops l){j:Nat}{un:List Nat}(hj:j<ops.size)(uU:¬dn l j)(hrd:∀k∈A3 ops j,dn l k)(hkd:∀q,q<ops.size->dn l q->t.kd q= .d)(hk0:∀q,q<j->t.kd q= .d)
  (h1:∀q,q<j->n6 A j q=true\/(t.ac q=[]/\∀x∈jd (t.on q),x∈un))(h2:∀q,j<q->q<ops.size->dn l q->t.ac q=[]):(bK (λr=> !cv un r) (t.T j).M).Sublist (ML t l ops.size):=by
 have LV:∀(O:Os G),bK (λr=> !cv ([]:List Nat) r) O=O:=λO=>zO λk _ =>rfl;have p1:∀q,q<=j->bK (λr=> !cv un r) (ML t l q)=bK (λr=> !cv un r) (t.T q).M:=by
  intro q
  induction q with
  |zero=>intro _;rfl
  |succ q ih=>
   intro hq;have ih:=ih (by omega);have kq:=hk0 q (by omega);rw[(h.sd (by omega) kq).M'];rcases h1 q (by omega)with hb|⟨ea,hu⟩
   ·rw[An (h.RU rX hb hrd) kq,nY,nY,qJ,ih,qJ]
   ·have en:bK (λr=> !cv un r) (t.on q)=[]:=EW λk hk=>by rw[nM.2 (hu k hk)];rfl
    rw[ea,LV,nY,en,List.nil_append];by_cases hd:dn l q
    ·rw[An hd kq,ea,LV,nY,en,List.nil_append,ih]
    ·rw[uT hd,ih]
 have p2:∀k,j+k<=ops.size->(ML t l j).Sublist (ML t l (j+k)):=by
  intro k
  induction k with
  |zero=>intro _;exact .refl _
  |succ k ih=>
   intro hk;have ih:=ih (by omega);show(ML t l j).Sublist (ML t l (j+k+1));by_cases hd:dn l (j+k)
   ·have hne:j<j+k:=by
     rcases Nat.eq_zero_or_pos k with e|e
     ·subst e;exact absurd hd uU
     ·omega
    rw[An hd (hkd _ (by omega) hd),h2 _ hne (by omega) hd,LV];exact ih.trans (List.sublist_append_right _ _)
   ·rw[uT hd];exact ih
 have:=p2 (ops.size-j) (by omega);rw[show j+(ops.size-j)=ops.size from by omega]at this;rw[← p1 j (Nat.le_refl _)];exact II.trans this
end Go.Rw
namespace Go.Rw
open Go Go.Bw Go.RowKit
variable {G:Sg} {P:Program} {N:Nat} {C:CC G} {ops:Array Oper} {A:List Nat} {ws:List (Nat×Nat)} {F0:Fr G} {D0:List (AV G)} {t:Tc G} {l:Array Bool}
theorem SN{a a':Act}{d:Nat}{dst:Option Tmp}{u:Value}{Df:List Deferred}(ha:a'=({a with defers:=Df}:Act).put dst u)(h:dst≠some d):a'.tmps[d]? =a.tmps[d]? :=by
 subst ha;cases dst with
 |none=>rfl
 |some e=>show(a.tmps.setIfInBounds e u)[d]? =_;rw[Array.getElem?_setIfInBounds,ake (λq=>h (by rw[q]))]
theorem acS{J:World->Prop}{ρ:bh}{a a':Act}{dst:Option Tmp}{u x:Value}{Df:List Deferred}{v:AV G}(ha:a'=({a with defers:=Df}:Act).put dst u)(hn:∀j w y,v= .gd j w y->dst≠some j)(h:rf J ρ a.tmps v x):rf J ρ a'.tmps v x:=by
 subst ha;cases dst with
 |none=>exact h
 |some e=>exact LC h λj w y q hj=>hn j w y q (by rw[hj])
structure Iv(N:Nat)(C:CC G)(ops:Array Oper)(F0:Fr G)(D0:List (AV G))(t:Tc G)(c:Cx)(ρ0:bh)(J0:World->Prop)(HK X:List aE)(n0:Nat)(l:Array Bool)(a:Act)(w:World):Prop where
 size:l.size=ops.size
 cl:Cl ops l
 kd:∀q,q<ops.size->dn l q->t.kd q= .d
 ex:∃(ρ:bh) (J:World->Prop) (Y:List aE),ρ0.to ρ n0/\(∀w,J w->J0 w)/\Rl c N ρ J HK (Y++X) (⟨F0,[],D0⟩::C) ⟨FL t l ops.size,ML t l ops.size,(t.T ops.size).nx,[]⟩ a w/\
  ∀q,q<ops.size->¬dn l q->∀r,(t.T q).nx<=r->r<(t.T (q+1)).nx->ρ r=none
section
variable {c:Cx} {ρ0:bh} {J0:World->Prop} {HK X:List aE} {n0 i:Nat} {a:Act} {w:World} {K:Act->World->Prop} {Q:Exit->Act->World->Prop}
theorem aep(hs:l.size=ops.size)(rX:Cl ops l)(hi:i<ops.size)(hrd:∀k∈A3 ops i,dn l k):Cl ops (l.setIfInBounds i true):=λj hj k hk=>by
 have yE:i<l.size:=by omega
 rcases(gT yE).1 hj with h|rfl
 ·exact(gT yE).2 (.inl (rX j h k hk))
 ·exact(gT yE).2 (.inl (hrd k hk))
theorem aaC(h:Hy P N C ops A ws F0 D0 t)(hs:l.size=ops.size)(rX:Cl ops l)(hi:i<ops.size)(uU:¬dn l i){o:Oper}(ho:ops[i]? =some o){nx:Nat}(hpk:ae1 A ws o i nx (t.pr i)){ρ ρ':bh}{J J':World->Prop}{a a':Act}{u2:Value}{Df:List Deferred}
  (ha:a'=({a with defers:=Df}:Act).put o.dst u2)(hJ:∀w,J' w->J w)(hle:ρ.le ρ')(hfs:qj J ρ (FL t l ops.size) a.tmps)(hn:∀d v,(d,v)∈t.pr i->v.lt nx=true->∃u,a'.tmps[d]? =some u/\rf J' ρ' a'.tmps v u):qj J' ρ' (FL t (l.setIfInBounds i true) ops.size) a'.tmps:=λd v e=>by
 obtain⟨m1,m2⟩:=h.iH (d:=d) hs rX hi uU;by_cases hd:(i,d)∈ws
 ·obtain⟨o',h1,h2⟩:=h.mem.1 hd
  rw[ho]at h1;cases h1;rcases hpk with⟨e1,_⟩|⟨d',v',e1,e2,e3,_⟩
  ·rw[e1]at h2;cases h2
  ·rcases m2 hd v e with q|q
   ·rw[e2]at q;cases q
   ·have q2:=q
    rw[e2]at q2;simp at q2;exact hn d v q (by rw[q2.2];exact e3)
 ·rw[m1 hd]at e
  obtain⟨u,u1,u3⟩:=hfs d v e;refine⟨u,?_,acS ha (λj w y q hj=>?_) ((u3.mono hJ).ext hle)⟩
  ·rw[SN ha λq=>hd (h.mem.2 ⟨o,ho,q⟩)];exact u1
  ·subst q;exact h.gd rX uU e (h.mem.2 ⟨o,ho,hj⟩)
theorem Hy.step(h:Hy P N C ops A ws F0 D0 t){i:Nat}(hi:i<ops.size):(t.T i).nx<=(t.T (i+1)).nx:=by
 by_cases hk:t.kd i= .d
 ·obtain⟨_,_,_,S1,_,_,_,_,_,_,_,e,e2,_⟩:=(h.sd hi hk).run
  rw[e2];exact e
 ·rw[(h.un hi hk).1];exact Nat.le_refl _
theorem Hy.agu(h:Hy P N C ops A ws F0 D0 t){i:Nat}:∀k,i+k<=ops.size->(t.T i).nx<=(t.T (i+k)).nx:=by
 intro k
 induction k with
 |zero=>intro _;exact Nat.le_refl _
 |succ k ih=>intro hk;exact Nat.le_trans (ih (by omega)) (h.step (i:=i+k) (by omega))
theorem Hy.le(h:Hy P N C ops A ws F0 D0 t){i j:Nat}(hij:i<=j)(hj:j<=ops.size):(t.T i).nx<=(t.T j).nx:=by have:=h.agu (i:=i) (j-i) (by omega);rwa[show i+(j-i)=j from by omega]at this
theorem Ay{z ac:List Nat}{O:Os G}(hz:∀x∈ac,x∈z):bK (cv ac) (bK (cv z) O)=bK (cv ac) O:=by rw[qJ];refine zO λk hk=>nM.2 (hz k (nM.1 (KY hk).1))
theorem RO.j9{J:World->Prop}{ρ:bh}{O O':Os G}(h:O.Perm O'):∀{H:List aE},RO J ρ O H->∃H',H.Perm H'/\RO J ρ O' H':=by
 induction h with
 |nil=>intro H r;exact⟨H, .refl _,r⟩
 |cons x _ ih=>
  intro H r;cases r with
  |cons h k=>obtain⟨H',p,q⟩:=ih k;exact⟨_,p.cons _, .cons h q⟩
 |swap x y l=>
  intro H r;cases r with
  |cons h k=>cases k with
   |cons h2 k2=>exact⟨_, .swap _ _ _, .cons h2 (.cons h k2)⟩
 |trans _ _ i1 i2=>intro H r;obtain⟨H1,p1,q1⟩:=i1 r;obtain⟨H2,p2,q2⟩:=i2 q1;exact⟨H2,p1.trans p2,q2⟩
theorem RO.sub{J:World->Prop}{ρ:bh}{O O':Os G}(h:O'.Sublist O):∀{H:List aE},RO J ρ O H->∃H',H'.Sublist H/\RO J ρ O' H':=by
 induction h with
 |slnil=>intro H r;exact⟨H, .refl _,r⟩
 |cons x _ ih=>
  intro H r;cases r with
  |cons h k=>obtain⟨H',p,q⟩:=ih k;exact⟨H',p.cons _,q⟩
 |cons_cons x _ ih=>
  intro H r;cases r with
  |cons h k=>obtain⟨H',p,q⟩:=ih k;exact⟨_,p.cons_cons _, .cons h q⟩
def bh.S9(ρ:bh)(n:Nat):bh:=λr=>if r<n then ρ r else none
theorem bh.Mc{ρ:bh}{n r:Nat}(h:r<n):ρ.S9 n r=ρ r:=akd h
theorem bh.aan{ρ:bh}{n:Nat}:(ρ.S9 n).fr n:=λr hr=>ake (Nat.not_lt.2 hr)
theorem abS(h:Hy P N C ops A ws F0 D0 t)(cl:Cl ops l)(hi:i<ops.size)(uU:¬dn l i)(hrd:∀k∈A3 ops i,dn l k){rd ac:List Nat}(hz:bK (cv (rd++ac)) (ML t l ops.size)=bK (cv (rd++ac)) (t.T i).M)
  (lC:yP (t.T i).nx (lyD F0 D0 (t.T i).M rd ac::C)=true)(lF:Wk (t.T i).nx (jM (λd=>BO A i d ws) (t.T i).F)=true)(lO:uY (t.T i).nx (bK (cv ac) (t.T i).M)=true){ρ:bh}{J:World->Prop}{Y:List aE}
  (hr:Rl c N ρ J HK (Y++X) (⟨F0,[],D0⟩::C) ⟨FL t l ops.size,ML t l ops.size,(t.T ops.size).nx,[]⟩ a w):
  ∃H2,RO J ρ (bK (λq=> !cv ac q) (ML t l ops.size)) H2/\Rl c N (ρ.S9 (t.T i).nx) J (H2++HK) (Y++X) (lyD F0 D0 (t.T i).M rd ac::C) ⟨jM (λd=>BO A i d ws) (t.T i).F,bK (cv ac) (t.T i).M,(t.T i).nx,[]⟩ a w:=by
 have hag:∀r,r<(t.T i).nx->ρ.S9 (t.T i).nx r=ρ r:=λr hr=>bh.Mc hr;obtain⟨HS,q1,q3⟩:=hr.hp;obtain⟨H1,H2,k1,k2,k3⟩:=q1.YS (p:=cv ac);have eac:bK (cv ac) (ML t l ops.size)=bK (cv ac) (t.T i).M:=by have:=congrArg (bK (cv ac)) hz;rwa[Ay λx hx=>akj _ hx,Ay λx hx=>akj _ hx]at this
 have Oq:RO J ρ (bK (cv ac) (t.T i).M) H1:=by rw[← eac];exact k1
 have hlO:=FD lC;have hlF:=Wl lC;refine⟨H2,k2,hr.tm,?_,⟨hr.si.s,λq=>hr.si.n (Dk q)⟩,λd v e=>?_,λy hy=>?_,λr o e=>?_,⟨H1,Oq.fJ hag lO,?_⟩,hr.kn,bh.aan⟩
 ·exact DR.fJ hag hr.df hlO.2
 ·have e0:=e
  have e:dm (jM (λd=>BO A i d ws) (t.T i).F) d=some v:=e;rw[Rv]at e;cases hb:BO A i d ws with
  |false=>rw[hb]at e;cases e
  |true=>rw[hb]at e;obtain⟨u,u1,u2⟩:=hr.fs d v ((h.bS cl hi hrd uU hb).trans e);exact⟨u,u1,u2.fJ hag (abN lF e0)⟩
 ·rcases List.mem_cons.1 hy with rfl|hy
  ·exact qj.fJ (F:=F0) hag (hlF _ List.mem_cons_self) (hr.fc _ List.mem_cons_self)
  ·exact(hr.fc y (akp _ hy)).fJ hag (hlF y (akp _ hy))
 ·have hlo:=Wj hlO.1 e
  have e:dm (bK (λq=>cv rd q&& !cv ac q) (t.T i).M++my C) r=some o:=e;rw[kR]at e;split at e
  ·rename_i o' he
   cases e;rw[Mn]at he;cases hb:(cv rd r&& !cv ac r)with
   |false=>rw[hb]at he;cases he
   |true=>
    rw[hb]at he;simp only[akg]at hb;have e2:=congrArg (λO=>dm O r) hz;simp only[Mn]at e2;rw[nM.2 (akk _ (nM.1 hb.1))]at e2;have e3:dm (bK (λq=> !cv ac q) (ML t l ops.size)) r=some o:=by rw[Mn,hb.2];exact e2.trans he
    obtain⟨x,x1,x2⟩:=k2.lk e3;exact⟨x,akk _ x1,x2.fJ hag hlo⟩
  ·obtain⟨x,x1,x2⟩:=hr.kc r o e
   exact⟨x,akj _ x1,x2.fJ hag hlo⟩
 ·refine q3.j9 ?_
  rw[List.append_assoc, ← List.append_assoc H1];exact k3.append_right _
theorem NM{p q r:Nat->Bool}(h:∀k,(p k&&q k)=r k):∀{O:Os G},bK p (bK q O)=bK r O
 |[]=>rfl
 |(k,v)::l=>by
  have ih:=NM h (O:=l);show bK p (bif q k then(k,v)::bK q l else bK q l)=bif r k then(k,v)::bK r l else bK r l;rw[← h k];cases hq:q k with
  |true=>show(bif p k then(k,v)::bK p (bK q l)else bK p (bK q l))=_;rw[ih];cases p k<;>rfl
  |false=>rw[Bool.and_false];exact ih
theorem ai2(h:Hy P N C ops A ws F0 D0 t)(hv:Iv N C ops F0 D0 t c ρ0 J0 HK X n0 l a w)(h0:n0<=(t.T i).nx)(hi:i<ops.size)(uU:¬dn l i)(hrd:∀k∈A3 ops i,dn l k)(hk:t.kd i= .d)
  (hz:bK (cv (t.rd i++t.ac i)) (ML t l ops.size)=bK (cv (t.rd i++t.ac i)) (t.T i).M)(hK:∀a' w',Iv N C ops F0 D0 t c ρ0 J0 HK X n0 (l.setIfInBounds i true) a' w'->K a' w'):
  wpOpIn (FA c.ro) 0 P ops Q i K a w:=by
 have ho:ops[i]? =some ops[i]:=Array.getElem?_eq_getElem hi;have hsi:=h.sd hi hk;obtain⟨size,cl,kd,ρ,J,Y,hto,hJ,hr,hun⟩:=hv;obtain⟨r0,sm,a0,S1,⟨hr0,KT,ha0⟩,lC,lO,lN,hU,hD,hon,hn,hx',hpr⟩:=hsi.run;have hsub:∀x∈r0++a0,x∈t.rd i++t.ac i:=λx hx=>by
  rcases List.mem_append.1 hx with hx|hx
  ·exact akk _ (hr0 x hx)
  ·rcases(ha0 x).1 hx with hx|hx
   ·exact akj _ hx
   ·exact akk _ (KT x hx).1
 have hz0:bK (cv (r0++a0)) (ML t l ops.size)=bK (cv (r0++a0)) (t.T i).M:=by have:=congrArg (bK (cv (r0++a0))) hz;rwa[Ay hsub,Ay hsub]at this
 have hzs:bK (cv sm) (ML t l ops.size)=bK (cv sm) (t.T i).M:=by have hs2:∀x∈sm,x∈t.rd i++t.ac i:=λx hx=>akk _ (KT x hx).1;have:=congrArg (bK (cv sm)) hz;rwa[Ay hs2,Ay hs2]at this
 obtain⟨H2,hro,hr'⟩:=abS h cl hi uU hrd hz0 lC hsi.lF lO hr;have hag:∀r,r<(t.T i).nx->ρ.S9 (t.T i).nx r=ρ r:=λr hr=>bh.Mc hr;have hlO:=FD lC;have hlF:=Wl lC;refine VY ho (hU c _ J (H2++HK) (Y++X) a w (λe a' w'=>e= .normal/\∃(ρ':bh) (J':World->Prop) (Y':List aE),(ρ.S9 (t.T i).nx).to ρ' (t.T i).nx/\(∀w,J' w->J w)/\Rl c N ρ' J' (H2++HK) (Y'++(Y++X)) (lyD F0 D0 (t.T i).M r0 a0::C) S1 a' w') hr' λρ' J' Y' a' w' me k1 k2 k3 k4=>⟨jE k3,ρ',J',Y',k1,k2,k4⟩) ?_ (λe a w he q=>absurd q.1 he);rintro a' w' ⟨_,ρ',J',Y',m1,m2,m3⟩ ⟨u2,Df,ha⟩;have yE:i<l.size:=by omega
 let ρ2:bh:=λr=>if(t.T i).nx<=r/\r<(t.T (i+1)).nx then ρ' r else ρ r
 have hle:ρ.le ρ2:=λr v e=>by
  show(if _ then _ else _)=_;by_cases hc:(t.T i).nx<=r/\r<(t.T (i+1)).nx
  ·rw[hun i hi uU r hc.1 hc.2]at e;cases e
  ·rw[ake hc];exact e
 have adU:∀r,r<(t.T (i+1)).nx->ρ2 r=ρ' r:=λr hr=>by
  show(if _ then _ else _)=_;by_cases hc:(t.T i).nx<=r
  ·rw[akd ⟨hc,hr⟩]
  ·rw[ake λq=>hc q.1,m1 r (by omega),hag r (by omega)]
 have adT:∀r,r<(t.T i).nx->ρ2 r=ρ' r:=λr hr=>adU r (Nat.lt_of_lt_of_le hr (h.step hi));have ajl:∀r,r<(t.T i).nx->ρ2 r=ρ r:=λr hr=>by show(if _ then _ else _)=_;rw[ake (by omega)]
 obtain⟨OA,s1,s3⟩:=m3.hp;have Rc:(bK (λq=> !cv (t.ac i) q) (ML t l ops.size)).Perm (bK (cv sm) (t.T i).M++bK (λq=> !cv a0 q) (ML t l ops.size)):=by
  have e1:bK (cv sm) (bK (λq=> !cv (t.ac i) q) (ML t l ops.size))=bK (cv sm) (t.T i).M:=by rw[IJ λx hx hxs=>(KT x hxs).2 hx];exact hzs
  have e2:bK (λq=> !cv sm q) (bK (λq=> !cv (t.ac i) q) (ML t l ops.size))=bK (λq=> !cv a0 q) (ML t l ops.size):=NM λq=>by
   cases h0:cv a0 q with
   |true=>
    rcases(ha0 q).1 (nM.1 h0)with h1|h1
    ·rw[nM.2 h1];simp
    ·rw[nM.2 h1];simp
   |false=>
    have h1:q∉a0:=λh=>by rw[nM.2 h]at h0;cases h0
    rw[xo λh=>h1 ((ha0 q).2 (.inl h)),xo λh=>h1 ((ha0 q).2 (.inr h))];rfl
  have:=xC (p:=cv sm) (O:=bK (λq=> !cv (t.ac i) q) (ML t l ops.size));rw[e1,e2]at this;exact this.trans List.perm_append_comm
 refine hK _ _ ⟨by simpa using size,aep size cl hi hrd,λq hq hd=>?_,ρ2,J',Y'++Y,λr hr=>(ajl r (by omega)).trans (hto r hr),λw q=>hJ w (m2 w q),?_,λq hq hd r r1 r2=>?_⟩
 ·rcases(gT yE).1 hd with hd|rfl
  ·exact kd q hq hd
  ·exact hk
 ·obtain⟨Hn,pn,rn⟩:=RO.j9 ((h.agt size cl hi uU kd hk).trans ((List.Perm.append_left _ Rc).trans (by rw[← List.append_assoc];exact List.Perm.append_right _ hon.symm))).symm ((s1.fJ adU (hx'▸lN)).app (hro.up m2 hle))
  refine⟨m3.tm,?_,⟨m3.si.s,hr.si.n⟩,?_,λy hy=>?_,λr o e=>?_,⟨Hn,rn,?_⟩,by rw[List.append_assoc];exact m3.kn,λr hr'=>?_⟩
  ·have:=m3.df
   rw[hD]at this;exact DR.fJ (n:=(t.T i).nx) adT this hlO.2
  ·refine aaC h size cl hi uU ho hsi.pk ha m2 hle hr.fs λd v hm hlt=>?_
   obtain⟨u,u1,u3⟩:=m3.fs d v (hpr d v hm);exact⟨u,u1,u3.fJ adU hlt⟩
  ·rcases List.mem_cons.1 hy with rfl|hy
   ·exact qj.fJ (F:=F0) adT (hlF _ List.mem_cons_self) (m3.fc _ List.mem_cons_self)
   ·exact(m3.fc y (akp _ hy)).fJ adT (hlF y (akp _ hy))
  ·obtain⟨x,x1,x2⟩:=hr.kc r o e
   exact⟨x,x1,x2.up m2 hle⟩
  ·refine s3.j9 ?_
   have:=pn.append_right (HK++((Y'++Y)++X));simpa[List.append_assoc]using this
  ·have hr':(t.T ops.size).nx<=r:=hr'
   have:(t.T (i+1)).nx<=(t.T ops.size).nx:=h.le (by omega) (Nat.le_refl _);show(if _ then _ else _)=_;rw[ake (by omega)];exact hr.fr r hr'
 ·have L8:¬dn l q:=λx=>hd ((gT yE).2 (.inl x))
  have hne:q≠i:=λx=>hd ((gT yE).2 (.inr x));show(if _ then _ else _)=_;have:¬((t.T i).nx<=r/\r<(t.T (i+1)).nx):=λ⟨x1,x2⟩=>by
   rcases Nat.lt_or_ge q i with hlt|hge
   ·have:=h.le (i:=q+1) (j:=i) hlt (Nat.le_of_lt hi);omega
   ·have:=h.le (i:=i+1) (j:=q) (by omega) (Nat.le_of_lt hq);omega
  rw[ake this];exact hun q hq L8 r r1 r2
theorem Z0{n:Nat}{O O':Os G}(h:O'.Sublist O):uY n O=true->uY n O'=true:=by
 induction h with
 |slnil=>exact id
 |cons x _ ih=>
  obtain⟨k,v⟩:=x;intro h;cases v<;>simp only[uY,akg]at h
  ·exact ih h.2.2
  ·exact ih h.2
  ·exact ih h.2
  ·exact ih h.2
  ·exact ih h.2.2
  ·exact ih h.2.2
 |cons_cons x _ ih=>
  obtain⟨k,v⟩:=x;intro h;cases v<;>simp only[uY,akg]at h ⊢
  ·exact⟨h.1,h.2.1,ih h.2.2⟩
  ·exact⟨h.1,ih h.2⟩
  ·exact⟨h.1,ih h.2⟩
  ·exact⟨h.1,ih h.2⟩
  ·exact⟨h.1,h.2.1,ih h.2.2⟩
  ·exact⟨h.1,h.2.1,ih h.2.2⟩
theorem ai1(h:Hy P N C ops A ws F0 D0 t)(hv:Iv N C ops F0 D0 t c ρ0 J0 HK X n0 l a w)(h0:n0<=(t.T i).nx)(hi:i<ops.size)(uU:¬dn l i)(hrd:∀k∈A3 ops i,dn l k){rd ac:List Nat}{v:AV G}{S':AS G}(hp:∀o,ops[i]? =some o->StP P N C ops A ws F0 D0 o i rd ac v (t.T i) S')(hk0:∀q,q<i->t.kd q= .d)(hah:∀q,i<q->q<ops.size->DX A i (rd++ac) t q)(hq:Aft c N C ρ0 J0 HK X n0 S' (.wY v) Q):
  wpOpIn (FA c.ro) 0 P ops Q i K a w:=by
 have ho:ops[i]? =some ops[i]:=Array.getElem?_eq_getElem hi;have hsi:=hp _ ho;obtain⟨S1,hU,hD,hn,rfl⟩:=hsi.run;obtain⟨size,cl,kd,ρ,J,Y,hto,hJ,hr,hun⟩:=hv;have hz:=h.af7 cl (rd++ac) hi uU hrd kd (λq q1 _ hb=>by
  rcases abH hsi.RM _ (h.lg (hk0 q q1) (Nat.le_of_lt hi) q1)with e|e
  ·exact absurd e hb
  ·exact e.1) (λq q1 q2 hd=>by
  rcases hah q q1 q2 with⟨_,e1,e2⟩|⟨e,_⟩
  ·rw[e1];exact e2
  ·rw[kd q q2 hd]at e;cases e)
 obtain⟨H2,hro,hr'⟩:=abS h cl hi uU hrd hz hsi.lC hsi.lF hsi.lO hr;have hat:=h.atP (un:=unN A i (t.T i).lg) cl hi uU hrd kd hk0 (λq q1=>by
  have hm:=h.lg (hk0 q q1) (Nat.le_of_lt hi) q1;cases hb:n6 A i q with
  |true=>exact .inl rfl
  |false=>
   rcases agn hsi.chu _ hm with e|e
   ·have e:n6 A i q=true:=e
    rw[hb]at e;cases e
   ·exact .inr ⟨e,afS _ hm hb⟩) (λq q1 q2 hd=>by
  rcases hah q q1 q2 with⟨_,e1,_⟩|⟨e,_⟩
  ·exact e1
  ·rw[kd q q2 hd]at e;cases e)
 obtain⟨HL,sl,rl⟩:=hro.sub (Ts (p:=λq=> !cv ac q) hat);have hlO:=FD hsi.lC;have hlC:yP (t.T i).nx C=true:=by have:=hsi.lC;simp only[yP,akg]at this;exact this.2.2.2
 refine VY ho (hU c _ J (H2++HK) (Y++X) a w (λe a' w'=>e≠ .normal/\Q e a' w') hr' λρ' J' Y' a' w' me k1 k2 k3 k4=>⟨nZ (by simp) k3,?_⟩) (λa w q=>absurd rfl q.1) (λe a w _ q=>q.2);have hag:∀r,r<(t.T i).nx->ρ' r=ρ r:=λr hr=>(k1 r hr).trans (bh.Mc hr);obtain⟨OA,s1,s3⟩:=k4.hp;refine hq ρ' J' (Y'++Y) a' w' me (λr hr=>(hag r (by omega)).trans (hto r hr)) (λw q=>hJ w (k2 w q)) k3 ?_;refine⟨k4.tm,?_,⟨k4.si.s,hr.si.n⟩,k4.fc _ List.mem_cons_self,λy hy=>k4.fc y (akp _ hy),λr o e=>?_,⟨OA++HL,s1.app ((rl.fJ hag (Z0 (II.trans II) hsi.lM)).up k2 (bh.le_refl _)),?_⟩,by rw[List.append_assoc];exact k4.kn,k4.fr⟩
 ·have:=k4.df
  rw[hD]at this;exact this
 ·obtain⟨x,x1,x2⟩:=hr.kc r o e
  exact⟨x,x1,(x2.fJ hag (Wj (FD hlC).1 e)).up k2 (bh.le_refl _)⟩
 ·refine s3.sub ?_
  have:((OA++HL)++(HK++((Y'++Y)++X))).Sublist ((OA++H2)++(HK++((Y'++Y)++X))):=(List.Sublist.append_left sl OA).append (.refl _);simpa[List.append_assoc]using this
theorem ad4(h:Hy P N C ops A ws F0 D0 t)(hd:∀q,q<ops.size->dn l q):∀q,q<=ops.size->FL t l q=(t.T q).F:=by
 intro q
 induction q with
 |zero=>intro _;rfl
 |succ q ih=>intro hq;rw[BB (hd q (by omega)),h.F' (by omega),ih (by omega)]
theorem adq(h:Hy P N C ops A ws F0 D0 t)(hB:T6 ops []=true){e:Ex G}{S':AS G}(hrun:ab9 P N C ops A ws F0 D0 ops.toList 0 t e S')(h0:n0<=(t.T 0).nx)(hq:Aft c N C ρ0 J0 HK X n0 S' e Q):∀(fuel:Nat) (l:Array Bool) (a:Act) (w:World),uf ops l<=fuel->Iv N C ops F0 D0 t c ρ0 J0 HK X n0 l a w->wpAnyIn (FA c.ro) 0 P .any ops Q fuel l a w:=by
 have fin:∀(l:Array Bool) (a:Act) (w:World),Iv N C ops F0 D0 t c ρ0 J0 HK X n0 l a w->(∀q,q<ops.size->dn l q)->Q .normal a w:=by
  intro l a w hv hd;obtain⟨size,cl,kd,ρ,J,Y,hto,hJ,hr,_⟩:=hv;rcases hrun.2 with⟨rfl,rfl,hk⟩|⟨j,o,v,_,_,_,j2,j3,_⟩
  ·have hlen:0+ops.toList.length=ops.size:=by simp
   rw[hlen]at hq;rw[ae6 h (λq hq=>⟨hd q hq,kd q hq (hd q hq)⟩) _ (Nat.le_refl _),ad4 h hd _ (Nat.le_refl _)]at hr;refine hq ρ J Y a w .normal hto hJ trivial ?_;obtain⟨HS,q1,q3⟩:=hr.hp;refine⟨hr.tm,hr.df,⟨hr.si.s,hr.si.n⟩,λd v e=>?_,λy hy=>hr.fc y (akp _ hy),hr.kc,⟨HS,q1,q3⟩,hr.kn,hr.fr⟩;have e:dm ((t.T ops.size).F++F0) d=some v:=e;rw[kR]at e;split at e
   ·rename_i v' hv;cases e;exact hr.fs d _ hv
   ·exact hr.fc _ List.mem_cons_self d v e
  ·have hj:j<ops.size:=by
    have:=(List.getElem?_eq_some_iff.1 j2).1;simpa using this
   have:=kd j hj (hd j hj);rw[j3]at this;cases this
 intro fuel
 induction fuel with
 |zero=>
  intro l a w hu hv;have BZ:∀i,i<ops.size->dn l i:=λi hi=>by unfold uf at hu;have h0:(List.range ops.size).filter (λi=> !l.getD i false)=[]:=List.length_eq_zero_iff.1 (by omega);rw[List.filter_eq_nil_iff]at h0;have:=h0 i (by simpa using hi);simpa[dn]using this
  refine⟨?_,fin l a w hv BZ⟩;cases hr:Region.ready .any ops l with
  |nil=>rfl
  |cons i r=>
   have:i∈Region.ready .any ops l:=by rw[hr];simp
   obtain⟨h1,h2,_⟩:=(Go.Bw.wH hv.size).1 this;exact absurd (BZ i h1) h2
 |succ fuel ih=>
  intro l a w hu hv;refine⟨λhr=>fin l a w hv (Oa hB hv.size hr),λi hi=>?_⟩;obtain⟨h1,h2,h3⟩:=(Go.Bw.wH hv.size).1 hi;have hu':uf ops (l.setIfInBounds i true)<=fuel:=by have:=HJ hv.size h1 h2;omega
  have hi0:n0<=(t.T i).nx:=Nat.le_trans h0 (h.le (Nat.zero_le _) (Nat.le_of_lt h1));have go:t.kd i= .d->wpOpIn (FA c.ro) 0 P ops Q i (wpAnyIn (FA c.ro) 0 P .any ops Q fuel (l.setIfInBounds i true)) a w:=by intro hk;refine ai2 h hv hi0 h1 h2 h3 hk ?_ λa' w' JU=>ih _ a' w' hu' JU;refine h.af7 hv.cl _ h1 h2 h3 hv.kd (λq q1 kq hb=>(h.apart h1 q1 kq hk hb).1) λq q1 q2 hd=>?_;have hb:n6 A q i≠true:=λhb=>h2 (h.RU hv.cl hb (hv.cl _ hd));obtain⟨_,a2⟩:=h.apart q2 q1 hk (hv.kd q q2 hd) hb;exact a2
  have hlen:ops.toList.length=ops.size:=by simp
  rcases hrun.2 with⟨_,_,hk⟩|⟨j,o,v,rd,ac,_,j2,j3,rfl,j5,j6,j7⟩
  ·exact go (hk i (Nat.zero_le _) (by omega))
  ·rcases Nat.lt_trichotomy i j with hlt|rfl|hgt
   ·exact go (j6 i (Nat.zero_le _) hlt)
   ·refine ai1 h hv hi0 h1 h2 h3 (v:=v) (S':=S') (λo' ho'=>?_) (λq q1=>j6 q (Nat.zero_le _) q1) (λq q1 q2=>j7 q q1 (by omega)) hq
    have j2:ops[i]? =some o:=by simpa using j2
    rw[ho']at j2;cases j2;exact j5
   ·rcases j7 i hgt (by omega)with⟨e,_⟩|⟨_,e⟩
    ·exact go e
    ·have hd:=h.RU hv.cl e h3
     have hj:j<ops.size:=by omega
     have:=hv.kd j hj hd;rw[j3]at this;cases this
end
section
variable {Z:Type} {rec:WT G Z} {cp:List Nat} {z:Z} {K:Ex G->AS G->Option Z} {S:AS G}
theorem aef(bJ:qe P rec){id:Nat}{ops:Array Oper}{tb:wS P G}(h:drR tb rec N cp C (.ops ops ops.toList) S K=some z):∃e S',K e S'=some z/\S.nx<=S'.nx/\US P N C (.code (.region id ops true)) S S' e:=by
 unfold drR at h;dsimp only at h;cases hb:(SR (Gs ops ops.size) (zR 0 ops.toList) (zR 0 ops.toList)&&(T6 ops []&&P.follows .mixedOrders))with
 |false=>rw[hb]at h;cases h
 |true=>
  rw[hb]at h;simp only[akg]at hb;obtain⟨b1,b2,b3⟩:=hb;obtain⟨t,e,S',k1,k2,k3⟩:=ahC bJ h;have hy:Hy P N C ops (Gs ops ops.size) (zR 0 ops.toList) (jM (λd=> !(Y9 d (zR 0 ops.toList))&& !Ti (zR 0 ops.toList) S.F d) S.F) S.D t:=by
   refine⟨rfl,rfl,b1,λq o ho=>k3.1 q o (Nat.zero_le _) (by simpa using ho),λd j w x e q=>?_⟩;rw[k2]at e;have e:dm (jM (λd=>Y9 d (zR 0 ops.toList)&& !Ti (zR 0 ops.toList) S.F d) S.F) d=some (.gd j w x):=e;rw[Rv]at e;cases hc:(Y9 d (zR 0 ops.toList)&& !Ti (zR 0 ops.toList) S.F d)with
   |false=>rw[hc]at e;cases e
   |true=>rw[hc]at e;simp only[cond_true]at e;simp only[akg,Bool.not_eq_true']at hc;have:=hc.2;unfold Ti at this;rw[e]at this;exact afO this q
  have Nz:S.nx<=S'.nx:=by
   have h0:(t.T 0).nx=S.nx:=by rw[k2]
   rcases k3.2 with⟨_,rfl,_⟩|⟨j,o,v,rd,ac,_,j2,_,_,hp,_⟩
   ·have:=hy.le (Nat.zero_le _) (Nat.le_refl ops.size)
    simp only[Nat.zero_add,Array.length_toList]at this ⊢;omega
   ·have hj:j<ops.size:=by
     have:=(List.getElem?_eq_some_iff.1 j2).1;simpa using this
    have:=hy.le (Nat.zero_le j) (Nat.le_of_lt hj);obtain⟨S1,_,_,hn,rfl⟩:=hp.run;show S.nx<=S1.nx;omega
  refine⟨e,S',k1,Nz,λc ρ J HK X a w Q hr hq=>?_⟩;refine wpIn_region_any b3 ?_;have hdn:∀j,¬dn (Array.replicate ops.size false) j:=λj h=>by unfold dn at h;simp only[Array.getD_eq_getD_getElem?,Array.getElem?_replicate]at h;split at h<;>simp at h
  have hle:S.nx<=(t.T ops.size).nx:=by have:=hy.le (Nat.zero_le _) (Nat.le_refl ops.size);rw[k2]at this;exact this
  refine adq hy b2 k3 (by rw[k2];exact Nat.le_refl _) hq ops.size _ a _ ?_ ⟨by simp,λj hj=>absurd hj (hdn j),λq _ hd=>absurd hd (hdn q),ρ,J,[],bh.ef _ _,λ_ h=>h,?_,λq hq _ r r1 _ =>hr.fr r ?_⟩
  ·unfold uf
   exact Nat.le_trans (List.length_filter_le _ _) (by simp)
  ·have hF:FL t (Array.replicate ops.size false) ops.size=(t.T 0).F:=by
    have:∀q,FL t (Array.replicate ops.size false) q=(t.T 0).F:=by
     intro q
     induction q with
     |zero=>rfl
     |succ q ih=>rw[Ao (hdn q),ih]
    exact this _
   have hM:ML t (Array.replicate ops.size false) ops.size=(t.T 0).M:=by
    have:∀q,ML t (Array.replicate ops.size false) q=(t.T 0).M:=by
     intro q
     induction q with
     |zero=>rfl
     |succ q ih=>rw[uT (hdn q),ih]
    exact this _
   rw[hF,hM];have e0:=k2;rw[k2];obtain⟨HS,q1,q3⟩:=hr.hp;refine⟨hr.tm,hr.df,⟨hr.si.s.drawn _,hr.si.n⟩,hr.fs.YS,λy hy=>?_,λr o e=>hr.kc r o e,⟨HS,q1,⟨λr hr=>q3.holds r hr,q3.own,q3.apart⟩⟩,hr.kn,λr hr'=>hr.fr r (Nat.le_trans hle hr')⟩;rcases List.mem_cons.1 hy with rfl|hy
   ·exact hr.fs.YS
   ·exact hr.fc y hy
  ·have:=hy.le (Nat.zero_le q) (Nat.le_of_lt hq)
   rw[k2]at this;exact Nat.le_trans this r1
end
end Go.Rw
namespace Go.Rw
open Go Go.Bw Go.RowKit
variable {G:Sg} {P:Program} {N:Nat} {C:CC G} {Z:Type}
theorem Db{S:AS G}{l:List (Src×Sh)}:(mL C S l).nx=S.nx:=by
 unfold mL;split
 ·exact xy _ _
 ·rfl
theorem Ze{cf:Cf}{S S3:AS G}{e:Ex G}(l:List (Src×Sh))(h:US P N C cf (mL C S l) S3 e):US P N C cf S S3 e:=by
 unfold mL at h;split at h
 ·exact CY _ h
 ·exact h
theorem Rl.mL{c:Cx}{ρ:bh}{J:World->Prop}{HK X:List aE}{S:AS G}{a:Act}{w:World}(l:List (Src×Sh))(h:Rl c N ρ J HK X C S a w):∃(J':World->Prop) (Y:List aE),(∀w,J' w->J w)/\Rl c N ρ J' HK (Y++X) C (mL C S l) a w:=by
 unfold Go.Rw.mL;split
 ·exact h.zK _
 ·exact⟨J,[],λ_ h=>h,h⟩
def oX(N:Nat)(C:CC G):List Nat->AV G->AS G->Option (AS G)
 |[], .nil,S=>some S
 |p::ps, .cons v r,S=>match vO N C (some p) v S with
  |some S'=>bif wF v then oX N C ps r S' else none
  |none=>none
 |_,_,_ =>none
theorem RS{z:Z}:∀{ps:List Nat} {v:AV G} {S:AS G} {k:AS G->Option Z},I3 N C ps v S k=some z->∃S',oX N C ps v S=some S'/\k S'=some z:=by
 intro ps
 induction ps with
 |nil=>intro v S k h;cases v<;>first|(exact⟨S,rfl,h⟩)|(simp[I3]at h)
 |cons p ps ih=>
  intro v S k h;cases v<;>first|(simp[I3]at h;done)|skip
  rename_i v' r;simp only[I3]at h;split at h
  ·rename_i S2 hS
   cases hb:wF v' with
   |false=>rw[hb]at h;cases h
   |true=>rw[hb]at h;obtain⟨S3,k1,k2⟩:=ih h;exact⟨S3,by simp only[oX,hS,hb,cond_true];exact k1,k2⟩
  ·cases h
theorem I2:∀{ps:List Nat} {v:AV G} {S S':AS G},oX N C ps v S=some S'->S'.nx=S.nx:=by
 intro ps
 induction ps with
 |nil=>intro v S S' e;cases v<;>first|(simp[oX]at e;done)|(have e:S=S':=(by simpa[oX]using e);rw[e])
 |cons p ps ih=>
  intro v S S' e;cases v<;>first|(simp[oX]at e;done)|skip
  rename_i v r;simp only[oX]at e;split at e
  ·rename_i S2 hS
   cases hb:wF v with
   |false=>rw[hb]at e;cases e
   |true=>rw[hb]at e;exact(ih e).trans (oh hS)
  ·cases e
theorem Rl.bind{c:Cx}{ρ:bh}{J:World->Prop}{HK X:List aE}{w:World}:∀{ps:List Nat} {v:AV G} {S S':AS G} {a:Act} {us:List Value},Rl c N ρ J HK X C S a w->oX N C ps v S=some S'->rl J ρ v us->
  Rl c N ρ J HK X C S' {a with tmps:=(ps.zip us).foldl (λt q=>t.setIfInBounds q.1 q.2) a.tmps} w/\S'.nx=S.nx:=by
 intro ps
 induction ps with
 |nil=>
  intro v S S' a us h e hv;cases v<;>first|(simp[oX]at e;done)|skip
  have e:S=S':=by simpa[oX]using e
  subst e;exact⟨h,rfl⟩
 |cons p ps ih=>
  intro v S S' a us h e hv;cases v<;>first|(simp[oX]at e;done)|skip
  rename_i v r;simp only[oX]at e;split at e
  ·rename_i S2 hS
   cases hb:wF v with
   |false=>rw[hb]at e;cases e
   |true=>rw[hb]at e;obtain⟨u,us',rfl,h1,h2⟩:=hv;have hp:=h.put hS (M7 h1 _);obtain⟨q1,q2⟩:=ih hp e h2;exact⟨q1,q2.trans (oh hS)⟩
  ·cases e
theorem IB{J:World->Prop}{ρ:bh}{A B:Fr G}{t:Array Value}(h:qj J ρ A t)(k:qj J ρ B t):qj J ρ (A++B) t:=λd v e=>by
 rw[kR]at e;split at e
 ·rename_i v' hv;cases e;exact h d _ hv
 ·exact k d v e
theorem Xl{J:World->Prop}{ρ:bh}{t:Array Value}:∀{C:CC G},FC J ρ C t->qj J ρ (flF C) t:=by
 intro C
 induction C with
 |nil=>intro _ d v e;cases e
 |cons y r ih=>intro h;exact IB (h y List.mem_cons_self) (ih λz hz=>h z (akp _ hz))
theorem ac8:∀{O:Os G} {r:Nat} {o:Ob G},LQ O=true->dm O r=some o->Ww o=false:=by
 intro O
 induction O with
 |nil=>intro r o _ h;cases h
 |cons p q ih=>
  obtain⟨k,u⟩:=p;intro r o h e;simp only[LQ,akg,Bool.not_eq_true']at h;simp only[dm]at e;cases hb:Nat.beq k r with
  |true=>rw[hb]at e;cases e;exact h.1
  |false=>rw[hb]at e;exact ih h.2 e
theorem Rl.Va{c:Cx}{ρ:bh}{J:World->Prop}{X B:List aE}{d0:aE}{l:Nat}{o o':Obj}{S:AS G}{a:Act}{w:World}(h:Rl c N ρ J (d0:: .obj l o::B) X C S a w)(ho:∀b,XI b o->XI b o')(hlp:LQ (my C)=true)(hnm:∀es ck,o≠ .map es ck:=by intro _ _ h;cases h):
  Rl c N ρ J (d0:: .obj l o'::B) X C S a (w.putObj l o')/\w.heap[l]? =some o:=by
 obtain⟨HS,q1,q3⟩:=h.hp;have pm:∀x:aE,(HS++((d0::x::B)++X)).Perm (x::(HS++(d0::(B++X)))):=λx=>by simpa using(List.perm_middle (a:=x) (l₁:=HS++[d0]) (l₂:=B++X))
 have q4:=q3.j9 (pm _);have hm:aE.obj l o∈(aE.obj l o::(HS++(d0::(B++X)))):=List.mem_cons_self;have hd:w.heap[l]? =some o:=q4.holds _ hm;have hlt:=(akl.1 hd).1;have jb:aQ [l] w (w.putObj l o'):=⟨rfl,rfl,rfl,by simp[World.putObj],λk _ hk=>World.putObj_heap_other (by simpa using hk)⟩;have q5:=q4.set (k:=0) (r':= .obj l o') rfl jb.size (λj hj hne=>jb.block j hj hne) (World.putObj_heap_same hlt) h.si.s.size (λb' hb'=>by
  have e:b'=l:=by simpa[aE.cI]using hb'
  subst e;exact⟨.inl (by simp[aE.cI]),by rw[World.putObj];simpa using hlt⟩)
 refine⟨⟨h.tm,h.df,⟨h.si.s.store q4 hm (by simp[aE.cI]) jb,h.si.n⟩,h.fs,h.fc,λr ob e=>?_,⟨HS,q1,q5.j9 (pm _).symm⟩,h.kn,h.fr⟩,hd⟩;obtain⟨y,y1,y2⟩:=h.kc r ob e;rcases List.mem_cons.1 y1 with rfl|y1
 ·exact⟨_,List.mem_cons_self,y2⟩
 ·rcases List.mem_cons.1 y1 with rfl|y1
  ·refine⟨_,akp _ List.mem_cons_self,?_⟩
   cases ob with
   |cI T c=>obtain⟨_,_,_,e,_⟩:=y2;cases e
   |row _ _ _ _ =>obtain⟨_,_,_,e,_⟩:=y2;cases e
   |gm=>obtain⟨_,e⟩:=y2;cases e
   |fm _ _ _ =>obtain⟨_,es,ck,_,_,e,_⟩:=y2;cases e;exact absurd rfl (hnm es ck)
   |lp _ _ _ _ _ _ =>cases ac8 hlp e
   |aux b=>obtain⟨n,x,m1,e,m3⟩:=y2;cases e;exact⟨_,_,m1,rfl,ho b m3⟩
  ·exact⟨y,akp _ (akp _ y1),y2⟩
inductive RgT(P:Program)(N:Nat)(C':CC G)(ps:List Nat)(a b:Code)(g:Om)(base:Nat)(it:It P G):List it.B->HL G (aL (sY g.l))->Ex G->AS G->Prop
 |nil {e:HL G (aL (sY g.l))}:RgT P N C' ps a b g base it [] e .jK (Zn g base e)
 |iH {y:it.B} {l:List it.B} {e e':HL G (aL (sY g.l))} {S2 S3 S4 Sf:AS G} {e1:Ex G} (hb:oX N C' ps (fQ (λm=>m) it.ys (it.en y) 0).1 (Zn g base e)=some S2) (h1:US P N C' (.code a) S2 S3 .jK) (n1:S2.nx<=S3.nx)
   (h2:US P N C' (.code b) S3 S4 .jK) (hg:Iu C' (mL C' S4 g.l) g base=some e') (k:RgT P N C' ps a b g base it l e' e1 Sf):RgT P N C' ps a b g base it (y::l) e e1 Sf
 |stop {y:it.B} {l:List it.B} {e:HL G (aL (sY g.l))} {S2 S3 S4:AS G} {e1:Ex G} (hb:oX N C' ps (fQ (λm=>m) it.ys (it.en y) 0).1 (Zn g base e)=some S2) (h1:US P N C' (.code a) S2 S3 .jK) (n1:S2.nx<=S3.nx)
   (h2:US P N C' (.code b) S3 S4 e1) (he:e1= .ret\/∃i,e1= .exit i) (hD:S4.D=[]):RgT P N C' ps a b g base it (y::l) e e1 S4
structure Gh(G:Sg)(L:List Ty) where
 e:HL G L
 ρ:bh
 J:World->Prop
 Y:List aE
 HB:List aE
structure afc(ρ3:bh)(base:Nat)(X1 L0:List aE)(O:Os G)(nx:Nat){L:List Ty}(i:Gh G L):Prop where
 to:ρ3.to i.ρ base
 mJ:∀w,i.J w->Hs X1 w
 ro:RO i.J i.ρ O i.HB
 kn:Uh G (i.Y++X1) i.J
 fr:i.ρ.fr nx
 ap:∀b∈bF (i.HB++(L0++i.Y)),b∉bF X1
theorem agh{N:Nat}:∀{ps:List Nat},psN N ps=true->ps.all (Nat.blt · N)=true:=by
 intro ps
 induction ps with
 |nil=>intro _;rfl
 |cons p r ih=>intro h;simp only[psN,akg]at h;simp only[List.all_cons,akg];exact⟨h.1,ih h.2⟩
theorem FG{bs:List Nat}{n0:Nat}{H X:List aE}{w:World}(h:bH bs n0 H w)(hs:∀r∈X,r∈H):Hs X w:=λr hr=>⟨h.holds r (hs r hr),λb hb=>(h.own r (hs r hr) b hb).2⟩
theorem UD{Ud:Operand}{ps:Array Nat}{a b:Code}{S S1:AS G}{it:It P G}{cap v:AV G}{x:HL G (aL it.vS)}{g1 g2:GS G}{g:Om}{x0:HL G (aL (sY g.l))}{l:List it.B}{e1:Ex G}{Sf:AS G}
  (Md:gv C S [] Ud=some (.fn (.func it.k) .nil cap))(KU:nW it.vS cap ⟨[],S.O,S.nx⟩=some (x,g1))(hS1:mL C ⟨S.F,g1.O,g1.nx,S.D⟩ g.l=S1)(hv:Et C ⟨S1.F,S1.O,S1.nx+2,S1.D⟩ g.l=some v)
  (adH:nW (sY g.l) v ⟨[],S1.O,S1.nx+2⟩=some (x0,g2))(b1:xp g.nm g2.th=true)(b2:xq (S1.nx+2) g.nm=true)(hn:it.n=ps.size)(hrd:yC (my C)=true)(hl:yP (S1.nx+2) (Wi ps.toList a b C S1 g2.O)=true)
  (hlO:uY (S1.nx+2) g2.O=true)(hlC:yP (S1.nx+2) C=true)(hps:psN N ps.toList=true)(hlp:LQ (g2.O++my C)=true)(hf:it.f x=some l)(ht:RgT P N (Wi ps.toList a b C S1 g2.O) ps.toList a b g (S1.nx+2) it l x0 e1 Sf):
  US P N C (.code (.rangeFunc Ud ps a b)) S (SQ S1.nx S1 g2.O Sf) e1:=by
 intro c ρ J HK X ac w Q hr hq;obtain⟨fs,cs,e2,r1,r3⟩:=vu ((dk hr (ch:=[]) (by simp)).ok _ _ Md);have r1:fs=[]:=r1;subst r1;obtain⟨HS,q1,q3⟩:=hr.hp;obtain⟨ρ2,T4,H1,k⟩:=Iz KU r3 q1 hr.fr;have kto:ρ.to ρ2 S.nx:=k.to;have NB:ρ.le ρ2:=kto.le hr.fr;have hr2:Rl c N ρ2 J (T4++HK) X C ⟨S.F,g1.O,g1.nx,S.D⟩ ac w:=by
  refine⟨hr.tm,hr.df.up (λ_ h=>h) NB,hr.si,hr.fs.up (λ_ h=>h) NB,hr.fc.up (λ_ h=>h) NB,λr o e=>?_,⟨H1,k.left,?_⟩,hr.kn,k.fr⟩
  ·obtain⟨y,y1,y2⟩:=hr.kc r o e
   exact⟨y,akj _ y1,y2.up (λ_ h=>h) NB⟩
  ·have:=k.hp (HK++X) _ _ _ q3
   refine this.j9 ?_;rw[List.append_assoc];exact List.perm_append_comm_assoc T4 H1 _
 obtain⟨J1,Y1,mJ,h3⟩:=hr2.mL g.l;rw[hS1]at h3;have ajj:S1.nx=g1.nx:=by rw[← hS1,Db]
 obtain⟨ρ3,hρ3⟩:∃ρ3:bh,ρ3=(ρ2.set S1.nx (dO w.heap.size 0)).set (S1.nx+1) (dO (w.heap.size+1) 0):=⟨_,rfl⟩;have t3:ρ2.to ρ3 S1.nx:=by rw[hρ3];exact(bh.kL ρ2 S1.nx _).trans (bh.kL _ (S1.nx+1) _) (by omega)
 have f3:ρ3.fr (S1.nx+2):=by rw[hρ3];exact bh.xl (bh.xl h3.fr _) _
 have l3:ρ2.le ρ3:=t3.le h3.fr;have d3:ρ3 S1.nx=some (dO w.heap.size 0):=by rw[hρ3];simp[bh.set]
 have o3:ρ3 (S1.nx+1)=some (dO (w.heap.size+1) 0):=by rw[hρ3];simp[bh.set]
 have h4:Rl c N ρ3 J1 (T4++HK) (Y1++X) C ⟨S1.F,S1.O,S1.nx+2,S1.D⟩ ac w:=by obtain⟨Uj,s1,s3⟩:=h3.hp;exact⟨h3.tm,h3.df.up (λ_ h=>h) l3,h3.si,h3.fs.up (λ_ h=>h) l3,h3.fc.up (λ_ h=>h) l3,h3.Oo (λ_ h=>h) l3,⟨Uj,s1.up (λ_ h=>h) l3,s3⟩,h3.kn,f3⟩
 obtain⟨ρ',ρ5,HB,H',hto,ht5,Is,hleft,_,hp,_,_,hfr⟩:=QW h4 hv adH b1 b2 (Nat.le_refl _) hlC;have hto:ρ3.to ρ' (S1.nx+2):=hto;obtain⟨X1,hX1⟩:∃X1,X1=Y1++X:=⟨_,rfl⟩;have Rd:Uh G X1 J1:=by rw[hX1];exact h4.kn
 rw[← hX1]at hp;have WN:∀{σ:bh} {J':World->Prop},ρ3.to σ (S1.nx+2)->(∀w,J' w->Hs X1 w)->RO J' σ g2.O H':=λ{σ J'} hs hm=>(hleft.fJ (λr hr'=>(hs r hr').trans (ht5 r hr').symm) hlO).up (λw q=>Rd.to w (hm w q)) (bh.le_refl _);have hkc:∀{σ:bh} {J':World->Prop},ρ3.to σ (S1.nx+2)->(∀w,J' w->Hs X1 w)->∀r o,dm (my C) r=some o->∃x∈HK,ro J' σ r o x:=λ{σ J'} hs hm=>hr.Oo (λw q=>mJ w (Rd.to w (hm w q))) (bh.le_trans NB (bh.le_trans l3 (hs.le f3)));obtain⟨u6,en1,YT,hit⟩:=it.ok (cmp ρ2 g1.th) (Hs X1) T4 X1 cs x l hf (k.val.mono λw q=>mJ w (Rd.to w q)) (k.cI.up (λw q=>mJ w (Rd.to w q)) (bh.le_refl _)) ⟨λ_ h=>h,Rd.ex,Rd.gl.mono Rd.to⟩ (λr hr'=>by
  unfold cmp;rw[List.getElem?_eq_none (by have:=k.Jz;exact Nat.le_trans (Nat.le_of_eq this.symm) hr')])
 obtain⟨C',hC'⟩:∃C',C'=Wi ps.toList a b C S1 g2.O:=⟨_,rfl⟩;rw[← hC']at hl ht;have ahd:LQ (my C')=true:=by rw[hC'];show LQ (((S1.nx+1, .aux false)::(g2.O++my C))++[])=true;rw[List.append_nil];exact hlp
 obtain⟨H0,hH0⟩:∃H0,H0=T4++(HB++((H'++HK)++[])):=⟨_,rfl⟩;have Px:bH c.bs c.w0.heap.size (H0++X1) w:=hp.j9 (by
  rw[hH0];have:(HB++(H'++((T4++HK)++X1))).Perm (T4++(HB++(H'++(HK++X1)))):=by rw[List.append_assoc T4];refine(List.Perm.append_left HB (List.perm_append_comm_assoc H' T4 _)).trans ?_;exact List.perm_append_comm_assoc HB T4 _
  simpa using this)
 have hX:Hs X1 w:=FG Px λr hr'=>akj _ hr';have apX:∀b∈bF H0,b∉bF X1:=λb h1 h2=>by obtain⟨r,r1,r2⟩:=bg.1 h1;obtain⟨r',r3,r4⟩:=bg.1 h2;exact(List.pairwise_append.1 Px.apart).2.2 r r1 r' r3 b r2 r4
 have ltX:∀b∈bF X1,b<w.heap.size:=λb h2=>by obtain⟨r',r3,r4⟩:=bg.1 h2;exact(hX r' r3).2 b r4
 have af9:∀{w'},Apt H0 w w'->∀b∈bF X1,w'.heap[b]? =w.heap[b]? :=λ{w'} ha b hb=>ha.2 b (ltX b hb) λh=>apX b h hb;have Q5:∀{w'},Apt H0 w w'->Hs X1 w':=λ{w'} ha r hr'=>⟨aE.kT (hX r hr').1 ha.1 λb hb=>af9 ha b (bg.2 ⟨r,hr',hb⟩),λb hb=>Nat.lt_of_lt_of_le ((hX r hr').2 b hb) ha.1⟩;have pwX:X1.Pairwise aE.apart:=(List.pairwise_append.1 Px.apart).2.1;have aeA:∀{bs:List Nat} {n0:Nat} {L:List aE} {w':World},bH bs n0 L w'->Hs X1 w'->(∀b∈bF L,b∉bF X1)->(∀b∈bF X1,b∈bs\/n0<=b)->bH bs n0 (L++X1) w':=λ{bs n0 L w'} h1 h2 h3 h4=>⟨λr hr'=>(List.mem_append.1 hr').elim (h1.holds r) λh=>(h2 r h).1,λr hr' b hb=>(List.mem_append.1 hr').elim (λh=>h1.own r h b hb) λh=>⟨h4 b (bg.2 ⟨r,h,hb⟩),(h2 r h).2 b hb⟩,
   List.pairwise_append.2 ⟨h1.apart,pwX,λr r1 s s1 b b1 b2=>h3 b (bg.2 ⟨r,r1,b1⟩) (bg.2 ⟨s,s1,b2⟩)⟩⟩
 have aiN:∀b∈bF X1,b∈c.bs\/c.w0.heap.size<=b:=λb h2=>by obtain⟨r',r3,r4⟩:=bg.1 h2;exact(Px.own r' (akj _ r3) b r4).1
 have fin:∀(i:Gh G (aL (sY g.l))) (w2:World) (Sx:AS G),afc ρ3 (S1.nx+2) X1 (H'++HK) Sx.O Sx.nx i->Apt H0 w w2->St N c (Go.Bw.mark w.heap.size::ac.defers) [] (.obj w.heap.size (.deferred (some []))::([]++(i.HB++((H'++HK)++i.Y)))) {ac with defers:=Go.Bw.mark w.heap.size::ac.defers} w2->
   ρ.to i.ρ S.nx/\(∀w,i.J w->J w)/\Rl c N i.ρ i.J HK ((i.Y++Y1)++X) C (SQ S1.nx S1 g2.O Sx) {ac with defers:=Go.Bw.mark w.heap.size::ac.defers} w2:=λi w2 Sx hi ha hst=>by
  have hle:ρ3.le i.ρ:=hi.to.le f3;have ajk:S.nx<=S1.nx:=by rw[ajj];exact k.nx
  have mJ1:∀w,i.J w->J1 w:=λw q=>Rd.to w (hi.mJ w q);refine⟨(kto.trans t3 ajk).trans hi.to (by omega),λw q=>mJ w (mJ1 w q),hst.tm,?_,⟨hst.si,hr.si.n⟩,h4.fs.up mJ1 hle,h4.fc.up mJ1 hle,hkc hi.to hi.mJ,⟨.obj w.heap.size (.deferred (some []))::(i.HB++H'), .cons ⟨_,_,?_,rfl,rfl⟩ (hi.ro.app (WN hi.to hi.mJ)),?_⟩,by rw[List.append_assoc, ← hX1];exact hi.kn,hi.fr⟩
  ·exact .cons ⟨rfl,_,(hi.to S1.nx (by omega)).trans d3,rfl⟩ (h4.df.up mJ1 hle)
  ·exact(hi.to S1.nx (by omega)).trans d3
  ·have h1:=hst.hp.sub (List.Sublist.cons_cons _ (List.sublist_append_right [] _))
   have h2:=aeA h1 (Q5 ha) (λb hb hx=>by
    have hb:b=w.heap.size\/b∈bF (i.HB++((H'++HK)++i.Y)):=by simpa[bF,aE.cI]using hb
    rcases hb with rfl|hb
    ·exact absurd (ltX _ hx) (by omega)
    ·exact hi.ap b hb hx) aiN
   rw[hX1]at h2;refine h2.j9 ?_;simp only[List.append_assoc,List.cons_append];exact .refl _
 have key:=TO (P:=P) (N:=N) (c:=c) (D:=ac.defers) (Q:=Q) (g:=Ud) (ps:=ps.toList) (assign:=a) (body:=b) (gf:=it.k) (n:=l.length) (caps:=cs.toArray) (Hc:=T4) (Ho:=[]) (u6:=u6) (α:=Gh G (aL (sY g.l))) (β:=Gh G (aL (sY g.l))) (a:=ac) (w:=w)
  (H:=H0) ⟨hr.tm,λd v e=>by simp[lk]at e,rfl,hr.si.s,Px.sub (List.sublist_append_left _ _)⟩ (hr.si.n hrd) e2 (λargs w=>by
   obtain⟨fn,f1,f2,f5⟩:=it.fn;have h1:fn.name≠ "runtime.NumGoroutine" :=by simpa using f5
   obtain⟨code,f2⟩:=Option.isSome_iff_exists.1 f2;simp[callFunc,f1,h1,f2,Go.mark]) (λly Jy Jx bs W1 ha oo hpE hR=>hit ly Jy Jx bs W1 (aeA (L:= .ext bs (Jy 0 bs)::T4) ⟨hpE.holds,λr hr' b hb=>⟨(hpE.own r hr' b hb).1.imp (λh=>(List.mem_append.1 h).elim (λh=>akk _ h) λh=>akj _ (akk _ h)) id,(hpE.own r hr' b hb).2⟩,hpE.apart⟩ (Q5 ha) (λb hb hx=>by
    have hb:b∈bs\/b∈bF T4:=by simpa[bF,aE.cI]using hb
    rcases hb with hb|hb
    ·rcases oo b hb with hb|hb
     ·exact apX b hb hx
     ·exact absurd (ltX _ hx) (by omega)
    ·refine apX b ?_ hx
     rw[hH0];obtain⟨r,r1,r2⟩:=bg.1 hb;exact bg.2 ⟨r,akk _ r1,r2⟩) λb hb=> .inl (akj _ (akj _ hb))) hR) (λk=>by rw[YT,hn];simp) (agh hps)
  (λk i=>afc ρ3 (S1.nx+2) X1 (H'++HK) (Zn g (S1.nx+2) i.e).O (Zn g (S1.nx+2) i.e).nx i/\RgT P N C' ps.toList a b g (S1.nx+2) it (l.drop k) i.e e1 Sf) (λ_ i=>i.HB++((H'++HK)++i.Y))
  (λj i=>afc ρ3 (S1.nx+2) X1 (H'++HK) Sf.O Sf.nx i/\((e1= .ret/\j= .ret)\/∃id,e1= .exit id/\j= .exit id)) (λi=>i.HB++((H'++HK)++i.Y))
  ⟨x0,ρ',Hs X1,[],HB⟩ ⟨⟨hto,λ_ h=>h,Is.up Rd.to (bh.le_refl _),⟨λ_ h=>h,Rd.ex,Rd.gl.mono Rd.to⟩,hfr,λb hb=>apX b (by
   rw[hH0];obtain⟨r,r1,r2⟩:=bg.1 hb;exact bg.2 ⟨r,akj _ r1,r2⟩)⟩,by simpa using ht⟩ hH0
  ?_ ?_ ?_
 ·rwa[Array.toArray_toList]at key
 ·rintro k ⟨ie,iρ,iJ,iY,iHB⟩ rec bs W hk ⟨hi,hrun⟩ hrs hrp hn0 hT haW hpW
  dsimp only at hrun hpW;have hle:ρ3.le iρ:=hi.to.le f3;have mJ1:∀w,iJ w->J1 w:=λw q=>Rd.to w (hi.mJ w q);obtain⟨y,hy,ahm⟩:∃y,l[k]? =some y/\l.drop k=y::l.drop (k+1):=⟨l[k],akm hk,List.drop_eq_getElem_cons hk⟩;rw[ahm]at hrun;have hpX:bH (bs++bF X1) W.heap.size ((.obj w.heap.size (.deferred (some [])):: .obj (w.heap.size+1) (.loop rec)::(iHB++((H'++HK)++iY)))++X1) W:=by
   refine aeA ⟨hpW.holds,λr hr' b hb=>⟨(hpW.own r hr' b hb).1.imp (λh=>akk _ h) id,(hpW.own r hr' b hb).2⟩,hpW.apart⟩ (Q5 haW) (λb hb hx=>?_) λb hb=> .inl (akj _ hb);have hb:b=w.heap.size\/b=w.heap.size+1\/b∈bF (iHB++((H'++HK)++iY)):=by simpa[bF,aE.cI]using hb
   rcases hb with rfl|rfl|hb
   ·exact absurd (ltX _ hx) (by omega)
   ·exact absurd (ltX _ hx) (by omega)
   ·exact hi.ap b hb hx
  have vU:Rl ⟨some (w.heap.size+1),W,bs++bF X1⟩ N iρ iJ (.obj w.heap.size (.deferred (some [])):: .obj (w.heap.size+1) (.loop rec)::(H'++HK)) (iY++X1) C' (Zn g (S1.nx+2) ie) ⟨ac.tmps,[]⟩ W:=by
   subst hC';refine⟨hr.tm, .nil,⟨aQ.refl _ _,λq=>(by cases q)⟩,λd v e=>(by cases e),λy hy=>?_,λr o e=>?_,⟨iHB,hi.ro,hpX.j9 ?_⟩,hi.kn,hi.fr⟩
   ·have:y=_ :=List.mem_singleton.1 hy
    subst this;exact((IB h4.fs (Xl h4.fc)).YS).up mJ1 hle
   ·have e:dm (((S1.nx+1,Ob.aux false)::(g2.O++my C))++[]) r=some o:=e
    rw[List.append_nil]at e;simp only[dm]at e;cases hb:Nat.beq (S1.nx+1) r with
    |true=>rw[hb]at e;cases e;obtain rfl:=akf hb;exact⟨_,akp _ List.mem_cons_self,_,_,(hi.to (S1.nx+1) (by omega)).trans o3,rfl,rec,rfl⟩
    |false=>
     rw[hb]at e;simp only[cond_false]at e;rw[kR]at e;split at e
     ·rename_i v' JU
      cases e;obtain⟨x,x1,x2⟩:=(WN hi.to hi.mJ).lk JU;exact⟨x,by simp[x1],x2⟩
     ·obtain⟨x,x1,x2⟩:=hkc hi.to hi.mJ r o e
      exact⟨x,by simp[x1],x2⟩
   ·have e1:iHB++((.obj w.heap.size (.deferred (some [])):: .obj (w.heap.size+1) (.loop rec)::(H'++HK))++(iY++X1))=iHB++(.obj w.heap.size (.deferred (some [])):: .obj (w.heap.size+1) (.loop rec)::((H'++HK)++(iY++X1))):=by simp
    rw[e1];have:=((List.perm_middle (a:=aE.obj w.heap.size (.deferred (some []))) (l₁:=iHB) (l₂:= .obj (w.heap.size+1) (.loop rec)::((H'++HK)++(iY++X1)))).trans (List.Perm.cons _ List.perm_middle)).symm;simpa using this
  have hT':∀b,(b∈(⟨some (w.heap.size+1),W,bs⟩:Cx).bs\/(⟨some (w.heap.size+1),W,bs⟩:Cx).w0.heap.size<=b)->(b∈c.bs\/c.w0.heap.size<=b):=hT;have gk:∀{Hb Hy:List aE} {o:Obj} {w3:World} {a2:Act},a2.tmps.size=N->a2.defers=[]->aQ (bs++bF X1) W w3->bH (bs++bF X1) W.heap.size (Hb++((.obj w.heap.size (.deferred (some [])):: .obj (w.heap.size+1) o::(H'++HK))++(Hy++(iY++X1)))) w3->
    St N ⟨some (w.heap.size+1),W,bs⟩ [] [] (.obj w.heap.size (.deferred (some [])):: .obj (w.heap.size+1) o::(Hb++((H'++HK)++(Hy++iY)))) a2 w3/\∀b∈bF (Hb++((H'++HK)++(Hy++iY))),b∉bF X1:=λ{Hb Hy o w3 a2} u1 u2 u3 u4=>by
   have e1:Hb++((.obj w.heap.size (.deferred (some [])):: .obj (w.heap.size+1) o::(H'++HK))++(Hy++(iY++X1)))=Hb++(.obj w.heap.size (.deferred (some [])):: .obj (w.heap.size+1) o::(((H'++HK)++(Hy++iY))++X1)):=by simp
   rw[e1]at u4;have u5:=u4.j9 ((List.perm_middle (a:=aE.obj w.heap.size (.deferred (some []))) (l₁:=Hb)).trans (List.Perm.cons _ List.perm_middle));have e2:(aE.obj w.heap.size (.deferred (some []))::aE.obj (w.heap.size+1) o::(Hb++(((H'++HK)++(Hy++iY))++X1)))=(.obj w.heap.size (.deferred (some [])):: .obj (w.heap.size+1) o::(Hb++((H'++HK)++(Hy++iY))))++X1:=by simp
   rw[e2]at u5;have hX3:Hs X1 w3:=FG u5 λr hr'=>akj _ hr';have apL:∀b∈bF (.obj w.heap.size (.deferred (some [])):: .obj (w.heap.size+1) o::(Hb++((H'++HK)++(Hy++iY)))),b∉bF X1:=λb h1 h2=>by obtain⟨r,r1,r2⟩:=bg.1 h1;obtain⟨r',r3,r4⟩:=bg.1 h2;exact(List.pairwise_append.1 u5.apart).2.2 r r1 r' r3 b r2 r4
   refine⟨⟨u1,λd v e=>by simp[lk]at e,u2,⟨u3.os,u3.tape,u3.output,u3.size,λb h1 h2=>?_⟩,⟨λr hr'=>u5.holds r (akk _ hr'),λr hr' b hb=>?_,(List.pairwise_append.1 u5.apart).1⟩⟩,λb hb=>apL b ?_⟩
   ·rcases Classical.em (b∈bF X1)with hx|hx
    ·exact Rd.ex W w3 (Q5 haW) hX3 b hx
    ·exact u3.block b h1 λh=>(List.mem_append.1 h).elim h2 hx
   ·obtain⟨o1,o2⟩:=u5.own r (akk _ hr') b hb
    refine⟨?_,o2⟩;rcases o1 with o1|o1
    ·exact(List.mem_append.1 o1).elim .inl λhx=>absurd hx (apL b (bg.2 ⟨r,hr',hb⟩))
    ·exact .inr o1
   ·obtain⟨r,r1,r2⟩:=bg.1 hb
    exact bg.2 ⟨r,akp _ (akp _ r1),r2⟩
  have aj5:(Zn g (S1.nx+2) ie).nx=S1.nx+2+g.nm.length:=rfl;cases hrun with
  |iH hb h1 n1 h2 hg kk=>
   obtain⟨Tg,Nz⟩:=vU.bind hb ((en1 iρ k y hy).mono hi.mJ);refine h1 ⟨some (w.heap.size+1),W,bs++bF X1⟩ iρ iJ _ _ _ W _ Tg λρa Ja Ya a1 w1 me t1 m1 x1 z1=>?_;rw[jE x1];obtain⟨z2,hh⟩:=z1.Va (o':= .loop {rec with state:= .busy}) (λb hb=>by cases b with
    |true=>cases hb
    |false=>exact⟨_,rfl⟩) ahd
   refine⟨_,run_beginRound hh hrs,?_⟩;refine h2 ⟨some (w.heap.size+1),W,bs++bF X1⟩ ρa Ja _ _ a1 _ _ z2 λρb Jb Yb a2 w3 me t2 m2 x2 z3=>?_;rw[jE x2];obtain⟨Jc,Yc,mc,z4⟩:=z3.mL g.l;obtain⟨ρc,tc,z5⟩:=ZZ z4 hg hl;obtain⟨HB5,r5,p5⟩:=z5.hp;have hd:a2.defers=[]:=by have h0:=z5.df;subst hC';have h0:DR Jc ρc ([]:List (AV G)) a2.defers:=h0;generalize a2.defers=D0 at h0;cases h0;rfl
   have e5:Yc++(Yb++(Ya++(iY++X1)))=(Yc++(Yb++Ya))++(iY++X1):=by simp
   rw[e5]at p5;obtain⟨st5,ap5⟩:=gk z5.tm hd z5.si.s p5;refine Zy (l:=w.heap.size+1) (dd:=w.heap.size) (rec:=rec) hrs hrp hT' st5 ⟨_,ρc,Jc,(Yc++(Yb++Ya))++iY,HB5⟩ ⟨⟨λr hr'=>?_,λw q=>hi.mJ w (m1 w (m2 w (mc w q))),r5,?_,z5.fr,ap5⟩,kk⟩ rfl
   ·exact(tc r hr').trans ((t2 r (by omega)).trans ((t1 r (by omega)).trans (hi.to r hr')))
   ·have:=z5.kn
    rw[e5, ← List.append_assoc]at this;exact this
  |stop hb h1 n1 h2 he hD=>
   obtain⟨Tg,Nz⟩:=vU.bind hb ((en1 iρ k y hy).mono hi.mJ);refine h1 ⟨some (w.heap.size+1),W,bs++bF X1⟩ iρ iJ _ _ _ W _ Tg λρa Ja Ya a1 w1 me t1 m1 x1 z1=>?_;rw[jE x1];obtain⟨z2,hh⟩:=z1.Va (o':= .loop {rec with state:= .busy}) (λb hb=>by cases b with
    |true=>cases hb
    |false=>exact⟨_,rfl⟩) ahd
   refine⟨_,run_beginRound hh hrs,?_⟩;refine h2 ⟨some (w.heap.size+1),W,bs++bF X1⟩ ρa Ja _ _ a1 _ _ z2 λρb Jb Yb a2 w3 me t2 m2 x2 z3=>?_;obtain⟨HB5,r5,p5⟩:=z3.hp;have hd:a2.defers=[]:=by have h0:=z3.df;rw[hD]at h0;subst hC';have h0:DR Jb ρb ([]:List (AV G)) a2.defers:=h0;generalize a2.defers=D0 at h0;cases h0;rfl
   have e5:Yb++(Ya++(iY++X1))=(Yb++Ya)++(iY++X1):=by simp
   rw[e5]at p5;obtain⟨st5,ap5⟩:=gk z3.tm hd z3.si.s p5;obtain⟨j,hj1,hj2⟩:∃j:Code,((me= .ret/\j= .ret)\/∃id,me= .exit id/\j= .exit id)/\((e1= .ret/\j= .ret)\/∃id,e1= .exit id/\j= .exit id):=by
    rcases he with rfl|⟨id,rfl⟩
    ·exact⟨.ret, .inl ⟨G9 x2,rfl⟩, .inl ⟨rfl,rfl⟩⟩
    ·exact⟨.exit id, .inr ⟨id,IK x2,rfl⟩, .inr ⟨id,rfl,rfl⟩⟩
   refine Zx (l:=w.heap.size+1) (dd:=w.heap.size) (rec:=rec) hT' hj1 st5 (j,⟨ie,ρb,Jb,(Yb++Ya)++iY,HB5⟩) ⟨⟨λr hr'=>?_,λw q=>hi.mJ w (m1 w (m2 w q)),r5,?_,z3.fr,ap5⟩,hj2⟩ rfl
   ·exact(t2 r (by omega)).trans ((t1 r (by omega)).trans (hi.to r hr'))
   ·have:=z3.kn
    rw[e5, ← List.append_assoc]at this;exact this
 ·rintro⟨ie,iρ,iJ,iY,iHB⟩ w2 ⟨hi,hrun⟩ ha hst
  rw[List.drop_length]at hrun;generalize hie:(⟨ie,iρ,iJ,iY,iHB⟩:Gh G (aL (sY g.l))).e=ie' at hrun;dsimp only at hie;subst hie;cases hrun with
  |nil=>obtain⟨u1,u2,u3⟩:=fin _ w2 _ hi ha hst;exact hq iρ iJ (iY++Y1) _ w2 .normal u1 u2 trivial u3
 ·rintro j i w2 ⟨hi,hj⟩ ha hst
  obtain⟨u1,u2,u3⟩:=fin _ w2 _ hi ha hst;rcases hj with⟨rfl,rfl⟩|⟨id,rfl,rfl⟩
  ·exact wpIn_ret (hq i.ρ i.J (i.Y++Y1) _ w2 .ret u1 u2 trivial u3)
  ·exact wpIn_exit (hq i.ρ i.J (i.Y++Y1) _ w2 (.exit id) u1 u2 rfl u3)
end Go.Rw
namespace Go.Rw
open Go Go.Bw Go.RowKit
variable {G:Sg} {P:Program} {N:Nat} {C:CC G} {tt:TT P G}
theorem UI{all:Array Oper}{r:List Oper}{S S1 S3:AS G}{e:Ex G}{T el bt q d1:Nat}{x lo:Operand}{k ki:IntKind}{i:Int}{qq:Bool}{xs:List Int}{t1 t2:TypeId}{p1 p2:String}{f1 f2:Array Edge}
  (hT:tt.te.find T=some (.sl el 1 bt))(hz:DF P el k=true)(hx:gv C S [] x=some (.row q))(ho:dm S.O q=some (.row el 1 (.int k) xs))(hl:mU (gv C S [] lo)=some (ki,i,qq))(hi:dH i (xs.length+1)=true)(hp:vO N C (some d1) .QA S=some S1)
  (bJ:US P N C (.ops all r) {S1 with O:=qm S1.O q (.row el 1 (.int k) (xs.take i.toNat++List.replicate (xs.length-i.toNat) (0:Int)))} S3 e):
  US P N C (.ops all (⟨some d1, .slice T x (some lo) none none,t1,p1,f1,none⟩::⟨none, .call ⟨.builtin .clear, #[.tmp d1], #[T]⟩,t2,p2,f2,none⟩::r)) S S3 e:=by
 intro c ρ J HK X a w Q hr hq;refine wpListIn_step λK hK=>?_;rw[akd (Oy.none rfl c ρ J HK X a w hr)];obtain⟨HS,h1,hs0,hm⟩:=hr.st;have hE:=dk hr (ch:=[]) (by simp);obtain⟨kk,x0,k1,⟨vv,ws,m1,rfl,m3,m4,m5⟩,k3⟩:=h1.set ho;have WA:=s5 (hE.ok _ _ hx) m1;have tD:=hE.ev _ _ hx;rw[WA]at tD;obtain⟨g1,g2⟩:=cq hi;have g2:=Nat.lt_succ_iff.1 g2;have fl:=ku hE hl;rw[g1]at fl;haveI:=(tt.sl hT).1;have Mb:aE.row vv el 1 xs.length ws∈HS++(HK++X):=akk _ (List.mem_of_getElem? k1);haveI:qf c (HS++(HK++X)) vv 1 xs.length ws:=⟨λw' _ hp'=>Ro.vR (hp'.holds _ Mb)⟩;refine(Fa (P:=P) (N:=N) (c:=c) (F:=nN a) (H:=HS++(HK++X)) i.toNat tD fl g2) a.defers a w K Q hs0 λw' hs=>hK _ _ ?_;have hr1:Rl c N ρ J HK X C S1 (a.put (some d1) (nO i.toNat xs.length 1 vv)) w':=(hr.since hs).put hp ⟨_,rfl⟩;have hlt:d1<a.tmps.size/\S1={S with F:=(d1, .QA)::S.F}:=by
  simp only[vO]at hp;cases hb:(Nat.blt d1 N&&(LR d1 S.F&&Nl d1 C)&&KX d1 (.QA:AV G))with
  |false=>rw[hb]at hp;cases hp
  |true=>rw[hb]at hp;simp only[akg]at hb;exact⟨by rw[hr.tm];simpa[Nat.blt_eq]using hb.1.1,by cases hp;rfl⟩
 obtain⟨hlt,rfl⟩:=hlt;generalize ha1:a.put (some d1) (nO i.toNat xs.length 1 vv)=a1 at hr1 ⊢;refine wpListIn_step λK2 hK2=>?_;rw[akd (Oy.none rfl c ρ J HK X a1 w' hr1)];obtain⟨OA,j1,js,jm⟩:=hr1.st;obtain⟨kk1,x1,n1,⟨v1,ws1,l1,rfl,l3,l4,l5⟩,n3⟩:=j1.set (r:=q) (o:= .row el 1 (.int k) xs) ho;obtain rfl:vv=v1:=Option.some.inj (m1.symm.trans l1);have hE1:=dk hr1 (ch:=[]) (by simp);have hev:Bw.ev (nN a1) (.tmp d1)=some (nO i.toNat xs.length 1 vv):=by rw[Ri (x:= .tmp d1) (λt ht=>by cases ht;rw[← ha1];simpa[Act.put]using hlt) (λg h=>by cases h), ← ha1];simp[Act.put,Act.eval,hlt]
 have hws:ws1=eI (LI k) xs:=(bq.iff.1 (show(LA (LI k) xs.length).fg J ws1 _ from l4)).trans (gD (LI k) xs).symm;subst hws;have Jw:=qX (m:=HK++X) n1;haveI:vE (OA++(HK++X)) vv el 1 xs.length (eI (LI k) xs) ((OA++(HK++X)).set kk1):=⟨kk1,Jw,λ_ =>rfl⟩;have hz2:(P.info? el).bind (·.zero)=some (.int k 0):=by
  unfold DF at hz;split at hz
  ·rename_i k' n hzz
   simp only[akg,beq_iff_eq]at hz;rw[hzz,Io hz.1,hz.2]
  ·cases hz
 refine TW (L:=LI k) (z0:=(0:Int)) (z:= .int k 0) (xs:=xs) (m:=i.toNat) (tt.sl hT).1.ok ⟨hz2⟩ rfl rfl rfl rfl g2 hev rfl a1.defers a1 w' K2 Q js λ_ w2 _ hs2 AY=>hK2 _ _ ?_;rw[vo n1]at AY;refine bJ c ρ J HK X a1 w2 Q (hr1.C0 (n3 _ _ ⟨vv,_,l1,rfl,?_,show(LA (LI k) _).fg J _ _ from bq.iff.2 (gD (LI k) _),rfl⟩) hs2 AY) hq;have:∀ys:List Int,ys.length=xs.length->uV vv ys.length:=λys h=>by rw[h];exact l3
 exact this _ (by simp only[List.length_append,List.length_take,List.length_replicate];omega)
end Go.Rw
namespace Go.Rw
open Go Go.Bw Go.RowKit
variable {G:Sg} {P:Program} {N:Nat} {C:CC G}
theorem WS:∀{O:Os G} {r:Nat} {o:Ob G},dm (Du O) r=some o->Ww o=false/\(dm O r=some o\/(o= .aux false/\∃N ks vs ps a b,dm O r=some (.lp N ks vs ps a b))):=by
 intro O
 induction O with
 |nil=>intro r o h;cases h
 |cons p q ih=>
  obtain⟨k,u⟩:=p;intro r o h;cases u with
  |lp N ks vs ps a b=>
   simp only[Du,dm]at h ⊢;cases hb:Nat.beq k r with
   |true=>rw[hb]at h;cases h;exact⟨rfl, .inr ⟨rfl,_,_,_,_,_,_,rfl⟩⟩
   |false=>rw[hb]at h;exact ih h
  |_ =>
   simp only[Du,dm]at h ⊢;cases hb:Nat.beq k r with
   |true=>rw[hb]at h;cases h;exact⟨rfl, .inl rfl⟩
   |false=>rw[hb]at h;exact ih h
theorem adG:∀{O:Os G} {r N:Nat} {ks:List Nat} {vs:AV G} {ps:List Nat} {a b:Code},dm O r=some (.lp N ks vs ps a b)->yC (Du O)=false:=by
 intro O
 induction O with
 |nil=>intro r N ks vs ps a b h;cases h
 |cons p q ih=>
  obtain⟨k,u⟩:=p;intro r N ks vs ps a b h;cases u with
  |lp _ _ _ _ _ _ =>rfl
  |aux c=>
   simp only[dm]at h;cases hb:Nat.beq k r with
   |true=>rw[hb]at h;cases h
   |false=>
    rw[hb]at h;cases c with
    |true=>exact ih h
    |false=>rfl
  |_ =>
   simp only[dm]at h;cases hb:Nat.beq k r with
   |true=>rw[hb]at h;cases h
   |false=>rw[hb]at h;exact ih h
theorem LL{O:Os G}:my [(⟨[],O,[]⟩:Ly G)]=O:=List.append_nil O
theorem aaD{J:World->Prop}{ρ:bh}:∀{ks:List Nat} {vs:AV G} {us:List Value} {d:Nat} {v:AV G},rl J ρ vs us->dm (frZ ks vs) d=some v->∃(j:Nat) (u:Value),ks[j]? =some d/\us[j]? =some u/\rv J ρ v u:=by
 intro ks
 induction ks with
 |nil=>intro vs us d v _ h;cases vs<;>cases h
 |cons k ks ih=>
  intro vs us d v hr h;cases vs with
  |cons x r=>
   obtain⟨u,us',rfl,h1,h2⟩:=hr;simp only[frZ,dm]at h;cases hb:Nat.beq k d with
   |true=>rw[hb]at h;cases h;obtain rfl:=akf hb;exact⟨0,u,rfl,rfl,h1⟩
   |false=>rw[hb]at h;obtain⟨j,u',k1,k2,k3⟩:=ih h2 h;exact⟨j+1,u',by simpa using k1,by simpa using k2,k3⟩
  |_ =>cases h
theorem adZ{J:World->Prop}{ρ:bh}{t:Array Value}:∀{F:Fr G} {seen:List Nat} {ks:List Nat} {vs:AV G},frU seen F=(ks,vs)->(∀d v,cv seen d=false->dm F d=some v->∃u,t[d]? =some u/\rf J ρ t v u)->
  ∃us:List Value,rl J ρ vs us/\∀(j d:Nat) (u:Value),ks[j]? =some d->us[j]? =some u->t[d]? =some u:=by
 intro F
 induction F with
 |nil=>intro seen ks vs h _;cases h;exact⟨[],rfl,λj d u h=>by simp at h⟩
 |cons p r ih=>
  obtain⟨d0,v0⟩:=p;intro seen ks vs h hf;have WU:∀d v,cv (d0::seen) d=false->dm r d=some v->∃u,t[d]? =some u/\rf J ρ t v u:=λd v h1 h2=>by simp only[cv,Bool.or_eq_false_iff]at h1;refine hf d v h1.2 ?_;simp only[dm];have:Nat.beq d0 d=false:=h1.1;rw[this];exact h2
  unfold frU at h;cases hb:(cv seen d0|| !wF v0)with
  |true=>rw[hb]at h;exact ih h WU
  |false=>
   rw[hb]at h;simp only[cond_false]at h;rw[Bool.or_eq_false_iff]at hb;cases hr:frU (d0::seen) r with
   |mk ks' vs'=>
    rw[hr]at h;cases h;obtain⟨us,q1,q2⟩:=ih hr WU;obtain⟨u,k1,k2⟩:=hf d0 v0 hb.1 (by simp only[dm,Nat.beq_refl,cond_true]);have k3:rv J ρ v0 u:=by
     cases v0 with
     |gd j w x=>cases hb.2
     |_ =>exact k2
    refine⟨u::us,⟨u,us,rfl,k3,q1⟩,λj d u' h1 h2=>?_⟩;cases j with
    |zero=>simp at h1 h2;subst h1;subst h2;exact k1
    |succ j=>exact q2 j d u' (by simpa using h1) (by simpa using h2)
theorem Rl.af6{c:Cx}{ρ:bh}{J:World->Prop}{X A B:List aE}{l:Nat}{o o':Obj}{S:AS G}{a:Act}{w:World}(h:Rl c N ρ J (A++ .obj l o::B) X C S a w)(ho:∀b,XI b o->XI b o')(hnm:∀es ck,o≠ .map es ck)(hlp:∀r ob,dm (my C) r=some ob->Ww ob=false):
  Rl c N ρ J (A++ .obj l o'::B) X C S a (w.putObj l o')/\w.heap[l]? =some o:=by
 obtain⟨HS,q1,q3⟩:=h.hp;have pm:∀x:aE,(HS++((A++x::B)++X)).Perm (x::(HS++((A++B)++X))):=λx=>by
  have h1:HS++((A++x::B)++X)=(HS++A)++x::(B++X):=by simp
  have h2:HS++((A++B)++X)=(HS++A)++(B++X):=by simp
  rw[h1,h2];exact List.perm_middle
 have q4:=q3.j9 (pm _);have hm:aE.obj l o∈(aE.obj l o::(HS++((A++B)++X))):=List.mem_cons_self;have hd:w.heap[l]? =some o:=q4.holds _ hm;have hlt:=(akl.1 hd).1;have jb:aQ [l] w (w.putObj l o'):=⟨rfl,rfl,rfl,by simp[World.putObj],λk _ hk=>World.putObj_heap_other (by simpa using hk)⟩;have q5:=q4.set (k:=0) (r':= .obj l o') rfl jb.size (λj hj hne=>jb.block j hj hne) (World.putObj_heap_same hlt) h.si.s.size (λb' hb'=>by
  have e:b'=l:=by simpa[aE.cI]using hb'
  subst e;exact⟨.inl (by simp[aE.cI]),by rw[World.putObj];simpa using hlt⟩)
 refine⟨⟨h.tm,h.df,⟨h.si.s.store q4 hm (by simp[aE.cI]) jb,h.si.n⟩,h.fs,h.fc,λr ob e=>?_,⟨HS,q1,q5.j9 (pm _).symm⟩,h.kn,h.fr⟩,hd⟩;obtain⟨y,y1,y2⟩:=h.kc r ob e;have keep:∀z,(z∈A\/z∈B)->z∈A++aE.obj l o'::B:=λz hz=>by
  rcases hz with hz|hz
  ·exact akk _ hz
  ·exact akj _ (akp _ hz)
 rcases List.mem_append.1 y1 with y1|y1
 ·exact⟨y,keep _ (.inl y1),y2⟩
 ·rcases List.mem_cons.1 y1 with rfl|y1
  ·refine⟨.obj l o',akj _ List.mem_cons_self,?_⟩
   cases ob with
   |cI T c=>obtain⟨_,_,_,e,_⟩:=y2;cases e
   |row _ _ _ _ =>obtain⟨_,_,_,e,_⟩:=y2;cases e
   |gm=>obtain⟨_,e⟩:=y2;cases e
   |fm _ _ _ =>obtain⟨_,es,ck,_,_,e,_⟩:=y2;cases e;exact absurd rfl (hnm es ck)
   |lp _ _ _ _ _ _ =>cases hlp _ _ e
   |aux b=>obtain⟨n,x,m1,e,m3⟩:=y2;cases e;exact⟨_,_,m1,rfl,ho b m3⟩
  ·exact⟨y,keep _ (.inr y1),y2⟩
theorem TK{J:World->Prop}{ρ:bh}:∀{ps:List Nat} {v:AV G} {S S':AS G} {us:List Value},oX N C ps v S=some S'->rl J ρ v us->us.length=ps.length:=by
 intro ps
 induction ps with
 |nil=>
  intro v S S' us e hv;cases v<;>first|(simp[oX]at e;done)|skip
  have:us=[]:=hv;subst this;rfl
 |cons p ps ih=>
  intro v S S' us e hv;cases v<;>first|(simp[oX]at e;done)|skip
  rename_i v r;simp only[oX]at e;split at e
  ·rename_i S2 hS
   cases hb:wF v with
   |false=>rw[hb]at e;cases e
   |true=>rw[hb]at e;obtain⟨u,us',rfl,h1,h2⟩:=hv;simp[ih e h2]
  ·cases e
theorem U0{S S2 S3 S4:AS G}{f:Operand}{args:Array Operand}{ats:Array TypeId}{q N2:Nat}{ks ps:List Nat}{vs l:AV G}{a b:Code}{d:Option Tmp}{ty:TypeId}{pp:String}{af:Array Edge}{g:Option (Nat×Bool)}
  (hf:gv C S [] f=some (.yl q))(ha:Ou (gv C S []) args.toList=some l)(hq:dm (my C) q=some (.lp N2 ks vs ps a b))(hrd:yC (my C)=true)
  (hb:oX N2 [⟨[],Du (my C),[]⟩] ps l ⟨frZ ks vs,S.O,S.nx,[]⟩=some S2)(h1:US P N2 [⟨[],Du (my C),[]⟩] (.code a) S2 S3 .jK)(n1:S2.nx<=S3.nx)(h2:US P N2 [⟨[],Du (my C),[]⟩] (.code b) S3 S4 .jK)(n2:S3.nx<=S4.nx)(hD:S4.D=[]):
  SK P ⟨d, .call ⟨.value f,args,ats⟩,ty,pp,af,g⟩ C S {S with O:=S4.O,nx:=S4.nx} (.kb true):=by
 intro c N ρ J HK X ac w next Q hr hk
 have hE:=dk hr (ch:=[]) (by simp);obtain⟨n,y1,y2⟩:=hE.ok _ _ hf;have y2:ac.eval f= .func (.yield n) #[] #[]:=(List.cons.inj y2).1;obtain⟨x,hx,n',rec,us,z1,rfl,z3,z4⟩:=hr.kc q _ hq;have en:n'=n:=by rw[y1]at z1;cases z1;rfl
 subst en;obtain⟨r2,_⟩:=vW hE ha;obtain⟨HS,q1,q3⟩:=hr.hp;obtain⟨A,B,rfl⟩:=List.append_of_mem hx;have hm:aE.obj n' (.loop rec)∈HS++((A++aE.obj n' (.loop rec)::B)++X):=by simp
 have hl:w.heap[n']? =some (.loop rec):=q3.holds _ hm;have hro:c.ro=none:=hr.si.n hrd;have hlen:=TK hb r2;have ahb:=I2 hb;have hy:=run_yield (P:=P) (args:=(args.toList.map ac.eval).toArray) hl (by rw[z4.ps];simpa using hlen);have ajh:(rec.params.zip (args.toList.map ac.eval).toArray).foldl (λtmps (t,a)=>tmps.setIfInBounds t a) rec.tmps=(ps.zip (args.toList.map ac.eval)).foldl (λt q=>t.setIfInBounds q.1 q.2) rec.tmps:=by rw[z4.ps, ← Array.foldl_toList];simp
 rw[ajh,z4.akc,z4.bd]at hy;refine⟨λ_ _ =>trivial,?_⟩;rw[Oper.semAt_eq _ _ _ (by simp)];have hrun:(execOp ac.eval ⟨d, .call ⟨.value f,args,ats⟩,ty,pp,af,g⟩).run P w= .ok (.round n' rec.fn ((ps.zip (args.toList.map ac.eval)).foldl (λt q=>t.setIfInBounds q.1 q.2) rec.tmps) a b) w:=by
  have e3: #[]++(args.map ac.eval)=(args.toList.map ac.eval).toArray:=by apply Array.ext';simp
  simp only[execOp,resolve,y2,Deferred.ofValue,Sem.run_bind,Sem.run_pure,Result.andThen_ok,invoke,e3];exact hy
 rw[hrun];refine⟨λh=>by simp at h,⟨trivial,λcf cs hroom=>?_⟩⟩;let c':Cx:=⟨some n',w,bF (HS++((A++aE.obj n' (.loop rec)::B)++X))⟩;have hno:∀r ob,dm (my [(⟨[],Du (my C),[]⟩:Ly G)]) r=some ob->Ww ob=false:=λr ob e=>by rw[LL]at e;exact(WS e).1
 have hb0:Rl c' N2 ρ J (A++aE.obj n' (.loop rec)::B) X [⟨[],Du (my C),[]⟩] ⟨frZ ks vs,S.O,S.nx,[]⟩ {tmps:=rec.tmps,defers:=[]} w:=by
  refine⟨z4.sz, .nil,⟨aQ.refl _ _,λh=>?_⟩,λd v e=>?_,λy hy=>?_,λr o e=>?_,⟨HS,q1,⟨q3.holds,λr hm b hb=>⟨.inl (bg.2 ⟨r,hm,hb⟩),(q3.own r hm b hb).2⟩,q3.apart⟩⟩,hr.kn,hr.fr⟩
  ·rw[LL,adG hq]at h;cases h
  ·obtain⟨j,u,k1,k2,k3⟩:=aaD z3 e
   exact⟨u,z4.fr j d u k1 k2,M7 k3 _⟩
  ·simp at hy;subst hy;exactλd v e=>by cases e
  ·rw[LL]at e
   rcases(WS e).2 with e|⟨rfl,N',ks',vs',ps',a',b',e⟩
   ·exact hr.kc r o e
   ·obtain⟨y,w1,m,rc,_,w2,rfl,_⟩:=hr.kc r _ e
    exact⟨_,w1,m,_,w2,rfl,_,rfl⟩
 obtain⟨Tg,_⟩:=hb0.bind hb r2;have vU:=roundIn_of_wpIn (F:=FA none) (n:=0) (P:=P) (l:=n') (f:=rec.fn) (tmps:=(ps.zip (args.toList.map ac.eval)).foldl (λt q=>t.setIfInBounds q.1 q.2) rec.tmps) (assign:=a) (body:=b) (w:=w) (R:=λe W'=>e= .returned (.bool true)/\next (ac.put d (.bool true)) W') trivial (by
  refine h1 c' ρ J _ _ _ w _ Tg λρa Ja Ya a1 w1 me t1 m1 x1 k1=>?_;rw[jE x1];obtain⟨k2,hh⟩:=k1.af6 (o':= .loop {rec with state:= .busy}) (λb hb=>by cases b with
   |true=>cases hb
   |false=>exact⟨_,rfl⟩) (λ_ _ h=>by cases h) hno
  refine⟨_,run_beginRound hh z4.st,?_⟩;refine h2 c' ρa Ja _ _ a1 _ _ k2 λρb Jb Yb a2 w3 me t2 m2 x2 k3=>?_;rw[jE x2];obtain⟨k4,hh2⟩:=k3.af6 (o':= .loop rec) (λb hb=>by cases b with
   |true=>cases hb
   |false=>exact⟨_,rfl⟩) (λ_ _ h=>by cases h) hno
  have e:({{rec with state:=LoopState.busy}with state:=if(none:Option Code).isNone then LoopState.ready else .done,pending:=none}:Loop)=rec:=by have s1:=z4.st;have s2:=z4.pn;cases rec;simp_all
  have hend:=run_endRound (P:=P) none hh2;rw[e]at hend;refine⟨_,_,hend,rfl,?_⟩;obtain⟨OA,p1,p3⟩:=k4.hp;have tt:ρ.to ρb S.nx:=(show ρ.to ρa S.nx fromλr q=>t1 r (by rw[ahb];exact q)).trans t2 (by have:S2.nx=S.nx:=ahb;omega);have hle:=tt.le hr.fr;have mm:∀w,Jb w->J w:=λw q=>m1 w (m2 w q);refine hk ρb Jb (Yb++Ya) _ _ tt mm rfl ⟨hr.tm,hr.df.up mm hle,⟨hr.si.s.trans k4.si.s λb hb=>?_,hr.si.n⟩,hr.fs.up mm hle,hr.fc.up mm hle,hr.Oo mm hle,⟨OA,p1,?_⟩,?_,k4.fr⟩
  ·obtain⟨q,hq,hqb⟩:=bg.1 hb
   exact(q3.own q hq b hqb).1
  ·have e5:(Yb++Ya)++X=Yb++(Ya++X):=List.append_assoc _ _ _
   rw[e5];exact Ma q3 hr.si.size p3
  ·have e5:(Yb++Ya)++X=Yb++(Ya++X):=List.append_assoc _ _ _
   rw[e5];exact k4.kn)
 have hfa:FA c.ro=FA none:=by rw[hro]
 rw[hfa];obtain⟨hF,PC⟩:=vU;obtain⟨e,W',hpost,Pv⟩:=PC cf cs (by rw[← hfa];exact hroom);refine⟨e,W',?_,Pv⟩;obtain⟨rfl,hn⟩:=hpost;exact hn
theorem Kk{tt:TT P G}{ek:Nat->List (Ek P G)}{Ud:Operand}{ps:Array Nat}{a b:Code}{S S1:AS G}{k:Nat}{cap:AV G}{fi:FI}{ks:List Nat}{vs:AV G}{e1 e2:Ex G}{O2:Os G}
  (Md:gv C S [] Ud=some (.fn (.func k) .nil cap))(Ir:D1 P k=some fi)(hres:fi.Bq=[])(hl:pb cap=true)(hn:zD cap+1<=fi.N)(hrd:yC (my C)=true)(hkv:frU [] (S.F++flF C)=(ks,vs))
  (hU:US P fi.N [⟨[],(S.nx+1, .lp N ks vs ps.toList a b)::my C,[]⟩] (.code fi.code) ⟨wO 0 (.cons (.yl (S.nx+1)) cap),(S.nx, .aux true)::S.O,S.nx+2,[]⟩ S1 e1)(Nz:S.nx+2<=S1.nx)(hX:oK ek e1 S1.D S1.O=some (e2,O2))(he:e2= .jK\/e2= .ret):
  US P N C (.code (.rangeFunc Ud ps a b)) S ⟨S.F,O2,S1.nx, .ptr S.nx []::S.D⟩ .jK:=by
 intro c ρ J HK X ac w Q hr hq;have hE:=dk hr (ch:=[]) (by simp);obtain⟨fs,cs,e3,r1,r3⟩:=vu (hE.ok _ _ Md);have r1:fs=[]:=r1;subst r1;have hro:c.ro=none:=hr.si.n hrd;obtain⟨HS,q1,q3⟩:=hr.hp;refine wpIn_rangeFunc λfn _ =>?_;have vU:(FA c.ro).round=none:=hro;rw[vU];obtain⟨rec,bJ⟩:∃rec:Loop,rec={state:= .ready,pending:=none,fn,tmps:=ac.tmps,params:=ps,assign:=a,body:=b,defers:=w.heap.size}:=⟨_,rfl⟩;obtain⟨W1,hW1⟩:∃W1,(w.alloc (.deferred (some []))).alloc (.loop rec)=W1:=⟨_,rfl⟩;have hs1:aQ [] w W1:=by rw[← hW1];exact(aQ.alloc w _).ext (aQ.alloc _ _)
 obtain⟨ρ3,hρ3⟩:∃ρ3:bh,ρ3=(ρ.set S.nx (dO w.heap.size 0)).set (S.nx+1) (dO (w.heap.size+1) 0):=⟨_,rfl⟩;have t3:ρ.to ρ3 S.nx:=by rw[hρ3];exact(bh.kL ρ S.nx _).trans (bh.kL _ (S.nx+1) _) (by omega)
 have f3:ρ3.fr (S.nx+2):=by rw[hρ3];exact bh.xl (bh.xl hr.fr _) _
 have l3:ρ.le ρ3:=t3.le hr.fr;have d3:ρ3 S.nx=some (dO w.heap.size 0):=by rw[hρ3];simp[bh.set]
 have o3:ρ3 (S.nx+1)=some (dO (w.heap.size+1) 0):=by rw[hρ3];simp[bh.set]
 obtain⟨us,u1,u2⟩:=adZ hkv (J:=J) (ρ:=ρ) (t:=ac.tmps) (λd v _ e=>IB hr.fs (Xl hr.fc) d v e);have hLp:ro J ρ3 (S.nx+1) (.lp N ks vs ps.toList a b) (.obj (w.heap.size+1) (.loop rec)):=⟨_,rec,us,o3,rfl,u1.ext l3,⟨by rw[bJ];exact hr.tm,by rw[bJ];exact u2,by rw[bJ],by rw[bJ],by rw[bJ],by rw[bJ],by rw[bJ]⟩⟩;have hp1:bH c.bs c.w0.heap.size (.obj (w.heap.size+1) (.loop rec):: .obj w.heap.size (.deferred (some []))::(HS++(HK++X))) W1:=by
  have p0:bH c.bs c.w0.heap.size (.obj w.heap.size (.deferred (some []))::(HS++(HK++X))) (w.alloc (.deferred (some []))):=q3.fresh (aQ.alloc _ _) (by show(w.heap.push _)[w.heap.size]? =_;simp) hr.si.size (λb hb=>by
   have e:b=w.heap.size:=by simpa[aE.cI]using hb
   subst e;exact⟨Nat.le_refl _,by simp⟩)
  rw[← hW1];refine p0.fresh (aQ.alloc _ _) ?_ (by have:=hr.si.size;simp;omega) (λb hb=>?_)
  ·have:=World.alloc_heap_new (w.alloc (.deferred (some []))) (.loop rec)
   rwa[World.size_alloc]at this
  ·have e:b=w.heap.size+1:=by simpa[aE.cI]using hb
   subst e;simp
 obtain⟨C1,hC1⟩:∃C1:CC G,C1=⟨[],[(S.nx+1, .lp N ks vs ps.toList a b)],[]⟩::C:=⟨_,rfl⟩;have hob:my C1=(S.nx+1, .lp N ks vs ps.toList a b)::my C:=by rw[hC1];rfl
 have h4:Rl c N ρ3 J (.obj (w.heap.size+1) (.loop rec)::HK) X C1 ⟨S.F,(S.nx, .aux true)::S.O,S.nx+2,S.D⟩ ac W1:=by
  refine⟨hr.tm,?_,⟨hr.si.s.ext hs1,λ_ =>hro⟩,hr.fs.up (λ_ h=>h) l3,λy hy=>?_,λr o e=>?_,⟨.obj w.heap.size (.deferred (some []))::HS, .cons ⟨_,_,d3,rfl,rfl⟩ (q1.up (λ_ h=>h) l3),?_⟩,hr.kn,f3⟩
  ·have:dfC C1=dfC C:=by rw[hC1];rfl
   rw[this];exact hr.df.up (λ_ h=>h) l3
  ·rw[hC1]at hy
   rcases List.mem_cons.1 hy with rfl|hy
   ·exactλd v e=>by cases e
   ·exact hr.fc.up (λ_ h=>h) l3 y hy
  ·rw[hob]at e
   simp only[dm]at e;cases hb:Nat.beq (S.nx+1) r with
   |true=>rw[hb]at e;cases e;rw[← akf hb];exact⟨_,List.mem_cons_self,hLp⟩
   |false=>rw[hb]at e;obtain⟨y,k1,k2⟩:=hr.Oo (λ_ h=>h) l3 r o e;exact⟨y,akp _ k1,k2⟩
  ·refine hp1.j9 ?_
   have e1:(aE.obj w.heap.size (.deferred (some []))::HS)++((aE.obj (w.heap.size+1) (.loop rec)::HK)++X)=(aE.obj w.heap.size (.deferred (some []))::HS)++aE.obj (w.heap.size+1) (.loop rec)::(HK++X):=rfl;rw[e1];exact(List.perm_middle (l₁:=aE.obj w.heap.size (.deferred (some []))::HS) (a:=aE.obj (w.heap.size+1) (.loop rec)) (l₂:=HK++X)).symm
 have hv:rl J ρ3 (.cons (.yl (S.nx+1)) cap) (Value.func (.yield (w.heap.size+1)) #[] #[]::cs):=⟨_,_,rfl,⟨_,o3,rfl⟩,r3.ext l3⟩;have hU':US P fi.N [⟨[],my C1,[]⟩] (.code fi.code) ⟨wO 0 (.cons (.yl (S.nx+1)) cap),(S.nx, .aux true)::S.O,S.nx+2,[]⟩ S1 e1:=by rw[hob];exact hU
 have hrA:ED tt [⟨[],my C1,[]⟩] ⟨S1.F,O2,S1.nx,[]⟩ fi.Bq=some (.jc .nil):=by rw[hres];rfl
 have uF:=DH (tt:=tt) h4 Ir (show pb (.cons (.yl (S.nx+1)) cap)=true from hl) (show zD (.cons (.yl (S.nx+1)) cap)<=fi.N from hn) hv hU' hX rfl (.inr ⟨he,_,hrA⟩);obtain⟨fnk,f1,f2,f5⟩:=B0 Ir;have h1n:fnk.name≠ "runtime.NumGoroutine" :=by simpa using f5
 obtain⟨code,f2⟩:=Option.isSome_iff_exists.1 f2;refine⟨w.heap.size+1,[Go.Bw.mark w.heap.size],W1,{target:= .fn (.func k) cs.toArray,args:= #[.func (.yield (w.heap.size+1)) #[] #[]]},W1,k,
  (Value.func (.yield (w.heap.size+1)) #[] #[]::cs).toArray,W1,?_,?_,λ_ _ =>trivial,?_,λh=>by simp at h,?_⟩
 ·rw[← hW1,bJ];exact run_enterLoop_outer _ _ _ _ _
 ·simp only[resolve,e3]
  simp[go_sem]
 ·simp[invoke,callFunc,f1,h1n,f2,Go.mark]
 ·refine jN c.ro ?_
  intro cs';obtain⟨en,w3,fr,⟨ρ',J',Y,k1,k2,k3,k4⟩,rest⟩:=uF cs';refine⟨en,w3,fr,?_,rest⟩;rcases k4 with⟨v',u,p1,_⟩|⟨_,v',u,p1,rfl,p3⟩
  ·rcases he with he|he<;>rw[he]at p1<;>cases p1
  ·obtain⟨OA,p4,p5⟩:=k3.hp
   have NA:aE.obj (w.heap.size+1) (.loop rec)∈OA++((aE.obj (w.heap.size+1) (.loop rec)::HK)++(Y++X)):=by simp
   have hl3:w3.heap[w.heap.size+1]? =some (.loop rec):=p5.holds _ NA;have hpe:rec.pending=none:=by rw[bJ]
   have hend:(Instr.endLoop (w.heap.size+1)).run P w3= .ok none (w3.putObj (w.heap.size+1) (.loop {rec with state:= .exhausted})):=(run_endLoop (P:=P) hl3 (by rw[bJ];simp)).trans (by rw[hpe]);refine⟨none,_,hend,?_⟩;have k1:ρ3.to ρ' (S.nx+2):=k1;have tt':ρ.to ρ' S.nx:=t3.trans k1 (by omega);have hle:=tt'.le hr.fr;have hlt:=(akl.1 hl3).1;have jb:aQ [w.heap.size+1] w3 (w3.putObj (w.heap.size+1) (.loop {rec with state:= .exhausted})):=⟨rfl,rfl,rfl,by simp[World.putObj],λk _ hk=>World.putObj_heap_other (by simpa using hk)⟩;have q6:=(p5.j9 (List.perm_middle (a:=aE.obj (w.heap.size+1) (.loop rec)) (l₁:=OA) (l₂:=HK++(Y++X)))).set (k:=0) (r':= .obj (w.heap.size+1) (.loop {rec with state:= .exhausted})) rfl jb.size (λj hj hne=>jb.block j hj hne) (World.putObj_heap_same hlt) k3.si.s.size (λb' hb'=>by
    have e:b'=w.heap.size+1:=by simpa[aE.cI]using hb'
    subst e;exact⟨.inl (by simp[aE.cI]),by rw[World.putObj];simpa using hlt⟩)
   refine hq ρ' J' Y _ _ .normal tt' k2 trivial ⟨hr.tm,?_,⟨k3.si.s.store p5 NA (by simp[aE.cI]) jb,hr.si.n⟩,hr.fs.up k2 hle,hr.fc.up k2 hle,hr.Oo k2 hle,⟨OA,p4,q6.sub (List.Sublist.cons _ (List.Sublist.refl _))⟩,k3.kn,k3.fr⟩;exact .cons ⟨rfl,_,(k1 S.nx (by omega)).trans d3,rfl⟩ (hr.df.up k2 hle)
end Go.Rw
