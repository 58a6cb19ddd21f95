/- Part 1 of what a proof leans on; pruned and shortened by a program out of longer texts. -/
import Derived.RangeFuncNested
import Derived.RangeFuncBound
import Derived.RangeFuncCalls
import Derived.RangeFuncLeaves
import Derived.WalkKit
import Derived.TacticsIn
import Derived.KernelRfl
import Derived.OrdersIn
import Derived.Laws.AppendOwn
import Derived.Laws.StructEq
import Derived.Deep.Upon
import Derived.Laws.CopyRow
import Derived.ProofKit
import Derived.OpenShut
import Derived.ShutString
import Derived.ChangeOld
import Derived.Below
import Derived.Carry
import Derived.Deep.Slices
import Derived.ChangeKeysEq
import Derived.Laws.Cover3
import Derived.LoopNIn
import Derived.Great.BuildSlice
import Derived.Maps.RangeRun
import Derived.MapKept
import Derived.ArgAppend
import Derived.Laws.Pointers
import Derived.Lib.Tables
import Derived.RecoverIn
import Derived.Test.YtdoilgdknefccaaGreatDoorProg
import Derived.LaidMore
import Derived.ChangeMaps
import Derived.ChangeAnyMap
import Derived.Test.YtdoilgdknefccaaGreatDoorCards
import Derived.Stop.Joined
import Derived.SevenTiedAt
universe u
theorem aoU {c : Prop} {h : Decidable c} (hc : c) {α : Sort u} {t e : α} : ite c t e = t := if_pos hc
theorem aoV {c : Prop} {h : Decidable c} (hc : ¬c) {α : Sort u} {t e : α} : ite c t e = e := if_neg hc
theorem aoW {n m : Nat} (h : Nat.beq n m = true) : n = m := Nat.eq_of_beq_eq_true h
theorem aoX (a b : Bool) : ((a && b) = true) = (a = true ∧ b = true) := Bool.and_eq_true a b
theorem aoY {p : Prop} [inst : Decidable p] (h : p) : decide p = true := decide_eq_true h
theorem aoZ (n : Nat) : ((n : Int)).toNat = n := Int.toNat_natCast n
theorem ao0 {α : Type u} {a : α} (l : List α) {m : List α} (h : a ∈ m) : a ∈ l ++ m := List.mem_append_right l h
theorem ao1 {α : Type u} {a : α} {l : List α} (m : List α) (h : a ∈ l) : a ∈ l ++ m := List.mem_append_left m h
theorem ao2 {α : Type u} {b : α} {xs : Array α} {i : Nat} : xs[i]? = some b ↔ ∃ h : i < xs.size, xs[i] = b := Array.getElem?_eq_some_iff
theorem ao3 {α : Type u} {l : List α} {i : Nat} (h : i < l.length) : l[i]? = some l[i] := List.getElem?_eq_getElem h
theorem ao4 {α : Type u} {i : Nat} {l : List α} (h : i < l.length) : l.take (i + 1) = l.take i ++ [l[i]] := List.take_succ_eq_append_getElem h
theorem ao5 {p : Prop} [inst : Decidable p] (h : ¬p) : decide p = false := decide_eq_false h
theorem ao6 {α : Type u} (y : α) {a : α} {l : List α} (h : a ∈ l) : a ∈ y :: l := List.mem_cons_of_mem y h
namespace Go.Bw
open Go Go.RowKit
abbrev FA(ro:Option Nat):Fence:={fn:=λ_ =>True,depth:=none,alive:=false,round:=ro}
abbrev gp:=List (Nat×Value)
def lk:gp->Nat->Option Value
 |[],_ =>none
 |(k,v)::r,d=>bif Nat.beq k d then some v else lk r d
def ev(F:gp):Operand->Option Value
 | .tmp t=>lk F t
 | .const v=>some v
 | .global g=>some (.pointer (some ⟨g,0,none⟩))
 | .func f=>some (.func (.func f) #[] #[])
def Bg(F:gp)(t:Array Value):Prop:=∀d v,lk F d=some v->t[d]? =some v
theorem bz{F:gp}{a:Act}(h:Bg F a.tmps){x:Operand}{v:Value}(hx:ev F x=some v):a.eval x=v:=by
 cases x with
 |tmp t=>have:=h t v hx;simp[Act.eval,this]
 |const u=>exact Option.some.inj hx
 |global g=>exact Option.some.inj hx
 |func f=>exact Option.some.inj hx
def I2(F:gp):List Operand->Option (List Value)
 |[]=>some []
 |x::r=>match ev F x,I2 F r with
  |some v,some vs=>some (v::vs)
  |_,_ =>none
theorem Pn{F:gp}{a:Act}(h:Bg F a.tmps):∀{l:List Operand} {vs:List Value},I2 F l=some vs->l.map a.eval=vs:=by
 intro l
 induction l with
 |nil=>intro vs hl;exact(Option.some.inj hl)
 |cons x l ih=>
  intro vs hl;simp only[I2]at hl;split at hl
  ·rename_i v us h1 h2
   rw[← Option.some.inj hl];simp[bz h h1,ih h2]
  ·cases hl
theorem xD{d k:Nat}(e:¬d=k):Nat.beq d k=false:=by
 cases hb:Nat.beq d k with
 |false=>rfl
 |true=>exact absurd (aoW hb) e
def pt(d:Option Tmp)(v:Value)(F:gp):gp:=match d with
 |some d=>(d,v)::F
 |none=>F
def dOk(N:Nat)(d:Option Tmp):Bool:=match d with
 |some d=>Nat.blt d N
 |none=>true
theorem Bg.put{F:gp}{a:Act}{d:Option Tmp}{v:Value}{N:Nat}(h:Bg F a.tmps)(hs:a.tmps.size=N)(hd:dOk N d=true):
  Bg (pt d v F) (a.put d v).tmps:=by
 cases d with
 |none=>exact h
 |some d=>
  intro k u hk;simp only[pt,lk]at hk;have hd':d<a.tmps.size:=by simpa[dOk,hs,Nat.blt_eq]using hd
  by_cases e:d=k
  ·subst e
   simp at hk;subst hk;simp[Act.put,hd']
  ·have:Nat.beq d k=false:=xD e
   rw[this]at hk;simp only[cond_false]at hk;simp only[Act.put,Array.getElem?_setIfInBounds,aoV e];exact h k u hk
theorem Bg.sub{F F':gp}{t:Array Value}(h:Bg F t)(hs:∀d v,lk F' d=some v->lk F d=some v):Bg F' t:=λd v hk=>h d v (hs d v hk)
def Sub:gp->gp->Prop
 |[],_ =>True
 |p::r,F=>lk F p.1=some p.2/\Sub r F
structure bG(bs:List Nat)(w0 w:World):Prop where
 os:w.os=w0.os
 tape:w.tape=w0.tape
 output:w.output=w0.output
 size:w0.heap.size<=w.heap.size
 block:∀k,k<w0.heap.size->k∉bs->w.heap[k]? =w0.heap[k]?
theorem bG.refl(bs:List Nat)(w:World):bG bs w w:=⟨rfl,rfl,rfl,Nat.le_refl _,λ_ _ _ =>rfl⟩
theorem bG.trans{bs bs':List Nat}{w0 w w':World}(h:bG bs w0 w)(k:bG bs' w w')(hb:∀b∈bs',b∈bs\/w0.heap.size<=b):bG bs w0 w':=
 ⟨k.os.trans h.os,k.tape.trans h.tape,k.output.trans h.output,Nat.le_trans h.size k.size,
  λi hi hn=>(k.block i (Nat.lt_of_lt_of_le hi h.size) (λhm=>by
   rcases hb i hm with h1|h1
   ·exact hn h1
   ·omega)).trans (h.block i hi hn)⟩
theorem bG.ext{bs:List Nat}{w0 w w':World}(h:bG bs w0 w)(k:bG [] w w'):bG bs w0 w':=h.trans k (λ_ hb=>by cases hb)
theorem bG.BY{w w':World}{row:Option Nat}(h:w.grownBy w' row):bG row.toList w w':=
 ⟨h.os,h.tape,h.output,h.size,λk hk hn=>h.block k hk (λe=>hn (by rw[← e];simp))⟩
theorem bG.alloc(w:World)(o:Obj):bG [] w (w.alloc o):=⟨rfl,rfl,rfl,by simp,λk hk _ =>Below.heap_alloc w o k hk⟩
theorem bG.drawn{w0 w:World}{bs:List Nat}(h:bG bs w0 w)(n:Nat):bG bs w0 {w with drawn:=n}:=⟨h.os,h.tape,h.output,h.size,h.block⟩
def Ro(w:World)(v:Value)(sz n:Nat)(xs:List Value):Prop:=xs.length=n*sz/\(((∃a cp,v= .slice a 0 cp)/\n=0)\/∃g off cap,v= .slice (some ⟨g,off,none⟩) n cap/\g<w.heap.size/\n<=cap/\∀(j:Nat) u,xs[j]? =some u->w.cell? ⟨g,off+j,none⟩=some u)
inductive aO where
 |cells (b:Nat) (t:TypeId) (cs:List Value)
 |row (v:Value) (e:TypeId) (sz:Nat) (n:Nat) (xs:List Value)
 |obj (b:Nat) (o:Obj)
 |sl (v:Value) (sz n:Nat) (xs:List Value)
 |ext (bs:List Nat) (J:World->Prop)
def aO.eL:aO->List Nat
 | .cells b _ _ =>[b]
 | .row v _ _ _ _ =>v.ownBlock.toList
 | .obj b _ =>[b]
 | .sl v _ _ _ =>v.ownBlock.toList
 | .ext bs _ =>bs
def aO.holds(w:World):aO->Prop
 | .cells b t cs=>w.heap[b]? =some (.cells cs.toArray t (0,0))
 | .row v e sz n xs=>w.ownsRow 0 e sz v n xs
 | .obj b o=>w.heap[b]? =some o
 | .sl v sz n xs=>Ro w v sz n xs
 | .ext bs J=>∀w':World,w.heap.size<=w'.heap.size->(∀b∈bs,w'.heap[b]? =w.heap[b]?)->J w'
def aO.apart(r s:aO):Prop:=∀b,b∈r.eL->b∉s.eL
theorem aO.xF{r s:aO}(h:r.apart s):s.apart r:=λb hs hr=>h b hr hs
theorem OD{w w':World}{base:Nat}{e:TypeId}{sz:Nat}{v:Value}{n:Nat}{xs:List Value}(h:w.ownsRow base e sz v n xs)
  (hb:∀b,v.ownBlock=some b->w'.heap[b]? =w.heap[b]?):w'.ownsRow base e sz v n xs:=by
 refine⟨h.1,?_⟩;rcases h.2 with hn|⟨g,cap,cur,rfl,hbg,P1,rest⟩
 ·exact .inl hn
 ·exact .inr ⟨g,cap,cur,rfl,hbg,(hb g rfl).trans P1,rest⟩
theorem Ro.cQ{w w':World}{v:Value}{sz n:Nat}{xs:List Value}(h:Ro w v sz n xs)(hs:w.heap.size<=w'.heap.size)(hb:∀b,v.ownBlock=some b->w'.heap[b]? =w.heap[b]?):Ro w' v sz n xs:=by
 refine⟨h.1,?_⟩;rcases h.2 with h0|⟨g,off,cap,rfl,h2,h3,h4⟩
 ·exact .inl h0
 ·exact .inr ⟨g,off,cap,rfl,Nat.lt_of_lt_of_le h2 hs,h3,λj u hu=>(World.cell?_of_block (hb g rfl)).trans (h4 j u hu)⟩
theorem aO.om{w w':World}{r:aO}(h:r.holds w)(hs:w.heap.size<=w'.heap.size)(hb:∀b,b∈r.eL->w'.heap[b]? =w.heap[b]?):r.holds w':=by
 cases r with
 |cells b t cs=>exact(hb b (by simp[aO.eL])).trans h
 |row v e sz n xs=>exact OD h λb hv=>hb b (by simp[aO.eL,hv])
 |obj b o=>exact(hb b (by simp[aO.eL])).trans h
 |sl v sz n xs=>exact Ro.cQ h hs λb hv=>hb b (by simp[aO.eL,hv])
 |ext bs J=>exactλw2 h1 h2=>h w2 (Nat.le_trans hs h1) λb hm=>(h2 b hm).trans (hb b hm)
structure cC(bs:List Nat)(n0:Nat)(H:List aO)(w:World):Prop where
 holds:∀r∈H,r.holds w
 own:∀r∈H,∀b,b∈r.eL->(b∈bs\/n0<=b)/\b<w.heap.size
 apart:H.Pairwise aO.apart
theorem cC.nil(bs:List Nat)(n0:Nat)(w:World):cC bs n0 [] w:=⟨by simp,by simp, .nil⟩
theorem cC.cQ{bs bs':List Nat}{n0 n0':Nat}{H:List aO}{w w':World}(h:cC bs n0 H w)(hs:w.heap.size<=w'.heap.size)
  (hb:∀r∈H,∀b,b∈r.eL->w'.heap[b]? =w.heap[b]?)(hw:∀b,(b∈bs\/n0<=b)->b<w.heap.size->(b∈bs'\/n0'<=b)):cC bs' n0' H w':=
 ⟨λr hr=>aO.om (h.holds r hr) hs (hb r hr),λr hr b hb'=>let⟨o,l⟩:=h.own r hr b hb';⟨hw b o l,Nat.lt_of_lt_of_le l hs⟩,h.apart⟩
theorem cC.ext{bs:List Nat}{n0:Nat}{H:List aO}{w w':World}(h:cC bs n0 H w)(hs:bG [] w w'):cC bs n0 H w':=
 h.cQ hs.size (λr hr b hb=>hs.block b (h.own r hr b hb).2 (by simp)) (λ_ o _ =>o)
theorem cC.cons{bs:List Nat}{n0:Nat}{H:List aO}{w:World}{r:aO}(h:cC bs n0 H w)(hr:r.holds w)
  (ho:∀b,b∈r.eL->(b∈bs\/n0<=b)/\b<w.heap.size)(ha:∀s∈H,r.apart s):cC bs n0 (r::H) w:=
 ⟨λs hs=>by cases hs with|head=>exact hr|tail _ hm=>exact h.holds s hm,
  λs hs=>by cases hs with|head=>exact ho|tail _ hm=>exact h.own s hm,
  .cons ha h.apart⟩
theorem cC.fresh{bs:List Nat}{n0:Nat}{H:List aO}{w w':World}{r:aO}(h:cC bs n0 H w)(hs:bG [] w w')(hr:r.holds w')
  (hn:n0<=w.heap.size)(ho:∀b,b∈r.eL->w.heap.size<=b/\b<w'.heap.size):cC bs n0 (r::H) w':=
 (h.ext hs).cons hr (λb hb=>⟨.inr (Nat.le_trans hn (ho b hb).1),(ho b hb).2⟩)
  (λs hm b hb Vf=>by have:=(h.own s hm b Vf).2;have:=(ho b hb).1;omega)
theorem cC.sub{bs:List Nat}{n0:Nat}{H H':List aO}{w:World}(h:cC bs n0 H w)(hs:H'.Sublist H):cC bs n0 H' w:=
 ⟨λr hr=>h.holds r (hs.subset hr),λr hr=>h.own r (hs.subset hr),h.apart.sublist hs⟩
theorem cC.qf{bs:List Nat}{n0:Nat}{H H':List aO}{w:World}(h:cC bs n0 H w)(hs:H.Perm H'):cC bs n0 H' w:=
 ⟨λr hr=>h.holds r (hs.mem_iff.2 hr),λr hr=>h.own r (hs.mem_iff.2 hr),(hs.pairwise_iff (λhrs=>aO.xF hrs)).1 h.apart⟩
theorem sN{H:List aO}(h:H.Pairwise aO.apart){j k:Nat}{r s:aO}(hj:H[j]? =some r)(hk:H[k]? =some s)(hne:j≠k):r.apart s:=by
 obtain⟨lj,rfl⟩:=List.getElem?_eq_some_iff.1 hj;obtain⟨lk,rfl⟩:=List.getElem?_eq_some_iff.1 hk;rcases Nat.lt_or_ge j k with hlt|hge
 ·exact List.pairwise_iff_getElem.1 h j k lj lk hlt
 ·exact aO.xF (List.pairwise_iff_getElem.1 h k j lk lj (by omega))
theorem cC.set{bs:List Nat}{n0:Nat}{H:List aO}{w w':World}(h:cC bs n0 H w){k:Nat}{r r':aO}(hk:H[k]? =some r)
  (hs:w.heap.size<=w'.heap.size)(hb:∀j,j<w.heap.size->j∉r.eL->w'.heap[j]? =w.heap[j]?)(hr:r'.holds w')(hn:n0<=w.heap.size)
  (ho:∀b,b∈r'.eL->(b∈r.eL\/w.heap.size<=b)/\b<w'.heap.size):cC bs n0 (H.set k r') w':=by
 have hmem:r∈H:=List.mem_of_getElem? hk;refine⟨λs hm=>?_,λs hm b qJ=>?_,?_⟩
 ·obtain⟨j,hj⟩:=List.mem_iff_getElem?.1 hm
  rw[List.getElem?_set]at hj;by_cases e:k=j
  ·subst e
   have hl:=(List.getElem?_eq_some_iff.1 hk).1;simp[hl]at hj;subst hj;exact hr
  ·simp[e]at hj
   refine aO.om (h.holds s (List.mem_of_getElem? hj)) hs (λb hbb=>hb b (h.own s (List.mem_of_getElem? hj) b hbb).2 (λhrb=>?_));exact sN h.apart hk hj e b hrb hbb
 ·obtain⟨j,hj⟩:=List.mem_iff_getElem?.1 hm
  rw[List.getElem?_set]at hj;by_cases e:k=j
  ·subst e
   have hl:=(List.getElem?_eq_some_iff.1 hk).1;simp[hl]at hj;subst hj;obtain⟨h1,h2⟩:=ho b qJ;refine⟨?_,h2⟩;rcases h1 with h1|h1
   ·exact(h.own r hmem b h1).1
   ·exact .inr (Nat.le_trans hn h1)
  ·simp[e]at hj
   obtain⟨h1,h2⟩:=h.own s (List.mem_of_getElem? hj) b qJ;exact⟨h1,Nat.lt_of_lt_of_le h2 hs⟩
 ·rw[List.pairwise_iff_getElem]
  intro i j hi hj hij;have hl:=(List.getElem?_eq_some_iff.1 hk).1;have key:∀j s,H[j]? =some s->k≠j->r'.apart s:=λj s hjs hne b hrb Vf=>by
   have h2:=(h.own s (List.mem_of_getElem? hjs) b Vf).2;rcases(ho b hrb).1 with h1|h1
   ·exact sN h.apart hk hjs hne b h1 Vf
   ·omega
  rw[List.length_set]at hi hj;rw[List.getElem_set,List.getElem_set];by_cases e1:k=i
  ·rw[aoU e1,aoV (by omega)]
   exact key j _ (ao3 hj) (by omega)
  ·rw[aoV e1]
   by_cases e2:k=j
   ·rw[aoU e2]
    exact aO.xF (key i _ (ao3 hi) (by omega))
   ·rw[aoV e2]
    exact List.pairwise_iff_getElem.1 h.apart i j hi hj hij
theorem cC.MD{bs:List Nat}{n0:Nat}{H:List aO}{w:World}(h:cC bs n0 H w){k:Nat}{r r':aO}(hk:H[k]? =some r)(hr:∀w:World,r.holds w->r'.holds w)(hb:∀b,b∈r'.eL->b∈r.eL):cC bs n0 (H.set k r') w:=by
 have hmem:r∈H:=List.mem_of_getElem? hk;have hl:=(List.getElem?_eq_some_iff.1 hk).1;have get:∀s∈H.set k r',(s=r'\/∃j,j≠k/\H[j]? =some s):=λs hs=>by
  obtain⟨j,hj⟩:=List.mem_iff_getElem?.1 hs;rw[List.getElem?_set]at hj;by_cases e:k=j
  ·subst e;simp[hl]at hj;exact .inl hj.symm
  ·simp[e]at hj;exact .inr ⟨j,Ne.symm e,hj⟩
 refine⟨λs hs=>?_,λs hs b qJ=>?_,?_⟩
 ·rcases get s hs with rfl|⟨j,_,hj⟩
  ·exact hr w (h.holds r hmem)
  ·exact h.holds s (List.mem_of_getElem? hj)
 ·rcases get s hs with rfl|⟨j,_,hj⟩
  ·exact h.own r hmem b (hb b qJ)
  ·exact h.own s (List.mem_of_getElem? hj) b qJ
 ·rw[List.pairwise_iff_getElem]
  intro i j hi hj hij;rw[List.length_set]at hi hj;rw[List.getElem_set,List.getElem_set];by_cases e1:k=i
  ·rw[aoU e1,aoV (by omega)]
   exactλb hb1 Mh=>sN h.apart hk (ao3 hj) (by omega) b (hb b hb1) Mh
  ·rw[aoV e1]
   by_cases e2:k=j
   ·rw[aoU e2]
    exactλb hb1 Mh=>sN h.apart (ao3 hi) hk (by omega) b hb1 (hb b Mh)
   ·rw[aoV e2]
    exact List.pairwise_iff_getElem.1 h.apart i j hi hj hij
def pick(H:List aO):List Nat->Option (List aO)
 |[]=>some []
 |k::ks=>match H[k]?,pick H ks with
  |some r,some l=>some (r::l)
  |_,_ =>none
theorem FM{H:List aO}:∀{ks:List Nat} {l:List aO},pick H ks=some l->∀(j:Nat) (r:aO),l[j]? =some r->∃k:Nat,ks[j]? =some k/\H[k]? =some r:=by
 intro ks
 induction ks with
 |nil=>intro l h j r hj;simp[pick]at h;subst h;simp at hj
 |cons k ks ih=>
  intro l h j r hj;simp only[pick]at h;split at h
  ·rename_i r0 l0 h1 h2
   simp at h;subst h;cases j with
   |zero=>simp at hj;subst hj;exact⟨k,rfl,h1⟩
   |succ j=>obtain⟨k',e1,e2⟩:=ih h2 j r (by simpa using hj);exact⟨k',by simpa using e1,e2⟩
  ·cases h
theorem cC.pick{bs:List Nat}{n0:Nat}{H l:List aO}{w:World}(h:cC bs n0 H w){ks:List Nat}(hp:pick H ks=some l)(hn:ks.Nodup):cC bs n0 l w:=by
 refine⟨λr hr=>?_,λr hr=>?_,?_⟩
 ·obtain⟨j,hj⟩:=List.mem_iff_getElem?.1 hr
  obtain⟨k,_,e⟩:=FM hp j r hj;exact h.holds r (List.mem_of_getElem? e)
 ·obtain⟨j,hj⟩:=List.mem_iff_getElem?.1 hr
  obtain⟨k,_,e⟩:=FM hp j r hj;exact h.own r (List.mem_of_getElem? e)
 ·rw[List.pairwise_iff_getElem]
  intro i j hi hj hij;obtain⟨k1,e1,f1⟩:=FM hp i _ (ao3 hi);obtain⟨k2,e2,f2⟩:=FM hp j _ (ao3 hj);refine sN h.apart f1 f2 (λe=>?_);subst e;obtain⟨l1,q1⟩:=List.getElem?_eq_some_iff.1 e1;obtain⟨l2,q2⟩:=List.getElem?_eq_some_iff.1 e2;exact absurd (q1.trans q2.symm) (by
   intro hq;exact(List.pairwise_iff_getElem.1 hn i j l1 l2 hij) hq)
structure Cx where
 ro:Option Nat
 w0:World
 bs:List Nat
structure St(N:Nat)(c:Cx)(D:List Deferred)(F:gp)(H:List aO)(a:Act)(w:World):Prop where
 tm:a.tmps.size=N
 fr:Bg F a.tmps
 df:a.defers=D
 si:bG c.bs c.w0 w
 hp:cC c.bs c.w0.heap.size H w
theorem St.sub{N:Nat}{c:Cx}{D:List Deferred}{F F':gp}{H:List aO}{a:Act}{w:World}(h:St N c D F H a w)(hs:∀d v,lk F' d=some v->lk F d=some v):St N c D F' H a w:=
 ⟨h.tm,h.fr.sub hs,h.df,h.si,h.hp⟩
theorem St.put{N:Nat}{c:Cx}{D:List Deferred}{F:gp}{H H':List aO}{a:Act}{w w':World}{d:Option Tmp}{v:Value}(h:St N c D F H a w)(hd:dOk N d=true)
  (hs:bG c.bs c.w0 w')(hp:cC c.bs c.w0.heap.size H' w'):St N c D (pt d v F) H' (a.put d v) w':=by
 refine⟨?_,h.fr.put h.tm hd,?_,hs,hp⟩
 ·cases d<;>simp[Act.put,h.tm]
 ·cases d<;>simp[Act.put,h.df]
def WP(P:Program)(N:Nat)(c:Cx)(D:List Deferred)(code:Code)(Q:Exit->Act->World->Prop)(F:gp)(H:List aO):Prop:=∀a w,St N c D F H a w->code.wpIn (FA c.ro) 0 P Q a w
def WQ(N:Nat)(c:Cx)(D:List Deferred)(Q:Exit->Act->World->Prop)(e:Exit)(F:gp)(H:List aO):Prop:=∀a w,St N c D F H a w->Q e a w
def WL(P:Program)(N:Nat)(c:Cx)(D:List Deferred)(ops:Array Oper)(Q:Exit->Act->World->Prop)(l:List Oper)(F:gp)(H:List aO):Prop:=∀a w,St N c D F H a w->wpListIn (FA c.ro) 0 P ops Q l a w
def VS(P:Program)(N:Nat)(c:Cx)(o:Oper)(F:gp)(H:List aO)(v:Value):Prop:=∀D a w next Q,St N c D F H a w->(∀w',bG [] w w'->next (a.put o.dst v) w')->o.wpIn (FA c.ro) 0 P a w next Q
def RX{α:Type}(P:Program)(N:Nat)(c:Cx)(o:Oper)(F:gp)(H:List aO)(p:α->Prop)(fv:α->Value)(fH:α->List aO):Prop:=∀D a w next Q,St N c D F H a w->(∀x w',p x->bG c.bs c.w0 w'->cC c.bs c.w0.heap.size (fH x) w'->next (a.put o.dst (fv x)) w')->o.wpIn (FA c.ro) 0 P a w next Q
theorem gS{P:Program}{c:Cx}{o:Oper}{a:Act}{w w':World}{v:Value}{next:Act->World->Prop}{Q:Exit->Act->World->Prop}(hd:∀cc,o.op≠ .defer cc)
  (hr:(execOp a.eval o).run P w= .ok (.value v) w')(hk:next (a.put o.dst v) w'):o.wpIn (FA c.ro) 0 P a w next Q:=by
 refine⟨λ_ _ =>trivial,?_⟩;have:Oper.semAt (FA c.ro).round a.eval o=execOp a.eval o:=Oper.semAt_eq _ _ _ hd;rw[this,hr];exact hk
theorem tK{P:Program}{c:Cx}{o:Oper}{a:Act}{w w':World}{next:Act->World->Prop}{Q:Exit->Act->World->Prop}(hd:∀cc,o.op≠ .defer cc)
  (hr:(execOp a.eval o).run P w= .ok .skip w')(hk:next (a.put o.dst undef) w'):o.wpIn (FA c.ro) 0 P a w next Q:=by
 refine⟨λ_ _ =>trivial,?_⟩;have:Oper.semAt (FA c.ro).round a.eval o=execOp a.eval o:=Oper.semAt_eq _ _ _ hd;rw[this,hr];exact hk
theorem bp{P:Program}{N:Nat}{c:Cx}{o:Oper}{F:gp}{H:List aO}{v:Value}(hd:∀cc,o.op≠ .defer cc)
  (h:∀(a:Act) (w:World),Bg F a.tmps->bG c.bs c.w0 w->cC c.bs c.w0.heap.size H w->(execOp a.eval o).run P w= .ok (.value v) w):VS P N c o F H v:=
 λ_ a w _ _ hst hk=>gS hd (h a w hst.fr hst.si hst.hp) (hk w (bG.refl _ _))
section lists
variable {P:Program} {N:Nat} {c:Cx} {D:List Deferred} {ops:Array Oper} {Q:Exit->Act->World->Prop} {o:Oper} {rest:List Oper} {F:gp} {H:List aO}
 {d:Tmp} {op:Op} {ty:TypeId} {ps:String} {af:Array Edge} {g:Option (Nat×Bool)}
theorem Ap(h:WQ N c D Q .normal F H):WL P N c D ops Q [] F H:=λa w hst=>h a w hst
theorem cJ{v:Value}(hd:Nat.blt d N=true)(hv:VS P N c ⟨some d,op,ty,ps,af,none⟩ F H v)(h:WL P N c D ops Q rest ((d,v)::F) H):WL P N c D ops Q (⟨some d,op,ty,ps,af,none⟩::rest) F H:=
 λa w hst=>wpListIn_plain rfl λK hK=>hv D a w K Q hst λ_ hw=>hK _ _ (h _ _ (hst.put (d:=some d) hd (hst.si.ext hw) (hst.hp.ext hw)))
theorem zh{α:Type}{p:α->Prop}{fv:α->Value}{fH:α->List aO}(hd:Nat.blt d N=true)(hv:RX P N c ⟨some d,op,ty,ps,af,none⟩ F H p fv fH)
  (h:∀x,p x->WL P N c D ops Q rest ((d,fv x)::F) (fH x)):WL P N c D ops Q (⟨some d,op,ty,ps,af,none⟩::rest) F H:=
 λa w hst=>wpListIn_plain rfl λK hK=>hv D a w K Q hst λx _ hp hs hh=>hK _ _ (h x hp _ _ (hst.put (d:=some d) hd hs hh))
theorem I8{α:Type}{p:α->Prop}{fv:α->Value}{fH:α->List aO}(hv:RX P N c ⟨none,op,ty,ps,af,none⟩ F H p fv fH)
  (h:∀x,p x->WL P N c D ops Q rest F (fH x)):WL P N c D ops Q (⟨none,op,ty,ps,af,none⟩::rest) F H:=
 λa w hst=>wpListIn_plain rfl λK hK=>hv D a w K Q hst λx _ hp hs hh=>hK _ _ (h x hp _ _ (hst.put (d:=none) rfl hs hh))
def gd(ops:Array Oper)(F:gp):Option (Nat×Bool)->Option Bool
 |none=>none
 |some (j,want)=>match((ops[j]?).bind (·.dst)).bind (lk F)with
  |some (.bool b)=>some (b==want)
  |_ =>none
def Gd(ops:Array Oper)(F:gp)(g:Option (Nat×Bool))(B:Bool):Prop:=∀(o:Oper) (a:Act),o.guard=g->Bg F a.tmps->Region.wanted o (yielded ops a.tmps)=B
theorem R9{a:Act}{j:Nat}{k:Tmp}{v:Value}(hf:Bg F a.tmps)(hd:(ops[j]?).bind (·.dst)=some k)(hl:lk F k=some v):yielded ops a.tmps j=match v with| .bool b=>some b|_ =>none:=by
 have h1:=hf _ _ hl;cases ho:ops[j]? with
 |none=>simp[ho]at hd
 |some oj=>simp[ho]at hd;cases v<;>simp[yielded,ho,hd,h1]
theorem acu{j:Nat}{want b:Bool}{k:Tmp}(hd:(ops[j]?).bind (·.dst)=some k)(hl:lk F k=some (.bool b)):Gd ops F (some (j,want)) (b==want):=λo a hg hf=>by simp only[Region.wanted,hg,R9 hf hd hl];cases b<;>cases want<;>rfl
theorem Pz(hg:Gd ops F g false)(hd:Nat.blt d N=true)(h:WL P N c D ops Q rest ((d,undef)::F) H):WL P N c D ops Q (⟨some d,op,ty,ps,af,g⟩::rest) F H:=by intro a w hst;simp only[wpListIn,hg ⟨some d,op,ty,ps,af,g⟩ a rfl hst.fr];exact⟨λ_ _ =>trivial,h _ _ (hst.put (d:=some d) hd hst.si hst.hp)⟩
theorem aop{b:Bool}{v:Value}(hg:Gd ops F g b)(hd:Nat.blt d N=true)(hv:b=true->VS P N c ⟨some d,op,ty,ps,af,g⟩ F H v)
  (h:WL P N c D ops Q rest ((d,bif b then v else undef)::F) H):WL P N c D ops Q (⟨some d,op,ty,ps,af,g⟩::rest) F H:=by
 cases b with
 |false=>exact Pz hg hd h
 |true=>intro a w hst;simp only[wpListIn,hg ⟨some d,op,ty,ps,af,g⟩ a rfl hst.fr,if_true];exact hv rfl D a w _ Q hst λw' hw=>h _ _ (hst.put (d:=some d) hd (hst.si.ext hw) (hst.hp.ext hw))
theorem Pd{x:Operand}{t:Bool}{v:Value}(h:ev F x=some (bif t then v else undef))(ht:t=true):ev F x=some v:=by subst ht;exact h
theorem aiE{l:List Oper}{H':List aO}(hH:∀bs n0 w,cC bs n0 H w->cC bs n0 H' w)(h:WL P N c D ops Q l F H'):WL P N c D ops Q l F H:=λa w hst=>h a w ⟨hst.tm,hst.fr,hst.df,hst.si,hH _ _ _ hst.hp⟩
end lists
section code
variable {P:Program} {N:Nat} {c:Cx} {D:List Deferred} {Q:Exit->Act->World->Prop} {F:gp} {H:List aO}
theorem Ao{x y:Code}(h:WP P N c D x (Exit.then (y.wpIn (FA c.ro) 0 P Q) Q) F H):WP P N c D (.seq x y) Q F H:=λa w hst=>wpIn_seq (h a w hst)
theorem abV{id:Nat}{x:Code}(h:WP P N c D x (Exit.inBlock id Q) F H):WP P N c D (.block id x) Q F H:=λa w hst=>wpIn_block (h a w hst)
theorem J8(h:WQ N c D Q .normal F H):WP P N c D .skip Q F H:=λa w hst=>wpIn_skip (h a w hst)
theorem abT{l:Nat}(h:WQ N c D Q .normal F H):WP P N c D (.label l) Q F H:=λa w hst=>wpIn_label (h a w hst)
theorem aiB(h:WQ N c D Q .ret F H):WP P N c D .ret Q F H:=λa w hst=>wpIn_ret (h a w hst)
theorem aeK{id:Nat}(h:WQ N c D Q (.exit id) F H):WP P N c D (.exit id) Q F H:=λa w hst=>wpIn_exit (h a w hst)
theorem rI{id:Nat}{l:List Oper}(h:WL P N c D l.toArray Q l F H):WP P N c D (.region id l.toArray false) Q F H:=λa w hst=>wpIn_region_lit (h a w hst)
theorem aeI{x:Operand}{y z:Code}(hc:ev F x=some (.bool true))(h:WP P N c D y Q F H):WP P N c D (.cond x y z) Q F H:=
 λa w hst=>wpIn_cond_true (bz hst.fr hc) (h a w hst)
theorem abU{x:Operand}{y z:Code}(hc:ev F x=some (.bool false))(h:WP P N c D z Q F H):WP P N c D (.cond x y z) Q F H:=
 λa w hst=>wpIn_cond_false (bz hst.fr hc) (h a w hst)
theorem aiC{x:Code}{H':List aO}(hH:∀bs n0 w,cC bs n0 H w->cC bs n0 H' w)(h:WP P N c D x Q F H'):WP P N c D x Q F H:=λa w hst=>h a w ⟨hst.tm,hst.fr,hst.df,hst.si,hH _ _ _ hst.hp⟩
theorem abN{e:Exit}{H':List aO}(hH:∀bs n0 w,cC bs n0 H w->cC bs n0 H' w)(h:WQ N c D Q e F H'):WQ N c D Q e F H:=λa w hst=>h a w ⟨hst.tm,hst.fr,hst.df,hst.si,hH _ _ _ hst.hp⟩
class BP(t:Bool)(p:outParam Prop):Prop where
 iff:t=true↔p
theorem wm{y:Code}(h:WP P N c D y Q F H):WQ N c D (Exit.then (y.wpIn (FA c.ro) 0 P Q) Q) .normal F H:=h
theorem I7{K:Act->World->Prop}(h:WQ N c D Q .ret F H):WQ N c D (Exit.then K Q) .ret F H:=h
theorem Gg{K:Act->World->Prop}{id:Nat}(h:WQ N c D Q (.exit id) F H):WQ N c D (Exit.then K Q) (.exit id) F H:=h
theorem abQ{id:Nat}(h:WQ N c D Q .normal F H):WQ N c D (Exit.inBlock id Q) .normal F H:=h
theorem Px{id:Nat}(h:WQ N c D Q .ret F H):WQ N c D (Exit.inBlock id Q) .ret F H:=h
theorem MO{id:Nat}(h:WQ N c D Q .normal F H):WQ N c D (Exit.inBlock id Q) (.exit id) F H:=λa w hst=>by simpa[Exit.inBlock]using h a w hst
theorem MN{id k:Nat}(hne:Nat.beq k id=false)(h:WQ N c D Q (.exit k) F H):WQ N c D (Exit.inBlock id Q) (.exit k) F H:=λa w hst=>by
 have:¬k=id:=λe=>by rw[e,Nat.beq_refl]at hne;cases hne
 simpa[Exit.inBlock,this]using h a w hst
theorem aiD{α:Type}{x y:Code}(I:α->gp)(J:α->List aO)(p:α->Prop)
  (h1:WP P N c D x (Exit.then (λa w=>∃i,p i/\St N c D (I i) (J i) a w) Q) F H)(h2:∀i,p i->WP P N c D y Q (I i) (J i)):WP P N c D (.seq x y) Q F H:=
 λ_ _ hst=>wpIn_seq (wpIn_mono (h1 _ _ hst) λe a' w' hq=>by
  cases e with
  |normal=>obtain⟨i,hp,hs⟩:=hq;exact h2 i hp a' w' hs
  |_ =>exact hq)
theorem abS{α:Type}{x:Code}(I:α->gp)(J:α->List aO)(p:α->Prop)(μ:α->Nat)(i0:α)(W8:p i0)
  (hbody:∀i,p i->WP P N c D x (Exit.then (λa w=>∃i',μ i'<μ i/\p i'/\St N c D (I i') (J i') a w) Q) (I i) (J i)):WP P N c D (.loop x) Q (I i0) (J i0):=by
 intro a w hst b k cs hro hb hr;have key:∀j i,μ i=j->p i->∀a w,St N c D (I i) (J i) a w->
   ∃e a' w',Q e a' w'/\ArrivesIn (Machine.fenced P (FA c.ro)) P (lone (b.atR a (.code x:: .inLoop x::k)) cs w) b k cs e a' w':=by
  intro j
  induction j using Nat.strongRecOn with
  |_ j ih=>
   intro i hi hp a w hst;obtain⟨e,a₁,w₁,hq,B9⟩:=hbody i hp a w hst b (.inLoop x::k) cs hro hb hr;cases e with
   |normal=>obtain⟨i',hlt,hp',ahn⟩:=hq;obtain⟨e₂,a₂,w₂,hq₂,aaM⟩:=ih (μ i') (hi▸hlt) i' rfl hp' a₁ w₁ ahn;exact⟨e₂,a₂,w₂,hq₂, .of_steps (StepsIn.trans B9 (.one (fenced_calm hb hr rfl) stepR_inLoop)) aaM⟩
   |exit id=>exact⟨_,a₁,w₁,hq, .pass (x:= .inLoop x) rfl (λ_ _ => .inl (by simp)) B9⟩
   |goto l=>exact⟨_,a₁,w₁,hq, .pass (x:= .inLoop x) rfl (λ_ _ => .inl (by simp)) B9⟩
   |ret=>exact⟨_,a₁,w₁,hq, .pass (x:= .inLoop x) rfl (λ_ _ => .inl (by simp)) B9⟩
   |panic ch=>exact⟨_,a₁,w₁,hq, .pass (x:= .inLoop x) rfl (λ_ _ => .inl (by simp)) B9⟩
   |outgrown=>exact⟨_,a₁,w₁,hq, .pass (x:= .inLoop x) rfl (λ_ _ => .inl (by simp)) B9⟩
 obtain⟨e,a',w',hq,B9⟩:=key _ i0 rfl W8 a w hst;exact⟨e,a',w',hq, .of_steps (.one (fenced_calm hb hr rfl) stepR_loop) B9⟩
def uI(F:gp):List Nat->gp
 |[]=>[]
 |k::r=>match lk F k with
  |some v=>(k,v)::uI F r
  |none=>uI F r
theorem OV{F:gp}:∀{ks:List Nat} {d:Nat} {v:Value},lk (uI F ks) d=some v->d∈ks/\lk F d=some v:=by
 intro ks
 induction ks with
 |nil=>intro d v h;simp[uI,lk]at h
 |cons k r ih=>
  intro d v h;simp only[uI]at h;split at h
  ·rename_i u hu
   simp only[lk]at h;by_cases e:k=d
   ·subst e;simp at h;subst h;exact⟨by simp,hu⟩
   ·rw[xD e]at h;obtain⟨h1,h2⟩:=ih h;exact⟨by simp[h1],h2⟩
  ·obtain⟨h1,h2⟩:=ih h;exact⟨by simp[h1],h2⟩
inductive MX(F:gp):List Nat->gp->Prop where
 |nil:MX F [] []
 |cons {k:Nat} {v:Value} {ks:List Nat} {K:gp} (h:lk F k=some v) (r:MX F ks K):MX F (k::ks) ((k,v)::K)
theorem MX.lk{F:gp}{ks:List Nat}{K:gp}(h:MX F ks K):∀d v,lk K d=some v->Bw.lk F d=some v:=by
 induction h with
 |nil=>intro d v hd;simp[Bw.lk]at hd
 |@cons k u ks K h r ih=>
  intro d v hd;by_cases e:k=d
  ·subst e;simp[Bw.lk]at hd;subst hd;exact h
  ·simp only[Bw.lk,xD e,cond_false]at hd;exact ih d v hd
theorem OW{I K G:gp}(h1:Sub I G)(h2:∀d v,lk K d=some v->lk G d=some v):∀d v,lk (I++K) d=some v->lk G d=some v:=by
 induction I with
 |nil=>exact h2
 |cons q I ih=>
  obtain⟨k,u⟩:=q;obtain⟨hq,hr⟩:=h1;intro d v hd;by_cases e:k=d
  ·subst e;simp[lk]at hd;subst hd;exact hq
  ·simp only[List.cons_append,lk,xD e,cond_false]at hd;exact ih hr d v hd
def al8{α:Type}(N:Nat)(c:Cx)(D:List Deferred)(sl:List Nat)(K:gp)(I:α->gp)(J:α->List aO)(p:α->Prop)(μ:α->Nat)(i0:α):Act->World->Prop:=
 λa w=>match sl with|_ =>∃i',μ i'<μ i0/\p i'/\St N c D (I i'++K) (J i') a w
abbrev V8{α:Type}(N:Nat)(c:Cx)(D:List Deferred)(Q:Exit->Act->World->Prop)(sl:List Nat)(K:gp)(I:α->gp)(J:α->List aO)(p:α->Prop)(μ:α->Nat)(i0:α):Exit->Act->World->Prop:=
 Exit.then (al8 N c D sl K I J p μ i0) Q
def aos{α:Type}(N:Nat)(c:Cx)(D:List Deferred)(sl:List Nat)(K:gp)(I:α->gp)(J:α->List aO)(p:α->Prop):Act->World->Prop:=
 λa w=>match sl with|_ =>∃i,p i/\St N c D (I i++K) (J i) a w
abbrev ae1{α:Type}(N:Nat)(c:Cx)(D:List Deferred)(Q:Exit->Act->World->Prop)(sl:List Nat)(K:gp)(I:α->gp)(J:α->List aO)(p:α->Prop):Exit->Act->World->Prop:=
 Exit.then (aos N c D sl K I J p) Q
theorem abR{α:Type}{x:Code}(sl:List Nat){K:gp}(hK:MX F sl K)(I:α->gp)(J:α->List aO)(p:α->Prop)(μ:α->Nat)(i0:α)(W8:p i0)(hs:Sub (I i0) F){ks:List Nat}(hk:pick H ks=some (J i0))(hn:ks.Nodup)
  (hbody:∀i,p i->WP P N c D x (V8 N c D Q sl K I J p μ i) (I i++K) (J i)):WP P N c D (.loop x) Q F H:=by
 have h0:WP P N c D (.loop x) Q (I i0++K) (J i0):=by exact abS (λi=>I i++K) J p μ i0 W8 hbody
 intro a w hst;exact h0 a w ⟨hst.tm,hst.fr.sub (OW hs hK.lk),hst.df,hst.si,hst.hp.pick hk hn⟩
theorem abO{α:Type}{K:gp}{sl:List Nat}{I:α->gp}{J:α->List aO}{p:α->Prop}{μ:α->Nat}{i0:α}(i:α)(hμ:μ i<μ i0)(hp:p i)(hs:Sub (I i) F)(hl:MX F sl K){ks:List Nat}(hk:pick H ks=some (J i))(hn:ks.Nodup):
  WQ N c D (V8 N c D Q sl K I J p μ i0) .normal F H:=
 λ_ _ hst=>⟨i,hμ,hp,hst.tm,hst.fr.sub (OW hs hl.lk),hst.df,hst.si,hst.hp.pick hk hn⟩
theorem aeL{α:Type}{x y:Code}(sl:List Nat){K:gp}(_ :MX F sl K)(I:α->gp)(J:α->List aO)(p:α->Prop)
  (h1:WP P N c D x (ae1 N c D Q sl K I J p) F H)(h2:∀i,p i->WP P N c D y Q (I i++K) (J i)):WP P N c D (.seq x y) Q F H:=
 aiD (λi=>I i++K) J p h1 h2
theorem aeH{α:Type}{K:gp}{sl:List Nat}{I:α->gp}{J:α->List aO}{p:α->Prop}(i:α)(hp:p i)(hs:Sub (I i) F)(hl:MX F sl K){ks:List Nat}(hk:pick H ks=some (J i))(hn:ks.Nodup):
  WQ N c D (ae1 N c D Q sl K I J p) .normal F H:=
 λ_ _ hst=>⟨i,hp,hst.tm,hst.fr.sub (OW hs hl.lk),hst.df,hst.si,hst.hp.pick hk hn⟩
end code
end Go.Bw
namespace Go.Bw
open Go Go.RowKit
def HC:TypeDesc->Bool
 | .struct _ =>true
 | .array _ _ =>true
 |_ =>false
def HW(P:Program)(t n:Nat):Bool:=match P.underlying t,P.info? t with
 |some d,some i=>HC d&&Nat.beq i.size n
 |_,_ =>false
def vu(P:Program)(t:Nat):Bool:=match P.underlying t,P.info? t with
 |some d,some i=> !HC d&&Nat.beq i.size 1
 |_,_ =>false
class wu(P:Program)(t:TypeId)(n:outParam Nat):Prop where
 ok:HW P t n=true
class sR(P:Program)(t:TypeId):Prop where
 ok:vu P t=true
class Ue(P:Program)(t:TypeId)(n:outParam Nat):Prop where
 ok:(P.info? t).map (·.size)=some n
section types
variable {P:Program} {t n:Nat}
theorem wu.get(h:HW P t n=true):∃d i,P.underlying t=some d/\HC d=true/\P.info? t=some i/\i.size=n:=by
 unfold HW at h;split at h
 ·rename_i d i h1 h2
  simp only[aoX]at h;exact⟨d,i,h1,h.1,h2,aoW h.2⟩
 ·cases h
theorem sR.get(h:vu P t=true):∃d i,P.underlying t=some d/\HC d=false/\P.info? t=some i/\i.size=1:=by
 unfold vu at h;split at h
 ·rename_i d i h1 h2
  simp only[aoX,Bool.not_eq_true']at h;exact⟨d,i,h1,h.1,h2,aoW h.2⟩
 ·cases h
instance(priority:=50) amh[h:wu P t n]:Ue P t n:=⟨by obtain⟨d,i,_,_,h3,h4⟩:=wu.get h.ok;simp[h3,h4]⟩
instance(priority:=40) amg[h:sR P t]:Ue P t 1:=⟨by obtain⟨d,i,_,_,h3,h4⟩:=sR.get h.ok;simp[h3,h4]⟩
theorem xe(w:World)[h:wu P t n]:(isAgg t).run P w= .ok true w:=by obtain⟨d,i,h1,h2,_,_⟩:=wu.get h.ok;unfold isAgg;rw[Sem.run_bind,run_underlying h1 w];cases d<;>simp_all[HC]
theorem vo(w:World)[h:sR P t]:(isAgg t).run P w= .ok false w:=by obtain⟨d,i,h1,h2,_,_⟩:=sR.get h.ok;unfold isAgg;rw[Sem.run_bind,run_underlying h1 w];cases d<;>simp_all[HC]
theorem Ev(w:World)[h:Ue P t n]:(sizeOf t).run P w= .ok n w:=by
 have:=h.ok;cases hi:P.info? t with
 |none=>simp[hi]at this
 |some i=>simp[hi]at this;simp[sizeOf,typeInfo,hi,this]
end types
class xL(H:List aO)(b:Nat)(T:outParam TypeId)(cs:outParam (List Value)):Prop where
 mem:aO.cells b T cs∈H
instance(priority:=100) ajl(b T cs)(H:List aO):xL (.cells b T cs::H) b T cs:=⟨by simp⟩
instance(priority:=50) aja(r:aO)(H:List aO)(b T cs)[h:xL H b T cs]:xL (r::H) b T cs:=⟨by simp[h.mem]⟩
class MP(H:List aO)(b:Nat)(cs':List Value)(H':outParam (List aO)):Prop where
 ok:∃k T cs,H[k]? =some (.cells b T cs)/\H'=H.set k (.cells b T cs')
instance(priority:=100) ajh(b T cs cs')(H:List aO):MP (.cells b T cs::H) b cs' (.cells b T cs'::H):=⟨0,T,cs,rfl,rfl⟩
instance(priority:=50) aiV(r:aO)(H H':List aO)(b cs')[h:MP H b cs' H']:MP (r::H) b cs' (r::H'):=
 ⟨by obtain⟨k,T,cs,h1,h2⟩:=h.ok;exact⟨k+1,T,cs,by simpa using h1,by simp[h2]⟩⟩
class acs(H:List aO)(b:Nat)(o:outParam Obj):Prop where
 mem:aO.obj b o∈H
instance(priority:=100) ajk(b o)(H:List aO):acs (.obj b o::H) b o:=⟨by simp⟩
instance(priority:=50) ai9(r:aO)(H:List aO)(b o)[h:acs H b o]:acs (r::H) b o:=⟨by simp[h.mem]⟩
class ab9(H:List aO)(b:Nat)(o':Obj)(H':outParam (List aO)):Prop where
 ok:∃k o,H[k]? =some (.obj b o)/\H'=H.set k (.obj b o')
instance(priority:=100) ajg(b o o')(H:List aO):ab9 (.obj b o::H) b o' (.obj b o'::H):=⟨0,o,rfl,rfl⟩
instance(priority:=50) aiU(r:aO)(H H':List aO)(b o')[h:ab9 H b o' H']:ab9 (r::H) b o' (r::H'):=
 ⟨by obtain⟨k,o,h1,h2⟩:=h.ok;exact⟨k+1,o,by simpa using h1,by simp[h2]⟩⟩
def fW(b off:Nat):Value:= .pointer (some ⟨b,off,none⟩)
attribute [reducible] fW
section ops
variable {P:Program} {N:Nat} {c:Cx} {F:gp} {H:List aO} {d:Option Tmp} {ty:TypeId} {p:String} {af:Array Edge} {g:Option (Nat×Bool)}
theorem dH{x:Operand}{v:Value}(hx:ev F x=some v):VS P N c ⟨d, .move x,ty,p,af,g⟩ F H v:=
 bp (by simp) λa w hf _ _ =>by simp[execOp,bz hf hx]
theorem wE{x:Operand}{v:Value}(hx:ev F x=some v):VS P N c ⟨d, .assign x,ty,p,af,g⟩ F H v:=
 bp (by simp) λa w hf _ _ =>by simp[execOp,bz hf hx]
theorem LU{x y:Operand}{b u:Bool}(hx:ev F x=some (.bool b))(hy:ev F y=some (bif b==true then .bool u else undef)):
  VS P N c ⟨d, .pick x y (.const (.bool false)),ty,p,af,g⟩ F H (.bool (b&&u)):=
 bp (by simp) λa w hf _ _ =>by have e1:=bz hf hx;have e2:=bz hf hy;have e3:∀v,a.eval (.const v)=v:=λ_ =>rfl;cases b<;>(try simp at e2)<;>simp[execOp,e1,e2,e3,asBool]
theorem VZ{x y:Operand}{b u:Bool}(hx:ev F x=some (.bool b))(hy:ev F y=some (bif b==false then .bool u else undef)):
  VS P N c ⟨d, .pick x (.const (.bool true)) y,ty,p,af,g⟩ F H (.bool (b||u)):=
 bp (by simp) λa w hf _ _ =>by have e1:=bz hf hx;have e2:=bz hf hy;have e3:∀v,a.eval (.const v)=v:=λ_ =>rfl;cases b<;>(try simp at e2)<;>simp[execOp,e1,e2,e3,asBool]
theorem H7{x:Operand}{b:Bool}(hx:ev F x=some (.bool b)){T:TypeId}:VS P N c ⟨d, .unOp .not T x,ty,p,af,g⟩ F H (.bool (!b)):=
 bp (by simp) λa w hf _ _ =>by simp[execOp,bz hf hx,Op.unary]
section ints
variable {x y:Operand} {k:IntKind} {a b r:Int} {T U:TypeId}
theorem aiR(hx:ev F x=some (.int k a))(hy:ev F y=some (.int k b))(h:k.wrap (a+b)=r):VS P N c ⟨d, .binOp .add T x y U,ty,p,af,g⟩ F H (.int k r):=
 bp (by simp) λa' w hf _ _ =>by simp[execOp,bz hf hx,bz hf hy,eqGuard,binOp,Op.intArith,h]
theorem abW(hx:ev F x=some (.int k a))(hy:ev F y=some (.int k b))(h:k.wrap (a-b)=r):VS P N c ⟨d, .binOp .sub T x y U,ty,p,af,g⟩ F H (.int k r):=
 bp (by simp) λa' w hf _ _ =>by simp[execOp,bz hf hx,bz hf hy,eqGuard,binOp,Op.intArith,h]
theorem aiI(hx:ev F x=some (.int k a))(hy:ev F y=some (.int k b))(h:k.wrap (a*b)=r):VS P N c ⟨d, .binOp .mul T x y U,ty,p,af,g⟩ F H (.int k r):=
 bp (by simp) λa' w hf _ _ =>by simp[execOp,bz hf hx,bz hf hy,eqGuard,binOp,Op.intArith,h]
theorem aeV{op:BinOp}{v:Value}(hx:ev F x=some (.int k a))(hy:ev F y=some (.int k b))(ho:(op matches .and| .or| .xor| .andNot)=true)
  (h:∀P w,(Op.intBits op k a b).run P w= .ok v w):VS P N c ⟨d, .binOp op T x y U,ty,p,af,g⟩ F H v:=
 bp (by simp) λa' w hf _ _ =>by cases op<;>simp at ho<;>simp[execOp,bz hf hx,bz hf hy,eqGuard,binOp,h]
theorem aiG{k':IntKind}(hx:ev F x=some (.int k a))(hy:ev F y=some (.int k' b))(h0:0<=b)(h:k.wrap (a*2^(min b.toNat k.bits))=r):VS P N c ⟨d, .binOp .shl T x y U,ty,p,af,g⟩ F H (.int k r):=
 bp (by simp) λa' w hf _ _ =>by simp[execOp,bz hf hx,bz hf hy,eqGuard,binOp,Op.shift,h,Int.not_lt.2 h0]
theorem aiF{k':IntKind}(hx:ev F x=some (.int k a))(hy:ev F y=some (.int k' b))(h0:0<=b)(h:a.fdiv (2^(min b.toNat k.bits))=r):VS P N c ⟨d, .binOp .shr T x y U,ty,p,af,g⟩ F H (.int k r):=
 bp (by simp) λa' w hf _ _ =>by simp[execOp,bz hf hx,bz hf hy,eqGuard,binOp,Op.shift,h,Int.not_lt.2 h0]
theorem aiP(hx:ev F x=some (.int k a))(hy:ev F y=some (.int k b)):VS P N c ⟨d, .binOp .eql T x y U,ty,p,af,g⟩ F H (.bool (a==b)):=
 bp (by simp) λa' w hf _ _ =>by simp[execOp,bz hf hx,bz hf hy,eqGuard,binOp,Op.intCmp]
theorem aiH(hx:ev F x=some (.int k a))(hy:ev F y=some (.int k b)):VS P N c ⟨d, .binOp .neq T x y U,ty,p,af,g⟩ F H (.bool (a !=b)):=
 bp (by simp) λa' w hf _ _ =>by simp[execOp,bz hf hx,bz hf hy,eqGuard,binOp,Op.intCmp]
theorem aiL(hx:ev F x=some (.int k a))(hy:ev F y=some (.int k b)):VS P N c ⟨d, .binOp .lss T x y U,ty,p,af,g⟩ F H (.bool (decide (a<b))):=
 bp (by simp) λa' w hf _ _ =>by simp[execOp,bz hf hx,bz hf hy,eqGuard,binOp,Op.intCmp]
theorem aiM(hx:ev F x=some (.int k a))(hy:ev F y=some (.int k b)):VS P N c ⟨d, .binOp .leq T x y U,ty,p,af,g⟩ F H (.bool (decide (a<=b))):=
 bp (by simp) λa' w hf _ _ =>by simp[execOp,bz hf hx,bz hf hy,eqGuard,binOp,Op.intCmp]
theorem ab0(hx:ev F x=some (.int k a))(hy:ev F y=some (.int k b)):VS P N c ⟨d, .binOp .gtr T x y U,ty,p,af,g⟩ F H (.bool (decide (b<a))):=
 bp (by simp) λa' w hf _ _ =>by simp[execOp,bz hf hx,bz hf hy,eqGuard,binOp,Op.intCmp]
theorem Ud(hx:ev F x=some (.int k a))(hy:ev F y=some (.int k b)):VS P N c ⟨d, .binOp .geq T x y U,ty,p,af,g⟩ F H (.bool (decide (b<=a))):=
 bp (by simp) λa' w hf _ _ =>by simp[execOp,bz hf hx,bz hf hy,eqGuard,binOp,Op.intCmp]
theorem abY(hx:ev F x=some (.int k a))(h:k.wrap (0-a)=r):VS P N c ⟨d, .unOp .neg T x,ty,p,af,g⟩ F H (.int k r):=
 bp (by simp) λa' w hf _ _ =>by simp at h;simp[execOp,bz hf hx,Op.unary,Op.intArith,h]
end ints
class ab5(P:Program)(t:TypeId)(k:outParam IntKind):Prop where
 ok:P.underlying t=some (.int k)
class ab6(P:Program)(t:TypeId):Prop where
 ok:P.underlying t=some .bool
theorem V2{x:Operand}{k k':IntKind}{a r:Int}{S T:TypeId}(hx:ev F x=some (.int k a))[hT:ab5 P T k'][hS:ab5 P S k](h:k'.wrap a=r):
  VS P N c ⟨d, .convert S T x,ty,p,af,g⟩ F H (.int k' r):=
 bp (by simp) λa' w hf _ _ =>by have h1:=run_underlying hT.ok w;have h2:=run_underlying hS.ok w;simp[execOp,bz hf hx,convert,h1,h2,Conv.intToInt,h]
theorem aeT{x y:Operand}{a b:Bool}{T U:TypeId}[hT:ab6 P T](hx:ev F x=some (.bool a))(hy:ev F y=some (.bool b)):
  VS P N c ⟨d, .binOp .eql T x y U,ty,p,af,g⟩ F H (.bool (a==b)):=
 bp (by simp) λa' w hf _ _ =>by have h1:=run_eql_bool (P:=P) w T a b hT.ok;simp[execOp,bz hf hx,bz hf hy,eqGuard,h1]
theorem aeO{x y:Operand}{a b:Bool}{T U:TypeId}[hT:ab6 P T](hx:ev F x=some (.bool a))(hy:ev F y=some (.bool b)):
  VS P N c ⟨d, .binOp .neq T x y U,ty,p,af,g⟩ F H (.bool (a !=b)):=
 bp (by simp) λa' w hf _ _ =>by have h1:=run_neq_bool (P:=P) w T a b hT.ok;have e1:=bz hf hx;have e2:=bz hf hy;cases a<;>cases b<;>simp[execOp,e1,e2,eqGuard,h1]
theorem tY{x:Operand}{vs:List Value}{i:Nat}{v:Value}(hx:ev F x=some (.tuple vs.toArray))(hv:vs[i]? =some v):VS P N c ⟨d, .extract x i,ty,p,af,g⟩ F H v:=
 bp (by simp) λa w hf _ _ =>by simp[execOp,bz hf hx,Instr.extract,hv]
def Lz(P:Program)(s f off:Nat):Bool:=match P.underlying s with
 |some (.struct fs)=>match fs[f]? with
  |some fl=>Nat.beq fl.offset off&&(match P.info? fl.type with|some i=> !Nat.beq i.size 0|none=>false)
  |none=>false
 |_ =>false
class Gk(P:Program)(s:TypeId)(f:Nat)(off:outParam Nat):Prop where
 ok:Lz P s f off=true
theorem Gk.get{s f off:Nat}(h:Lz P s f off=true):∃fs fl i,P.underlying s=some (.struct fs)/\fs[f]? =some fl/\fl.offset=off/\P.info? fl.type=some i/\i.size≠0:=by
 unfold Lz at h;split at h
 ·rename_i fs h1
  split at h
  ·rename_i fl h2
   split at h
   ·rename_i i h3
    simp only[aoX,Bool.not_eq_true']at h;exact⟨fs,fl,i,h1,h2,aoW h.1,h3,λe=>by rw[e]at h;exact absurd h.2 (by decide)⟩
   ·simp at h
  ·cases h
 ·cases h
theorem BO{s f fo b off:Nat}[h:Gk P s f fo](w:World):(Instr.fieldAt s (fW b off) f).run P w= .ok (fW b (off+fo)) w:=by obtain⟨fs,fl,i,h1,h2,h3,h4,h5⟩:=Gk.get h.ok;simp[Instr.fieldAt,run_underlying h1,h2,Instr.sureAddr,fieldPlace,sizeOf,typeInfo,h4,h5,Addr.add_lit,h3]
theorem C5{x:Operand}{s f fo b:Nat}[Gk P s f fo](hx:ev F x=some (fW b 0)):VS P N c ⟨d, .fieldAddr s x f,ty,p,af,g⟩ F H (fW b fo):=
 bp (by simp) λa w hf _ _ =>by have:=BO (P:=P) (s:=s) (f:=f) (b:=b) (off:=0) w;rw[Nat.zero_add]at this;simp only[execOp,bz hf hx];simp[this]
theorem Gj{x:Operand}{s f fo b off:Nat}[Gk P s f fo](hx:ev F x=some (fW b off)):VS P N c ⟨d, .fieldAddr s x f,ty,p,af,g⟩ F H (fW b (off+fo)):=
 bp (by simp) λa w hf _ _ =>by have:=BO (P:=P) (s:=s) (f:=f) (b:=b) (off:=off) w;simp only[execOp,bz hf hx];simp[this]
def Pt(P:Program)(t len e sz:Nat):Bool:=match P.underlying t with
 |some (.array l e')=>Nat.beq l len&&Nat.beq e' e&&(match P.info? e with|some i=>Nat.beq i.size sz|none=>false)
 |_ =>false
class Dz(P:Program)(t:TypeId)(len e sz:outParam Nat):Prop where
 ok:Pt P t len e sz=true
theorem Dz.get{t len e sz:Nat}(h:Pt P t len e sz=true):∃i,P.underlying t=some (.array len e)/\P.info? e=some i/\i.size=sz:=by
 unfold Pt at h;split at h
 ·rename_i l e' h1
  split at h
  ·rename_i i h3
   simp only[aoX]at h;obtain⟨⟨h4,h5⟩,h6⟩:=h;rw[aoW h4,aoW h5]at h1;exact⟨i,h1,h3,aoW h6⟩
  ·simp at h
 ·cases h
def NH(P:Program)(t e sz:Nat):Bool:=match P.underlying t with
 |some (.slice e')=>Nat.beq e' e&&(match P.info? e with|some i=>Nat.beq i.size sz|none=>false)
 |_ =>false
class zo(P:Program)(t:TypeId)(e sz:outParam Nat):Prop where
 ok:NH P t e sz=true
theorem zo.get{t e sz:Nat}(h:NH P t e sz=true):∃i,P.underlying t=some (.slice e)/\P.info? e=some i/\i.size=sz:=by
 unfold NH at h;split at h
 ·rename_i e' h1
  split at h
  ·rename_i i h3
   simp only[aoX]at h;obtain⟨h4,h6⟩:=h;rw[aoW h4]at h1;exact⟨i,h1,h3,aoW h6⟩
  ·simp at h
 ·cases h
theorem C4{x y:Operand}{t len e sz b:Nat}{k:IntKind}{i:Int}{m:Nat}[h:Dz P t len e sz](hx:ev F x=some (fW b 0))(hy:ev F y=some (.int k i))(hi:i=(m:Int))(hm:m<len):
  VS P N c ⟨d, .indexAddr t x y,ty,p,af,g⟩ F H (fW b (m*sz)):=
 bp (by simp) λa w hf _ _ =>by obtain⟨inf,h1,h2,h3⟩:=Dz.get h.ok;subst hi;simp[execOp,bz hf hx,bz hf hy,Instr.indexAt,asIntOf,run_underlying h1,Instr.sureAddr,sizeOf,typeInfo,h2,h3,Addr.add_lit];intro hle;omega
theorem RI{x y:Operand}{t len e sz b off:Nat}{k:IntKind}{i:Int}{m:Nat}[h:Dz P t len e sz](hx:ev F x=some (fW b off))(hy:ev F y=some (.int k i))(hi:i=(m:Int))(hm:m<len):
  VS P N c ⟨d, .indexAddr t x y,ty,p,af,g⟩ F H (fW b (off+m*sz)):=
 bp (by simp) λa w hf _ _ =>by obtain⟨inf,h1,h2,h3⟩:=Dz.get h.ok;subst hi;simp[execOp,bz hf hx,bz hf hy,Instr.indexAt,asIntOf,run_underlying h1,Instr.sureAddr,sizeOf,typeInfo,h2,h3,Addr.add_lit];intro hle;omega
theorem Cr{x:Operand}{a:Addr}(hx:ev F x=some (.pointer (some a))):VS P N c ⟨d, .nilCheck x,ty,p,af,g⟩ F H (.pointer (some a)):=
 bp (by simp) λa w hf _ _ =>by simp[execOp,bz hf hx]
theorem yp{w:World}{b T:Nat}{cs:List Value}(h:(aO.cells b T cs).holds w)(j:Nat):w.cell? ⟨b,j,none⟩=cs[j]? :=by have:w.heap[b]? =some (.cells cs.toArray T (0,0)):=h;simp[World.cell?,this]
theorem oD{t:TypeId}{a:Addr}{v:Value}{w:World}[sR P t](h:w.cell? a=some v):(loadVar t a).run P w= .ok v w:=by simp[loadVar,vo,load,Sem.run,h]
theorem oE{t:TypeId}{b off n:Nat}{vs:List Value}{w:World}[wu P t n](hl:vs.length=n)(h:∀(j:Nat) v,vs[j]? =some v->w.cell? ⟨b,off+j,none⟩=some v):
  (loadVar t ⟨b,off,none⟩).run P w= .ok (.agg vs.toArray) w:=by
 have hl':(loadCells ⟨b,off,none⟩ vs.length).run P w= .ok vs.toArray w:=
  run_loadCells_list (P:=P) w ⟨b,off,none⟩ vs (λj v hv=>by rw[Addr.add_lit];exact h j v hv)
 have hs:(sizeOf t).run P w= .ok n w:=Ev w;simp[loadVar,Sem.run_bind,xe,hs, ← hl,hl']
theorem lz{x:Operand}{t b off T:Nat}{cs:List Value}{v:Value}(hx:ev F x=some (fW b off))[hr:xL H b T cs][sR P t](hv:cs[off]? =some v):VS P N c ⟨d, .load t x,ty,p,af,g⟩ F H v:=
 bp (by simp) λa w hf _ hp=>by have:=oD (P:=P) (t:=t) (a:=⟨b,off,none⟩) ((yp (hp.holds _ hr.mem) off).trans hv);simp[execOp,bz hf hx,Instr.loadAt,Instr.sureAddr,this]
theorem tV{x:Operand}{t b T n:Nat}{cs:List Value}(hx:ev F x=some (fW b 0))[hr:xL H b T cs][wu P t n](hl:cs.length=n):VS P N c ⟨d, .load t x,ty,p,af,g⟩ F H (.agg cs.toArray):=
 bp (by simp) λa w hf _ hp=>by have:=oE (P:=P) (t:=t) (b:=b) (off:=0) (w:=w) hl (λj v hv=>by rw[Nat.zero_add,yp (hp.holds _ hr.mem)];exact hv);simp[execOp,bz hf hx,Instr.loadAt,Instr.sureAddr,this]
theorem I9{x:Operand}{t b off T n:Nat}{cs vs:List Value}(hx:ev F x=some (fW b off))[hr:xL H b T cs][wu P t n](hv:(cs.drop off).take n=vs)(hl:vs.length=n):VS P N c ⟨d, .load t x,ty,p,af,g⟩ F H (.agg vs.toArray):=
 bp (by simp) λa w hf _ hp=>by
  have:=oE (P:=P) (t:=t) (b:=b) (off:=off) (w:=w) hl (λj v hj=>by
   rw[yp (hp.holds _ hr.mem)];rw[← hv,List.getElem?_take]at hj;split at hj
   ·rwa[List.getElem?_drop]at hj
   ·cases hj)
  simp[execOp,bz hf hx,Instr.loadAt,Instr.sureAddr,this]
def cU(cs:List Value)(off:Nat)(vs:List Value):List Value:=cs.take off++vs++cs.drop (off+vs.length)
def uZ(vs:List Value):Prop:=∀v∈vs,v.oneCell'=true
theorem vn{t b off T n:Nat}{cs vs:List Value}{v:Value}{w:World}[Ue P t n](h:(aO.cells b T cs).holds w)(hv:v.cells.toList=vs)(hl:vs.length=n)(ho:off+n<=cs.length)(h1:uZ vs):
  ∃w',(storeVar t ⟨b,off,none⟩ v).run P w= .ok () w'/\(aO.cells b T (cU cs off vs)).holds w'/\bG [b] w w':=by
 have hb:w.heap[b]? =some (.cells cs.toArray T (0,0)):=h;have hst:=run_storeCells_at P b off T vs 0 cs.toArray w hb (by simp;omega) h1;simp only[Nat.add_zero]at hst;have hs:(sizeOf t).run P w= .ok n w:=Ev w;have hsz:v.cells.size=n:=by rw[← hl, ← hv];simp
 refine⟨w.setRow b (cU cs off vs).toArray,?_,?_,?_⟩
 ·simp only[storeVar,Sem.run_bind,hs,Result.andThen_ok,hsz,hv,ne_eq,not_true_eq_false,if_false]
  exact hst
 ·have:=setRow_heap w b cs.toArray (cU cs off vs).toArray T (0,0) hb
  simpa[aO.holds,cU]using this
 ·exact⟨rfl,rfl,rfl,by simp,λk _ hk=>setRow_other w b k _ (by simpa using hk)⟩
theorem cC.am4{bs:List Nat}{n0 b:Nat}{H H':List aO}{cs':List Value}{w w':World}(h:cC bs n0 H w)(hs:MP H b cs' H')(hw:bG [b] w w')(hn:n0<=w.heap.size)
  (hc:∀T cs,(aO.cells b T cs).holds w->(aO.cells b T cs').holds w'):cC bs n0 H' w':=by
 obtain⟨k,T,cs,hk,rfl⟩:=hs.ok;have hm:aO.cells b T cs∈H:=List.mem_of_getElem? hk;refine h.set hk hw.size (λj hj hne=>hw.block j hj hne) (hc T cs (h.holds _ hm)) hn (λb' hb'=>?_);have e:b'=b:=by simpa[aO.eL]using hb'
 subst e;exact⟨.inl (by simp[aO.eL]),Nat.lt_of_lt_of_le (h.own _ hm b' (by simp[aO.eL])).2 hw.size⟩
theorem bG.store{bs:List Nat}{w0 w w':World}{H:List aO}{r:aO}{b:Nat}(h:bG bs w0 w)(hp:cC bs w0.heap.size H w)(hm:r∈H)(hb:b∈r.eL)(hw:bG [b] w w'):bG bs w0 w':=
 h.trans hw (λx hx=>by simp at hx;subst hx;exact(hp.own r hm _ hb).1)
theorem Ru{w:World}{b T T':Nat}{cs cs':List Value}(h:(aO.cells b T cs).holds w)(h':(aO.cells b T' cs').holds w):T=T'/\cs=cs':=by have h1:w.heap[b]? =some (.cells cs.toArray T (0,0)):=h;have h2:w.heap[b]? =some (.cells cs'.toArray T' (0,0)):=h';rw[h1]at h2;simp at h2;exact⟨h2.2,h2.1⟩
variable {D:List Deferred} {ops:Array Oper} {Q:Exit->Act->World->Prop} {rest:List Oper}
theorem uX{x y:Operand}{t b off T n:Nat}{cs vs cs':List Value}{v:Value}{H':List aO}(hx:ev F x=some (fW b off))(hy:ev F y=some v)[hr:xL H b T cs][Ue P t n]
  (hv:v.cells.toList=vs)(hl:vs.length=n)(ho:off+n<=cs.length)(h1:uZ vs)(hc:cU cs off vs=cs')[hs:MP H b cs' H']:
  RX (α:=Unit) P N c ⟨d, .store t x y,ty,p,af,g⟩ F H (λ_ =>True) (λ_ =>undef) (λ_ =>H'):=λD a w next Q hst hk=>by
 obtain⟨w',e1,e2,e3⟩:=vn (P:=P) (t:=t) (off:=off) (hst.hp.holds _ hr.mem) hv hl ho h1;refine tK (by simp) (w':=w') ?_ (hk () w' trivial (hst.si.store hst.hp hr.mem (by simp[aO.eL]) e3) (hst.hp.am4 hs e3 hst.si.size ?_))
 ·simp[execOp,bz hst.fr hx,bz hst.fr hy,Instr.storeAt,Instr.sureAddr,e1]
 ·intro T' aoP hT
  have:=Ru (hst.hp.holds _ hr.mem) hT;obtain⟨rfl,rfl⟩:=this;rw[← hc];exact e2
def cN(P:Program)(t:Nat):Option (List Value):=(P.info? t).bind λi=>i.zero.map λz=>z.cells.toList
class ke(P:Program)(t:TypeId)(cs:outParam (List Value)):Prop where
 ok:cN P t=some cs
theorem ke.get{t:Nat}{cs:List Value}(h:cN P t=some cs):∃i z,P.info? t=some i/\i.zero=some z/\z.cells.toList=cs:=by
 unfold cN at h;cases hi:P.info? t with
 |none=>simp[hi]at h
 |some i=>
  cases hz:i.zero with
  |none=>simp[hi,hz]at h
  |some z=>simp[hi,hz]at h;exact⟨i,z,rfl,hz,h⟩
theorem cC.box{bs:List Nat}{n0:Nat}{H:List aO}{w:World}(h:cC bs n0 H w)(t:TypeId)(cs:List Value)(hn:n0<=w.heap.size):cC bs n0 (.cells w.heap.size t cs::H) (w.alloc (.cells cs.toArray t)):=
 h.fresh (bG.alloc _ _) (by show(w.heap.push _)[w.heap.size]? =_;simp) hn (λb hb=>by
  have e:b=w.heap.size:=by simpa[aO.eL]using hb
  subst e;exact⟨Nat.le_refl _,by simp⟩)
theorem Uh{x:Operand}{t:Nat}{v:Value}{cs:List Value}(hx:ev F x=some v)(hc:v.cells.toList=cs):
  RX P N c ⟨d, .box t x,ty,p,af,g⟩ F H (λ_ =>True) (λb=>fW b 0) (λb=> .cells b t cs::H):=λD a w next Q hst hk=>by
 refine gS (by simp) (w':=w.alloc (.cells cs.toArray t)) ?_ (hk w.heap.size _ trivial (hst.si.ext (bG.alloc _ _)) (hst.hp.box t cs hst.si.size));subst hc;simp[execOp,bz hst.fr hx,Instr.box,newVar,newRow,newObj,Sem.run]
theorem PI{x:Operand}{t:Nat}{cs:List Value}(hx:ev F x=some (.agg cs.toArray)):
  RX P N c ⟨d, .box t x,ty,p,af,g⟩ F H (λ_ =>True) (λb=>fW b 0) (λb=> .cells b t cs::H):=Uh hx rfl
theorem sS{t:Nat}{cs:List Value}[hz:ke P t cs]:
  RX P N c ⟨d, .alloc t,ty,p,af,g⟩ F H (λ_ =>True) (λb=>fW b 0) (λb=> .cells b t cs::H):=λD a w next Q hst hk=>by
 refine gS (by simp) (w':=w.alloc (.cells cs.toArray t)) ?_ (hk w.heap.size _ trivial (hst.si.ext (bG.alloc _ _)) (hst.hp.box t cs hst.si.size));obtain⟨i,z,h1,h2,rfl⟩:=ke.get hz.ok;simp[execOp,Instr.alloc,zeroValue,typeInfo,h1,h2,newVar,newRow,newObj,Sem.run]
theorem uV{fn:Fn}{cap:List Operand}{vs:List Value}(hc:I2 F cap=some vs):VS P N c ⟨d, .makeFunc fn #[] cap.toArray,ty,p,af,g⟩ F H (.func fn #[] vs.toArray):=
 bp (by simp) λa w hf _ _ =>by simp[execOp,Instr.makeFunc,Pn hf hc]
end ops
end Go.Bw
namespace Go.Bw
open Go Go.RowKit
def cm(H:List aO):List Nat:=H.flatMap aO.eL
structure Fn{α:Type}(P:Program)(f:Nat)(args:List Value)(pre:World->Prop)(pW:List aO)(p:α->Prop)(fv:α->Value)(fH:α->List aO):Prop where
 enter:∀args w,(callFunc f args).run P w= .ok (.enter f args) w
 calls:∀w,pre w->cC (cm pW) w.heap.size pW w->Calls P f args.toArray w λe w'=>∃x,p x/\e= .returned (fv x)/\bG (cm pW) w w'/\cC (cm pW) w.heap.size (fH x) w'
abbrev FnV(P:Program)(f:Nat)(args:List Value)(v:Value):Prop:=Fn (α:=Unit) P f args (λ_ =>True) [] (λ_ =>True) (λ_ =>v) (λ_ =>[])
abbrev FnW(P:Program)(f:Nat)(args:List Value)(pre:World->Prop)(v:Value):Prop:=Fn (α:=Unit) P f args pre [] (λ_ =>True) (λ_ =>v) (λ_ =>[])
inductive yJ(P:Program)(F:gp)(H:List aO):List ResultVar->List Value->Prop where
 |nil:yJ P F H [] []
 |tmp {t:Nat} {v:Value} {rs:List ResultVar} {vs:List Value} (hv:lk F t=some v) (h:yJ P F H rs vs):yJ P F H (.tmp t::rs) (v::vs)
 |agg {t ty b T n:Nat} {cs:List Value} {rs:List ResultVar} {vs:List Value} (hv:lk F t=some (fW b 0)) (hr:xL H b T cs) (ht:wu P ty n) (hl:cs.length=n) (h:yJ P F H rs vs):yJ P F H (.cell t ty::rs) (.agg cs.toArray::vs)
 |one {t ty b T:Nat} {v:Value} {cs:List Value} {rs:List ResultVar} {vs:List Value} (hv:lk F t=some (fW b 0)) (hr:xL H b T cs) (ht:sR P ty) (hl:cs=[v]) (h:yJ P F H rs vs):yJ P F H (.cell t ty::rs) (v::vs)
def Ez:List Value->Value
 |[v]=>v
 |vs=> .tuple vs.toArray
def xg(t:Array Value):ResultVar->Sem Value
 | .tmp k=>pure (t.getD k undef)
 | .cell a ty=>do loadVar ty (← asAddr (t.getD a undef))
theorem IN{P:Program}{fn:Func}{F:gp}{H:List aO}{rs:List ResultVar}{vs:List Value}{t:Array Value}{bs:List Nat}{n0:Nat}{w:World}(hf:fn.results.toList=rs)(hF:Bg F t)(hp:cC bs n0 H w)(h:yJ P F H rs vs):
  (results fn t).run P w= .ok (Ez vs) w:=by
 have get:∀{k:Nat} {v:Value},t[k]? =some v->t.getD k undef=v:=λh=>by simp[h]
 have key:∀{rs vs},yJ P F H rs vs->(rs.mapM (xg t)).run P w= .ok vs w:=by
  intro rs vs h
  induction h with
  |nil=>simp
  |tmp hv h ih=>have h1:xg t (.tmp _)=pure _ :=congrArg pure (get (hF _ _ hv));simp only[List.mapM_cons,Sem.run_bind,h1,Sem.run_pure,Result.andThen_ok,ih]
  |@agg t' ty b T n cs rs' vs' hv hr ht hl h ih=>have h1:=get (hF _ _ hv);have h2:=oE (P:=P) (t:=ty) (off:=0) (w:=w) hl (λj v hv=>by rw[Nat.zero_add,yp (hp.holds _ hr.mem)];exact hv);simp only[List.mapM_cons,Sem.run_bind,xg,h1,asAddr,Sem.run_pure,h2,Result.andThen_ok,ih]
  |@one t' ty b T v cs rs' vs' hv hr ht hl h ih=>have h1:=get (hF _ _ hv);subst hl;have h2:=oD (P:=P) (t:=ty) (a:=⟨b,0,none⟩) (v:=v) ((yp (hp.holds _ hr.mem) 0).trans rfl);simp only[List.mapM_cons,Sem.run_bind,xg,h1,asAddr,Sem.run_pure,h2,Result.andThen_ok,ih]
 have hr:fn.results=rs.toArray:=by rw[← hf]
 have hk:=key h;show(do let vs ← fn.results.mapM (xg t);pure (if h:vs.size=1 then vs[0]else .tuple vs):Sem Value).run P w=_;rw[hr,List.mapM_toArray];simp only[Sem.run_bind,Sem.run_map,hk,Result.andThen_ok]
 match vs with
 |[]=>simp[Ez]
 |[v]=>simp[Ez]
 |u::v::r=>simp[Ez]
def afO{α:Type}(c:Cx)(p:α->Prop)(fv:α->Value)(fH:α->List aO):Ending->World->Prop:=λe w'=>∃x,p x/\e= .returned (fv x)/\bG c.bs c.w0 w'/\cC c.bs c.w0.heap.size (fH x) w'
def Post{α:Type}(P:Program)(c:Cx)(fn:Func)(p:α->Prop)(fv:α->Value)(fH:α->List aO):Exit->Act->World->Prop:=bodyPostM (FA none) 0 P fn (afO c p fv fH)
section
variable {α:Type} {P:Program} {N:Nat} {c:Cx} {fn:Func} {p:α->Prop} {fv:α->Value} {fH:α->List aO} {F:gp} {H:List aO}
theorem Ns{a:Act}{w:World}{vs:List Value}{rs:List ResultVar}(hst:St N c [] F H a w)(x:α)(hf:fn.results.toList=rs)(hr:yJ P F H rs vs)(hp:p x)(hv:Ez vs=fv x){ks:List Nat}
  (hk:pick H ks=some (fH x))(hn:ks.Nodup):LeavesInM (FA none) 0 P fn a.tmps (afO c p fv fH) [] .returning w:=
 ⟨_,IN hf hst.fr hst.hp hr,x,hp,by rw[hv],hst.si,hst.hp.pick hk hn⟩
theorem Cq(x:α){vs:List Value}{rs:List ResultVar}(hf:fn.results.toList=rs)(hr:yJ P F H rs vs)(hp:p x)(hv:Ez vs=fv x){ks:List Nat}(hk:pick H ks=some (fH x))(hn:ks.Nodup):
  WQ N c [] (Post P c fn p fv fH) .ret F H:=λa w hst=>by
 show LeavesInM (FA none) 0 P fn a.tmps _ a.defers .returning w;rw[hst.df];exact Ns hst x hf hr hp hv hk hn
theorem abP(x:α){vs:List Value}{rs:List ResultVar}(hf:fn.results.toList=rs)(hr:yJ P F H rs vs)(hp:p x)(hv:Ez vs=fv x){ks:List Nat}(hk:pick H ks=some (fH x))(hn:ks.Nodup):
  WQ N c [] (Post P c fn p fv fH) .normal F H:=λa w hst=>by
 show LeavesInM (FA none) 0 P fn a.tmps _ a.defers .returning w;rw[hst.df];exact Ns hst x hf hr hp hv hk hn
def mark(d:Nat):Deferred:={target:= .collected d,args:= #[]}
end
def Cb:Nat->List Value->gp
 |_,[]=>[]
 |i,v::r=>(i,v)::Cb (i+1) r
theorem adL:∀(args:List Value) (i d:Nat) (v:Value),lk (Cb i args) d=some v->i<=d/\args[d-i]? =some v:=by
 intro args
 induction args with
 |nil=>intro i d v h;simp[Cb,lk]at h
 |cons u r ih=>
  intro i d v h;simp only[Cb,lk]at h;by_cases e:i=d
  ·subst e;simp at h;subst h;simp
  ·rw[xD e]at h
   obtain⟨h1,h2⟩:=ih (i+1) d v h;exact⟨by omega,by rw[show d-i=(d-(i+1))+1 from by omega];simpa using h2⟩
theorem xw{α:Type}{P:Program}{f:Nat}{fn:Func}{code:Code}{N:Nat}{args:List Value}{pre:World->Prop}{pW:List aO}{p:α->Prop}{fv:α->Value}{fH:α->List aO}
  (hf:P.funcs[f]? =some fn)(hname:(fn.name== "runtime.NumGoroutine")=false)(hb:fn.body=some code)(hN:fn.ntmps=N)(ha:Nat.ble args.length N=true)
  (h:∀c:Cx,c.bs=cm pW->pre c.w0->c.ro=none->WP P N c [] code (Post P c fn p fv fH) (Cb 0 args) pW):Fn P f args pre pW p fv fH:=by
 refine⟨λargs w=>?_,λw hw hH=>?_⟩
 ·have h1:fn.name≠ "runtime.NumGoroutine" :=by simpa using hname
  simp[callFunc,hf,h1,hb,Go.mark]
 ·refine(callsIn_wide (n:=0)).1 (callsIn_of_wp_marks (F:=Fence.wide) hf hb trivial ?_)
  refine h ⟨none,w,cm pW⟩ rfl hw rfl _ w ⟨?_,?_,rfl,bG.refl _ _,hH⟩
  ·have:=Nat.le_of_ble_eq_true ha
   simp;omega
  ·intro d v hd
   obtain⟨_,h2⟩:=adL args 0 d v hd;simp only[Nat.sub_zero]at h2;have hlt:=(List.getElem?_eq_some_iff.1 h2).1;rw[Array.getElem?_append_left (by simpa using hlt)];simpa using h2
section
variable {α:Type} {P:Program} {N:Nat} {c:Cx} {F:gp} {H:List aO} {d:Option Tmp} {ty:TypeId} {ps:String} {af:Array Edge} {g:Option (Nat×Bool)}
theorem ot{P:Program}{f:Nat}{args:Array Value}{w:World}{R:Ending->World->Prop}(ro:Option Nat)(h:Calls P f args w R):CallsIn (FA ro) 0 P f args w R:=
 ⟨trivial,λcs _ =>by
  obtain⟨e,w',fr,r,s,x⟩:=((callsIn_wide (n:=0)).2 h).2 cs (room_wide _);exact⟨e,w',fr,r,s,x⟩⟩
theorem aci{x:Operand}{args:List Operand}{ats:Array TypeId}{f:Nat}{fst cap:Array Value}{us vs:List Value}{pre:World->Prop}{p:α->Prop}{fv:α->Value}{fH:α->List aO}
  (hc:Fn P f vs pre [] p fv fH)(hx:ev F x=some (.func (.func f) fst cap))(ha:I2 F args=some us)(hv:fst.toList++us++cap.toList=vs)
  (hpre:∀w,bG c.bs c.w0 w->cC c.bs c.w0.heap.size H w->pre w):
  RX P N c ⟨d, .call ⟨.value x,args.toArray,ats⟩,ty,ps,af,g⟩ F H p fv (λi=>fH i++H):=λD a w next Q hst hk=>by
 refine⟨λ_ _ =>trivial,?_⟩;have hs:Oper.semAt (FA c.ro).round a.eval (⟨d, .call ⟨.value x,args.toArray,ats⟩,ty,ps,af,g⟩:Oper)=execOp a.eval ⟨d, .call ⟨.value x,args.toArray,ats⟩,ty,ps,af,g⟩:=Oper.semAt_eq _ _ _ (by simp);have hr:(execOp a.eval ⟨d, .call ⟨.value x,args.toArray,ats⟩,ty,ps,af,g⟩).run P w= .ok (.enter f vs.toArray) w:=by
  have e1:=bz hst.fr hx;have e2:=Pn hst.fr ha;have e3:fst++(args.toArray.map a.eval)++cap=vs.toArray:=by rw[← hv, ← e2];simp
  simp only[execOp,resolve,e1,Deferred.ofValue,Sem.run_bind,Sem.run_pure,Result.andThen_ok,invoke,e3];exact hc.enter _ _
 rw[hs,hr];refine⟨λh=>by simp at h,ot c.ro ?_⟩;have zc:=hc.calls w (hpre w hst.si hst.hp) (cC.nil _ _ _);intro cs;obtain⟨e,w',fr,⟨i,hp,he,hsi,hh⟩,rest⟩:=zc cs;refine⟨e,w',fr,?_,rest⟩;subst he;refine hk i w' hp (hst.si.ext hsi) ?_;have hH:=hst.hp.ext hsi;refine⟨λr hm=>?_,λr hm b hb=>?_,?_⟩
 ·rcases List.mem_append.1 hm with h1|h1
  ·exact hh.holds r h1
  ·exact hH.holds r h1
 ·rcases List.mem_append.1 hm with h1|h1
  ·obtain⟨o,l⟩:=hh.own r h1 b hb
   simp[cm]at o;exact⟨.inr (Nat.le_trans hst.si.size o),l⟩
  ·exact hH.own r h1 b hb
 ·refine List.pairwise_append.2 ⟨hh.apart,hH.apart,λr h1 s h2 b hb Vf=>?_⟩
  have l:=(hst.hp.own s h2 b Vf).2;obtain⟨o,_⟩:=hh.own r h1 b hb;simp[cm]at o;omega
theorem V5{args:List Operand}{ats:Array TypeId}{f:Nat}{vs:List Value}{pre:World->Prop}{p:α->Prop}{fv:α->Value}{fH:α->List aO}
  (hc:Fn P f vs pre [] p fv fH)(ha:I2 F args=some vs)(hpre:∀w,bG c.bs c.w0 w->cC c.bs c.w0.heap.size H w->pre w):
  RX P N c ⟨d, .call ⟨.value (.func f),args.toArray,ats⟩,ty,ps,af,g⟩ F H p fv (λi=>fH i++H):=
 aci (fst:= #[]) (cap:= #[]) (us:=vs) hc rfl ha (by simp) hpre
theorem PE{args:List Operand}{ats:Array TypeId}{f:Nat}{vs:List Value}{v:Value}{pre:World->Prop}(hc:FnW P f vs pre v)(ha:I2 F args=some vs)(hpre:∀w,bG c.bs c.w0 w->cC c.bs c.w0.heap.size H w->pre w):
  VS P N c ⟨d, .call ⟨.value (.func f),args.toArray,ats⟩,ty,ps,af,g⟩ F H v:=λD a w next Q hst hk=>by
 refine⟨λ_ _ =>trivial,?_⟩;have hs:Oper.semAt (FA c.ro).round a.eval (⟨d, .call ⟨.value (.func f),args.toArray,ats⟩,ty,ps,af,g⟩:Oper)=execOp a.eval ⟨d, .call ⟨.value (.func f),args.toArray,ats⟩,ty,ps,af,g⟩:=Oper.semAt_eq _ _ _ (by simp);have hr:(execOp a.eval ⟨d, .call ⟨.value (.func f),args.toArray,ats⟩,ty,ps,af,g⟩).run P w= .ok (.enter f vs.toArray) w:=by
  have e2:=Pn hst.fr ha;have e1:a.eval (.func f)= .func (.func f) #[] #[]:=rfl;have e3: #[]++(args.toArray.map a.eval)++ #[]=vs.toArray:=by rw[← e2];simp
  simp only[execOp,resolve,e1,Deferred.ofValue,Sem.run_bind,Sem.run_pure,Result.andThen_ok,invoke,e3];exact hc.enter _ _
 rw[hs,hr];refine⟨λh=>by simp at h,ot c.ro ?_⟩;have zc:=hc.calls w (hpre w hst.si hst.hp) (cC.nil _ _ _);intro cs;obtain⟨e,w',fr,⟨i,hp,he,hsi,hh⟩,rest⟩:=zc cs;refine⟨e,w',fr,?_,rest⟩;subst he;exact hk w' hsi
end
end Go.Bw
namespace Go.Bw
open Go Go.RowKit
theorem Nr{F:gp}:∀{ks:List Nat} {d:Nat} {v:Value},d∈ks->lk F d=some v->lk (uI F ks) d=some v:=by
 intro ks
 induction ks with
 |nil=>intro d v h;simp at h
 |cons k r ih=>
  intro d v h hl;simp only[uI];by_cases e:k=d
  ·subst e;rw[hl];simp[lk]
  ·have hm:d∈r:=by simpa[Ne.symm e]using h
   split
   ·simp only[lk,xD e,cond_false];exact ih hm hl
   ·exact ih hm hl
section
variable (ops:Array Oper)
def Dy(i:Nat):List Nat:=match ops[i]? with
 |some o=>(o.after.toList.filter λe=>Region.binds .any e).map (·.on)
 |none=>[]
def tq(i:Nat):Option Nat:=(ops[i]?).bind (·.dst)
end
variable {P:Program} {N:Nat} {c:Cx} {D:List Deferred} {ops:Array Oper} {Q:Exit->Act->World->Prop}
def VG(P:Program)(N:Nat)(c:Cx)(ops:Array Oper)(o:Oper)(F:gp)(H:List aO)(v:Value):Prop:=∀D a w next Q,St N c D F H a w->(∀w',bG [] w w'->next (a.put o.dst v) w')->if Region.wanted o (yielded ops a.tmps)then o.wpIn (FA c.ro) 0 P a w next Q else next (a.put o.dst undef) w
theorem ab4{o:Oper}{F:gp}{H:List aO}{v:Value}(hg:o.guard=none)(h:VS P N c o F H v):VG P N c ops o F H v:=λD a w next Q hst hk=>by simp only[Region.wanted,hg,if_true];exact h D a w next Q hst hk
def RG{α:Type}(P:Program)(N:Nat)(c:Cx)(ops:Array Oper)(o:Oper)(F:gp)(H:List aO)(p:α->Prop)(fv:α->Value)(fH:α->List aO):Prop:=∀D a w next Q,St N c D F H a w->(∀x w',p x->bG c.bs c.w0 w'->cC c.bs c.w0.heap.size (fH x) w'->next (a.put o.dst (fv x)) w')->if Region.wanted o (yielded ops a.tmps)then o.wpIn (FA c.ro) 0 P a w next Q else next (a.put o.dst undef) w
theorem ai0{α:Type}{o:Oper}{F:gp}{H:List aO}{p:α->Prop}{fv:α->Value}{fH:α->List aO}(hg:o.guard=none)(h:RX P N c o F H p fv fH):RG P N c ops o F H p fv fH:=λD a w next Q hst hk=>by simp only[Region.wanted,hg,if_true];exact h D a w next Q hst hk
def RQ{α:Type}(P:Program)(N:Nat)(c:Cx)(D:List Deferred)(ops:Array Oper)(Q:Exit->Act->World->Prop)(o:Oper)(F:gp)(H:List aO)(p:α->Prop)(fv:α->Value)(fH:α->List aO):Prop:=∀a w next,St N c D F H a w->(∀x w',p x->bG c.bs c.w0 w'->cC c.bs c.w0.heap.size (fH x) w'->next (a.put o.dst (fv x)) w')->if Region.wanted o (yielded ops a.tmps)then o.wpIn (FA c.ro) 0 P a w next Q else next (a.put o.dst undef) w
abbrev Fl:=Nat×List Nat
def Gm(P:Program)(N:Nat)(c:Cx)(ops:Array Oper)(F:gp)(H:List aO):List Fl->Prop
 |[]=>True
 |(i,ks)::r=>(∃o d v,ops[i]? =some o/\o.dst=some d/\lk F d=some v/\VG P N c ops o (uI F ks) H v)/\Gm P N c ops F H r
def u6(P:Program)(N:Nat)(c:Cx)(ops:Array Oper)(H:List aO):List Fl->gp->(gp->Prop)->Prop
 |[],F,K=>K F
 |(i,ks)::r,F,K=>∃o d v,ops[i]? =some o/\o.dst=some d/\Nat.blt d N=true/\VG P N c ops o (uI F ks) H v/\u6 P N c ops H r ((d,v)::F) K
inductive Tr where
 |fin (re new:List Fl)
 |Mg (re new:List Fl) (t:Tr)
 |alt (s:Nat) (ks:List Nat) (here fE:Tr)
 |no
def Tr.alts:Tr->List Nat
 | .alt s _ _ fE=>s::fE.alts
 |_ =>[]
def Tr.M5:Tr->Bool
 | .fin _ _ =>true
 | .Mg _ _ _ =>true
 |_ =>false
def GM(P:Program)(N:Nat)(c:Cx)(D:List Deferred)(ops:Array Oper)(Q:Exit->Act->World->Prop):Tr->gp->List aO->Prop
 | .fin re new,F,H=>Gm P N c ops F H re/\u6 P N c ops H new F λF'=>WQ N c D Q .normal F' H
 | .Mg re new t,F,H=>Gm P N c ops F H re/\u6 P N c ops H new F λF'=>GM P N c D ops Q t F' H
 | .alt s ks here fE,F,H=>(∃(o:Oper) (α:Type) (p:α->Prop) (fv:α->Value) (fH:α->List aO),ops[s]? =some o/\dOk N o.dst=true/\RQ P N c D ops Q o (uI F ks) H p fv fH/\∀x,p x->GM P N c D ops Q here (pt o.dst (fv x) F) (fH x))/\GM P N c D ops Q fE F H
 | .no,_,_ =>True
def VU(ops:Array Oper)(s:Nat):List Nat:=(List.range s).reverse.foldl (λacc j=>if(Dy ops s).contains j||acc.any (λk=>(Dy ops k).contains j)then j::acc else acc) []
def zb(ops:Array Oper)(pu:List Nat)(i d:Nat):Bool:=pu.all λj=> !(tq ops j==some d)||(Dy ops i).contains j
def Hu(ops:Array Oper)(pu:List Nat):(seen:List Nat)->List Fl->Bool
 |_,[]=>true
 |seen,(i,ks)::r=>(Dy ops i).all seen.contains&& !seen.contains i&&pu.contains i&&ks.all (zb ops pu i)&&Hu ops pu (i::seen) r
def ZM(ops:Array Oper)(pu:List Nat):Tr->(en A5 v7:List Nat)->Bool
 | .fin re new,en,A5,v7=>A5.all (re.map (·.1)).contains&&re.all (λq=>q.2.all (zb ops pu q.1))&&Hu ops pu (en++v7) new&&
   (List.range ops.size).all λi=>en.contains i||(new.map (·.1)).contains i||v7.contains i
 | .Mg re new t,en,A5,v7=>
  A5.all (re.map (·.1)).contains&&re.all (λq=>q.2.all (zb ops pu q.1))&&Hu ops pu (en++v7) new&&
  (List.range ops.size).all (λi=>t.alts.contains i||(new.map (·.1)).contains i||en.contains i||v7.contains i||(Dy ops i).any λj=> !((new.map (·.1)).contains j||en.contains j||v7.contains j))&&
  !t.alts.isEmpty&&ZM ops pu t (en++new.map (·.1)) (A5++new.map (·.1)) v7
 | .alt s ks here fE,en,A5,v7=>ks.all (zb ops pu s)&& !pu.contains s&& !v7.contains s&&here.M5&&ZM ops pu here en (A5.filter λi=> !(VU ops s).contains i) (s::v7)&&ZM ops pu fE en A5 v7
 | .no,_,_,_ =>true
def XL(ops:Array Oper)(pu:List Nat):Bool:=(List.range ops.size).all (λi=>(Dy ops i).all λj=>Nat.blt j i)&& pu.all λj=>(List.range ops.size).all λi=>i==j|| !(tq ops i==tq ops j)||(tq ops j).isNone
def Nh:Tr->List Nat
 | .fin _ new=>new.map (·.1)
 | .Mg _ new t=>new.map (·.1)++Nh t
 | .alt _ _ here fE=>Nh here++Nh fE
 | .no=>[]
def afh(ops:Array Oper)(t:Tr):Bool:=t.M5&&XL ops (Nh t)&&ZM ops (Nh t) t [] [] []
def dn(l:Array Bool)(j:Nat):Prop:=l.getD j false=true
theorem j9{l:Array Bool}{i j:Nat}(hi:i<l.size):dn (l.setIfInBounds i true) j↔dn l j\/j=i:=by
 unfold dn;simp only[Array.getD_eq_getD_getElem?,Array.getElem?_setIfInBounds];by_cases e:i=j
 ·subst e;simp[hi]
 ·simp[e,Ne.symm e]
theorem y9{l:Array Bool}{i:Nat}(hs:l.size=ops.size):i∈Region.ready .any ops l↔i<ops.size/\¬dn l i/\∀j∈Dy ops i,dn l j:=by
 unfold Region.ready dn Dy;simp only[List.mem_filter,List.mem_range,aoX,Bool.not_eq_true'];constructor
 ·rintro⟨h1,h2,h3⟩
  have hi:i<l.size:=by omega
  refine⟨h1,?_,?_⟩
  ·simp[Array.getD_eq_getD_getElem?,hi]at h2 ⊢;exact h2
  ·cases ho:ops[i]? with
   |none=>simp
   |some o=>simp only[ho,Option.map_some,Option.getD_some,Array.all_eq_true']at h3;simp only[List.mem_map,List.mem_filter];rintro j ⟨e,⟨he,hb⟩,rfl⟩;have:=h3 e (by simpa using he);simpa[hb]using this
 ·rintro⟨h1,h2,h3⟩
  have hi:i<l.size:=by omega
  have ho:ops[i]? =some ops[i]:=Array.getElem?_eq_getElem h1;refine⟨h1,?_,?_⟩
  ·simp[Array.getD_eq_getD_getElem?,hi]at h2 ⊢;exact h2
  ·simp only[ho,Option.map_some,Option.getD_some,Array.all_eq_true']
   simp only[ho,List.mem_map,List.mem_filter]at h3;intro e he;cases hb:Region.binds .any e with
   |false=>simp
   |true=>simp only[Bool.not_true,Bool.false_or];exact h3 e.on ⟨e,⟨by simpa using he,hb⟩,rfl⟩
theorem abG{l:Array Bool}{s:Nat}(uP:∀j,dn l j->∀k∈Dy ops j,dn l k)(hs:∀j∈Dy ops s,dn l j):∀j∈VU ops s,dn l j:=by
 have key:∀(L:List Nat) (acc:List Nat),(∀j∈acc,dn l j)->∀j∈L.foldl (λacc j=>if(Dy ops s).contains j||acc.any (λk=>(Dy ops k).contains j)then j::acc else acc) acc,dn l j:=by
  intro L
  induction L with
  |nil=>intro acc h;exact h
  |cons x L ih=>
   intro acc h;simp only[List.foldl_cons];refine ih _ ?_;split
   ·rename_i hc
    intro j hj;rcases List.mem_cons.1 hj with rfl|hj
    ·simp only[Bool.or_eq_true,List.contains_eq_mem,decide_eq_true_eq,List.any_eq_true]at hc
     rcases hc with hc|⟨k,hk,hc⟩
     ·exact hs _ hc
     ·exact uP k (h k hk) _ hc
    ·exact h j hj
   ·exact h
 exact key _ [] (by simp)
structure Inv(P:Program)(N:Nat)(c:Cx)(D:List Deferred)(ops:Array Oper)(pu en pn v7:List Nat)(l:Array Bool)(F:gp)(H:List aO)(a:Act)(w:World):Prop where
 size:l.size=ops.size
 seen:∀j,dn l j->j∈en\/j∈v7
 sp:∀j∈v7,dn l j
 A5:∀j∈en,¬dn l j->j∈pn
 Xo:∀j∈en,j∈pu
 gO:∀j∈en,∀k∈Dy ops j,k∈en\/k∈v7
 tm:a.tmps.size=N
 df:a.defers=D
 si:bG c.bs c.w0 w
 hp:cC c.bs c.w0.heap.size H w
 cl:∀j,dn l j->∀k∈Dy ops j,dn l k
 fr:∀d v,lk F d=some v->(∀j∈en,tq ops j=some d->dn l j)->a.tmps[d]? =some v
def aeX(P:Program)(N:Nat)(c:Cx)(ops:Array Oper)(pu:List Nat)(F:gp)(H:List aO)(j:Nat):Prop:=∃ks o d v,ops[j]? =some o/\o.dst=some d/\Nat.blt d N=true/\lk F d=some v/\VG P N c ops o (uI F ks) H v/\∀k∈ks,zb ops pu j k=true
theorem Inv.st{pu en pn v7:List Nat}{l:Array Bool}{F:gp}{H:List aO}{a:Act}{w:World}(h:Inv P N c D ops pu en pn v7 l F H a w){i:Nat}{ks:List Nat}(hk:∀k∈ks,zb ops pu i k=true)
  (hr:∀j∈Dy ops i,dn l j):St N c D (uI F ks) H a w:=by
 refine⟨h.tm,λd v hd=>?_,h.df,h.si,h.hp⟩;obtain⟨h1,h2⟩:=OV hd;refine h.fr d v h2 λj hj JA=>?_;have:=hk d h1;simp only[zb,List.all_eq_true,Bool.or_eq_true,Bool.not_eq_true',List.contains_eq_mem,decide_eq_true_eq]at this;rcases this j (h.Xo j hj)with h3|h3
 ·rw[JA]at h3;simp at h3
 ·exact hr j h3
theorem QB{pu:List Nat}(h:XL ops pu=true){i j:Nat}(hi:i<ops.size)(hj:j∈Dy ops i):j<i:=by simp only[XL,aoX,List.all_eq_true,List.mem_range]at h;have:=h.1 i hi j hj;simpa[Nat.blt_eq]using this
theorem UQ{pu:List Nat}(h:XL ops pu=true){i j d:Nat}(hj:j∈pu)(hi:tq ops i=some d)(hd:tq ops j=some d):i=j:=by
 simp only[XL,aoX,List.all_eq_true,List.mem_range]at h;have hlt:i<ops.size:=by
  unfold tq at hi;cases ho:ops[i]? with
  |none=>simp[ho]at hi
  |some o=>exact(ao2.1 ho).1
 have:=h.2 j hj i hlt;rw[hi,hd]at this;simpa using this
theorem F3{i:Nat}{o:Oper}{d:Nat}(ho:ops[i]? =some o)(hd:o.dst=some d):tq ops i=some d:=by simp[tq,ho,hd]
theorem WU{pu:List Nat}(hD:XL ops pu=true){H:List aO}{K:gp->Prop}:∀{new:List Fl} {seen:List Nat} {F:gp},u6 P N c ops H new F K->Hu ops pu seen new=true->
  ∃F2,K F2/\(∀i∈new.map (·.1),i∈pu/\i∉seen)/\
   (∀d,(∀j∈new.map (·.1),tq ops j≠some d)->lk F2 d=lk F d)/\
   (∀i∈new.map (·.1),aeX P N c ops pu F2 H i)/\(∀i∈new.map (·.1),∀k∈Dy ops i,k∈seen\/k∈new.map (·.1)):=by
 intro new
 induction new with
 |nil=>intro seen F h _;exact⟨F,h,by simp,by simp,by simp,by simp⟩
 |cons q r ih=>
  obtain⟨i,ks⟩:=q;intro seen F h hc;obtain⟨o,d,v,ho,hd,hN,hv,hn⟩:=h;simp only[Hu,aoX,Bool.not_eq_true',List.all_eq_true,List.contains_eq_mem,decide_eq_true_eq,decide_eq_false_iff_not]at hc;obtain⟨⟨⟨⟨h1,h2⟩,h3⟩,h4⟩,h5⟩:=hc;obtain⟨F2,k1,k2,k3,k4,k5⟩:=ih hn h5;have hdi:=F3 ho hd;refine⟨F2,k1,?_,?_,?_,?_⟩
  ·intro j hj
   rcases List.mem_cons.1 hj with rfl|hj
   ·exact⟨h3,h2⟩
   ·obtain⟨e1,e2⟩:=k2 j hj
    exact⟨e1,λhm=>e2 (by simp[hm])⟩
  ·intro d' hd'
   rw[k3 d' (λj hj=>hd' j (by simp only[List.map_cons];exact ao6 _ hj))];have:¬d=d':=λe=>hd' i (by simp) (by rw[hdi,e]);simp[lk,xD this]
  ·intro j hj
   rcases List.mem_cons.1 hj with rfl|hj
   ·refine⟨ks,o,d,v,ho,hd,hN,?_,?_,h4⟩
    ·rw[k3 d (λj hj JA=>by
      have:=UQ hD (k2 j hj).1 hdi JA;exact(k2 j hj).2 (by simp[← this]))]
     simp[lk]
    ·intro D' a w next Q' hst hk
     refine hv D' a w next Q' (hst.sub λd' v' hl=>?_) hk
     obtain⟨e1,e2⟩:=OV hl;refine Nr e1 ?_;rw[k3 d' (λj hj JA=>by
      have hkk:=h4 d' e1;simp only[zb,List.all_eq_true,Bool.or_eq_true,Bool.not_eq_true',List.contains_eq_mem,decide_eq_true_eq]at hkk;rcases hkk j (k2 j hj).1 with h6|h6
      ·rw[JA]at h6;simp at h6
      ·exact(k2 j hj).2 (by simp[h1 j h6]))]
     have:¬d=d':=λe=>by
      have hkk:=h4 d' e1;simp only[zb,List.all_eq_true,Bool.or_eq_true,Bool.not_eq_true',List.contains_eq_mem,decide_eq_true_eq]at hkk;rcases hkk j h3 with h6|h6
      ·rw[hdi,e]at h6;simp at h6
      ·exact h2 (h1 j h6)
     simp only[lk,xD this,cond_false];exact e2
   ·exact k4 j hj
  ·intro j hj k hk
   rcases List.mem_cons.1 hj with rfl|hj
   ·exact .inl (h1 k hk)
   ·rcases k5 j hj k hk with h6|h6
    ·rcases List.mem_cons.1 h6 with rfl|h6
     ·exact .inr (by simp)
     ·exact .inl h6
    ·exact .inr (by simp only[List.map_cons];exact ao6 _ h6)
theorem Zj{F:gp}{H:List aO}:∀{re:List Fl} {i:Nat},Gm P N c ops F H re->i∈re.map (·.1)->∃ks o d v,(i,ks)∈re/\ops[i]? =some o/\o.dst=some d/\lk F d=some v/\VG P N c ops o (uI F ks) H v:=by
 intro re
 induction re with
 |nil=>intro i _ hi;simp at hi
 |cons q r ih=>
  obtain⟨j,ks⟩:=q;intro i h hi;obtain⟨⟨o,d,v,h1,h2,h3,h4⟩,h5⟩:=h;rcases List.mem_cons.1 hi with rfl|hi
  ·exact⟨ks,o,d,v,by simp,h1,h2,h3,h4⟩
  ·obtain⟨ks',o',d',v',e1,e2⟩:=ih h5 hi
   exact⟨ks',o',d',v',by simp[e1],e2⟩
def aje(P:Program)(N:Nat)(c:Cx)(D:List Deferred)(ops:Array Oper)(Q:Exit->Act->World->Prop)(pu:List Nat)(en pn v7:List Nat)(F:gp)(H:List aO):Prop:=((∀i,i<ops.size->i∈en\/i∈v7)/\WQ N c D Q .normal F H)\/ ∃t:Tr,GM P N c D ops Q t F H/\ZM ops pu t en pn v7=true/\t.alts≠[]/\(∀i,i<ops.size->i∈t.alts\/i∈en\/i∈v7\/∃j∈Dy ops i,j∉en/\j∉v7)
theorem VV{pu en pn v7:List Nat}{F:gp}{H:List aO}{i:Nat}:∀{t:Tr},i∈t.alts->GM P N c D ops Q t F H->ZM ops pu t en pn v7=true->
  ∃(ks:List Nat) (o:Oper) (α:Type) (p:α->Prop) (fv:α->Value) (fH:α->List aO) (r:Tr),ops[i]? =some o/\dOk N o.dst=true/\RQ P N c D ops Q o (uI F ks) H p fv fH/\(∀x,p x->GM P N c D ops Q r (pt o.dst (fv x) F) (fH x))/\
   (∀k∈ks,zb ops pu i k=true)/\i∉pu/\i∉v7/\r.M5=true/\ZM ops pu r en (pn.filter λj=> !(VU ops i).contains j) (i::v7)=true:=by
 intro t
 induction t with
 |fin re new=>intro h;simp[Tr.alts]at h
 |Mg re new t _ =>intro h;simp[Tr.alts]at h
 |no=>intro h;simp[Tr.alts]at h
 |alt s ks here fE _ ih=>
  intro h hs hc;obtain⟨h1,h2⟩:=hs;simp only[ZM,aoX,Bool.not_eq_true',List.all_eq_true]at hc;obtain⟨⟨⟨⟨⟨c1,c2⟩,c3⟩,c4⟩,c5⟩,c6⟩:=hc;rcases List.mem_cons.1 h with rfl|h
  ·obtain⟨o,α,p,fv,fH,e1,e2,e3,e4⟩:=h1
   exact⟨ks,o,α,p,fv,fH,here,e1,e2,e3,e4,c1,by simpa using c2,by simpa using c3,c4,c5⟩
  ·exact ih h h2 c6
theorem agJ{i:Nat}{d:Nat}(h:tq ops i=some d):i<ops.size:=by
 unfold tq at h;cases ho:ops[i]? with
 |none=>simp[ho]at h
 |some o=>exact(ao2.1 ho).1
theorem enter{pu:List Nat}(hD:XL ops pu=true){en A5 v7:List Nat}{l:Array Bool}{F:gp}{H:List aO}{a:Act}{w:World}{st:Tr}(hst:st.M5=true)
  (hI:Inv P N c D ops pu en A5 v7 l F H a w)(hN:∀j∈en,∀d,tq ops j=some d->Nat.blt d N=true)(hs:GM P N c D ops Q st F H)(hc:ZM ops pu st en A5 v7=true):
  ∃en2 pn2 F2,Inv P N c D ops pu en2 pn2 v7 l F2 H a w/\(∀j∈en2,∀d,tq ops j=some d->Nat.blt d N=true)/\(∀j∈en2,¬dn l j->aeX P N c ops pu F2 H j)/\aje P N c D ops Q pu en2 pn2 v7 F2 H:=by
 have key:∀{re new:List Fl} {K:gp->Prop},Gm P N c ops F H re->u6 P N c ops H new F K->(∀j∈A5,j∈re.map (·.1))->(∀q∈re,∀k∈q.2,zb ops pu q.1 k=true)->Hu ops pu (en++v7) new=true->
   ∃F2,K F2/\Inv P N c D ops pu (en++new.map (·.1)) (A5++new.map (·.1)) v7 l F2 H a w/\(∀j∈en++new.map (·.1),∀d,tq ops j=some d->Nat.blt d N=true)/\(∀j∈en++new.map (·.1),¬dn l j->aeX P N c ops pu F2 H j):=by
  intro re new K IY hnew hp hk hch;obtain⟨F2,k1,k2,k3,k4,k5⟩:=WU hD hnew hch;refine⟨F2,k1,⟨hI.size,?_,hI.sp,?_,?_,?_,hI.tm,hI.df,hI.si,hI.hp,hI.cl,?_⟩,?_,?_⟩
  ·intro j hj;rcases hI.seen j hj with h|h
   ·exact .inl (by simp[h])
   ·exact .inr h
  ·intro j hj vt
   rcases List.mem_append.1 hj with h|h
   ·exact ao1 _ (hI.A5 j h vt)
   ·exact ao0 _ h
  ·intro j hj
   rcases List.mem_append.1 hj with h|h
   ·exact hI.Xo j h
   ·exact(k2 j h).1
  ·intro j hj k hk'
   rcases List.mem_append.1 hj with h|h
   ·rcases hI.gO j h k hk' with h1|h1
    ·exact .inl (by simp[h1])
    ·exact .inr h1
   ·rcases k5 j h k hk' with h1|h1
    ·rcases List.mem_append.1 h1 with h2|h2
     ·exact .inl (by simp[h2])
     ·exact .inr h2
    ·exact .inl (ao0 _ h1)
  ·intro d v hl hdn
   by_cases hex:∃j∈new.map (·.1),tq ops j=some d
   ·obtain⟨j,hj,JA⟩:=hex
    have h1:=hdn j (ao0 _ hj) JA;exact absurd (hI.seen j h1) (λh2=>(k2 j hj).2 (by rcases h2 with h2|h2<;>simp[h2]))
   ·rw[k3 d (λj hj JA=>hex ⟨j,hj,JA⟩)]at hl
    exact hI.fr d v hl (λj hj JA=>hdn j (ao1 _ hj) JA)
  ·intro j hj d JA
   rcases List.mem_append.1 hj with h|h
   ·exact hN j h d JA
   ·obtain⟨ks,o,d',v,e1,e2,e3,_⟩:=k4 j h
    have:=F3 e1 e2;rw[JA]at this;cases this;exact e3
  ·intro j hj vt
   rcases List.mem_append.1 hj with h|h
   ·obtain⟨ks,o,d,v,e0,e1,e2,e3,e4⟩:=Zj IY (hp j (hI.A5 j h vt))
    have JA:=F3 e1 e2;have hkk:∀k∈ks,zb ops pu j k=true:=λk hk'=>hk _ e0 k hk';refine⟨ks,o,d,v,e1,e2,hN j h d JA,?_,?_,hkk⟩
    ·rw[k3 d (λj' hj' ahz=>by
      have:=UQ hD (k2 j' hj').1 JA ahz;subst this;exact(k2 _ hj').2 (by simp[h]))]
     exact e3
    ·intro D' a' w' next Q' hst hk'
     refine e4 D' a' w' next Q' (hst.sub λd' v' hl=>?_) hk'
     obtain⟨f1,f2⟩:=OV hl;refine Nr f1 ?_;rw[k3 d' (λj' hj' ahz=>by
      have hq:=hkk d' f1;simp only[zb,List.all_eq_true,Bool.or_eq_true,Bool.not_eq_true',List.contains_eq_mem,decide_eq_true_eq]at hq;rcases hq j' (k2 j' hj').1 with h6|h6
      ·rw[ahz]at h6;simp at h6
      ·refine(k2 j' hj').2 ?_
       rcases hI.gO j h j' h6 with h7|h7<;>simp[h7])]
     exact f2
   ·exact k4 j h
 cases st with
 |no=>simp[Tr.M5]at hst
 |alt _ _ _ _ =>simp[Tr.M5]at hst
 |fin re new=>
  obtain⟨IY,hnew⟩:=hs;simp only[ZM,aoX,List.all_eq_true,List.contains_eq_mem,decide_eq_true_eq,List.mem_range,Bool.or_eq_true]at hc;obtain⟨⟨⟨c1,c2⟩,c3⟩,c4⟩:=hc;obtain⟨F2,k1,k2,k3,k4⟩:=key IY hnew c1 c2 c3;exact⟨_,_,F2,k2,k3,k4, .inl ⟨λi hi=>by
   rcases c4 i hi with(h|h)|h
   ·exact .inl (by simp[h])
   ·exact .inl (ao0 _ h)
   ·exact .inr h,k1⟩⟩
 |Mg re new t=>
  obtain⟨IY,hnew⟩:=hs;simp only[ZM,aoX,List.all_eq_true,List.contains_eq_mem,decide_eq_true_eq,List.mem_range,Bool.or_eq_true,Bool.not_eq_true',List.any_eq_true]at hc;obtain⟨⟨⟨⟨⟨c1,c2⟩,c3⟩,c7⟩,c6⟩,c8⟩:=hc;obtain⟨F2,k1,k2,k3,k4⟩:=key IY hnew c1 c2 c3;refine⟨_,_,F2,k2,k3,k4, .inr ⟨t,k1,c8,λe=>by simp[e]at c6,λi hi=>?_⟩⟩;rcases c7 i hi with(((h|h)|h)|h)|h
  ·exact .inl h
  ·exact .inr (.inl (ao0 _ h))
  ·exact .inr (.inl (by simp[h]))
  ·exact .inr (.inr (.inl h))
  ·obtain⟨j,hj,hn⟩:=h
   refine .inr (.inr (.inr ⟨j,hj,λhm=>?_,λhm=>?_⟩))
   ·rcases List.mem_append.1 hm with h1|h1
    ·simp[h1]at hn
    ·have h1':decide (j∈new.map (·.1))=true:=aoY h1
     rw[h1']at hn;simp at hn
   ·simp[hm]at hn
theorem RC{pu:List Nat}(hD:XL ops pu=true){l:Array Bool}(hs:l.size=ops.size)(hr:Region.ready .any ops l=[]):∀i,i<ops.size->dn l i:=by
 intro i
 induction i using Nat.strongRecOn with
 |_ i ih=>
  intro hi;by_cases hd:dn l i
  ·exact hd
  ·have:i∈Region.ready .any ops l:=(y9 hs).2 ⟨hi,hd,λj hj=>ih j (QB hD hi hj) (Nat.lt_trans (QB hD hi hj) hi)⟩
   rw[hr]at this;simp at this
def w6(ops:Array Oper)(l:Array Bool):Nat:=((List.range ops.size).filter λi=> !l.getD i false).length
theorem Xl{p q:Nat->Bool}(h:∀x,q x=true->p x=true):∀(L:List Nat),(L.filter q).length<=(L.filter p).length:=by
 intro L
 induction L with
 |nil=>simp
 |cons x L ih=>
  by_cases hq:q x=true
  ·simp[hq,h x hq,ih]
  ·by_cases hp:p x=true
   ·simp[hq,hp];omega
   ·simp[hq,hp,ih]
theorem Xk{p q:Nat->Bool}(h:∀x,q x=true->p x=true){i:Nat}(hp:p i=true)(hq:q i=false):∀(L:List Nat),i∈L->(L.filter q).length<(L.filter p).length:=by
 intro L
 induction L with
 |nil=>intro hi;simp at hi
 |cons x L ih=>
  intro hi;by_cases e:i=x
  ·subst e
   have:=Xl h L;simp[hp,hq];omega
  ·have hi':i∈L:=by simpa[e]using hi
   have:=ih hi';by_cases hqx:q x=true
   ·simp[hqx,h x hqx];omega
   ·by_cases hpx:p x=true
    ·simp[hqx,hpx];omega
    ·simp[hqx,hpx];omega
theorem KB{l:Array Bool}{i:Nat}(hs:l.size=ops.size)(hi:i<ops.size)(hd:¬dn l i):w6 ops (l.setIfInBounds i true)<w6 ops l:=by
 unfold w6;have zZ:i<l.size:=by omega
 refine Xk (i:=i) (λx hx=>?_) ?_ ?_ _ (by simpa using hi)
 ·have h1:¬dn (l.setIfInBounds i true) x:=by simpa[dn]using hx
  have h2:¬dn l x:=λh=>h1 ((j9 zZ).2 (.inl h));simpa[dn]using h2
 ·simpa[dn]using hd
 ·have:dn (l.setIfInBounds i true) i:=(j9 zZ).2 (.inr rfl)
  simpa[dn]using this
theorem Wo{pu:List Nat}(hD:XL ops pu=true):∀(fuel:Nat) (l:Array Bool) (a:Act) (w:World) (en pn v7:List Nat) (F:gp) (H:List aO),w6 ops l<=fuel->
  Inv P N c D ops pu en pn v7 l F H a w->(∀j∈en,∀d,tq ops j=some d->Nat.blt d N=true)->(∀j∈en,¬dn l j->aeX P N c ops pu F H j)->aje P N c D ops Q pu en pn v7 F H->
  wpAnyIn (FA c.ro) 0 P .any ops Q fuel l a w:=by
 intro fuel;have aa3:∀(l:Array Bool) (a:Act) (w:World) (en pn v7:List Nat) (F:gp) (H:List aO),Inv P N c D ops pu en pn v7 l F H a w->aje P N c D ops Q pu en pn v7 F H->(∀i,i<ops.size->dn l i)->Q .normal a w:=by
  intro l a w en pn v7 F H hI hC xq;rcases hC with⟨_,hq⟩|⟨t,hst,hok,hne,_⟩
  ·refine hq a w ⟨hI.tm,λd v hl=>hI.fr d v hl λj _ JA=>xq j (agJ JA),hI.df,hI.si,hI.hp⟩
  ·obtain⟨s,hs⟩:=List.exists_mem_of_ne_nil _ hne
   obtain⟨ks,o,α,p,fv,fH,r,e1,_,_,_,_,e5,e6,_,_⟩:=VV hs hst hok;have hlt:=(ao2.1 e1).1;rcases hI.seen s (xq s hlt)with h|h
   ·exact absurd (hI.Xo s h) e5
   ·exact absurd h e6
 induction fuel with
 |zero=>
  intro l a w en pn v7 F H hu hI hN hV hC;have xq:∀i,i<ops.size->dn l i:=λi hi=>by unfold w6 at hu;have h0:(List.range ops.size).filter (λi=> !l.getD i false)=[]:=List.length_eq_zero_iff.1 (by omega);rw[List.filter_eq_nil_iff]at h0;have:=h0 i (by simpa using hi);simpa[dn]using this
  refine⟨?_,aa3 l a w en pn v7 F H hI hC xq⟩;cases hr:Region.ready .any ops l with
  |nil=>rfl
  |cons i r=>
   have:i∈Region.ready .any ops l:=by rw[hr];simp
   obtain⟨h1,h2,_⟩:=(y9 hI.size).1 this;exact absurd (xq i h1) h2
 |succ fuel ih=>
  intro l a w en pn v7 F H hu hI hN hV hC;refine⟨λhr=>aa3 l a w en pn v7 F H hI hC (RC hD hI.size hr),λi hi=>?_⟩;obtain⟨h1,h2,h3⟩:=(y9 hI.size).1 hi;have zZ:i<l.size:=by rw[hI.size];exact h1
  have hu':w6 ops (l.setIfInBounds i true)<=fuel:=by have:=KB hI.size h1 h2;omega
  have alh:∀j,dn (l.setIfInBounds i true) j->∀k∈Dy ops j,dn (l.setIfInBounds i true) k:=λj hj k hk=>by
   rcases(j9 zZ).1 hj with h|rfl
   ·exact(j9 zZ).2 (.inl (hI.cl j h k hk))
   ·exact(j9 zZ).2 (.inl (h3 k hk))
  by_cases hen:i∈en
  ·
   obtain⟨ks,o,d,v,e1,e2,e3,e4,e5,e6⟩:=hV i hen h2;have hst:=hI.st (i:=i) e6 h3;have hdi:=F3 e1 e2;have step:=e5 D a w (wpAnyIn (FA c.ro) 0 P .any ops Q fuel (l.setIfInBounds i true)) Q hst;have nxt:∀w',bG [] w w'->wpAnyIn (FA c.ro) 0 P .any ops Q fuel (l.setIfInBounds i true) (a.put o.dst v) w':=by
    intro w' hw;refine ih _ _ _ en pn v7 F H hu' ⟨by simp[hI.size],?_,?_,?_,hI.Xo,hI.gO,?_,?_,hI.si.ext hw,hI.hp.ext hw,alh,?_⟩ hN ?_ hC
    ·intro j hj
     rcases(j9 zZ).1 hj with h|rfl
     ·exact hI.seen j h
     ·exact .inl hen
    ·intro j hj;exact(j9 zZ).2 (.inl (hI.sp j hj))
    ·intro j hj vt;exact hI.A5 j hj λh=>vt ((j9 zZ).2 (.inl h))
    ·rw[e2];simp[Act.put,hI.tm]
    ·rw[e2];simp[Act.put,hI.df]
    ·intro d' v' hl hdn
     rw[e2];have hdN:d<a.tmps.size:=by rw[hI.tm];simpa[Nat.blt_eq]using e3
     by_cases e:d=d'
     ·subst e
      rw[e4]at hl;cases hl;simp[Act.put,hdN]
     ·simp only[Act.put,Array.getElem?_setIfInBounds,aoV e]
      refine hI.fr d' v' hl λj hj JA=>?_;rcases(j9 zZ).1 (hdn j hj JA)with h|rfl
      ·exact h
      ·rw[hdi]at JA;cases JA;exact absurd rfl e
    ·intro j hj vt
     exact hV j hj λh=>vt ((j9 zZ).2 (.inl h))
   have step:=step nxt;unfold wpOpIn;simp only[e1];split
   ·rename_i hw;simp only[hw,if_true]at step;exact step
   ·rename_i hw;simp only[hw]at step;exact⟨λ_ _ =>trivial,step⟩
  ·
   have hsp:i∉v7:=λh=>h2 (hI.sp i h);rcases hC with⟨xq,_⟩|⟨t,anJ,hok,_,e8⟩
   ·rcases xq i h1 with h|h
    ·exact absurd h hen
    ·exact absurd h hsp
   ·have his:i∈t.alts:=by
     rcases e8 i h1 with h|h|h|⟨j,hj,h4,h5⟩
     ·exact h
     ·exact absurd h hen
     ·exact absurd h hsp
     ·rcases hI.seen j (h3 j hj)with h|h
      ·exact absurd h h4
      ·exact absurd h h5
    obtain⟨ks,o,α,p,fv,fH,r,e1,e2,e3,e4,e5,e6,e7,e10,e9⟩:=VV his anJ hok;have hst:=hI.st (i:=i) e5 h3;have step:=e3 a w (wpAnyIn (FA c.ro) 0 P .any ops Q fuel (l.setIfInBounds i true)) hst;have nxt:∀x w',p x->bG c.bs c.w0 w'->cC c.bs c.w0.heap.size (fH x) w'->wpAnyIn (FA c.ro) 0 P .any ops Q fuel (l.setIfInBounds i true) (a.put o.dst (fv x)) w':=by
     intro x w' hp hsi hhp;have hI':Inv P N c D ops pu en (pn.filter λj=> !(VU ops i).contains j) (i::v7) (l.setIfInBounds i true) (pt o.dst (fv x) F) (fH x) (a.put o.dst (fv x)) w':=by
      refine⟨by simp[hI.size],?_,?_,?_,hI.Xo,?_,?_,?_,hsi,hhp,alh,?_⟩
      ·intro j hj
       rcases(j9 zZ).1 hj with h|rfl
       ·rcases hI.seen j h with h|h
        ·exact .inl h
        ·exact .inr (by simp[h])
       ·exact .inr (by simp)
      ·intro j hj
       rcases List.mem_cons.1 hj with rfl|h
       ·exact(j9 zZ).2 (.inr rfl)
       ·exact(j9 zZ).2 (.inl (hI.sp j h))
      ·intro j hj vt
       have ak4:¬dn l j:=λh=>vt ((j9 zZ).2 (.inl h));simp only[List.mem_filter,Bool.not_eq_true',List.contains_eq_mem,decide_eq_false_iff_not];exact⟨hI.A5 j hj ak4,λhm=>ak4 (abG hI.cl h3 j hm)⟩
      ·intro j hj k hk
       rcases hI.gO j hj k hk with h|h
       ·exact .inl h
       ·exact .inr (by simp[h])
      ·cases o.dst<;>simp[Act.put,hI.tm]
      ·cases o.dst<;>simp[Act.put,hI.df]
      ·intro d v hl hdn
       have old:lk F d=some v->a.tmps[d]? =some v:=λhl'=>hI.fr d v hl' λj hj JA=>by
        rcases(j9 zZ).1 (hdn j hj JA)with h|rfl
        ·exact h
        ·exact absurd (hI.Xo _ hj) e6
       cases ho:o.dst with
       |none=>rw[ho]at hl;exact old hl
       |some k=>
        rw[ho]at hl e2;have hkN:k<a.tmps.size:=by rw[hI.tm];simpa[dOk,Nat.blt_eq]using e2
        simp only[pt,lk]at hl;by_cases e:k=d
        ·subst e;simp at hl;subst hl;simp[Act.put,hkN]
        ·rw[xD e]at hl
         simp only[Act.put,Array.getElem?_setIfInBounds,aoV e];exact old hl
     obtain⟨en2,pn2,F2,k1,k2,k3,k4⟩:=enter hD e10 hI' hN (e4 x hp) e9;exact ih _ _ _ en2 pn2 (i::v7) F2 (fH x) hu' k1 k2 k3 k4
    have step:=step nxt;unfold wpOpIn;simp only[e1];split
    ·rename_i hw;simp only[hw,if_true]at step;exact step
    ·rename_i hw;simp only[hw]at step;exact⟨λ_ _ =>trivial,step⟩
section
variable {F:gp} {H:List aO}
theorem xI:Gm P N c ops F H []:=trivial
theorem NQ{i:Nat}{ks:List Nat}{r:List Fl}{d:Nat}{v:Value}{op:Op}{ty:TypeId}{ps:String}{af:Array Edge}{g:Option (Nat×Bool)}(ho:ops[i]? =some ⟨some d,op,ty,ps,af,g⟩)(hl:lk F d=some v)(hv:VG P N c ops ⟨some d,op,ty,ps,af,g⟩ (uI F ks) H v)(hr:Gm P N c ops F H r):
  Gm P N c ops F H ((i,ks)::r):=⟨⟨_,d,v,ho,rfl,hl,hv⟩,hr⟩
theorem kN{K:gp->Prop}(h:K F):u6 P N c ops H [] F K:=h
theorem EZ{i:Nat}{ks:List Nat}{r:List Fl}{K:gp->Prop}{d:Nat}{v:Value}{op:Op}{ty:TypeId}{ps:String}{af:Array Edge}{g:Option (Nat×Bool)}(ho:ops[i]? =some ⟨some d,op,ty,ps,af,g⟩)(hN:Nat.blt d N=true)
  (hv:VG P N c ops ⟨some d,op,ty,ps,af,g⟩ (uI F ks) H v)(hr:u6 P N c ops H r ((d,v)::F) K):u6 P N c ops H ((i,ks)::r) F K:=⟨_,d,v,ho,rfl,hN,hv,hr⟩
theorem yq{re new:List Fl}{t:Tr}(h1:Gm P N c ops F H re)(h2:u6 P N c ops H new F λF'=>GM P N c D ops Q t F' H):GM P N c D ops Q (.Mg re new t) F H:=⟨h1,h2⟩
theorem ab8:GM P N c D ops Q .no F H:=trivial
theorem RM{s:Nat}{ks:List Nat}{here fE:Tr}{d:Nat}{op:Op}{ty:TypeId}{ps:String}{af:Array Edge}{g:Option (Nat×Bool)}{α:Type}{p:α->Prop}{fv:α->Value}{fH:α->List aO}
  (ho:ops[s]? =some ⟨some d,op,ty,ps,af,g⟩)(hN:Nat.blt d N=true)(hv:RG P N c ops ⟨some d,op,ty,ps,af,g⟩ (uI F ks) H p fv fH)(h:∀x,p x->GM P N c D ops Q here ((d,fv x)::F) (fH x))(hm:GM P N c D ops Q fE F H):GM P N c D ops Q (.alt s ks here fE) F H:=
 ⟨⟨_,α,p,fv,fH,ho,hN,λa w next=>hv D a w next Q,h⟩,hm⟩
theorem ab7{s:Nat}{ks:List Nat}{here fE:Tr}{op:Op}{ty:TypeId}{ps:String}{af:Array Edge}{g:Option (Nat×Bool)}{α:Type}{p:α->Prop}{fv:α->Value}{fH:α->List aO}
  (ho:ops[s]? =some ⟨none,op,ty,ps,af,g⟩)(hv:RG P N c ops ⟨none,op,ty,ps,af,g⟩ (uI F ks) H p fv fH)(h:∀x,p x->GM P N c D ops Q here F (fH x))(hm:GM P N c D ops Q fE F H):GM P N c D ops Q (.alt s ks here fE) F H:=
 ⟨⟨_,α,p,fv,fH,ho,rfl,λa w next=>hv D a w next Q,h⟩,hm⟩
end
theorem Py{id:Nat}{l:List Oper}{F:gp}{H:List aO}(hm:P.follows .mixedOrders=true)(st:Tr)(hok:afh l.toArray st=true)
  (h:GM P N c D l.toArray Q st F H):WP P N c D (.region id l.toArray true) Q F H:=λa w hst=>by
 simp only[afh,aoX]at hok;refine wpIn_region_any hm ?_;have hdn:∀j,¬dn (Array.replicate l.toArray.size false) j:=λj h=>by unfold dn at h;simp only[Array.getD_eq_getD_getElem?,Array.getElem?_replicate]at h;split at h<;>simp at h
 have hI:Inv P N c D l.toArray (Nh st) [] [] [] (Array.replicate l.toArray.size false) F H a {w with drawn:=w.drawn+1}:=
  ⟨by simp,λj hj=>absurd hj (hdn j),by simp,by simp,by simp,by simp,hst.tm,hst.df,hst.si.drawn _,⟨λr hr=>hst.hp.holds r hr,hst.hp.own,hst.hp.apart⟩,λj hj=>absurd hj (hdn j),λd v hl _ =>hst.fr d v hl⟩
 obtain⟨en2,pn2,F2,k1,k2,k3,k4⟩:=enter hok.1.2 hok.1.1 hI (by simp) h hok.2;refine Wo hok.1.2 _ _ _ _ en2 pn2 [] F2 H ?_ k1 k2 k3 k4;unfold w6;exact Nat.le_trans (List.length_filter_le _ _) (by simp)
end Go.Bw
namespace Go.Bw
open Go Go.RowKit
theorem Rj{F:gp}{x:Operand}{r:List Operand}{v:Value}{vs:List Value}(h:ev F x=some v)(hr:I2 F r=some vs):I2 F (x::r)=some (v::vs):=by simp[I2,h,hr]
def jy(v:Value)(k:Nat):Value:=match v with
 | .slice (some a) _ _ => .pointer (some ⟨a.block,a.off+k,none⟩)
 |_ =>undef
theorem Ro.since{w w':World}{v:Value}{sz n:Nat}{xs:List Value}(h:Ro w v sz n xs)(hs:bG [] w w'):Ro w' v sz n xs:=by
 refine⟨h.1,?_⟩;rcases h.2 with h0|⟨g,off,cap,h1,h2,h3,h4⟩
 ·exact .inl h0
 ·exact .inr ⟨g,off,cap,h1,Nat.lt_of_lt_of_le h2 hs.size,h3,λj u hu=>(World.cell?_of_block (hs.block g h2 (by simp))).trans (h4 j u hu)⟩
theorem Ro.zR{w:World}{v:Value}{e sz n:Nat}{xs:List Value}(h:(aO.row v e sz n xs).holds w):Ro w v sz n xs:=by
 have h':w.ownsRow 0 e sz v n xs:=h;refine⟨h'.1,?_⟩;rcases h'.2 with h0|⟨g,cap,cur,h1,_,h3,h4,_,h5,h6⟩
 ·exact .inl ⟨⟨_,_,h0.1⟩,h0.2⟩
 ·refine .inr ⟨g,0,cap,h1,(ao2.1 h3).1,h4,λj u hu=>?_⟩
  have:=World.ownsRow.cells (g:=g) h' (by rw[h1];rfl) j u hu;rwa[Addr.add_lit]at this
theorem Ro.at {w:World}{v:Value}{sz n m:Nat}{xs:List Value}(h:Ro w v sz n xs)(hm:m<n):∃g off cap,v= .slice (some ⟨g,off,none⟩) n cap/\g<w.heap.size/\n<=cap/\∀(j:Nat) u,xs[j]? =some u->w.cell? ⟨g,off+j,none⟩=some u:=by
 rcases h.2 with⟨_,h0⟩|h1
 ·omega
 ·exact h1
section
variable {P:Program} {N:Nat} {c:Cx} {F:gp} {H:List aO} {d:Option Tmp} {ty:TypeId} {p:String} {af:Array Edge} {g:Option (Nat×Bool)}
class tv(c:Cx)(H:List aO)(v:Value)(sz n:outParam Nat)(xs:outParam (List Value)):Prop where
 ro:∀w,bG c.bs c.w0 w->cC c.bs c.w0.heap.size H w->Ro w v sz n xs
theorem Uc{x:Operand}{v:Value}{t e q sz n:Nat}{xs:List Value}[ht:zo P t e q](hx:ev F x=some v)[h:tv c H v sz n xs]:VS P N c ⟨d, .call ⟨.builtin .len, #[x], #[t]⟩,ty,p,af,g⟩ F H (.int .i64 n):=
 bp (by simp) λa w hf hs hp=>by have hr:=h.ro w hs hp;obtain⟨inf,h1,_,_⟩:=zo.get ht.ok;rcases hr.2 with⟨⟨a0,cp,rfl⟩,rfl⟩|⟨g,off,cap,rfl,_⟩<;>simp[execOp,resolve,invoke,builtin,bz hf hx,Builtin.len_,goInt,run_underlying h1]
theorem As{x y:Operand}{t e sz n:Nat}{v:Value}{xs:List Value}{k:IntKind}{i:Int}{m:Nat}[ht:zo P t e sz](hx:ev F x=some v)(hy:ev F y=some (.int k i))[h:tv c H v sz n xs](hi:i=(m:Int))(hm:m<n):
  VS P N c ⟨d, .indexAddr t x y,ty,p,af,g⟩ F H (jy v (m*sz)):=
 bp (by simp) λa w hf hs hp=>by obtain⟨g,off,cap,rfl,_,_,_⟩:=(h.ro w hs hp).at hm;obtain⟨inf,h1,h2,h3⟩:=zo.get ht.ok;subst hi;simp[execOp,bz hf hx,bz hf hy,Instr.indexAt,asIntOf,run_underlying h1,sizeOf,typeInfo,h2,h3,Addr.add_lit,jy];intro hle;omega
theorem PD{x:Operand}{s f fo k m sz n:Nat}{v:Value}{xs:List Value}[Gk P s f fo](hx:ev F x=some (jy v k))[h:tv c H v sz n xs](hm:m<n):VS P N c ⟨d, .fieldAddr s x f,ty,p,af,g⟩ F H (jy v (k+fo)):=
 bp (by simp) λa w hf hs hp=>by obtain⟨g,off,cap,rfl,_,_,_⟩:=(h.ro w hs hp).at hm;have:=BO (P:=P) (s:=s) (f:=f) (b:=g) (off:=off+k) w;simp only[execOp,bz hf hx,jy];simp[this,Nat.add_assoc]
theorem Jd{x:Operand}{t k sz n:Nat}{v u:Value}{xs:List Value}(hx:ev F x=some (jy v k))[h:tv c H v sz n xs][sR P t](hv:xs[k]? =some u):VS P N c ⟨d, .load t x,ty,p,af,g⟩ F H u:=
 bp (by simp) λa w hf hs hp=>by
  have hr:=h.ro w hs hp;have hl:=(List.getElem?_eq_some_iff.1 hv).1;have hn:0<n:=by
   rcases Nat.eq_zero_or_pos n with h0|h0
   ·subst h0;have:=hr.1;omega
   ·exact h0
  obtain⟨g,off,cap,rfl,_,_,h4⟩:=hr.at hn;have:=oD (P:=P) (t:=t) (a:=⟨g,off+k,none⟩) (h4 k u hv);simp[execOp,bz hf hx,jy,Instr.loadAt,Instr.sureAddr,this]
theorem PC{x:Operand}{t k sz n q:Nat}{v:Value}{xs us:List Value}(hx:ev F x=some (jy v k))[h:tv c H v sz n xs][wu P t q](hv:(xs.drop k).take q=us)(hq:us.length=q)(h0:0<q):VS P N c ⟨d, .load t x,ty,p,af,g⟩ F H (.agg us.toArray):=
 bp (by simp) λa w hf hs hp=>by
  have hr:=h.ro w hs hp;have hl:0<xs.length:=by
   have:us.length<=xs.length:=by rw[← hv];simp;omega
   omega
  have hn:0<n:=by
   rcases Nat.eq_zero_or_pos n with h0|h0
   ·subst h0;have:=hr.1;omega
   ·exact h0
  obtain⟨g,off,cap,rfl,_,_,h4⟩:=hr.at hn;have:=oE (P:=P) (t:=t) (b:=g) (off:=off+k) (w:=w) hq (λj u hj=>by
   rw[← hv,List.getElem?_take]at hj;split at hj
   ·rw[List.getElem?_drop]at hj;rw[Nat.add_assoc];exact h4 _ u hj
   ·cases hj)
  simp[execOp,bz hf hx,jy,Instr.loadAt,Instr.sureAddr,this]
theorem aiJ{x y:Operand}{k:IntKind}{a b:Int}{ats:Array TypeId}(hx:ev F x=some (.int k a))(hy:ev F y=some (.int k b)):VS P N c ⟨d, .call ⟨.builtin .min, #[x,y],ats⟩,ty,p,af,g⟩ F H (.int k (if b<a then b else a)):=
 bp (by simp) λa' w hf _ _ =>by simp[execOp,resolve,invoke,builtin,bz hf hx,bz hf hy,Builtin.min_,Builtin.min2]
theorem aiK{x y:Operand}{k:IntKind}{a b:Int}{ats:Array TypeId}(hx:ev F x=some (.int k a))(hy:ev F y=some (.int k b)):VS P N c ⟨d, .call ⟨.builtin .max, #[x,y],ats⟩,ty,p,af,g⟩ F H (.int k (if a<b then b else a)):=
 bp (by simp) λa' w hf _ _ =>by simp[execOp,resolve,invoke,builtin,bz hf hx,bz hf hy,Builtin.max_,Builtin.max2]
def KV(P:Program)(t:Nat):Option (List (Nat×Nat)):=match P.underlying t with
 |some (.struct fs)=>fs.toList.mapM λf=>(P.info? f.type).map λi=>(f.offset,i.size)
 |_ =>none
def tn(pl:List (Nat×Nat)):List Value->List (Nat×Value)->Option (List Value)
 |cs,[]=>some cs
 |cs,(i,v)::r=>match pl[i]? with
  |none=>none
  |some (off,sz)=>if v.cells.size≠sz||decide (off+v.cells.size>cs.length)then none else tn pl (cU cs off v.cells.toList) r
class TPl(P:Program)(t:TypeId)(pl:outParam (List (Nat×Nat))):Prop where
 ok:KV P t=some pl
theorem Xh(vs:List Value):∀(cs:Array Value) (off j:Nat),off+j+vs.length<=cs.size->((vs.zipIdx j).foldl (λ(cs:Array Value) (q:Value×Nat)=>cs.setIfInBounds (off+q.2) q.1) cs).toList=cU cs.toList (off+j) vs:=by
 induction vs with
 |nil=>intro cs off j h;simp[cU]
 |cons v r ih=>
  intro cs off j h;simp only[List.zipIdx_cons,List.foldl_cons];have hl:off+j+(r.length+1)<=cs.size:=h;rw[ih (cs.setIfInBounds (off+j) v) off (j+1) (by simp;omega)];refine List.ext_getElem? λm=>?_;have g:∀(zs0:List Value) (o:Nat) (us:List Value),o+us.length<=zs0.length->∀m:Nat,(cU zs0 o us)[m]? =if o<=m/\m<o+us.length then us[m-o]? else zs0[m]? :=by
   intro zs0 o us h m;unfold cU;by_cases h1:m<o
   ·rw[aoV (by omega),List.append_assoc,List.getElem?_append_left (by simp;omega),List.getElem?_take,aoU h1]
   ·by_cases h2:m<o+us.length
    ·rw[aoU (by omega),List.append_assoc,List.getElem?_append_right (by simp;omega),List.getElem?_append_left (by simp;omega)]
     congr 1;simp;omega
    ·rw[aoV (by omega),List.getElem?_append_right (by simp;omega),List.getElem?_drop]
     congr 1;simp;omega
  rw[g _ _ _ (by simp;omega),g _ _ _ (by simp;omega)];simp only[Array.toList_setIfInBounds,List.length_cons];by_cases e:m=off+j
  ·subst e
   rw[aoV (by omega),aoU (by omega)];have hc:off+j<cs.size:=by omega
   simp[hc]
  ·by_cases h1:off+(j+1)<=m/\m<off+(j+1)+r.length
   ·rw[aoU h1,aoU (by omega)]
    have:m-(off+j)=(m-(off+(j+1)))+1:=by omega
    rw[this,List.getElem?_cons_succ]
   ·rw[aoV h1,aoV (by omega)]
    rw[List.getElem?_set_ne (by omega)]
theorem Ad{place:Nat->Option (Nat×Nat)}{pl:List (Nat×Nat)}(hp:∀i,place i=pl[i]?):∀(parts:List (Nat×Value)) (cs:Array Value) (out:List Value),tn pl cs.toList parts=some out->Instr.fill place cs parts=some out.toArray:=by
 intro parts
 induction parts with
 |nil=>intro cs out h;simp[tn]at h;simp[Instr.fill, ← h]
 |cons q r ih=>
  obtain⟨i,v⟩:=q;intro cs out h;simp only[tn]at h;simp only[Instr.fill,hp i];split at h
  ·cases h
  ·rename_i off sz hpl
   rw[hpl];simp only;split at h
   ·cases h
   ·rename_i hc
    simp only[Array.length_toList]at hc;rw[aoV (by simpa using hc)];refine ih _ out ?_;have hle:off+v.cells.size<=cs.size:=by simp only[Bool.or_eq_true,decide_eq_true_eq,not_or]at hc;omega
    have:=Xh v.cells.toList cs off 0 (by simpa using hle);rw[← h];congr 1;rw[Nat.add_zero]at this;rw[← this, ← Array.foldl_toList];simp only[Array.toList_zipIdx]
theorem SA{P:Program}{t:Nat}{pl:List (Nat×Nat)}[h:TPl P t pl](w:World):∃fs,P.underlying t=some (.struct fs)/\((fs.mapM (m:=Sem) λf=>do pure (f.offset, ← sizeOf f.type)).run P w= .ok pl.toArray w):=by
 have:=h.ok;unfold KV at this;split at this
 ·rename_i fs hu
  refine⟨fs,hu,?_⟩;have key:∀(l:List Field) (pl:List (Nat×Nat)),(l.mapM λf=>(P.info? f.type).map λi=>(f.offset,i.size))=some pl->(l.mapM (m:=Sem) λf=>do pure (f.offset, ← sizeOf f.type)).run P w= .ok pl w:=by
   intro l
   induction l with
   |nil=>intro pl h;simp at h;subst h;simp
   |cons f r ih=>
    intro pl h;cases hi:P.info? f.type with
    |none=>simp[hi]at h
    |some i=>
     simp only[List.mapM_cons,hi,Option.map_some,Option.pure_def,Option.bind_eq_bind,Option.bind_some]at h;cases hr:(r.mapM λf=>(P.info? f.type).map λi=>(f.offset,i.size))with
     |none=>simp[hr]at h
     |some q=>
      simp only[hr,Option.bind_some,Option.some.injEq]at h;subst h;have hs:(sizeOf f.type).run P w= .ok i.size w:=by simp[sizeOf,typeInfo,hi]
      simp only[List.mapM_cons,Sem.run_bind,hs,Result.andThen_ok,Sem.run_pure,ih q hr]
  have hk:=key _ _ this;have e:fs=fs.toList.toArray:=by simp
  rw[e,List.mapM_toArray];simp only[Sem.run_map,hk,Result.andThen_ok]
 ·cases this
theorem evp{F:gp}{a:Act}(hf:Bg F a.tmps):∀{parts:List (Nat×Operand)} {vs:List Value},I2 F (parts.map (·.2))=some vs->parts.map (λq=>(q.1,a.eval q.2))=(parts.map (·.1)).zip vs:=by
 intro parts
 induction parts with
 |nil=>intro vs _;simp
 |cons q r ih=>
  intro vs h;simp only[List.map_cons,I2]at h;split at h
  ·rename_i v us h1 h2
   rw[← Option.some.inj h];simp[bz hf h1,ih h2]
  ·cases h
theorem sQ{t:Nat}{parts:List (Nat×Operand)}{vs zs cs:List Value}{pl:List (Nat×Nat)}[hz:ke P t zs][hpl:TPl P t pl](hv:I2 F (parts.map (·.2))=some vs)(hc:tn pl zs ((parts.map (·.1)).zip vs)=some cs):
  VS P N c ⟨d, .build t parts.toArray,ty,p,af,g⟩ F H (.agg cs.toArray):=
 bp (by simp) λa w hf _ _ =>by
  obtain⟨i,z,h1,h2,h3⟩:=ke.get hz.ok;obtain⟨fs,h4,h5⟩:=SA (P:=P) (t:=t) w;have h6:(zeroValue t).run P w= .ok z w:=by simp[zeroValue,typeInfo,h1,h2]
  have h7:=Ad (place:=λi=>(pl.toArray)[i]?) (pl:=pl) (by simp) ((parts.map (·.1)).zip vs) z.cells cs (by rw[h3];exact hc);have h8:=evp hf hv;simp only[execOp,Instr.build,Sem.run_bind,h6,Result.andThen_ok,run_underlying h4,h5];have h9:(Array.map (λx=>(x.fst,a.eval x.snd)) parts.toArray).toList=(parts.map (·.1)).zip vs:=by simpa using h8
  simp only[h9,h7];rfl
class xH(H:List aO)(v:Value)(e sz n:outParam Nat)(xs:outParam (List Value))(f:outParam (aO->List aO)):Prop where
 ok:∃k,H[k]? =some (.row v e sz n xs)/\∀r,f r=H.set k r
instance(priority:=100) aiT(v e sz n xs)(H:List aO):xH (.row v e sz n xs::H) v e sz n xs (λr=>r::H):=⟨⟨0,rfl,λ_ =>rfl⟩⟩
instance(priority:=50) afM(r:aO)(H:List aO)(v e sz n xs f)[h:xH H v e sz n xs f]:xH (r::H) v e sz n xs (λq=>r::f q):=
 ⟨by obtain⟨k,h1,h2⟩:=h.ok;exact⟨k+1,by simpa using h1,λq=>by simp[h2]⟩⟩
def VJ(P:Program)(t e sz bytes:Nat):Bool:=match P.underlying t,P.info? e with
 |some (.slice e'),some i=>Nat.beq e' e&&Nat.beq i.size sz&&Nat.beq i.bytes bytes&&(match i.zero with|some z=>Nat.beq z.cells.size sz|none=>false)&& !Nat.beq sz 0
 |_,_ =>false
class PF(P:Program)(t:TypeId)(e sz bytes:outParam Nat):Prop where
 ok:VJ P t e sz bytes=true
theorem PF.get{P:Program}{t e sz bytes:Nat}(h:VJ P t e sz bytes=true):∃i z,P.underlying t=some (.slice e)/\P.info? e=some i/\i.zero=some z/\i.size=sz/\i.bytes=bytes/\z.cells.size=sz/\0<sz:=by
 unfold VJ at h;split at h
 ·rename_i e' i h1 h2
  simp only[aoX,Bool.not_eq_true']at h;obtain⟨⟨⟨⟨a1,a2⟩,a3⟩,a4⟩,a5⟩:=h;cases hz:i.zero with
  |none=>simp[hz]at a4
  |some z=>simp only[hz]at a4;rw[aoW a1]at h1;refine⟨i,z,h1,h2,hz,aoW a2,aoW a3,aoW a4,Nat.pos_of_ne_zero λe0=>?_⟩;rw[e0]at a5;exact absurd a5 (by decide)
 ·cases h
theorem BQ{P:Program}{t ty e sz bytes n m cp:Nat}{v:Value}{xs news:List Value}{w:World}{b off:Nat}[ht:PF P t e sz bytes](hown:w.ownsRow 0 e sz v n xs)(hl:news.length=m*sz)
  (hn:∀(j:Nat) u,news[j]? =some u->w.cell? ⟨b,off+j,none⟩=some u)(h1:uZ news)(Q4:(n+m)*bytes<=140737488355328)(h63:n+m<=9223372036854775807):
  ∃v' w',(Builtin.append_ #[t,t] ty #[v, .slice (some ⟨b,off,none⟩) m cp]).run P w= .ok v' w'/\w'.ownsRow 0 e sz v' (n+m) (xs++news)/\bG v.ownBlock.toList w w'/\
   (∀k,v'.ownBlock=some k->(v.ownBlock=some k\/w.heap.size<=k)/\k<w'.heap.size):=by
 obtain⟨i,z,e1,e2,e3,e4,e5,e6,e7⟩:=PF.get ht.ok;have hn':∀(j:Nat) u,news[j]? =some u->w.cell? ((⟨b,off,none⟩:Addr).add j)=some u:=λj u hj=>by rw[Addr.add_lit];exact hn j u hj
 have W9:n+m<=maxLen:=by simp only[maxLen];omega
 obtain⟨v',w',hr,hown',hg,_⟩:=run_append_own w 0 t ty e i z sz bytes e1 e2 e3 e4 e5 e6 e7 v n xs hown ⟨b,off,none⟩ m cp news hl hn' h1 W9 Q4 (Nat.zero_le _);refine⟨v',w',hr,hown',bG.BY hg,λk hk=>⟨?_,(hown'.lt k hk).2⟩⟩;subst e4;subst e5;rcases hown.2 with⟨rfl,rfl⟩|⟨gb,cap,cur,rfl,_,hgb,hnc,Vh,hcs,Nu⟩
 ·obtain⟨v2,w2,R4,ak3,_,_⟩:=run_append_own w w.heap.size t ty e i z i.size i.bytes e1 e2 e3 rfl rfl e6 e7 (.slice none 0 0) 0 xs ⟨hown.1, .inl ⟨rfl,rfl⟩⟩ ⟨b,off,none⟩ m cp news hl hn' h1 W9 Q4 (Nat.le_refl _)
  rw[hr]at R4;cases R4;exact .inr (ak3.lt k hk).1
 ·by_cases hroom:n+m<=cap
  ·have hfit:n*i.size+news.length<=cur.size:=by rw[hl,hcs, ← Nat.add_mul];exact Nat.mul_le_mul_right _ hroom
   have R4:=run_append_room (P:=P) w t ty e i e1 e2 gb n cap cur hgb ⟨b,off,none⟩ m cp news hl hn' h1 hroom hfit;rw[hr]at R4;cases R4;exact .inl hk
  ·have R4:=run_append_grow (P:=P) w t ty e i z e1 e2 e3 ⟨gb,0,none⟩ n cap xs hown.1 (hown.cells (g:=gb) rfl) ⟨b,off,none⟩ m cp news hl hn' (by omega) (by omega) (growslice_fits (by omega) Q4)
   rw[hr]at R4;cases R4;simp[Value.ownBlock]at hk;exact .inr (by omega)
def AZ:Value->Value
 | .slice a n _ => .slice a n n
 |v=>v
def SlV(v:Value):Prop:=∃a n cp,v= .slice a n cp
theorem SlV.cells{v:Value}(h:SlV v):v.cells.toList=[v]:=by obtain⟨a,n,cp,rfl⟩:=h;rfl
theorem SlV.one{v:Value}(h:SlV v):v.oneCell'=true:=by obtain⟨a,n,cp,rfl⟩:=h;cases a<;>rfl
def wv(v:Value)(n:Nat):Prop:=∃a cp,v= .slice a n cp
theorem wv.slv{v:Value}{n:Nat}(h:wv v n):SlV v:=by obtain⟨a,cp,rfl⟩:=h;exact⟨_,_,_,rfl⟩
theorem wv.cells{v:Value}{n:Nat}(h:wv v n):v.cells.toList=[v]:=h.slv.cells
theorem wv.one{v:Value}{n:Nat}(h:wv v n):v.oneCell'=true:=h.slv.one
theorem wv.zR{w:World}{v:Value}{e sz n:Nat}{xs:List Value}(h:w.ownsRow 0 e sz v n xs):wv v n:=by
 rcases h.2 with⟨rfl,rfl⟩|⟨_,_,_,rfl,_⟩
 ·exact⟨_,_,rfl⟩
 ·exact⟨_,_,rfl⟩
theorem wv.aon{v:Value}{n:Nat}(h:wv v n):wv (AZ v) n:=by obtain⟨a,cp,rfl⟩:=h;exact⟨_,_,rfl⟩
theorem XD{s x:Operand}{t e sz bytes n m b T cp:Nat}{v:Value}{xs news:List Value}{f:aO->List aO}[PF P t e sz bytes](hs:ev F s=some v)[hr:xH H v e sz n xs f](hx:ev F x=some (.slice (some ⟨b,0,none⟩) m cp))[hc:xL H b T news]
  (hl:news.length=m*sz)(h1:uZ news)(Q4:(n+m)*bytes<=140737488355328)(h63:n+m<=9223372036854775807):
  RX P N c ⟨d, .call ⟨.builtin .append, #[s,x], #[t,t]⟩,ty,p,af,g⟩ F H (λv'=>wv v' (n+m)) (λv'=>v') (λv'=>f (.row v' e sz (n+m) (xs++news))):=λD a w next Q hst hk=>by
 obtain⟨k,k1,k2⟩:=hr.ok;have hm:aO.row v e sz n xs∈H:=List.mem_of_getElem? k1;obtain⟨v',w',q1,q2,q3,q4⟩:=BQ (P:=P) (t:=t) (ty:=ty) (cp:=cp) (b:=b) (off:=0) (hst.hp.holds _ hm) hl (λj u hj=>by rw[Nat.zero_add,yp (hst.hp.holds _ hc.mem)];exact hj) h1 Q4 h63;refine gS (by simp) (v:=v') (w':=w') ?_ (hk v' w' (wv.zR q2) (hst.si.trans q3 λb' hb'=>(hst.hp.own _ hm b' hb').1) ?_)
 ·simp[execOp,resolve,invoke,builtin,bz hst.fr hs,bz hst.fr hx,q1]
 ·show cC c.bs c.w0.heap.size (f (.row v' e sz (n+m) (xs++news))) w'
  rw[k2];refine hst.hp.set k1 q3.size (λj hj hn=>q3.block j hj hn) q2 hst.si.size (λb' hb'=>?_);have:=q4 b' (by simpa[aO.eL]using hb');exact⟨this.1.imp (λh=>by simpa[aO.eL]using h) id,this.2⟩
theorem LY{x:Operand}{t e sz:Nat}{v:Value}{cs zs:List Value}[ht:zo P t e sz][hz:ke P e zs](hx:ev F x=some v)(hc:v.cells.toList=cs)(hl:cs.length=sz)(hzl:zs.length=sz)(h0:0<sz)(hs:sz<=16777216):
  RX P N c ⟨d, .buildSlice t 1 #[(0,x)],ty,p,af,g⟩ F H (λ_ =>True) (λb=> .slice (some ⟨b,0,none⟩) 1 1) (λb=> .cells b e cs::H):=λD a w next Q hst hk=>by
 obtain⟨i,h1,h2,h3⟩:=zo.get ht.ok;obtain⟨i',z,h4,h5,h6⟩:=ke.get hz.ok;rw[h2]at h4;cases h4;have hsz:v.cells.size=sz:=by rw[← hl, ← hc];simp
 refine gS (by simp) (w':=w.alloc (.cells cs.toArray e)) ?_ (hk w.heap.size _ trivial (hst.si.ext (bG.alloc _ _)) (hst.hp.box e cs hst.si.size));have Q9:Instr.fill (λi=>some (i*sz,sz)) ((Array.range sz).map (z.cells[· %z.cells.size]!)) [(0,v)]=some cs.toArray:=by
  have:=Ad (place:=λi=>if i=0 then some (0,sz)else none) (pl:=[(0,sz)]) (by intro i;cases i<;>simp) [(0,v)] ((Array.range sz).map (z.cells[· %z.cells.size]!)) cs (by
   simp only[tn,List.getElem?_cons_zero,hsz,hc,Array.length_toList,Array.size_map,Array.size_range,Nat.zero_add,ne_eq,not_true_eq_false,decide_false,Bool.false_or,gt_iff_lt,Nat.lt_irrefl,Bool.false_eq_true,if_false];simp[cU,hl])
  have e:∀cells:Array Value,Instr.fill (λi=>some (i*sz,sz)) cells [(0,v)]=Instr.fill (λi=>if i=0 then some (0,sz)else none) cells [(0,v)]:=λcells=>by simp[Instr.fill]
  rw[e];exact this
 have hn0:¬sz=0:=by omega
 have anZ:¬16777216<sz:=by omega
 simp only[execOp,Instr.buildSlice,Sem.run_bind,run_underlying h1,Result.andThen_ok,sizeOf,typeInfo];simp[h2,h3,hn0,anZ,bz hst.fr hx,Q9,zeroValue,typeInfo,h5,newRow,newObj,Sem.run]
theorem V3{x hi mx:Operand}{t e q sz n:Nat}{v:Value}{xs:List Value}{k k':IntKind}[ht:zo P t e q](hx:ev F x=some v)(hh:ev F hi=some (.int k n))(hm:ev F mx=some (.int k' n))[h:tv c H v sz n xs]:
  VS P N c ⟨d, .slice t x none (some hi) (some mx),ty,p,af,g⟩ F H (AZ v):=
 bp (by simp) λa w hf hs hp=>by
  obtain⟨i,h1,h2,h3⟩:=zo.get ht.ok;have hr:=h.ro w hs hp;rcases hr.2 with⟨⟨a0,cp,rfl⟩,rfl⟩|⟨gb,off,cap,rfl,_,hle,_⟩
  ·cases a0<;>simp[execOp,bz hf hx,bz hf hh,bz hf hm,Instr.sliceAt,run_underlying h1,Instr.slice,Instr.sliceBounds,Instr.sliceBound,asIntOf,sizeOf,typeInfo,h2,AZ]
  ·have h9:(n:Int)<=(cap:Int):=by omega
   by_cases hn:n=0
   ·subst hn
    simp[execOp,bz hf hx,bz hf hh,bz hf hm,Instr.sliceAt,run_underlying h1,Instr.slice,Instr.sliceBounds,Instr.sliceBound,asIntOf,sizeOf,typeInfo,h2,AZ]
   ·simp[execOp,bz hf hx,bz hf hh,bz hf hm,Instr.sliceAt,run_underlying h1,Instr.slice,Instr.sliceBounds,Instr.sliceBound,asIntOf,sizeOf,typeInfo,h2,AZ,hle,Addr.add]
theorem CX{bs:List Nat}{n0 e sz:Nat}{w:World}(h:cC bs n0 H w):cC bs n0 (.row (.slice none 0 0) e sz 0 []::H) w:=
 h.cons ⟨by simp, .inl ⟨rfl,rfl⟩⟩ (λb hb=>by simp[aO.eL,Value.ownBlock]at hb) (λs _ b hb=>by simp[aO.eL,Value.ownBlock]at hb)
theorem aeJ{D:List Deferred}{Q:Exit->Act->World->Prop}{x:Code}(e sz:Nat)(h:WP P N c D x Q F (.row (.slice none 0 0) e sz 0 []::H)):WP P N c D x Q F H:=aiC (λ_ _ _ hp=>CX hp) h
theorem aeG{D:List Deferred}{Q:Exit->Act->World->Prop}{x:Exit}(e sz:Nat)(h:WQ N c D Q x F (.row (.slice none 0 0) e sz 0 []::H)):WQ N c D Q x F H:=abN (λ_ _ _ hp=>CX hp) h
end
end Go.Bw
namespace Go.Bw
open Go Go.RowKit
def Pu:Option Value->Option Value->Bool
 |some (.int _ a),some (.int _ b)=>a==b
 |some (.bool a),some (.bool b)=>a==b
 |_,_ =>false
def xp(k:Option IntKind):Option Value->Bool
 |some (.int k' _)=>match k with|some k=>decide (k=k')|none=>false
 |some (.bool _)=>k.isNone
 |_ =>false
def HP:List (Nat×Option IntKind)->List Value->List Value->Bool
 |[],_,_ =>true
 |(o,_)::r,cs,ds=>Pu cs[o]? ds[o]? &&HP r cs ds
def Ds:List (Nat×Option IntKind)->List Value->Bool
 |[],_ =>true
 |(o,k)::r,cs=>xp k cs[o]? &&Ds r cs
def afA(P:Program)(f:Field)(q:Nat×Option IntKind):Bool:=
 f.name != "_" &&Nat.beq f.offset q.1&&(match P.underlying f.type,q.2 with|some (.int k),some k'=>decide (k=k')|some .bool,none=>true|_,_ =>false)
def EE(P:Program):List Field->List (Nat×Option IntKind)->Bool
 |[],[]=>true
 |f::fs,q::qs=>afA P f q&&EE P fs qs
 |_,_ =>false
def LC(P:Program)(t:Nat)(ks:List (Nat×Option IntKind)):Bool:=match P.underlying t with
 |some (.struct fs)=> !P.stoodInHeld t&& !P.eqGuardType P.depth t&&EE P fs.toList ks
 |_ =>false
class Uf(P:Program)(t:TypeId)(ks:outParam (List (Nat×Option IntKind))):Prop where
 ok:LC P t ks=true
theorem v9{P:Program}{t off:Nat}{cs:Array Value}{v:Value}{w:World}(ht:(∃k,P.underlying t=some (.int k))\/P.underlying t=some .bool)(h:cs[off]? =some v):(part t cs off).run P w= .ok v w:=by rcases ht with⟨k,hk⟩|hk<;>simp[part,isAgg,run_underlying hk,h]
theorem xX{P:Program}{w:World}(n:Nat){cs ds:List Value}:∀{fs:List Field} {ks:List (Nat×Option IntKind)},EE P fs ks=true->Ds ks cs=true->Ds ks ds=true->
  (Op.eqFields (n+1) cs.toArray ds.toArray fs).run P w= .ok (HP ks cs ds) w:=by
 intro fs
 induction fs with
 |nil=>intro ks h _ _;cases ks with
  |nil=>simp[Op.eqFields,HP]
  |cons _ _ =>simp[EE]at h
 |cons f fs ih=>
  intro ks h h1 h2;cases ks with
  |nil=>simp[EE]at h
  |cons q qs=>
   obtain⟨o,k⟩:=q;simp only[EE,afA,aoX,bne_iff_ne,ne_eq]at h;obtain⟨⟨⟨hn,ho⟩,hk⟩,hr⟩:=h;have ho:f.offset=o:=aoW ho;simp only[Ds,aoX]at h1 h2;have dy:=ih hr h1.2 h2.2;subst ho;have k1:=h1.1;have k2:=h2.1
   match hu:P.underlying f.type,k,hk with
   |some (.int kk),some k',hk=>
    have e:kk=k':=by simpa using hk
    subst e
    match hc:cs[f.offset]?,k1 with
    |some (.int ka a),k1=>
     have e1:kk=ka:=by simpa[xp]using k1
     subst e1
     match hd:ds[f.offset]?,k2 with
     |some (.int kb b),k2=>
      have e2:kk=kb:=by simpa[xp]using k2
      subst e2;have p1:=v9 (w:=w) (.inl ⟨_,hu⟩) (show cs.toArray[f.offset]? =some (.int kk a)by simpa using hc);have p2:=v9 (w:=w) (.inl ⟨_,hu⟩) (show ds.toArray[f.offset]? =some (.int kk b)by simpa using hd);have p3:=run_equalIn_int (P:=P) w n f.type kk kk a b hu;simp only[Op.eqFields,hn,ne_eq,not_false_eq_true,if_true,Sem.run_bind,p1,p2,p3,Result.andThen_ok];simp only[HP,hc,hd,Pu];cases a==b<;>simp[dy]
     |some (.bool _),k2=>simp[xp]at k2
    |some (.bool _),k1=>simp[xp]at k1
   |some .bool,none,_ =>
    match hc:cs[f.offset]?,k1 with
    |some (.bool a),_ =>
     match hd:ds[f.offset]?,k2 with
     |some (.bool b),_ =>have p1:=v9 (w:=w) (.inr hu) (show cs.toArray[f.offset]? =some (.bool a)by simpa using hc);have p2:=v9 (w:=w) (.inr hu) (show ds.toArray[f.offset]? =some (.bool b)by simpa using hd);have p3:=run_equalIn_bool' (P:=P) w n f.type a b hu;simp only[Op.eqFields,hn,ne_eq,not_false_eq_true,if_true,Sem.run_bind,p1,p2,p3,Result.andThen_ok];simp only[HP,hc,hd,Pu];cases a==b<;>simp[dy]
     |some (.int _ _),k2=>simp[xp]at k2
    |some (.int _ _),k1=>simp[xp]at k1
section
variable {P:Program} {N:Nat} {c:Cx} {F:gp} {H:List aO} {d:Option Tmp} {ty:TypeId} {p:String} {af:Array Edge} {g:Option (Nat×Bool)}
theorem Uf.get{t:Nat}{ks:List (Nat×Option IntKind)}(h:LC P t ks=true):P.underlying t=some (.struct (P.fieldsOf t))/\P.stoodInHeld t=false/\P.eqGuardType P.depth t=false/\EE P (P.fieldsOf t).toList ks=true:=by
 unfold LC at h;split at h
 ·rename_i fs hu
  simp only[aoX,Bool.not_eq_true']at h;have e:P.fieldsOf t=fs:=by simp[Program.fieldsOf,hu]
  rw[e];exact⟨hu,h.1.1,h.1.2,h.2⟩
 ·cases h
theorem V1{x y:Operand}{cs ds:List Value}{T U:TypeId}{ks:List (Nat×Option IntKind)}[hT:Uf P T ks](hx:ev F x=some (.agg cs.toArray))(hy:ev F y=some (.agg ds.toArray))(h1:Ds ks cs=true)(h2:Ds ks ds=true):
  VS P N c ⟨d, .binOp .eql T x y U,ty,p,af,g⟩ F H (.bool (HP ks cs ds)):=
 bp (by simp) λa' w hf _ _ =>by obtain⟨e1,e2,e3,e4⟩:=Uf.get hT.ok;have q1:=run_eqGuard_agg (P:=P) w .eql T x y cs.toArray ds.toArray e3;have q2:=run_eql_struct (P:=P) w T cs.toArray ds.toArray;rw[run_equalIn_struct w 9999 T _ _ e1 e2,xX 9998 e4 h1 h2]at q2;simp only[Result.andThen_ok]at q2;simp[execOp,bz hf hx,bz hf hy,q1,q2]
theorem aeN{x y:Operand}{cs ds:List Value}{T U:TypeId}{ks:List (Nat×Option IntKind)}[hT:Uf P T ks](hx:ev F x=some (.agg cs.toArray))(hy:ev F y=some (.agg ds.toArray))(h1:Ds ks cs=true)(h2:Ds ks ds=true):
  VS P N c ⟨d, .binOp .neq T x y U,ty,p,af,g⟩ F H (.bool (!HP ks cs ds)):=
 bp (by simp) λa' w hf _ _ =>by obtain⟨e1,e2,e3,e4⟩:=Uf.get hT.ok;have q1:=run_eqGuard_agg (P:=P) w .neq T x y cs.toArray ds.toArray e3;have q2:=run_neq_struct (P:=P) w T cs.toArray ds.toArray;rw[run_equalIn_struct w 9999 T _ _ e1 e2,xX 9998 e4 h1 h2]at q2;simp only[Result.andThen_ok]at q2;simp[execOp,bz hf hx,bz hf hy,q1,q2]
def uQ(l h sz:Nat):Value->Value
 | .slice a _ cap=> .slice (if cap=l then a else a.map (·.add (l*sz))) (h-l) (cap-l)
 |v=>v
theorem Ro.cut{w:World}{v:Value}{sz n l h:Nat}{xs:List Value}(hr:Ro w v sz n xs)(hl:l<=h)(hh:h<=n):Ro w (uQ l h sz v) sz (h-l) ((xs.drop (l*sz)).take ((h-l)*sz)):=by
 have hlen:((xs.drop (l*sz)).take ((h-l)*sz)).length=(h-l)*sz:=by
  have:(h-l)*sz+l*sz<=n*sz:=by rw[← Nat.add_mul];exact Nat.mul_le_mul_right _ (by omega)
  simp[hr.1];omega
 refine⟨hlen,?_⟩;rcases hr.2 with⟨⟨a,cp,rfl⟩,rfl⟩|⟨gb,off,cap,rfl,h2,h3,h4⟩
 ·have e1:l=0:=by omega
  have e2:h=0:=by omega
  subst e1;subst e2;exact .inl ⟨⟨_,_,rfl⟩,rfl⟩
 ·by_cases e:cap=l
  ·have e2:h=l:=by omega
   subst e2;exact .inl ⟨⟨some ⟨gb,off,none⟩,cap-h,by simp[uQ,e]⟩,by omega⟩
  ·refine .inr ⟨gb,off+l*sz,cap-l,by simp[uQ,e,Addr.add_lit],h2,by omega,λj u hu=>?_⟩
   rw[List.getElem?_take]at hu;split at hu
   ·rw[List.getElem?_drop]at hu
    rw[Nat.add_assoc];exact h4 _ u hu
   ·cases hu
theorem abl(l h sz:Nat)(v:Value):(uQ l h sz v).ownBlock=v.ownBlock:=by
 cases v with
 |slice a n cap=>cases a<;>simp only[uQ]<;>split<;>simp[Value.ownBlock,Addr.add]<;>split<;>rfl
 |_ =>rfl
theorem C0{k:IntKind}{l n:Nat}{code:BoundsCode}{w:World}(h:l<=n):(Instr.sliceBound (.int k l) n code).run P w= .ok l w:=by
 have h2:(l:Int)<=(n:Int):=by omega
 simp[Instr.sliceBound,asIntOf,h2]
theorem NO{x lo:Operand}{t e q sz n:Nat}(l:Nat){v:Value}{xs:List Value}{k:IntKind}[ht:zo P t e q](hx:ev F x=some v)(hlo:ev F lo=some (.int k l))[h:tv c H v sz n xs](hl:l<=n):
  VS P N c ⟨d, .slice t x (some lo) none none,ty,p,af,g⟩ F H (uQ l n q v):=
 bp (by simp) λa w hf hs hp=>by
  obtain⟨i,h1,h2,h3⟩:=zo.get ht.ok;obtain⟨a0,cp,rfl⟩:∃a0 cp,v= .slice a0 n cp:=by rcases(h.ro w hs hp).2 with⟨⟨a0,cp,rfl⟩,rfl⟩|⟨gb,off,cap,rfl,_⟩<;>exact⟨_,_,rfl⟩
  have b1:=C0 (P:=P) (k:=k) (w:=w) (code:= .sliceB) hl;simp[execOp,bz hf hx,bz hf hlo,Instr.sliceAt,run_underlying h1,Instr.slice,Instr.sliceBounds,b1,sizeOf,typeInfo,h2,h3,uQ]
theorem NP{x hi:Operand}{t e q sz n:Nat}(m:Nat){v:Value}{xs:List Value}{k:IntKind}[ht:zo P t e q](hx:ev F x=some v)(hhi:ev F hi=some (.int k m))[h:tv c H v sz n xs](hm:m<=n):
  VS P N c ⟨d, .slice t x none (some hi) none,ty,p,af,g⟩ F H (uQ 0 m q v):=
 bp (by simp) λa w hf hs hp=>by
  obtain⟨i,h1,h2,h3⟩:=zo.get ht.ok;obtain⟨a0,cp,rfl,hcp⟩:∃a0 cp,v= .slice a0 n cp/\m<=cp:=by
   rcases(h.ro w hs hp).2 with⟨⟨a0,cp,rfl⟩,rfl⟩|⟨gb,off,cap,rfl,_,hle,_⟩
   ·exact⟨_,_,rfl,by omega⟩
   ·exact⟨_,_,rfl,by omega⟩
  have b1:=C0 (P:=P) (k:=k) (w:=w) (code:= .sliceAcap) hcp;simp[execOp,bz hf hx,bz hf hhi,Instr.sliceAt,run_underlying h1,Instr.slice,Instr.sliceBounds,b1,sizeOf,typeInfo,h2,uQ]
theorem aiQ{x lo hi:Operand}{t e q sz n:Nat}(l m:Nat){v:Value}{xs:List Value}{k k':IntKind}[ht:zo P t e q](hx:ev F x=some v)(hlo:ev F lo=some (.int k l))(hhi:ev F hi=some (.int k' m))[h:tv c H v sz n xs](hl:l<=m)(hm:m<=n):
  VS P N c ⟨d, .slice t x (some lo) (some hi) none,ty,p,af,g⟩ F H (uQ l m q v):=
 bp (by simp) λa w hf hs hp=>by
  obtain⟨i,h1,h2,h3⟩:=zo.get ht.ok;obtain⟨a0,cp,rfl,hcp⟩:∃a0 cp,v= .slice a0 n cp/\m<=cp:=by
   rcases(h.ro w hs hp).2 with⟨⟨a0,cp,rfl⟩,rfl⟩|⟨gb,off,cap,rfl,_,hle,_⟩
   ·exact⟨_,_,rfl,by omega⟩
   ·exact⟨_,_,rfl,by omega⟩
  have b1:=C0 (P:=P) (k:=k') (w:=w) (code:= .sliceAcap) hcp;have b2:=C0 (P:=P) (k:=k) (w:=w) (code:= .sliceB) hl;simp[execOp,bz hf hx,bz hf hlo,bz hf hhi,Instr.sliceAt,run_underlying h1,Instr.slice,Instr.sliceBounds,b1,b2,sizeOf,typeInfo,h2,h3,uQ]
theorem MF{t ty e sz bytes n m:Nat}{v x:Value}{xs news:List Value}{w:World}[ht:PF P t e sz bytes](hown:w.ownsRow 0 e sz v n xs)(hx:Ro w x sz m news)(h1:uZ news)(Q4:(n+m)*bytes<=140737488355328)(h63:n+m<=9223372036854775807):
  ∃v' w',(Builtin.append_ #[t,t] ty #[v,x]).run P w= .ok v' w'/\w'.ownsRow 0 e sz v' (n+m) (xs++news)/\bG v.ownBlock.toList w w'/\
   (∀k,v'.ownBlock=some k->(v.ownBlock=some k\/w.heap.size<=k)/\k<w'.heap.size):=by
 rcases hx.2 with⟨⟨a,cp,rfl⟩,rfl⟩|⟨gb,off,cap,rfl,_,_,h4⟩
 ·obtain⟨i,z,e1,e2,e3,e4,e5,e6,e7⟩:=PF.get ht.ok
  have aaC:news=[]:=List.length_eq_zero_iff.1 (by rw[hx.1];simp);subst aaC;have hsrc:Src P i.size t (.slice a 0 cp) 0 [] w:=by
   cases a with
   |none=>exact Src.ofNil w e1 cp
   |some a=>exact Src.ofSlice w e1 a 0 cp [] (by simp) (by simp) (by simp)
  obtain⟨base,sCap,hv,hle⟩:∃base sCap,v= .slice base n sCap/\n<=sCap:=by
   rcases hown.2 with⟨rfl,rfl⟩|⟨g,cap,cur,rfl,_,_,hc,_⟩
   ·exact⟨_,_,rfl,Nat.le_refl _⟩
   ·exact⟨_,_,rfl,hc⟩
  have hrun:=run_append_nothing (P:=P) w t t ty e i e1 e2 base n sCap hle _ hsrc;rw[← hv]at hrun;refine⟨v,w,hrun,by simpa using hown,bG.refl _ _,λk hk=>⟨.inl hk,?_⟩⟩;rcases hown.2 with⟨rfl,_⟩|⟨g,cap,cur,rfl,_,hg,_⟩
  ·cases hk
  ·cases hk;exact(ao2.1 hg).1
 ·exact BQ hown hx.1 h4 h1 Q4 h63
theorem Au{s x:Operand}{t e sz bytes n m:Nat}{v u:Value}{xs news:List Value}{f:aO->List aO}[PF P t e sz bytes](hs:ev F s=some v)[hr:xH H v e sz n xs f](hx:ev F x=some u)[hu:tv c H u sz m news]
  (h1:uZ news)(Q4:(n+m)*bytes<=140737488355328)(h63:n+m<=9223372036854775807):
  RX P N c ⟨d, .call ⟨.builtin .append, #[s,x], #[t,t]⟩,ty,p,af,g⟩ F H (λv'=>wv v' (n+m)) (λv'=>v') (λv'=>f (.row v' e sz (n+m) (xs++news))):=λD a w next Q hst hk=>by
 obtain⟨k,k1,k2⟩:=hr.ok;have hm:aO.row v e sz n xs∈H:=List.mem_of_getElem? k1;obtain⟨v',w',q1,q2,q3,q4⟩:=MF (P:=P) (t:=t) (ty:=ty) (hst.hp.holds _ hm) (hu.ro w hst.si hst.hp) h1 Q4 h63;refine gS (by simp) (v:=v') (w':=w') ?_ (hk v' w' (wv.zR q2) (hst.si.trans q3 λb' hb'=>(hst.hp.own _ hm b' hb').1) ?_)
 ·simp[execOp,resolve,invoke,builtin,bz hst.fr hs,bz hst.fr hx,q1]
 ·show cC c.bs c.w0.heap.size (f (.row v' e sz (n+m) (xs++news))) w'
  rw[k2];refine hst.hp.set k1 q3.size (λj hj hn=>q3.block j hj hn) q2 hst.si.size (λb' hb'=>?_);have:=q4 b' (by simpa[aO.eL]using hb');exact⟨this.1.imp (λh=>by simpa[aO.eL]using h) id,this.2⟩
structure Sl where
 v:Value
 sz:Nat
 n:Nat
 xs:List Value
def Sl.ok(w:World)(q:Sl):Prop:=Ro w q.v q.sz q.n q.xs
def agG(l:List Sl):List Nat:=l.flatMap λq=>q.v.ownBlock.toList
def aoB(l:List Sl):aO:= .ext (agG l) λw=>∀q∈l,q.ok w
end
end Go.Bw
namespace Go.Bw
open Go Go.RowKit
def IntKind.up(k:IntKind):Nat:=if k.signed then k.bits-1 else k.bits
theorem acB{k:IntKind}{r:Nat}(h:r<2^IntKind.up k):k.wrap (r:Int)=r:=by
 cases k<;>simp only[IntKind.up,IntKind.signed,IntKind.bits,if_true,Bool.false_eq_true,if_false]at h<;>
  simp[IntKind.wrap,IntKind.signed,IntKind.bits]at h ⊢<;>omega
theorem aez(k:IntKind):IntKind.up k<=k.bits:=by cases k<;>simp[IntKind.up,IntKind.signed,IntKind.bits]
section
variable {P:Program} {N:Nat} {c:Cx} {F:gp} {H:List aO} {d:Option Tmp} {ty:TypeId} {p:String} {af:Array Edge} {g:Option (Nat×Bool)} {x y:Operand} {k:IntKind} {T U:TypeId}
theorem Xz{x y:Operand}{T len e sz q m:Nat}{i:Int}{k:IntKind}{cs us:List Value}[hT:Dz P T len e sz][hA:wu P e q](hx:ev F x=some (.agg cs.toArray))(hy:ev F y=some (.int k i))(hi:i=(m:Int))(hm:m<len)
  (hv:(cs.drop (m*sz)).take sz=us):VS P N c ⟨d, .index T x y,ty,p,af,g⟩ F H (.agg us.toArray):=
 bp (by simp) λa w hf _ _ =>by
  obtain⟨inf,h1,h2,h3⟩:=Dz.get hT.ok;subst hi;have hs:(sizeOf e).run P w= .ok sz w:=by simp[sizeOf,typeInfo,h2,h3]
  have hag:(isAgg e).run P w= .ok true w:=xe w;have he:cs.toArray.extract (m*sz) (m*sz+sz)=us.toArray:=by apply Array.ext';rw[← hv];simp[List.extract_eq_take_drop,Nat.add_sub_cancel_left]
  have hp:(part e cs.toArray (m*sz)).run P w= .ok (.agg us.toArray) w:=by unfold part;rw[Sem.run_bind,hag];simp only[Result.andThen_ok,if_true,Sem.run_bind,hs,Sem.run_pure,he]
  simp[execOp,bz hf hx,bz hf hy,Instr.index,asIntOf,run_underlying h1,hm,hs,hp]
theorem XA{x y:Operand}{T len e sz m:Nat}{i:Int}{k:IntKind}{cs:List Value}{u:Value}[hT:Dz P T len e sz][hA:sR P e](hx:ev F x=some (.agg cs.toArray))(hy:ev F y=some (.int k i))(hi:i=(m:Int))(hm:m<len)
  (hv:cs[m*sz]? =some u):VS P N c ⟨d, .index T x y,ty,p,af,g⟩ F H u:=
 bp (by simp) λa w hf _ _ =>by
  obtain⟨inf,h1,h2,h3⟩:=Dz.get hT.ok;subst hi;have hs:(sizeOf e).run P w= .ok sz w:=by simp[sizeOf,typeInfo,h2,h3]
  have hag:(isAgg e).run P w= .ok false w:=vo w;have hp:(part e cs.toArray (m*sz)).run P w= .ok u w:=by simp[part,hag,hv]
  simp[execOp,bz hf hx,bz hf hy,Instr.index,asIntOf,run_underlying h1,hm,hs,hp]
end
end Go.Bw
namespace Go.Bw
open Go
def dm{α:Type}(g:Nat->α)(i:Nat)(v:α):Nat->α:=λj=>if j=i then v else g j
@[simp] theorem Yv{α:Type}(g:Nat->α)(i:Nat)(v:α):dm g i v i=v:=by simp[dm]
theorem Wi{α:Type}(g:Nat->α){i j:Nat}(v:α)(h:j≠i):dm g i v j=g j:=by simp[dm,h]
def flat(g:Nat->List Value):Nat->List Value
 |0=>[]
 |n+1=>flat g n++g n
theorem qL{g:Nat->List Value}{k:Nat}:∀{n:Nat},(∀i,i<n->(g i).length=k)->(flat g n).length=n*k:=by
 intro n
 induction n with
 |zero=>intro _;simp[flat]
 |succ n ih=>intro h;simp[flat,ih (λi hi=>h i (by omega)),h n (by omega),Nat.add_mul]
theorem Ac{g g':Nat->List Value}:∀{n:Nat},(∀i,i<n->g i=g' i)->flat g n=flat g' n:=by
 intro n
 induction n with
 |zero=>intro _;rfl
 |succ n ih=>intro h;simp[flat,ih (λi hi=>h i (by omega)),h n (by omega)]
theorem xx{g:Nat->List Value}{k:Nat}:∀{n i j:Nat},(∀i,i<n->(g i).length=k)->i<n->j<k->(flat g n)[i*k+j]? =(g i)[j]? :=by
 intro n
 induction n with
 |zero=>intro i j _ hi;omega
 |succ n ih=>
  intro i j h hi hj;have hl:=qL (n:=n) (λi hi=>h i (by omega));by_cases e:i=n
  ·subst e
   rw[flat,List.getElem?_append_right (by omega),hl];congr 1;omega
  ·have:i*k+j<n*k:=by
    have h1:(i+1)*k<=n*k:=Nat.mul_le_mul_right k (by omega);rw[Nat.add_mul]at h1;omega
   rw[flat,List.getElem?_append_left (by omega)];exact ih (λi hi=>h i (by omega)) (by omega) hj
theorem B4{l m:List Value}(h:∀j:Nat,l[j]? =m[j]?):l=m:=List.ext_getElem? h
theorem xb{cs vs:List Value}{off:Nat}(h:off+vs.length<=cs.length):(cU cs off vs).length=cs.length:=by simp[cU];omega
theorem q9{cs vs:List Value}{off:Nat}(h:off+vs.length<=cs.length)(j:Nat):(cU cs off vs)[j]? =if off<=j/\j<off+vs.length then vs[j-off]? else cs[j]? :=by
 unfold cU;by_cases h1:j<off
 ·rw[aoV (by omega),List.append_assoc,List.getElem?_append_left (by simp;omega),List.getElem?_take,aoU h1]
 ·by_cases h2:j<off+vs.length
  ·rw[aoU (by omega),List.append_assoc,List.getElem?_append_right (by simp;omega),List.getElem?_append_left (by simp;omega)]
   congr 1;simp;omega
  ·rw[aoV (by omega),List.getElem?_append_right (by simp;omega),List.getElem?_drop]
   congr 1;simp;omega
theorem Fv{p q vs:List Value}{off:Nat}:cU (p++q) (p.length+off) vs=p++cU q off vs:=by
 unfold cU;have h1:(p++q).take (p.length+off)=p++q.take off:=by simp[List.take_append,List.take_of_length_le (show p.length<=p.length+off by omega)]
 have h2:(p++q).drop (p.length+off+vs.length)=q.drop (off+vs.length):=by rw[Nat.add_assoc,List.drop_append,List.drop_eq_nil_of_le (by omega)];simp
 rw[h1,h2];simp
theorem Qk{p q vs:List Value}{off:Nat}(h:off+vs.length<=p.length):cU (p++q) off vs=cU p off vs++q:=by unfold cU;rw[List.take_append_of_le_length (by omega),List.drop_append_of_le_length h];simp
theorem Rf{g:Nat->List Value}{k n i:Nat}{vs:List Value}(h:∀i,i<n->(g i).length=k)(hi:i<n)(hv:vs.length=k):cU (flat g n) (i*k) vs=flat (dm g i vs) n:=by
 have hl:=qL (n:=n) h;have h':∀j,j<n->(dm g i vs j).length=k:=λj hj=>by by_cases e:j=i<;>simp[dm,e,hv,h j hj]
 have hl':=qL (n:=n) h';have hb:(i+1)*k<=n*k:=Nat.mul_le_mul_right k (by omega);rw[Nat.add_mul]at hb;refine B4 λj=>?_;rw[q9 (by omega)];by_cases hj:j<n*k
 ·have hk:0<k:=by
   rcases Nat.eq_zero_or_pos k with h0|h0
   ·subst h0;omega
   ·exact h0
  have hd:j=j/k*k+j%k:=by rw[Nat.mul_comm];exact(Nat.div_add_mod j k).symm
  have hm:=Nat.mod_lt j hk;have hq:j/k<n:=Nat.div_lt_of_lt_mul (by rw[Nat.mul_comm];exact hj);by_cases e:j/k=i
  ·rw[aoU (by subst e;omega)]
   rw[hd,xx h' hq hm,e,Yv];congr 1;subst e;omega
  ·rw[aoV]
   ·rw[hd,xx h' hq hm,xx h hq hm,Wi _ _ e]
   ·rintro⟨h1,h2⟩
    apply e;have:i<=j/k:=(Nat.le_div_iff_mul_le hk).2 h1;have:j/k<i+1:=(Nat.div_lt_iff_lt_mul hk).2 (by rw[Nat.add_mul];omega);omega
 ·rw[aoV (by omega),List.getElem?_eq_none (by omega),List.getElem?_eq_none (by omega)]
theorem Xj{g:Nat->List Value}{k n i:Nat}{t:List Value}(h:∀i,i<n->(g i).length=k)(hi:i<n):((flat g n++t).drop (i*k)).take k=g i:=by
 have hl:=qL (n:=n) h;have hb:(i+1)*k<=n*k:=Nat.mul_le_mul_right k (by omega);rw[Nat.add_mul]at hb;refine B4 λj=>?_;rw[List.getElem?_take,List.getElem?_drop];by_cases hj:j<k
 ·rw[aoU hj,List.getElem?_append_left (by omega),xx h hi hj]
 ·rw[aoV hj,List.getElem?_eq_none (by rw[h i hi];omega)]
theorem uZ.app{a b:List Value}(ha:uZ a)(hb:uZ b):uZ (a++b):=λv hv=>(List.mem_append.1 hv).elim (ha v) (hb v)
theorem Aw{vs:List Value}(h:vs.all (·.oneCell')=true):uZ vs:=λv hv=>List.all_eq_true.1 h v hv
theorem uZ.flat{g:Nat->List Value}:∀{n:Nat},(∀i,i<n->uZ (g i))->uZ (flat g n):=by
 intro n
 induction n with
 |zero=>intro _ v hv;simp[Bw.flat]at hv
 |succ n ih=>intro h;exact(ih λi hi=>h i (by omega)).app (h n (by omega))
end Go.Bw
namespace Go.Bw
open Go Go.RowKit
def Rnd(P:Program)(l:Nat)(bs0:List Nat)(w1:World)(J:Nat->List Nat->World->Prop)(Jx:List Nat->World->Prop)(xP:Nat->List Value)(n:Nat):Prop:=∀k,k<n->∀W bs,bG bs0 w1 W->(∀b∈bs,(b∈bs0\/w1.heap.size<=b)/\b<W.heap.size)->(aO.ext bs (J k bs)).holds W-> YieldAt (FA none) 0 P l (xP k).toArray W λe W'=>∃bs',(∀b∈bs',(b∈bs\/W.heap.size<=b)/\b<W'.heap.size)/\bG bs W W'/\ ((e= .returned (.bool true)/\(aO.ext bs' (J (k+1) bs')).holds W')\/(e= .returned (.bool false)/\(aO.ext bs' (Jx bs')).holds W'))
def aj8:List Nat->List Value->gp->gp
 |p::ps,v::vs,F=>aj8 ps vs ((p,v)::F)
 |_,_,F=>F
theorem adq:∀{ps:List Nat} {vs:List Value} {F:gp} {t:Array Value} {N:Nat},Bg F t->t.size=N->ps.all (Nat.blt · N)=true->Bg (aj8 ps vs F) ((ps.zip vs).foldl (λt q=>t.setIfInBounds q.1 q.2) t)/\((ps.zip vs).foldl (λt q=>t.setIfInBounds q.1 q.2) t).size=N:=by
 intro ps
 induction ps with
 |nil=>intro vs F t N h hs _;cases vs<;>exact⟨h,hs⟩
 |cons p ps ih=>
  intro vs F t N h hs ha;cases vs with
  |nil=>exact⟨h,hs⟩
  |cons v vs=>simp only[List.all_cons,aoX]at ha;have h1:=Bg.put (a:=⟨t,[]⟩) (d:=some p) (v:=v) (N:=N) h hs ha.1;exact ih h1 (by simpa using hs) ha.2
def aiX(P:Program)(l:Nat)(body:Code)(R:Ending->World->Prop):Exit->Act->World->Prop:=Exit.then (λa₁ w₁=>∃w₂,(Instr.beginRound l).run P w₁= .ok () w₂/\body.wpIn (FA (some l)) 0 P (roundPost P l R) a₁ w₂) (λ_ _ _ =>False)
def acd(c':Cx)(JT JX:List Nat->World->Prop):Ending->World->Prop:=λe W'=>∃bs',(∀b∈bs',(b∈c'.bs\/c'.w0.heap.size<=b)/\b<W'.heap.size)/\bG c'.bs c'.w0 W'/\((e= .returned (.bool true)/\(aO.ext bs' (JT bs')).holds W')\/(e= .returned (.bool false)/\(aO.ext bs' (JX bs')).holds W'))
def JW{α:Type}(n0:Nat)(cb:List Nat)(p:α->Prop)(I:α->List aO):List Nat->World->Prop:=λbs W=>∃i,p i/\cC cb n0 (I i) W/\bs=cm (I i)
theorem bN{H:List aO}{b:Nat}:b∈cm H↔∃r∈H,b∈r.eL:=by simp[cm]
theorem Ui{α:Type}{n0:Nat}{cb:List Nat}{p:α->Prop}{I:α->List aO}{W:World}(i:α)(hp:p i)(h:cC cb n0 (I i) W):(aO.ext (cm (I i)) (JW n0 cb p I (cm (I i)))).holds W:=
 λ_ hs hb=>⟨i,hp,h.cQ hs (λr hr b MK=>hb b (bN.2 ⟨r,hr,MK⟩)) (λ_ o _ =>o),rfl⟩
theorem FZ{bs:List Nat}{J:World->Prop}{W:World}(h:(aO.ext bs J).holds W):J W:=h W (Nat.le_refl _) λ_ _ =>rfl
section rules
variable {P:Program} {N:Nat} {c:Cx} {F:gp} {H H':List aO} {l:Nat} {body:Code} {R:Ending->World->Prop}
theorem St.yA{N:Nat}{D:List Deferred}{a:Act}{w:World}{b:Nat}{o o':Obj}(hst:St N c D F H a w)(ho:acs H b o)(hs:ab9 H b o' H'):St N c D F H' a (w.putObj b o')/\w.heap[b]? =some o:=by
 have hm:=hst.hp.holds _ ho.mem;have hd:w.heap[b]? =some o:=hm;have hlt:=(ao2.1 hd).1;have qI:bG [b] w (w.putObj b o'):=⟨rfl,rfl,rfl,by simp[World.putObj],λk _ hk=>World.putObj_heap_other (by simpa using hk)⟩;refine⟨⟨hst.tm,hst.fr,hst.df,hst.si.store hst.hp ho.mem (by simp[aO.eL]) qI,?_⟩,hd⟩;obtain⟨k,o,hk,rfl⟩:=hs.ok;refine hst.hp.set hk qI.size (λj hj hne=>qI.block j hj hne) (World.putObj_heap_same hlt) hst.si.size (λb' hb=>?_);have e:b'=b:=by simpa[aO.eL]using hb
 subst e;exact⟨.inl (by simp[aO.eL]),by rw[World.putObj];simpa using hlt⟩
variable {α β:Type} {n0:Nat} {cb:List Nat} {p:α->Prop} {I:α->List aO} {px:β->Prop} {X:β->List aO}
theorem bG.aff{c':Cx}{H:List aO}{w:World}(hp:cC c'.bs c'.w0.heap.size H w){b:Nat}(hb:b∈cm H):(b∈c'.bs\/c'.w0.heap.size<=b)/\b<w.heap.size:=by obtain⟨r,hr,MK⟩:=bN.1 hb;exact hp.own r hr b MK
end rules
end Go.Bw
namespace Go.Bw
open Go Go.RowKit
structure dB(α:Type) where
 n:Nat
 eZ:(World->Prop)->List Value->α->Prop
 len:∀{J cs x},eZ J cs x->cs.length=n
 one:∀{J cs x},eZ J cs x->uZ cs
 mono:∀{J J':World->Prop} {cs x},(∀w,J' w->J w)->eZ J cs x->eZ J' cs x
class bR{α:Type}(L:dB α) where
 enc:α->List Value
 iff:∀{J cs x},L.eZ J cs x↔cs=enc x
def dB.enc{α:Type}(L:dB α)[bR L](x:α):List Value:=bR.enc L x
section
variable {α β γ S:Type}
theorem rp(L:dB α)[bR L](x:α):L.eZ (λ_ =>True) (L.enc x) x:=bR.iff.2 rfl
theorem lq(L:dB α)[bR L](x:α):(L.enc x).length=L.n:=L.len (rp L x)
theorem F1(L:dB α)[bR L](x:α):uZ (L.enc x):=L.one (rp L x)
def LI(k:IntKind):dB Int where
 n:=1
 eZ _ cs x:=cs=[.int k x]
 len h:=by subst h;rfl
 one h:=by subst h;exact Aw rfl
 mono _ h:=h
instance(k:IntKind):bR (LI k):=⟨λx=>[.int k x],Iff.rfl⟩
def LB:dB Bool where
 n:=1
 eZ _ cs x:=cs=[.bool x]
 len h:=by subst h;rfl
 one h:=by subst h;exact Aw rfl
 mono _ h:=h
instance:bR LB:=⟨λx=>[.bool x],Iff.rfl⟩
def LP(A:dB α)(B:dB β):dB (α×β) where
 n:=A.n+B.n
 eZ J cs x:=∃c1 c2,cs=c1++c2/\A.eZ J c1 x.1/\B.eZ J c2 x.2
 len:=λ⟨c1,c2,h,h1,h2⟩=>by subst h;simp[A.len h1,B.len h2]
 one:=λ⟨c1,c2,h,h1,h2⟩=>by subst h;exact(A.one h1).app (B.one h2)
 mono m:=λ⟨c1,c2,h,h1,h2⟩=>⟨c1,c2,h,A.mono m h1,B.mono m h2⟩
instance(A:dB α)(B:dB β)[bR A][bR B]:bR (LP A B):=⟨λx=>A.enc x.1++B.enc x.2,by
 intro J cs x;constructor
 ·rintro⟨c1,c2,rfl,h1,h2⟩
  rw[bR.iff]at h1 h2;subst h1 h2;rfl
 ·intro h;exact⟨_,_,h,bR.iff.2 rfl,bR.iff.2 rfl⟩⟩
def dB.via(A:dB α)(f:S->α):dB S where
 n:=A.n
 eZ J cs s:=A.eZ J cs (f s)
 len h:=A.len h
 one h:=A.one h
 mono m h:=A.mono m h
instance(A:dB α)(f:S->α)[bR A]:bR (A.via f):=⟨λs=>A.enc (f s),bR.iff (L:=A)⟩
def LA(L:dB α)(m:Nat):dB (Nat->α) where
 n:=m*L.n
 eZ J cs a:=∃cc:Nat->List Value,cs=flat cc m/\∀i,i<m->L.eZ J (cc i) (a i)
 len:=λ⟨cc,h,h1⟩=>by subst h;exact qL λi hi=>L.len (h1 i hi)
 one:=λ⟨cc,h,h1⟩=>by subst h;exact uZ.flat λi hi=>L.one (h1 i hi)
 mono m':=λ⟨cc,h,h1⟩=>⟨cc,h,λi hi=>L.mono m' (h1 i hi)⟩
instance(L:dB α)(m:Nat)[bR L]:bR (LA L m):=⟨λa=>flat (λi=>L.enc (a i)) m,by
 intro J cs a;constructor
 ·rintro⟨cc,rfl,h⟩
  exact Ac λi hi=>bR.iff.1 (h i hi)
 ·intro h;exact⟨_,h,λi _ =>bR.iff.2 rfl⟩⟩
structure aW(L:dB α)(M:dB β)(o:Nat)(g:α->β)(s:α->β->α):Prop where
 get:∀{J cs x},L.eZ J cs x->M.eZ J ((cs.drop o).take M.n) (g x)
 set:∀{J cs x vs v},L.eZ J cs x->M.eZ J vs v->L.eZ J (cU cs o vs) (s x v)
 le:o+M.n<=L.n
theorem aW.id{L:dB α}:aW L L 0 (λx=>x) (λ_ v=>v) where
 get h:=by rw[List.drop_zero,List.take_of_length_le (by rw[L.len h];exact Nat.le_refl _)];exact h
 set:=@λJ cs x vs v h hv=>by have:cU cs 0 vs=vs:=Sy (by rw[L.len h,L.len hv]);rw[this];exact hv
 le:=by omega
where Sy {cs vs:List Value} (h:cs.length=vs.length):cU cs 0 vs=vs:=by simp[cU, ← h]
theorem aW.fst{A:dB α}{B:dB β}{M:dB γ}{o:Nat}{g:α->γ}{s:α->γ->α}(p:aW A M o g s):aW (LP A B) M o (λx=>g x.1) (λx v=>(s x.1 v,x.2)) where
 get:=λ⟨c1,c2,h,h1,h2⟩=>by subst h;have hl:=A.len h1;have:=p.le;rw[List.drop_append_of_le_length (by omega),List.take_append_of_le_length (by simp;omega)];exact p.get h1
 set:=λ⟨c1,c2,h,h1,h2⟩ hv=>by subst h;have hl:=A.len h1;have:=p.le;exact⟨_,_,Qk (by rw[M.len hv];omega),p.set h1 hv,h2⟩
 le:=by have:=p.le;show o+M.n<=A.n+B.n;omega
theorem aW.snd{A:dB α}{B:dB β}{M:dB γ}{o:Nat}{g:β->γ}{s:β->γ->β}(p:aW B M o g s):aW (LP A B) M (A.n+o) (λx=>g x.2) (λx v=>(x.1,s x.2 v)) where
 get:=λ⟨c1,c2,h,h1,h2⟩=>by subst h;have hl:=A.len h1;rw[← hl, ← List.drop_drop,List.drop_left];exact p.get h2
 set:=λ⟨c1,c2,h,h1,h2⟩ hv=>by subst h;have hl:=A.len h1;exact⟨c1,_,by rw[← hl];exact Fv,h1,p.set h2 hv⟩
 le:=by have:=p.le;show A.n+o+M.n<=A.n+B.n;omega
theorem aW.via{A:dB α}{M:dB γ}{o:Nat}{g:α->γ}{s:α->γ->α}(p:aW A M o g s)(f:S->α)(g':S->γ)(s':S->γ->S)(o':Nat)(ho:o'=o)(hg:∀x,g' x=g (f x))(hs:∀x v,f (s' x v)=s (f x) v):aW (A.via f) M o' g' s' where
 get h:=by subst ho;rw[hg];exact p.get h
 set h hv:=by subst ho;show A.eZ _ _ (f (s' _ _));rw[hs];exact p.set h hv
 le:=by subst ho;exact p.le
theorem aW.idx{L:dB α}{m:Nat}(i:Nat)(h:i<m){k:Nat}(hk:k=L.n):aW (LA L m) L (i*k) (λa=>a i) (λa v=>dm a i v) where
 get:=λ⟨cc,hc,h1⟩=>by subst hc hk;have:=Xj (g:=cc) (t:=[]) (λj hj=>L.len (h1 j hj)) h;rw[List.append_nil]at this;rw[this];exact h1 i h
 set:=@λJ cs x vs v hh hv=>by
  obtain⟨cc,hc,h1⟩:=hh;subst hc hk;refine⟨dm cc i vs,Rf (λj hj=>L.len (h1 j hj)) h (L.len hv),λj hj=>?_⟩;unfold dm;split
  ·exact hv
  ·exact h1 j hj
 le:=by subst hk;show i*L.n+L.n<=m*L.n;rw[← Nat.succ_mul];exact Nat.mul_le_mul_right _ h
theorem aW.comp{L:dB α}{M:dB β}{K:dB γ}{o1 o2:Nat}{g1:α->β}{s1:α->β->α}{g2:β->γ}{s2:β->γ->β}(p:aW L M o1 g1 s1)(q:aW M K o2 g2 s2):aW L K (o1+o2) (λx=>g2 (g1 x)) (λx v=>s1 x (s2 (g1 x) v)) where
 get h:=by have h2:=q.get (p.get h);have:=q.le;rw[List.drop_take,List.take_take,List.drop_drop,Nat.min_eq_left (by omega)]at h2;exact h2
 set:=@λJ cs x vs v h hv=>by
  have hl:=L.len h;have h2:=p.set h (q.set (p.get h) hv);have Q3:=K.len hv;have:=q.le;have:=p.le;have e:cU cs o1 (cU ((cs.drop o1).take M.n) o2 vs)=cU cs (o1+o2) vs:=by
   refine B4 λj=>?_;have hm:=M.len (p.get h);have hlen:(cU ((cs.drop o1).take M.n) o2 vs).length=M.n:=by rw[xb (by omega)];exact hm
   rw[q9 (by omega),q9 (cs:=cs) (vs:=vs) (by omega),hlen,Q3];by_cases h1:o1<=j/\j<o1+M.n
   ·rw[aoU h1,q9 (by omega),Q3]
    by_cases h3:o1+o2<=j/\j<o1+o2+K.n
    ·rw[aoU h3,aoU (by omega),show j-o1-o2=j-(o1+o2)by omega]
    ·rw[aoV h3,aoV (by omega),List.getElem?_take,aoU (by omega),List.getElem?_drop,show o1+(j-o1)=j by omega]
   ·rw[aoV h1,aoV (by omega)]
  rw[e]at h2;exact h2
 le:=by have:=q.le;have:=p.le;omega
theorem aW.c0{L:dB α}{M:dB β}{K:dB γ}{o2:Nat}{g1:α->β}{s1:α->β->α}{g2:β->γ}{s2:β->γ->β}(p:aW L M 0 g1 s1)(q:aW M K o2 g2 s2):aW L K o2 (λx=>g2 (g1 x)) (λx v=>s1 x (s2 (g1 x) v)):=by have:=p.comp q;rwa[Nat.zero_add]at this
theorem aW.int{L:dB α}{k:IntKind}{o:Nat}{g:α->Int}{s:α->Int->α}(p:aW L (LI k) o g s){J cs x}(r:L.eZ J cs x):cs[o]? =some (.int k (g x)):=by
 have h:(cs.drop o).take 1=[.int k (g x)]:=p.get r;have h2:((cs.drop o).take 1)[0]? =some (.int k (g x)):=by rw[h];rfl
 rw[List.getElem?_take,aoU (by decide),List.getElem?_drop]at h2;exact h2
theorem aW.bool{L:dB α}{o:Nat}{g:α->Bool}{s:α->Bool->α}(p:aW L LB o g s){J cs x}(r:L.eZ J cs x):cs[o]? =some (.bool (g x)):=by
 have h:(cs.drop o).take 1=[.bool (g x)]:=p.get r;have h2:((cs.drop o).take 1)[0]? =some (.bool (g x)):=by rw[h];rfl
 rw[List.getElem?_take,aoU (by decide),List.getElem?_drop]at h2;exact h2
theorem aW.agg{L:dB α}{M:dB β}[bR L][bR M]{o:Nat}{g:α->β}{s:α->β->α}(p:aW L M o g s)(x:α):((L.enc x).drop o).take M.n=M.enc (g x):=bR.iff.1 (p.get (rp L x))
theorem aW.put{L:dB α}{M:dB β}[bR L][bR M]{o:Nat}{g:α->β}{s:α->β->α}(p:aW L M o g s)(x:α)(v:β):cU (L.enc x) o (M.enc v)=L.enc (s x v):=bR.iff.1 (p.set (rp L x) (rp M v))
end
section words
variable {α ρ:Type}
def lt(a:α)(f:α->Option ρ):Option ρ:=f a
def gu(b:Bool)(k:Option ρ):Option ρ:=bif b then k else none
def bd(m:Option α)(f:α->Option ρ):Option ρ:=m.bind f
def cn(b:Bool)(x y:Option ρ):Option ρ:=bif b then x else y
def cl(g:Bool)(m:Option α)(z:α)(f:α->Option ρ):Option ρ:=bif g then m.bind f else f z
def bQ(i:Int)(n:Nat):Bool:=decide (0<=i)&&decide (i<(n:Int))
abbrev wr(k:IntKind)(n:Int):Int:=k.wrap n
def KI(k:IntKind)(a b:Int):Int:=k.wrap (a*2^(min b.toNat k.bits))
def Fw(k:IntKind)(a b:Int):Int:=a.fdiv (2^(min b.toNat k.bits))
def lV(k:IntKind)(a b:Int):Int:=k.wrap ((BitVec.ofInt k.bits a&&& BitVec.ofInt k.bits b).toNat:Int)
def orI(k:IntKind)(a b:Int):Int:=k.wrap ((BitVec.ofInt k.bits a|||BitVec.ofInt k.bits b).toNat:Int)
def Jg(k:IntKind)(a b:Int):Int:=k.wrap ((BitVec.ofInt k.bits a^^^BitVec.ofInt k.bits b).toNat:Int)
def C2(k:IntKind)(a b:Int):Int:=k.wrap ((BitVec.ofInt k.bits a&&& ~~~BitVec.ofInt k.bits b).toNat:Int)
theorem uL{a:α}{f:α->Option ρ}{r:ρ}(h:lt a f=some r):∃x,x=a/\f x=some r:=⟨a,rfl,h⟩
theorem rm{b:Bool}{k:Option ρ}{r:ρ}(h:gu b k=some r):b=true/\k=some r:=by cases b with|true=>exact⟨rfl,h⟩|false=>cases h
theorem vx{m:Option α}{f:α->Option ρ}{r:ρ}(h:bd m f=some r):∃x,m=some x/\f x=some r:=by cases m with|none=>cases h|some x=>exact⟨x,rfl,h⟩
theorem TQ{b:Bool}{x y:Option ρ}{r:ρ}(hb:b=true)(h:cn b x y=some r):x=some r:=by subst hb;exact h
theorem TR{b:Bool}{x y:Option ρ}{r:ρ}(hb:b=false)(h:cn b x y=some r):y=some r:=by subst hb;exact h
theorem aer{g:Bool}{m:Option α}{z:α}{f:α->Option ρ}{r:ρ}(h:cl g m z f=some r):∃x,(g=true->m=some x)/\(g=false->x=z)/\f x=some r:=by
 cases g with
 |true=>obtain⟨x,h1,h2⟩:=vx h;exact⟨x,λ_ =>h1,nofun,h2⟩
 |false=>exact⟨z,nofun,λ_ =>rfl,h⟩
theorem dF{i:Int}{n:Nat}(h:bQ i n=true):i=(i.toNat:Int)/\i.toNat<n:=by simp[bQ]at h;omega
theorem K9{g p:Bool}(h:(!g||p)=true)(hg:g=true):p=true:=by subst hg;simpa using h
theorem afy{i:Int}(h:decide (0<=i)=true):0<=i:=by simpa using h
end words
section
variable {α1 ρ:Type}
def fK(B:(α1->Option ρ)->α1->Option ρ):Nat->α1->Option ρ
 |0,_ =>none
 |n+1,a1=>B (fK B n) a1
theorem akv{lb B:(α1->Option ρ)->α1->Option ρ}(e:lb=B){m:Nat}{a1:α1}{r:ρ}(h:fK lb m a1=some r):∃m',m=m'+1/\B (fK lb m') a1=some r:=by
 subst e;cases m with
 |zero=>cases h
 |succ m=>exact⟨m,rfl,h⟩
theorem akC{j B:α1->Option ρ}(e:j=B){a1:α1}{r:ρ}(h:j a1=some r):B a1=some r:=e▸h
theorem je{B:(α1->Option ρ)->α1->Option ρ}(I:α1->Prop)(μ:α1->Nat)(Q:Option ρ->Prop)(hB:∀k a1,I a1->(∀b1,I b1->μ b1<μ a1->Q (k b1))->Q (B k a1)):∀n a1,I a1->μ a1<n->Q (fK B n a1):=by
 intro n
 induction n with
 |zero=>intro a1 _ h;exact absurd h (Nat.not_lt_zero _)
 |succ n ih=>intro a1 hi hm;exact hB _ a1 hi λb1 hj hl=>ih b1 hj (by omega)
end
section
variable {α1 α2 ρ:Type}
def cH(B:(α1->α2->Option ρ)->α1->α2->Option ρ):Nat->α1->α2->Option ρ
 |0,_,_ =>none
 |n+1,a1,a2=>B (cH B n) a1 a2
theorem QO{B:(α1->α2->Option ρ)->α1->α2->Option ρ}{n:Nat}{a1:α1}{a2:α2}{r:ρ}(h:cH B n a1 a2=some r):∃lb,lb=B/\cH lb n a1 a2=some r:=⟨B,rfl,h⟩
theorem Np{lb B:(α1->α2->Option ρ)->α1->α2->Option ρ}(e:lb=B){m:Nat}{a1:α1}{a2:α2}{r:ρ}(h:cH lb m a1 a2=some r):∃m',m=m'+1/\B (cH lb m') a1 a2=some r:=by
 subst e;cases m with
 |zero=>cases h
 |succ m=>exact⟨m,rfl,h⟩
theorem dU{B:(α1->α2->Option ρ)->α1->α2->Option ρ}(I:α1->α2->Prop)(μ:α1->α2->Nat)(Q:Option ρ->Prop)(hB:∀k a1 a2,I a1 a2->(∀b1 b2,I b1 b2->μ b1 b2<μ a1 a2->Q (k b1 b2))->Q (B k a1 a2)):∀n a1 a2,I a1 a2->μ a1 a2<n->Q (cH B n a1 a2):=by
 intro n
 induction n with
 |zero=>intro a1 a2 _ h;exact absurd h (Nat.not_lt_zero _)
 |succ n ih=>intro a1 a2 hi hm;exact hB _ a1 a2 hi λb1 b2 hj hl=>ih b1 b2 hj (by omega)
end
section
variable {α1 α2 α3 ρ:Type}
def sF(B:(α1->α2->α3->Option ρ)->α1->α2->α3->Option ρ):Nat->α1->α2->α3->Option ρ
 |0,_,_,_ =>none
 |n+1,a1,a2,a3=>B (sF B n) a1 a2 a3
theorem aku{B:(α1->α2->α3->Option ρ)->α1->α2->α3->Option ρ}{n:Nat}{a1:α1}{a2:α2}{a3:α3}{r:ρ}(h:sF B n a1 a2 a3=some r):∃lb,lb=B/\sF lb n a1 a2 a3=some r:=⟨B,rfl,h⟩
theorem afn{lb B:(α1->α2->α3->Option ρ)->α1->α2->α3->Option ρ}(e:lb=B){m:Nat}{a1:α1}{a2:α2}{a3:α3}{r:ρ}(h:sF lb m a1 a2 a3=some r):∃m',m=m'+1/\B (sF lb m') a1 a2 a3=some r:=by
 subst e;cases m with
 |zero=>cases h
 |succ m=>exact⟨m,rfl,h⟩
theorem rE{B:(α1->α2->α3->Option ρ)->α1->α2->α3->Option ρ}(I:α1->α2->α3->Prop)(μ:α1->α2->α3->Nat)(Q:Option ρ->Prop)(hB:∀k a1 a2 a3,I a1 a2 a3->(∀b1 b2 b3,I b1 b2 b3->μ b1 b2 b3<μ a1 a2 a3->Q (k b1 b2 b3))->Q (B k a1 a2 a3)):∀n a1 a2 a3,I a1 a2 a3->μ a1 a2 a3<n->Q (sF B n a1 a2 a3):=by
 intro n
 induction n with
 |zero=>intro a1 a2 a3 _ h;exact absurd h (Nat.not_lt_zero _)
 |succ n ih=>intro a1 a2 a3 hi hm;exact hB _ a1 a2 a3 hi λb1 b2 b3 hj hl=>ih b1 b2 b3 hj (by omega)
end
section
variable {α1 α2 α3 α4 ρ:Type}
def Nq(B:(α1->α2->α3->α4->Option ρ)->α1->α2->α3->α4->Option ρ):Nat->α1->α2->α3->α4->Option ρ
 |0,_,_,_,_ =>none
 |n+1,a1,a2,a3,a4=>B (Nq B n) a1 a2 a3 a4
theorem akt{lb B:(α1->α2->α3->α4->Option ρ)->α1->α2->α3->α4->Option ρ}(e:lb=B){m:Nat}{a1:α1}{a2:α2}{a3:α3}{a4:α4}{r:ρ}(h:Nq lb m a1 a2 a3 a4=some r):∃m',m=m'+1/\B (Nq lb m') a1 a2 a3 a4=some r:=by
 subst e;cases m with
 |zero=>cases h
 |succ m=>exact⟨m,rfl,h⟩
theorem WX{B:(α1->α2->α3->α4->Option ρ)->α1->α2->α3->α4->Option ρ}(I:α1->α2->α3->α4->Prop)(μ:α1->α2->α3->α4->Nat)(Q:Option ρ->Prop)(hB:∀k a1 a2 a3 a4,I a1 a2 a3 a4->(∀b1 b2 b3 b4,I b1 b2 b3 b4->μ b1 b2 b3 b4<μ a1 a2 a3 a4->Q (k b1 b2 b3 b4))->Q (B k a1 a2 a3 a4)):∀n a1 a2 a3 a4,I a1 a2 a3 a4->μ a1 a2 a3 a4<n->Q (Nq B n a1 a2 a3 a4):=by
 intro n
 induction n with
 |zero=>intro a1 a2 a3 a4 _ h;exact absurd h (Nat.not_lt_zero _)
 |succ n ih=>intro a1 a2 a3 a4 hi hm;exact hB _ a1 a2 a3 a4 hi λb1 b2 b3 b4 hj hl=>ih b1 b2 b3 b4 hj (by omega)
end
section
variable {α1 α2 α3 α4 α5 ρ:Type}
def U7(B:(α1->α2->α3->α4->α5->Option ρ)->α1->α2->α3->α4->α5->Option ρ):Nat->α1->α2->α3->α4->α5->Option ρ
 |0,_,_,_,_,_ =>none
 |n+1,a1,a2,a3,a4,a5=>B (U7 B n) a1 a2 a3 a4 a5
theorem aks{lb B:(α1->α2->α3->α4->α5->Option ρ)->α1->α2->α3->α4->α5->Option ρ}(e:lb=B){m:Nat}{a1:α1}{a2:α2}{a3:α3}{a4:α4}{a5:α5}{r:ρ}(h:U7 lb m a1 a2 a3 a4 a5=some r):∃m',m=m'+1/\B (U7 lb m') a1 a2 a3 a4 a5=some r:=by
 subst e;cases m with
 |zero=>cases h
 |succ m=>exact⟨m,rfl,h⟩
end
section
variable {α1 α2 α3 α4 α5 α6 ρ:Type}
def U5(B:(α1->α2->α3->α4->α5->α6->Option ρ)->α1->α2->α3->α4->α5->α6->Option ρ):Nat->α1->α2->α3->α4->α5->α6->Option ρ
 |0,_,_,_,_,_,_ =>none
 |n+1,a1,a2,a3,a4,a5,a6=>B (U5 B n) a1 a2 a3 a4 a5 a6
theorem akr{lb B:(α1->α2->α3->α4->α5->α6->Option ρ)->α1->α2->α3->α4->α5->α6->Option ρ}(e:lb=B){m:Nat}{a1:α1}{a2:α2}{a3:α3}{a4:α4}{a5:α5}{a6:α6}{r:ρ}(h:U5 lb m a1 a2 a3 a4 a5 a6=some r):∃m',m=m'+1/\B (U5 lb m') a1 a2 a3 a4 a5 a6=some r:=by
 subst e;cases m with
 |zero=>cases h
 |succ m=>exact⟨m,rfl,h⟩
end
section
variable {α1 α2 α3 α4 α5 α6 α7 ρ:Type}
def U4(B:(α1->α2->α3->α4->α5->α6->α7->Option ρ)->α1->α2->α3->α4->α5->α6->α7->Option ρ):Nat->α1->α2->α3->α4->α5->α6->α7->Option ρ
 |0,_,_,_,_,_,_,_ =>none
 |n+1,a1,a2,a3,a4,a5,a6,a7=>B (U4 B n) a1 a2 a3 a4 a5 a6 a7
theorem akq{lb B:(α1->α2->α3->α4->α5->α6->α7->Option ρ)->α1->α2->α3->α4->α5->α6->α7->Option ρ}(e:lb=B){m:Nat}{a1:α1}{a2:α2}{a3:α3}{a4:α4}{a5:α5}{a6:α6}{a7:α7}{r:ρ}(h:U4 lb m a1 a2 a3 a4 a5 a6 a7=some r):∃m',m=m'+1/\B (U4 lb m') a1 a2 a3 a4 a5 a6 a7=some r:=by
 subst e;cases m with
 |zero=>cases h
 |succ m=>exact⟨m,rfl,h⟩
end
section
variable {α1 α2 α3 α4 α5 α6 α7 α8 ρ:Type}
def U3(B:(α1->α2->α3->α4->α5->α6->α7->α8->Option ρ)->α1->α2->α3->α4->α5->α6->α7->α8->Option ρ):Nat->α1->α2->α3->α4->α5->α6->α7->α8->Option ρ
 |0,_,_,_,_,_,_,_,_ =>none
 |n+1,a1,a2,a3,a4,a5,a6,a7,a8=>B (U3 B n) a1 a2 a3 a4 a5 a6 a7 a8
theorem akp{lb B:(α1->α2->α3->α4->α5->α6->α7->α8->Option ρ)->α1->α2->α3->α4->α5->α6->α7->α8->Option ρ}(e:lb=B){m:Nat}{a1:α1}{a2:α2}{a3:α3}{a4:α4}{a5:α5}{a6:α6}{a7:α7}{a8:α8}{r:ρ}(h:U3 lb m a1 a2 a3 a4 a5 a6 a7 a8=some r):∃m',m=m'+1/\B (U3 lb m') a1 a2 a3 a4 a5 a6 a7 a8=some r:=by
 subst e;cases m with
 |zero=>cases h
 |succ m=>exact⟨m,rfl,h⟩
end
section
variable {α1 α2 α3 α4 α5 α6 α7 α8 α9 ρ:Type}
def U2(B:(α1->α2->α3->α4->α5->α6->α7->α8->α9->Option ρ)->α1->α2->α3->α4->α5->α6->α7->α8->α9->Option ρ):Nat->α1->α2->α3->α4->α5->α6->α7->α8->α9->Option ρ
 |0,_,_,_,_,_,_,_,_,_ =>none
 |n+1,a1,a2,a3,a4,a5,a6,a7,a8,a9=>B (U2 B n) a1 a2 a3 a4 a5 a6 a7 a8 a9
theorem ako{lb B:(α1->α2->α3->α4->α5->α6->α7->α8->α9->Option ρ)->α1->α2->α3->α4->α5->α6->α7->α8->α9->Option ρ}(e:lb=B){m:Nat}{a1:α1}{a2:α2}{a3:α3}{a4:α4}{a5:α5}{a6:α6}{a7:α7}{a8:α8}{a9:α9}{r:ρ}(h:U2 lb m a1 a2 a3 a4 a5 a6 a7 a8 a9=some r):∃m',m=m'+1/\B (U2 lb m') a1 a2 a3 a4 a5 a6 a7 a8 a9=some r:=by
 subst e;cases m with
 |zero=>cases h
 |succ m=>exact⟨m,rfl,h⟩
end
section
variable {α1 α2 α3 α4 α5 α6 α7 α8 α9 MY ρ:Type}
def OU(B:(α1->α2->α3->α4->α5->α6->α7->α8->α9->MY->Option ρ)->α1->α2->α3->α4->α5->α6->α7->α8->α9->MY->Option ρ):Nat->α1->α2->α3->α4->α5->α6->α7->α8->α9->MY->Option ρ
 |0,_,_,_,_,_,_,_,_,_,_ =>none
 |n+1,a1,a2,a3,a4,a5,a6,a7,a8,a9,VX=>B (OU B n) a1 a2 a3 a4 a5 a6 a7 a8 a9 VX
theorem agU{lb B:(α1->α2->α3->α4->α5->α6->α7->α8->α9->MY->Option ρ)->α1->α2->α3->α4->α5->α6->α7->α8->α9->MY->Option ρ}(e:lb=B){m:Nat}{a1:α1}{a2:α2}{a3:α3}{a4:α4}{a5:α5}{a6:α6}{a7:α7}{a8:α8}{a9:α9}{VX:MY}{r:ρ}(h:OU lb m a1 a2 a3 a4 a5 a6 a7 a8 a9 VX=some r):∃m',m=m'+1/\B (OU lb m') a1 a2 a3 a4 a5 a6 a7 a8 a9 VX=some r:=by
 subst e;cases m with
 |zero=>cases h
 |succ m=>exact⟨m,rfl,h⟩
end
section
variable {α1 α2 α3 α4 α5 α6 α7 α8 α9 MY Wb ρ:Type}
def OT(B:(α1->α2->α3->α4->α5->α6->α7->α8->α9->MY->Wb->Option ρ)->α1->α2->α3->α4->α5->α6->α7->α8->α9->MY->Wb->Option ρ):Nat->α1->α2->α3->α4->α5->α6->α7->α8->α9->MY->Wb->Option ρ
 |0,_,_,_,_,_,_,_,_,_,_,_ =>none
 |n+1,a1,a2,a3,a4,a5,a6,a7,a8,a9,VX,a11=>B (OT B n) a1 a2 a3 a4 a5 a6 a7 a8 a9 VX a11
theorem agT{lb B:(α1->α2->α3->α4->α5->α6->α7->α8->α9->MY->Wb->Option ρ)->α1->α2->α3->α4->α5->α6->α7->α8->α9->MY->Wb->Option ρ}(e:lb=B){m:Nat}{a1:α1}{a2:α2}{a3:α3}{a4:α4}{a5:α5}{a6:α6}{a7:α7}{a8:α8}{a9:α9}{VX:MY}{a11:Wb}{r:ρ}(h:OT lb m a1 a2 a3 a4 a5 a6 a7 a8 a9 VX a11=some r):∃m',m=m'+1/\B (OT lb m') a1 a2 a3 a4 a5 a6 a7 a8 a9 VX a11=some r:=by
 subst e;cases m with
 |zero=>cases h
 |succ m=>exact⟨m,rfl,h⟩
end
section
variable {α1 α2 α3 α4 α5 α6 α7 α8 α9 MY Wb α12 ρ:Type}
def OS(B:(α1->α2->α3->α4->α5->α6->α7->α8->α9->MY->Wb->α12->Option ρ)->α1->α2->α3->α4->α5->α6->α7->α8->α9->MY->Wb->α12->Option ρ):Nat->α1->α2->α3->α4->α5->α6->α7->α8->α9->MY->Wb->α12->Option ρ
 |0,_,_,_,_,_,_,_,_,_,_,_,_ =>none
 |n+1,a1,a2,a3,a4,a5,a6,a7,a8,a9,VX,a11,a12=>B (OS B n) a1 a2 a3 a4 a5 a6 a7 a8 a9 VX a11 a12
theorem agS{lb B:(α1->α2->α3->α4->α5->α6->α7->α8->α9->MY->Wb->α12->Option ρ)->α1->α2->α3->α4->α5->α6->α7->α8->α9->MY->Wb->α12->Option ρ}(e:lb=B){m:Nat}{a1:α1}{a2:α2}{a3:α3}{a4:α4}{a5:α5}{a6:α6}{a7:α7}{a8:α8}{a9:α9}{VX:MY}{a11:Wb}{a12:α12}{r:ρ}(h:OS lb m a1 a2 a3 a4 a5 a6 a7 a8 a9 VX a11 a12=some r):∃m',m=m'+1/\B (OS lb m') a1 a2 a3 a4 a5 a6 a7 a8 a9 VX a11 a12=some r:=by
 subst e;cases m with
 |zero=>cases h
 |succ m=>exact⟨m,rfl,h⟩
end
section rules
variable {P:Program} {N:Nat} {c:Cx} {D:List Deferred} {Q:Exit->Act->World->Prop} {F:gp} {H:List aO} {d:Option Tmp} {ty:TypeId} {ps:String} {af:Array Edge} {g:Option (Nat×Bool)} {α β γ:Type}
theorem RH{x:Operand}{y z:Code}{t:Bool}(hc:ev F x=some (.bool t))(h1:t=true->WP P N c D y Q F H)(h0:t=false->WP P N c D z Q F H):WP P N c D (.cond x y z) Q F H:=by
 cases t with
 |true=>exact aeI hc (h1 rfl)
 |false=>exact abU hc (h0 rfl)
theorem T9{o:Oper}{v v':Value}(h:VS P N c o F H v)(e:v=v'):VS P N c o F H v':=e▸h
theorem aeW{T U:TypeId}{x y:Operand}{k:IntKind}{a b:Int}(hx:ev F x=some (.int k a))(hy:ev F y=some (.int k b)):VS P N c ⟨d, .binOp .and T x y U,ty,ps,af,g⟩ F H (.int k (lV k a b)):=aeV hx hy rfl λ_ _ =>rfl
theorem VY{T U:TypeId}{x y:Operand}{k k':IntKind}{a b:Int}(hx:ev F x=some (.int k a))(hy:ev F y=some (.int k' b))(h0:0<=b):VS P N c ⟨d, .binOp .shl T x y U,ty,ps,af,g⟩ F H (.int k (KI k a b)):=aiG hx hy h0 rfl
theorem PA{T U:TypeId}{x y:Operand}{k k':IntKind}{a b:Int}(hx:ev F x=some (.int k a))(hy:ev F y=some (.int k' b))(h0:0<=b):VS P N c ⟨d, .binOp .shr T x y U,ty,ps,af,g⟩ F H (.int k (Fw k a b)):=aiF hx hy h0 rfl
theorem H8{L:dB α}[bR L]{x:α}{k:IntKind}{o b t T:Nat}{y:Operand}{gg:α->Int}{s:α->Int->α}(p:aW L (LI k) o gg s)(hx:ev F y=some (fW b o))[xL H b T (L.enc x)][sR P t]:VS P N c ⟨d, .load t y,ty,ps,af,g⟩ F H (.int k (gg x)):=lz hx (p.int (rp L x))
theorem aiN{L:dB α}[bR L]{x:α}{o b t T:Nat}{y:Operand}{gg:α->Bool}{s:α->Bool->α}(p:aW L LB o gg s)(hx:ev F y=some (fW b o))[xL H b T (L.enc x)][sR P t]:VS P N c ⟨d, .load t y,ty,ps,af,g⟩ F H (.bool (gg x)):=lz hx (p.bool (rp L x))
theorem nA{L:dB α}{M:dB β}[bR L][bR M]{x:α}{o b t T q:Nat}{y:Operand}{gg:α->β}{s:α->β->α}(p:aW L M o gg s)(hx:ev F y=some (fW b o))[xL H b T (L.enc x)][ht:wu P t q](hn:M.n=q):VS P N c ⟨d, .load t y,ty,ps,af,g⟩ F H (.agg (M.enc (gg x)).toArray):=by subst hn;exact I9 hx (p.agg x) (lq _ _)
theorem zk{L:dB α}{M:dB β}[bR L][bR M]{x:α}{o b t T q:Nat}{y z:Operand}{gg:α->β}{s:α->β->α}{val:Value}{H':List aO}(p:aW L M o gg s)(v:β)(x':α)(e:x'=s x v)(hx:ev F y=some (fW b o))(hz:ev F z=some val)(hv:val.cells.toList=M.enc v)
  [xL H b T (L.enc x)][ht:Ue P t q](hn:M.n=q)[MP H b (L.enc x') H']:RX (α:=Unit) P N c ⟨d, .store t y z,ty,ps,af,g⟩ F H (λ_ =>True) (λ_ =>undef) (λ_ =>H'):=by
 subst hn;subst e;exact uX hx hz hv (lq _ _) (by rw[lq];exact p.le) (F1 _ _) (p.put x v)
theorem qk(L:dB α)[bR L](x:α){y:Operand}{t:Nat}{val:Value}(hx:ev F y=some val)(hv:val.cells.toList=L.enc x):
  RX P N c ⟨d, .box t y,ty,ps,af,g⟩ F H (λ_ =>True) (λb=>fW b 0) (λb=> .cells b t (L.enc x)::H):=Uh hx hv
theorem zl{L:dB α}[bR L]{z:α}{t:Nat}(hz:ke P t (L.enc z)):
  RX P N c ⟨d, .alloc t,ty,ps,af,g⟩ F H (λ_ =>True) (λb=>fW b 0) (λb=> .cells b t (L.enc z)::H):=sS (hz:=hz)
end rules
end Go.Bw
namespace Go.Bw
open Go Go.RowKit
def Hs(R:List aO)(w:World):Prop:=∀r∈R,r.holds w/\∀b∈r.eL,b<w.heap.size
class Cs(K:World->Prop):Prop where
 ok:∀w w',K w->bG [] w w'->K w'
instance ajf(R:List aO):Cs (Hs R):=⟨λw w' h hs r hr=>⟨aO.om (h r hr).1 hs.size λb hb=>hs.block b ((h r hr).2 b hb) (by simp),λb hb=>Nat.lt_of_lt_of_le ((h r hr).2 b hb) hs.size⟩⟩
class HIn(A:World->Prop)(r:aO):Prop where
 ok:∀w,A w->r.holds w/\∀b∈r.eL,b<w.heap.size
instance(priority:=100) amc(r:aO)(R:List aO):HIn (Hs (r::R)) r:=⟨λ_ h=>h r (by simp)⟩
instance(priority:=50) ajm(r s:aO)(R:List aO)[h:HIn (Hs R) r]:HIn (Hs (s::R)) r:=⟨λw hw=>h.ok w λq hq=>hw q (by simp[hq])⟩
instance(priority:=30) aoA(A B:World->Prop)(r:aO)[h:HIn B r]:HIn (λw=>A w/\B w) r:=⟨λw hw=>h.ok w hw.2⟩
class Ent(A B:World->Prop):Prop where
 ok:∀w,A w->B w
theorem GL{A B:World->Prop}[h:Ent A B]:∀w,A w->B w:=h.ok
instance(priority:=100) ame(A:World->Prop):Ent A A:=⟨λ_ h=>h⟩
instance(priority:=80) aml(A:World->Prop):Ent A (Hs []):=⟨λ_ _ _ h=>by simp at h⟩
instance(priority:=70) amf(A:World->Prop)(r:aO)(R:List aO)[h:HIn A r][k:Ent A (Hs R)]:Ent A (Hs (r::R)):=⟨λw hw q hq=>by
 rcases List.mem_cons.1 hq with rfl|hq
 ·exact h.ok w hw
 ·exact k.ok w hw q hq⟩
class Kn(c:Cx)(H:List aO)(A:World->Prop):Prop where
 ok:∀w,bG c.bs c.w0 w->cC c.bs c.w0.heap.size H w->A w
theorem kn{c:Cx}{H:List aO}{A:World->Prop}[h:Kn c H A]:∀w,bG c.bs c.w0 w->cC c.bs c.w0.heap.size H w->A w:=h.ok
theorem IX{c:Cx}{H:List aO}{w:World}(h:cC c.bs c.w0.heap.size H w):Hs H w:=λr hr=>⟨h.holds r hr,λb hb=>(h.own r hr b hb).2⟩
instance(priority:=80) aoz(c:Cx)(H R:List aO)[h:Ent (Hs H) (Hs R)]:Kn c H (Hs R):=⟨λw _ h2=>h.ok w (IX h2)⟩
instance(priority:=80) amj(c:Cx)(H:List aO):Kn c H (λ_ =>True):=⟨λ_ _ _ =>trivial⟩
theorem ag7{c:Cx}{K:World->Prop}[hS:Cs K](qJ:c.bs=[])(hpre:K c.w0):∀H,Kn c H K:=λH=>⟨λw hs _ =>hS.ok c.w0 w hpre (by rw[qJ]at hs;exact hs)⟩
section
variable {α β:Type}
def fQ(L:dB α)[bR L](xs:List α):List Value:=(xs.map L.enc).flatten
theorem qB(L:dB α)[bR L](xs:List α):(fQ L xs).length=xs.length*L.n:=by
 induction xs with
 |nil=>simp[fQ]
 |cons x xs ih=>simp only[fQ,List.map_cons,List.flatten_cons,List.length_append,List.length_cons,lq]at *;rw[ih,Nat.succ_mul];omega
theorem Qp(L:dB α)[bR L](xs:List α):uZ (fQ L xs):=by intro v hv;simp only[fQ,List.mem_flatten,List.mem_map]at hv;obtain⟨l,⟨x,_,rfl⟩,h⟩:=hv;exact F1 L x v h
theorem uJ(L:dB α)[bR L](xs ys:List α):fQ L (xs++ys)=fQ L xs++fQ L ys:=by simp[fQ]
theorem Nc(L:dB α)[bR L](x:α):fQ L [x]=L.enc x:=by simp[fQ]
theorem TH(g:Nat->List Value):∀n,flat g (n+1)=g 0++flat (λi=>g (i+1)) n:=by
 intro n
 induction n with
 |zero=>simp[flat]
 |succ n ih=>rw[flat,ih,flat,List.append_assoc]
theorem jz(L:dB α)[bR L][Inhabited α](xs:List α):fQ L xs=(LA L xs.length).enc (λi=>xs.getD i default):=by
 show _ =flat (λi=>L.enc (xs.getD i default)) xs.length
 induction xs with
 |nil=>rfl
 |cons x xs ih=>rw[List.length_cons,TH];simp only[fQ,List.map_cons,List.flatten_cons]at *;rw[ih];rfl
theorem Y6(L:dB α)[bR L](xs:List α)(l h:Nat)(hl:l<=h)(hh:h<=xs.length):((fQ L xs).drop (l*L.n)).take ((h-l)*L.n)=fQ L ((xs.drop l).take (h-l)):=by
 have e1:xs=xs.take l++((xs.drop l).take (h-l)++(xs.drop l).drop (h-l)):=by rw[List.take_append_drop,List.take_append_drop]
 have l1:(fQ L (xs.take l)).length=l*L.n:=by rw[qB,List.length_take,Nat.min_eq_left (by omega)]
 have l2:(fQ L ((xs.drop l).take (h-l))).length=(h-l)*L.n:=by rw[qB];congr 1;simp;omega
 conv=>lhs;rw[e1,uJ,uJ]
 rw[← l1,List.drop_left, ← l2,List.take_left]
theorem Y4(L:dB α)[bR L][Inhabited α](xs:List α)(m:Nat)(y:α)(hm:m<xs.length):(LA L xs.length).enc (dm (λi=>xs.getD i default) m y)=fQ L (xs.set m y):=by
 rw[jz,List.length_set];show flat _ _ =flat _ _;refine Ac λi hi=>?_;congr 1;unfold dm;simp only[List.getD,List.getElem?_set];by_cases e:m=i
 ·subst e;simp[hm]
 ·simp[e,Ne.symm e]
structure Fz(A:World->Prop)(v:Value)(L:dB α)[bR L](xs:List α):Prop where
 sl:wv v xs.length
 ro:∀w,A w->Ro w v L.n xs.length (fQ L xs)
theorem Fz.mono{A B:World->Prop}{v:Value}{L:dB α}[bR L]{xs:List α}(h:Fz A v L xs)(m:∀w,B w->A w):Fz B v L xs:=⟨h.sl,λw hw=>h.ro w (m w hw)⟩
theorem Fz.nil{A:World->Prop}{L:dB α}[bR L]{a:Option Addr}{cp:Nat}:Fz A (.slice a 0 cp) L ([]:List α):=⟨⟨_,_,rfl⟩,λ_ _ =>⟨by simp[fQ], .inl ⟨⟨_,_,rfl⟩,rfl⟩⟩⟩
theorem Fz.at {c:Cx}{H:List aO}{A:World->Prop}{v:Value}{L:dB α}[bR L]{xs:List α}(h:Fz A v L xs)[k:Kn c H A]:tv c H v L.n xs.length (fQ L xs):=⟨λw h1 h2=>h.ro w (k.ok w h1 h2)⟩
abbrev nr(v:Value)(e sz:Nat)(L:dB α)[bR L](xs:List α):aO:= .row v e sz xs.length (fQ L xs)
theorem Fz.row{v:Value}{e sz:Nat}{L:dB α}[bR L]{xs:List α}(hs:sz=L.n)(h:wv v xs.length):Fz (Hs [nr v e sz L xs]) v L xs:=⟨h,λw hw=>by
 subst hs;have h1:(nr v e L.n L xs).holds w:=(hw _ (List.mem_singleton.2 rfl)).1;exact Ro.zR (e:=e) h1⟩
theorem SF(M:dB β)[bR M][Inhabited β](g:Nat->β)(m:Nat):fQ M ((List.range m).map g)=flat (λi=>M.enc (g i)) m:=by rw[jz];show flat _ _ =_;rw[List.length_map,List.length_range];refine Ac λi hi=>?_;simp[List.getD,hi]
theorem Fz.akc{W:World}{v:Value}{L:dB α}[bR L][Inhabited α]{sz len:Nat}{g:Nat->α}(hs:sz=L.n)(hv:wv v len)(h:Ro W v sz len (flat (λi=>L.enc (g i)) len)):Fz (λw=>bG [] W w) v L ((List.range len).map g):=by subst hs;refine⟨by simpa using hv,λw hw=>?_⟩;rw[SF];have:=h.since hw;simpa using this
def V9(L:dB α)[bR L]:dB (List α) where
 n:=1
 eZ A cs xs:=∃v,cs=[v]/\Fz A v L xs
 len:=λ⟨v,h,_⟩=>by subst h;rfl
 one:=λ⟨v,h,hf⟩=>by subst h;intro u hu;rw[List.mem_singleton.1 hu];exact hf.sl.one
 mono m:=λ⟨v,h,hf⟩=>⟨v,h,hf.mono m⟩
theorem aW.sl{L:dB α}{M:dB β}[bR M]{o:Nat}{g:α->List β}{s:α->List β->α}(p:aW L (V9 M) o g s){A cs x}(r:L.eZ A cs x):∃v,cs[o]? =some v/\Fz A v M (g x):=by
 obtain⟨v,h,hf⟩:=p.get r;refine⟨v,?_,hf⟩;have h2:((cs.drop o).take (V9 M).n)[0]? =some v:=by rw[h];rfl
 rw[List.getElem?_take,aoU (by show 0<1;decide),List.getElem?_drop]at h2;exact h2
end
section rules
variable {P:Program} {N:Nat} {c:Cx} {D:List Deferred} {Q:Exit->Act->World->Prop} {F:gp} {H:List aO} {d:Option Tmp} {ty:TypeId} {ps:String} {af:Array Edge} {g:Option (Nat×Bool)} {α β γ:Type}
section
variable {A:World->Prop} {v:Value} {L:dB α} [bR L] {xs:List α}
theorem wo{x:Operand}{t e q:Nat}[ht:zo P t e q](hf:Fz A v L xs)(hx:ev F x=some v)[Kn c H A]:VS P N c ⟨d, .call ⟨.builtin .len, #[x], #[t]⟩,ty,ps,af,g⟩ F H (.int .i64 (xs.length:Int)):=by haveI:=hf.at (c:=c) (H:=H);exact Uc hx
theorem Ar{x y:Operand}{t e sz m:Nat}{k:IntKind}{i:Int}[ht:zo P t e sz](hf:Fz A v L xs)(hs:L.n=sz)(hx:ev F x=some v)(hy:ev F y=some (.int k i))[Kn c H A](hi:i=(m:Int))(hm:m<xs.length):
  VS P N c ⟨d, .indexAddr t x y,ty,ps,af,g⟩ F H (jy v (m*sz)):=by
 haveI:=hf.at (c:=c) (H:=H);subst hs;exact As hx hy hi hm
variable [Inhabited α]
theorem C3{k:IntKind}{o t:Nat}{y:Operand}{gg:(Nat->α)->Int}{s:(Nat->α)->Int->(Nat->α)}(hf:Fz A v L xs)(p:aW (LA L xs.length) (LI k) o gg s)(hx:ev F y=some (jy v o))[Kn c H A][sR P t]:VS P N c ⟨d, .load t y,ty,ps,af,g⟩ F H (.int k (gg (λi=>xs.getD i default))):=by haveI:=hf.at (c:=c) (H:=H);exact Jd hx (by rw[jz];exact p.int (rp _ _))
end
def gw(n m b:Nat):Bool:=decide ((n+m)*b<=140737488355328/\n+m<=9223372036854775807)
theorem kU{n m b:Nat}(h:gw n m b=true):(n+m)*b<=140737488355328/\n+m<=9223372036854775807:=of_decide_eq_true h
theorem LW{L:dB α}{M:dB β}{o b t T q:Nat}{y z:Operand}{gg:α->β}{s:α->β->α}{val:Value}{cs cs':List Value}(vs:List Value){x:α}{v:β}{A B:World->Prop}{H':List aO}(p:aW L M o gg s)(r:L.eZ A cs x)(rv:M.eZ B vs v)(hx:ev F y=some (fW b o))(hz:ev F z=some val)(hv:val.cells.toList=vs)
  [xL H b T cs][ht:Ue P t q](hn:M.n=q)(hc:cU cs o vs=cs')[MP H b cs' H']:RX (α:=Unit) P N c ⟨d, .store t y z,ty,ps,af,g⟩ F H (λ_ =>True) (λ_ =>undef) (λ_ =>H'):=by
 subst hn;exact uX hx hz hv (M.len rv) (by rw[L.len r];exact p.le) (M.one rv) hc
section
variable {v:Value} {L:dB α} [bR L] {xs:List α} {t e sz bytes:Nat} {f:aO->List aO}
theorem Gp{s x:Operand}{b T cp:Nat}{y:α}[PF P t e sz bytes](hs:ev F s=some v)[hr:xH H v e sz xs.length (fQ L xs) f](hx:ev F x=some (.slice (some ⟨b,0,none⟩) 1 cp))[hc:xL H b T (L.enc y)](hn:L.n=sz)
  (Q4:(xs.length+1)*bytes<=140737488355328)(h63:xs.length+1<=9223372036854775807):
  RX P N c ⟨d, .call ⟨.builtin .append, #[s,x], #[t,t]⟩,ty,ps,af,g⟩ F H (λv'=>wv v' (xs++[y]).length) (λv'=>v') (λv'=>f (nr v' e sz L (xs++[y]))):=by
 have h:=XD (P:=P) (N:=N) (c:=c) (F:=F) (H:=H) (d:=d) (ty:=ty) (p:=ps) (af:=af) (g:=g) (t:=t) (m:=1) hs hx (by rw[lq,hn];omega) (F1 L y) Q4 h63 (hr:=hr) (hc:=hc);have e1:(xs++[y]).length=xs.length+1:=by simp
 have e2:fQ L (xs++[y])=fQ L xs++L.enc y:=by rw[uJ,Nc]
 unfold nr;rw[e1,e2];exact h
theorem Gn{s x:Operand}{A:World->Prop}{u:Value}{ys:List α}[PF P t e sz bytes](hf:Fz A u L ys)(hs:ev F s=some v)[hr:xH H v e sz xs.length (fQ L xs) f](hx:ev F x=some u)[Kn c H A](hn:L.n=sz)
  (Q4:(xs.length+ys.length)*bytes<=140737488355328)(h63:xs.length+ys.length<=9223372036854775807):
  RX P N c ⟨d, .call ⟨.builtin .append, #[s,x], #[t,t]⟩,ty,ps,af,g⟩ F H (λv'=>wv v' (xs++ys).length) (λv'=>v') (λv'=>f (nr v' e sz L (xs++ys))):=by
 subst hn;have h:=Au (P:=P) (N:=N) (c:=c) (F:=F) (H:=H) (d:=d) (ty:=ty) (p:=ps) (af:=af) (g:=g) (t:=t) hs hx (hr:=hr) (hu:=hf.at) (Qp L ys) Q4 h63;have e1:(xs++ys).length=xs.length+ys.length:=by simp
 have e2:fQ L (xs++ys)=fQ L xs++fQ L ys:=uJ _ _ _;unfold nr;rw[e1,e2];exact h
theorem Ia{x:Operand}(L:dB α)[bR L](y:α){zs:List Value}{val:Value}[ht:zo P t e sz][hz:ke P e zs](hx:ev F x=some val)(hc:val.cells.toList=L.enc y)(hl:L.n=sz)(hzl:zs.length=sz)(h0:0<sz)(hs:sz<=16777216):
  RX P N c ⟨d, .buildSlice t 1 #[(0,x)],ty,ps,af,g⟩ F H (λ_ =>True) (λb=> .slice (some ⟨b,0,none⟩) 1 1) (λb=> .cells b e (L.enc y)::H):=LY hx hc (by rw[lq];exact hl) hzl h0 hs
end
theorem Gi{x:Code}(e sz:Nat)(L:dB α)[bR L](h:WP P N c D x Q F (nr (.slice none 0 0) e sz L []::H)):WP P N c D x Q F H:=aeJ e sz h
theorem aeF{x:Exit}(e sz:Nat)(L:dB α)[bR L](h:WQ N c D Q x F (nr (.slice none 0 0) e sz L []::H)):WQ N c D Q x F H:=aeG e sz h
abbrev FnB(P:Program)(f:Nat)(args:List Value)(K:World->Prop)(p:(World->Prop)->Value->Prop):Prop:=
 Fn (α:=Value×List Nat×(World->Prop)) P f args K [] (λx=>p (Hs [.ext x.2.1 x.2.2]) x.1) (λx=>x.1) (λx=>[.ext x.2.1 x.2.2])
theorem abt{bs:List Nat}{n0:Nat}{w:World}{R H':List aO}(h:cC bs n0 (R++H') w):cC bs n0 (.ext (cm R) (Hs R)::H') w:=by
 have hp:=List.pairwise_append.1 h.apart;refine⟨λr hr=>?_,λr hr b hb=>?_,?_⟩
 ·rcases List.mem_cons.1 hr with rfl|hr
  ·intro w' h1 h2 q hq
   have Lb:=h.holds q (ao1 _ hq);exact⟨aO.om Lb h1 λb hb=>h2 b (bN.2 ⟨q,hq,hb⟩),λb hb=>Nat.lt_of_lt_of_le (h.own q (ao1 _ hq) b hb).2 h1⟩
  ·exact h.holds r (ao0 _ hr)
 ·rcases List.mem_cons.1 hr with rfl|hr
  ·obtain⟨q,hq,hb⟩:=bN.1 hb;exact h.own q (ao1 _ hq) b hb
  ·exact h.own r (ao0 _ hr) b hb
 ·refine List.pairwise_cons.2 ⟨λs hs b hb qJ=>?_,hp.2.1⟩
  obtain⟨q,hq,hb⟩:=bN.1 hb;exact hp.2.2 q hq s hs b hb qJ
theorem HZ{e:Exit}{R H':List aO}{ks:List Nat}(hk:pick H ks=some (R++H'))(hn:ks.Nodup)(h:WQ N c D Q e F (.ext (cm R) (Hs R)::H')):WQ N c D Q e F H:=abN (λ_ _ _ hp=>abt (hp.pick hk hn)) h
instance(priority:=60) amk(bs:List Nat)(R:List aO)(r:aO)(S:List aO)[h:HIn (Hs R) r]:HIn (Hs (.ext bs (Hs R)::S)) r:=⟨λw hw=>h.ok w (FZ (hw (.ext bs (Hs R)) (by simp)).1)⟩
end rules
end Go.Bw
namespace Go.Bw
open Go Go.RowKit
section rules
variable {P:Program} {N:Nat} {c:Cx} {D:List Deferred} {Q:Exit->Act->World->Prop} {F:gp} {H:List aO} {d:Option Tmp} {ty:TypeId} {ps:String} {af:Array Edge} {g:Option (Nat×Bool)} {α β γ:Type}
theorem ab3{A:World->Prop}{v:Value}{L:dB α}[bR L]{xs:List α}{x hi mx:Operand}{t e q:Nat}{k k':IntKind}[ht:zo P t e q](hf:Fz A v L xs)(hx:ev F x=some v)(hh:ev F hi=some (.int k (xs.length:Int)))(hm:ev F mx=some (.int k' (xs.length:Int)))[Kn c H A]:
  VS P N c ⟨d, .slice t x none (some hi) (some mx),ty,ps,af,g⟩ F H (AZ v):=by
 haveI:=hf.at (c:=c) (H:=H);exact V3 hx hh hm
def XY(bs:List Nat)(K:World->Prop)(w:World):Prop:=∀w',bG bs w w'->K w'
class KnF(c:Cx)(R:List aO)(K:World->Prop):Prop where
 ok:∀w,bG c.bs c.w0 w->Hs R w->K w
instance(priority:=80) ama(c:Cx)(R:List aO):KnF c R (λ_ =>True):=⟨λ_ _ _ =>trivial⟩
instance(priority:=20) aoR(c:Cx)(H:List aO)(K:World->Prop)[h:KnF c H K]:Kn c H K:=⟨λw h1 h2=>h.ok w h1 (IX h2)⟩
theorem adR{c:Cx}{K:World->Prop}[hS:Cs K](qJ:c.bs=[])(hpre:K c.w0):∀R,KnF c R K:=λR=>⟨λw hs _ =>hS.ok c.w0 w hpre (by rw[qJ]at hs;exact hs)⟩
abbrev FnC(P:Program)(f:Nat)(args:List Value)(K:World->Prop)(pW:List aO)(p:(World->Prop)->Value->List aO->Prop):Prop:=
 Fn (α:=Value×List aO×List Nat×(World->Prop)) P f args (XY (cm pW) K) pW (λx=>p (Hs [.ext x.2.2.1 x.2.2.2]) x.1 x.2.1) (λx=>x.1) (λx=> .ext x.2.2.1 x.2.2.2::x.2.1)
theorem Cv{α:Type}{x:Operand}{args:List Operand}{ats:Array TypeId}{f:Nat}{fst cap:Array Value}{us vs:List Value}{K:World->Prop}{pW rest:List aO}{p:α->Prop}{fv:α->Value}{fH:α->List aO}{ks:List Nat}
  (hc:Fn P f vs (XY (cm pW) K) pW p fv fH)(hx:ev F x=some (.func (.func f) fst cap))(ha:I2 F args=some us)(hv:fst.toList++us++cap.toList=vs)(hkp:pick H ks=some (pW++rest))(hn:ks.Nodup)[hK:KnF c rest K]:
  RX P N c ⟨d, .call ⟨.value x,args.toArray,ats⟩,ty,ps,af,g⟩ F H p fv (λi=>fH i++rest):=λD a w next Q hst hk=>by
 refine⟨λ_ _ =>trivial,?_⟩;have hs:Oper.semAt (FA c.ro).round a.eval (⟨d, .call ⟨.value x,args.toArray,ats⟩,ty,ps,af,g⟩:Oper)=execOp a.eval ⟨d, .call ⟨.value x,args.toArray,ats⟩,ty,ps,af,g⟩:=Oper.semAt_eq _ _ _ (by simp);have hr:(execOp a.eval ⟨d, .call ⟨.value x,args.toArray,ats⟩,ty,ps,af,g⟩).run P w= .ok (.enter f vs.toArray) w:=by
  have e1:=bz hst.fr hx;have e2:=Pn hst.fr ha;have e3:fst++(args.toArray.map a.eval)++cap=vs.toArray:=by rw[← hv, ← e2];simp
  simp only[execOp,resolve,e1,Deferred.ofValue,Sem.run_bind,Sem.run_pure,Result.andThen_ok,invoke,e3];exact hc.enter _ _
 rw[hs,hr];refine⟨λh=>by simp at h,ot c.ro ?_⟩;have hp:=hst.hp.pick hkp hn;have hap:=List.pairwise_append.1 hp.apart;have hin:cC (cm pW) w.heap.size pW w:=⟨λr hr=>hp.holds r (ao1 _ hr),λr hr b hb=>⟨.inl (bN.2 ⟨r,hr,hb⟩),(hp.own r (ao1 _ hr) b hb).2⟩,hap.1⟩;have hkeep:∀{w':World},bG (cm pW) w w'->∀r∈rest,r.holds w'/\∀b∈r.eL,b<w'.heap.size:=λhsi r hr=>by have hlt:∀b∈r.eL,b<w.heap.size:=λb hb=>(hp.own r (ao0 _ hr) b hb).2;refine⟨aO.om (hp.holds r (ao0 _ hr)) hsi.size λb hb=>hsi.block b (hlt b hb) λhm=>?_,λb hb=>Nat.lt_of_lt_of_le (hlt b hb) hsi.size⟩;obtain⟨q,hq,hbq⟩:=bN.1 hm;exact hap.2.2 q hq r hr b hbq hb
 have hown:∀b∈cm pW,b∈c.bs\/c.w0.heap.size<=b:=λb hb=>by obtain⟨q,hq,hbq⟩:=bN.1 hb;exact(hp.own q (ao1 _ hq) b hbq).1
 have hpre:XY (cm pW) K w:=λw' hsi=>hK.ok w' (hst.si.trans hsi hown) (hkeep hsi);have zc:=hc.calls w hpre hin;intro cs;obtain⟨e,w',fr,⟨i,hpi,he,hsi,hh⟩,fE⟩:=zc cs;refine⟨e,w',fr,?_,fE⟩;subst he;have AY:=hkeep hsi;refine hk i w' hpi (hst.si.trans hsi hown) ⟨λr hm=>?_,λr hm b hb=>?_,List.pairwise_append.2 ⟨hh.apart,hap.2.1,λr h1 s h2 b hb Vf=>?_⟩⟩
 ·rcases List.mem_append.1 hm with h1|h1
  ·exact hh.holds r h1
  ·exact(AY r h1).1
 ·rcases List.mem_append.1 hm with h1|h1
  ·obtain⟨o,l⟩:=hh.own r h1 b hb
   refine⟨?_,l⟩;rcases o with o|o
   ·exact hown b o
   ·exact .inr (Nat.le_trans hst.si.size o)
  ·exact⟨(hp.own r (ao0 _ h1) b hb).1,(AY r h1).2 b hb⟩
 ·obtain⟨o,_⟩:=hh.own r h1 b hb
  rcases o with o|o
  ·obtain⟨q,hq,hbq⟩:=bN.1 o
   exact hap.2.2 q hq s h2 b hbq Vf
  ·have:=(hp.own s (ao0 _ h2) b Vf).2
   omega
end rules
end Go.Bw
namespace Go.Bw
open Go Go.RowKit Go.ChangeShapes Go.WideShapes Go.Deep
theorem Below.ZO{w w':World}(h:bG [] w w'):Below w.heap.size w w':=⟨h.os,h.tape,h.output,h.size,λk hk=>h.block k hk (by simp)⟩
theorem aes{w:World}{a:Addr}{v:Value}(h:w.cell? a=some v):a.block<w.heap.size:=by
 rcases Nat.lt_or_ge a.block w.heap.size with h1|h1
 ·exact h1
 ·have:w.heap[a.block]? =none:=Array.getElem?_eq_none h1
  simp[World.cell?,this]at h
section
variable {H:Type} {enc:TypeId×Value->H} {P:Program} {w:World} {base:Nat} {spare:Nat->Bool} {held:Bool}
theorem KD{t fuel:Nat}{fs:Array Field}{cs:List Value}{x:DataW H×List MemPlace}(ht:P.underlying t=some (.struct fs))(h:DataW.trod enc P w base spare held fuel t cs=some x):
  cs.length=P.cellsOf t/\∀(i:Nat) (f:Field),fs[i]? =some f->∃n y,DataW.trod enc P w base spare held n f.type ((cs.drop f.offset).take (P.cellsOf f.type))=some y:=by
 obtain⟨ys,n,_,_,hl,hy,hf⟩:=DataW.trod_struct ht h;refine⟨hl,λi f hi=>?_⟩;have hlt:i<ys.length:=by rw[hy];exact(ao2.1 hi).1
 exact⟨n,ys[i],(hf i f hi).trans (ao3 hlt)⟩
theorem adu{α:Type}[Inhabited α]{t e sz fuel len cap:Nat}{a:Option Addr}{x:DataW H×List MemPlace}(E:α->List Value)(R:α->Prop)(ht:P.underlying t=some (.slice e))(hC:P.cellsOf e=sz)(h0:0<sz)
  (hE:∀z,(E z).length=sz)(hQ:∀(n:Nat) (cs:List Value) y,DataW.trod enc P w base spare held n e cs=some y->∃z,cs=E z/\R z)(h:DataW.trod enc P w base spare held fuel t [.slice a len cap]=some x):
  ∃g:Nat->α,Ro w (.slice a len cap) sz len (flat (λi=>E (g i)) len)/\(∀i,i<len->R (g i))/\len<=maxLen:=by
 rcases open_slice ht h with⟨hcs,_⟩|⟨a',len',cap',m,n,D,Pl,hcs,_,hl,hm,Nv,_,hi⟩
 ·simp at hcs
  obtain⟨rfl,rfl,rfl⟩:=hcs;exact⟨λ_ =>default,⟨by simp[flat], .inl ⟨⟨_,_,rfl⟩,rfl⟩⟩,λi hi=>by omega,Nat.zero_le _⟩
 ·simp at hcs
  obtain⟨rfl,rfl,rfl⟩:=hcs;have hlm:len<=m:=by rw[Nv];split<;>omega
  have hex:∀i,i<len->∃z,R z/\∀j,j<sz->w.cell? (a'.add (i*sz+j))=(E z)[j]? :=λi zZ=>by obtain⟨cs',hc,ht'⟩:=hi i (by omega);obtain⟨z,rfl,hz⟩:=hQ _ _ _ ht';rw[hC]at hc;obtain⟨_,_,hat⟩:=World.cells?_some hc;refine⟨z,hz,λj hj=>?_⟩;rw[← hat j hj, ← Go.Deep.add_add]
  let g:Nat->α:=λi=>if hh:i<len then Classical.choose (hex i hh)else default
  have hg:∀i,i<len->R (g i)/\∀j,j<sz->w.cell? (a'.add (i*sz+j))=(E (g i))[j]? :=λi zZ=>by have:=Classical.choose_spec (hex i zZ);simp only[g,zZ,dif_pos];exact this
  refine⟨g,⟨qL λi _ =>hE _,?_⟩,λi zZ=>(hg i zZ).1,by omega⟩;have hcells:∀(j:Nat) u,(flat (λi=>E (g i)) len)[j]? =some u->w.cell? (a'.add j)=some u:=λj u hu=>by
   have hlen:(flat (λi=>E (g i)) len).length=len*sz:=qL λi _ =>hE _;have hj:j<len*sz:=by rw[← hlen];exact(List.getElem?_eq_some_iff.1 hu).1
   have hd:j=(j/sz)*sz+j%sz:=by rw[Nat.mul_comm];exact(Nat.div_add_mod j sz).symm
   have hq:j/sz<len:=(Nat.div_lt_iff_lt_mul h0).2 hj;have hr:j%sz<sz:=Nat.mod_lt _ h0;rw[hd,xx (g:=λi=>E (g i)) (λi _ =>hE _) hq hr]at hu;rw[hd,(hg _ hq).2 _ hr,hu]
  rcases Nat.eq_zero_or_pos len with e0|e0
  ·subst e0;exact .inl ⟨⟨_,_,rfl⟩,rfl⟩
  ·obtain⟨b,off,spot⟩:=a'
   have hz:(flat (λi=>E (g i)) len)[0]? =some ((flat (λi=>E (g i)) len)[0]'(by rw[qL (k:=sz) (λi _ =>hE _)];exact Nat.mul_pos e0 h0)):=ao3 _;have h1:=hcells 0 _ hz;have akS:spot=none:=by simpa[Addr.add]using World.cell?_spot h1
   subst akS;refine .inr ⟨b,off,cap,rfl,?_,by omega,λj u hu=>?_⟩
   ·simpa[Addr.add]using aes h1
   ·have:=hcells j u hu
    rwa[Addr.add_lit]at this
end
end Go.Bw
namespace Go.Bw
open Go Go.RowKit Go.ChangeShapes Go.WideShapes Go.Deep
def Opn{α:Type}(P:Program)(W:World)(t:TypeId)(L:dB α)(R:α->Prop):Prop:=∀(H:Type) (enc:TypeId×Value->H) (base:Nat) (spare:Nat->Bool) (held:Bool) (n:Nat) (cs:List Value) (y:DataW H×List MemPlace),DataW.trod enc P W base spare held n t cs=some y->∃z,L.eZ (λw=>bG [] W w) cs z/\R z
section
variable {P:Program} {W:World} {t e:TypeId} {α β:Type}
theorem acn(hu:P.underlying t=some (.int .u8)):Opn P W t (LI .u8) (λz=>0<=z/\z<=255):=λ_ _ _ _ _ _ _ _ h=>by obtain⟨a,e,_,b⟩:=DataW.trod_int hu h;exact⟨a,e,bounds_u8 b⟩
theorem Ka(hu:P.underlying t=some (.int .u32)):Opn P W t (LI .u32) (λz=>0<=z/\z<=4294967295):=λ_ _ _ _ _ _ _ _ h=>by obtain⟨a,e,_,b⟩:=DataW.trod_int hu h;exact⟨a,e,bounds_u32 b⟩
theorem ae0(hu:P.underlying t=some (.int .u64)):Opn P W t (LI .u64) (λz=>0<=z/\z<=18446744073709551615):=λ_ _ _ _ _ _ _ _ h=>by obtain⟨a,e,_,b⟩:=DataW.trod_int hu h;exact⟨a,e,bounds_u64 b⟩
theorem ai2[Inhabited α]{L:dB α}[bR L]{R:α->Prop}{sz:Nat}(hu:P.underlying t=some (.slice e))(hc:P.cellsOf e=sz)(hn:L.n=sz)(h0:0<sz)(h:Opn P W e L R):Opn P W t (V9 L) (λz=>∀x∈z,R x):=by
 intro H enc base spare held n cs y hy;have hcs:∃a len cap,cs=[.slice a len cap]:=by
  rcases open_slice hu hy with⟨hcs,_⟩|⟨a',len',cap',m,n,D,Pl,hcs,_⟩
  ·exact⟨_,_,_,hcs⟩
  ·exact⟨_,_,_,hcs⟩
 obtain⟨a,len,cap,rfl⟩:=hcs;obtain⟨g,w,q,_⟩:=adu (α:=α) (sz:=sz) L.enc R hu hc h0 (λz=>(lq L z).trans hn) (λn cs y hy=>by
  obtain⟨z,hz,hr⟩:=h H enc base spare held n cs y hy;exact⟨z,bR.iff.1 hz,hr⟩) hy
 refine⟨_,⟨_,rfl,Fz.akc (L:=L) hn.symm ⟨_,_,rfl⟩ w⟩,λx hx=>?_⟩;obtain⟨i,hi,rfl⟩:=List.mem_map.1 hx;exact q i (List.mem_range.1 hi)
theorem C6{A:dB α}{B:dB β}{J:World->Prop}{cs:List Value}{o na:Nat}{x:α}{y:β}(hn:A.n=na)(h1:A.eZ J ((cs.drop o).take na) x)(h2:B.eZ J (cs.drop (o+na)) y):(LP A B).eZ J (cs.drop o) (x,y):=
 ⟨_,_,(List.take_append_drop na _).symm,h1,by rw[List.drop_drop];exact h2⟩
theorem acp{A:dB α}{J:World->Prop}{cs:List Value}{o na:Nat}{x:α}(hl:cs.length=o+na)(h1:A.eZ J ((cs.drop o).take na) x):A.eZ J (cs.drop o) x:=by rwa[List.take_of_length_le (by rw[List.length_drop];omega)]at h1
theorem ajQ{L:dB α}[bR L]{A:World->Prop}{a:Option Addr}{len cap:Nat}{z:List α}(h:(V9 L).eZ A (Value.slice a len cap).cells.toList z):Fz A (.slice a len cap) L z:=by obtain⟨v,e,f⟩:=h;have e:[Value.slice a len cap]=[v]:=e;cases e;exact f
theorem ait{L:dB α}{A:World->Prop}{cs:List Value}{z:α}(h:L.eZ A (Value.agg ⟨cs⟩).cells.toList z):L.eZ A cs z:=h
end
end Go.Bw
namespace Go.Bw
open Go Go.RowKit Go.ChangeShapes Go.WideShapes Go.Deep
section
variable {α β:Type}
structure DL[Inhabited α](A:World->Prop)(v:Value)(L:dB α)(ws:List Value)(xs:List α):Prop where
 sl:wv v xs.length
 eZ:(LA L xs.length).eZ A ws (λi=>xs.getD i default)
 ro:∀w,A w->Ro w v L.n xs.length ws
theorem DL.mono[Inhabited α]{A B:World->Prop}{v:Value}{L:dB α}{ws:List Value}{xs:List α}(h:DL A v L ws xs)(m:∀w,B w->A w):DL B v L ws xs:=⟨h.sl,dB.mono _ m h.eZ,λw hw=>h.ro w (m w hw)⟩
theorem DL.at [Inhabited α]{c:Cx}{H:List aO}{A:World->Prop}{v:Value}{L:dB α}{ws:List Value}{xs:List α}(h:DL A v L ws xs)[k:Kn c H A]:tv c H v L.n xs.length ws:=⟨λw h1 h2=>h.ro w (k.ok w h1 h2)⟩
theorem DL.nil[Inhabited α]{A:World->Prop}{L:dB α}:DL A (.slice none 0 0) L [] ([]:List α):=⟨⟨_,_,rfl⟩,⟨λ_ =>[],rfl,λi hi=>absurd hi (Nat.not_lt_zero _)⟩,λ_ _ =>⟨by simp, .inl ⟨⟨_,_,rfl⟩,rfl⟩⟩⟩
def PN[Inhabited α](L:dB α):dB (List α) where
 n:=1
 eZ A cs xs:=∃v ws,cs=[v]/\DL A v L ws xs
 len:=λ⟨v,ws,h,_⟩=>by subst h;rfl
 one:=λ⟨v,ws,h,hf⟩=>by subst h;intro u hu;rw[List.mem_singleton.1 hu];exact hf.sl.one
 mono m:=λ⟨v,ws,h,hf⟩=>⟨v,ws,h,hf.mono m⟩
end
section rules
variable {P:Program} {N:Nat} {c:Cx} {D:List Deferred} {Q:Exit->Act->World->Prop} {F:gp} {H:List aO} {d:Option Tmp} {ty:TypeId} {ps:String} {af:Array Edge} {g:Option (Nat×Bool)} {α β γ:Type}
 {A:World->Prop} {v:Value} {L:dB α} [Inhabited α] {ws:List Value} {xs:List α}
theorem V0{x:Operand}{t e q:Nat}[ht:zo P t e q](hf:DL A v L ws xs)(hx:ev F x=some v)[Kn c H A]:VS P N c ⟨d, .call ⟨.builtin .len, #[x], #[t]⟩,ty,ps,af,g⟩ F H (.int .i64 (xs.length:Int)):=by haveI:=hf.at (c:=c) (H:=H);exact Uc hx
theorem aiO{x y:Operand}{t e sz m:Nat}{k:IntKind}{i:Int}[ht:zo P t e sz](hf:DL A v L ws xs)(hs:L.n=sz)(hx:ev F x=some v)(hy:ev F y=some (.int k i))[Kn c H A](hi:i=(m:Int))(hm:m<xs.length):
  VS P N c ⟨d, .indexAddr t x y,ty,ps,af,g⟩ F H (jy v (m*sz)):=by
 haveI:=hf.at (c:=c) (H:=H);subst hs;exact As hx hy hi hm
theorem aeR{x:Operand}{s f fo k m:Nat}[Gk P s f fo](hf:DL A v L ws xs)(hx:ev F x=some (jy v k))[Kn c H A](hm:m<xs.length):VS P N c ⟨d, .fieldAddr s x f,ty,ps,af,g⟩ F H (jy v (k+fo)):=by haveI:=hf.at (c:=c) (H:=H);exact PD hx hm
theorem aeQ{x y:Operand}{t len e sz k0 m q:Nat}{k:IntKind}{i:Int}[h:Dz P t len e sz](hf:DL A v L ws xs)(hx:ev F x=some (jy v k0))(hy:ev F y=some (.int k i))[Kn c H A](hq:q<xs.length)(hi:i=(m:Int))(hm:m<len):
  VS P N c ⟨d, .indexAddr t x y,ty,ps,af,g⟩ F H (jy v (k0+m*sz)):=
 bp (by simp) λa w hf' hs hp=>by haveI:=hf.at (c:=c) (H:=H);obtain⟨gb,off,cap,rfl,_,_,_⟩:=((hf.at (c:=c) (H:=H)).ro w hs hp).at hq;obtain⟨inf,h1,h2,h3⟩:=Dz.get h.ok;subst hi;simp[execOp,bz hf' hx,bz hf' hy,jy,Instr.indexAt,asIntOf,run_underlying h1,Instr.sureAddr,sizeOf,typeInfo,h2,h3,Addr.add_lit,Nat.add_assoc];intro hle;exact absurd (hm) (by omega)
end rules
end Go.Bw
namespace Go.Rw
open Go Go.Bw
inductive Ty where
 |int (k:IntKind)
 |bool
 |st (i:Nat)
 |ou (n:Nat) (e:Ty)
 |sl (e:Ty)
def Ty.cQ:Ty->Ty->Bool
 | .int k, .int l=>Nat.beq (ik k) (ik l)
 | .bool, .bool=>true
 | .st i, .st j=>Nat.beq i j
 | .ou n e, .ou m f=>Nat.beq n m&&e.cQ f
 | .sl e, .sl f=>e.cQ f
 |_,_ =>false
where ik:IntKind->Nat
 | .i8=>0| .i16=>1| .i32=>2| .i64=>3| .u8=>4| .u16=>5| .u32=>6| .u64=>7
theorem QY{k l:IntKind}(h:Nat.beq (Ty.cQ.ik k) (Ty.cQ.ik l)=true):k=l:=by cases k<;>cases l<;>first|rfl|(exact absurd h (by decide))
theorem Ty.yB:∀{t u:Ty},t.cQ u=true->t=u:=by
 intro t
 induction t with
 |int k=>intro u h;cases u<;>simp only[Ty.cQ,Bool.false_eq_true]at h;rw[QY h]
 |bool=>intro u h;cases u<;>simp only[Ty.cQ,Bool.false_eq_true]at h;rfl
 |st i=>intro u h;cases u<;>simp only[Ty.cQ,Bool.false_eq_true]at h;rw[aoW h]
 |ou n e ih=>intro u h;cases u<;>simp only[Ty.cQ,Bool.false_eq_true,aoX]at h;rw[aoW h.1,ih h.2]
 |sl e ih=>intro u h;cases u<;>simp only[Ty.cQ,Bool.false_eq_true]at h;rw[ih h]
structure Sg where
 S:Nat->Type
 z:∀i,S i
 L:∀i,dB (S i)
 gt:Option (IntKind×List (Int×Nat))
def Ty.T(G:Sg):Ty->Type
 | .int _ =>Int
 | .bool=>Bool
 | .st i=>G.S i
 | .ou _ e=>Nat->e.T G
 | .sl e=>List (e.T G)
def Ty.z(G:Sg):(t:Ty)->t.T G
 | .int _ =>(0:Int)
 | .bool=>false
 | .st i=>G.z i
 | .ou _ e=>λ_ =>e.z G
 | .sl _ =>[]
instance(G:Sg)(t:Ty):Inhabited (t.T G):=⟨t.z G⟩
def Ty.L(G:Sg):(t:Ty)->dB (t.T G)
 | .int k=>LI k
 | .bool=>LB
 | .st i=>G.L i
 | .ou n e=>LA (e.L G) n
 | .sl e=>PN (α:=e.T G) (e.L G)
def Ty.ag:Ty->Bool
 | .st _ =>true
 | .ou _ _ =>true
 |_ =>false
structure Fd(G:Sg)(i:Nat) where
 ty:Ty
 off:Nat
 get:G.S i->ty.T G
 set:G.S i->ty.T G->G.S i
 ok:aW (G.L i) (ty.L G) off get set
inductive zi where
 |Mi (j o:Nat)
 |idx (n sz:Nat) (i:Int)
def zi.off:zi->Nat
 | .Mi _ o=>o
 | .idx _ sz i=>i.toNat*sz
def jr:List zi->Nat
 |[]=>0
 |s::r=>s.off+jr r
theorem QD(p q:List zi):jr (p++q)=jr p+jr q:=by
 induction p with
 |nil=>simp[jr]
 |cons s p ih=>simp only[List.cons_append,jr,ih];omega
def zi.ok:zi->Prop
 | .Mi _ _ =>True
 | .idx n _ i=>bQ i n=true
inductive AV(G:Sg) where
 |YA
 |unk (n:Nat)
 |int (k:IntKind) (n:Int)
 |lit (k:IntKind) (n:Int)
 |bool (b:Bool)
 |kb (b:Bool)
 |str (s:ByteArray)
 |dat (t:Ty) (x:t.T G)
 |ptr (r:Nat) (p:List zi)
 |FP
 |row (r:Nat)
 |pI
 |mp (r:Nat)
 |FQ
 |fn (f:Fn) (a c:AV G)
 |B0
 |st (a:AV G)
 |rZ (a:AV G)
 |nY (t:Nat) (v:AV G)
 |Ju
 |elt (e:Ty) (xs:List (e.T G)) (p:List zi)
 |gd (j:Nat) (w:Bool) (v:AV G)
 |nil
 |cons (a b:AV G)
 |part (w:Nat) (a b:AV G)
variable {G:Sg}
def mk:(t:Ty)->t.T G->AV G
 | .int k,x=> .int k x
 | .bool,x=> .bool x
 |t,x=> .dat t x
abbrev bT:=Nat->Option Value
def bT.le(ρ ρ':bT):Prop:=∀r v,ρ r=some v->ρ' r=some v
theorem bT.le_refl(ρ:bT):ρ.le ρ:=λ_ _ h=>h
theorem bT.le_trans{a b c:bT}(h:a.le b)(k:b.le c):a.le c:=λr v e=>k r v (h r v e)
def zJ(J:World->Prop)(t:Ty)(x:t.T G)(u:Value):Prop:=(t.L G).eZ J u.cells.toList x/\(t.ag=true->∃cs:List Value,u= .agg cs.toArray)/\(t.ag=false->u.cells= #[u])
def PB(ρ:bT)(r:Nat)(p:List zi)(b o:Nat):Prop:=ρ r=some (.pointer (some ⟨b,o,none⟩))\/∃n cap n' sz i q,ρ r=some (.slice (some ⟨b,o,none⟩) n cap)/\p= .idx n' sz i::q/\i.toNat<n
theorem PB.app{ρ:bT}{r:Nat}{p q:List zi}{b o:Nat}(h:PB ρ r p b o):PB ρ r (p++q) b o:=by
 rcases h with h|⟨n,cap,n',sz,i,q',h1,rfl,h3⟩
 ·exact .inl h
 ·exact .inr ⟨n,cap,n',sz,i,q'++q,h1,rfl,h3⟩
theorem PB.ext{ρ ρ':bT}(m:ρ.le ρ'){r:Nat}{p:List zi}{b o:Nat}(h:PB ρ r p b o):PB ρ' r p b o:=by
 rcases h with h|⟨n,cap,n',sz,i,q',h1,h2⟩
 ·exact .inl (m _ _ h)
 ·exact .inr ⟨n,cap,n',sz,i,q',m _ _ h1,h2⟩
def rl(J:World->Prop)(ρ:bT):AV G->List Value->Prop
 | .YA,l=>∃u,l=[u]
 | .unk n,l=>∃u:Value,l=[u]/\u.cells.size=n
 | .int k n,l=>l=[.int k n]
 | .lit k n,l=>l=[.int k n]
 | .bool b,l=>l=[.bool b]
 | .kb b,l=>l=[.bool b]
 | .str s,l=>l=[.string s]
 | .dat t x,l=>∃u,l=[u]/\zJ J t x u
 | .ptr r p,l=>(∃b o,PB ρ r p b o/\l=[.pointer (some ⟨b,o+jr p,none⟩)])/\∀s∈p,s.ok
 | .FP,l=>l=[.pointer none]
 | .row r,l=>∃a n cap,ρ r=some (.slice a n cap)/\l=[.slice a n cap]
 | .pI,l=>l=[.slice none 0 0]
 | .mp r,l=>∃u,ρ r=some u/\l=[u]/\u.cells= #[u]/\u.oneCell'=true
 | .FQ,l=>l=[.map none]
 | .fn f a c,l=>∃fs cs:List Value,l=[.func f fs.toArray cs.toArray]/\rl J ρ a fs/\rl J ρ c cs
 | .B0,l=>l=[.nilFunc]
 | .st a,l=>∃cs:List Value,l=[.agg cs.toArray]/\rl J ρ a cs/\uZ cs
 | .rZ a,l=>∃vs:List Value,l=[.tuple vs.toArray]/\rl J ρ a vs
 | .nY t v,l=>∃u,l=[.iface t u]/\rl J ρ v [u]
 | .Ju,l=>l=[.nilIface]
 | .elt e xs p,l=>∃v ws,DL J v (e.L G) ws xs/\l=[jy v (jr p)]/\(∀s∈p,s.ok)/\∃n sz i q,p= .idx n sz i::q/\n=xs.length/\sz=(e.L G).n
 | .gd _ _ _,_ =>False
 | .nil,l=>l=[]
 | .cons a b,l=>∃u r,l=u::r/\rl J ρ a [u]/\rl J ρ b r
 | .part w a b,l=>∃c1 c2 u,l=c1++c2/\c1.length=w/\rl J ρ a [u]/\u.cells.toList=c1/\rl J ρ b c2
abbrev rv(J:World->Prop)(ρ:bT)(v:AV G)(u:Value):Prop:=rl J ρ v [u]
theorem zJ.mono{J J':World->Prop}(m:∀w,J' w->J w){t:Ty}{x:t.T G}{u:Value}(h:zJ J t x u):zJ J' t x u:=⟨(t.L G).mono m h.1,h.2⟩
theorem rl.mono{J J':World->Prop}{ρ:bT}(m:∀w,J' w->J w):∀{v:AV G} {l:List Value},rl J ρ v l->rl J' ρ v l:=by
 intro v
 induction v with
 |dat t x=>intro l h;obtain⟨u,e,h⟩:=h;exact⟨u,e,h.mono m⟩
 |fn f a c pL FU=>intro l h;obtain⟨fs,cs,e,h1,h2⟩:=h;exact⟨fs,cs,e,pL h1,FU h2⟩
 |st a ih=>intro l h;obtain⟨cs,e,h1,h2⟩:=h;exact⟨cs,e,ih h1,h2⟩
 |rZ a ih=>intro l h;obtain⟨vs,e,h1⟩:=h;exact⟨vs,e,ih h1⟩
 |nY t v ih=>intro l h;obtain⟨u,e,h1⟩:=h;exact⟨u,e,ih h1⟩
 |elt e xs p=>intro l h;obtain⟨v,ws,h1,h2⟩:=h;exact⟨v,ws,h1.mono m,h2⟩
 |cons a b pL uO=>intro l h;obtain⟨u,r,e,h1,h2⟩:=h;exact⟨u,r,e,pL h1,uO h2⟩
 |part w a b pL uO=>intro l h;obtain⟨c1,c2,u,e,h1,h2,h3,h4⟩:=h;exact⟨c1,c2,u,e,h1,pL h2,h3,uO h4⟩
 |_ =>intro l h;exact h
theorem rl.ext{J:World->Prop}{ρ ρ':bT}(m:ρ.le ρ'):∀{v:AV G} {l:List Value},rl J ρ v l->rl J ρ' v l:=by
 intro v
 induction v with
 |ptr r p=>intro l h;obtain⟨⟨b,o,h1,h2⟩,h3⟩:=h;exact⟨⟨b,o,h1.ext m,h2⟩,h3⟩
 |row r=>intro l h;obtain⟨a,n,cap,h1,h2⟩:=h;exact⟨a,n,cap,m _ _ h1,h2⟩
 |mp r=>intro l h;obtain⟨b,h1,h2⟩:=h;exact⟨b,m _ _ h1,h2⟩
 |fn f a c pL FU=>intro l h;obtain⟨fs,cs,e,h1,h2⟩:=h;exact⟨fs,cs,e,pL h1,FU h2⟩
 |st a ih=>intro l h;obtain⟨cs,e,h1,h2⟩:=h;exact⟨cs,e,ih h1,h2⟩
 |rZ a ih=>intro l h;obtain⟨vs,e,h1⟩:=h;exact⟨vs,e,ih h1⟩
 |nY t v ih=>intro l h;obtain⟨u,e,h1⟩:=h;exact⟨u,e,ih h1⟩
 |cons a b pL uO=>intro l h;obtain⟨u,r,e,h1,h2⟩:=h;exact⟨u,r,e,pL h1,uO h2⟩
 |part w a b pL uO=>intro l h;obtain⟨c1,c2,u,e,h1,h2,h3,h4⟩:=h;exact⟨c1,c2,u,e,h1,pL h2,h3,uO h4⟩
 |_ =>intro l h;exact h
theorem M8{J:World->Prop}{ρ:bT}{t:Ty}{x:t.T G}{u:Value}(h:zJ J t x u):rv J ρ (mk t x) u:=by
 cases t with
 |int k=>have h1:u.cells.toList=[.int k x]:=h.1;have h2:=h.2.2 rfl;rw[h2]at h1;exact h1
 |bool=>have h1:u.cells.toList=[.bool x]:=h.1;have h2:=h.2.2 rfl;rw[h2]at h1;exact h1
 |st i=>exact⟨u,rfl,h⟩
 |ou n e=>exact⟨u,rfl,h⟩
 |sl e=>exact⟨u,rfl,h⟩
theorem UX{J:World->Prop}{ρ:bT}{t:Ty}{x:t.T G}{u:Value}(h:rv J ρ (mk t x) u):zJ J t x u:=by
 cases t with
 |int k=>have h:[u]=[.int k x]:=h;cases h;exact⟨rfl,nofun,λ_ =>rfl⟩
 |bool=>have h:[u]=[.bool x]:=h;cases h;exact⟨rfl,nofun,λ_ =>rfl⟩
 |st i=>obtain⟨u',e,h⟩:=h;cases e;exact h
 |ou n e=>obtain⟨u',e,h⟩:=h;cases e;exact h
 |sl e=>obtain⟨u',e,h⟩:=h;cases e;exact h
end Go.Rw
namespace Go.Bw
open Go Go.RowKit
def yl{β:Type}(e:β)(m:Option (List β)):Option (List β):=m.map (e::·)
theorem amM{β:Type}{e:β}{m:Option (List β)}{r:List β}(h:yl e m=some r):∃r',r=e::r'/\m=some r':=by
 cases m with
 |none=>cases h
 |some l=>exact⟨l,(Option.some.inj h).symm,rfl⟩
section
variable {α1 β ρ:Type}
def sH(B:β->(α1->Option ρ)->α1->Option ρ)(fin:α1->Option ρ):List β->α1->Option ρ
 |[],a1=>fin a1
 |x::l,a1=>B x (sH B fin l) a1
end
section
variable {α1 α2 β ρ:Type}
def akJ(B:β->(α1->α2->Option ρ)->α1->α2->Option ρ)(fin:α1->α2->Option ρ):List β->α1->α2->Option ρ
 |[],a1,a2=>fin a1 a2
 |x::l,a1,a2=>B x (akJ B fin l) a1 a2
end
section
variable {α1 α2 α3 β ρ:Type}
def aan(B:β->(α1->α2->α3->Option ρ)->α1->α2->α3->Option ρ)(fin:α1->α2->α3->Option ρ):List β->α1->α2->α3->Option ρ
 |[],a1,a2,a3=>fin a1 a2 a3
 |x::l,a1,a2,a3=>B x (aan B fin l) a1 a2 a3
end
section
variable {α1 α2 α3 α4 β ρ:Type}
def akI(B:β->(α1->α2->α3->α4->Option ρ)->α1->α2->α3->α4->Option ρ)(fin:α1->α2->α3->α4->Option ρ):List β->α1->α2->α3->α4->Option ρ
 |[],a1,a2,a3,a4=>fin a1 a2 a3 a4
 |x::l,a1,a2,a3,a4=>B x (akI B fin l) a1 a2 a3 a4
end
section
variable {α1 α2 α3 α4 α5 β ρ:Type}
def akH(B:β->(α1->α2->α3->α4->α5->Option ρ)->α1->α2->α3->α4->α5->Option ρ)(fin:α1->α2->α3->α4->α5->Option ρ):List β->α1->α2->α3->α4->α5->Option ρ
 |[],a1,a2,a3,a4,a5=>fin a1 a2 a3 a4 a5
 |x::l,a1,a2,a3,a4,a5=>B x (akH B fin l) a1 a2 a3 a4 a5
end
section
variable {α1 α2 α3 α4 α5 α6 β ρ:Type}
def akG(B:β->(α1->α2->α3->α4->α5->α6->Option ρ)->α1->α2->α3->α4->α5->α6->Option ρ)(fin:α1->α2->α3->α4->α5->α6->Option ρ):List β->α1->α2->α3->α4->α5->α6->Option ρ
 |[],a1,a2,a3,a4,a5,a6=>fin a1 a2 a3 a4 a5 a6
 |x::l,a1,a2,a3,a4,a5,a6=>B x (akG B fin l) a1 a2 a3 a4 a5 a6
end
section
variable {α1 α2 α3 α4 α5 α6 α7 β ρ:Type}
def akF(B:β->(α1->α2->α3->α4->α5->α6->α7->Option ρ)->α1->α2->α3->α4->α5->α6->α7->Option ρ)(fin:α1->α2->α3->α4->α5->α6->α7->Option ρ):List β->α1->α2->α3->α4->α5->α6->α7->Option ρ
 |[],a1,a2,a3,a4,a5,a6,a7=>fin a1 a2 a3 a4 a5 a6 a7
 |x::l,a1,a2,a3,a4,a5,a6,a7=>B x (akF B fin l) a1 a2 a3 a4 a5 a6 a7
end
section
variable {α1 α2 α3 α4 α5 α6 α7 α8 β ρ:Type}
def akE(B:β->(α1->α2->α3->α4->α5->α6->α7->α8->Option ρ)->α1->α2->α3->α4->α5->α6->α7->α8->Option ρ)(fin:α1->α2->α3->α4->α5->α6->α7->α8->Option ρ):List β->α1->α2->α3->α4->α5->α6->α7->α8->Option ρ
 |[],a1,a2,a3,a4,a5,a6,a7,a8=>fin a1 a2 a3 a4 a5 a6 a7 a8
 |x::l,a1,a2,a3,a4,a5,a6,a7,a8=>B x (akE B fin l) a1 a2 a3 a4 a5 a6 a7 a8
end
end Go.Bw
namespace Go.Bw
open Go Go.RowKit
section rules
variable {P:Program} {N:Nat} {c:Cx} {D:List Deferred} {Q:Exit->Act->World->Prop} {F:gp} {H:List aO} {d:Option Tmp} {ty:TypeId} {ps:String} {af:Array Edge} {g:Option (Nat×Bool)} {α β γ:Type}
theorem Ug{L:dB α}[bR L][Inhabited α]{M:dB β}[bR M]{v:Value}{xs:List α}{e sz off t q:Nat}{x y:Operand}{val:Value}{gg:(Nat->α)->β}{s:(Nat->α)->β->(Nat->α)}{f:aO->List aO}{z:α}
  (m:Nat)(p:aW (LA L xs.length) M off gg s)(u:β)(ys:List α)(hy:ys=xs.set m z)(hx:ev F x=some (jy v off))(hz:ev F y=some val)(hv:val.cells.toList=M.enc u)(hs:s (λi=>xs.getD i default) u=dm (λi=>xs.getD i default) m z)
  (hm:m<xs.length)(hn:M.n=q)[hr:xH H v e sz xs.length (fQ L xs) f](hsz:L.n=sz)[ht:Ue P t q]:
  RX (α:=Unit) P N c ⟨d, .store t x y,ty,ps,af,g⟩ F H (λ_ =>True) (λ_ =>undef) (λ_ =>f (nr v e sz L ys)):=λD a w next Q hst hk=>by
 subst hn hsz;obtain⟨k,k1,k2⟩:=hr.ok;have Nv:aO.row v e L.n xs.length (fQ L xs)∈H:=List.mem_of_getElem? k1;have hown:w.ownsRow 0 e L.n v xs.length (fQ L xs):=hst.hp.holds _ Nv;obtain⟨hlen,IZ⟩:=hown;rcases IZ with⟨_,h0⟩|⟨gb,cap,cur,rfl,_,hgb,hnc,Vh,hcs,Nu⟩
 ·omega
 have hle:off+M.n<=xs.length*L.n:=p.le;have hmul:xs.length*L.n<=cap*L.n:=Nat.mul_le_mul_right _ hnc;obtain⟨cs,rfl⟩:∃cs:List Value,cur=cs.toArray:=⟨cur.toList,by simp⟩;have uP:cs.length=cap*L.n:=by simpa using hcs
 have IW:cs.take (xs.length*L.n)=fQ L xs:=by simpa using Nu
 have hul:(M.enc u).length=M.n:=lq M u;obtain⟨w',e1,e2,e3⟩:=vn (P:=P) (t:=t) (b:=gb) (T:=e) (off:=off) (cs:=cs) (w:=w) hgb hv hul (by omega) (F1 M u);have aaF:ys.length=xs.length:=by rw[hy,List.length_set]
 have hnew:(cU cs off (M.enc u)).take (xs.length*L.n)=fQ L ys:=by
  have h1:cU (fQ L xs) off (M.enc u)=fQ L ys:=by rw[jz L xs,hy, ← Y4 L xs m z hm, ← hs];exact p.put _ _
  rw[← h1, ← IW];unfold cU;rw[hul];have t1:(cs.take (xs.length*L.n)).take off=cs.take off:=by rw[List.take_take,Nat.min_eq_left (by omega)]
  have t2:(cs.take (xs.length*L.n)).drop (off+M.n)=(cs.drop (off+M.n)).take (xs.length*L.n-(off+M.n)):=by rw[List.drop_take]
  have t3:(cs.take off++M.enc u).length=off+M.n:=by rw[List.length_append,List.length_take,hul,Nat.min_eq_left (by omega)]
  rw[t1,t2,List.take_append,List.take_of_length_le (by omega),t3]
 refine tK (by simp) (w':=w') ?_ (hk () w' trivial (hst.si.store hst.hp Nv (by simp[aO.eL,Value.ownBlock]) e3) ?_)
 ·simp[execOp,bz hst.fr hx,bz hst.fr hz,jy,Instr.storeAt,Instr.sureAddr,e1]
 ·show cC c.bs c.w0.heap.size (f (nr _ e L.n L ys)) w'
  rw[nr,k2];refine hst.hp.set k1 e3.size (λj hj hn=>e3.block j hj (by simpa[aO.eL,Value.ownBlock]using hn)) ?_ hst.si.size (λb' hb'=>?_)
  ·refine⟨by rw[qB], .inr ⟨gb,cap,_,by rw[aaF],Nat.zero_le _,e2,by omega,Vh,?_,?_⟩⟩
   ·simp only[List.size_toArray,cU,List.length_append,List.length_take,List.length_drop,hul];omega
   ·rw[aaF];simpa using hnew
  ·have h5:b'=gb:=by simpa[aO.eL,Value.ownBlock]using hb'
   subst h5;exact⟨.inl (by simp[aO.eL,Value.ownBlock]),Nat.lt_of_lt_of_le (ao2.1 hgb).1 e3.size⟩
theorem H6{ops:Array Oper}{rest:List Oper}{x:Operand}{args:List Operand}{ats:Array TypeId}{f:Nat}{fst cap:Array Value}{us vs:List Value}{K:World->Prop}{pW rst:List aO}{val:Value}{ks:List Nat}{gg:Option (Nat×Bool)}{b:Bool}{dd:Tmp}
  (hg:Gd ops F gg b)(hd:Nat.blt dd N=true)(hc:b=true->Fn (α:=Unit) P f vs (XY (cm pW) K) pW (λ_ =>True) (λ_ =>val) (λ_ =>pW))(hx:b=true->ev F x=some (.func (.func f) fst cap))(ha:b=true->I2 F args=some us)
  (hv:fst.toList++us++cap.toList=vs)(hkp:pick H ks=some (pW++rst))(hn:ks.Nodup)(hK:b=true->KnF c rst K)
  (h:WL P N c D ops Q rest ((dd,bif b then val else undef)::F) (pW++rst)):
  WL P N c D ops Q (⟨some dd, .call ⟨.value x,args.toArray,ats⟩,ty,ps,af,gg⟩::rest) F H:=by
 cases b with
 |false=>exact Pz hg hd (aiE (λ_ _ _ hp=>hp.pick hkp hn) h)
 |true=>intro a w hst;simp only[wpListIn,hg ⟨some dd, .call ⟨.value x,args.toArray,ats⟩,ty,ps,af,gg⟩ a rfl hst.fr,if_true];haveI:=hK rfl;exact Cv (hc rfl) (hx rfl) (ha rfl) hv hkp hn D a w _ Q hst λi w' hp hs hh=>h _ _ (hst.put (d:=some dd) hd hs hh)
theorem V4{x:Operand}{t e sz n cp:Nat}{a0:Option Addr}[ht:zo P t e sz](hx:ev F x=some (.slice a0 n cp)):VS P N c ⟨d, .call ⟨.builtin .cap, #[x], #[t]⟩,ty,ps,af,g⟩ F H (.int .i64 cp):=
 bp (by simp) λa w hf _ _ =>by obtain⟨i,h1,h2,h3⟩:=zo.get ht.ok;simp[execOp,resolve,invoke,builtin,bz hf hx,Builtin.cap_,run_underlying h1];rfl
theorem ab2{x hi:Operand}{t e sz n cp b:Nat}{k:IntKind}[ht:zo P t e sz](hx:ev F x=some (.slice (some ⟨b,0,none⟩) n cp))(hh:ev F hi=some (.int k 0)):
  VS P N c ⟨d, .slice t x none (some hi) none,ty,ps,af,g⟩ F H (.slice (some ⟨b,0,none⟩) 0 cp):=
 bp (by simp) λa w hf _ _ =>by obtain⟨i,h1,h2,h3⟩:=zo.get ht.ok;simp[execOp,bz hf hx,bz hf hh,Instr.sliceAt,run_underlying h1,Instr.slice,Instr.sliceBounds,Instr.sliceBound,asIntOf,sizeOf,typeInfo,h2,Addr.add]
theorem NN{x hi:Operand}{t e sz:Nat}{k:IntKind}[ht:zo P t e sz](hx:ev F x=some (.slice none 0 0))(hh:ev F hi=some (.int k 0)):
  VS P N c ⟨d, .slice t x none (some hi) none,ty,ps,af,g⟩ F H (.slice none 0 0):=
 bp (by simp) λa w hf _ _ =>by obtain⟨i,h1,h2,h3⟩:=zo.get ht.ok;simp[execOp,bz hf hx,bz hf hh,Instr.sliceAt,run_underlying h1,Instr.slice,Instr.sliceBounds,Instr.sliceBound,asIntOf,sizeOf,typeInfo,h2,Addr.add]
theorem af0{a:Int}(h1: -9223372036854775808<=a)(h2:a<=9223372036854775807):wr .i64 a=a:=IntWalk.i64_in a ⟨h1,h2⟩
theorem Hf(t ti ty e:TypeId)(i:TypeInfo)(z:Value)(q:IntKind)(w:World)(ht:P.underlying t=some (.slice e))(hti:P.underlying ti=some (.int q))(hi:P.info? e=some i)(hz:i.zero=some z)
  (n:Nat)(h0:0<n)(h63:(n:Int)<=9223372036854775807)(h48:n*i.bytes<=140737488355328)(hpos:0<i.size):
  (Builtin.append_ #[t,ti] ty #[.slice none 0 0, .int .i64 n]).run P w=
   .ok (.slice (some ⟨w.heap.size,0,none⟩) n (grownCap w n 0 e)) (w.drew.alloc (.cells (Builtin.zeroCells z.cells n++Builtin.zeroCells z.cells (grownCap w n 0 e-n)) e)):=by
 have hn:n≠0:=by omega
 have hns:n*i.size≠0:=Nat.mul_ne_zero hn (by omega);have an4:¬(9223372036854775807<(n:Int)):=by omega
 have an6:¬(281474976710656<Builtin.nextslicecap n 0*i.bytes):=by rw[nextslicecap_zero h0];omega
 have hw:IntKind.i64.wrap (n:Int)=n:=by rw[show IntKind.i64.wrap (n:Int)=wr .i64 (n:Int)from rfl,af0 (by omega) h63]
 have hneg:¬((n:Int)<0):=by omega
 have an5:¬(281474976710656<(n:Int)*(i.bytes:Int)):=by have h5:((n*i.bytes:Nat):Int)=(n:Int)*(i.bytes:Int):=Int.natCast_mul _ _;rw[← h5];omega
 simp[Builtin.append_,run_underlying ht,run_underlying hti,sizeOf,typeInfo,zeroValue,hi,hz,hn,an4,an6,Question.forced,run_firstCells_none,newRow,grownCap,asInt,asIntOf,hw,hneg,an5,hns,Nat.pos_iff_ne_zero.1 hpos]
def O9(n:Int)(b:Nat):Bool:=decide (0<n/\n*b<=140737488355328/\n<=9223372036854775807)
theorem aaN{n:Int}{b:Nat}(h:O9 n b=true):0<n/\n*b<=140737488355328/\n<=9223372036854775807:=of_decide_eq_true h
theorem aeZ{s x:Operand}{t ti e sz bytes:Nat}{n:Int}{q:IntKind}(L:dB α)[bR L][ht:PF P t e sz bytes](hti:P.underlying ti=some (.int q))(hs:ev F s=some (.slice none 0 0))(hx:ev F x=some (.int .i64 n))(hok:O9 n bytes=true):
  RX (α:=Nat×Nat) P N c ⟨d, .call ⟨.builtin .append, #[s,x], #[t,ti]⟩,ty,ps,af,g⟩ F H (λ_ =>True) (λv=> .slice (some ⟨v.1,0,none⟩) n.toNat v.2) (λv=>nr (.slice (some ⟨v.1,0,none⟩) 0 v.2) e sz L []::H):=λD a w next Q hst hk=>by
 obtain⟨i,z,e1,e2,e3,e4,e5,e6,e7⟩:=PF.get ht.ok;obtain⟨g1,g2,g3⟩:=aaN hok;obtain⟨m,rfl⟩:∃m:Nat,n=m:=⟨n.toNat,by omega⟩;subst e4 e5;have hm0:0<m:=by omega
 have hb:m*i.bytes<=140737488355328:=by have h5:((m*i.bytes:Nat):Int)=(m:Int)*(i.bytes:Int):=Int.natCast_mul _ _;rw[← h5]at g2;omega
 have hr:=Hf (P:=P) t ti ty e i z q w e1 hti e2 e3 m hm0 g3 hb e7;have W9:m<=maxLen:=by simp only[maxLen];omega
 have Vh:grownCap w m 0 e<=maxLen:=grownCap_le_maxLen w m 0 e W9;have hge:m<=grownCap w m 0 e:=grownCap_ge w m 0 e;have qI:bG [] w (w.drew.alloc (.cells (Builtin.zeroCells z.cells m++Builtin.zeroCells z.cells (grownCap w m 0 e-m)) e)):=bG.BY (row:=none) ⟨rfl,rfl,rfl,by simp,λk hk _ =>heap_alloc_old w.drew _ k hk⟩;refine gS (by simp) (v:= .slice (some ⟨w.heap.size,0,none⟩) m (grownCap w m 0 e)) ?_ (hk (w.heap.size,grownCap w m 0 e) _ trivial (hst.si.ext qI) (hst.hp.fresh qI ?_ hst.si.size ?_))
 ·simp[execOp,resolve,invoke,builtin,bz hst.fr hs,bz hst.fr hx,hr]
 ·refine⟨by simp[fQ], .inr ⟨w.heap.size,grownCap w m 0 e,_,rfl,Nat.zero_le _,heap_alloc_new w.drew _,Nat.zero_le _,Vh,?_,by simp[fQ]⟩⟩
  simp only[Array.size_append,size_zeroCells,e6, ← Nat.add_mul];congr 1;omega
 ·intro b hb
  have:b=w.heap.size:=by simpa[nr,aO.eL,Value.ownBlock]using hb
  subst this;exact⟨Nat.le_refl _,(ao2.1 (heap_alloc_new w.drew (.cells (Builtin.zeroCells z.cells m++Builtin.zeroCells z.cells (grownCap w m 0 e-m)) e))).1⟩
theorem wv.size{v:Value}{n:Nat}(h:wv v n):v.cells.size=1:=by obtain⟨a,cp,rfl⟩:=h;rfl
theorem EF{p q:Nat->Option (Nat×Nat)}:∀(parts:List (Nat×Value)) (cells:Array Value),(∀x∈parts,p x.1=q x.1)->Instr.fill p cells parts=Instr.fill q cells parts
 |[],_,_ =>rfl
 |(i,v)::r,cells,h=>by
  have h1:=h (i,v) (by simp);simp only at h1;simp only[Instr.fill,h1];split
  ·rfl
  ·split
   ·rfl
   ·exact EF r _ λx hx=>h x (ao6 _ hx)
def XN(n sz:Nat):List (Nat×Nat):=(List.range n).map λi=>(i*sz,sz)
theorem OO{n sz i:Nat}(h:i<n):(XN n sz)[i]? =some (i*sz,sz):=by simp[XN,h]
theorem XB{t n e sz:Nat}{parts:List (Nat×Operand)}{vs zs cs:List Value}[hz:ke P t zs][ht:Dz P t n e sz](hv:I2 F (parts.map (·.2))=some vs)(hc:tn (XN n sz) zs ((parts.map (·.1)).zip vs)=some cs)(hi:((parts.map (·.1)).all λi=>decide (i<n))=true):
  VS P N c ⟨d, .build t parts.toArray,ty,ps,af,g⟩ F H (.agg cs.toArray):=
 bp (by simp) λa w hf _ _ =>by
  obtain⟨i,z,h1,h2,h3⟩:=ke.get hz.ok;obtain⟨inf,h4,h5,h6⟩:=Dz.get ht.ok;have h7:(zeroValue t).run P w= .ok z w:=by simp[zeroValue,typeInfo,h1,h2]
  have h8:=Ad (place:=λi=>(XN n sz)[i]?) (pl:=XN n sz) (λ_ =>rfl) ((parts.map (·.1)).zip vs) z.cells cs (by rw[h3];exact hc);have h9:=evp hf hv;have h10:(Array.map (λx=>(x.fst,a.eval x.snd)) parts.toArray).toList=(parts.map (·.1)).zip vs:=by simpa using h9
  have h11:=EF (p:=λi=>some (i*sz,sz)) (q:=λi=>(XN n sz)[i]?) ((parts.map (·.1)).zip vs) z.cells (λx hx=>by
   have:=List.all_eq_true.1 hi x.1 (List.of_mem_zip hx).1;simp only[decide_eq_true_eq]at this;simp[OO this])
  simp only[execOp,Instr.build,Sem.run_bind,h7,Result.andThen_ok,run_underlying h4,sizeOf,typeInfo];simp[h5,h6,h9,h11,h8]
theorem aiZ{t n e sz:Nat}{parts:List (Nat×Operand)}{vs zs cs:List Value}[ht:zo P t e sz][hz:ke P e zs](hv:I2 F (parts.map (·.2))=some vs)(hc:tn (XN n sz) ((List.range (n*sz)).map λj=>zs[j%zs.length]!) ((parts.map (·.1)).zip vs)=some cs)
  (hi:((parts.map (·.1)).all λi=>decide (i<n))=true)(h0:0<n*sz)(hs:n*sz<=16777216):
  RX P N c ⟨d, .buildSlice t n parts.toArray,ty,ps,af,g⟩ F H (λ_ =>True) (λb=> .slice (some ⟨b,0,none⟩) n n) (λb=> .cells b e cs::H):=λD a w next Q hst hk=>by
 obtain⟨i,h1,h2,h3⟩:=zo.get ht.ok;obtain⟨i',z,h4,h5,h6⟩:=ke.get hz.ok;rw[h2]at h4;cases h4;subst h3;refine gS (by simp) (w':=w.alloc (.cells cs.toArray e)) ?_ (hk w.heap.size _ trivial (hst.si.ext (bG.alloc _ _)) (hst.hp.box e cs hst.si.size));have h9:=evp hst.fr hv;have h10:(Array.map (λx=>(x.fst,a.eval x.snd)) parts.toArray).toList=(parts.map (·.1)).zip vs:=by simpa using h9
 have h11:=EF (p:=λk=>some (k*i.size,i.size)) (q:=λk=>((XN n i.size).toArray)[k]?) ((parts.map (·.1)).zip vs) ((Array.range (n*i.size)).map (z.cells[· %z.cells.size]!)) (λx hx=>by
   have:=List.all_eq_true.1 hi x.1 (List.of_mem_zip hx).1;simp only[decide_eq_true_eq]at this;simp[OO this])
 have hzc:z.cells=zs.toArray:=by rw[← h6]
 have h8:=Ad (place:=λk=>((XN n i.size).toArray)[k]?) (pl:=XN n i.size) (by simp) ((parts.map (·.1)).zip vs) ((Array.range (n*i.size)).map (z.cells[· %z.cells.size]!)) cs (by
  rw[← hc];congr 1;rw[hzc];simp[Array.toList_range])
 have e3:(λx=>(x.fst,a.eval x.snd))=(λ(x:Nat×Operand)=>(x.1,a.eval x.2)):=rfl;have hb:(Instr.buildSlice t n (Array.map (λx=>(x.fst,a.eval x.snd)) parts.toArray)).run P w= .ok (.slice (some ⟨w.heap.size,0,none⟩) n n) (w.alloc (.cells cs.toArray e)):=
  run_buildSlice w t e n _ cs.toArray i z h1 h2 h5 (by omega) (by omega) (by rw[h10,h11,h8])
 simp only[execOp,Sem.run_bind];rw[hb];rfl
end rules
end Go.Bw
namespace Go.Bw
open Go Go.RowKit Go.ChangeMaps
section
variable {β:Type}
def ji:List (Int×β)->Int->Option (Nat×β)
 |[],_ =>none
 |p::r,k=>bif k==p.1 then some (0,p.2)else(ji r k).map λq=>(q.1+1,q.2)
def qG(l:List (Int×β))(k:Int)(z:β):β:=((ji l k).map Prod.snd).getD z
def y7(l:List (Int×β))(k:Int):Bool:=(ji l k).isSome
def qw:List (Int×β)->Int->β->List (Int×β)
 |[],k,v=>[(k,v)]
 |p::r,k,v=>bif k==p.1 then(k,v)::r else p::qw r k v
end
structure GF{β:Type}(q:IntKind)(E:β->Value)(es:Array MapEntry)(clock:Nat)(l:List (Int×β)):Prop where
 kv:es.toList.map (λe=>(e.key,e.val))=l.map λp=>(Value.int q p.1,E p.2)
 born:∀e∈es.toList,e.born<clock
 nd:(es.toList.map (·.born)).Nodup
def MpJ{β:Type}(b:Nat)(q:IntKind)(E:β->Value)(l:List (Int×β))(w:World):Prop:=∃es clock,w.heap[b]? =some (.map es clock)/\GF q E es clock l
abbrev Mp{β:Type}(b:Nat)(q:IntKind)(E:β->Value)(l:List (Int×β)):aO:= .ext [b] (MpJ b q E l)
theorem RP{β:Type}{b:Nat}{q:IntKind}{E:β->Value}{l:List (Int×β)}{w:World}(h:MpJ b q E l w):(Mp b q E l).holds w:=λw' _ hb=>by obtain⟨es,clock,h1,h2⟩:=h;exact⟨es,clock,(hb b (by simp)).trans h1,h2⟩
theorem ai3{β:Type}{b:Nat}{q:IntKind}{E:β->Value}{l:List (Int×β)}{w:World}(h:(Mp b q E l).holds w):MpJ b q E l w:=FZ h
class JO(H:List aO)(b:Nat)(β:outParam Type)(q:outParam IntKind)(E:outParam (β->Value))(l:outParam (List (Int×β)))(f:outParam (aO->List aO)):Prop where
 ok:∃k:Nat,H[k]? =some (Mp b q E l)/\∀r',f r'=H.set k r'
instance(priority:=100) aji{β:Type}(b:Nat)(q:IntKind)(E:β->Value)(l:List (Int×β))(H:List aO):JO (Mp b q E l::H) b β q E l (λr'=>r'::H):=⟨0,rfl,λ_ =>rfl⟩
instance(priority:=50) ai4(r:aO)(H:List aO)(b:Nat)(β:Type)(q:IntKind)(E:β->Value)(l f)[h:JO H b β q E l f]:JO (r::H) b β q E l (λr'=>r::f r'):=
 ⟨by obtain⟨k,h1,h2⟩:=h.ok;exact⟨k+1,by simpa using h1,λr'=>by rw[h2 r'];simp⟩⟩
class LV(P:Program)(t:TypeId)(k e:outParam TypeId)(q:outParam IntKind):Prop where
 ok:P.underlying t=some (.map k e)/\P.underlying k=some (.int q)
section
variable {β:Type} {q:IntKind} {E:β->Value}
theorem Lq{k:Int}:∀(es:List MapEntry) (l:List (Int×β)) (i:Nat),es.map (λe=>(e.key,e.val))=l.map (λp=>(Value.int q p.1,E p.2))->
  Instr.findNow (.int q) (.int q k) es i=some ((ji l k).map λp=>(i+p.1,E p.2))
 |[],[],i,_ =>rfl
 |[],p::r,i,h=>by simp at h
 |e::es,[],i,h=>by simp at h
 |e::es,p::r,i,h=>by
  simp only[List.map_cons,List.cons.injEq,Prod.mk.injEq]at h;obtain⟨⟨h1,h2⟩,h3⟩:=h;have ih:=Lq (k:=k) es r (i+1) h3;unfold Instr.findNow ji;rw[h1];have hs:Instr.sameNow (.int q) (.int q k) (.int q p.1)=some (k==p.1):=by simp[Instr.sameNow]
  rw[hs];cases hk:k==p.1 with
  |true=>simp[h2]
  |false=>
   simp only[ih,cond_false,Option.map_map];congr 1;cases ji r k with
   |none=>rfl
   |some z=>simp[Function.comp];omega
theorem vp{P:Program}{kt:TypeId}{k:Int}{es:Array MapEntry}{clock:Nat}{l:List (Int×β)}(w:World)(hk:P.underlying kt=some (.int q))(h:GF q E es clock l):
  (Instr.findKey kt (.int q k) es.toList).run P w= .ok ((ji l k).map λp=>(p.1,E p.2)) w:=by
 unfold Instr.findKey;rw[Sem.run_bind,run_underlying hk w];simp only[Result.andThen];rw[Lq es.toList l 0 h.kv];cases ji l k with
 |none=>rfl
 |some z=>simp[Sem.run]
theorem CR{k:Int}:∀{l:List (Int×β)} {j:Nat} {y:β},ji l k=some (j,y)->l[j]? =some (k,y)
 |[],_,_,h=>by simp[ji]at h
 |p::r,j,y,h=>by
  unfold ji at h;cases hk:k==p.1 with
  |true=>
   rw[hk]at h;simp only[cond_true,Option.some.injEq,Prod.mk.injEq]at h;obtain⟨rfl,rfl⟩:=h;have:k=p.1:=by simpa using hk
   subst this;rfl
  |false=>
   rw[hk]at h;simp only[cond_false]at h;cases hr:ji r k with
   |none=>simp[hr]at h
   |some z=>rw[hr]at h;simp only[Option.map_some,Option.some.injEq,Prod.mk.injEq]at h;obtain⟨rfl,rfl⟩:=h;have:=CR (l:=r) (j:=z.1) (y:=z.2) hr;simpa using this
theorem Hw{k:Int}{v:β}:∀{l:List (Int×β)},ji l k=none->qw l k v=l++[(k,v)]
 |[],_ =>rfl
 |p::r,h=>by
  unfold ji at h;cases hk:k==p.1 with
  |true=>rw[hk]at h;simp at h
  |false=>rw[hk]at h;simp only[cond_false,Option.map_eq_none_iff]at h;unfold qw;rw[hk,cond_false,Hw h];rfl
theorem Hv{k:Int}{v:β}:∀{l:List (Int×β)} {j:Nat} {y:β},ji l k=some (j,y)->qw l k v=l.set j (k,v)
 |[],_,_,h=>by simp[ji]at h
 |p::r,j,y,h=>by
  unfold ji at h;unfold qw;cases hk:k==p.1 with
  |true=>rw[hk]at h;simp only[cond_true,Option.some.injEq,Prod.mk.injEq]at h;obtain⟨rfl,rfl⟩:=h;rfl
  |false=>
   rw[hk]at h;simp only[cond_false]at h;cases hr:ji r k with
   |none=>simp[hr]at h
   |some z=>rw[hr]at h;simp only[Option.map_some,Option.some.injEq,Prod.mk.injEq]at h;obtain⟨rfl,rfl⟩:=h;rw[cond_false,Hv (j:=z.1) (y:=z.2) hr];rfl
theorem GF.push{es:Array MapEntry}{clock:Nat}{l:List (Int×β)}(h:GF q E es clock l)(k:Int)(v:β):GF q E (es.push ⟨.int q k,E v,clock⟩) (clock+1) (l++[(k,v)]):=by
 refine⟨by simp[h.kv],λe he=>?_,?_⟩
 ·rw[Array.toList_push,List.mem_append,List.mem_singleton]at he
  rcases he with he|rfl
  ·exact Nat.lt_succ_of_lt (h.born e he)
  ·exact Nat.lt_succ_self _
 ·rw[Array.toList_push,List.map_append,List.nodup_append]
  refine⟨h.nd,by simp,λa ha b hb=>?_⟩;obtain⟨e,he,rfl⟩:=List.mem_map.1 ha;have hb:b=clock:=by simpa using hb
  subst hb
  exactλe'=>by have:=h.born e he;omega
theorem AX{γ:Type}(f:MapEntry->MapEntry)(g:MapEntry->γ)(x:γ):∀(es:List MapEntry) (j:Nat),(∀e,g (f e)=x)->(es.modify j f).map g=(es.map g).set j x
 |[],j,_ =>by simp
 |e::es,0,h=>by simp[h]
 |e::es,j+1,h=>by simp[AX f g x es j h]
theorem za{γ:Type}(f:MapEntry->MapEntry)(g:MapEntry->γ):∀(es:List MapEntry) (j:Nat),(∀e,g (f e)=g e)->(es.modify j f).map g=es.map g
 |[],j,_ =>by simp
 |e::es,0,h=>by simp[h]
 |e::es,j+1,h=>by simp[za f g es j h]
theorem GF.modify{es:Array MapEntry}{clock:Nat}{l:List (Int×β)}(h:GF q E es clock l)(j:Nat)(k:Int)(v:β):GF q E (es.modify j λe=>{e with key:= .int q k,val:=E v}) clock (l.set j (k,v)):=by
 have hb:(es.modify j λe=>{e with key:= .int q k,val:=E v}).toList.map (·.born)=es.toList.map (·.born):=by rw[Array.toList_modify];exact za _ _ _ _ λ_ =>rfl
 refine⟨?_,λe he=>?_,?_⟩
 ·rw[Array.toList_modify,AX _ _ (Value.int q k,E v) _ _ (λ_ =>rfl),h.kv,List.map_set]
 ·have:e.born∈es.toList.map (·.born):=by rw[← hb];exact List.mem_map_of_mem he
  obtain⟨e',he',hee⟩:=List.mem_map.1 this;rw[← hee];exact h.born e' he'
 ·rw[hb];exact h.nd
end
section rules
variable {P:Program} {N:Nat} {c:Cx} {F:gp} {H:List aO} {d:Option Tmp} {ty:TypeId} {ps:String} {af:Array Edge} {g:Option (Nat×Bool)} {β:Type} {q:IntKind} {E:β->Value} {l:List (Int×β)} {f:aO->List aO} {b:Nat}
theorem JO.aeb{bs:List Nat}{n0:Nat}{w:World}(h:JO H b β q E l f)(hp:cC bs n0 H w):MpJ b q E l w:=by obtain⟨k,h1,_⟩:=h.ok;exact ai3 (hp.holds _ (List.mem_of_getElem? h1))
theorem JO.put{N:Nat}{D:List Deferred}{a:Act}{w:World}{l':List (Int×β)}{es es':Array MapEntry}{clock clock':Nat}(h:JO H b β q E l f)(hst:St N c D F H a w)(he:w.heap[b]? =some (.map es clock))(hok:GF q E es' clock' l'):
  bG c.bs c.w0 (w.putObj b (.map es' clock'))/\cC c.bs c.w0.heap.size (f (Mp b q E l')) (w.putObj b (.map es' clock')):=by
 obtain⟨k,h1,h2⟩:=h.ok;have hlt:=(ao2.1 he).1;have qI:bG [b] w (w.putObj b (.map es' clock')):=⟨rfl,rfl,rfl,by simp[World.putObj],λk _ hk=>World.putObj_heap_other (by simpa using hk)⟩;refine⟨hst.si.store hst.hp (List.mem_of_getElem? h1) (by simp[aO.eL]) qI,?_⟩;rw[h2];refine hst.hp.set h1 qI.size (λj hj hne=>qI.block j hj (by simpa[aO.eL]using hne)) (RP ⟨es',clock',World.putObj_heap_same hlt,hok⟩) hst.si.size (λb' hb=>?_);have e:b'=b:=by simpa[aO.eL]using hb
 subst e;exact⟨.inl (by simp[aO.eL]),by rw[World.putObj];simpa using hlt⟩
theorem LX(q:IntKind)(E:β->Value){t k e:TypeId}{q':IntKind}[LV P t k e q']:
  RX P N c ⟨d, .makeMap t none,ty,ps,af,g⟩ F H (λ_ =>True) (λb=> .map (some b)) (λb=>Mp b q E []::H):=λD a w next Q hst hk=>by
 refine gS (by simp) (w':=w.alloc (.map #[] 0)) ?_ (hk w.heap.size _ trivial (hst.si.ext (bG.alloc _ _)) (hst.hp.fresh (bG.alloc _ _) (RP ⟨#[],0,by show(w.heap.push _)[w.heap.size]? =_;simp,⟨rfl,by simp,by simp⟩⟩) hst.si.size (λb hb=>?_)))
 ·simp[execOp,Instr.makeMap,newObj,Sem.run,Result.andThen]
 ·have e:b=w.heap.size:=by simpa[aO.eL]using hb
  subst e;exact⟨Nat.le_refl _,by simp⟩
class XU(P:Program)(e:TypeId)(z:outParam Value):Prop where
 ok:(P.info? e).bind (·.zero)=some z
theorem YZ{e:TypeId}{z:Value}(h:XU P e z)(w:World):(zeroValue e).run P w= .ok z w:=by
 have:=h.ok;cases hi:P.info? e with
 |none=>simp[hi]at this
 |some i=>simp[hi]at this;simp[zeroValue,typeInfo,hi,this,Sem.run_bind,Sem.run,Result.andThen]
theorem xd{t kt e:TypeId}{k:Int}{z:β}{commaOk:Bool}(w:World)(ht:LV P t kt e q)(hz:XU P e (E z))(h:MpJ b q E l w):
  (Instr.lookup t (.map (some b)) (.int q k) commaOk).run P w= .ok (if commaOk then .tuple #[E (qG l k z), .bool (y7 l k)]else E (qG l k z)) w:=by
 obtain⟨es,clock,h1,h2⟩:=h;obtain⟨t1,t2⟩:=ht.ok;have hf:=vp (k:=k) w t2 h2;have hc:∀em,(Instr.checkKey em 10000 kt (.int q k)).run P w= .ok () w:=λem=>MapKept.run_checkKey (k:= .int q k) t2 (show q=q from rfl) em 9999;simp only[Instr.lookup,Sem.run_bind,run_underlying t1,Result.andThen,MapKept.run_getObj_map h1,Sem.run];rw[Sem.run_pure];dsimp only;rw[hc];dsimp only;rw[hf];dsimp only;unfold qG y7;cases ji l k with
 |none=>cases commaOk<;>simp[YZ hz,Result.andThen]
 |some p=>cases commaOk<;>simp[Result.andThen]
theorem Xy{x y:Operand}{t kt e:TypeId}{k:Int}(z:β)[ht:LV P t kt e q][hz:XU P e (E z)](hx:ev F x=some (.map (some b)))(hy:ev F y=some (.int q k))[hm:JO H b β q E l f]:
  VS P N c ⟨d, .lookup t x y false,ty,ps,af,g⟩ F H (E (qG l k z)):=bp (by simp) λa w hf _ hp=>by
 simp[execOp,bz hf hx,bz hf hy,xd w ht hz (hm.aeb hp),Result.andThen]
theorem Ub{x y:Operand}{t kt e:TypeId}{k:Int}(z:β)[ht:LV P t kt e q][hz:XU P e (E z)](hx:ev F x=some (.map (some b)))(hy:ev F y=some (.int q k))[hm:JO H b β q E l f]:
  VS P N c ⟨d, .lookup t x y true,ty,ps,af,g⟩ F H (.tuple #[E (qG l k z), .bool (y7 l k)]):=bp (by simp) λa w hf _ hp=>by
 simp[execOp,bz hf hx,bz hf hy,xd w ht hz (hm.aeb hp),Result.andThen]
theorem PG{x y z:Operand}{t kt e:TypeId}{k:Int}{v:Value}(u:β)[ht:LV P t kt e q](hx:ev F x=some (.map (some b)))(hy:ev F y=some (.int q k))(hz:ev F z=some v)[hm:JO H b β q E l f](hv:v=E u):
  RX (α:=Unit) P N c ⟨d, .mapUpdate t x y z,ty,ps,af,g⟩ F H (λ_ =>True) (λ_ =>undef) (λ_ =>f (Mp b q E (qw l k u))):=λD a w next Q hst hk=>by
 subst hv;obtain⟨es,clock,h1,h2⟩:=hm.aeb hst.hp;obtain⟨t1,t2⟩:=ht.ok;have hf:=vp (k:=k) w t2 h2;have hc:∀em,(Instr.checkKey em 10000 kt (.int q k)).run P w= .ok () w:=λem=>MapKept.run_checkKey (k:= .int q k) t2 (show q=q from rfl) em 9999;cases hm1:ji l k with
 |none=>obtain⟨p1,p2⟩:=hm.put hst h1 (h2.push k u);refine tK (by simp) (w':=w.putObj b (.map (es.push ⟨.int q k,E u,clock⟩) (clock+1))) ?_ (hk () _ trivial p1 (by rw[Hw hm1];exact p2));rw[hm1]at hf;simp[execOp,bz hst.fr hx,bz hst.fr hy,bz hst.fr hz,Instr.mapUpdate,run_underlying t1,MapKept.run_getObj_map h1,hc,hf,MapKept.run_setObj_map _ h1,Result.andThen,World.putObj]
 |some p=>
  have hg:=CR (j:=p.1) (y:=p.2) hm1;obtain⟨p1,p2⟩:=hm.put hst h1 (h2.modify p.1 k u);refine tK (by simp) (w':=w.putObj b (.map (es.modify p.1 λe=>{e with key:= .int q k,val:=E u}) clock)) ?_ (hk () _ trivial p1 (by rw[Hv (j:=p.1) (y:=p.2) hm1];exact p2));rw[hm1]at hf;have hkey:((es[p.1]?).map (·.key))=some (.int q k):=by
   have:(es.toList.map λe=>(e.key,e.val))[p.1]? =some (Value.int q k,E p.2):=by rw[h2.kv,List.getElem?_map,hg];rfl
   rw[List.getElem?_map,Array.getElem?_toList]at this;cases he:es[p.1]? with
   |none=>simp[he]at this
   |some e0=>simp[he]at this;simp[this.1]
  simp[execOp,bz hst.fr hx,bz hst.fr hy,bz hst.fr hz,Instr.mapUpdate,run_underlying t1,MapKept.run_getObj_map h1,hc,hf,hkey,MapKept.run_keyThatStays (show MapKept.IsKey (.int q) (.int q k)from rfl),MapKept.run_setObj_map _ h1,Result.andThen,World.putObj]
end rules
end Go.Bw
namespace Go.Bw
open Go Go.RowKit Go.ChangeMaps
section rules
variable {P:Program} {N:Nat} {c:Cx} {F:gp} {H:List aO} {d:Option Tmp} {ty:TypeId} {ps:String} {af:Array Edge} {g:Option (Nat×Bool)} {β:Type} {q:IntKind} {E:β->Value} {l rem:List (Int×β)} {ag6:Option (Int×β)} {f:aO->List aO} {b r:Nat}
end rules
end Go.Bw
namespace Go.Rw
open Go Go.Bw
variable {G:Sg}
inductive Ob(G:Sg) where
 |eL (T:Nat) (c:AV G)
 |row (e sz:Nat) (t:Ty) (xs:List (t.T G))
 |aux (b:Bool)
 |gm
abbrev Fr(G:Sg):=List (Nat×AV G)
abbrev Os(G:Sg):=List (Nat×Ob G)
def ga{α:Type}:List (Nat×α)->Nat->Option α
 |[],_ =>none
 |(k,v)::r,d=>bif Nat.beq k d then some v else ga r d
structure Ly(G:Sg) where
 F:Fr G
 O:Os G
 D:List (AV G)
abbrev CC(G:Sg):=List (Ly G)
def lkC:CC G->Nat->Option (AV G)
 |[],_ =>none
 |y::r,d=>match ga y.F d with
  |some v=>some v
  |none=>lkC r d
def y6:CC G->Os G
 |[]=>[]
 |y::r=>y.O++y6 r
def dfC:CC G->List (AV G)
 |[]=>[]
 |y::r=>y.D++dfC r
structure AS(G:Sg) where
 F:Fr G
 O:Os G
 nx:Nat
 D:List (AV G)
def rf(J:World->Prop)(ρ:bT)(t:Array Value):AV G->Value->Prop
 | .gd j w v,u=>(t[j]? =some (.bool w)->rv J ρ v u)/\(t[j]? ≠some (.bool w)->u=undef)
 |v,u=>rv J ρ v u
def sW(J:World->Prop)(ρ:bT)(F:Fr G)(t:Array Value):Prop:=∀d v,ga F d=some v->∃u,t[d]? =some u/\rf J ρ t v u
def FC(J:World->Prop)(ρ:bT)(C:CC G)(t:Array Value):Prop:=∀y∈C,sW J ρ y.F t
def I1(x:Int×Nat):Int×Value:=(x.1, .func (.func x.2) #[] #[])
def GlX(g:IntKind×List (Int×Nat))(mb:Nat)(w:World):Prop:=w.cell? ⟨0,0,none⟩=some (.map (some mb))/\∃l,MpJ mb g.1 (λv:Value=>v) l w/\∀k,qG l k .nilFunc=qG (g.2.map I1) k .nilFunc/\y7 l k=y7 (g.2.map I1) k
def Wa(G:Sg)(J:World->Prop):Prop:=∀g,G.gt=some g->∃mb,∀w,J w->GlX g mb w
theorem Wa.mono{J J':World->Prop}(h:Wa G J)(m:∀w,J' w->J w):Wa G J':=λg hg=>by obtain⟨mb,k⟩:=h g hg;exact⟨mb,λw q=>k w (m w q)⟩
def aip:Bool->Obj->Prop
 |true,o=>o= .deferred (some [])
 |false,o=>∃rec,o= .loop rec
def K0:Os G->Bool
 |[]=>true
 |(_, .aux false)::_ =>false
 |_ ::r=>K0 r
theorem FO{B:Os G}:∀{A:Os G},K0 (A++B)=true->K0 B=true:=by
 intro A
 induction A with
 |nil=>exactλh=>h
 |cons p r ih=>
  intro h;obtain⟨k,o⟩:=p;cases o with
  |aux b=>cases b with
   |true=>exact ih h
   |false=>cases h
  |eL T c=>exact ih h
  |row e sz t xs=>exact ih h
  |gm=>exact ih h
structure Sn(c:Cx)(C:CC G)(w:World):Prop where
 s:bG c.bs c.w0 w
 n:K0 (y6 C)=true->c.ro=none
theorem Sn.ext{c:Cx}{C:CC G}{w w':World}(h:Sn c C w)(k:bG [] w w'):Sn c C w':=⟨h.s.ext k,h.n⟩
theorem Sn.size{c:Cx}{C:CC G}{w:World}(h:Sn c C w):c.w0.heap.size<=w.heap.size:=h.s.size
def ro(J:World->Prop)(ρ:bT)(r:Nat):Ob G->aO->Prop
 | .eL T c,Jr=>∃b u,ρ r=some (fW b 0)/\Jr= .cells b T u.cells.toList/\rv J ρ c u
 | .row e sz t xs,Jr=>∃v ws,ρ r=some v/\Jr= .row v e sz xs.length ws/\wv v xs.length/\(LA (t.L G) xs.length).eZ J ws (λi=>xs.getD i default)/\(t.L G).n=sz
 | .aux b,Jr=>∃n o,ρ r=some (fW n 0)/\Jr= .obj n o/\aip b o
 | .gm,Jr=>(∃mb g,ρ r=some (.map (some mb))/\G.gt=some g/\∀w,J w->GlX g mb w)/\Jr= .row (.slice none 0 0) 0 1 0 []
inductive RO(J:World->Prop)(ρ:bT):Os G->List aO->Prop
 |nil:RO J ρ [] []
 |cons {r:Nat} {o:Ob G} {x:aO} {O:Os G} {H:List aO} (h:ro J ρ r o x) (k:RO J ρ O H):RO J ρ ((r,o)::O) (x::H)
def dr(J:World->Prop)(ρ:bT):AV G->Deferred->Prop
 | .cons (.fn f a c) l,d=>∃fs cs ls:List Value,rl J ρ a fs/\rl J ρ c cs/\rl J ρ l ls/\d={target:= .fn f cs.toArray,args:=(fs++ls).toArray}
 | .ptr r p,d=>p=[]/\∃b,ρ r=some (fW b 0)/\d=Go.Bw.mark b
 |_,_ =>False
inductive DR(J:World->Prop)(ρ:bT):List (AV G)->List Deferred->Prop
 |nil:DR J ρ [] []
 |cons {v:AV G} {d:Deferred} {l:List (AV G)} {D:List Deferred} (h:dr J ρ v d) (k:DR J ρ l D):DR J ρ (v::l) (d::D)
def amd(X:List aO):Prop:=∀w w',Hs X w->Hs X w'->∀b∈cm X,w'.heap[b]? =w.heap[b]?
structure XW(G:Sg)(X:List aO)(J:World->Prop):Prop where
 to:∀w',Hs X w'->J w'
 ex:amd X
 gl:Wa G J
theorem XW.one{X:List aO}{J:World->Prop}(h:XW G X J){x:aO}{w:World}(hx:x.holds w)(hl:∀b∈x.eL,b<w.heap.size):
  ∃q:aO,q.holds w/\q.eL=x.eL/\XW G (q::X) λw=>J w/\Hs [x] w:=by
 have st:∀w1:World,(aO.ext x.eL λw'=>w.heap.size<=w'.heap.size/\∀b∈x.eL,w'.heap[b]? =w.heap[b]?).holds w1->w.heap.size<=w1.heap.size/\∀b∈x.eL,w1.heap[b]? =w.heap[b]? :=λw1 h=>h w1 (Nat.le_refl _) λ_ _ =>rfl;refine⟨.ext x.eL λw'=>w.heap.size<=w'.heap.size/\∀b∈x.eL,w'.heap[b]? =w.heap[b]?,λw' h1 h2=>⟨h1,h2⟩,rfl,λw' hw=>?_,λw1 w2 h1 h2 b hb=>?_,h.gl.mono λw q=>q.1⟩
 ·have h1:=st w' (hw _ List.mem_cons_self).1
  refine⟨h.to w' λr hr=>hw r (ao6 _ hr),λr hr=>?_⟩;obtain rfl:=List.mem_singleton.1 hr;exact⟨aO.om hx h1.1 h1.2,λb hb=>Nat.lt_of_lt_of_le (hl b hb) h1.1⟩
 ·have k1:=st w1 (h1 _ List.mem_cons_self).1
  have k2:=st w2 (h2 _ List.mem_cons_self).1;have hb:b∈x.eL\/b∈cm X:=by simpa[cm,aO.eL]using hb
  rcases hb with hb|hb
  ·rw[k1.2 b hb,k2.2 b hb]
  ·exact h.ex w1 w2 (λr hr=>h1 r (ao6 _ hr)) (λr hr=>h2 r (ao6 _ hr)) b hb
structure Rl(c:Cx)(N:Nat)(ρ:bT)(J:World->Prop)(HK X:List aO)(C:CC G)(S:AS G)(a:Act)(w:World):Prop where
 tm:a.tmps.size=N
 df:DR J ρ (S.D++dfC C) a.defers
 si:Sn c C w
 fs:sW J ρ S.F a.tmps
 fc:FC J ρ C a.tmps
 kc:∀r o,ga (y6 C) r=some o->∃x∈HK,ro J ρ r o x
 hp:∃HS,RO J ρ S.O HS/\cC c.bs c.w0.heap.size (HS++(HK++X)) w
 kn:XW G X J
 fr:∀r,S.nx<=r->ρ r=none
section
variable {J J':World->Prop} {ρ ρ':bT}
theorem rf.mono(m:∀w,J' w->J w){t:Array Value}{v:AV G}{u:Value}(h:rf J ρ t v u):rf J' ρ t v u:=by
 cases v with
 |gd j w v=>exact⟨λe=>(h.1 e).mono m,h.2⟩
 |_ =>exact rl.mono m h
theorem rf.ext(m:ρ.le ρ'){t:Array Value}{v:AV G}{u:Value}(h:rf J ρ t v u):rf J ρ' t v u:=by
 cases v with
 |gd j w v=>exact⟨λe=>(h.1 e).ext m,h.2⟩
 |_ =>exact rl.ext m h
theorem sW.up(mJ:∀w,J' w->J w)(mρ:ρ.le ρ'){F:Fr G}{t:Array Value}(h:sW J ρ F t):sW J' ρ' F t:=λd v e=>by obtain⟨u,h1,h2⟩:=h d v e;exact⟨u,h1,(h2.mono mJ).ext mρ⟩
theorem ro.up(mJ:∀w,J' w->J w)(mρ:ρ.le ρ'){r:Nat}{o:Ob G}{x:aO}(h:ro J ρ r o x):ro J' ρ' r o x:=by
 cases o with
 |eL T c=>obtain⟨b,u,h1,h2,h3⟩:=h;exact⟨b,u,mρ _ _ h1,h2,(h3.mono mJ).ext mρ⟩
 |row e sz t xs=>obtain⟨v,ws,h1,h2,h3,h4,h5⟩:=h;exact⟨v,ws,mρ _ _ h1,h2,h3,dB.mono _ mJ h4,h5⟩
 |aux b=>obtain⟨n,x,h1,h2⟩:=h;exact⟨n,x,mρ _ _ h1,h2⟩
 |gm=>obtain⟨⟨mb,g,h1,h2,h3⟩,h4⟩:=h;exact⟨⟨mb,g,mρ _ _ h1,h2,λw q=>h3 w (mJ w q)⟩,h4⟩
theorem RO.up(mJ:∀w,J' w->J w)(mρ:ρ.le ρ'){O:Os G}{H:List aO}(h:RO J ρ O H):RO J' ρ' O H:=by
 induction h with
 |nil=>exact .nil
 |cons h _ ih=>exact .cons (h.up mJ mρ) ih
theorem dr.up(mJ:∀w,J' w->J w)(mρ:ρ.le ρ'){v:AV G}{d:Deferred}(h:dr J ρ v d):dr J' ρ' v d:=by
 unfold dr at h;split at h
 ·obtain⟨fs,cs,ls,h1,h2,h3,h4⟩:=h
  exact⟨fs,cs,ls,(h1.mono mJ).ext mρ,(h2.mono mJ).ext mρ,(h3.mono mJ).ext mρ,h4⟩
 ·obtain⟨rfl,b,h1,h2⟩:=h
  exact⟨rfl,b,mρ _ _ h1,h2⟩
 ·exact h.elim
theorem DR.up(mJ:∀w,J' w->J w)(mρ:ρ.le ρ'){l:List (AV G)}{D:List Deferred}(h:DR J ρ l D):DR J' ρ' l D:=by
 induction h with
 |nil=>exact .nil
 |cons h _ ih=>exact .cons (h.up mJ mρ) ih
def OJ(d:Nat):Fr G->Bool
 |[]=>true
 |(_,v)::r=>(match v with
  | .gd j _ _ => !Nat.beq j d
  |_ =>true)&&OJ d r
theorem agP{d:Nat}:∀{F:Fr G},OJ d F=true->∀{k:Nat} {j:Nat} {w:Bool} {v:AV G},ga F k=some (.gd j w v)->j≠d:=by
 intro F
 induction F with
 |nil=>intro _ k j w v h;cases h
 |cons p r ih=>
  obtain⟨k0,v0⟩:=p;intro h k j w v e;simp only[OJ,aoX]at h;simp only[ga]at e;cases hb:Nat.beq k0 k with
  |true=>rw[hb]at e;cases e;intro hj;have:=h.1;simp only[hj,Nat.beq_refl,Bool.not_true,Bool.false_eq_true]at this
  |false=>rw[hb]at e;exact ih h.2 e
theorem Ov{t:Array Value}{v:AV G}{u:Value}{d:Nat}{x:Value}(h:rf J ρ t v u)(hn:∀j w v',v= .gd j w v'->j≠d):rf J ρ (t.setIfInBounds d x) v u:=by
 cases v with
 |gd j w v=>
  have:(t.setIfInBounds d x)[j]? =t[j]? :=by rw[Array.getElem?_setIfInBounds,aoV (Ne.symm (hn j w v rfl))]
  refine⟨λe=>h.1 (this▸e),λe=>h.2 (this▸e)⟩
 |_ =>exact h
theorem sW.put{F:Fr G}{a:Act}{d:Nat}{v:AV G}{u:Value}(h:sW J ρ F a.tmps)(hd:d<a.tmps.size)(hn:OJ d F=true)(hg:∀j w v',v= .gd j w v'->j≠d)(hv:rf J ρ a.tmps v u):
  sW J ρ ((d,v)::F) (a.put (some d) u).tmps:=λk x e=>by
 simp only[ga]at e;cases hb:Nat.beq d k with
 |true=>rw[hb]at e;cases e;have:=aoW hb;subst this;exact⟨u,by simp[Act.put,hd],Ov hv hg⟩
 |false=>
  rw[hb]at e;obtain⟨y,h1,h2⟩:=h k x e;have hne:¬d=k:=λe=>by rw[e,Nat.beq_refl]at hb;cases hb
  exact⟨y,by simp only[Act.put,Array.getElem?_setIfInBounds,aoV hne];exact h1,Ov h2 λj w v' e'=>agP hn (e'▸e)⟩
def WO(d:Nat):Fr G->Bool
 |[]=>true
 |(k,v)::r=> !Nat.beq k d&&(match v with
  | .gd j _ _ => !Nat.beq j d
  |_ =>true)&&WO d r
theorem agM{d:Nat}:∀{F:Fr G},WO d F=true->ga F d=none/\∀{k:Nat} {j:Nat} {w:Bool} {v:AV G},ga F k=some (.gd j w v)->j≠d:=by
 intro F
 induction F with
 |nil=>intro _;exact⟨rfl,λh=>by cases h⟩
 |cons p r ih=>
  obtain⟨k0,v0⟩:=p;intro h;simp only[WO,aoX,Bool.not_eq_true']at h;obtain⟨h1,h2⟩:=ih h.2;refine⟨by simp only[ga,h.1.1,cond_false];exact h1,λ{k j w v} e=>?_⟩;simp only[ga]at e;cases hb:Nat.beq k0 k with
  |true=>rw[hb]at e;cases e;intro hj;have:=h.1.2;simp only[hj,Nat.beq_refl,Bool.not_true,Bool.false_eq_true]at this
  |false=>rw[hb]at e;exact h2 e
theorem sW.off{F:Fr G}{a:Act}{d:Nat}{u:Value}(h:sW J ρ F a.tmps)(hn:WO d F=true):sW J ρ F (a.put (some d) u).tmps:=λk x e=>by
 obtain⟨h1,h2⟩:=agM hn;obtain⟨y,h3,h4⟩:=h k x e;have hne:¬d=k:=λq=>by rw[q,e]at h1;cases h1
 exact⟨y,by simp only[Act.put,Array.getElem?_setIfInBounds,aoV hne];exact h3,Ov h4 λj w v' e'=>h2 (e'▸e)⟩
def Ny(d:Nat):AV G->Bool
 | .gd j _ _ => !Nat.beq j d
 |_ =>true
def QE(d:Nat):CC G->Bool
 |[]=>true
 |y::r=>WO d y.F&&QE d r
theorem agL{d:Nat}:∀{C:CC G},QE d C=true->∀y∈C,WO d y.F=true:=by
 intro C
 induction C with
 |nil=>intro _ y hy;cases hy
 |cons x r ih=>
  intro h y hy;simp only[QE,aoX]at h;rcases List.mem_cons.1 hy with rfl|hy
  ·exact h.1
  ·exact ih h.2 y hy
def yC(N:Nat)(C:CC G)(d:Option Tmp)(v:AV G)(S:AS G):Option (AS G):=match d with
 |none=>some S
 |some d=>bif Nat.blt d N&&(OJ d S.F&&QE d C)&&Ny d v then some {S with F:=(d,v)::S.F}else none
theorem Rl.put{c:Cx}{N:Nat}{HK X:List aO}{C:CC G}{S S':AS G}{a:Act}{w:World}{d:Option Tmp}{v:AV G}{u:Value}(h:Rl c N ρ J HK X C S a w)(hp:yC N C d v S=some S')(hv:rf J ρ a.tmps v u):
  Rl c N ρ J HK X C S' (a.put d u) w:=by
 cases d with
 |none=>cases hp;exact h
 |some d=>
  unfold yC at hp;dsimp only at hp;cases hb:(Nat.blt d N&&(OJ d S.F&&QE d C)&&Ny d v)with
  |false=>rw[hb]at hp;cases hp
  |true=>rw[hb]at hp;cases hp;simp only[aoX]at hb;obtain⟨⟨h1,h2,h3⟩,h4⟩:=hb;refine⟨by simp[Act.put,h.tm],by simpa[Act.put]using h.df,h.si,h.fs.put (by rw[h.tm];simpa[Nat.blt_eq]using h1) h2 (λj w v' e=>?_) hv,(λy hy=>(h.fc y hy).off (agL h3 y hy)),h.kc,h.hp,h.kn,h.fr⟩;subst e;intro hj;simp only[Ny,hj,Nat.beq_refl,Bool.not_true,Bool.false_eq_true]at h4
def avc:Value->Option (AV G)
 | .int k n=>some (.lit k n)
 | .bool b=>some (.kb b)
 | .string s=>some (.str s)
 | .pointer none=>some .FP
 | .slice none 0 0=>some .pI
 | .map none=>some .FQ
 | .nilFunc=>some .B0
 | .nilIface=>some .Ju
 |_ =>none
def R6(C:CC G)(S:AS G):Operand->Option (AV G)
 | .tmp t=>match ga S.F t with
  |some v=>some v
  |none=>lkC C t
 | .const v=>avc v
 | .global _ =>none
 | .func f=>some (.fn (.func f) .nil .nil)
theorem alW{v:Value}{x:AV G}{t:Array Value}(h:avc v=some x):rf J ρ t x v:=by unfold avc at h;split at h<;>first|(cases h;rfl)|cases h
theorem aaf{t:Array Value}:∀{C:CC G} {d:Nat} {v:AV G},FC J ρ C t->lkC C d=some v->∃u,t[d]? =some u/\rf J ρ t v u:=by
 intro C
 induction C with
 |nil=>intro d v _ h;cases h
 |cons y r ih=>
  intro d v hf h;simp only[lkC]at h;split at h
  ·rename_i v' hv;cases h;exact hf y List.mem_cons_self d _ hv
  ·exact ih (λz hz=>hf z (ao6 _ hz)) h
theorem FC.up(mJ:∀w,J' w->J w)(mρ:ρ.le ρ'){C:CC G}{t:Array Value}(h:FC J ρ C t):FC J' ρ' C t:=λy hy=>(h y hy).up mJ mρ
theorem Rl.ev{c:Cx}{N:Nat}{HK X:List aO}{C:CC G}{S:AS G}{a:Act}{w:World}(h:Rl c N ρ J HK X C S a w){x:Operand}{v:AV G}(e:R6 C S x=some v):rf J ρ a.tmps v (a.eval x):=by
 cases x with
 |tmp t=>
  simp only[R6]at e;cases h1:ga S.F t with
  |some v'=>
   rw[h1]at e;cases e;obtain⟨u,h2,h3⟩:=h.fs t _ h1;have:a.eval (.tmp t)=u:=by simp[Act.eval,h2]
   rw[this];exact h3
  |none=>
   rw[h1]at e;obtain⟨u,h2,h3⟩:=aaf h.fc e;have:a.eval (.tmp t)=u:=by simp[Act.eval,h2]
   rw[this];exact h3
 |const v'=>exact alW e
 |global g=>cases e
 |func f=>cases e;exact⟨[],[],rfl,rfl,rfl⟩
def bT.fr(ρ:bT)(n:Nat):Prop:=∀r,n<=r->ρ r=none
def bT.to(ρ ρ':bT)(n:Nat):Prop:=∀r,r<n->ρ' r=ρ r
theorem bT.to.le{n:Nat}(h:ρ.to ρ' n)(f:ρ.fr n):ρ.le ρ':=λr v e=>by
 by_cases hr:r<n
 ·rw[h r hr];exact e
 ·rw[f r (by omega)]at e;cases e
theorem bT.to.trans{ρ'':bT}{n m:Nat}(h:ρ.to ρ' n)(k:ρ'.to ρ'' m)(hn:n<=m):ρ.to ρ'' n:=λr hr=>(k r (by omega)).trans (h r hr)
theorem bT.gL(ρ:bT)(n:Nat):ρ.to ρ n:=λ_ _ =>rfl
def bT.set(ρ:bT)(n:Nat)(v:Value):bT:=λr=>if r=n then some v else ρ r
theorem bT.oe(ρ:bT)(n:Nat)(v:Value):ρ.set n v n=some v:=by simp[bT.set]
theorem bT.sq(ρ:bT)(n:Nat)(v:Value):ρ.to (ρ.set n v) n:=λr hr=>by simp[bT.set,Nat.ne_of_lt hr]
theorem bT.Eu{n:Nat}(h:ρ.fr n)(v:Value):(ρ.set n v).fr (n+1):=λr hr=>by unfold bT.set;rw[aoV (by omega)];exact h r (by omega)
end
end Go.Rw
namespace Go.Rw
open Go Go.Bw
variable {G:Sg}
abbrev Uj(G:Sg):=∀i,List (Fd G i)
structure PR(G:Sg)(t:Ty) where
 m:Ty
 get:t.T G->m.T G
 set:t.T G->m.T G->t.T G
def path(F:Uj G):List zi->(t:Ty)->Option (PR G t)
 |[],t=>some ⟨t,λx=>x,λ_ v=>v⟩
 | .Mi j o::r, .st i=>match(F i)[j]? with
  |some f=>bif Nat.beq f.off o then(match path F r f.ty with
   |some q=>some ⟨q.m,λx=>q.get (f.get x),λx v=>f.set x (q.set (f.get x) v)⟩
   |none=>none)else none
  |none=>none
 | .idx k sz i::r, .ou n e=>bif Nat.beq n k&&Nat.beq sz (e.L G).n then(match path F r e with
   |some q=>some ⟨q.m,λx=>q.get (x i.toNat),λx v=>dm x i.toNat (q.set (x i.toNat) v)⟩
   |none=>none)else none
 |_,_ =>none
theorem OC{F:Uj G}:∀{p:List zi} {t:Ty} {q:PR G t},path F p t=some q->(∀s∈p,s.ok)->aW (t.L G) (q.m.L G) (jr p) q.get q.set:=by
 intro p
 induction p with
 |nil=>intro t q h _;cases h;exact aW.id
 |cons s r ih=>
  intro t q h hs;have hr:=λs' hs'=>hs s' (ao6 _ hs');cases s with
  |Mi j o=>
   cases t with
   |st i=>
    simp only[path]at h;split at h
    ·rename_i f hf
     cases hb:Nat.beq f.off o with
     |false=>rw[hb]at h;cases h
     |true=>
      rw[hb]at h;simp only[cond_true]at h;split at h
      ·rename_i q' hq
       cases h;have:=f.ok.comp (ih hq hr);rw[aoW hb]at this;exact this
      ·cases h
    ·cases h
   |_ =>cases h
  |idx k sz i=>
   cases t with
   |ou n e=>
    simp only[path]at h;cases hb:(Nat.beq n k&&Nat.beq sz (e.L G).n)with
    |false=>rw[hb]at h;cases h
    |true=>
     rw[hb]at h;simp only[cond_true]at h;simp only[aoX]at hb;have e1:=aoW hb.1;have e2:=aoW hb.2;subst e1;split at h
     ·rename_i q' hq
      cases h;have hi:bQ i n=true:=hs _ List.mem_cons_self;exact(aW.idx (L:=e.L G) (m:=n) i.toNat (dF hi).2 e2).comp (ih hq hr)
     ·cases h
   |_ =>cases h
structure PL(G:Sg)(e:Ty) where
 m:Ty
 i:Int
 get:e.T G->m.T G
 set:e.T G->m.T G->e.T G
def KW(F:Uj G)(e:Ty):List zi->Option (PL G e)
 | .idx _ _ i::r=>match path F r e with
  |some q=>some ⟨q.m,i,q.get,q.set⟩
  |none=>none
 |_ =>none
theorem Qx{F:Uj G}{e:Ty}{n sz:Nat}{i:Int}{r:List zi}{q:PL G e}(h:KW F e (.idx n sz i::r)=some q)(hs:∀s∈(.idx n sz i::r:List zi),s.ok)(he:sz=(e.L G).n){m:Nat}(hi:i.toNat<m):
  q.i=i/\aW (LA (e.L G) m) (q.m.L G) (jr (.idx n sz i::r)) (λx=>q.get (x i.toNat)) (λx v=>dm x i.toNat (q.set (x i.toNat) v)):=by
 simp only[KW]at h;split at h
 ·rename_i q' hq
  cases h;exact⟨rfl,(aW.idx (L:=e.L G) (m:=m) i.toNat hi he).comp (OC hq λs hs'=>hs s (ao6 _ hs'))⟩
 ·cases h
def Es:(t:Ty)->AV G->Option (t.T G)
 | .int k, .int l n=>bif Nat.beq (Ty.cQ.ik l) (Ty.cQ.ik k)then some n else none
 | .int k, .lit l n=>bif Nat.beq (Ty.cQ.ik l) (Ty.cQ.ik k)then some n else none
 | .bool, .bool b=>some b
 | .bool, .kb b=>some b
 | .sl _, .pI=>some []
 |t, .dat t' x=>if h:t'.cQ t=true then some (Ty.yB h▸x)else none
 |_,_ =>none
theorem Zc{J:World->Prop}{e:Ty}:zJ (G:=G) J (.sl e) ([]:List (e.T G)) (.slice none 0 0):=⟨⟨_,[],rfl,DL.nil⟩,nofun,λ_ =>rfl⟩
theorem CP{J:World->Prop}{ρ:bT}{t:Ty}{v:AV G}{x:t.T G}{u:Value}(h:Es t v=some x)(hv:rv J ρ v u):zJ J t x u:=by
 have hd:∀{t':Ty} {y:t'.T G},v= .dat t' y->(if h:t'.cQ t=true then some (Ty.yB h▸y:t.T G)else none)=some x->zJ J t x u:=by
  intro t' y e k;subst e;by_cases hs:t'.cQ t=true
  ·rw[dif_pos hs]at k
   obtain⟨u',e1,hr⟩:=hv;cases e1;have:=Ty.yB hs;subst this;cases k;exact hr
  ·rw[dif_neg hs]at k;cases k
 unfold Es at h;split at h
 ·rename_i k l n
  cases hb:Nat.beq (Ty.cQ.ik l) (Ty.cQ.ik k)with
  |false=>rw[hb]at h;cases h
  |true=>rw[hb]at h;cases h;obtain rfl:=QY hb;exact UX (t:= .int l) hv
 ·rename_i k l n
  cases hb:Nat.beq (Ty.cQ.ik l) (Ty.cQ.ik k)with
  |false=>rw[hb]at h;cases h
  |true=>rw[hb]at h;cases h;obtain rfl:=QY hb;exact UX (ρ:=ρ) (t:= .int l) hv
 ·cases h;exact UX (t:= .bool) hv
 ·cases h;exact UX (ρ:=ρ) (t:= .bool) hv
 ·cases h
  have:[u]=[.slice none 0 0]:=hv;cases this;exact Zc
 ·exact hd rfl h
 ·cases h
def partAt:AV G->Nat->Option (Nat×AV G)
 | .part w a b,o=>bif Nat.beq o 0 then some (w,a)else bif Nat.ble w o then partAt b (o-w)else none
 |_,_ =>none
def Fy:AV G->Nat->AV G->Option (AV G)
 | .part w a b,o,v=>bif Nat.beq o 0 then some (.part w v b)else bif Nat.ble w o then(match Fy b (o-w) v with
   |some b'=>some (.part w a b')
   |none=>none)else none
 |_,_,_ =>none
def U9(F:Uj G):AV G->List zi->Option (AV G)
 |v,[]=>some v
 | .dat t x,p=>match path F p t with
  |some q=>some (mk q.m (q.get x))
  |none=>none
 | .st a, .Mi _ o::r=>match partAt a o with
  |some (_,v)=>U9 F v r
  |none=>none
 |_,_ =>none
theorem Nj{J:World->Prop}{ρ:bT}:∀{a:AV G} {o w:Nat} {v:AV G} {cs:List Value},partAt a o=some (w,v)->rl J ρ a cs->∃u,rv J ρ v u/\(cs.drop o).take w=u.cells.toList/\u.cells.size=w/\o+w<=cs.length:=by
 intro a
 induction a with
 |part w0 a b _ uO=>
  intro o w v cs h hr;obtain⟨c1,c2,u,rfl,h1,h2,h3,h4⟩:=hr;unfold partAt at h;cases h0:Nat.beq o 0 with
  |true=>rw[h0]at h;cases h;obtain rfl:=aoW h0;refine⟨u,h2,?_,by rw[← h1, ← h3,Array.length_toList],by simp;omega⟩;rw[List.drop_zero, ← h1,List.take_left,h3]
  |false=>
   rw[h0]at h;cases hb:Nat.ble w0 o with
   |false=>rw[hb]at h;cases h
   |true=>rw[hb]at h;have hle:=Nat.le_of_ble_eq_true hb;obtain⟨u',k1,k2,k3,k4⟩:=uO h h4;refine⟨u',k1,?_,k3,by simp;omega⟩;rw[← k2,List.drop_append,List.drop_of_length_le (by omega),List.nil_append,h1]
 |_ =>intro o w v cs h;cases h
theorem JU{J:World->Prop}:∀{t:Ty} {x:t.T G} {cs:List Value},(t.L G).eZ J cs x->∃u:Value,u.cells.toList=cs/\zJ J t x u:=by
 intro t x cs h;cases t with
 |int k=>have h:cs=[.int k x]:=h;subst h;exact⟨.int k x,rfl,rfl,nofun,λ_ =>rfl⟩
 |bool=>have h:cs=[.bool x]:=h;subst h;exact⟨.bool x,rfl,rfl,nofun,λ_ =>rfl⟩
 |st i=>exact⟨.agg cs.toArray,rfl,h,λ_ =>⟨cs,rfl⟩,nofun⟩
 |ou n e=>exact⟨.agg cs.toArray,rfl,h,λ_ =>⟨cs,rfl⟩,nofun⟩
 |sl e=>obtain⟨v,ws,rfl,hf⟩:=h;have hc:v.cells.toList=[v]:=hf.sl.cells;exact⟨v,hc,⟨v,ws,hc,hf⟩,nofun,λ_ =>by rw[← hc]⟩
theorem aaj{F:Uj G}{J:World->Prop}{ρ:bT}:∀{p:List zi} {c v:AV G} {u:Value},U9 F c p=some v->rv J ρ c u->(∀s∈p,s.ok)->
  ∃u',rv J ρ v u'/\(u.cells.toList.drop (jr p)).take u'.cells.size=u'.cells.toList/\jr p+u'.cells.size<=u.cells.size:=by
 intro p
 induction p with
 |nil=>
  intro c v u h hr _;have:c=v:=by unfold U9 at h;exact Option.some.inj h
  subst this;exact⟨u,hr,by rw[jr,List.drop_zero,List.take_of_length_le (by simp)],by simp[jr]⟩
 |cons s r ih=>
  intro c v u h hr hs;cases c with
  |dat t x=>
   simp only[U9]at h;split at h
   ·rename_i q hq
    cases h;obtain⟨u0,e,hd⟩:=hr;cases e;have hp:=OC hq hs;have hg:=hp.get hd.1;obtain⟨u',k1,k2⟩:=JU hg;have hl:=(q.m.L G).len hg;have P0:=(t.L G).len hd.1;have hle:=hp.le;rw[← k1]at hl;rw[Array.length_toList]at hl P0;exact⟨u',M8 k2,by rw[hl,k1],by omega⟩
   ·cases h
  |st a=>
   cases s with
   |Mi j o=>
    simp only[U9]at h;split at h
    ·rename_i w c' hp
     obtain⟨cs,e,h1,h2⟩:=hr;cases e;obtain⟨u1,k1,k2,k3,k4⟩:=Nj hp h1;obtain⟨u',m1,m2,m3⟩:=ih h k1 λs hs'=>hs s (ao6 _ hs');refine⟨u',m1,?_,?_⟩
     ·rw[← m2, ← k2]
      show(cs.drop (o+jr r)).take _ =_;rw[List.drop_take,List.take_take,List.drop_drop,Nat.min_eq_left (by omega)]
     ·show o+jr r+_ <=cs.length
      omega
    ·cases h
   |idx _ _ _ =>simp[U9]at h
  |_ =>simp[U9]at h
def AV.one:AV G->Bool
 | .int _ _ =>true
 | .lit _ _ =>true
 | .bool _ =>true
 | .kb _ =>true
 | .str _ =>true
 | .dat t _ => !t.ag
 | .ptr _ _ =>true
 | .FP=>true
 | .pI=>true
 | .row _ =>true
 | .mp _ =>true
 | .FQ=>true
 | .fn _ _ _ =>true
 | .B0=>true
 | .nY _ _ =>true
 | .Ju=>true
 |_ =>false
theorem KY{J:World->Prop}{ρ:bT}{v:AV G}{u:Value}(h:v.one=true)(hr:rv J ρ v u):u.cells= #[u]/\u.oneCell'=true:=by
 cases v<;>simp only[AV.one,Bool.false_eq_true]at h
 case int=>have hr:[u]=_ :=hr;cases hr;exact⟨rfl,rfl⟩
 case lit=>have hr:[u]=_ :=hr;cases hr;exact⟨rfl,rfl⟩
 case bool=>have hr:[u]=_ :=hr;cases hr;exact⟨rfl,rfl⟩
 case kb=>have hr:[u]=_ :=hr;cases hr;exact⟨rfl,rfl⟩
 case str=>have hr:[u]=_ :=hr;cases hr;exact⟨rfl,rfl⟩
 case dat t x=>obtain⟨u',e,h1,_,h3⟩:=hr;cases e;have h3:=h3 (by simpa using h);refine⟨h3,?_⟩;have:=(t.L G).one h1 u (by rw[h3];simp);exact this
 case ptr=>obtain⟨⟨b,o,_,e⟩,_⟩:=hr;cases e;exact⟨rfl,rfl⟩
 case FP=>have hr:[u]=_ :=hr;cases hr;exact⟨rfl,rfl⟩
 case pI=>have hr:[u]=_ :=hr;cases hr;exact⟨rfl,rfl⟩
 case row r=>obtain⟨_,_,_,_,e⟩:=hr;cases e;exact⟨rfl,rfl⟩
 case mp r=>obtain⟨_,_,e,h1⟩:=hr;cases e;exact h1
 case FQ=>have hr:[u]=_ :=hr;cases hr;exact⟨rfl,rfl⟩
 case fn=>obtain⟨_,_,e,_⟩:=hr;cases e;exact⟨rfl,rfl⟩
 case B0=>have hr:[u]=_ :=hr;cases hr;exact⟨rfl,rfl⟩
 case nY=>obtain⟨_,e,_⟩:=hr;cases e;exact⟨rfl,rfl⟩
 case Ju=>have hr:[u]=_ :=hr;cases hr;exact⟨rfl,rfl⟩
theorem Hq{J:World->Prop}{ρ:bT}{v:AV G}{u:Value}(h:v.one=true)(hr:rv J ρ v u):u.cells.toList=[u]/\u.cells.size=1:=by
 have:=(KY h hr).1;constructor
 ·rw[this]
 ·rw[this];rfl
def parts:AV G->Option Nat
 | .nil=>some 0
 | .part w _ b=>match parts b with
  |some n=>some (w+n)
  |none=>none
 |_ =>none
theorem BX{J:World->Prop}{ρ:bT}:∀{a:AV G} {n:Nat} {cs:List Value},parts a=some n->rl J ρ a cs->cs.length=n:=by
 intro a
 induction a with
 |nil=>intro n cs h hr;cases h;have:cs=[]:=hr;subst this;rfl
 |part w a b _ uO=>
  intro n cs h hr;simp only[parts]at h;split at h
  ·rename_i m hm
   cases h;obtain⟨c1,c2,u,rfl,h1,_,_,h4⟩:=hr;simp[h1,uO hm h4]
  ·cases h
 |_ =>intro n cs h;cases h
def AV.ncl(v:AV G):Option Nat:=bif v.one then some 1 else match v with
 | .dat t _ =>some (t.L G).n
 | .st a=>parts a
 |_ =>none
theorem S9{J:World->Prop}{ρ:bT}{v:AV G}{n:Nat}{l:List Value}(h:v.ncl=some n)(hr:rl J ρ v l):∃u,l=[u]/\u.cells.size=n/\uZ u.cells.toList:=by
 unfold AV.ncl at h;cases hb:v.one with
 |true=>
  rw[hb]at h;cases h;have key:∀u,l=[u]->∃u,l=[u]/\u.cells.size=1/\uZ u.cells.toList:=λu e=>by subst e;obtain⟨k1,k2⟩:=KY hb hr;refine⟨u,rfl,(Hq hb hr).2,?_⟩;rw[k1];intro x hx;simp at hx;subst hx;exact k2
  cases v<;>simp only[AV.one,Bool.false_eq_true]at hb
  case dat t x=>obtain⟨u,e,_⟩:=hr;exact key u e
  case ptr=>obtain⟨⟨b,o,_,e⟩,_⟩:=hr;exact key _ e
  case row=>obtain⟨_,_,_,_,e⟩:=hr;exact key _ e
  case mp=>obtain⟨_,_,e,_⟩:=hr;exact key _ e
  case fn=>obtain⟨_,_,e,_⟩:=hr;exact key _ e
  case nY=>obtain⟨_,e,_⟩:=hr;exact key _ e
  all_goals exact key _ hr
 |false=>
  rw[hb]at h;simp only[cond_false]at h;split at h
  ·rename_i t x
   cases h;obtain⟨u,e,h1,_⟩:=hr;exact⟨u,e,by rw[← Array.length_toList];exact(t.L G).len h1,(t.L G).one h1⟩
  ·obtain⟨cs,e,h1,h2⟩:=hr
   exact⟨_,e,BX h h1,h2⟩
  ·cases h
def AU(c v:AV G):Option (AV G):=bif c.one&&v.one then some v else match c,v with
 | .unk n,v=>match v.ncl with
  |some m=>bif Nat.beq n m then some v else none
  |none=>none
 | .dat t _,v=>match Es t v with
  |some x=>some (mk t x)
  |none=>none
 | .st a, .st b=>match parts a,parts b with
  |some n,some m=>bif Nat.beq n m then some (.st b)else none
  |_,_ =>none
 |_,_ =>none
theorem agh{J:World->Prop}{ρ:bT}{c v c':AV G}{u uv:Value}(h:AU c v=some c')(hc:rv J ρ c u)(hv:rv J ρ v uv):rv J ρ c' uv/\uv.cells.size=u.cells.size/\uZ uv.cells.toList:=by
 unfold AU at h;cases hb:(c.one&&v.one)with
 |true=>rw[hb]at h;cases h;simp only[aoX]at hb;obtain⟨k1,k2⟩:=KY hb.2 hv;refine⟨hv,by rw[(Hq hb.1 hc).2,(Hq hb.2 hv).2],?_⟩;rw[k1];intro x hx;simp at hx;subst hx;exact k2
 |false=>
  rw[hb]at h;simp only[cond_false]at h;split at h
  ·rename_i n
   split at h
   ·rename_i m hm
    cases hq:Nat.beq n m with
    |false=>rw[hq]at h;cases h
    |true=>rw[hq]at h;cases h;obtain⟨u1,e1,k1,k2⟩:=S9 hm hv;cases e1;obtain⟨u2,e2,k3⟩:=hc;cases e2;exact⟨hv,by rw[k1,k3,aoW hq],k2⟩
   ·cases h
  ·rename_i t x
   split at h
   ·rename_i y hy
    cases h;obtain⟨u',e,k1,_⟩:=hc;cases e;have k2:=CP hy hv;refine⟨M8 k2,?_,(t.L G).one k2.1⟩;rw[← Array.length_toList,(t.L G).len k2.1, ← (t.L G).len k1,Array.length_toList]
   ·cases h
  ·split at h
   ·rename_i n m h1 h2
    cases hq:Nat.beq n m with
    |false=>rw[hq]at h;cases h
    |true=>rw[hq]at h;cases h;obtain⟨cs,e,k1,_⟩:=hc;cases e;obtain⟨ds,e,k2,k3⟩:=hv;cases e;have:=aoW hq;refine⟨⟨ds,rfl,k2,k3⟩,?_,k3⟩;show ds.length=cs.length;rw[BX h1 k1,BX h2 k2,this]
   ·cases h
  ·cases h
def Wp(F:Uj G):AV G->List zi->AV G->Option (AV G)
 |c,[],v=>AU c v
 | .dat t x,p,v=>match path F p t with
  |some q=>match Es q.m v with
   |some y=>some (.dat t (q.set x y))
   |none=>none
  |none=>none
 | .st a, .Mi _ o::r,v=>match partAt a o with
  |some (_,c)=>match Wp F c r v with
   |some c'=>match Fy a o c' with
    |some a'=>some (.st a')
    |none=>none
   |none=>none
  |none=>none
 |_,_,_ =>none
theorem Sz{J:World->Prop}{ρ:bT}:∀{a:AV G} {o w:Nat} {v v' a':AV G} {cs:List Value} {u':Value},partAt a o=some (w,v)->Fy a o v'=some a'->rl J ρ a cs->rv J ρ v' u'->u'.cells.size=w->rl J ρ a' (cU cs o u'.cells.toList):=by
 intro a
 induction a with
 |part w0 a b _ uO=>
  intro o w v v' a' cs u' h hp hr hv hw;obtain⟨c1,c2,u,rfl,h1,h2,h3,h4⟩:=hr;unfold partAt at h;unfold Fy at hp;have hl:u'.cells.toList.length=w:=by rw[Array.length_toList];exact hw
  cases h0:Nat.beq o 0 with
  |true=>
   rw[h0]at h hp;cases h;cases hp;obtain rfl:=aoW h0;refine⟨u'.cells.toList,c2,u',?_,hl,hv,rfl,h4⟩;have e1:(c1++c2).drop (0+u'.cells.toList.length)=c2:=by rw[Nat.zero_add,hl, ← h1,List.drop_left]
   unfold cU;rw[e1];simp
  |false=>
   rw[h0]at h hp;simp only[cond_false]at h hp;cases hb:Nat.ble w0 o with
   |false=>rw[hb]at h;cases h
   |true=>
    rw[hb]at h hp;simp only[cond_true]at h hp;have hle:=Nat.le_of_ble_eq_true hb;split at hp
    ·rename_i b' hb'
     cases hp;refine⟨c1,_,u,?_,h1,h2,h3,uO h hb' h4 hv hw⟩;have:o=c1.length+(o-w0):=by omega
     rw[this,Fv];congr 2;omega
    ·cases hp
 |_ =>intro o w v v' a' cs u' h;cases h
theorem YP{F:Uj G}{J:World->Prop}{ρ:bT}{v:AV G}{uv:Value}(hv:rv J ρ v uv):∀{p:List zi} {c c':AV G} {u:Value},Wp F c p v=some c'->rv J ρ c u->(∀s∈p,s.ok)->
  ∃u',rv J ρ c' u'/\u'.cells.toList=cU u.cells.toList (jr p) uv.cells.toList/\jr p+uv.cells.size<=u.cells.size/\uZ uv.cells.toList:=by
 intro p
 induction p with
 |nil=>
  intro c c' u h hr _;have h:AU c v=some c':=by unfold Wp at h;exact h
  obtain⟨k1,k2,k3⟩:=agh h hr hv;refine⟨uv,k1,?_,by simp[jr,k2],k3⟩;simp[cU,jr, ← k2]
 |cons s r ih=>
  intro c c' u h hr hs;cases c with
  |dat t x=>
   simp only[Wp]at h;split at h
   ·rename_i q hq
    split at h
    ·rename_i y hy
     cases h;obtain⟨u0,e,hd⟩:=hr;cases e;have hp:=OC hq hs;have hrv:=CP hy hv;have aax:=hp.set (v:=y) hd.1 hrv.1;have hl:=(q.m.L G).len hrv.1;have P0:=(t.L G).len hd.1;have hle:=hp.le;rw[Array.length_toList]at hl P0;obtain⟨u',k1,k2⟩:=JU aax;refine⟨u',⟨u',rfl,k2⟩,k1,by omega,(q.m.L G).one hrv.1⟩
    ·cases h
   ·cases h
  |st a=>
   cases s with
   |Mi j o=>
    simp only[Wp]at h;split at h
    ·rename_i w c1 hp
     split at h
     ·rename_i c2 h2
      split at h
      ·rename_i a' ha
       cases h;obtain⟨cs,e,h1,h3⟩:=hr;cases e;obtain⟨u1,k1,k2,k3,k4⟩:=Nj hp h1;obtain⟨u',m1,m2,m3,m4⟩:=ih h2 k1 λs hs'=>hs s (ao6 _ hs');have hsz:u'.cells.size=w:=by rw[← Array.length_toList,m2,xb (by simpa using m3),Array.length_toList];exact k3
       have hn:=Sz hp ha h1 m1 hsz;have hcs:cU cs o u'.cells.toList=cU cs (o+jr r) uv.cells.toList:=by
        rw[m2];refine B4 λi=>?_;have hu1:u1.cells.toList.length=w:=by rw[Array.length_toList];exact k3
        have huv:uv.cells.toList.length=uv.cells.size:=Array.length_toList;have PZ:(cU u1.cells.toList (jr r) uv.cells.toList).length=w:=by rw[xb (by omega)];exact hu1
        rw[q9 (by omega),q9 (cs:=cs) (by omega),PZ];by_cases q1:o<=i/\i<o+w
        ·rw[aoU q1,q9 (by omega)]
         by_cases q2:jr r<=i-o/\i-o<jr r+uv.cells.toList.length
         ·rw[aoU q2,aoU (by omega)];congr 1;omega
         ·rw[aoV q2,aoV (by omega), ← k2,List.getElem?_take,aoU (by omega),List.getElem?_drop];congr 1;omega
        ·rw[aoV q1,aoV (by omega)]
       refine⟨.agg (cU cs o u'.cells.toList).toArray,⟨_,rfl,hn,?_⟩,hcs,?_,m4⟩
       ·rw[hcs]
        intro x hx;simp only[cU,List.mem_append]at hx;rcases hx with(hx|hx)|hx
        ·exact h3 x (List.mem_of_mem_take hx)
        ·exact m4 x hx
        ·exact h3 x (List.mem_of_mem_drop hx)
       ·show o+jr r+_ <=cs.length
        omega
      ·cases h
     ·cases h
    ·cases h
   |idx _ _ _ =>simp[Wp]at h
  |_ =>simp[Wp]at h
end Go.Rw
namespace Go.Bw
open Go Go.RowKit
section rules
variable {P:Program} {N:Nat} {c:Cx} {D:List Deferred} {Q:Exit->Act->World->Prop} {F:gp} {H:List aO} {d:Option Tmp} {ty:TypeId} {ps:String} {af:Array Edge} {g:Option (Nat×Bool)} {α β γ:Type}
theorem ack{s x:Operand}{t e sz bytes b T cp:Nat}{A:World->Prop}{v:Value}{L:dB α}[bR L]{xs:List α}{y:α}[ht:PF P t e sz bytes](hf:Fz A v L xs)(hs:ev F s=some (AZ v))(hx:ev F x=some (.slice (some ⟨b,0,none⟩) 1 cp))[hc:xL H b T (L.enc y)][k:Kn c H A](hn:L.n=sz)
  (Q4:(xs.length+1)*bytes<=140737488355328)(h63:xs.length+1<=9223372036854775807):
  RX P N c ⟨d, .call ⟨.builtin .append, #[s,x], #[t,t]⟩,ty,ps,af,g⟩ F H (λv'=>wv v' (xs++[y]).length) (λv'=>v') (λv'=>nr v' e sz L (xs++[y])::H):=λD a w next Q hst hk=>by
 subst hn;obtain⟨i,z,e1,e2,e3,e4,e5,e6,e7⟩:=PF.get ht.ok;have hro:=hf.ro w (k.ok w hst.si hst.hp);have hcell:=hst.hp.holds _ hc.mem;have hnews:∀(j:Nat) u,(L.enc y)[j]? =some u->w.cell? ((⟨b,0,none⟩:Addr).add j)=some u:=λj u hj=>by rw[Addr.add_lit,Nat.zero_add,yp hcell];exact hj
 have W9:xs.length+1<=maxLen:=by simp only[maxLen];omega
 have key:∃v' w',(Builtin.append_ #[t,t] ty #[AZ v, .slice (some ⟨b,0,none⟩) 1 cp]).run P w= .ok v' w'/\w'.ownsRow w.heap.size e L.n v' (xs.length+1) (fQ L xs++L.enc y)/\bG [] w w':=by
  rcases hro.2 with⟨⟨a0,c0,hv⟩,h0⟩|⟨gb,off,cap,hv,h3,h4,h5⟩
  ·subst hv
   have hxs:xs=[]:=List.length_eq_zero_iff.1 h0;subst hxs;cases a0 with
   |none=>obtain⟨v',w',q1,q2,q3,_⟩:=run_append_own w w.heap.size t ty e i z L.n bytes e1 e2 e3 e4 e5 e6 e7 (.slice none 0 0) 0 [] ⟨by simp, .inl ⟨rfl,rfl⟩⟩ ⟨b,0,none⟩ 1 cp (L.enc y) (by rw[lq];omega) hnews (F1 L y) (by simpa using W9) (by simpa using Q4) (Nat.le_refl _);exact⟨v',w',q1,q2,bG.BY q3⟩
   |some ad=>obtain⟨v',w',q1,q2,q3⟩:=run_append_arg_grows (P:=P) w t ty e i z L.n bytes e1 e2 e3 e4 e5 e6 e7 ad 0 0 [] (by simp) (by simp) ⟨b,0,none⟩ 1 cp (L.enc y) (by rw[lq];omega) hnews (by omega) (by simpa using W9) (by simpa using Q4);exact⟨v',w',q1,q2,bG.BY q3⟩
  ·subst hv
   obtain⟨v',w',q1,q2,q3⟩:=run_append_arg_grows (P:=P) w t ty e i z L.n bytes e1 e2 e3 e4 e5 e6 e7 ⟨gb,off,none⟩ xs.length xs.length (fQ L xs) (qB L xs) (λj u hj=>by rw[Addr.add_lit];exact h5 j u hj) ⟨b,0,none⟩ 1 cp (L.enc y) (by rw[lq];omega) hnews (by omega) W9 Q4;exact⟨v',w',q1,q2,bG.BY q3⟩
 obtain⟨v',w',q1,q2,q3⟩:=key;have hrow:(nr v' e L.n L (xs++[y])).holds w':=by unfold nr;rw[uJ,Nc,List.length_append];obtain⟨o1,o2⟩:=q2;refine⟨o1,o2.imp (λh=>h) λ⟨gb,cap,cur,r1,r2,r3⟩=>⟨gb,cap,cur,r1,Nat.zero_le _,r3⟩⟩
 refine gS (by simp) (v:=v') (w':=w') ?_ (hk v' w' (wv.zR hrow) (hst.si.ext q3) (hst.hp.fresh q3 hrow hst.si.size λb' hb'=>?_))
 ·simp[execOp,resolve,invoke,builtin,bz hst.fr hs,bz hst.fr hx,q1]
 ·exact q2.lt b' (by simpa[nr,aO.eL]using hb')
end rules
end Go.Bw
namespace Go.Bw
open Go Go.RowKit
def oc{α ρ:Type}(o:Option α)(z:Option ρ)(f:α->Option ρ):Option ρ:=match o with
 |none=>z
 |some a=>f a
section rules
variable {P:Program} {N:Nat} {c:Cx} {D:List Deferred} {Q:Exit->Act->World->Prop} {F:gp} {H:List aO} {d:Option Tmp} {ty:TypeId} {ps:String} {af:Array Edge} {g:Option (Nat×Bool)} {α β γ:Type}
def I3(P:Program)(t:Nat):Bool:=match P.underlying t with
 |some (.pointer e)=>Nat.beq e (P.pointee t)
 |_ =>false
theorem CZ{t:Nat}(h:I3 P t=true):P.underlying t=some (.pointer (P.pointee t)):=by
 unfold I3 at h;split at h
 ·rename_i e h1;rw[h1,aoW h]
 ·cases h
theorem aeU{x y:Operand}{T U b o:Nat}(ht:I3 P T=true)(hx:ev F x=some (fW b o))(hy:ev F y=some (.pointer none)):VS P N c ⟨d, .binOp .eql T x y U,ty,ps,af,g⟩ F H (.bool false):=
 bp (by simp) λa w hf _ _ =>by have:=run_eql_pointer_nil (P:=P) (w:=w) T (some ⟨b,o,none⟩) (CZ ht);simp[execOp,bz hf hx,bz hf hy,eqGuard,fW,this]
theorem aeP{x y:Operand}{T U b o:Nat}(ht:I3 P T=true)(hx:ev F x=some (fW b o))(hy:ev F y=some (.pointer none)):VS P N c ⟨d, .binOp .neq T x y U,ty,ps,af,g⟩ F H (.bool true):=
 bp (by simp) λa w hf _ _ =>by have:=run_neq_pointer_nil (P:=P) (w:=w) T (some ⟨b,o,none⟩) (CZ ht);simp[execOp,bz hf hx,bz hf hy,eqGuard,fW,this]
theorem ab1{x y:Operand}{T U:Nat}(ht:I3 P T=true)(hx:ev F x=some (.pointer none))(hy:ev F y=some (.pointer none)):VS P N c ⟨d, .binOp .eql T x y U,ty,ps,af,g⟩ F H (.bool true):=
 bp (by simp) λa w hf _ _ =>by have:=run_eql_pointer_nil (P:=P) (w:=w) T none (CZ ht);simp[execOp,bz hf hx,bz hf hy,eqGuard,this]
theorem abX{x y:Operand}{T U:Nat}(ht:I3 P T=true)(hx:ev F x=some (.pointer none))(hy:ev F y=some (.pointer none)):VS P N c ⟨d, .binOp .neq T x y U,ty,ps,af,g⟩ F H (.bool false):=
 bp (by simp) λa w hf _ _ =>by have:=run_neq_pointer_nil (P:=P) (w:=w) T none (CZ ht);simp[execOp,bz hf hx,bz hf hy,eqGuard,this]
theorem Mq{z:Value}(hz:z.cells= #[z])(n:Nat):(Builtin.zeroCells z.cells n).toList=List.replicate n z:=by
 rw[hz];simp[Builtin.zeroCells];apply List.ext_getElem
 ·simp
 ·intro i h1 h2
  simp[Nat.mod_one]
end rules
end Go.Bw
namespace Go.Rw
open Go Go.Bw Go.RowKit
variable {G:Sg}
inductive RJ(α:Type) where
 |gi
 |gq (k:Nat) (v:α) (l r:RJ α)
def RJ.find{α:Type}:RJ α->Nat->Option α
 | .gi,_ =>none
 | .gq k v l r,d=>bif Nat.beq k d then some v else bif Nat.blt d k then l.find d else r.find d
def RJ.all{α:Type}(p:Nat->α->Bool):RJ α->Bool
 | .gi=>true
 | .gq k v l r=>p k v&&(l.all p&&r.all p)
theorem RJ.abI{α:Type}{p:Nat->α->Bool}:∀{t:RJ α} {d:Nat} {v:α},t.all p=true->t.find d=some v->p d v=true:=by
 intro t
 induction t with
 |gi=>intro d v _ h;cases h
 |gq k v0 l r ihl ihr=>
  intro d v ha h;simp only[RJ.all,aoX]at ha;simp only[RJ.find]at h;cases h1:Nat.beq k d with
  |true=>rw[h1]at h;cases h;rw[← aoW h1];exact ha.1
  |false=>
   rw[h1]at h;simp only[cond_false]at h;cases h2:Nat.blt d k with
   |true=>rw[h2]at h;exact ihl ha.2.1 h
   |false=>rw[h2]at h;exact ihr ha.2.2 h
inductive TE where
 |int (k:IntKind)
 |bool
 |one
 |ptr
 |sl (e sz bytes:Nat)
 |ou (n e sz tot:Nat)
 |st (jr:List (Nat×Option Nat)) (tot:Nat)
def NI(P:Program)(t j o:Nat)(w:Option Nat):Bool:=Lz P t j o&&match P.underlying t with
 |some (.struct fs)=>match fs[j]? with
  |some fl=>Nat.beq fl.offset o&&(match w with
   |none=>vu P fl.type
   |some n=>HW P fl.type n)
  |none=>false
 |_ =>false
def OG(P:Program)(t:Nat):List (Nat×Option Nat)->Nat->Bool
 |[],_ =>true
 |o::r,j=>NI P t j o.1 o.2&&OG P t r (j+1)
def D9(P:Program)(t:Nat):TE->Bool
 | .int k=>(match P.underlying t with
  |some (.int l)=>Nat.beq (Ty.cQ.ik k) (Ty.cQ.ik l)
  |_ =>false)&&vu P t
 | .bool=>(match P.underlying t with
  |some .bool=>true
  |_ =>false)&&vu P t
 | .one=>vu P t
 | .ptr=>vu P t&&I3 P t
 | .sl e sz b=>vu P t&&(VJ P t e sz b&&NH P t e sz)
 | .ou n e sz tot=>Pt P t n e sz&&HW P t tot
 | .st jr tot=>OG P t jr 0&&HW P t tot
structure TT(P:Program)(G:Sg) where
 F:Uj G
 te:RJ TE
 ok:te.all (D9 P)=true
section
variable {P:Program} {tt:TT P G}
theorem TT.get{t:Nat}{e:TE}(h:tt.te.find t=some e):D9 P t e=true:=RJ.abI tt.ok h
theorem TT.int{t:Nat}{k:IntKind}(h:tt.te.find t=some (.int k)):ab5 P t k/\sR P t:=by
 have:=tt.get h;simp only[D9,aoX]at this;refine⟨⟨?_⟩,⟨this.2⟩⟩;have h1:=this.1;split at h1
 ·rename_i l hl;rw[QY h1];exact hl
 ·cases h1
theorem TT.bool{t:Nat}(h:tt.te.find t=some .bool):ab6 P t/\sR P t:=by
 have:=tt.get h;simp only[D9,aoX]at this;refine⟨⟨?_⟩,⟨this.2⟩⟩;have h1:=this.1;split at h1
 ·assumption
 ·cases h1
def TE.sz:TE->Option Nat
 | .ou _ _ _ n=>some n
 | .st _ n=>some n
 |_ =>none
theorem TT.one{t:Nat}{e:TE}(h:tt.te.find t=some e)(hs:e.sz=none):sR P t:=by have:=tt.get h;cases e<;>simp only[D9,aoX]at this<;>first|exact⟨this⟩|exact⟨this.1⟩|exact⟨this.2⟩|simp[TE.sz]at hs
theorem TT.agg{t n:Nat}{e:TE}(h:tt.te.find t=some e)(hs:e.sz=some n):wu P t n:=by have:=tt.get h;cases e<;>simp only[TE.sz,Option.some.injEq]at hs<;>first|(subst hs;simp only[D9,aoX]at this;exact⟨this.2⟩)|cases hs
theorem TT.sl{t e sz b:Nat}(h:tt.te.find t=some (.sl e sz b)):zo P t e sz/\PF P t e sz b:=by have:=tt.get h;simp only[D9,aoX]at this;exact⟨⟨this.2.2⟩,⟨this.2.1⟩⟩
theorem TT.ou{t n e sz tot:Nat}(h:tt.te.find t=some (.ou n e sz tot)):Dz P t n e sz:=by have:=tt.get h;simp only[D9,aoX]at this;exact⟨this.1⟩
theorem S6:∀{l:List (Nat×Option Nat)} {i j:Nat} {o:Nat×Option Nat} {t:Nat},OG P t l i=true->l[j]? =some o->NI P t (i+j) o.1 o.2=true:=by
 intro l
 induction l with
 |nil=>intro i j o t _ h;cases h
 |cons x r ih=>
  intro i j o t h hj;simp only[OG,aoX]at h;cases j with
  |zero=>simp at hj;subst hj;exact h.1
  |succ j=>have:=ih h.2 (by simpa using hj);rwa[Nat.add_right_comm,Nat.add_assoc]at this
theorem TT.fs{t n j:Nat}{o:Nat×Option Nat}{jr:List (Nat×Option Nat)}(h:tt.te.find t=some (.st jr n))(hj:jr[j]? =some o):NI P t j o.1 o.2=true:=by have:=tt.get h;simp only[D9,aoX]at this;have:=S6 this.1 hj;rwa[Nat.zero_add]at this
theorem TT.Mi{t n j:Nat}{o:Nat×Option Nat}{jr:List (Nat×Option Nat)}(h:tt.te.find t=some (.st jr n))(hj:jr[j]? =some o):Gk P t j o.1:=by have:=tt.fs h hj;unfold NI at this;rw[aoX]at this;exact⟨this.1⟩
theorem TT.ptr{t:Nat}(h:tt.te.find t=some .ptr):I3 P t=true:=by have:=tt.get h;simp only[D9,aoX]at this;exact this.2
end
def R3(k l:IntKind):Bool:=Nat.beq (Ty.cQ.ik k) (Ty.cQ.ik l)
theorem IV{k l:IntKind}(h:R3 k l=true):k=l:=QY h
abbrev PV(G:Sg):=Option (List Bool×AV G)
def ask(l b:Bool):List Bool:=bif l then(bif b then[]else[b])else[b]
theorem I4{l b:Bool}(h:∀x∈ask l b,x=true):b=true:=by
 unfold ask at h;cases l with
 |false=>exact h b (by simp)
 |true=>cases b with
  |true=>rfl
  |false=>exact h false (by simp)
def Zt(o:BinOp)(k:IntKind)(x y:Int)(q:Bool):PV G:=match o with
 | .add=>some ([], .int k (wr k (x+y)))
 | .sub=>some ([], .int k (wr k (x-y)))
 | .mul=>some ([], .int k (wr k (x*y)))
 | .quo=>some (ask q (y !=0), .int k (wr k (Int.tdiv x y)))
 | .rem=>some (ask q (y !=0), .int k (Int.tmod x y))
 | .and=>some ([], .int k (lV k x y))
 | .or=>some ([], .int k (orI k x y))
 | .xor=>some ([], .int k (Jg k x y))
 | .andNot=>some ([], .int k (C2 k x y))
 | .eql=>some ([], .bool (x==y))
 | .neq=>some ([], .bool (x !=y))
 | .lss=>some ([], .bool (decide (x<y)))
 | .leq=>some ([], .bool (decide (x<=y)))
 | .gtr=>some ([], .bool (decide (y<x)))
 | .geq=>some ([], .bool (decide (y<=x)))
 |_ =>none
def aap:AV G->Option Bool
 | .ptr _ _ =>some true
 | .FP=>some false
 |_ =>none
def asB:AV G->Option Bool
 | .bool b=>some b
 | .kb b=>some b
 |_ =>none
def Zz{P:Program}(tt:TT P G)(o:BinOp)(T:Nat)(a b:AV G):PV G:=match asB a,asB b with
 |some x,some y=>match o,tt.te.find T with
  | .eql,some .bool=>some ([], .bool (x==y))
  | .neq,some .bool=>some ([], .bool (x !=y))
  |_,_ =>none
 |_,_ =>match a,b with
 |a, .FP=>match aap a,o,tt.te.find T with
  |some b, .eql,some .ptr=>some ([], .bool (!b))
  |some b, .neq,some .ptr=>some ([], .bool b)
  |_,_,_ =>none
 |_,_ =>none
def asI:AV G->Option (IntKind×Int×Bool)
 | .int k n=>some (k,n,false)
 | .lit k n=>some (k,n,true)
 |_ =>none
def afe(o:BinOp)(k:IntKind)(x:Int)(l:IntKind)(y:Int)(q:Bool):PV G:=match o with
 | .shl=>some (ask q (decide (0<=y)), .int k (KI k x y))
 | .shr=>some (ask q (decide (0<=y)), .int k (Fw k x y))
 |_ =>bif R3 k l then Zt o k x y q else none
def ZA{P:Program}(tt:TT P G)(o:BinOp)(T:Nat)(a b:AV G):PV G:=match asI a,asI b with
 |some (k,x,_),some (l,y,q)=>afe o k x l y q
 |_,_ =>Zz tt o T a b
section
variable {P:Program} {J:World->Prop} {ρ:bT} {a:Act} {w:World} {d:Option Tmp} {ty:TypeId} {ps:String} {af:Array Edge} {g:Option (Nat×Bool)}
def VOk(P:Program)(J:World->Prop)(ρ:bT)(a:Act)(w:World)(o:Oper)(v:AV G):Prop:=∃u,(execOp a.eval o).run P w= .ok (.value u) w/\rv J ρ v u
theorem Zs{o:BinOp}{T U:Nat}{k:IntKind}{x y:Int}{p q:Operand}{gs:List Bool}{v:AV G}{qq:Bool}(h:Zt o k x y qq=some (gs,v))(hg:∀b∈gs,b=true)(hx:a.eval p= .int k x)(hy:a.eval q= .int k y):
  VOk P J ρ a w ⟨d, .binOp o T p q U,ty,ps,af,g⟩ v:=by
 cases o<;>simp only[Zt,reduceCtorEq,Option.some.injEq,Prod.mk.injEq]at h
 case add=>obtain⟨rfl,rfl⟩:=h;exact⟨_,by simp[execOp,hx,hy,eqGuard,binOp,Op.intArith],rfl⟩
 case sub=>obtain⟨rfl,rfl⟩:=h;exact⟨_,by simp[execOp,hx,hy,eqGuard,binOp,Op.intArith],rfl⟩
 case mul=>obtain⟨rfl,rfl⟩:=h;exact⟨_,by simp[execOp,hx,hy,eqGuard,binOp,Op.intArith],rfl⟩
 case quo=>obtain⟨rfl,rfl⟩:=h;have h0:y≠0:=(by simpa using I4 hg);exact⟨_,by simp[execOp,hx,hy,eqGuard,binOp,Op.intDiv,h0],rfl⟩
 case rem=>obtain⟨rfl,rfl⟩:=h;have h0:y≠0:=(by simpa using I4 hg);exact⟨_,by simp[execOp,hx,hy,eqGuard,binOp,Op.intDiv,h0],rfl⟩
 case and=>obtain⟨rfl,rfl⟩:=h;exact⟨.int k (lV k x y),by simp[execOp,hx,hy,eqGuard,binOp,Op.intBits,lV],rfl⟩
 case or=>obtain⟨rfl,rfl⟩:=h;exact⟨.int k (orI k x y),by simp[execOp,hx,hy,eqGuard,binOp,Op.intBits,orI],rfl⟩
 case xor=>obtain⟨rfl,rfl⟩:=h;exact⟨.int k (Jg k x y),by simp[execOp,hx,hy,eqGuard,binOp,Op.intBits,Jg],rfl⟩
 case andNot=>obtain⟨rfl,rfl⟩:=h;exact⟨.int k (C2 k x y),by simp[execOp,hx,hy,eqGuard,binOp,Op.intBits,C2],rfl⟩
 case eql=>obtain⟨rfl,rfl⟩:=h;exact⟨_,by simp[execOp,hx,hy,eqGuard,binOp,Op.intCmp],rfl⟩
 case neq=>obtain⟨rfl,rfl⟩:=h;exact⟨_,by simp[execOp,hx,hy,eqGuard,binOp,Op.intCmp],rfl⟩
 case lss=>obtain⟨rfl,rfl⟩:=h;exact⟨_,by simp[execOp,hx,hy,eqGuard,binOp,Op.intCmp],rfl⟩
 case leq=>obtain⟨rfl,rfl⟩:=h;exact⟨_,by simp[execOp,hx,hy,eqGuard,binOp,Op.intCmp],rfl⟩
 case gtr=>obtain⟨rfl,rfl⟩:=h;exact⟨_,by simp[execOp,hx,hy,eqGuard,binOp,Op.intCmp],rfl⟩
 case geq=>obtain⟨rfl,rfl⟩:=h;exact⟨_,by simp[execOp,hx,hy,eqGuard,binOp,Op.intCmp],rfl⟩
theorem M9{b:Bool}{u:Value}(h:rv (G:=G) J ρ (.kb b) u):u= .bool b:=by have h:[u]=_ :=h;cases h;rfl
theorem ER{v:AV G}{b:Bool}{u:Value}(h:asB v=some b)(hv:rv J ρ v u):u= .bool b:=by unfold asB at h;split at h<;>cases h<;>(have hv:[u]=_ :=hv;cases hv;rfl)
theorem CQ{b:Bool}{u:Value}(h:rv (G:=G) J ρ (.bool b) u):u= .bool b:=by have h:[u]=_ :=h;cases h;rfl
theorem QW{v:AV G}{b:Bool}{u:Value}(h:aap v=some b)(hv:rv J ρ v u):(b=true->∃x y,u= .pointer (some ⟨x,y,none⟩))/\(b=false->u= .pointer none):=by
 unfold aap at h;split at h
 ·cases h;obtain⟨⟨x,y,_,e⟩,_⟩:=hv;cases e;exact⟨λ_ =>⟨_,_,rfl⟩,nofun⟩
 ·cases h;have e:[u]=_ :=hv;cases e;exact⟨nofun,λ_ =>rfl⟩
 ·cases h
def sI(a:Act):gp:=(List.range a.tmps.size).map λd=>(d,a.tmps.getD d undef)
theorem IU{t:Array Value}:∀{l:List Nat} {d:Nat},lk (l.map λd=>(d,t.getD d undef)) d=if d∈l then some (t.getD d undef)else none:=by
 intro l
 induction l with
 |nil=>intro d;simp[lk]
 |cons x r ih=>
  intro d;simp only[List.map_cons,lk];by_cases e:x=d
  ·subst e;simp
  ·rw[xD e,cond_false,ih]
   simp[Ne.symm e]
theorem J4(a:Act):Bg (sI a) a.tmps:=λd v h=>by
 unfold sI at h;rw[IU]at h;split at h
 ·rename_i hm
  have hd:d<a.tmps.size:=by simpa using hm
  have h:=Option.some.inj h;rw[← h];simp[hd]
 ·cases h
theorem Vp{a:Act}{x:Operand}(h:∀t,x= .tmp t->t<a.tmps.size)(hg:∀g,x≠ .global g):Bw.ev (sI a) x=some (a.eval x):=by
 cases x with
 |tmp t=>have:=h t rfl;show lk (sI a) t=_;unfold sI;rw[IU,aoU (by simpa using this)];rfl
 |const v=>rfl
 |global g=>exact absurd rfl (hg g)
 |func f=>rfl
def VK(P:Program)(c:Cx)(o:Oper)(a:Act)(w:World)(u:Value):Prop:=∀next Q,(∀w',bG [] w w'->next (a.put o.dst u) w')->o.wpIn (FA c.ro) 0 P a w next Q
theorem VK.run{c:Cx}{o:Oper}{u:Value}(hd:∀cc,o.op≠ .defer cc)(h:(execOp a.eval o).run P w= .ok (.value u) w):VK P c o a w u:=λ_ _ hk=>gS hd h (hk w (bG.refl _ _))
theorem _root_.Go.Bw.VS.vk{N:Nat}{c:Cx}{D:List Deferred}{o:Oper}{F:gp}{H:List aO}{u:Value}(h:VS P N c o F H u)(hst:St N c D F H a w):VK P c o a w u:=λnext Q hk=>h D a w next Q hst hk
structure E1(J:World->Prop)(ρ:bT)(a:Act)(E:Operand->Option (AV G)):Prop where
 ok:∀x v,E x=some v->rv J ρ v (a.eval x)
 ev:∀x v,E x=some v->Bw.ev (sI a) x=some (a.eval x)
def TL(E:Operand->Option (AV G)):List Operand->Option (AV G)
 |[]=>some .nil
 |x::r=>match E x,TL E r with
  |some v,some l=>some (.cons v l)
  |_,_ =>none
theorem Af{E:Operand->Option (AV G)}(h:E1 J ρ a E):∀{l:List Operand} {v:AV G},TL E l=some v->rl J ρ v (l.map a.eval)/\I2 (sI a) l=some (l.map a.eval):=by
 intro l
 induction l with
 |nil=>intro v e;cases e;exact⟨rfl,rfl⟩
 |cons x r ih=>
  intro v e;simp only[TL]at e;split at e
  ·rename_i u k h1 h2
   cases e;obtain⟨i1,i2⟩:=ih h2;refine⟨⟨_,_,rfl,h.ok _ _ h1,i1⟩,?_⟩;simp only[I2,h.ev _ _ h1,i2,List.map_cons]
  ·cases e
def WS:AV G->Nat->Option (AV G)
 | .cons a b,i=>match i with
  |0=>some a
  |i+1=>WS b i
 |_,_ =>none
theorem OH:∀{v:AV G} {i:Nat} {x:AV G} {l:List Value},WS v i=some x->rl J ρ v l->∃u,l[i]? =some u/\rv J ρ x u:=by
 intro v
 induction v with
 |cons a b _ uO=>
  intro i x l h hr;obtain⟨u,r,rfl,h1,h2⟩:=hr;cases i with
  |zero=>cases h;exact⟨u,rfl,h1⟩
  |succ i=>obtain⟨u',k1,k2⟩:=uO (i:=i) h h2;exact⟨u',by simpa using k1,k2⟩
 |_ =>intro i x l h;cases i<;>cases h
def s7(v:Option (AV G)):Option (IntKind×Int×Bool):=match v with
 |some v=>asI v
 |none=>none
def agC{P:Program}(tt:TT P G)(ob:Nat->Option (Ob G))(T:Nat)(v:AV G)(i:Int)(q:Bool):PV G:=match v,tt.te.find T with
 | .ptr r p,some (.ou n _ sz _)=>some (ask q (bQ i n), .ptr r (p++[.idx n sz i]))
 | .elt e xs p,some (.ou n _ sz _)=>some (ask q (bQ i n), .elt e xs (p++[.idx n sz i]))
 | .row r,some (.sl _ sz _)=>match ob r with
  |some (.row _ sz' _ xs)=>bif Nat.beq sz sz' then some ([bQ i xs.length], .ptr r [.idx xs.length sz i])else none
  |_ =>none
 | .dat (.sl e) xs,some (.sl _ sz _)=>bif Nat.beq sz (e.L G).n then some ([bQ i (xs:List (e.T G)).length], .elt e xs [.idx (xs:List (e.T G)).length sz i])else none
 |_,_ =>none
def aaJ:List zi->Nat->Bool
 | .idx _ sz _ ::_,n=>Nat.beq sz n
 |_,_ =>false
def agB{P:Program}(tt:TT P G)(ob:Nat->Option (Ob G)):AV G->Option (AV G)
 | .ptr r p=>match ob r with
  |some (.eL _ c)=>U9 tt.F c p
  |some (.row _ sz t xs)=>bif aaJ p sz then(match KW tt.F t p with
   |some q=>some (mk q.m (q.get (xs.getD q.i.toNat default)))
   |none=>none)else none
  |_ =>none
 | .elt e xs p=>match KW tt.F e p with
  |some q=>some (mk q.m (q.get (xs.getD q.i.toNat default)))
  |none=>none
 |_ =>none
def AV.cw:AV G->Option Nat
 | .dat t _ =>bif t.ag then some (t.L G).n else none
 | .st a=>parts a
 |_ =>none
def A6{P:Program}(tt:TT P G)(T:Nat)(v:AV G):Bool:=match tt.te.find T with
 |some e=>match e.sz with
  |none=>v.one
  |some n=>match v.cw with
   |some m=>Nat.beq n m&& !Nat.beq n 0
   |none=>false
 |none=>false
def Rg(o:Option Nat)(y:AV G):Bool:=match o with
 |none=>y.one
 |some n=>match y.cw with
  |some m=>Nat.beq n m
  |none=>false
def pv{P:Program}(tt:TT P G)(ob:Nat->Option (Ob G))(E:Operand->Option (AV G)):Op->PV G
 | .move x=>match E x with
  |some v=>some ([],v)
  |none=>none
 | .assign x=>match E x with
  |some v=>some ([],v)
  |none=>none
 | .binOp o T x y _ =>match E x,E y with
  |some a,some b=>ZA tt o T a b
  |_,_ =>none
 | .unOp .not _ x=>match E x with
  |some (.bool b)=>some ([], .bool (!b))
  |some (.kb b)=>some ([], .kb (!b))
  |_ =>none
 | .unOp .neg _ x=>match s7 (E x)with
  |some (k,n,_)=>some ([], .int k (wr k (0-n)))
  |none=>none
 | .convert S T x=>match s7 (E x),tt.te.find S,tt.te.find T with
  |some (k,n,_),some (.int l),some (.int k')=>bif R3 k l then some ([], .int k' (wr k' n))else none
  |_,_,_ =>none
 | .nilCheck x=>match E x with
  |some (.ptr r p)=>some ([], .ptr r p)
  |some (.fn (.func f) a c)=>some ([], .fn (.func f) a c)
  |_ =>none
 | .fieldAddr s x j=>match tt.te.find s with
  |some (.st jr _)=>match jr[j]? with
   |some o=>match E x with
    |some (.ptr r p)=>some ([], .ptr r (p++[.Mi j o.1]))
    |some (.elt e xs p)=>some ([], .elt e xs (p++[.Mi j o.1]))
    |_ =>none
   |none=>none
  |_ =>none
 | .field T x j=>match tt.te.find T with
  |some (.st jr _)=>match jr[j]? with
   |some o=>match E x with
    |some v=>match U9 tt.F v [.Mi j o.1]with
     |some y=>bif Rg o.2 y then some ([],y)else none
     |none=>none
    |none=>none
   |none=>none
  |_ =>none
 | .indexAddr T x i=>match E x,s7 (E i)with
  |some v,some (_,i,q)=>agC tt ob T v i q
  |_,_ =>none
 | .index T x i=>match E x,s7 (E i),tt.te.find T with
  |some (.dat (.ou n e) f),some (_,i,q),some (.ou m te sz _)=>bif Nat.beq n m&&(Nat.beq sz (e.L G).n&&A6 tt te (mk e (f i.toNat)))then some (ask q (bQ i n),mk e (f i.toNat))else none
  |_,_,_ =>none
 | .load T x=>match E x with
  |some v=>match agB tt ob v with
   |some y=>bif A6 tt T y then some ([],y)else none
   |none=>none
  |none=>none
 | .extract x i=>match E x with
  |some (.rZ l)=>match WS l i with
   |some v=>some ([],v)
   |none=>none
  |_ =>none
 | .makeFunc fn first cap=>match TL E first.toList,TL E cap.toList with
  |some a,some c=>some ([], .fn fn a c)
  |_,_ =>none
 | .makeInterface T x=>match E x,tt.te.find T with
  |some v,some (.int _)=>some ([], .nY T v)
  |_,_ =>none
 | .call ⟨.builtin .len,args,RW⟩=>match args.toList,RW.toList with
  |[x],[T]=>match E x,tt.te.find T with
   |some (.row r),some (.sl _ _ _)=>match ob r with
    |some (.row _ _ _ xs)=>some ([], .int .i64 (xs.length:Int))
    |_ =>none
   |some (.dat (.sl e) xs),some (.sl _ _ _)=>some ([], .int .i64 ((xs:List (e.T G)).length:Int))
   |some .pI,some (.sl _ _ _)=>some ([], .int .i64 0)
   |_,_ =>none
  |_,_ =>none
 | .call ⟨.builtin .min,args,_⟩=>match args.toList with
  |[x,y]=>match s7 (E x),s7 (E y)with
   |some (k,a,_),some (l,b,_)=>bif R3 k l then some ([], .int k (if b<a then b else a))else none
   |_,_ =>none
  |_ =>none
 | .call ⟨.builtin .max,args,_⟩=>match args.toList with
  |[x,y]=>match s7 (E x),s7 (E y)with
   |some (k,a,_),some (l,b,_)=>bif R3 k l then some ([], .int k (if a<b then b else a))else none
   |_,_ =>none
  |_ =>none
 |_ =>none
end
end Go.Rw
