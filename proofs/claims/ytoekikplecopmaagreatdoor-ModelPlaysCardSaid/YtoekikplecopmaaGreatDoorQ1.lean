/- Part 1 of what a proof leans on; pruned and shortened by a program out of longer texts. -/
import Derived.RangeFuncNested
import Derived.RangeFuncBound
import Derived.RangeFuncCalls
import Derived.RangeFuncLeaves
import Derived.WalkKit
import Derived.TacticsIn
import Derived.KernelRfl
import Derived.OrdersIn
import Derived.Laws.AppendOwn
import Derived.Laws.StructEq
import Derived.Deep.Upon
import Derived.Laws.CopyRow
import Derived.ProofKit
import Derived.OpenShut
import Derived.ShutString
import Derived.ChangeOld
import Derived.Below
import Derived.Carry
import Derived.Deep.Slices
import Derived.ChangeKeysEq
import Derived.Laws.Cover3
import Derived.LoopNIn
import Derived.Great.BuildSlice
import Derived.Maps.RangeRun
import Derived.MapKept
import Derived.ArgAppend
import Derived.Laws.Pointers
import Derived.Lib.Tables
import Derived.RecoverIn
import Derived.Test.YtoekikplecopmaaGreatDoorProg
import Derived.LaidMore
import Derived.ChangeMaps
import Derived.ChangeAnyMap
import Derived.Test.YtoekikplecopmaaGreatDoorCards
import Derived.Stop.Joined
import Derived.SevenTiedAt
universe u
theorem aps {c : Prop} {h : Decidable c} (hc : c) {α : Sort u} {t e : α} : ite c t e = t := if_pos hc
theorem apt {c : Prop} {h : Decidable c} (hc : ¬c) {α : Sort u} {t e : α} : ite c t e = e := if_neg hc
theorem apu {n m : Nat} (h : Nat.beq n m = true) : n = m := Nat.eq_of_beq_eq_true h
theorem apv (a b : Bool) : ((a && b) = true) = (a = true ∧ b = true) := Bool.and_eq_true a b
theorem apw {p : Prop} [inst : Decidable p] (h : p) : decide p = true := decide_eq_true h
theorem apx (n : Nat) : ((n : Int)).toNat = n := Int.toNat_natCast n
theorem apy {α : Type u} {a : α} (l : List α) {m : List α} (h : a ∈ m) : a ∈ l ++ m := List.mem_append_right l h
theorem apz {α : Type u} {a : α} {l : List α} (m : List α) (h : a ∈ l) : a ∈ l ++ m := List.mem_append_left m h
theorem apA {α : Type u} {b : α} {xs : Array α} {i : Nat} : xs[i]? = some b ↔ ∃ h : i < xs.size, xs[i] = b := Array.getElem?_eq_some_iff
theorem apB {α : Type u} {l : List α} {i : Nat} (h : i < l.length) : l[i]? = some l[i] := List.getElem?_eq_getElem h
theorem apC {α : Type u} {i : Nat} {l : List α} (h : i < l.length) : l.take (i + 1) = l.take i ++ [l[i]] := List.take_succ_eq_append_getElem h
theorem apD {p : Prop} [inst : Decidable p] (h : ¬p) : decide p = false := decide_eq_false h
theorem apE {α : Type u} (y : α) {a : α} {l : List α} (h : a ∈ l) : a ∈ y :: l := List.mem_cons_of_mem y h
namespace Go.Bw
open Go Go.RowKit
abbrev FA(ro:Option Nat):Fence:={fn:=λ_ =>True,depth:=none,alive:=false,round:=ro}
abbrev gC:=List (Nat×Value)
def lk:gC->Nat->Option Value
 |[],_ =>none
 |(k,v)::r,d=>bif Nat.beq k d then some v else lk r d
def ev(F:gC):Operand->Option Value
 | .tmp t=>lk F t
 | .const v=>some v
 | .global g=>some (.pointer (some ⟨g,0,none⟩))
 | .func f=>some (.func (.func f) #[] #[])
def Bx(F:gC)(t:Array Value):Prop:=∀d v,lk F d=some v->t[d]? =some v
theorem bB{F:gC}{a:Act}(h:Bx F a.tmps){x:Operand}{v:Value}(hx:ev F x=some v):a.eval x=v:=by
 cases x with
 |tmp t=>have:=h t v hx;simp[Act.eval,this]
 |const u=>exact Option.some.inj hx
 |global g=>exact Option.some.inj hx
 |func f=>exact Option.some.inj hx
def Jp(F:gC):List Operand->Option (List Value)
 |[]=>some []
 |x::r=>match ev F x,Jp F r with
  |some v,some vs=>some (v::vs)
  |_,_ =>none
theorem PJ{F:gC}{a:Act}(h:Bx F a.tmps):∀{l:List Operand} {vs:List Value},Jp F l=some vs->l.map a.eval=vs:=by
 intro l
 induction l with
 |nil=>intro vs hl;exact(Option.some.inj hl)
 |cons x l ih=>
  intro vs hl;simp only[Jp]at hl;split at hl
  ·rename_i v us h1 h2
   rw[← Option.some.inj hl];simp[bB h h1,ih h2]
  ·cases hl
theorem xO{d k:Nat}(e:¬d=k):Nat.beq d k=false:=by
 cases hb:Nat.beq d k with
 |false=>rfl
 |true=>exact absurd (apu hb) e
def pt(d:Option Tmp)(v:Value)(F:gC):gC:=match d with
 |some d=>(d,v)::F
 |none=>F
def dOk(N:Nat)(d:Option Tmp):Bool:=match d with
 |some d=>Nat.blt d N
 |none=>true
theorem Bx.put{F:gC}{a:Act}{d:Option Tmp}{v:Value}{N:Nat}(h:Bx F a.tmps)(hs:a.tmps.size=N)(hd:dOk N d=true):
  Bx (pt d v F) (a.put d v).tmps:=by
 cases d with
 |none=>exact h
 |some d=>
  intro k u hk;simp only[pt,lk]at hk;have hd':d<a.tmps.size:=by simpa[dOk,hs,Nat.blt_eq]using hd
  by_cases e:d=k
  ·subst e
   simp at hk;subst hk;simp[Act.put,hd']
  ·have:Nat.beq d k=false:=xO e
   rw[this]at hk;simp only[cond_false]at hk;simp only[Act.put,Array.getElem?_setIfInBounds,apt e];exact h k u hk
theorem Bx.sub{F F':gC}{t:Array Value}(h:Bx F t)(hs:∀d v,lk F' d=some v->lk F d=some v):Bx F' t:=λd v hk=>h d v (hs d v hk)
def Sub:gC->gC->Prop
 |[],_ =>True
 |p::r,F=>lk F p.1=some p.2/\Sub r F
structure bI(bs:List Nat)(w0 w:World):Prop where
 os:w.os=w0.os
 tape:w.tape=w0.tape
 output:w.output=w0.output
 size:w0.heap.size<=w.heap.size
 block:∀k,k<w0.heap.size->k∉bs->w.heap[k]? =w0.heap[k]?
theorem bI.refl(bs:List Nat)(w:World):bI bs w w:=⟨rfl,rfl,rfl,Nat.le_refl _,λ_ _ _ =>rfl⟩
theorem bI.trans{bs bs':List Nat}{w0 w w':World}(h:bI bs w0 w)(k:bI bs' w w')(hb:∀b∈bs',b∈bs\/w0.heap.size<=b):bI bs w0 w':=
 ⟨k.os.trans h.os,k.tape.trans h.tape,k.output.trans h.output,Nat.le_trans h.size k.size,
  λi hi hn=>(k.block i (Nat.lt_of_lt_of_le hi h.size) (λhm=>by
   rcases hb i hm with h1|h1
   ·exact hn h1
   ·omega)).trans (h.block i hi hn)⟩
theorem bI.ext{bs:List Nat}{w0 w w':World}(h:bI bs w0 w)(k:bI [] w w'):bI bs w0 w':=h.trans k (λ_ hb=>by cases hb)
theorem bI.Cd{w w':World}{row:Option Nat}(h:w.grownBy w' row):bI row.toList w w':=
 ⟨h.os,h.tape,h.output,h.size,λk hk hn=>h.block k hk (λe=>hn (by rw[← e];simp))⟩
theorem bI.alloc(w:World)(o:Obj):bI [] w (w.alloc o):=⟨rfl,rfl,rfl,by simp,λk hk _ =>Below.heap_alloc w o k hk⟩
theorem bI.drawn{w0 w:World}{bs:List Nat}(h:bI bs w0 w)(n:Nat):bI bs w0 {w with drawn:=n}:=⟨h.os,h.tape,h.output,h.size,h.block⟩
def Ro(w:World)(v:Value)(sz n:Nat)(xs:List Value):Prop:=xs.length=n*sz/\(((∃a cp,v= .slice a 0 cp)/\n=0)\/∃g off cap,v= .slice (some ⟨g,off,none⟩) n cap/\g<w.heap.size/\n<=cap/\∀(j:Nat) u,xs[j]? =some u->w.cell? ⟨g,off+j,none⟩=some u)
inductive aO where
 |cells (b:Nat) (t:TypeId) (cs:List Value)
 |row (v:Value) (e:TypeId) (sz:Nat) (n:Nat) (xs:List Value)
 |obj (b:Nat) (o:Obj)
 |sl (v:Value) (sz n:Nat) (xs:List Value)
 |ext (bs:List Nat) (J:World->Prop)
def aO.eW:aO->List Nat
 | .cells b _ _ =>[b]
 | .row v _ _ _ _ =>v.ownBlock.toList
 | .obj b _ =>[b]
 | .sl v _ _ _ =>v.ownBlock.toList
 | .ext bs _ =>bs
def aO.holds(w:World):aO->Prop
 | .cells b t cs=>w.heap[b]? =some (.cells cs.toArray t (0,0))
 | .row v e sz n xs=>w.ownsRow 0 e sz v n xs
 | .obj b o=>w.heap[b]? =some o
 | .sl v sz n xs=>Ro w v sz n xs
 | .ext bs J=>∀w':World,w.heap.size<=w'.heap.size->(∀b∈bs,w'.heap[b]? =w.heap[b]?)->J w'
def aO.apart(r s:aO):Prop:=∀b,b∈r.eW->b∉s.eW
theorem aO.xQ{r s:aO}(h:r.apart s):s.apart r:=λb hs hr=>h b hr hs
theorem OY{w w':World}{base:Nat}{e:TypeId}{sz:Nat}{v:Value}{n:Nat}{xs:List Value}(h:w.ownsRow base e sz v n xs)
  (hb:∀b,v.ownBlock=some b->w'.heap[b]? =w.heap[b]?):w'.ownsRow base e sz v n xs:=by
 refine⟨h.1,?_⟩;rcases h.2 with hn|⟨g,cap,cur,rfl,hbg,Ql,rest⟩
 ·exact .inl hn
 ·exact .inr ⟨g,cap,cur,rfl,hbg,(hb g rfl).trans Ql,rest⟩
theorem Ro.cW{w w':World}{v:Value}{sz n:Nat}{xs:List Value}(h:Ro w v sz n xs)(hs:w.heap.size<=w'.heap.size)(hb:∀b,v.ownBlock=some b->w'.heap[b]? =w.heap[b]?):Ro w' v sz n xs:=by
 refine⟨h.1,?_⟩;rcases h.2 with h0|⟨g,off,cap,rfl,h2,h3,h4⟩
 ·exact .inl h0
 ·exact .inr ⟨g,off,cap,rfl,Nat.lt_of_lt_of_le h2 hs,h3,λj u hu=>(World.cell?_of_block (hb g rfl)).trans (h4 j u hu)⟩
theorem aO.oy{w w':World}{r:aO}(h:r.holds w)(hs:w.heap.size<=w'.heap.size)(hb:∀b,b∈r.eW->w'.heap[b]? =w.heap[b]?):r.holds w':=by
 cases r with
 |cells b t cs=>exact(hb b (by simp[aO.eW])).trans h
 |row v e sz n xs=>exact OY h λb hv=>hb b (by simp[aO.eW,hv])
 |obj b o=>exact(hb b (by simp[aO.eW])).trans h
 |sl v sz n xs=>exact Ro.cW h hs λb hv=>hb b (by simp[aO.eW,hv])
 |ext bs J=>exactλw2 h1 h2=>h w2 (Nat.le_trans hs h1) λb hm=>(h2 b hm).trans (hb b hm)
structure cI(bs:List Nat)(n0:Nat)(H:List aO)(w:World):Prop where
 holds:∀r∈H,r.holds w
 own:∀r∈H,∀b,b∈r.eW->(b∈bs\/n0<=b)/\b<w.heap.size
 apart:H.Pairwise aO.apart
theorem cI.nil(bs:List Nat)(n0:Nat)(w:World):cI bs n0 [] w:=⟨by simp,by simp, .nil⟩
theorem cI.cW{bs bs':List Nat}{n0 n0':Nat}{H:List aO}{w w':World}(h:cI bs n0 H w)(hs:w.heap.size<=w'.heap.size)
  (hb:∀r∈H,∀b,b∈r.eW->w'.heap[b]? =w.heap[b]?)(hw:∀b,(b∈bs\/n0<=b)->b<w.heap.size->(b∈bs'\/n0'<=b)):cI bs' n0' H w':=
 ⟨λr hr=>aO.oy (h.holds r hr) hs (hb r hr),λr hr b hb'=>let⟨o,l⟩:=h.own r hr b hb';⟨hw b o l,Nat.lt_of_lt_of_le l hs⟩,h.apart⟩
theorem cI.ext{bs:List Nat}{n0:Nat}{H:List aO}{w w':World}(h:cI bs n0 H w)(hs:bI [] w w'):cI bs n0 H w':=
 h.cW hs.size (λr hr b hb=>hs.block b (h.own r hr b hb).2 (by simp)) (λ_ o _ =>o)
theorem cI.cons{bs:List Nat}{n0:Nat}{H:List aO}{w:World}{r:aO}(h:cI bs n0 H w)(hr:r.holds w)
  (ho:∀b,b∈r.eW->(b∈bs\/n0<=b)/\b<w.heap.size)(ha:∀s∈H,r.apart s):cI bs n0 (r::H) w:=
 ⟨λs hs=>by cases hs with|head=>exact hr|tail _ hm=>exact h.holds s hm,
  λs hs=>by cases hs with|head=>exact ho|tail _ hm=>exact h.own s hm,
  .cons ha h.apart⟩
theorem cI.fresh{bs:List Nat}{n0:Nat}{H:List aO}{w w':World}{r:aO}(h:cI bs n0 H w)(hs:bI [] w w')(hr:r.holds w')
  (hn:n0<=w.heap.size)(ho:∀b,b∈r.eW->w.heap.size<=b/\b<w'.heap.size):cI bs n0 (r::H) w':=
 (h.ext hs).cons hr (λb hb=>⟨.inr (Nat.le_trans hn (ho b hb).1),(ho b hb).2⟩)
  (λs hm b hb VJ=>by have:=(h.own s hm b VJ).2;have:=(ho b hb).1;omega)
theorem cI.sub{bs:List Nat}{n0:Nat}{H H':List aO}{w:World}(h:cI bs n0 H w)(hs:H'.Sublist H):cI bs n0 H' w:=
 ⟨λr hr=>h.holds r (hs.subset hr),λr hr=>h.own r (hs.subset hr),h.apart.sublist hs⟩
theorem cI.qt{bs:List Nat}{n0:Nat}{H H':List aO}{w:World}(h:cI bs n0 H w)(hs:H.Perm H'):cI bs n0 H' w:=
 ⟨λr hr=>h.holds r (hs.mem_iff.2 hr),λr hr=>h.own r (hs.mem_iff.2 hr),(hs.pairwise_iff (λhrs=>aO.xQ hrs)).1 h.apart⟩
theorem sZ{H:List aO}(h:H.Pairwise aO.apart){j k:Nat}{r s:aO}(hj:H[j]? =some r)(hk:H[k]? =some s)(hne:j≠k):r.apart s:=by
 obtain⟨lj,rfl⟩:=List.getElem?_eq_some_iff.1 hj;obtain⟨lk,rfl⟩:=List.getElem?_eq_some_iff.1 hk;rcases Nat.lt_or_ge j k with hlt|hge
 ·exact List.pairwise_iff_getElem.1 h j k lj lk hlt
 ·exact aO.xQ (List.pairwise_iff_getElem.1 h k j lk lj (by omega))
theorem cI.set{bs:List Nat}{n0:Nat}{H:List aO}{w w':World}(h:cI bs n0 H w){k:Nat}{r r':aO}(hk:H[k]? =some r)
  (hs:w.heap.size<=w'.heap.size)(hb:∀j,j<w.heap.size->j∉r.eW->w'.heap[j]? =w.heap[j]?)(hr:r'.holds w')(hn:n0<=w.heap.size)
  (ho:∀b,b∈r'.eW->(b∈r.eW\/w.heap.size<=b)/\b<w'.heap.size):cI bs n0 (H.set k r') w':=by
 have hmem:r∈H:=List.mem_of_getElem? hk;refine⟨λs hm=>?_,λs hm b qT=>?_,?_⟩
 ·obtain⟨j,hj⟩:=List.mem_iff_getElem?.1 hm
  rw[List.getElem?_set]at hj;by_cases e:k=j
  ·subst e
   have hl:=(List.getElem?_eq_some_iff.1 hk).1;simp[hl]at hj;subst hj;exact hr
  ·simp[e]at hj
   refine aO.oy (h.holds s (List.mem_of_getElem? hj)) hs (λb hbb=>hb b (h.own s (List.mem_of_getElem? hj) b hbb).2 (λhrb=>?_));exact sZ h.apart hk hj e b hrb hbb
 ·obtain⟨j,hj⟩:=List.mem_iff_getElem?.1 hm
  rw[List.getElem?_set]at hj;by_cases e:k=j
  ·subst e
   have hl:=(List.getElem?_eq_some_iff.1 hk).1;simp[hl]at hj;subst hj;obtain⟨h1,h2⟩:=ho b qT;refine⟨?_,h2⟩;rcases h1 with h1|h1
   ·exact(h.own r hmem b h1).1
   ·exact .inr (Nat.le_trans hn h1)
  ·simp[e]at hj
   obtain⟨h1,h2⟩:=h.own s (List.mem_of_getElem? hj) b qT;exact⟨h1,Nat.lt_of_lt_of_le h2 hs⟩
 ·rw[List.pairwise_iff_getElem]
  intro i j hi hj hij;have hl:=(List.getElem?_eq_some_iff.1 hk).1;have key:∀j s,H[j]? =some s->k≠j->r'.apart s:=λj s hjs hne b hrb VJ=>by
   have h2:=(h.own s (List.mem_of_getElem? hjs) b VJ).2;rcases(ho b hrb).1 with h1|h1
   ·exact sZ h.apart hk hjs hne b h1 VJ
   ·omega
  rw[List.length_set]at hi hj;rw[List.getElem_set,List.getElem_set];by_cases e1:k=i
  ·rw[aps e1,apt (by omega)]
   exact key j _ (apB hj) (by omega)
  ·rw[apt e1]
   by_cases e2:k=j
   ·rw[aps e2]
    exact aO.xQ (key i _ (apB hi) (by omega))
   ·rw[apt e2]
    exact List.pairwise_iff_getElem.1 h.apart i j hi hj hij
theorem cI.MY{bs:List Nat}{n0:Nat}{H:List aO}{w:World}(h:cI bs n0 H w){k:Nat}{r r':aO}(hk:H[k]? =some r)(hr:∀w:World,r.holds w->r'.holds w)(hb:∀b,b∈r'.eW->b∈r.eW):cI bs n0 (H.set k r') w:=by
 have hmem:r∈H:=List.mem_of_getElem? hk;have hl:=(List.getElem?_eq_some_iff.1 hk).1;have get:∀s∈H.set k r',(s=r'\/∃j,j≠k/\H[j]? =some s):=λs hs=>by
  obtain⟨j,hj⟩:=List.mem_iff_getElem?.1 hs;rw[List.getElem?_set]at hj;by_cases e:k=j
  ·subst e;simp[hl]at hj;exact .inl hj.symm
  ·simp[e]at hj;exact .inr ⟨j,Ne.symm e,hj⟩
 refine⟨λs hs=>?_,λs hs b qT=>?_,?_⟩
 ·rcases get s hs with rfl|⟨j,_,hj⟩
  ·exact hr w (h.holds r hmem)
  ·exact h.holds s (List.mem_of_getElem? hj)
 ·rcases get s hs with rfl|⟨j,_,hj⟩
  ·exact h.own r hmem b (hb b qT)
  ·exact h.own s (List.mem_of_getElem? hj) b qT
 ·rw[List.pairwise_iff_getElem]
  intro i j hi hj hij;rw[List.length_set]at hi hj;rw[List.getElem_set,List.getElem_set];by_cases e1:k=i
  ·rw[aps e1,apt (by omega)]
   exactλb hb1 MD=>sZ h.apart hk (apB hj) (by omega) b (hb b hb1) MD
  ·rw[apt e1]
   by_cases e2:k=j
   ·rw[aps e2]
    exactλb hb1 MD=>sZ h.apart (apB hi) hk (by omega) b hb1 (hb b MD)
   ·rw[apt e2]
    exact List.pairwise_iff_getElem.1 h.apart i j hi hj hij
def pick(H:List aO):List Nat->Option (List aO)
 |[]=>some []
 |k::ks=>match H[k]?,pick H ks with
  |some r,some l=>some (r::l)
  |_,_ =>none
theorem F9{H:List aO}:∀{ks:List Nat} {l:List aO},pick H ks=some l->∀(j:Nat) (r:aO),l[j]? =some r->∃k:Nat,ks[j]? =some k/\H[k]? =some r:=by
 intro ks
 induction ks with
 |nil=>intro l h j r hj;simp[pick]at h;subst h;simp at hj
 |cons k ks ih=>
  intro l h j r hj;simp only[pick]at h;split at h
  ·rename_i r0 l0 h1 h2
   simp at h;subst h;cases j with
   |zero=>simp at hj;subst hj;exact⟨k,rfl,h1⟩
   |succ j=>obtain⟨k',e1,e2⟩:=ih h2 j r (by simpa using hj);exact⟨k',by simpa using e1,e2⟩
  ·cases h
theorem cI.pick{bs:List Nat}{n0:Nat}{H l:List aO}{w:World}(h:cI bs n0 H w){ks:List Nat}(hp:pick H ks=some l)(hn:ks.Nodup):cI bs n0 l w:=by
 refine⟨λr hr=>?_,λr hr=>?_,?_⟩
 ·obtain⟨j,hj⟩:=List.mem_iff_getElem?.1 hr
  obtain⟨k,_,e⟩:=F9 hp j r hj;exact h.holds r (List.mem_of_getElem? e)
 ·obtain⟨j,hj⟩:=List.mem_iff_getElem?.1 hr
  obtain⟨k,_,e⟩:=F9 hp j r hj;exact h.own r (List.mem_of_getElem? e)
 ·rw[List.pairwise_iff_getElem]
  intro i j hi hj hij;obtain⟨k1,e1,f1⟩:=F9 hp i _ (apB hi);obtain⟨k2,e2,f2⟩:=F9 hp j _ (apB hj);refine sZ h.apart f1 f2 (λe=>?_);subst e;obtain⟨l1,q1⟩:=List.getElem?_eq_some_iff.1 e1;obtain⟨l2,q2⟩:=List.getElem?_eq_some_iff.1 e2;exact absurd (q1.trans q2.symm) (by
   intro hq;exact(List.pairwise_iff_getElem.1 hn i j l1 l2 hij) hq)
structure Cx where
 ro:Option Nat
 w0:World
 bs:List Nat
structure St(N:Nat)(c:Cx)(D:List Deferred)(F:gC)(H:List aO)(a:Act)(w:World):Prop where
 tm:a.tmps.size=N
 fr:Bx F a.tmps
 df:a.defers=D
 si:bI c.bs c.w0 w
 hp:cI c.bs c.w0.heap.size H w
theorem St.sub{N:Nat}{c:Cx}{D:List Deferred}{F F':gC}{H:List aO}{a:Act}{w:World}(h:St N c D F H a w)(hs:∀d v,lk F' d=some v->lk F d=some v):St N c D F' H a w:=
 ⟨h.tm,h.fr.sub hs,h.df,h.si,h.hp⟩
theorem St.put{N:Nat}{c:Cx}{D:List Deferred}{F:gC}{H H':List aO}{a:Act}{w w':World}{d:Option Tmp}{v:Value}(h:St N c D F H a w)(hd:dOk N d=true)
  (hs:bI c.bs c.w0 w')(hp:cI c.bs c.w0.heap.size H' w'):St N c D (pt d v F) H' (a.put d v) w':=by
 refine⟨?_,h.fr.put h.tm hd,?_,hs,hp⟩
 ·cases d<;>simp[Act.put,h.tm]
 ·cases d<;>simp[Act.put,h.df]
def WP(P:Program)(N:Nat)(c:Cx)(D:List Deferred)(code:Code)(Q:Exit->Act->World->Prop)(F:gC)(H:List aO):Prop:=∀a w,St N c D F H a w->code.wpIn (FA c.ro) 0 P Q a w
def WQ(N:Nat)(c:Cx)(D:List Deferred)(Q:Exit->Act->World->Prop)(e:Exit)(F:gC)(H:List aO):Prop:=∀a w,St N c D F H a w->Q e a w
def WL(P:Program)(N:Nat)(c:Cx)(D:List Deferred)(ops:Array Oper)(Q:Exit->Act->World->Prop)(l:List Oper)(F:gC)(H:List aO):Prop:=∀a w,St N c D F H a w->wpListIn (FA c.ro) 0 P ops Q l a w
def VS(P:Program)(N:Nat)(c:Cx)(o:Oper)(F:gC)(H:List aO)(v:Value):Prop:=∀D a w next Q,St N c D F H a w->(∀w',bI [] w w'->next (a.put o.dst v) w')->o.wpIn (FA c.ro) 0 P a w next Q
def RX{α:Type}(P:Program)(N:Nat)(c:Cx)(o:Oper)(F:gC)(H:List aO)(p:α->Prop)(fv:α->Value)(fH:α->List aO):Prop:=∀D a w next Q,St N c D F H a w->(∀x w',p x->bI c.bs c.w0 w'->cI c.bs c.w0.heap.size (fH x) w'->next (a.put o.dst (fv x)) w')->o.wpIn (FA c.ro) 0 P a w next Q
theorem ic{P:Program}{c:Cx}{o:Oper}{a:Act}{w w':World}{v:Value}{next:Act->World->Prop}{Q:Exit->Act->World->Prop}(hd:∀cc,o.op≠ .defer cc)
  (hr:(execOp a.eval o).run P w= .ok (.value v) w')(hk:next (a.put o.dst v) w'):o.wpIn (FA c.ro) 0 P a w next Q:=by
 refine⟨λ_ _ =>trivial,?_⟩;have:Oper.semAt (FA c.ro).round a.eval o=execOp a.eval o:=Oper.semAt_eq _ _ _ hd;rw[this,hr];exact hk
theorem tO{P:Program}{c:Cx}{o:Oper}{a:Act}{w w':World}{next:Act->World->Prop}{Q:Exit->Act->World->Prop}(hd:∀cc,o.op≠ .defer cc)
  (hr:(execOp a.eval o).run P w= .ok .skip w')(hk:next (a.put o.dst undef) w'):o.wpIn (FA c.ro) 0 P a w next Q:=by
 refine⟨λ_ _ =>trivial,?_⟩;have:Oper.semAt (FA c.ro).round a.eval o=execOp a.eval o:=Oper.semAt_eq _ _ _ hd;rw[this,hr];exact hk
theorem bp{P:Program}{N:Nat}{c:Cx}{o:Oper}{F:gC}{H:List aO}{v:Value}(hd:∀cc,o.op≠ .defer cc)
  (h:∀(a:Act) (w:World),Bx F a.tmps->bI c.bs c.w0 w->cI c.bs c.w0.heap.size H w->(execOp a.eval o).run P w= .ok (.value v) w):VS P N c o F H v:=
 λ_ a w _ _ hst hk=>ic hd (h a w hst.fr hst.si hst.hp) (hk w (bI.refl _ _))
section lists
variable {P:Program} {N:Nat} {c:Cx} {D:List Deferred} {ops:Array Oper} {Q:Exit->Act->World->Prop} {o:Oper} {rest:List Oper} {F:gC} {H:List aO}
 {d:Tmp} {op:Op} {ty:TypeId} {ps:String} {af:Array Edge} {g:Option (Nat×Bool)}
theorem AL(h:WQ N c D Q .normal F H):WL P N c D ops Q [] F H:=λa w hst=>h a w hst
theorem cO{v:Value}(hd:Nat.blt d N=true)(hv:VS P N c ⟨some d,op,ty,ps,af,none⟩ F H v)(h:WL P N c D ops Q rest ((d,v)::F) H):WL P N c D ops Q (⟨some d,op,ty,ps,af,none⟩::rest) F H:=
 λa w hst=>wpListIn_plain rfl λK hK=>hv D a w K Q hst λ_ hw=>hK _ _ (h _ _ (hst.put (d:=some d) hd (hst.si.ext hw) (hst.hp.ext hw)))
theorem zA{α:Type}{p:α->Prop}{fv:α->Value}{fH:α->List aO}(hd:Nat.blt d N=true)(hv:RX P N c ⟨some d,op,ty,ps,af,none⟩ F H p fv fH)
  (h:∀x,p x->WL P N c D ops Q rest ((d,fv x)::F) (fH x)):WL P N c D ops Q (⟨some d,op,ty,ps,af,none⟩::rest) F H:=
 λa w hst=>wpListIn_plain rfl λK hK=>hv D a w K Q hst λx _ hp hs hh=>hK _ _ (h x hp _ _ (hst.put (d:=some d) hd hs hh))
theorem Jv{α:Type}{p:α->Prop}{fv:α->Value}{fH:α->List aO}(hv:RX P N c ⟨none,op,ty,ps,af,none⟩ F H p fv fH)
  (h:∀x,p x->WL P N c D ops Q rest F (fH x)):WL P N c D ops Q (⟨none,op,ty,ps,af,none⟩::rest) F H:=
 λa w hst=>wpListIn_plain rfl λK hK=>hv D a w K Q hst λx _ hp hs hh=>hK _ _ (h x hp _ _ (hst.put (d:=none) rfl hs hh))
def gd(ops:Array Oper)(F:gC):Option (Nat×Bool)->Option Bool
 |none=>none
 |some (j,want)=>match((ops[j]?).bind (·.dst)).bind (lk F)with
  |some (.bool b)=>some (b==want)
  |_ =>none
def Gd(ops:Array Oper)(F:gC)(g:Option (Nat×Bool))(B:Bool):Prop:=∀(o:Oper) (a:Act),o.guard=g->Bx F a.tmps->Region.wanted o (yielded ops a.tmps)=B
theorem SG{a:Act}{j:Nat}{k:Tmp}{v:Value}(hf:Bx F a.tmps)(hd:(ops[j]?).bind (·.dst)=some k)(hl:lk F k=some v):yielded ops a.tmps j=match v with| .bool b=>some b|_ =>none:=by
 have h1:=hf _ _ hl;cases ho:ops[j]? with
 |none=>simp[ho]at hd
 |some oj=>simp[ho]at hd;cases v<;>simp[yielded,ho,hd,h1]
theorem acW{j:Nat}{want b:Bool}{k:Tmp}(hd:(ops[j]?).bind (·.dst)=some k)(hl:lk F k=some (.bool b)):Gd ops F (some (j,want)) (b==want):=λo a hg hf=>by simp only[Region.wanted,hg,SG hf hd hl];cases b<;>cases want<;>rfl
theorem P0(hg:Gd ops F g false)(hd:Nat.blt d N=true)(h:WL P N c D ops Q rest ((d,undef)::F) H):WL P N c D ops Q (⟨some d,op,ty,ps,af,g⟩::rest) F H:=by intro a w hst;simp only[wpListIn,hg ⟨some d,op,ty,ps,af,g⟩ a rfl hst.fr];exact⟨λ_ _ =>trivial,h _ _ (hst.put (d:=some d) hd hst.si hst.hp)⟩
theorem aoX{b:Bool}{v:Value}(hg:Gd ops F g b)(hd:Nat.blt d N=true)(hv:b=true->VS P N c ⟨some d,op,ty,ps,af,g⟩ F H v)
  (h:WL P N c D ops Q rest ((d,bif b then v else undef)::F) H):WL P N c D ops Q (⟨some d,op,ty,ps,af,g⟩::rest) F H:=by
 cases b with
 |false=>exact P0 hg hd h
 |true=>intro a w hst;simp only[wpListIn,hg ⟨some d,op,ty,ps,af,g⟩ a rfl hst.fr,if_true];exact hv rfl D a w _ Q hst λw' hw=>h _ _ (hst.put (d:=some d) hd (hst.si.ext hw) (hst.hp.ext hw))
theorem PA{x:Operand}{t:Bool}{v:Value}(h:ev F x=some (bif t then v else undef))(ht:t=true):ev F x=some v:=by subst ht;exact h
theorem ai8{l:List Oper}{H':List aO}(hH:∀bs n0 w,cI bs n0 H w->cI bs n0 H' w)(h:WL P N c D ops Q l F H'):WL P N c D ops Q l F H:=λa w hst=>h a w ⟨hst.tm,hst.fr,hst.df,hst.si,hH _ _ _ hst.hp⟩
end lists
section code
variable {P:Program} {N:Nat} {c:Cx} {D:List Deferred} {Q:Exit->Act->World->Prop} {F:gC} {H:List aO}
theorem AK{x y:Code}(h:WP P N c D x (Exit.then (y.wpIn (FA c.ro) 0 P Q) Q) F H):WP P N c D (.seq x y) Q F H:=λa w hst=>wpIn_seq (h a w hst)
theorem acr{id:Nat}{x:Code}(h:WP P N c D x (Exit.inBlock id Q) F H):WP P N c D (.block id x) Q F H:=λa w hst=>wpIn_block (h a w hst)
theorem Kx(h:WQ N c D Q .normal F H):WP P N c D .skip Q F H:=λa w hst=>wpIn_skip (h a w hst)
theorem acp{l:Nat}(h:WQ N c D Q .normal F H):WP P N c D (.label l) Q F H:=λa w hst=>wpIn_label (h a w hst)
theorem ai5(h:WQ N c D Q .ret F H):WP P N c D .ret Q F H:=λa w hst=>wpIn_ret (h a w hst)
theorem afe{id:Nat}(h:WQ N c D Q (.exit id) F H):WP P N c D (.exit id) Q F H:=λa w hst=>wpIn_exit (h a w hst)
theorem rW{id:Nat}{l:List Oper}(h:WL P N c D l.toArray Q l F H):WP P N c D (.region id l.toArray false) Q F H:=λa w hst=>wpIn_region_lit (h a w hst)
theorem afc{x:Operand}{y z:Code}(hc:ev F x=some (.bool true))(h:WP P N c D y Q F H):WP P N c D (.cond x y z) Q F H:=
 λa w hst=>wpIn_cond_true (bB hst.fr hc) (h a w hst)
theorem acq{x:Operand}{y z:Code}(hc:ev F x=some (.bool false))(h:WP P N c D z Q F H):WP P N c D (.cond x y z) Q F H:=
 λa w hst=>wpIn_cond_false (bB hst.fr hc) (h a w hst)
theorem ai6{x:Code}{H':List aO}(hH:∀bs n0 w,cI bs n0 H w->cI bs n0 H' w)(h:WP P N c D x Q F H'):WP P N c D x Q F H:=λa w hst=>h a w ⟨hst.tm,hst.fr,hst.df,hst.si,hH _ _ _ hst.hp⟩
theorem ach{e:Exit}{H':List aO}(hH:∀bs n0 w,cI bs n0 H w->cI bs n0 H' w)(h:WQ N c D Q e F H'):WQ N c D Q e F H:=λa w hst=>h a w ⟨hst.tm,hst.fr,hst.df,hst.si,hH _ _ _ hst.hp⟩
class BP(t:Bool)(p:outParam Prop):Prop where
 iff:t=true↔p
theorem wF{y:Code}(h:WP P N c D y Q F H):WQ N c D (Exit.then (y.wpIn (FA c.ro) 0 P Q) Q) .normal F H:=h
theorem Ju{K:Act->World->Prop}(h:WQ N c D Q .ret F H):WQ N c D (Exit.then K Q) .ret F H:=h
theorem GK{K:Act->World->Prop}{id:Nat}(h:WQ N c D Q (.exit id) F H):WQ N c D (Exit.then K Q) (.exit id) F H:=h
theorem acm{id:Nat}(h:WQ N c D Q .normal F H):WQ N c D (Exit.inBlock id Q) .normal F H:=h
theorem PY{id:Nat}(h:WQ N c D Q .ret F H):WQ N c D (Exit.inBlock id Q) .ret F H:=h
theorem M7{id:Nat}(h:WQ N c D Q .normal F H):WQ N c D (Exit.inBlock id Q) (.exit id) F H:=λa w hst=>by simpa[Exit.inBlock]using h a w hst
theorem M6{id k:Nat}(hne:Nat.beq k id=false)(h:WQ N c D Q (.exit k) F H):WQ N c D (Exit.inBlock id Q) (.exit k) F H:=λa w hst=>by
 have:¬k=id:=λe=>by rw[e,Nat.beq_refl]at hne;cases hne
 simpa[Exit.inBlock,this]using h a w hst
theorem ai7{α:Type}{x y:Code}(I:α->gC)(J:α->List aO)(p:α->Prop)
  (h1:WP P N c D x (Exit.then (λa w=>∃i,p i/\St N c D (I i) (J i) a w) Q) F H)(h2:∀i,p i->WP P N c D y Q (I i) (J i)):WP P N c D (.seq x y) Q F H:=
 λ_ _ hst=>wpIn_seq (wpIn_mono (h1 _ _ hst) λe a' w' hq=>by
  cases e with
  |normal=>obtain⟨i,hp,hs⟩:=hq;exact h2 i hp a' w' hs
  |_ =>exact hq)
theorem aco{α:Type}{x:Code}(I:α->gC)(J:α->List aO)(p:α->Prop)(μ:α->Nat)(i0:α)(XC:p i0)
  (hbody:∀i,p i->WP P N c D x (Exit.then (λa w=>∃i',μ i'<μ i/\p i'/\St N c D (I i') (J i') a w) Q) (I i) (J i)):WP P N c D (.loop x) Q (I i0) (J i0):=by
 intro a w hst b k cs hro hb hr;have key:∀j i,μ i=j->p i->∀a w,St N c D (I i) (J i) a w->
   ∃e a' w',Q e a' w'/\ArrivesIn (Machine.fenced P (FA c.ro)) P (lone (b.atR a (.code x:: .inLoop x::k)) cs w) b k cs e a' w':=by
  intro j
  induction j using Nat.strongRecOn with
  |_ j ih=>
   intro i hi hp a w hst;obtain⟨e,a₁,w₁,hq,Cn⟩:=hbody i hp a w hst b (.inLoop x::k) cs hro hb hr;cases e with
   |normal=>obtain⟨i',hlt,hp',ahV⟩:=hq;obtain⟨e₂,a₂,w₂,hq₂,abf⟩:=ih (μ i') (hi▸hlt) i' rfl hp' a₁ w₁ ahV;exact⟨e₂,a₂,w₂,hq₂, .of_steps (StepsIn.trans Cn (.one (fenced_calm hb hr rfl) stepR_inLoop)) abf⟩
   |exit id=>exact⟨_,a₁,w₁,hq, .pass (x:= .inLoop x) rfl (λ_ _ => .inl (by simp)) Cn⟩
   |goto l=>exact⟨_,a₁,w₁,hq, .pass (x:= .inLoop x) rfl (λ_ _ => .inl (by simp)) Cn⟩
   |ret=>exact⟨_,a₁,w₁,hq, .pass (x:= .inLoop x) rfl (λ_ _ => .inl (by simp)) Cn⟩
   |panic ch=>exact⟨_,a₁,w₁,hq, .pass (x:= .inLoop x) rfl (λ_ _ => .inl (by simp)) Cn⟩
   |outgrown=>exact⟨_,a₁,w₁,hq, .pass (x:= .inLoop x) rfl (λ_ _ => .inl (by simp)) Cn⟩
 obtain⟨e,a',w',hq,Cn⟩:=key _ i0 rfl XC a w hst;exact⟨e,a',w',hq, .of_steps (.one (fenced_calm hb hr rfl) stepR_loop) Cn⟩
def uO(F:gC):List Nat->gC
 |[]=>[]
 |k::r=>match lk F k with
  |some v=>(k,v)::uO F r
  |none=>uO F r
theorem Pj{F:gC}:∀{ks:List Nat} {d:Nat} {v:Value},lk (uO F ks) d=some v->d∈ks/\lk F d=some v:=by
 intro ks
 induction ks with
 |nil=>intro d v h;simp[uO,lk]at h
 |cons k r ih=>
  intro d v h;simp only[uO]at h;split at h
  ·rename_i u hu
   simp only[lk]at h;by_cases e:k=d
   ·subst e;simp at h;subst h;exact⟨by simp,hu⟩
   ·rw[xO e]at h;obtain⟨h1,h2⟩:=ih h;exact⟨by simp[h1],h2⟩
  ·obtain⟨h1,h2⟩:=ih h;exact⟨by simp[h1],h2⟩
inductive Ni(F:gC):List Nat->gC->Prop where
 |nil:Ni F [] []
 |cons {k:Nat} {v:Value} {ks:List Nat} {K:gC} (h:lk F k=some v) (r:Ni F ks K):Ni F (k::ks) ((k,v)::K)
theorem Ni.lk{F:gC}{ks:List Nat}{K:gC}(h:Ni F ks K):∀d v,lk K d=some v->Bw.lk F d=some v:=by
 induction h with
 |nil=>intro d v hd;simp[Bw.lk]at hd
 |@cons k u ks K h r ih=>
  intro d v hd;by_cases e:k=d
  ·subst e;simp[Bw.lk]at hd;subst hd;exact h
  ·simp only[Bw.lk,xO e,cond_false]at hd;exact ih d v hd
theorem Pk{I K G:gC}(h1:Sub I G)(h2:∀d v,lk K d=some v->lk G d=some v):∀d v,lk (I++K) d=some v->lk G d=some v:=by
 induction I with
 |nil=>exact h2
 |cons q I ih=>
  obtain⟨k,u⟩:=q;obtain⟨hq,hr⟩:=h1;intro d v hd;by_cases e:k=d
  ·subst e;simp[lk]at hd;subst hd;exact hq
  ·simp only[List.cons_append,lk,xO e,cond_false]at hd;exact ih hr d v hd
def amI{α:Type}(N:Nat)(c:Cx)(D:List Deferred)(sl:List Nat)(K:gC)(I:α->gC)(J:α->List aO)(p:α->Prop)(μ:α->Nat)(i0:α):Act->World->Prop:=
 λa w=>match sl with|_ =>∃i',μ i'<μ i0/\p i'/\St N c D (I i'++K) (J i') a w
abbrev WA{α:Type}(N:Nat)(c:Cx)(D:List Deferred)(Q:Exit->Act->World->Prop)(sl:List Nat)(K:gC)(I:α->gC)(J:α->List aO)(p:α->Prop)(μ:α->Nat)(i0:α):Exit->Act->World->Prop:=
 Exit.then (amI N c D sl K I J p μ i0) Q
def ao0{α:Type}(N:Nat)(c:Cx)(D:List Deferred)(sl:List Nat)(K:gC)(I:α->gC)(J:α->List aO)(p:α->Prop):Act->World->Prop:=
 λa w=>match sl with|_ =>∃i,p i/\St N c D (I i++K) (J i) a w
abbrev afw{α:Type}(N:Nat)(c:Cx)(D:List Deferred)(Q:Exit->Act->World->Prop)(sl:List Nat)(K:gC)(I:α->gC)(J:α->List aO)(p:α->Prop):Exit->Act->World->Prop:=
 Exit.then (ao0 N c D sl K I J p) Q
theorem acn{α:Type}{x:Code}(sl:List Nat){K:gC}(hK:Ni F sl K)(I:α->gC)(J:α->List aO)(p:α->Prop)(μ:α->Nat)(i0:α)(XC:p i0)(hs:Sub (I i0) F){ks:List Nat}(hk:pick H ks=some (J i0))(hn:ks.Nodup)
  (hbody:∀i,p i->WP P N c D x (WA N c D Q sl K I J p μ i) (I i++K) (J i)):WP P N c D (.loop x) Q F H:=by
 have h0:WP P N c D (.loop x) Q (I i0++K) (J i0):=by exact aco (λi=>I i++K) J p μ i0 XC hbody
 intro a w hst;exact h0 a w ⟨hst.tm,hst.fr.sub (Pk hs hK.lk),hst.df,hst.si,hst.hp.pick hk hn⟩
theorem aci{α:Type}{K:gC}{sl:List Nat}{I:α->gC}{J:α->List aO}{p:α->Prop}{μ:α->Nat}{i0:α}(i:α)(hμ:μ i<μ i0)(hp:p i)(hs:Sub (I i) F)(hl:Ni F sl K){ks:List Nat}(hk:pick H ks=some (J i))(hn:ks.Nodup):
  WQ N c D (WA N c D Q sl K I J p μ i0) .normal F H:=
 λ_ _ hst=>⟨i,hμ,hp,hst.tm,hst.fr.sub (Pk hs hl.lk),hst.df,hst.si,hst.hp.pick hk hn⟩
theorem aff{α:Type}{x y:Code}(sl:List Nat){K:gC}(_ :Ni F sl K)(I:α->gC)(J:α->List aO)(p:α->Prop)
  (h1:WP P N c D x (afw N c D Q sl K I J p) F H)(h2:∀i,p i->WP P N c D y Q (I i++K) (J i)):WP P N c D (.seq x y) Q F H:=
 ai7 (λi=>I i++K) J p h1 h2
theorem afb{α:Type}{K:gC}{sl:List Nat}{I:α->gC}{J:α->List aO}{p:α->Prop}(i:α)(hp:p i)(hs:Sub (I i) F)(hl:Ni F sl K){ks:List Nat}(hk:pick H ks=some (J i))(hn:ks.Nodup):
  WQ N c D (afw N c D Q sl K I J p) .normal F H:=
 λ_ _ hst=>⟨i,hp,hst.tm,hst.fr.sub (Pk hs hl.lk),hst.df,hst.si,hst.hp.pick hk hn⟩
end code
end Go.Bw
namespace Go.Bw
open Go Go.RowKit
def HZ:TypeDesc->Bool
 | .struct _ =>true
 | .array _ _ =>true
 |_ =>false
def Io(P:Program)(t n:Nat):Bool:=match P.underlying t,P.info? t with
 |some d,some i=>HZ d&&Nat.beq i.size n
 |_,_ =>false
def vF(P:Program)(t:Nat):Bool:=match P.underlying t,P.info? t with
 |some d,some i=> !HZ d&&Nat.beq i.size 1
 |_,_ =>false
class wH(P:Program)(t:TypeId)(n:outParam Nat):Prop where
 ok:Io P t n=true
class s9(P:Program)(t:TypeId):Prop where
 ok:vF P t=true
class UH(P:Program)(t:TypeId)(n:outParam Nat):Prop where
 ok:(P.info? t).map (·.size)=some n
section types
variable {P:Program} {t n:Nat}
theorem wH.get(h:Io P t n=true):∃d i,P.underlying t=some d/\HZ d=true/\P.info? t=some i/\i.size=n:=by
 unfold Io at h;split at h
 ·rename_i d i h1 h2
  simp only[apv]at h;exact⟨d,i,h1,h.1,h2,apu h.2⟩
 ·cases h
theorem s9.get(h:vF P t=true):∃d i,P.underlying t=some d/\HZ d=false/\P.info? t=some i/\i.size=1:=by
 unfold vF at h;split at h
 ·rename_i d i h1 h2
  simp only[apv,Bool.not_eq_true']at h;exact⟨d,i,h1,h.1,h2,apu h.2⟩
 ·cases h
instance(priority:=50) amR[h:wH P t n]:UH P t n:=⟨by obtain⟨d,i,_,_,h3,h4⟩:=wH.get h.ok;simp[h3,h4]⟩
instance(priority:=40) amQ[h:s9 P t]:UH P t 1:=⟨by obtain⟨d,i,_,_,h3,h4⟩:=s9.get h.ok;simp[h3,h4]⟩
theorem xp(w:World)[h:wH P t n]:(isAgg t).run P w= .ok true w:=by obtain⟨d,i,h1,h2,_,_⟩:=wH.get h.ok;unfold isAgg;rw[Sem.run_bind,run_underlying h1 w];cases d<;>simp_all[HZ]
theorem vA(w:World)[h:s9 P t]:(isAgg t).run P w= .ok false w:=by obtain⟨d,i,h1,h2,_,_⟩:=s9.get h.ok;unfold isAgg;rw[Sem.run_bind,run_underlying h1 w];cases d<;>simp_all[HZ]
theorem EJ(w:World)[h:UH P t n]:(sizeOf t).run P w= .ok n w:=by
 have:=h.ok;cases hi:P.info? t with
 |none=>simp[hi]at this
 |some i=>simp[hi]at this;simp[sizeOf,typeInfo,hi,this]
end types
class xW(H:List aO)(b:Nat)(T:outParam TypeId)(cs:outParam (List Value)):Prop where
 mem:aO.cells b T cs∈H
instance(priority:=100) ajP(b T cs)(H:List aO):xW (.cells b T cs::H) b T cs:=⟨by simp⟩
instance(priority:=50) ajE(r:aO)(H:List aO)(b T cs)[h:xW H b T cs]:xW (r::H) b T cs:=⟨by simp[h.mem]⟩
class M8(H:List aO)(b:Nat)(cs':List Value)(H':outParam (List aO)):Prop where
 ok:∃k T cs,H[k]? =some (.cells b T cs)/\H'=H.set k (.cells b T cs')
instance(priority:=100) ajL(b T cs cs')(H:List aO):M8 (.cells b T cs::H) b cs' (.cells b T cs'::H):=⟨0,T,cs,rfl,rfl⟩
instance(priority:=50) ajp(r:aO)(H H':List aO)(b cs')[h:M8 H b cs' H']:M8 (r::H) b cs' (r::H'):=
 ⟨by obtain⟨k,T,cs,h1,h2⟩:=h.ok;exact⟨k+1,T,cs,by simpa using h1,by simp[h2]⟩⟩
class acV(H:List aO)(b:Nat)(o:outParam Obj):Prop where
 mem:aO.obj b o∈H
instance(priority:=100) ajO(b o)(H:List aO):acV (.obj b o::H) b o:=⟨by simp⟩
instance(priority:=50) ajD(r:aO)(H:List aO)(b o)[h:acV H b o]:acV (r::H) b o:=⟨by simp[h.mem]⟩
class acH(H:List aO)(b:Nat)(o':Obj)(H':outParam (List aO)):Prop where
 ok:∃k o,H[k]? =some (.obj b o)/\H'=H.set k (.obj b o')
instance(priority:=100) ajK(b o o')(H:List aO):acH (.obj b o::H) b o' (.obj b o'::H):=⟨0,o,rfl,rfl⟩
instance(priority:=50) ajo(r:aO)(H H':List aO)(b o')[h:acH H b o' H']:acH (r::H) b o' (r::H'):=
 ⟨by obtain⟨k,o,h1,h2⟩:=h.ok;exact⟨k+1,o,by simpa using h1,by simp[h2]⟩⟩
def gk(b off:Nat):Value:= .pointer (some ⟨b,off,none⟩)
attribute [reducible] gk
section ops
variable {P:Program} {N:Nat} {c:Cx} {F:gC} {H:List aO} {d:Option Tmp} {ty:TypeId} {p:String} {af:Array Edge} {g:Option (Nat×Bool)}
theorem dK{x:Operand}{v:Value}(hx:ev F x=some v):VS P N c ⟨d, .move x,ty,p,af,g⟩ F H v:=
 bp (by simp) λa w hf _ _ =>by simp[execOp,bB hf hx]
theorem wO{x:Operand}{v:Value}(hx:ev F x=some v):VS P N c ⟨d, .assign x,ty,p,af,g⟩ F H v:=
 bp (by simp) λa w hf _ _ =>by simp[execOp,bB hf hx]
theorem Mb{x y:Operand}{b u:Bool}(hx:ev F x=some (.bool b))(hy:ev F y=some (bif b==true then .bool u else undef)):
  VS P N c ⟨d, .pick x y (.const (.bool false)),ty,p,af,g⟩ F H (.bool (b&&u)):=
 bp (by simp) λa w hf _ _ =>by have e1:=bB hf hx;have e2:=bB hf hy;have e3:∀v,a.eval (.const v)=v:=λ_ =>rfl;cases b<;>(try simp at e2)<;>simp[execOp,e1,e2,e3,asBool]
theorem Ws{x y:Operand}{b u:Bool}(hx:ev F x=some (.bool b))(hy:ev F y=some (bif b==false then .bool u else undef)):
  VS P N c ⟨d, .pick x (.const (.bool true)) y,ty,p,af,g⟩ F H (.bool (b||u)):=
 bp (by simp) λa w hf _ _ =>by have e1:=bB hf hx;have e2:=bB hf hy;have e3:∀v,a.eval (.const v)=v:=λ_ =>rfl;cases b<;>(try simp at e2)<;>simp[execOp,e1,e2,e3,asBool]
theorem Iy{x:Operand}{b:Bool}(hx:ev F x=some (.bool b)){T:TypeId}:VS P N c ⟨d, .unOp .not T x,ty,p,af,g⟩ F H (.bool (!b)):=
 bp (by simp) λa w hf _ _ =>by simp[execOp,bB hf hx,Op.unary]
section ints
variable {x y:Operand} {k:IntKind} {a b r:Int} {T U:TypeId}
theorem ajl(hx:ev F x=some (.int k a))(hy:ev F y=some (.int k b))(h:k.wrap (a+b)=r):VS P N c ⟨d, .binOp .add T x y U,ty,p,af,g⟩ F H (.int k r):=
 bp (by simp) λa' w hf _ _ =>by simp[execOp,bB hf hx,bB hf hy,eqGuard,binOp,Op.intArith,h]
theorem acs(hx:ev F x=some (.int k a))(hy:ev F y=some (.int k b))(h:k.wrap (a-b)=r):VS P N c ⟨d, .binOp .sub T x y U,ty,p,af,g⟩ F H (.int k r):=
 bp (by simp) λa' w hf _ _ =>by simp[execOp,bB hf hx,bB hf hy,eqGuard,binOp,Op.intArith,h]
theorem ajc(hx:ev F x=some (.int k a))(hy:ev F y=some (.int k b))(h:k.wrap (a*b)=r):VS P N c ⟨d, .binOp .mul T x y U,ty,p,af,g⟩ F H (.int k r):=
 bp (by simp) λa' w hf _ _ =>by simp[execOp,bB hf hx,bB hf hy,eqGuard,binOp,Op.intArith,h]
theorem afp{op:BinOp}{v:Value}(hx:ev F x=some (.int k a))(hy:ev F y=some (.int k b))(ho:(op matches .and| .or| .xor| .andNot)=true)
  (h:∀P w,(Op.intBits op k a b).run P w= .ok v w):VS P N c ⟨d, .binOp op T x y U,ty,p,af,g⟩ F H v:=
 bp (by simp) λa' w hf _ _ =>by cases op<;>simp at ho<;>simp[execOp,bB hf hx,bB hf hy,eqGuard,binOp,h]
theorem aja{k':IntKind}(hx:ev F x=some (.int k a))(hy:ev F y=some (.int k' b))(h0:0<=b)(h:k.wrap (a*2^(min b.toNat k.bits))=r):VS P N c ⟨d, .binOp .shl T x y U,ty,p,af,g⟩ F H (.int k r):=
 bp (by simp) λa' w hf _ _ =>by simp[execOp,bB hf hx,bB hf hy,eqGuard,binOp,Op.shift,h,Int.not_lt.2 h0]
theorem ai9{k':IntKind}(hx:ev F x=some (.int k a))(hy:ev F y=some (.int k' b))(h0:0<=b)(h:a.fdiv (2^(min b.toNat k.bits))=r):VS P N c ⟨d, .binOp .shr T x y U,ty,p,af,g⟩ F H (.int k r):=
 bp (by simp) λa' w hf _ _ =>by simp[execOp,bB hf hx,bB hf hy,eqGuard,binOp,Op.shift,h,Int.not_lt.2 h0]
theorem ajj(hx:ev F x=some (.int k a))(hy:ev F y=some (.int k b)):VS P N c ⟨d, .binOp .eql T x y U,ty,p,af,g⟩ F H (.bool (a==b)):=
 bp (by simp) λa' w hf _ _ =>by simp[execOp,bB hf hx,bB hf hy,eqGuard,binOp,Op.intCmp]
theorem ajb(hx:ev F x=some (.int k a))(hy:ev F y=some (.int k b)):VS P N c ⟨d, .binOp .neq T x y U,ty,p,af,g⟩ F H (.bool (a !=b)):=
 bp (by simp) λa' w hf _ _ =>by simp[execOp,bB hf hx,bB hf hy,eqGuard,binOp,Op.intCmp]
theorem ajf(hx:ev F x=some (.int k a))(hy:ev F y=some (.int k b)):VS P N c ⟨d, .binOp .lss T x y U,ty,p,af,g⟩ F H (.bool (decide (a<b))):=
 bp (by simp) λa' w hf _ _ =>by simp[execOp,bB hf hx,bB hf hy,eqGuard,binOp,Op.intCmp]
theorem ajg(hx:ev F x=some (.int k a))(hy:ev F y=some (.int k b)):VS P N c ⟨d, .binOp .leq T x y U,ty,p,af,g⟩ F H (.bool (decide (a<=b))):=
 bp (by simp) λa' w hf _ _ =>by simp[execOp,bB hf hx,bB hf hy,eqGuard,binOp,Op.intCmp]
theorem acy(hx:ev F x=some (.int k a))(hy:ev F y=some (.int k b)):VS P N c ⟨d, .binOp .gtr T x y U,ty,p,af,g⟩ F H (.bool (decide (b<a))):=
 bp (by simp) λa' w hf _ _ =>by simp[execOp,bB hf hx,bB hf hy,eqGuard,binOp,Op.intCmp]
theorem UG(hx:ev F x=some (.int k a))(hy:ev F y=some (.int k b)):VS P N c ⟨d, .binOp .geq T x y U,ty,p,af,g⟩ F H (.bool (decide (b<=a))):=
 bp (by simp) λa' w hf _ _ =>by simp[execOp,bB hf hx,bB hf hy,eqGuard,binOp,Op.intCmp]
theorem acv(hx:ev F x=some (.int k a))(h:k.wrap (0-a)=r):VS P N c ⟨d, .unOp .neg T x,ty,p,af,g⟩ F H (.int k r):=
 bp (by simp) λa' w hf _ _ =>by simp at h;simp[execOp,bB hf hx,Op.unary,Op.intArith,h]
end ints
class acD(P:Program)(t:TypeId)(k:outParam IntKind):Prop where
 ok:P.underlying t=some (.int k)
class acE(P:Program)(t:TypeId):Prop where
 ok:P.underlying t=some .bool
theorem Wv{x:Operand}{k k':IntKind}{a r:Int}{S T:TypeId}(hx:ev F x=some (.int k a))[hT:acD P T k'][hS:acD P S k](h:k'.wrap a=r):
  VS P N c ⟨d, .convert S T x,ty,p,af,g⟩ F H (.int k' r):=
 bp (by simp) λa' w hf _ _ =>by have h1:=run_underlying hT.ok w;have h2:=run_underlying hS.ok w;simp[execOp,bB hf hx,convert,h1,h2,Conv.intToInt,h]
theorem afn{x y:Operand}{a b:Bool}{T U:TypeId}[hT:acE P T](hx:ev F x=some (.bool a))(hy:ev F y=some (.bool b)):
  VS P N c ⟨d, .binOp .eql T x y U,ty,p,af,g⟩ F H (.bool (a==b)):=
 bp (by simp) λa' w hf _ _ =>by have h1:=run_eql_bool (P:=P) w T a b hT.ok;simp[execOp,bB hf hx,bB hf hy,eqGuard,h1]
theorem afi{x y:Operand}{a b:Bool}{T U:TypeId}[hT:acE P T](hx:ev F x=some (.bool a))(hy:ev F y=some (.bool b)):
  VS P N c ⟨d, .binOp .neq T x y U,ty,p,af,g⟩ F H (.bool (a !=b)):=
 bp (by simp) λa' w hf _ _ =>by have h1:=run_neq_bool (P:=P) w T a b hT.ok;have e1:=bB hf hx;have e2:=bB hf hy;cases a<;>cases b<;>simp[execOp,e1,e2,eqGuard,h1]
theorem uf{x:Operand}{vs:List Value}{i:Nat}{v:Value}(hx:ev F x=some (.tuple vs.toArray))(hv:vs[i]? =some v):VS P N c ⟨d, .extract x i,ty,p,af,g⟩ F H v:=
 bp (by simp) λa w hf _ _ =>by simp[execOp,bB hf hx,Instr.extract,hv]
def LZ(P:Program)(s f off:Nat):Bool:=match P.underlying s with
 |some (.struct fs)=>match fs[f]? with
  |some fl=>Nat.beq fl.offset off&&(match P.info? fl.type with|some i=> !Nat.beq i.size 0|none=>false)
  |none=>false
 |_ =>false
class GN(P:Program)(s:TypeId)(f:Nat)(off:outParam Nat):Prop where
 ok:LZ P s f off=true
theorem GN.get{s f off:Nat}(h:LZ P s f off=true):∃fs fl i,P.underlying s=some (.struct fs)/\fs[f]? =some fl/\fl.offset=off/\P.info? fl.type=some i/\i.size≠0:=by
 unfold LZ at h;split at h
 ·rename_i fs h1
  split at h
  ·rename_i fl h2
   split at h
   ·rename_i i h3
    simp only[apv,Bool.not_eq_true']at h;exact⟨fs,fl,i,h1,h2,apu h.1,h3,λe=>by rw[e]at h;exact absurd h.2 (by decide)⟩
   ·simp at h
  ·cases h
 ·cases h
theorem B7{s f fo b off:Nat}[h:GN P s f fo](w:World):(Instr.fieldAt s (gk b off) f).run P w= .ok (gk b (off+fo)) w:=by obtain⟨fs,fl,i,h1,h2,h3,h4,h5⟩:=GN.get h.ok;simp[Instr.fieldAt,run_underlying h1,h2,Instr.sureAddr,fieldPlace,sizeOf,typeInfo,h4,h5,Addr.add_lit,h3]
theorem Dj{x:Operand}{s f fo b:Nat}[GN P s f fo](hx:ev F x=some (gk b 0)):VS P N c ⟨d, .fieldAddr s x f,ty,p,af,g⟩ F H (gk b fo):=
 bp (by simp) λa w hf _ _ =>by have:=B7 (P:=P) (s:=s) (f:=f) (b:=b) (off:=0) w;rw[Nat.zero_add]at this;simp only[execOp,bB hf hx];simp[this]
theorem GM{x:Operand}{s f fo b off:Nat}[GN P s f fo](hx:ev F x=some (gk b off)):VS P N c ⟨d, .fieldAddr s x f,ty,p,af,g⟩ F H (gk b (off+fo)):=
 bp (by simp) λa w hf _ _ =>by have:=B7 (P:=P) (s:=s) (f:=f) (b:=b) (off:=off) w;simp only[execOp,bB hf hx];simp[this]
def PU(P:Program)(t len e sz:Nat):Bool:=match P.underlying t with
 |some (.array l e')=>Nat.beq l len&&Nat.beq e' e&&(match P.info? e with|some i=>Nat.beq i.size sz|none=>false)
 |_ =>false
class DM(P:Program)(t:TypeId)(len e sz:outParam Nat):Prop where
 ok:PU P t len e sz=true
theorem DM.get{t len e sz:Nat}(h:PU P t len e sz=true):∃i,P.underlying t=some (.array len e)/\P.info? e=some i/\i.size=sz:=by
 unfold PU at h;split at h
 ·rename_i l e' h1
  split at h
  ·rename_i i h3
   simp only[apv]at h;obtain⟨⟨h4,h5⟩,h6⟩:=h;rw[apu h4,apu h5]at h1;exact⟨i,h1,h3,apu h6⟩
  ·simp at h
 ·cases h
def NZ(P:Program)(t e sz:Nat):Bool:=match P.underlying t with
 |some (.slice e')=>Nat.beq e' e&&(match P.info? e with|some i=>Nat.beq i.size sz|none=>false)
 |_ =>false
class zG(P:Program)(t:TypeId)(e sz:outParam Nat):Prop where
 ok:NZ P t e sz=true
theorem zG.get{t e sz:Nat}(h:NZ P t e sz=true):∃i,P.underlying t=some (.slice e)/\P.info? e=some i/\i.size=sz:=by
 unfold NZ at h;split at h
 ·rename_i e' h1
  split at h
  ·rename_i i h3
   simp only[apv]at h;obtain⟨h4,h6⟩:=h;rw[apu h4]at h1;exact⟨i,h1,h3,apu h6⟩
  ·simp at h
 ·cases h
theorem Di{x y:Operand}{t len e sz b:Nat}{k:IntKind}{i:Int}{m:Nat}[h:DM P t len e sz](hx:ev F x=some (gk b 0))(hy:ev F y=some (.int k i))(hi:i=(m:Int))(hm:m<len):
  VS P N c ⟨d, .indexAddr t x y,ty,p,af,g⟩ F H (gk b (m*sz)):=
 bp (by simp) λa w hf _ _ =>by obtain⟨inf,h1,h2,h3⟩:=DM.get h.ok;subst hi;simp[execOp,bB hf hx,bB hf hy,Instr.indexAt,asIntOf,run_underlying h1,Instr.sureAddr,sizeOf,typeInfo,h2,h3,Addr.add_lit];intro hle;omega
theorem Sb{x y:Operand}{t len e sz b off:Nat}{k:IntKind}{i:Int}{m:Nat}[h:DM P t len e sz](hx:ev F x=some (gk b off))(hy:ev F y=some (.int k i))(hi:i=(m:Int))(hm:m<len):
  VS P N c ⟨d, .indexAddr t x y,ty,p,af,g⟩ F H (gk b (off+m*sz)):=
 bp (by simp) λa w hf _ _ =>by obtain⟨inf,h1,h2,h3⟩:=DM.get h.ok;subst hi;simp[execOp,bB hf hx,bB hf hy,Instr.indexAt,asIntOf,run_underlying h1,Instr.sureAddr,sizeOf,typeInfo,h2,h3,Addr.add_lit];intro hle;omega
theorem CF{x:Operand}{a:Addr}(hx:ev F x=some (.pointer (some a))):VS P N c ⟨d, .nilCheck x,ty,p,af,g⟩ F H (.pointer (some a)):=
 bp (by simp) λa w hf _ _ =>by simp[execOp,bB hf hx]
theorem yD{w:World}{b T:Nat}{cs:List Value}(h:(aO.cells b T cs).holds w)(j:Nat):w.cell? ⟨b,j,none⟩=cs[j]? :=by have:w.heap[b]? =some (.cells cs.toArray T (0,0)):=h;simp[World.cell?,this]
theorem oL{t:TypeId}{a:Addr}{v:Value}{w:World}[s9 P t](h:w.cell? a=some v):(loadVar t a).run P w= .ok v w:=by simp[loadVar,vA,load,Sem.run,h]
theorem oM{t:TypeId}{b off n:Nat}{vs:List Value}{w:World}[wH P t n](hl:vs.length=n)(h:∀(j:Nat) v,vs[j]? =some v->w.cell? ⟨b,off+j,none⟩=some v):
  (loadVar t ⟨b,off,none⟩).run P w= .ok (.agg vs.toArray) w:=by
 have hl':(loadCells ⟨b,off,none⟩ vs.length).run P w= .ok vs.toArray w:=
  run_loadCells_list (P:=P) w ⟨b,off,none⟩ vs (λj v hv=>by rw[Addr.add_lit];exact h j v hv)
 have hs:(sizeOf t).run P w= .ok n w:=EJ w;simp[loadVar,Sem.run_bind,xp,hs, ← hl,hl']
theorem lG{x:Operand}{t b off T:Nat}{cs:List Value}{v:Value}(hx:ev F x=some (gk b off))[hr:xW H b T cs][s9 P t](hv:cs[off]? =some v):VS P N c ⟨d, .load t x,ty,p,af,g⟩ F H v:=
 bp (by simp) λa w hf _ hp=>by have:=oL (P:=P) (t:=t) (a:=⟨b,off,none⟩) ((yD (hp.holds _ hr.mem) off).trans hv);simp[execOp,bB hf hx,Instr.loadAt,Instr.sureAddr,this]
theorem ud{x:Operand}{t b T n:Nat}{cs:List Value}(hx:ev F x=some (gk b 0))[hr:xW H b T cs][wH P t n](hl:cs.length=n):VS P N c ⟨d, .load t x,ty,p,af,g⟩ F H (.agg cs.toArray):=
 bp (by simp) λa w hf _ hp=>by have:=oM (P:=P) (t:=t) (b:=b) (off:=0) (w:=w) hl (λj v hv=>by rw[Nat.zero_add,yD (hp.holds _ hr.mem)];exact hv);simp[execOp,bB hf hx,Instr.loadAt,Instr.sureAddr,this]
theorem Jw{x:Operand}{t b off T n:Nat}{cs vs:List Value}(hx:ev F x=some (gk b off))[hr:xW H b T cs][wH P t n](hv:(cs.drop off).take n=vs)(hl:vs.length=n):VS P N c ⟨d, .load t x,ty,p,af,g⟩ F H (.agg vs.toArray):=
 bp (by simp) λa w hf _ hp=>by
  have:=oM (P:=P) (t:=t) (b:=b) (off:=off) (w:=w) hl (λj v hj=>by
   rw[yD (hp.holds _ hr.mem)];rw[← hv,List.getElem?_take]at hj;split at hj
   ·rwa[List.getElem?_drop]at hj
   ·cases hj)
  simp[execOp,bB hf hx,Instr.loadAt,Instr.sureAddr,this]
def cY(cs:List Value)(off:Nat)(vs:List Value):List Value:=cs.take off++vs++cs.drop (off+vs.length)
def vi(vs:List Value):Prop:=∀v∈vs,v.oneCell'=true
theorem vz{t b off T n:Nat}{cs vs:List Value}{v:Value}{w:World}[UH P t n](h:(aO.cells b T cs).holds w)(hv:v.cells.toList=vs)(hl:vs.length=n)(ho:off+n<=cs.length)(h1:vi vs):
  ∃w',(storeVar t ⟨b,off,none⟩ v).run P w= .ok () w'/\(aO.cells b T (cY cs off vs)).holds w'/\bI [b] w w':=by
 have hb:w.heap[b]? =some (.cells cs.toArray T (0,0)):=h;have hst:=run_storeCells_at P b off T vs 0 cs.toArray w hb (by simp;omega) h1;simp only[Nat.add_zero]at hst;have hs:(sizeOf t).run P w= .ok n w:=EJ w;have hsz:v.cells.size=n:=by rw[← hl, ← hv];simp
 refine⟨w.setRow b (cY cs off vs).toArray,?_,?_,?_⟩
 ·simp only[storeVar,Sem.run_bind,hs,Result.andThen_ok,hsz,hv,ne_eq,not_true_eq_false,if_false]
  exact hst
 ·have:=setRow_heap w b cs.toArray (cY cs off vs).toArray T (0,0) hb
  simpa[aO.holds,cY]using this
 ·exact⟨rfl,rfl,rfl,by simp,λk _ hk=>setRow_other w b k _ (by simpa using hk)⟩
theorem cI.anE{bs:List Nat}{n0 b:Nat}{H H':List aO}{cs':List Value}{w w':World}(h:cI bs n0 H w)(hs:M8 H b cs' H')(hw:bI [b] w w')(hn:n0<=w.heap.size)
  (hc:∀T cs,(aO.cells b T cs).holds w->(aO.cells b T cs').holds w'):cI bs n0 H' w':=by
 obtain⟨k,T,cs,hk,rfl⟩:=hs.ok;have hm:aO.cells b T cs∈H:=List.mem_of_getElem? hk;refine h.set hk hw.size (λj hj hne=>hw.block j hj hne) (hc T cs (h.holds _ hm)) hn (λb' hb'=>?_);have e:b'=b:=by simpa[aO.eW]using hb'
 subst e;exact⟨.inl (by simp[aO.eW]),Nat.lt_of_lt_of_le (h.own _ hm b' (by simp[aO.eW])).2 hw.size⟩
theorem bI.store{bs:List Nat}{w0 w w':World}{H:List aO}{r:aO}{b:Nat}(h:bI bs w0 w)(hp:cI bs w0.heap.size H w)(hm:r∈H)(hb:b∈r.eW)(hw:bI [b] w w'):bI bs w0 w':=
 h.trans hw (λx hx=>by simp at hx;subst hx;exact(hp.own r hm _ hb).1)
theorem RW{w:World}{b T T':Nat}{cs cs':List Value}(h:(aO.cells b T cs).holds w)(h':(aO.cells b T' cs').holds w):T=T'/\cs=cs':=by have h1:w.heap[b]? =some (.cells cs.toArray T (0,0)):=h;have h2:w.heap[b]? =some (.cells cs'.toArray T' (0,0)):=h';rw[h1]at h2;simp at h2;exact⟨h2.2,h2.1⟩
variable {D:List Deferred} {ops:Array Oper} {Q:Exit->Act->World->Prop} {rest:List Oper}
theorem vg{x y:Operand}{t b off T n:Nat}{cs vs cs':List Value}{v:Value}{H':List aO}(hx:ev F x=some (gk b off))(hy:ev F y=some v)[hr:xW H b T cs][UH P t n]
  (hv:v.cells.toList=vs)(hl:vs.length=n)(ho:off+n<=cs.length)(h1:vi vs)(hc:cY cs off vs=cs')[hs:M8 H b cs' H']:
  RX (α:=Unit) P N c ⟨d, .store t x y,ty,p,af,g⟩ F H (λ_ =>True) (λ_ =>undef) (λ_ =>H'):=λD a w next Q hst hk=>by
 obtain⟨w',e1,e2,e3⟩:=vz (P:=P) (t:=t) (off:=off) (hst.hp.holds _ hr.mem) hv hl ho h1;refine tO (by simp) (w':=w') ?_ (hk () w' trivial (hst.si.store hst.hp hr.mem (by simp[aO.eW]) e3) (hst.hp.anE hs e3 hst.si.size ?_))
 ·simp[execOp,bB hst.fr hx,bB hst.fr hy,Instr.storeAt,Instr.sureAddr,e1]
 ·intro T' apm hT
  have:=RW (hst.hp.holds _ hr.mem) hT;obtain⟨rfl,rfl⟩:=this;rw[← hc];exact e2
def cR(P:Program)(t:Nat):Option (List Value):=(P.info? t).bind λi=>i.zero.map λz=>z.cells.toList
class kz(P:Program)(t:TypeId)(cs:outParam (List Value)):Prop where
 ok:cR P t=some cs
theorem kz.get{t:Nat}{cs:List Value}(h:cR P t=some cs):∃i z,P.info? t=some i/\i.zero=some z/\z.cells.toList=cs:=by
 unfold cR at h;cases hi:P.info? t with
 |none=>simp[hi]at h
 |some i=>
  cases hz:i.zero with
  |none=>simp[hi,hz]at h
  |some z=>simp[hi,hz]at h;exact⟨i,z,rfl,hz,h⟩
theorem cI.box{bs:List Nat}{n0:Nat}{H:List aO}{w:World}(h:cI bs n0 H w)(t:TypeId)(cs:List Value)(hn:n0<=w.heap.size):cI bs n0 (.cells w.heap.size t cs::H) (w.alloc (.cells cs.toArray t)):=
 h.fresh (bI.alloc _ _) (by show(w.heap.push _)[w.heap.size]? =_;simp) hn (λb hb=>by
  have e:b=w.heap.size:=by simpa[aO.eW]using hb
  subst e;exact⟨Nat.le_refl _,by simp⟩)
theorem UK{x:Operand}{t:Nat}{v:Value}{cs:List Value}(hx:ev F x=some v)(hc:v.cells.toList=cs):
  RX P N c ⟨d, .box t x,ty,p,af,g⟩ F H (λ_ =>True) (λb=>gk b 0) (λb=> .cells b t cs::H):=λD a w next Q hst hk=>by
 refine ic (by simp) (w':=w.alloc (.cells cs.toArray t)) ?_ (hk w.heap.size _ trivial (hst.si.ext (bI.alloc _ _)) (hst.hp.box t cs hst.si.size));subst hc;simp[execOp,bB hst.fr hx,Instr.box,newVar,newRow,newObj,Sem.run]
theorem P9{x:Operand}{t:Nat}{cs:List Value}(hx:ev F x=some (.agg cs.toArray)):
  RX P N c ⟨d, .box t x,ty,p,af,g⟩ F H (λ_ =>True) (λb=>gk b 0) (λb=> .cells b t cs::H):=UK hx rfl
theorem ta{t:Nat}{cs:List Value}[hz:kz P t cs]:
  RX P N c ⟨d, .alloc t,ty,p,af,g⟩ F H (λ_ =>True) (λb=>gk b 0) (λb=> .cells b t cs::H):=λD a w next Q hst hk=>by
 refine ic (by simp) (w':=w.alloc (.cells cs.toArray t)) ?_ (hk w.heap.size _ trivial (hst.si.ext (bI.alloc _ _)) (hst.hp.box t cs hst.si.size));obtain⟨i,z,h1,h2,rfl⟩:=kz.get hz.ok;simp[execOp,Instr.alloc,zeroValue,typeInfo,h1,h2,newVar,newRow,newObj,Sem.run]
theorem u9{fn:Fn}{cap:List Operand}{vs:List Value}(hc:Jp F cap=some vs):VS P N c ⟨d, .makeFunc fn #[] cap.toArray,ty,p,af,g⟩ F H (.func fn #[] vs.toArray):=
 bp (by simp) λa w hf _ _ =>by simp[execOp,Instr.makeFunc,PJ hf hc]
end ops
end Go.Bw
namespace Go.Bw
open Go Go.RowKit
def cy(H:List aO):List Nat:=H.flatMap aO.eW
structure Fn{α:Type}(P:Program)(f:Nat)(args:List Value)(pre:World->Prop)(qd:List aO)(p:α->Prop)(fv:α->Value)(fH:α->List aO):Prop where
 enter:∀args w,(callFunc f args).run P w= .ok (.enter f args) w
 calls:∀w,pre w->cI (cy qd) w.heap.size qd w->Calls P f args.toArray w λe w'=>∃x,p x/\e= .returned (fv x)/\bI (cy qd) w w'/\cI (cy qd) w.heap.size (fH x) w'
abbrev FnV(P:Program)(f:Nat)(args:List Value)(v:Value):Prop:=Fn (α:=Unit) P f args (λ_ =>True) [] (λ_ =>True) (λ_ =>v) (λ_ =>[])
abbrev FnW(P:Program)(f:Nat)(args:List Value)(pre:World->Prop)(v:Value):Prop:=Fn (α:=Unit) P f args pre [] (λ_ =>True) (λ_ =>v) (λ_ =>[])
inductive yW(P:Program)(F:gC)(H:List aO):List ResultVar->List Value->Prop where
 |nil:yW P F H [] []
 |tmp {t:Nat} {v:Value} {rs:List ResultVar} {vs:List Value} (hv:lk F t=some v) (h:yW P F H rs vs):yW P F H (.tmp t::rs) (v::vs)
 |agg {t ty b T n:Nat} {cs:List Value} {rs:List ResultVar} {vs:List Value} (hv:lk F t=some (gk b 0)) (hr:xW H b T cs) (ht:wH P ty n) (hl:cs.length=n) (h:yW P F H rs vs):yW P F H (.cell t ty::rs) (.agg cs.toArray::vs)
 |one {t ty b T:Nat} {v:Value} {cs:List Value} {rs:List ResultVar} {vs:List Value} (hv:lk F t=some (gk b 0)) (hr:xW H b T cs) (ht:s9 P ty) (hl:cs=[v]) (h:yW P F H rs vs):yW P F H (.cell t ty::rs) (v::vs)
def EM:List Value->Value
 |[v]=>v
 |vs=> .tuple vs.toArray
def xu(t:Array Value):ResultVar->Sem Value
 | .tmp k=>pure (t.getD k undef)
 | .cell a ty=>do loadVar ty (← asAddr (t.getD a undef))
theorem Jd{P:Program}{fn:Func}{F:gC}{H:List aO}{rs:List ResultVar}{vs:List Value}{t:Array Value}{bs:List Nat}{n0:Nat}{w:World}(hf:fn.results.toList=rs)(hF:Bx F t)(hp:cI bs n0 H w)(h:yW P F H rs vs):
  (results fn t).run P w= .ok (EM vs) w:=by
 have get:∀{k:Nat} {v:Value},t[k]? =some v->t.getD k undef=v:=λh=>by simp[h]
 have key:∀{rs vs},yW P F H rs vs->(rs.mapM (xu t)).run P w= .ok vs w:=by
  intro rs vs h
  induction h with
  |nil=>simp
  |tmp hv h ih=>have h1:xu t (.tmp _)=pure _ :=congrArg pure (get (hF _ _ hv));simp only[List.mapM_cons,Sem.run_bind,h1,Sem.run_pure,Result.andThen_ok,ih]
  |@agg t' ty b T n cs rs' vs' hv hr ht hl h ih=>have h1:=get (hF _ _ hv);have h2:=oM (P:=P) (t:=ty) (off:=0) (w:=w) hl (λj v hv=>by rw[Nat.zero_add,yD (hp.holds _ hr.mem)];exact hv);simp only[List.mapM_cons,Sem.run_bind,xu,h1,asAddr,Sem.run_pure,h2,Result.andThen_ok,ih]
  |@one t' ty b T v cs rs' vs' hv hr ht hl h ih=>have h1:=get (hF _ _ hv);subst hl;have h2:=oL (P:=P) (t:=ty) (a:=⟨b,0,none⟩) (v:=v) ((yD (hp.holds _ hr.mem) 0).trans rfl);simp only[List.mapM_cons,Sem.run_bind,xu,h1,asAddr,Sem.run_pure,h2,Result.andThen_ok,ih]
 have hr:fn.results=rs.toArray:=by rw[← hf]
 have hk:=key h;show(do let vs ← fn.results.mapM (xu t);pure (if h:vs.size=1 then vs[0]else .tuple vs):Sem Value).run P w=_;rw[hr,List.mapM_toArray];simp only[Sem.run_bind,Sem.run_map,hk,Result.andThen_ok]
 match vs with
 |[]=>simp[EM]
 |[v]=>simp[EM]
 |u::v::r=>simp[EM]
def agj{α:Type}(c:Cx)(p:α->Prop)(fv:α->Value)(fH:α->List aO):Ending->World->Prop:=λe w'=>∃x,p x/\e= .returned (fv x)/\bI c.bs c.w0 w'/\cI c.bs c.w0.heap.size (fH x) w'
def Post{α:Type}(P:Program)(c:Cx)(fn:Func)(p:α->Prop)(fv:α->Value)(fH:α->List aO):Exit->Act->World->Prop:=bodyPostM (FA none) 0 P fn (agj c p fv fH)
section
variable {α:Type} {P:Program} {N:Nat} {c:Cx} {fn:Func} {p:α->Prop} {fv:α->Value} {fH:α->List aO} {F:gC} {H:List aO}
theorem NL{a:Act}{w:World}{vs:List Value}{rs:List ResultVar}(hst:St N c [] F H a w)(x:α)(hf:fn.results.toList=rs)(hr:yW P F H rs vs)(hp:p x)(hv:EM vs=fv x){ks:List Nat}
  (hk:pick H ks=some (fH x))(hn:ks.Nodup):LeavesInM (FA none) 0 P fn a.tmps (agj c p fv fH) [] .returning w:=
 ⟨_,Jd hf hst.fr hst.hp hr,x,hp,by rw[hv],hst.si,hst.hp.pick hk hn⟩
theorem CD(x:α){vs:List Value}{rs:List ResultVar}(hf:fn.results.toList=rs)(hr:yW P F H rs vs)(hp:p x)(hv:EM vs=fv x){ks:List Nat}(hk:pick H ks=some (fH x))(hn:ks.Nodup):
  WQ N c [] (Post P c fn p fv fH) .ret F H:=λa w hst=>by
 show LeavesInM (FA none) 0 P fn a.tmps _ a.defers .returning w;rw[hst.df];exact NL hst x hf hr hp hv hk hn
theorem ack(x:α){vs:List Value}{rs:List ResultVar}(hf:fn.results.toList=rs)(hr:yW P F H rs vs)(hp:p x)(hv:EM vs=fv x){ks:List Nat}(hk:pick H ks=some (fH x))(hn:ks.Nodup):
  WQ N c [] (Post P c fn p fv fH) .normal F H:=λa w hst=>by
 show LeavesInM (FA none) 0 P fn a.tmps _ a.defers .returning w;rw[hst.df];exact NL hst x hf hr hp hv hk hn
def mark(d:Nat):Deferred:={target:= .collected d,args:= #[]}
end
def Cp:Nat->List Value->gC
 |_,[]=>[]
 |i,v::r=>(i,v)::Cp (i+1) r
theorem aee:∀(args:List Value) (i d:Nat) (v:Value),lk (Cp i args) d=some v->i<=d/\args[d-i]? =some v:=by
 intro args
 induction args with
 |nil=>intro i d v h;simp[Cp,lk]at h
 |cons u r ih=>
  intro i d v h;simp only[Cp,lk]at h;by_cases e:i=d
  ·subst e;simp at h;subst h;simp
  ·rw[xO e]at h
   obtain⟨h1,h2⟩:=ih (i+1) d v h;exact⟨by omega,by rw[show d-i=(d-(i+1))+1 from by omega];simpa using h2⟩
theorem xI{α:Type}{P:Program}{f:Nat}{fn:Func}{code:Code}{N:Nat}{args:List Value}{pre:World->Prop}{qd:List aO}{p:α->Prop}{fv:α->Value}{fH:α->List aO}
  (hf:P.funcs[f]? =some fn)(hname:(fn.name== "runtime.NumGoroutine")=false)(hb:fn.body=some code)(hN:fn.ntmps=N)(ha:Nat.ble args.length N=true)
  (h:∀c:Cx,c.bs=cy qd->pre c.w0->c.ro=none->WP P N c [] code (Post P c fn p fv fH) (Cp 0 args) qd):Fn P f args pre qd p fv fH:=by
 refine⟨λargs w=>?_,λw hw hH=>?_⟩
 ·have h1:fn.name≠ "runtime.NumGoroutine" :=by simpa using hname
  simp[callFunc,hf,h1,hb,Go.mark]
 ·refine(callsIn_wide (n:=0)).1 (callsIn_of_wp_marks (F:=Fence.wide) hf hb trivial ?_)
  refine h ⟨none,w,cy qd⟩ rfl hw rfl _ w ⟨?_,?_,rfl,bI.refl _ _,hH⟩
  ·have:=Nat.le_of_ble_eq_true ha
   simp;omega
  ·intro d v hd
   obtain⟨_,h2⟩:=aee args 0 d v hd;simp only[Nat.sub_zero]at h2;have hlt:=(List.getElem?_eq_some_iff.1 h2).1;rw[Array.getElem?_append_left (by simpa using hlt)];simpa using h2
section
variable {α:Type} {P:Program} {N:Nat} {c:Cx} {F:gC} {H:List aO} {d:Option Tmp} {ty:TypeId} {ps:String} {af:Array Edge} {g:Option (Nat×Bool)}
theorem oC{P:Program}{f:Nat}{args:Array Value}{w:World}{R:Ending->World->Prop}(ro:Option Nat)(h:Calls P f args w R):CallsIn (FA ro) 0 P f args w R:=
 ⟨trivial,λcs _ =>by
  obtain⟨e,w',fr,r,s,x⟩:=((callsIn_wide (n:=0)).2 h).2 cs (room_wide _);exact⟨e,w',fr,r,s,x⟩⟩
theorem acN{x:Operand}{args:List Operand}{ats:Array TypeId}{f:Nat}{fst cap:Array Value}{us vs:List Value}{pre:World->Prop}{p:α->Prop}{fv:α->Value}{fH:α->List aO}
  (hc:Fn P f vs pre [] p fv fH)(hx:ev F x=some (.func (.func f) fst cap))(ha:Jp F args=some us)(hv:fst.toList++us++cap.toList=vs)
  (hpre:∀w,bI c.bs c.w0 w->cI c.bs c.w0.heap.size H w->pre w):
  RX P N c ⟨d, .call ⟨.value x,args.toArray,ats⟩,ty,ps,af,g⟩ F H p fv (λi=>fH i++H):=λD a w next Q hst hk=>by
 refine⟨λ_ _ =>trivial,?_⟩;have hs:Oper.semAt (FA c.ro).round a.eval (⟨d, .call ⟨.value x,args.toArray,ats⟩,ty,ps,af,g⟩:Oper)=execOp a.eval ⟨d, .call ⟨.value x,args.toArray,ats⟩,ty,ps,af,g⟩:=Oper.semAt_eq _ _ _ (by simp);have hr:(execOp a.eval ⟨d, .call ⟨.value x,args.toArray,ats⟩,ty,ps,af,g⟩).run P w= .ok (.enter f vs.toArray) w:=by
  have e1:=bB hst.fr hx;have e2:=PJ hst.fr ha;have e3:fst++(args.toArray.map a.eval)++cap=vs.toArray:=by rw[← hv, ← e2];simp
  simp only[execOp,resolve,e1,Deferred.ofValue,Sem.run_bind,Sem.run_pure,Result.andThen_ok,invoke,e3];exact hc.enter _ _
 rw[hs,hr];refine⟨λh=>by simp at h,oC c.ro ?_⟩;have zv:=hc.calls w (hpre w hst.si hst.hp) (cI.nil _ _ _);intro cs;obtain⟨e,w',fr,⟨i,hp,he,hsi,hh⟩,rest⟩:=zv cs;refine⟨e,w',fr,?_,rest⟩;subst he;refine hk i w' hp (hst.si.ext hsi) ?_;have hH:=hst.hp.ext hsi;refine⟨λr hm=>?_,λr hm b hb=>?_,?_⟩
 ·rcases List.mem_append.1 hm with h1|h1
  ·exact hh.holds r h1
  ·exact hH.holds r h1
 ·rcases List.mem_append.1 hm with h1|h1
  ·obtain⟨o,l⟩:=hh.own r h1 b hb
   simp[cy]at o;exact⟨.inr (Nat.le_trans hst.si.size o),l⟩
  ·exact hH.own r h1 b hb
 ·refine List.pairwise_append.2 ⟨hh.apart,hH.apart,λr h1 s h2 b hb VJ=>?_⟩
  have l:=(hst.hp.own s h2 b VJ).2;obtain⟨o,_⟩:=hh.own r h1 b hb;simp[cy]at o;omega
theorem Wy{args:List Operand}{ats:Array TypeId}{f:Nat}{vs:List Value}{pre:World->Prop}{p:α->Prop}{fv:α->Value}{fH:α->List aO}
  (hc:Fn P f vs pre [] p fv fH)(ha:Jp F args=some vs)(hpre:∀w,bI c.bs c.w0 w->cI c.bs c.w0.heap.size H w->pre w):
  RX P N c ⟨d, .call ⟨.value (.func f),args.toArray,ats⟩,ty,ps,af,g⟩ F H p fv (λi=>fH i++H):=
 acN (fst:= #[]) (cap:= #[]) (us:=vs) hc rfl ha (by simp) hpre
theorem P5{args:List Operand}{ats:Array TypeId}{f:Nat}{vs:List Value}{v:Value}{pre:World->Prop}(hc:FnW P f vs pre v)(ha:Jp F args=some vs)(hpre:∀w,bI c.bs c.w0 w->cI c.bs c.w0.heap.size H w->pre w):
  VS P N c ⟨d, .call ⟨.value (.func f),args.toArray,ats⟩,ty,ps,af,g⟩ F H v:=λD a w next Q hst hk=>by
 refine⟨λ_ _ =>trivial,?_⟩;have hs:Oper.semAt (FA c.ro).round a.eval (⟨d, .call ⟨.value (.func f),args.toArray,ats⟩,ty,ps,af,g⟩:Oper)=execOp a.eval ⟨d, .call ⟨.value (.func f),args.toArray,ats⟩,ty,ps,af,g⟩:=Oper.semAt_eq _ _ _ (by simp);have hr:(execOp a.eval ⟨d, .call ⟨.value (.func f),args.toArray,ats⟩,ty,ps,af,g⟩).run P w= .ok (.enter f vs.toArray) w:=by
  have e2:=PJ hst.fr ha;have e1:a.eval (.func f)= .func (.func f) #[] #[]:=rfl;have e3: #[]++(args.toArray.map a.eval)++ #[]=vs.toArray:=by rw[← e2];simp
  simp only[execOp,resolve,e1,Deferred.ofValue,Sem.run_bind,Sem.run_pure,Result.andThen_ok,invoke,e3];exact hc.enter _ _
 rw[hs,hr];refine⟨λh=>by simp at h,oC c.ro ?_⟩;have zv:=hc.calls w (hpre w hst.si hst.hp) (cI.nil _ _ _);intro cs;obtain⟨e,w',fr,⟨i,hp,he,hsi,hh⟩,rest⟩:=zv cs;refine⟨e,w',fr,?_,rest⟩;subst he;exact hk w' hsi
end
end Go.Bw
namespace Go.Bw
open Go Go.RowKit
theorem NK{F:gC}:∀{ks:List Nat} {d:Nat} {v:Value},d∈ks->lk F d=some v->lk (uO F ks) d=some v:=by
 intro ks
 induction ks with
 |nil=>intro d v h;simp at h
 |cons k r ih=>
  intro d v h hl;simp only[uO];by_cases e:k=d
  ·subst e;rw[hl];simp[lk]
  ·have hm:d∈r:=by simpa[Ne.symm e]using h
   split
   ·simp only[lk,xO e,cond_false];exact ih hm hl
   ·exact ih hm hl
section
variable (ops:Array Oper)
def DL(i:Nat):List Nat:=match ops[i]? with
 |some o=>(o.after.toList.filter λe=>Region.binds .any e).map (·.on)
 |none=>[]
def tF(i:Nat):Option Nat:=(ops[i]?).bind (·.dst)
end
variable {P:Program} {N:Nat} {c:Cx} {D:List Deferred} {ops:Array Oper} {Q:Exit->Act->World->Prop}
def VG(P:Program)(N:Nat)(c:Cx)(ops:Array Oper)(o:Oper)(F:gC)(H:List aO)(v:Value):Prop:=∀D a w next Q,St N c D F H a w->(∀w',bI [] w w'->next (a.put o.dst v) w')->if Region.wanted o (yielded ops a.tmps)then o.wpIn (FA c.ro) 0 P a w next Q else next (a.put o.dst undef) w
theorem acC{o:Oper}{F:gC}{H:List aO}{v:Value}(hg:o.guard=none)(h:VS P N c o F H v):VG P N c ops o F H v:=λD a w next Q hst hk=>by simp only[Region.wanted,hg,if_true];exact h D a w next Q hst hk
def RG{α:Type}(P:Program)(N:Nat)(c:Cx)(ops:Array Oper)(o:Oper)(F:gC)(H:List aO)(p:α->Prop)(fv:α->Value)(fH:α->List aO):Prop:=∀D a w next Q,St N c D F H a w->(∀x w',p x->bI c.bs c.w0 w'->cI c.bs c.w0.heap.size (fH x) w'->next (a.put o.dst (fv x)) w')->if Region.wanted o (yielded ops a.tmps)then o.wpIn (FA c.ro) 0 P a w next Q else next (a.put o.dst undef) w
theorem aju{α:Type}{o:Oper}{F:gC}{H:List aO}{p:α->Prop}{fv:α->Value}{fH:α->List aO}(hg:o.guard=none)(h:RX P N c o F H p fv fH):RG P N c ops o F H p fv fH:=λD a w next Q hst hk=>by simp only[Region.wanted,hg,if_true];exact h D a w next Q hst hk
def RQ{α:Type}(P:Program)(N:Nat)(c:Cx)(D:List Deferred)(ops:Array Oper)(Q:Exit->Act->World->Prop)(o:Oper)(F:gC)(H:List aO)(p:α->Prop)(fv:α->Value)(fH:α->List aO):Prop:=∀a w next,St N c D F H a w->(∀x w',p x->bI c.bs c.w0 w'->cI c.bs c.w0.heap.size (fH x) w'->next (a.put o.dst (fv x)) w')->if Region.wanted o (yielded ops a.tmps)then o.wpIn (FA c.ro) 0 P a w next Q else next (a.put o.dst undef) w
abbrev Fl:=Nat×List Nat
def GQ(P:Program)(N:Nat)(c:Cx)(ops:Array Oper)(F:gC)(H:List aO):List Fl->Prop
 |[]=>True
 |(i,ks)::r=>(∃o d v,ops[i]? =some o/\o.dst=some d/\lk F d=some v/\VG P N c ops o (uO F ks) H v)/\GQ P N c ops F H r
def vj(P:Program)(N:Nat)(c:Cx)(ops:Array Oper)(H:List aO):List Fl->gC->(gC->Prop)->Prop
 |[],F,K=>K F
 |(i,ks)::r,F,K=>∃o d v,ops[i]? =some o/\o.dst=some d/\Nat.blt d N=true/\VG P N c ops o (uO F ks) H v/\vj P N c ops H r ((d,v)::F) K
inductive Tr where
 |fin (re new:List Fl)
 |MA (re new:List Fl) (t:Tr)
 |alt (s:Nat) (ks:List Nat) (here fA:Tr)
 |no
def Tr.alts:Tr->List Nat
 | .alt s _ _ fA=>s::fA.alts
 |_ =>[]
def Tr.No:Tr->Bool
 | .fin _ _ =>true
 | .MA _ _ _ =>true
 |_ =>false
def He(P:Program)(N:Nat)(c:Cx)(D:List Deferred)(ops:Array Oper)(Q:Exit->Act->World->Prop):Tr->gC->List aO->Prop
 | .fin re new,F,H=>GQ P N c ops F H re/\vj P N c ops H new F λF'=>WQ N c D Q .normal F' H
 | .MA re new t,F,H=>GQ P N c ops F H re/\vj P N c ops H new F λF'=>He P N c D ops Q t F' H
 | .alt s ks here fA,F,H=>(∃(o:Oper) (α:Type) (p:α->Prop) (fv:α->Value) (fH:α->List aO),ops[s]? =some o/\dOk N o.dst=true/\RQ P N c D ops Q o (uO F ks) H p fv fH/\∀x,p x->He P N c D ops Q here (pt o.dst (fv x) F) (fH x))/\He P N c D ops Q fA F H
 | .no,_,_ =>True
def Wm(ops:Array Oper)(s:Nat):List Nat:=(List.range s).reverse.foldl (λacc j=>if(DL ops s).contains j||acc.any (λk=>(DL ops k).contains j)then j::acc else acc) []
def zq(ops:Array Oper)(pu:List Nat)(i d:Nat):Bool:=pu.all λj=> !(tF ops j==some d)||(DL ops i).contains j
def HT(ops:Array Oper)(pu:List Nat):(seen:List Nat)->List Fl->Bool
 |_,[]=>true
 |seen,(i,ks)::r=>(DL ops i).all seen.contains&& !seen.contains i&&pu.contains i&&ks.all (zq ops pu i)&&HT ops pu (i::seen) r
def okS(ops:Array Oper)(pu:List Nat):Tr->(en Bk wm:List Nat)->Bool
 | .fin re new,en,Bk,wm=>Bk.all (re.map (·.1)).contains&&re.all (λq=>q.2.all (zq ops pu q.1))&&HT ops pu (en++wm) new&&
   (List.range ops.size).all λi=>en.contains i||(new.map (·.1)).contains i||wm.contains i
 | .MA re new t,en,Bk,wm=>
  Bk.all (re.map (·.1)).contains&&re.all (λq=>q.2.all (zq ops pu q.1))&&HT ops pu (en++wm) new&&
  (List.range ops.size).all (λi=>t.alts.contains i||(new.map (·.1)).contains i||en.contains i||wm.contains i||(DL ops i).any λj=> !((new.map (·.1)).contains j||en.contains j||wm.contains j))&&
  !t.alts.isEmpty&&okS ops pu t (en++new.map (·.1)) (Bk++new.map (·.1)) wm
 | .alt s ks here fA,en,Bk,wm=>ks.all (zq ops pu s)&& !pu.contains s&& !wm.contains s&&here.No&&okS ops pu here en (Bk.filter λi=> !(Wm ops s).contains i) (s::wm)&&okS ops pu fA en Bk wm
 | .no,_,_,_ =>true
def Yl(ops:Array Oper)(pu:List Nat):Bool:=(List.range ops.size).all (λi=>(DL ops i).all λj=>Nat.blt j i)&& pu.all λj=>(List.range ops.size).all λi=>i==j|| !(tF ops i==tF ops j)||(tF ops j).isNone
def Nz:Tr->List Nat
 | .fin _ new=>new.map (·.1)
 | .MA _ new t=>new.map (·.1)++Nz t
 | .alt _ _ here fA=>Nz here++Nz fA
 | .no=>[]
def afM(ops:Array Oper)(t:Tr):Bool:=t.No&&Yl ops (Nz t)&&okS ops (Nz t) t [] [] []
def dn(l:Array Bool)(j:Nat):Prop:=l.getD j false=true
theorem kx{l:Array Bool}{i j:Nat}(hi:i<l.size):dn (l.setIfInBounds i true) j↔dn l j\/j=i:=by
 unfold dn;simp only[Array.getD_eq_getD_getElem?,Array.getElem?_setIfInBounds];by_cases e:i=j
 ·subst e;simp[hi]
 ·simp[e,Ne.symm e]
theorem zn{l:Array Bool}{i:Nat}(hs:l.size=ops.size):i∈Region.ready .any ops l↔i<ops.size/\¬dn l i/\∀j∈DL ops i,dn l j:=by
 unfold Region.ready dn DL;simp only[List.mem_filter,List.mem_range,apv,Bool.not_eq_true'];constructor
 ·rintro⟨h1,h2,h3⟩
  have hi:i<l.size:=by omega
  refine⟨h1,?_,?_⟩
  ·simp[Array.getD_eq_getD_getElem?,hi]at h2 ⊢;exact h2
  ·cases ho:ops[i]? with
   |none=>simp
   |some o=>simp only[ho,Option.map_some,Option.getD_some,Array.all_eq_true']at h3;simp only[List.mem_map,List.mem_filter];rintro j ⟨e,⟨he,hb⟩,rfl⟩;have:=h3 e (by simpa using he);simpa[hb]using this
 ·rintro⟨h1,h2,h3⟩
  have hi:i<l.size:=by omega
  have ho:ops[i]? =some ops[i]:=Array.getElem?_eq_getElem h1;refine⟨h1,?_,?_⟩
  ·simp[Array.getD_eq_getD_getElem?,hi]at h2 ⊢;exact h2
  ·simp only[ho,Option.map_some,Option.getD_some,Array.all_eq_true']
   simp only[ho,List.mem_map,List.mem_filter]at h3;intro e he;cases hb:Region.binds .any e with
   |false=>simp
   |true=>simp only[Bool.not_true,Bool.false_or];exact h3 e.on ⟨e,⟨by simpa using he,hb⟩,rfl⟩
theorem ab7{l:Array Bool}{s:Nat}(wC:∀j,dn l j->∀k∈DL ops j,dn l k)(hs:∀j∈DL ops s,dn l j):∀j∈Wm ops s,dn l j:=by
 have key:∀(L:List Nat) (acc:List Nat),(∀j∈acc,dn l j)->∀j∈L.foldl (λacc j=>if(DL ops s).contains j||acc.any (λk=>(DL ops k).contains j)then j::acc else acc) acc,dn l j:=by
  intro L
  induction L with
  |nil=>intro acc h;exact h
  |cons x L ih=>
   intro acc h;simp only[List.foldl_cons];refine ih _ ?_;split
   ·rename_i hc
    intro j hj;rcases List.mem_cons.1 hj with rfl|hj
    ·simp only[Bool.or_eq_true,List.contains_eq_mem,decide_eq_true_eq,List.any_eq_true]at hc
     rcases hc with hc|⟨k,hk,hc⟩
     ·exact hs _ hc
     ·exact wC k (h k hk) _ hc
    ·exact h j hj
   ·exact h
 exact key _ [] (by simp)
structure Inv(P:Program)(N:Nat)(c:Cx)(D:List Deferred)(ops:Array Oper)(pu en pn wm:List Nat)(l:Array Bool)(F:gC)(H:List aO)(a:Act)(w:World):Prop where
 size:l.size=ops.size
 seen:∀j,dn l j->j∈en\/j∈wm
 sp:∀j∈wm,dn l j
 Bk:∀j∈en,¬dn l j->j∈pn
 XS:∀j∈en,j∈pu
 gX:∀j∈en,∀k∈DL ops j,k∈en\/k∈wm
 tm:a.tmps.size=N
 df:a.defers=D
 si:bI c.bs c.w0 w
 hp:cI c.bs c.w0.heap.size H w
 cl:∀j,dn l j->∀k∈DL ops j,dn l k
 fr:∀d v,lk F d=some v->(∀j∈en,tF ops j=some d->dn l j)->a.tmps[d]? =some v
def afr(P:Program)(N:Nat)(c:Cx)(ops:Array Oper)(pu:List Nat)(F:gC)(H:List aO)(j:Nat):Prop:=∃ks o d v,ops[j]? =some o/\o.dst=some d/\Nat.blt d N=true/\lk F d=some v/\VG P N c ops o (uO F ks) H v/\∀k∈ks,zq ops pu j k=true
theorem Inv.st{pu en pn wm:List Nat}{l:Array Bool}{F:gC}{H:List aO}{a:Act}{w:World}(h:Inv P N c D ops pu en pn wm l F H a w){i:Nat}{ks:List Nat}(hk:∀k∈ks,zq ops pu i k=true)
  (hr:∀j∈DL ops i,dn l j):St N c D (uO F ks) H a w:=by
 refine⟨h.tm,λd v hd=>?_,h.df,h.si,h.hp⟩;obtain⟨h1,h2⟩:=Pj hd;refine h.fr d v h2 λj hj JS=>?_;have:=hk d h1;simp only[zq,List.all_eq_true,Bool.or_eq_true,Bool.not_eq_true',List.contains_eq_mem,decide_eq_true_eq]at this;rcases this j (h.XS j hj)with h3|h3
 ·rw[JS]at h3;simp at h3
 ·exact hr j h3
theorem QY{pu:List Nat}(h:Yl ops pu=true){i j:Nat}(hi:i<ops.size)(hj:j∈DL ops i):j<i:=by simp only[Yl,apv,List.all_eq_true,List.mem_range]at h;have:=h.1 i hi j hj;simpa[Nat.blt_eq]using this
theorem Vm{pu:List Nat}(h:Yl ops pu=true){i j d:Nat}(hj:j∈pu)(hi:tF ops i=some d)(hd:tF ops j=some d):i=j:=by
 simp only[Yl,apv,List.all_eq_true,List.mem_range]at h;have hlt:i<ops.size:=by
  unfold tF at hi;cases ho:ops[i]? with
  |none=>simp[ho]at hi
  |some o=>exact(apA.1 ho).1
 have:=h.2 j hj i hlt;rw[hi,hd]at this;simpa using this
theorem Gs{i:Nat}{o:Oper}{d:Nat}(ho:ops[i]? =some o)(hd:o.dst=some d):tF ops i=some d:=by simp[tF,ho,hd]
theorem Xq{pu:List Nat}(hD:Yl ops pu=true){H:List aO}{K:gC->Prop}:∀{new:List Fl} {seen:List Nat} {F:gC},vj P N c ops H new F K->HT ops pu seen new=true->
  ∃F2,K F2/\(∀i∈new.map (·.1),i∈pu/\i∉seen)/\
   (∀d,(∀j∈new.map (·.1),tF ops j≠some d)->lk F2 d=lk F d)/\
   (∀i∈new.map (·.1),afr P N c ops pu F2 H i)/\(∀i∈new.map (·.1),∀k∈DL ops i,k∈seen\/k∈new.map (·.1)):=by
 intro new
 induction new with
 |nil=>intro seen F h _;exact⟨F,h,by simp,by simp,by simp,by simp⟩
 |cons q r ih=>
  obtain⟨i,ks⟩:=q;intro seen F h hc;obtain⟨o,d,v,ho,hd,hN,hv,hn⟩:=h;simp only[HT,apv,Bool.not_eq_true',List.all_eq_true,List.contains_eq_mem,decide_eq_true_eq,decide_eq_false_iff_not]at hc;obtain⟨⟨⟨⟨h1,h2⟩,h3⟩,h4⟩,h5⟩:=hc;obtain⟨F2,k1,k2,k3,k4,k5⟩:=ih hn h5;have hdi:=Gs ho hd;refine⟨F2,k1,?_,?_,?_,?_⟩
  ·intro j hj
   rcases List.mem_cons.1 hj with rfl|hj
   ·exact⟨h3,h2⟩
   ·obtain⟨e1,e2⟩:=k2 j hj
    exact⟨e1,λhm=>e2 (by simp[hm])⟩
  ·intro d' hd'
   rw[k3 d' (λj hj=>hd' j (by simp only[List.map_cons];exact apE _ hj))];have:¬d=d':=λe=>hd' i (by simp) (by rw[hdi,e]);simp[lk,xO this]
  ·intro j hj
   rcases List.mem_cons.1 hj with rfl|hj
   ·refine⟨ks,o,d,v,ho,hd,hN,?_,?_,h4⟩
    ·rw[k3 d (λj hj JS=>by
      have:=Vm hD (k2 j hj).1 hdi JS;exact(k2 j hj).2 (by simp[← this]))]
     simp[lk]
    ·intro D' a w next Q' hst hk
     refine hv D' a w next Q' (hst.sub λd' v' hl=>?_) hk
     obtain⟨e1,e2⟩:=Pj hl;refine NK e1 ?_;rw[k3 d' (λj hj JS=>by
      have hkk:=h4 d' e1;simp only[zq,List.all_eq_true,Bool.or_eq_true,Bool.not_eq_true',List.contains_eq_mem,decide_eq_true_eq]at hkk;rcases hkk j (k2 j hj).1 with h6|h6
      ·rw[JS]at h6;simp at h6
      ·exact(k2 j hj).2 (by simp[h1 j h6]))]
     have:¬d=d':=λe=>by
      have hkk:=h4 d' e1;simp only[zq,List.all_eq_true,Bool.or_eq_true,Bool.not_eq_true',List.contains_eq_mem,decide_eq_true_eq]at hkk;rcases hkk j h3 with h6|h6
      ·rw[hdi,e]at h6;simp at h6
      ·exact h2 (h1 j h6)
     simp only[lk,xO this,cond_false];exact e2
   ·exact k4 j hj
  ·intro j hj k hk
   rcases List.mem_cons.1 hj with rfl|hj
   ·exact .inl (h1 k hk)
   ·rcases k5 j hj k hk with h6|h6
    ·rcases List.mem_cons.1 h6 with rfl|h6
     ·exact .inr (by simp)
     ·exact .inl h6
    ·exact .inr (by simp only[List.map_cons];exact apE _ h6)
theorem ZP{F:gC}{H:List aO}:∀{re:List Fl} {i:Nat},GQ P N c ops F H re->i∈re.map (·.1)->∃ks o d v,(i,ks)∈re/\ops[i]? =some o/\o.dst=some d/\lk F d=some v/\VG P N c ops o (uO F ks) H v:=by
 intro re
 induction re with
 |nil=>intro i _ hi;simp at hi
 |cons q r ih=>
  obtain⟨j,ks⟩:=q;intro i h hi;obtain⟨⟨o,d,v,h1,h2,h3,h4⟩,h5⟩:=h;rcases List.mem_cons.1 hi with rfl|hi
  ·exact⟨ks,o,d,v,by simp,h1,h2,h3,h4⟩
  ·obtain⟨ks',o',d',v',e1,e2⟩:=ih h5 hi
   exact⟨ks',o',d',v',by simp[e1],e2⟩
def ajI(P:Program)(N:Nat)(c:Cx)(D:List Deferred)(ops:Array Oper)(Q:Exit->Act->World->Prop)(pu:List Nat)(en pn wm:List Nat)(F:gC)(H:List aO):Prop:=((∀i,i<ops.size->i∈en\/i∈wm)/\WQ N c D Q .normal F H)\/ ∃t:Tr,He P N c D ops Q t F H/\okS ops pu t en pn wm=true/\t.alts≠[]/\(∀i,i<ops.size->i∈t.alts\/i∈en\/i∈wm\/∃j∈DL ops i,j∉en/\j∉wm)
theorem Wo{pu en pn wm:List Nat}{F:gC}{H:List aO}{i:Nat}:∀{t:Tr},i∈t.alts->He P N c D ops Q t F H->okS ops pu t en pn wm=true->
  ∃(ks:List Nat) (o:Oper) (α:Type) (p:α->Prop) (fv:α->Value) (fH:α->List aO) (r:Tr),ops[i]? =some o/\dOk N o.dst=true/\RQ P N c D ops Q o (uO F ks) H p fv fH/\(∀x,p x->He P N c D ops Q r (pt o.dst (fv x) F) (fH x))/\
   (∀k∈ks,zq ops pu i k=true)/\i∉pu/\i∉wm/\r.No=true/\okS ops pu r en (pn.filter λj=> !(Wm ops i).contains j) (i::wm)=true:=by
 intro t
 induction t with
 |fin re new=>intro h;simp[Tr.alts]at h
 |MA re new t _ =>intro h;simp[Tr.alts]at h
 |no=>intro h;simp[Tr.alts]at h
 |alt s ks here fA _ ih=>
  intro h hs hc;obtain⟨h1,h2⟩:=hs;simp only[okS,apv,Bool.not_eq_true',List.all_eq_true]at hc;obtain⟨⟨⟨⟨⟨c1,c2⟩,c3⟩,c4⟩,c5⟩,c6⟩:=hc;rcases List.mem_cons.1 h with rfl|h
  ·obtain⟨o,α,p,fv,fH,e1,e2,e3,e4⟩:=h1
   exact⟨ks,o,α,p,fv,fH,here,e1,e2,e3,e4,c1,by simpa using c2,by simpa using c3,c4,c5⟩
  ·exact ih h h2 c6
theorem ahh{i:Nat}{d:Nat}(h:tF ops i=some d):i<ops.size:=by
 unfold tF at h;cases ho:ops[i]? with
 |none=>simp[ho]at h
 |some o=>exact(apA.1 ho).1
theorem enter{pu:List Nat}(hD:Yl ops pu=true){en Bk wm:List Nat}{l:Array Bool}{F:gC}{H:List aO}{a:Act}{w:World}{st:Tr}(hst:st.No=true)
  (hI:Inv P N c D ops pu en Bk wm l F H a w)(hN:∀j∈en,∀d,tF ops j=some d->Nat.blt d N=true)(hs:He P N c D ops Q st F H)(hc:okS ops pu st en Bk wm=true):
  ∃en2 pn2 F2,Inv P N c D ops pu en2 pn2 wm l F2 H a w/\(∀j∈en2,∀d,tF ops j=some d->Nat.blt d N=true)/\(∀j∈en2,¬dn l j->afr P N c ops pu F2 H j)/\ajI P N c D ops Q pu en2 pn2 wm F2 H:=by
 have key:∀{re new:List Fl} {K:gC->Prop},GQ P N c ops F H re->vj P N c ops H new F K->(∀j∈Bk,j∈re.map (·.1))->(∀q∈re,∀k∈q.2,zq ops pu q.1 k=true)->HT ops pu (en++wm) new=true->
   ∃F2,K F2/\Inv P N c D ops pu (en++new.map (·.1)) (Bk++new.map (·.1)) wm l F2 H a w/\(∀j∈en++new.map (·.1),∀d,tF ops j=some d->Nat.blt d N=true)/\(∀j∈en++new.map (·.1),¬dn l j->afr P N c ops pu F2 H j):=by
  intro re new K Fq hnew hp hk hch;obtain⟨F2,k1,k2,k3,k4,k5⟩:=Xq hD hnew hch;refine⟨F2,k1,⟨hI.size,?_,hI.sp,?_,?_,?_,hI.tm,hI.df,hI.si,hI.hp,hI.cl,?_⟩,?_,?_⟩
  ·intro j hj;rcases hI.seen j hj with h|h
   ·exact .inl (by simp[h])
   ·exact .inr h
  ·intro j hj vE
   rcases List.mem_append.1 hj with h|h
   ·exact apz _ (hI.Bk j h vE)
   ·exact apy _ h
  ·intro j hj
   rcases List.mem_append.1 hj with h|h
   ·exact hI.XS j h
   ·exact(k2 j h).1
  ·intro j hj k hk'
   rcases List.mem_append.1 hj with h|h
   ·rcases hI.gX j h k hk' with h1|h1
    ·exact .inl (by simp[h1])
    ·exact .inr h1
   ·rcases k5 j h k hk' with h1|h1
    ·rcases List.mem_append.1 h1 with h2|h2
     ·exact .inl (by simp[h2])
     ·exact .inr h2
    ·exact .inl (apy _ h1)
  ·intro d v hl hdn
   by_cases hex:∃j∈new.map (·.1),tF ops j=some d
   ·obtain⟨j,hj,JS⟩:=hex
    have h1:=hdn j (apy _ hj) JS;exact absurd (hI.seen j h1) (λh2=>(k2 j hj).2 (by rcases h2 with h2|h2<;>simp[h2]))
   ·rw[k3 d (λj hj JS=>hex ⟨j,hj,JS⟩)]at hl
    exact hI.fr d v hl (λj hj JS=>hdn j (apz _ hj) JS)
  ·intro j hj d JS
   rcases List.mem_append.1 hj with h|h
   ·exact hN j h d JS
   ·obtain⟨ks,o,d',v,e1,e2,e3,_⟩:=k4 j h
    have:=Gs e1 e2;rw[JS]at this;cases this;exact e3
  ·intro j hj vE
   rcases List.mem_append.1 hj with h|h
   ·obtain⟨ks,o,d,v,e0,e1,e2,e3,e4⟩:=ZP Fq (hp j (hI.Bk j h vE))
    have JS:=Gs e1 e2;have hkk:∀k∈ks,zq ops pu j k=true:=λk hk'=>hk _ e0 k hk';refine⟨ks,o,d,v,e1,e2,hN j h d JS,?_,?_,hkk⟩
    ·rw[k3 d (λj' hj' ah7=>by
      have:=Vm hD (k2 j' hj').1 JS ah7;subst this;exact(k2 _ hj').2 (by simp[h]))]
     exact e3
    ·intro D' a' w' next Q' hst hk'
     refine e4 D' a' w' next Q' (hst.sub λd' v' hl=>?_) hk'
     obtain⟨f1,f2⟩:=Pj hl;refine NK f1 ?_;rw[k3 d' (λj' hj' ah7=>by
      have hq:=hkk d' f1;simp only[zq,List.all_eq_true,Bool.or_eq_true,Bool.not_eq_true',List.contains_eq_mem,decide_eq_true_eq]at hq;rcases hq j' (k2 j' hj').1 with h6|h6
      ·rw[ah7]at h6;simp at h6
      ·refine(k2 j' hj').2 ?_
       rcases hI.gX j h j' h6 with h7|h7<;>simp[h7])]
     exact f2
   ·exact k4 j h
 cases st with
 |no=>simp[Tr.No]at hst
 |alt _ _ _ _ =>simp[Tr.No]at hst
 |fin re new=>
  obtain⟨Fq,hnew⟩:=hs;simp only[okS,apv,List.all_eq_true,List.contains_eq_mem,decide_eq_true_eq,List.mem_range,Bool.or_eq_true]at hc;obtain⟨⟨⟨c1,c2⟩,c3⟩,c4⟩:=hc;obtain⟨F2,k1,k2,k3,k4⟩:=key Fq hnew c1 c2 c3;exact⟨_,_,F2,k2,k3,k4, .inl ⟨λi hi=>by
   rcases c4 i hi with(h|h)|h
   ·exact .inl (by simp[h])
   ·exact .inl (apy _ h)
   ·exact .inr h,k1⟩⟩
 |MA re new t=>
  obtain⟨Fq,hnew⟩:=hs;simp only[okS,apv,List.all_eq_true,List.contains_eq_mem,decide_eq_true_eq,List.mem_range,Bool.or_eq_true,Bool.not_eq_true',List.any_eq_true]at hc;obtain⟨⟨⟨⟨⟨c1,c2⟩,c3⟩,c7⟩,c6⟩,c8⟩:=hc;obtain⟨F2,k1,k2,k3,k4⟩:=key Fq hnew c1 c2 c3;refine⟨_,_,F2,k2,k3,k4, .inr ⟨t,k1,c8,λe=>by simp[e]at c6,λi hi=>?_⟩⟩;rcases c7 i hi with(((h|h)|h)|h)|h
  ·exact .inl h
  ·exact .inr (.inl (apy _ h))
  ·exact .inr (.inl (by simp[h]))
  ·exact .inr (.inr (.inl h))
  ·obtain⟨j,hj,hn⟩:=h
   refine .inr (.inr (.inr ⟨j,hj,λhm=>?_,λhm=>?_⟩))
   ·rcases List.mem_append.1 hm with h1|h1
    ·simp[h1]at hn
    ·have h1':decide (j∈new.map (·.1))=true:=apw h1
     rw[h1']at hn;simp at hn
   ·simp[hm]at hn
theorem R7{pu:List Nat}(hD:Yl ops pu=true){l:Array Bool}(hs:l.size=ops.size)(hr:Region.ready .any ops l=[]):∀i,i<ops.size->dn l i:=by
 intro i
 induction i using Nat.strongRecOn with
 |_ i ih=>
  intro hi;by_cases hd:dn l i
  ·exact hd
  ·have:i∈Region.ready .any ops l:=(zn hs).2 ⟨hi,hd,λj hj=>ih j (QY hD hi hj) (Nat.lt_trans (QY hD hi hj) hi)⟩
   rw[hr]at this;simp at this
def xj(ops:Array Oper)(l:Array Bool):Nat:=((List.range ops.size).filter λi=> !l.getD i false).length
theorem XP{p q:Nat->Bool}(h:∀x,q x=true->p x=true):∀(L:List Nat),(L.filter q).length<=(L.filter p).length:=by
 intro L
 induction L with
 |nil=>simp
 |cons x L ih=>
  by_cases hq:q x=true
  ·simp[hq,h x hq,ih]
  ·by_cases hp:p x=true
   ·simp[hq,hp];omega
   ·simp[hq,hp,ih]
theorem XO{p q:Nat->Bool}(h:∀x,q x=true->p x=true){i:Nat}(hp:p i=true)(hq:q i=false):∀(L:List Nat),i∈L->(L.filter q).length<(L.filter p).length:=by
 intro L
 induction L with
 |nil=>intro hi;simp at hi
 |cons x L ih=>
  intro hi;by_cases e:i=x
  ·subst e
   have:=XP h L;simp[hp,hq];omega
  ·have hi':i∈L:=by simpa[e]using hi
   have:=ih hi';by_cases hqx:q x=true
   ·simp[hqx,h x hqx];omega
   ·by_cases hpx:p x=true
    ·simp[hqx,hpx];omega
    ·simp[hqx,hpx];omega
theorem KZ{l:Array Bool}{i:Nat}(hs:l.size=ops.size)(hi:i<ops.size)(hd:¬dn l i):xj ops (l.setIfInBounds i true)<xj ops l:=by
 unfold xj;have Ao:i<l.size:=by omega
 refine XO (i:=i) (λx hx=>?_) ?_ ?_ _ (by simpa using hi)
 ·have h1:¬dn (l.setIfInBounds i true) x:=by simpa[dn]using hx
  have h2:¬dn l x:=λh=>h1 ((kx Ao).2 (.inl h));simpa[dn]using h2
 ·simpa[dn]using hd
 ·have:dn (l.setIfInBounds i true) i:=(kx Ao).2 (.inr rfl)
  simpa[dn]using this
theorem WU{pu:List Nat}(hD:Yl ops pu=true):∀(fuel:Nat) (l:Array Bool) (a:Act) (w:World) (en pn wm:List Nat) (F:gC) (H:List aO),xj ops l<=fuel->
  Inv P N c D ops pu en pn wm l F H a w->(∀j∈en,∀d,tF ops j=some d->Nat.blt d N=true)->(∀j∈en,¬dn l j->afr P N c ops pu F H j)->ajI P N c D ops Q pu en pn wm F H->
  wpAnyIn (FA c.ro) 0 P .any ops Q fuel l a w:=by
 intro fuel;have aby:∀(l:Array Bool) (a:Act) (w:World) (en pn wm:List Nat) (F:gC) (H:List aO),Inv P N c D ops pu en pn wm l F H a w->ajI P N c D ops Q pu en pn wm F H->(∀i,i<ops.size->dn l i)->Q .normal a w:=by
  intro l a w en pn wm F H hI hC xG;rcases hC with⟨_,hq⟩|⟨t,hst,hok,hne,_⟩
  ·refine hq a w ⟨hI.tm,λd v hl=>hI.fr d v hl λj _ JS=>xG j (ahh JS),hI.df,hI.si,hI.hp⟩
  ·obtain⟨s,hs⟩:=List.exists_mem_of_ne_nil _ hne
   obtain⟨ks,o,α,p,fv,fH,r,e1,_,_,_,_,e5,e6,_,_⟩:=Wo hs hst hok;have hlt:=(apA.1 e1).1;rcases hI.seen s (xG s hlt)with h|h
   ·exact absurd (hI.XS s h) e5
   ·exact absurd h e6
 induction fuel with
 |zero=>
  intro l a w en pn wm F H hu hI hN hV hC;have xG:∀i,i<ops.size->dn l i:=λi hi=>by unfold xj at hu;have h0:(List.range ops.size).filter (λi=> !l.getD i false)=[]:=List.length_eq_zero_iff.1 (by omega);rw[List.filter_eq_nil_iff]at h0;have:=h0 i (by simpa using hi);simpa[dn]using this
  refine⟨?_,aby l a w en pn wm F H hI hC xG⟩;cases hr:Region.ready .any ops l with
  |nil=>rfl
  |cons i r=>
   have:i∈Region.ready .any ops l:=by rw[hr];simp
   obtain⟨h1,h2,_⟩:=(zn hI.size).1 this;exact absurd (xG i h1) h2
 |succ fuel ih=>
  intro l a w en pn wm F H hu hI hN hV hC;refine⟨λhr=>aby l a w en pn wm F H hI hC (R7 hD hI.size hr),λi hi=>?_⟩;obtain⟨h1,h2,h3⟩:=(zn hI.size).1 hi;have Ao:i<l.size:=by rw[hI.size];exact h1
  have hu':xj ops (l.setIfInBounds i true)<=fuel:=by have:=KZ hI.size h1 h2;omega
  have alR:∀j,dn (l.setIfInBounds i true) j->∀k∈DL ops j,dn (l.setIfInBounds i true) k:=λj hj k hk=>by
   rcases(kx Ao).1 hj with h|rfl
   ·exact(kx Ao).2 (.inl (hI.cl j h k hk))
   ·exact(kx Ao).2 (.inl (h3 k hk))
  by_cases hen:i∈en
  ·
   obtain⟨ks,o,d,v,e1,e2,e3,e4,e5,e6⟩:=hV i hen h2;have hst:=hI.st (i:=i) e6 h3;have hdi:=Gs e1 e2;have step:=e5 D a w (wpAnyIn (FA c.ro) 0 P .any ops Q fuel (l.setIfInBounds i true)) Q hst;have nxt:∀w',bI [] w w'->wpAnyIn (FA c.ro) 0 P .any ops Q fuel (l.setIfInBounds i true) (a.put o.dst v) w':=by
    intro w' hw;refine ih _ _ _ en pn wm F H hu' ⟨by simp[hI.size],?_,?_,?_,hI.XS,hI.gX,?_,?_,hI.si.ext hw,hI.hp.ext hw,alR,?_⟩ hN ?_ hC
    ·intro j hj
     rcases(kx Ao).1 hj with h|rfl
     ·exact hI.seen j h
     ·exact .inl hen
    ·intro j hj;exact(kx Ao).2 (.inl (hI.sp j hj))
    ·intro j hj vE;exact hI.Bk j hj λh=>vE ((kx Ao).2 (.inl h))
    ·rw[e2];simp[Act.put,hI.tm]
    ·rw[e2];simp[Act.put,hI.df]
    ·intro d' v' hl hdn
     rw[e2];have hdN:d<a.tmps.size:=by rw[hI.tm];simpa[Nat.blt_eq]using e3
     by_cases e:d=d'
     ·subst e
      rw[e4]at hl;cases hl;simp[Act.put,hdN]
     ·simp only[Act.put,Array.getElem?_setIfInBounds,apt e]
      refine hI.fr d' v' hl λj hj JS=>?_;rcases(kx Ao).1 (hdn j hj JS)with h|rfl
      ·exact h
      ·rw[hdi]at JS;cases JS;exact absurd rfl e
    ·intro j hj vE
     exact hV j hj λh=>vE ((kx Ao).2 (.inl h))
   have step:=step nxt;unfold wpOpIn;simp only[e1];split
   ·rename_i hw;simp only[hw,if_true]at step;exact step
   ·rename_i hw;simp only[hw]at step;exact⟨λ_ _ =>trivial,step⟩
  ·
   have hsp:i∉wm:=λh=>h2 (hI.sp i h);rcases hC with⟨xG,_⟩|⟨t,aoh,hok,_,e8⟩
   ·rcases xG i h1 with h|h
    ·exact absurd h hen
    ·exact absurd h hsp
   ·have his:i∈t.alts:=by
     rcases e8 i h1 with h|h|h|⟨j,hj,h4,h5⟩
     ·exact h
     ·exact absurd h hen
     ·exact absurd h hsp
     ·rcases hI.seen j (h3 j hj)with h|h
      ·exact absurd h h4
      ·exact absurd h h5
    obtain⟨ks,o,α,p,fv,fH,r,e1,e2,e3,e4,e5,e6,e7,e10,e9⟩:=Wo his aoh hok;have hst:=hI.st (i:=i) e5 h3;have step:=e3 a w (wpAnyIn (FA c.ro) 0 P .any ops Q fuel (l.setIfInBounds i true)) hst;have nxt:∀x w',p x->bI c.bs c.w0 w'->cI c.bs c.w0.heap.size (fH x) w'->wpAnyIn (FA c.ro) 0 P .any ops Q fuel (l.setIfInBounds i true) (a.put o.dst (fv x)) w':=by
     intro x w' hp hsi hhp;have hI':Inv P N c D ops pu en (pn.filter λj=> !(Wm ops i).contains j) (i::wm) (l.setIfInBounds i true) (pt o.dst (fv x) F) (fH x) (a.put o.dst (fv x)) w':=by
      refine⟨by simp[hI.size],?_,?_,?_,hI.XS,?_,?_,?_,hsi,hhp,alR,?_⟩
      ·intro j hj
       rcases(kx Ao).1 hj with h|rfl
       ·rcases hI.seen j h with h|h
        ·exact .inl h
        ·exact .inr (by simp[h])
       ·exact .inr (by simp)
      ·intro j hj
       rcases List.mem_cons.1 hj with rfl|h
       ·exact(kx Ao).2 (.inr rfl)
       ·exact(kx Ao).2 (.inl (hI.sp j h))
      ·intro j hj vE
       have alD:¬dn l j:=λh=>vE ((kx Ao).2 (.inl h));simp only[List.mem_filter,Bool.not_eq_true',List.contains_eq_mem,decide_eq_false_iff_not];exact⟨hI.Bk j hj alD,λhm=>alD (ab7 hI.cl h3 j hm)⟩
      ·intro j hj k hk
       rcases hI.gX j hj k hk with h|h
       ·exact .inl h
       ·exact .inr (by simp[h])
      ·cases o.dst<;>simp[Act.put,hI.tm]
      ·cases o.dst<;>simp[Act.put,hI.df]
      ·intro d v hl hdn
       have old:lk F d=some v->a.tmps[d]? =some v:=λhl'=>hI.fr d v hl' λj hj JS=>by
        rcases(kx Ao).1 (hdn j hj JS)with h|rfl
        ·exact h
        ·exact absurd (hI.XS _ hj) e6
       cases ho:o.dst with
       |none=>rw[ho]at hl;exact old hl
       |some k=>
        rw[ho]at hl e2;have hkN:k<a.tmps.size:=by rw[hI.tm];simpa[dOk,Nat.blt_eq]using e2
        simp only[pt,lk]at hl;by_cases e:k=d
        ·subst e;simp at hl;subst hl;simp[Act.put,hkN]
        ·rw[xO e]at hl
         simp only[Act.put,Array.getElem?_setIfInBounds,apt e];exact old hl
     obtain⟨en2,pn2,F2,k1,k2,k3,k4⟩:=enter hD e10 hI' hN (e4 x hp) e9;exact ih _ _ _ en2 pn2 (i::wm) F2 (fH x) hu' k1 k2 k3 k4
    have step:=step nxt;unfold wpOpIn;simp only[e1];split
    ·rename_i hw;simp only[hw,if_true]at step;exact step
    ·rename_i hw;simp only[hw]at step;exact⟨λ_ _ =>trivial,step⟩
section
variable {F:gC} {H:List aO}
theorem xT:GQ P N c ops F H []:=trivial
theorem N9{i:Nat}{ks:List Nat}{r:List Fl}{d:Nat}{v:Value}{op:Op}{ty:TypeId}{ps:String}{af:Array Edge}{g:Option (Nat×Bool)}(ho:ops[i]? =some ⟨some d,op,ty,ps,af,g⟩)(hl:lk F d=some v)(hv:VG P N c ops ⟨some d,op,ty,ps,af,g⟩ (uO F ks) H v)(hr:GQ P N c ops F H r):
  GQ P N c ops F H ((i,ks)::r):=⟨⟨_,d,v,ho,rfl,hl,hv⟩,hr⟩
theorem kQ{K:gC->Prop}(h:K F):vj P N c ops H [] F K:=h
theorem Fh{i:Nat}{ks:List Nat}{r:List Fl}{K:gC->Prop}{d:Nat}{v:Value}{op:Op}{ty:TypeId}{ps:String}{af:Array Edge}{g:Option (Nat×Bool)}(ho:ops[i]? =some ⟨some d,op,ty,ps,af,g⟩)(hN:Nat.blt d N=true)
  (hv:VG P N c ops ⟨some d,op,ty,ps,af,g⟩ (uO F ks) H v)(hr:vj P N c ops H r ((d,v)::F) K):vj P N c ops H ((i,ks)::r) F K:=⟨_,d,v,ho,rfl,hN,hv,hr⟩
theorem yE{re new:List Fl}{t:Tr}(h1:GQ P N c ops F H re)(h2:vj P N c ops H new F λF'=>He P N c D ops Q t F' H):He P N c D ops Q (.MA re new t) F H:=⟨h1,h2⟩
theorem acG:He P N c D ops Q .no F H:=trivial
theorem Se{s:Nat}{ks:List Nat}{here fA:Tr}{d:Nat}{op:Op}{ty:TypeId}{ps:String}{af:Array Edge}{g:Option (Nat×Bool)}{α:Type}{p:α->Prop}{fv:α->Value}{fH:α->List aO}
  (ho:ops[s]? =some ⟨some d,op,ty,ps,af,g⟩)(hN:Nat.blt d N=true)(hv:RG P N c ops ⟨some d,op,ty,ps,af,g⟩ (uO F ks) H p fv fH)(h:∀x,p x->He P N c D ops Q here ((d,fv x)::F) (fH x))(hm:He P N c D ops Q fA F H):He P N c D ops Q (.alt s ks here fA) F H:=
 ⟨⟨_,α,p,fv,fH,ho,hN,λa w next=>hv D a w next Q,h⟩,hm⟩
theorem acF{s:Nat}{ks:List Nat}{here fA:Tr}{op:Op}{ty:TypeId}{ps:String}{af:Array Edge}{g:Option (Nat×Bool)}{α:Type}{p:α->Prop}{fv:α->Value}{fH:α->List aO}
  (ho:ops[s]? =some ⟨none,op,ty,ps,af,g⟩)(hv:RG P N c ops ⟨none,op,ty,ps,af,g⟩ (uO F ks) H p fv fH)(h:∀x,p x->He P N c D ops Q here F (fH x))(hm:He P N c D ops Q fA F H):He P N c D ops Q (.alt s ks here fA) F H:=
 ⟨⟨_,α,p,fv,fH,ho,rfl,λa w next=>hv D a w next Q,h⟩,hm⟩
end
theorem PZ{id:Nat}{l:List Oper}{F:gC}{H:List aO}(hm:P.follows .mixedOrders=true)(st:Tr)(hok:afM l.toArray st=true)
  (h:He P N c D l.toArray Q st F H):WP P N c D (.region id l.toArray true) Q F H:=λa w hst=>by
 simp only[afM,apv]at hok;refine wpIn_region_any hm ?_;have hdn:∀j,¬dn (Array.replicate l.toArray.size false) j:=λj h=>by unfold dn at h;simp only[Array.getD_eq_getD_getElem?,Array.getElem?_replicate]at h;split at h<;>simp at h
 have hI:Inv P N c D l.toArray (Nz st) [] [] [] (Array.replicate l.toArray.size false) F H a {w with drawn:=w.drawn+1}:=
  ⟨by simp,λj hj=>absurd hj (hdn j),by simp,by simp,by simp,by simp,hst.tm,hst.df,hst.si.drawn _,⟨λr hr=>hst.hp.holds r hr,hst.hp.own,hst.hp.apart⟩,λj hj=>absurd hj (hdn j),λd v hl _ =>hst.fr d v hl⟩
 obtain⟨en2,pn2,F2,k1,k2,k3,k4⟩:=enter hok.1.2 hok.1.1 hI (by simp) h hok.2;refine WU hok.1.2 _ _ _ _ en2 pn2 [] F2 H ?_ k1 k2 k3 k4;unfold xj;exact Nat.le_trans (List.length_filter_le _ _) (by simp)
end Go.Bw
namespace Go.Bw
open Go Go.RowKit
theorem RL{F:gC}{x:Operand}{r:List Operand}{v:Value}{vs:List Value}(h:ev F x=some v)(hr:Jp F r=some vs):Jp F (x::r)=some (v::vs):=by simp[Jp,h,hr]
def jG(v:Value)(k:Nat):Value:=match v with
 | .slice (some a) _ _ => .pointer (some ⟨a.block,a.off+k,none⟩)
 |_ =>undef
theorem Ro.since{w w':World}{v:Value}{sz n:Nat}{xs:List Value}(h:Ro w v sz n xs)(hs:bI [] w w'):Ro w' v sz n xs:=by
 refine⟨h.1,?_⟩;rcases h.2 with h0|⟨g,off,cap,h1,h2,h3,h4⟩
 ·exact .inl h0
 ·exact .inr ⟨g,off,cap,h1,Nat.lt_of_lt_of_le h2 hs.size,h3,λj u hu=>(World.cell?_of_block (hs.block g h2 (by simp))).trans (h4 j u hu)⟩
theorem Ro.Ab{w:World}{v:Value}{e sz n:Nat}{xs:List Value}(h:(aO.row v e sz n xs).holds w):Ro w v sz n xs:=by
 have h':w.ownsRow 0 e sz v n xs:=h;refine⟨h'.1,?_⟩;rcases h'.2 with h0|⟨g,cap,cur,h1,_,h3,h4,_,h5,h6⟩
 ·exact .inl ⟨⟨_,_,h0.1⟩,h0.2⟩
 ·refine .inr ⟨g,0,cap,h1,(apA.1 h3).1,h4,λj u hu=>?_⟩
  have:=World.ownsRow.cells (g:=g) h' (by rw[h1];rfl) j u hu;rwa[Addr.add_lit]at this
theorem Ro.at {w:World}{v:Value}{sz n m:Nat}{xs:List Value}(h:Ro w v sz n xs)(hm:m<n):∃g off cap,v= .slice (some ⟨g,off,none⟩) n cap/\g<w.heap.size/\n<=cap/\∀(j:Nat) u,xs[j]? =some u->w.cell? ⟨g,off+j,none⟩=some u:=by
 rcases h.2 with⟨_,h0⟩|h1
 ·omega
 ·exact h1
section
variable {P:Program} {N:Nat} {c:Cx} {F:gC} {H:List aO} {d:Option Tmp} {ty:TypeId} {p:String} {af:Array Edge} {g:Option (Nat×Bool)}
class tH(c:Cx)(H:List aO)(v:Value)(sz n:outParam Nat)(xs:outParam (List Value)):Prop where
 ro:∀w,bI c.bs c.w0 w->cI c.bs c.w0.heap.size H w->Ro w v sz n xs
theorem UF{x:Operand}{v:Value}{t e q sz n:Nat}{xs:List Value}[ht:zG P t e q](hx:ev F x=some v)[h:tH c H v sz n xs]:VS P N c ⟨d, .call ⟨.builtin .len, #[x], #[t]⟩,ty,p,af,g⟩ F H (.int .i64 n):=
 bp (by simp) λa w hf hs hp=>by have hr:=h.ro w hs hp;obtain⟨inf,h1,_,_⟩:=zG.get ht.ok;rcases hr.2 with⟨⟨a0,cp,rfl⟩,rfl⟩|⟨g,off,cap,rfl,_⟩<;>simp[execOp,resolve,invoke,builtin,bB hf hx,Builtin.len_,goInt,run_underlying h1]
theorem AP{x y:Operand}{t e sz n:Nat}{v:Value}{xs:List Value}{k:IntKind}{i:Int}{m:Nat}[ht:zG P t e sz](hx:ev F x=some v)(hy:ev F y=some (.int k i))[h:tH c H v sz n xs](hi:i=(m:Int))(hm:m<n):
  VS P N c ⟨d, .indexAddr t x y,ty,p,af,g⟩ F H (jG v (m*sz)):=
 bp (by simp) λa w hf hs hp=>by obtain⟨g,off,cap,rfl,_,_,_⟩:=(h.ro w hs hp).at hm;obtain⟨inf,h1,h2,h3⟩:=zG.get ht.ok;subst hi;simp[execOp,bB hf hx,bB hf hy,Instr.indexAt,asIntOf,run_underlying h1,sizeOf,typeInfo,h2,h3,Addr.add_lit,jG];intro hle;omega
theorem P4{x:Operand}{s f fo k m sz n:Nat}{v:Value}{xs:List Value}[GN P s f fo](hx:ev F x=some (jG v k))[h:tH c H v sz n xs](hm:m<n):VS P N c ⟨d, .fieldAddr s x f,ty,p,af,g⟩ F H (jG v (k+fo)):=
 bp (by simp) λa w hf hs hp=>by obtain⟨g,off,cap,rfl,_,_,_⟩:=(h.ro w hs hp).at hm;have:=B7 (P:=P) (s:=s) (f:=f) (b:=g) (off:=off+k) w;simp only[execOp,bB hf hx,jG];simp[this,Nat.add_assoc]
theorem Jz{x:Operand}{t k sz n:Nat}{v u:Value}{xs:List Value}(hx:ev F x=some (jG v k))[h:tH c H v sz n xs][s9 P t](hv:xs[k]? =some u):VS P N c ⟨d, .load t x,ty,p,af,g⟩ F H u:=
 bp (by simp) λa w hf hs hp=>by
  have hr:=h.ro w hs hp;have hl:=(List.getElem?_eq_some_iff.1 hv).1;have hn:0<n:=by
   rcases Nat.eq_zero_or_pos n with h0|h0
   ·subst h0;have:=hr.1;omega
   ·exact h0
  obtain⟨g,off,cap,rfl,_,_,h4⟩:=hr.at hn;have:=oL (P:=P) (t:=t) (a:=⟨g,off+k,none⟩) (h4 k u hv);simp[execOp,bB hf hx,jG,Instr.loadAt,Instr.sureAddr,this]
theorem P3{x:Operand}{t k sz n q:Nat}{v:Value}{xs us:List Value}(hx:ev F x=some (jG v k))[h:tH c H v sz n xs][wH P t q](hv:(xs.drop k).take q=us)(hq:us.length=q)(h0:0<q):VS P N c ⟨d, .load t x,ty,p,af,g⟩ F H (.agg us.toArray):=
 bp (by simp) λa w hf hs hp=>by
  have hr:=h.ro w hs hp;have hl:0<xs.length:=by
   have:us.length<=xs.length:=by rw[← hv];simp;omega
   omega
  have hn:0<n:=by
   rcases Nat.eq_zero_or_pos n with h0|h0
   ·subst h0;have:=hr.1;omega
   ·exact h0
  obtain⟨g,off,cap,rfl,_,_,h4⟩:=hr.at hn;have:=oM (P:=P) (t:=t) (b:=g) (off:=off+k) (w:=w) hq (λj u hj=>by
   rw[← hv,List.getElem?_take]at hj;split at hj
   ·rw[List.getElem?_drop]at hj;rw[Nat.add_assoc];exact h4 _ u hj
   ·cases hj)
  simp[execOp,bB hf hx,jG,Instr.loadAt,Instr.sureAddr,this]
theorem ajd{x y:Operand}{k:IntKind}{a b:Int}{ats:Array TypeId}(hx:ev F x=some (.int k a))(hy:ev F y=some (.int k b)):VS P N c ⟨d, .call ⟨.builtin .min, #[x,y],ats⟩,ty,p,af,g⟩ F H (.int k (if b<a then b else a)):=
 bp (by simp) λa' w hf _ _ =>by simp[execOp,resolve,invoke,builtin,bB hf hx,bB hf hy,Builtin.min_,Builtin.min2]
theorem aje{x y:Operand}{k:IntKind}{a b:Int}{ats:Array TypeId}(hx:ev F x=some (.int k a))(hy:ev F y=some (.int k b)):VS P N c ⟨d, .call ⟨.builtin .max, #[x,y],ats⟩,ty,p,af,g⟩ F H (.int k (if a<b then b else a)):=
 bp (by simp) λa' w hf _ _ =>by simp[execOp,resolve,invoke,builtin,bB hf hx,bB hf hy,Builtin.max_,Builtin.max2]
def Ld(P:Program)(t:Nat):Option (List (Nat×Nat)):=match P.underlying t with
 |some (.struct fs)=>fs.toList.mapM λf=>(P.info? f.type).map λi=>(f.offset,i.size)
 |_ =>none
def tE(pl:List (Nat×Nat)):List Value->List (Nat×Value)->Option (List Value)
 |cs,[]=>some cs
 |cs,(i,v)::r=>match pl[i]? with
  |none=>none
  |some (off,sz)=>if v.cells.size≠sz||decide (off+v.cells.size>cs.length)then none else tE pl (cY cs off v.cells.toList) r
class TPl(P:Program)(t:TypeId)(pl:outParam (List (Nat×Nat))):Prop where
 ok:Ld P t=some pl
theorem XL(vs:List Value):∀(cs:Array Value) (off j:Nat),off+j+vs.length<=cs.size->((vs.zipIdx j).foldl (λ(cs:Array Value) (q:Value×Nat)=>cs.setIfInBounds (off+q.2) q.1) cs).toList=cY cs.toList (off+j) vs:=by
 induction vs with
 |nil=>intro cs off j h;simp[cY]
 |cons v r ih=>
  intro cs off j h;simp only[List.zipIdx_cons,List.foldl_cons];have hl:off+j+(r.length+1)<=cs.size:=h;rw[ih (cs.setIfInBounds (off+j) v) off (j+1) (by simp;omega)];refine List.ext_getElem? λm=>?_;have g:∀(zs0:List Value) (o:Nat) (us:List Value),o+us.length<=zs0.length->∀m:Nat,(cY zs0 o us)[m]? =if o<=m/\m<o+us.length then us[m-o]? else zs0[m]? :=by
   intro zs0 o us h m;unfold cY;by_cases h1:m<o
   ·rw[apt (by omega),List.append_assoc,List.getElem?_append_left (by simp;omega),List.getElem?_take,aps h1]
   ·by_cases h2:m<o+us.length
    ·rw[aps (by omega),List.append_assoc,List.getElem?_append_right (by simp;omega),List.getElem?_append_left (by simp;omega)]
     congr 1;simp;omega
    ·rw[apt (by omega),List.getElem?_append_right (by simp;omega),List.getElem?_drop]
     congr 1;simp;omega
  rw[g _ _ _ (by simp;omega),g _ _ _ (by simp;omega)];simp only[Array.toList_setIfInBounds,List.length_cons];by_cases e:m=off+j
  ·subst e
   rw[apt (by omega),aps (by omega)];have hc:off+j<cs.size:=by omega
   simp[hc]
  ·by_cases h1:off+(j+1)<=m/\m<off+(j+1)+r.length
   ·rw[aps h1,aps (by omega)]
    have:m-(off+j)=(m-(off+(j+1)))+1:=by omega
    rw[this,List.getElem?_cons_succ]
   ·rw[apt h1,apt (by omega)]
    rw[List.getElem?_set_ne (by omega)]
theorem Ay{place:Nat->Option (Nat×Nat)}{pl:List (Nat×Nat)}(hp:∀i,place i=pl[i]?):∀(parts:List (Nat×Value)) (cs:Array Value) (out:List Value),tE pl cs.toList parts=some out->Instr.fill place cs parts=some out.toArray:=by
 intro parts
 induction parts with
 |nil=>intro cs out h;simp[tE]at h;simp[Instr.fill, ← h]
 |cons q r ih=>
  obtain⟨i,v⟩:=q;intro cs out h;simp only[tE]at h;simp only[Instr.fill,hp i];split at h
  ·cases h
  ·rename_i off sz hpl
   rw[hpl];simp only;split at h
   ·cases h
   ·rename_i hc
    simp only[Array.length_toList]at hc;rw[apt (by simpa using hc)];refine ih _ out ?_;have hle:off+v.cells.size<=cs.size:=by simp only[Bool.or_eq_true,decide_eq_true_eq,not_or]at hc;omega
    have:=XL v.cells.toList cs off 0 (by simpa using hle);rw[← h];congr 1;rw[Nat.add_zero]at this;rw[← this, ← Array.foldl_toList];simp only[Array.toList_zipIdx]
theorem Td{P:Program}{t:Nat}{pl:List (Nat×Nat)}[h:TPl P t pl](w:World):∃fs,P.underlying t=some (.struct fs)/\((fs.mapM (m:=Sem) λf=>do pure (f.offset, ← sizeOf f.type)).run P w= .ok pl.toArray w):=by
 have:=h.ok;unfold Ld at this;split at this
 ·rename_i fs hu
  refine⟨fs,hu,?_⟩;have key:∀(l:List Field) (pl:List (Nat×Nat)),(l.mapM λf=>(P.info? f.type).map λi=>(f.offset,i.size))=some pl->(l.mapM (m:=Sem) λf=>do pure (f.offset, ← sizeOf f.type)).run P w= .ok pl w:=by
   intro l
   induction l with
   |nil=>intro pl h;simp at h;subst h;simp
   |cons f r ih=>
    intro pl h;cases hi:P.info? f.type with
    |none=>simp[hi]at h
    |some i=>
     simp only[List.mapM_cons,hi,Option.map_some,Option.pure_def,Option.bind_eq_bind,Option.bind_some]at h;cases hr:(r.mapM λf=>(P.info? f.type).map λi=>(f.offset,i.size))with
     |none=>simp[hr]at h
     |some q=>
      simp only[hr,Option.bind_some,Option.some.injEq]at h;subst h;have hs:(sizeOf f.type).run P w= .ok i.size w:=by simp[sizeOf,typeInfo,hi]
      simp only[List.mapM_cons,Sem.run_bind,hs,Result.andThen_ok,Sem.run_pure,ih q hr]
  have hk:=key _ _ this;have e:fs=fs.toList.toArray:=by simp
  rw[e,List.mapM_toArray];simp only[Sem.run_map,hk,Result.andThen_ok]
 ·cases this
theorem evp{F:gC}{a:Act}(hf:Bx F a.tmps):∀{parts:List (Nat×Operand)} {vs:List Value},Jp F (parts.map (·.2))=some vs->parts.map (λq=>(q.1,a.eval q.2))=(parts.map (·.1)).zip vs:=by
 intro parts
 induction parts with
 |nil=>intro vs _;simp
 |cons q r ih=>
  intro vs h;simp only[List.map_cons,Jp]at h;split at h
  ·rename_i v us h1 h2
   rw[← Option.some.inj h];simp[bB hf h1,ih h2]
  ·cases h
theorem s8{t:Nat}{parts:List (Nat×Operand)}{vs zs cs:List Value}{pl:List (Nat×Nat)}[hz:kz P t zs][hpl:TPl P t pl](hv:Jp F (parts.map (·.2))=some vs)(hc:tE pl zs ((parts.map (·.1)).zip vs)=some cs):
  VS P N c ⟨d, .build t parts.toArray,ty,p,af,g⟩ F H (.agg cs.toArray):=
 bp (by simp) λa w hf _ _ =>by
  obtain⟨i,z,h1,h2,h3⟩:=kz.get hz.ok;obtain⟨fs,h4,h5⟩:=Td (P:=P) (t:=t) w;have h6:(zeroValue t).run P w= .ok z w:=by simp[zeroValue,typeInfo,h1,h2]
  have h7:=Ay (place:=λi=>(pl.toArray)[i]?) (pl:=pl) (by simp) ((parts.map (·.1)).zip vs) z.cells cs (by rw[h3];exact hc);have h8:=evp hf hv;simp only[execOp,Instr.build,Sem.run_bind,h6,Result.andThen_ok,run_underlying h4,h5];have h9:(Array.map (λx=>(x.fst,a.eval x.snd)) parts.toArray).toList=(parts.map (·.1)).zip vs:=by simpa using h8
  simp only[h9,h7];rfl
class xS(H:List aO)(v:Value)(e sz n:outParam Nat)(xs:outParam (List Value))(f:outParam (aO->List aO)):Prop where
 ok:∃k,H[k]? =some (.row v e sz n xs)/\∀r,f r=H.set k r
instance(priority:=100) ajn(v e sz n xs)(H:List aO):xS (.row v e sz n xs::H) v e sz n xs (λr=>r::H):=⟨⟨0,rfl,λ_ =>rfl⟩⟩
instance(priority:=50) agh(r:aO)(H:List aO)(v e sz n xs f)[h:xS H v e sz n xs f]:xS (r::H) v e sz n xs (λq=>r::f q):=
 ⟨by obtain⟨k,h1,h2⟩:=h.ok;exact⟨k+1,by simpa using h1,λq=>by simp[h2]⟩⟩
def Wd(P:Program)(t e sz bytes:Nat):Bool:=match P.underlying t,P.info? e with
 |some (.slice e'),some i=>Nat.beq e' e&&Nat.beq i.size sz&&Nat.beq i.bytes bytes&&(match i.zero with|some z=>Nat.beq z.cells.size sz|none=>false)&& !Nat.beq sz 0
 |_,_ =>false
class P7(P:Program)(t:TypeId)(e sz bytes:outParam Nat):Prop where
 ok:Wd P t e sz bytes=true
theorem P7.get{P:Program}{t e sz bytes:Nat}(h:Wd P t e sz bytes=true):∃i z,P.underlying t=some (.slice e)/\P.info? e=some i/\i.zero=some z/\i.size=sz/\i.bytes=bytes/\z.cells.size=sz/\0<sz:=by
 unfold Wd at h;split at h
 ·rename_i e' i h1 h2
  simp only[apv,Bool.not_eq_true']at h;obtain⟨⟨⟨⟨a1,a2⟩,a3⟩,a4⟩,a5⟩:=h;cases hz:i.zero with
  |none=>simp[hz]at a4
  |some z=>simp only[hz]at a4;rw[apu a1]at h1;refine⟨i,z,h1,h2,hz,apu a2,apu a3,apu a4,Nat.pos_of_ne_zero λe0=>?_⟩;rw[e0]at a5;exact absurd a5 (by decide)
 ·cases h
theorem B8{P:Program}{t ty e sz bytes n m cp:Nat}{v:Value}{xs news:List Value}{w:World}{b off:Nat}[ht:P7 P t e sz bytes](hown:w.ownsRow 0 e sz v n xs)(hl:news.length=m*sz)
  (hn:∀(j:Nat) u,news[j]? =some u->w.cell? ⟨b,off+j,none⟩=some u)(h1:vi news)(Rr:(n+m)*bytes<=140737488355328)(h63:n+m<=9223372036854775807):
  ∃v' w',(Builtin.append_ #[t,t] ty #[v, .slice (some ⟨b,off,none⟩) m cp]).run P w= .ok v' w'/\w'.ownsRow 0 e sz v' (n+m) (xs++news)/\bI v.ownBlock.toList w w'/\
   (∀k,v'.ownBlock=some k->(v.ownBlock=some k\/w.heap.size<=k)/\k<w'.heap.size):=by
 obtain⟨i,z,e1,e2,e3,e4,e5,e6,e7⟩:=P7.get ht.ok;have hn':∀(j:Nat) u,news[j]? =some u->w.cell? ((⟨b,off,none⟩:Addr).add j)=some u:=λj u hj=>by rw[Addr.add_lit];exact hn j u hj
 have XD:n+m<=maxLen:=by simp only[maxLen];omega
 obtain⟨v',w',hr,hown',hg,_⟩:=run_append_own w 0 t ty e i z sz bytes e1 e2 e3 e4 e5 e6 e7 v n xs hown ⟨b,off,none⟩ m cp news hl hn' h1 XD Rr (Nat.zero_le _);refine⟨v',w',hr,hown',bI.Cd hg,λk hk=>⟨?_,(hown'.lt k hk).2⟩⟩;subst e4;subst e5;rcases hown.2 with⟨rfl,rfl⟩|⟨gb,cap,cur,rfl,_,hgb,hnc,VM,hcs,NM⟩
 ·obtain⟨v2,w2,SA,alC,_,_⟩:=run_append_own w w.heap.size t ty e i z i.size i.bytes e1 e2 e3 rfl rfl e6 e7 (.slice none 0 0) 0 xs ⟨hown.1, .inl ⟨rfl,rfl⟩⟩ ⟨b,off,none⟩ m cp news hl hn' h1 XD Rr (Nat.le_refl _)
  rw[hr]at SA;cases SA;exact .inr (alC.lt k hk).1
 ·by_cases hroom:n+m<=cap
  ·have hfit:n*i.size+news.length<=cur.size:=by rw[hl,hcs, ← Nat.add_mul];exact Nat.mul_le_mul_right _ hroom
   have SA:=run_append_room (P:=P) w t ty e i e1 e2 gb n cap cur hgb ⟨b,off,none⟩ m cp news hl hn' h1 hroom hfit;rw[hr]at SA;cases SA;exact .inl hk
  ·have SA:=run_append_grow (P:=P) w t ty e i z e1 e2 e3 ⟨gb,0,none⟩ n cap xs hown.1 (hown.cells (g:=gb) rfl) ⟨b,off,none⟩ m cp news hl hn' (by omega) (by omega) (growslice_fits (by omega) Rr)
   rw[hr]at SA;cases SA;simp[Value.ownBlock]at hk;exact .inr (by omega)
def Bg:Value->Value
 | .slice a n _ => .slice a n n
 |v=>v
def SlV(v:Value):Prop:=∃a n cp,v= .slice a n cp
theorem SlV.cells{v:Value}(h:SlV v):v.cells.toList=[v]:=by obtain⟨a,n,cp,rfl⟩:=h;rfl
theorem SlV.one{v:Value}(h:SlV v):v.oneCell'=true:=by obtain⟨a,n,cp,rfl⟩:=h;cases a<;>rfl
def wI(v:Value)(n:Nat):Prop:=∃a cp,v= .slice a n cp
theorem wI.slv{v:Value}{n:Nat}(h:wI v n):SlV v:=by obtain⟨a,cp,rfl⟩:=h;exact⟨_,_,_,rfl⟩
theorem wI.cells{v:Value}{n:Nat}(h:wI v n):v.cells.toList=[v]:=h.slv.cells
theorem wI.one{v:Value}{n:Nat}(h:wI v n):v.oneCell'=true:=h.slv.one
theorem wI.Ab{w:World}{v:Value}{e sz n:Nat}{xs:List Value}(h:w.ownsRow 0 e sz v n xs):wI v n:=by
 rcases h.2 with⟨rfl,rfl⟩|⟨_,_,_,rfl,_⟩
 ·exact⟨_,_,rfl⟩
 ·exact⟨_,_,rfl⟩
theorem wI.aoV{v:Value}{n:Nat}(h:wI v n):wI (Bg v) n:=by obtain⟨a,cp,rfl⟩:=h;exact⟨_,_,rfl⟩
theorem Ye{s x:Operand}{t e sz bytes n m b T cp:Nat}{v:Value}{xs news:List Value}{f:aO->List aO}[P7 P t e sz bytes](hs:ev F s=some v)[hr:xS H v e sz n xs f](hx:ev F x=some (.slice (some ⟨b,0,none⟩) m cp))[hc:xW H b T news]
  (hl:news.length=m*sz)(h1:vi news)(Rr:(n+m)*bytes<=140737488355328)(h63:n+m<=9223372036854775807):
  RX P N c ⟨d, .call ⟨.builtin .append, #[s,x], #[t,t]⟩,ty,p,af,g⟩ F H (λv'=>wI v' (n+m)) (λv'=>v') (λv'=>f (.row v' e sz (n+m) (xs++news))):=λD a w next Q hst hk=>by
 obtain⟨k,k1,k2⟩:=hr.ok;have hm:aO.row v e sz n xs∈H:=List.mem_of_getElem? k1;obtain⟨v',w',q1,q2,q3,q4⟩:=B8 (P:=P) (t:=t) (ty:=ty) (cp:=cp) (b:=b) (off:=0) (hst.hp.holds _ hm) hl (λj u hj=>by rw[Nat.zero_add,yD (hst.hp.holds _ hc.mem)];exact hj) h1 Rr h63;refine ic (by simp) (v:=v') (w':=w') ?_ (hk v' w' (wI.Ab q2) (hst.si.trans q3 λb' hb'=>(hst.hp.own _ hm b' hb').1) ?_)
 ·simp[execOp,resolve,invoke,builtin,bB hst.fr hs,bB hst.fr hx,q1]
 ·show cI c.bs c.w0.heap.size (f (.row v' e sz (n+m) (xs++news))) w'
  rw[k2];refine hst.hp.set k1 q3.size (λj hj hn=>q3.block j hj hn) q2 hst.si.size (λb' hb'=>?_);have:=q4 b' (by simpa[aO.eW]using hb');exact⟨this.1.imp (λh=>by simpa[aO.eW]using h) id,this.2⟩
theorem Mf{x:Operand}{t e sz:Nat}{v:Value}{cs zs:List Value}[ht:zG P t e sz][hz:kz P e zs](hx:ev F x=some v)(hc:v.cells.toList=cs)(hl:cs.length=sz)(hzl:zs.length=sz)(h0:0<sz)(hs:sz<=16777216):
  RX P N c ⟨d, .buildSlice t 1 #[(0,x)],ty,p,af,g⟩ F H (λ_ =>True) (λb=> .slice (some ⟨b,0,none⟩) 1 1) (λb=> .cells b e cs::H):=λD a w next Q hst hk=>by
 obtain⟨i,h1,h2,h3⟩:=zG.get ht.ok;obtain⟨i',z,h4,h5,h6⟩:=kz.get hz.ok;rw[h2]at h4;cases h4;have hsz:v.cells.size=sz:=by rw[← hl, ← hc];simp
 refine ic (by simp) (w':=w.alloc (.cells cs.toArray e)) ?_ (hk w.heap.size _ trivial (hst.si.ext (bI.alloc _ _)) (hst.hp.box e cs hst.si.size));have Rx:Instr.fill (λi=>some (i*sz,sz)) ((Array.range sz).map (z.cells[· %z.cells.size]!)) [(0,v)]=some cs.toArray:=by
  have:=Ay (place:=λi=>if i=0 then some (0,sz)else none) (pl:=[(0,sz)]) (by intro i;cases i<;>simp) [(0,v)] ((Array.range sz).map (z.cells[· %z.cells.size]!)) cs (by
   simp only[tE,List.getElem?_cons_zero,hsz,hc,Array.length_toList,Array.size_map,Array.size_range,Nat.zero_add,ne_eq,not_true_eq_false,decide_false,Bool.false_or,gt_iff_lt,Nat.lt_irrefl,Bool.false_eq_true,if_false];simp[cY,hl])
  have e:∀cells:Array Value,Instr.fill (λi=>some (i*sz,sz)) cells [(0,v)]=Instr.fill (λi=>if i=0 then some (0,sz)else none) cells [(0,v)]:=λcells=>by simp[Instr.fill]
  rw[e];exact this
 have hn0:¬sz=0:=by omega
 have aox:¬16777216<sz:=by omega
 simp only[execOp,Instr.buildSlice,Sem.run_bind,run_underlying h1,Result.andThen_ok,sizeOf,typeInfo];simp[h2,h3,hn0,aox,bB hst.fr hx,Rx,zeroValue,typeInfo,h5,newRow,newObj,Sem.run]
theorem Ww{x hi mx:Operand}{t e q sz n:Nat}{v:Value}{xs:List Value}{k k':IntKind}[ht:zG P t e q](hx:ev F x=some v)(hh:ev F hi=some (.int k n))(hm:ev F mx=some (.int k' n))[h:tH c H v sz n xs]:
  VS P N c ⟨d, .slice t x none (some hi) (some mx),ty,p,af,g⟩ F H (Bg v):=
 bp (by simp) λa w hf hs hp=>by
  obtain⟨i,h1,h2,h3⟩:=zG.get ht.ok;have hr:=h.ro w hs hp;rcases hr.2 with⟨⟨a0,cp,rfl⟩,rfl⟩|⟨gb,off,cap,rfl,_,hle,_⟩
  ·cases a0<;>simp[execOp,bB hf hx,bB hf hh,bB hf hm,Instr.sliceAt,run_underlying h1,Instr.slice,Instr.sliceBounds,Instr.sliceBound,asIntOf,sizeOf,typeInfo,h2,Bg]
  ·have h9:(n:Int)<=(cap:Int):=by omega
   by_cases hn:n=0
   ·subst hn
    simp[execOp,bB hf hx,bB hf hh,bB hf hm,Instr.sliceAt,run_underlying h1,Instr.slice,Instr.sliceBounds,Instr.sliceBound,asIntOf,sizeOf,typeInfo,h2,Bg]
   ·simp[execOp,bB hf hx,bB hf hh,bB hf hm,Instr.sliceAt,run_underlying h1,Instr.slice,Instr.sliceBounds,Instr.sliceBound,asIntOf,sizeOf,typeInfo,h2,Bg,hle,Addr.add]
theorem Da{bs:List Nat}{n0 e sz:Nat}{w:World}(h:cI bs n0 H w):cI bs n0 (.row (.slice none 0 0) e sz 0 []::H) w:=
 h.cons ⟨by simp, .inl ⟨rfl,rfl⟩⟩ (λb hb=>by simp[aO.eW,Value.ownBlock]at hb) (λs _ b hb=>by simp[aO.eW,Value.ownBlock]at hb)
theorem afd{D:List Deferred}{Q:Exit->Act->World->Prop}{x:Code}(e sz:Nat)(h:WP P N c D x Q F (.row (.slice none 0 0) e sz 0 []::H)):WP P N c D x Q F H:=ai6 (λ_ _ _ hp=>Da hp) h
theorem afa{D:List Deferred}{Q:Exit->Act->World->Prop}{x:Exit}(e sz:Nat)(h:WQ N c D Q x F (.row (.slice none 0 0) e sz 0 []::H)):WQ N c D Q x F H:=ach (λ_ _ _ hp=>Da hp) h
end
end Go.Bw
namespace Go.Bw
open Go Go.RowKit
def PW:Option Value->Option Value->Bool
 |some (.int _ a),some (.int _ b)=>a==b
 |some (.bool a),some (.bool b)=>a==b
 |_,_ =>false
def xF(k:Option IntKind):Option Value->Bool
 |some (.int k' _)=>match k with|some k=>decide (k=k')|none=>false
 |some (.bool _)=>k.isNone
 |_ =>false
def Ig:List (Nat×Option IntKind)->List Value->List Value->Bool
 |[],_,_ =>true
 |(o,_)::r,cs,ds=>PW cs[o]? ds[o]? &&Ig r cs ds
def DE:List (Nat×Option IntKind)->List Value->Bool
 |[],_ =>true
 |(o,k)::r,cs=>xF k cs[o]? &&DE r cs
def af4(P:Program)(f:Field)(q:Nat×Option IntKind):Bool:=
 f.name != "_" &&Nat.beq f.offset q.1&&(match P.underlying f.type,q.2 with|some (.int k),some k'=>decide (k=k')|some .bool,none=>true|_,_ =>false)
def EU(P:Program):List Field->List (Nat×Option IntKind)->Bool
 |[],[]=>true
 |f::fs,q::qs=>af4 P f q&&EU P fs qs
 |_,_ =>false
def L1(P:Program)(t:Nat)(ks:List (Nat×Option IntKind)):Bool:=match P.underlying t with
 |some (.struct fs)=> !P.stoodInHeld t&& !P.eqGuardType P.depth t&&EU P fs.toList ks
 |_ =>false
class UI(P:Program)(t:TypeId)(ks:outParam (List (Nat×Option IntKind))):Prop where
 ok:L1 P t ks=true
theorem wu{P:Program}{t off:Nat}{cs:Array Value}{v:Value}{w:World}(ht:(∃k,P.underlying t=some (.int k))\/P.underlying t=some .bool)(h:cs[off]? =some v):(part t cs off).run P w= .ok v w:=by rcases ht with⟨k,hk⟩|hk<;>simp[part,isAgg,run_underlying hk,h]
theorem yh{P:Program}{w:World}(n:Nat){cs ds:List Value}:∀{fs:List Field} {ks:List (Nat×Option IntKind)},EU P fs ks=true->DE ks cs=true->DE ks ds=true->
  (Op.eqFields (n+1) cs.toArray ds.toArray fs).run P w= .ok (Ig ks cs ds) w:=by
 intro fs
 induction fs with
 |nil=>intro ks h _ _;cases ks with
  |nil=>simp[Op.eqFields,Ig]
  |cons _ _ =>simp[EU]at h
 |cons f fs ih=>
  intro ks h h1 h2;cases ks with
  |nil=>simp[EU]at h
  |cons q qs=>
   obtain⟨o,k⟩:=q;simp only[EU,af4,apv,bne_iff_ne,ne_eq]at h;obtain⟨⟨⟨hn,ho⟩,hk⟩,hr⟩:=h;have ho:f.offset=o:=apu ho;simp only[DE,apv]at h1 h2;have dB:=ih hr h1.2 h2.2;subst ho;have k1:=h1.1;have k2:=h2.1
   match hu:P.underlying f.type,k,hk with
   |some (.int kk),some k',hk=>
    have e:kk=k':=by simpa using hk
    subst e
    match hc:cs[f.offset]?,k1 with
    |some (.int ka a),k1=>
     have e1:kk=ka:=by simpa[xF]using k1
     subst e1
     match hd:ds[f.offset]?,k2 with
     |some (.int kb b),k2=>
      have e2:kk=kb:=by simpa[xF]using k2
      subst e2;have p1:=wu (w:=w) (.inl ⟨_,hu⟩) (show cs.toArray[f.offset]? =some (.int kk a)by simpa using hc);have p2:=wu (w:=w) (.inl ⟨_,hu⟩) (show ds.toArray[f.offset]? =some (.int kk b)by simpa using hd);have p3:=run_equalIn_int (P:=P) w n f.type kk kk a b hu;simp only[Op.eqFields,hn,ne_eq,not_false_eq_true,if_true,Sem.run_bind,p1,p2,p3,Result.andThen_ok];simp only[Ig,hc,hd,PW];cases a==b<;>simp[dB]
     |some (.bool _),k2=>simp[xF]at k2
    |some (.bool _),k1=>simp[xF]at k1
   |some .bool,none,_ =>
    match hc:cs[f.offset]?,k1 with
    |some (.bool a),_ =>
     match hd:ds[f.offset]?,k2 with
     |some (.bool b),_ =>have p1:=wu (w:=w) (.inr hu) (show cs.toArray[f.offset]? =some (.bool a)by simpa using hc);have p2:=wu (w:=w) (.inr hu) (show ds.toArray[f.offset]? =some (.bool b)by simpa using hd);have p3:=run_equalIn_bool' (P:=P) w n f.type a b hu;simp only[Op.eqFields,hn,ne_eq,not_false_eq_true,if_true,Sem.run_bind,p1,p2,p3,Result.andThen_ok];simp only[Ig,hc,hd,PW];cases a==b<;>simp[dB]
     |some (.int _ _),k2=>simp[xF]at k2
    |some (.int _ _),k1=>simp[xF]at k1
section
variable {P:Program} {N:Nat} {c:Cx} {F:gC} {H:List aO} {d:Option Tmp} {ty:TypeId} {p:String} {af:Array Edge} {g:Option (Nat×Bool)}
theorem UI.get{t:Nat}{ks:List (Nat×Option IntKind)}(h:L1 P t ks=true):P.underlying t=some (.struct (P.fieldsOf t))/\P.stoodInHeld t=false/\P.eqGuardType P.depth t=false/\EU P (P.fieldsOf t).toList ks=true:=by
 unfold L1 at h;split at h
 ·rename_i fs hu
  simp only[apv,Bool.not_eq_true']at h;have e:P.fieldsOf t=fs:=by simp[Program.fieldsOf,hu]
  rw[e];exact⟨hu,h.1.1,h.1.2,h.2⟩
 ·cases h
theorem Wu{x y:Operand}{cs ds:List Value}{T U:TypeId}{ks:List (Nat×Option IntKind)}[hT:UI P T ks](hx:ev F x=some (.agg cs.toArray))(hy:ev F y=some (.agg ds.toArray))(h1:DE ks cs=true)(h2:DE ks ds=true):
  VS P N c ⟨d, .binOp .eql T x y U,ty,p,af,g⟩ F H (.bool (Ig ks cs ds)):=
 bp (by simp) λa' w hf _ _ =>by obtain⟨e1,e2,e3,e4⟩:=UI.get hT.ok;have q1:=run_eqGuard_agg (P:=P) w .eql T x y cs.toArray ds.toArray e3;have q2:=run_eql_struct (P:=P) w T cs.toArray ds.toArray;rw[run_equalIn_struct w 9999 T _ _ e1 e2,yh 9998 e4 h1 h2]at q2;simp only[Result.andThen_ok]at q2;simp[execOp,bB hf hx,bB hf hy,q1,q2]
theorem afh{x y:Operand}{cs ds:List Value}{T U:TypeId}{ks:List (Nat×Option IntKind)}[hT:UI P T ks](hx:ev F x=some (.agg cs.toArray))(hy:ev F y=some (.agg ds.toArray))(h1:DE ks cs=true)(h2:DE ks ds=true):
  VS P N c ⟨d, .binOp .neq T x y U,ty,p,af,g⟩ F H (.bool (!Ig ks cs ds)):=
 bp (by simp) λa' w hf _ _ =>by obtain⟨e1,e2,e3,e4⟩:=UI.get hT.ok;have q1:=run_eqGuard_agg (P:=P) w .neq T x y cs.toArray ds.toArray e3;have q2:=run_neq_struct (P:=P) w T cs.toArray ds.toArray;rw[run_equalIn_struct w 9999 T _ _ e1 e2,yh 9998 e4 h1 h2]at q2;simp only[Result.andThen_ok]at q2;simp[execOp,bB hf hx,bB hf hy,q1,q2]
def uW(l h sz:Nat):Value->Value
 | .slice a _ cap=> .slice (if cap=l then a else a.map (·.add (l*sz))) (h-l) (cap-l)
 |v=>v
theorem Ro.cut{w:World}{v:Value}{sz n l h:Nat}{xs:List Value}(hr:Ro w v sz n xs)(hl:l<=h)(hh:h<=n):Ro w (uW l h sz v) sz (h-l) ((xs.drop (l*sz)).take ((h-l)*sz)):=by
 have hlen:((xs.drop (l*sz)).take ((h-l)*sz)).length=(h-l)*sz:=by
  have:(h-l)*sz+l*sz<=n*sz:=by rw[← Nat.add_mul];exact Nat.mul_le_mul_right _ (by omega)
  simp[hr.1];omega
 refine⟨hlen,?_⟩;rcases hr.2 with⟨⟨a,cp,rfl⟩,rfl⟩|⟨gb,off,cap,rfl,h2,h3,h4⟩
 ·have e1:l=0:=by omega
  have e2:h=0:=by omega
  subst e1;subst e2;exact .inl ⟨⟨_,_,rfl⟩,rfl⟩
 ·by_cases e:cap=l
  ·have e2:h=l:=by omega
   subst e2;exact .inl ⟨⟨some ⟨gb,off,none⟩,cap-h,by simp[uW,e]⟩,by omega⟩
  ·refine .inr ⟨gb,off+l*sz,cap-l,by simp[uW,e,Addr.add_lit],h2,by omega,λj u hu=>?_⟩
   rw[List.getElem?_take]at hu;split at hu
   ·rw[List.getElem?_drop]at hu
    rw[Nat.add_assoc];exact h4 _ u hu
   ·cases hu
theorem abO(l h sz:Nat)(v:Value):(uW l h sz v).ownBlock=v.ownBlock:=by
 cases v with
 |slice a n cap=>cases a<;>simp only[uW]<;>split<;>simp[Value.ownBlock,Addr.add]<;>split<;>rfl
 |_ =>rfl
theorem Dd{k:IntKind}{l n:Nat}{code:BoundsCode}{w:World}(h:l<=n):(Instr.sliceBound (.int k l) n code).run P w= .ok l w:=by
 have h2:(l:Int)<=(n:Int):=by omega
 simp[Instr.sliceBound,asIntOf,h2]
theorem N7{x lo:Operand}{t e q sz n:Nat}(l:Nat){v:Value}{xs:List Value}{k:IntKind}[ht:zG P t e q](hx:ev F x=some v)(hlo:ev F lo=some (.int k l))[h:tH c H v sz n xs](hl:l<=n):
  VS P N c ⟨d, .slice t x (some lo) none none,ty,p,af,g⟩ F H (uW l n q v):=
 bp (by simp) λa w hf hs hp=>by
  obtain⟨i,h1,h2,h3⟩:=zG.get ht.ok;obtain⟨a0,cp,rfl⟩:∃a0 cp,v= .slice a0 n cp:=by rcases(h.ro w hs hp).2 with⟨⟨a0,cp,rfl⟩,rfl⟩|⟨gb,off,cap,rfl,_⟩<;>exact⟨_,_,rfl⟩
  have b1:=Dd (P:=P) (k:=k) (w:=w) (code:= .sliceB) hl;simp[execOp,bB hf hx,bB hf hlo,Instr.sliceAt,run_underlying h1,Instr.slice,Instr.sliceBounds,b1,sizeOf,typeInfo,h2,h3,uW]
theorem N8{x hi:Operand}{t e q sz n:Nat}(m:Nat){v:Value}{xs:List Value}{k:IntKind}[ht:zG P t e q](hx:ev F x=some v)(hhi:ev F hi=some (.int k m))[h:tH c H v sz n xs](hm:m<=n):
  VS P N c ⟨d, .slice t x none (some hi) none,ty,p,af,g⟩ F H (uW 0 m q v):=
 bp (by simp) λa w hf hs hp=>by
  obtain⟨i,h1,h2,h3⟩:=zG.get ht.ok;obtain⟨a0,cp,rfl,hcp⟩:∃a0 cp,v= .slice a0 n cp/\m<=cp:=by
   rcases(h.ro w hs hp).2 with⟨⟨a0,cp,rfl⟩,rfl⟩|⟨gb,off,cap,rfl,_,hle,_⟩
   ·exact⟨_,_,rfl,by omega⟩
   ·exact⟨_,_,rfl,by omega⟩
  have b1:=Dd (P:=P) (k:=k) (w:=w) (code:= .sliceAcap) hcp;simp[execOp,bB hf hx,bB hf hhi,Instr.sliceAt,run_underlying h1,Instr.slice,Instr.sliceBounds,b1,sizeOf,typeInfo,h2,uW]
theorem ajk{x lo hi:Operand}{t e q sz n:Nat}(l m:Nat){v:Value}{xs:List Value}{k k':IntKind}[ht:zG P t e q](hx:ev F x=some v)(hlo:ev F lo=some (.int k l))(hhi:ev F hi=some (.int k' m))[h:tH c H v sz n xs](hl:l<=m)(hm:m<=n):
  VS P N c ⟨d, .slice t x (some lo) (some hi) none,ty,p,af,g⟩ F H (uW l m q v):=
 bp (by simp) λa w hf hs hp=>by
  obtain⟨i,h1,h2,h3⟩:=zG.get ht.ok;obtain⟨a0,cp,rfl,hcp⟩:∃a0 cp,v= .slice a0 n cp/\m<=cp:=by
   rcases(h.ro w hs hp).2 with⟨⟨a0,cp,rfl⟩,rfl⟩|⟨gb,off,cap,rfl,_,hle,_⟩
   ·exact⟨_,_,rfl,by omega⟩
   ·exact⟨_,_,rfl,by omega⟩
  have b1:=Dd (P:=P) (k:=k') (w:=w) (code:= .sliceAcap) hcp;have b2:=Dd (P:=P) (k:=k) (w:=w) (code:= .sliceB) hl;simp[execOp,bB hf hx,bB hf hlo,bB hf hhi,Instr.sliceAt,run_underlying h1,Instr.slice,Instr.sliceBounds,b1,b2,sizeOf,typeInfo,h2,h3,uW]
theorem M0{t ty e sz bytes n m:Nat}{v x:Value}{xs news:List Value}{w:World}[ht:P7 P t e sz bytes](hown:w.ownsRow 0 e sz v n xs)(hx:Ro w x sz m news)(h1:vi news)(Rr:(n+m)*bytes<=140737488355328)(h63:n+m<=9223372036854775807):
  ∃v' w',(Builtin.append_ #[t,t] ty #[v,x]).run P w= .ok v' w'/\w'.ownsRow 0 e sz v' (n+m) (xs++news)/\bI v.ownBlock.toList w w'/\
   (∀k,v'.ownBlock=some k->(v.ownBlock=some k\/w.heap.size<=k)/\k<w'.heap.size):=by
 rcases hx.2 with⟨⟨a,cp,rfl⟩,rfl⟩|⟨gb,off,cap,rfl,_,_,h4⟩
 ·obtain⟨i,z,e1,e2,e3,e4,e5,e6,e7⟩:=P7.get ht.ok
  have aa3:news=[]:=List.length_eq_zero_iff.1 (by rw[hx.1];simp);subst aa3;have hsrc:Src P i.size t (.slice a 0 cp) 0 [] w:=by
   cases a with
   |none=>exact Src.ofNil w e1 cp
   |some a=>exact Src.ofSlice w e1 a 0 cp [] (by simp) (by simp) (by simp)
  obtain⟨base,sCap,hv,hle⟩:∃base sCap,v= .slice base n sCap/\n<=sCap:=by
   rcases hown.2 with⟨rfl,rfl⟩|⟨g,cap,cur,rfl,_,_,hc,_⟩
   ·exact⟨_,_,rfl,Nat.le_refl _⟩
   ·exact⟨_,_,rfl,hc⟩
  have hrun:=run_append_nothing (P:=P) w t t ty e i e1 e2 base n sCap hle _ hsrc;rw[← hv]at hrun;refine⟨v,w,hrun,by simpa using hown,bI.refl _ _,λk hk=>⟨.inl hk,?_⟩⟩;rcases hown.2 with⟨rfl,_⟩|⟨g,cap,cur,rfl,_,hg,_⟩
  ·cases hk
  ·cases hk;exact(apA.1 hg).1
 ·exact B8 hown hx.1 h4 h1 Rr h63
theorem AQ{s x:Operand}{t e sz bytes n m:Nat}{v u:Value}{xs news:List Value}{f:aO->List aO}[P7 P t e sz bytes](hs:ev F s=some v)[hr:xS H v e sz n xs f](hx:ev F x=some u)[hu:tH c H u sz m news]
  (h1:vi news)(Rr:(n+m)*bytes<=140737488355328)(h63:n+m<=9223372036854775807):
  RX P N c ⟨d, .call ⟨.builtin .append, #[s,x], #[t,t]⟩,ty,p,af,g⟩ F H (λv'=>wI v' (n+m)) (λv'=>v') (λv'=>f (.row v' e sz (n+m) (xs++news))):=λD a w next Q hst hk=>by
 obtain⟨k,k1,k2⟩:=hr.ok;have hm:aO.row v e sz n xs∈H:=List.mem_of_getElem? k1;obtain⟨v',w',q1,q2,q3,q4⟩:=M0 (P:=P) (t:=t) (ty:=ty) (hst.hp.holds _ hm) (hu.ro w hst.si hst.hp) h1 Rr h63;refine ic (by simp) (v:=v') (w':=w') ?_ (hk v' w' (wI.Ab q2) (hst.si.trans q3 λb' hb'=>(hst.hp.own _ hm b' hb').1) ?_)
 ·simp[execOp,resolve,invoke,builtin,bB hst.fr hs,bB hst.fr hx,q1]
 ·show cI c.bs c.w0.heap.size (f (.row v' e sz (n+m) (xs++news))) w'
  rw[k2];refine hst.hp.set k1 q3.size (λj hj hn=>q3.block j hj hn) q2 hst.si.size (λb' hb'=>?_);have:=q4 b' (by simpa[aO.eW]using hb');exact⟨this.1.imp (λh=>by simpa[aO.eW]using h) id,this.2⟩
structure Sl where
 v:Value
 sz:Nat
 n:Nat
 xs:List Value
def Sl.ok(w:World)(q:Sl):Prop:=Ro w q.v q.sz q.n q.xs
def ahd(l:List Sl):List Nat:=l.flatMap λq=>q.v.ownBlock.toList
def ao8(l:List Sl):aO:= .ext (ahd l) λw=>∀q∈l,q.ok w
end
end Go.Bw
namespace Go.Bw
open Go Go.RowKit
def IntKind.up(k:IntKind):Nat:=if k.signed then k.bits-1 else k.bits
theorem ac2{k:IntKind}{r:Nat}(h:r<2^IntKind.up k):k.wrap (r:Int)=r:=by
 cases k<;>simp only[IntKind.up,IntKind.signed,IntKind.bits,if_true,Bool.false_eq_true,if_false]at h<;>
  simp[IntKind.wrap,IntKind.signed,IntKind.bits]at h ⊢<;>omega
theorem ae2(k:IntKind):IntKind.up k<=k.bits:=by cases k<;>simp[IntKind.up,IntKind.signed,IntKind.bits]
section
variable {P:Program} {N:Nat} {c:Cx} {F:gC} {H:List aO} {d:Option Tmp} {ty:TypeId} {p:String} {af:Array Edge} {g:Option (Nat×Bool)} {x y:Operand} {k:IntKind} {T U:TypeId}
theorem X7{x y:Operand}{T len e sz q m:Nat}{i:Int}{k:IntKind}{cs us:List Value}[hT:DM P T len e sz][hA:wH P e q](hx:ev F x=some (.agg cs.toArray))(hy:ev F y=some (.int k i))(hi:i=(m:Int))(hm:m<len)
  (hv:(cs.drop (m*sz)).take sz=us):VS P N c ⟨d, .index T x y,ty,p,af,g⟩ F H (.agg us.toArray):=
 bp (by simp) λa w hf _ _ =>by
  obtain⟨inf,h1,h2,h3⟩:=DM.get hT.ok;subst hi;have hs:(sizeOf e).run P w= .ok sz w:=by simp[sizeOf,typeInfo,h2,h3]
  have hag:(isAgg e).run P w= .ok true w:=xp w;have he:cs.toArray.extract (m*sz) (m*sz+sz)=us.toArray:=by apply Array.ext';rw[← hv];simp[List.extract_eq_take_drop,Nat.add_sub_cancel_left]
  have hp:(part e cs.toArray (m*sz)).run P w= .ok (.agg us.toArray) w:=by unfold part;rw[Sem.run_bind,hag];simp only[Result.andThen_ok,if_true,Sem.run_bind,hs,Sem.run_pure,he]
  simp[execOp,bB hf hx,bB hf hy,Instr.index,asIntOf,run_underlying h1,hm,hs,hp]
theorem X8{x y:Operand}{T len e sz m:Nat}{i:Int}{k:IntKind}{cs:List Value}{u:Value}[hT:DM P T len e sz][hA:s9 P e](hx:ev F x=some (.agg cs.toArray))(hy:ev F y=some (.int k i))(hi:i=(m:Int))(hm:m<len)
  (hv:cs[m*sz]? =some u):VS P N c ⟨d, .index T x y,ty,p,af,g⟩ F H u:=
 bp (by simp) λa w hf _ _ =>by
  obtain⟨inf,h1,h2,h3⟩:=DM.get hT.ok;subst hi;have hs:(sizeOf e).run P w= .ok sz w:=by simp[sizeOf,typeInfo,h2,h3]
  have hag:(isAgg e).run P w= .ok false w:=vA w;have hp:(part e cs.toArray (m*sz)).run P w= .ok u w:=by simp[part,hag,hv]
  simp[execOp,bB hf hx,bB hf hy,Instr.index,asIntOf,run_underlying h1,hm,hs,hp]
end
end Go.Bw
namespace Go.Bw
open Go
def dy{α:Type}(g:Nat->α)(i:Nat)(v:α):Nat->α:=λj=>if j=i then v else g j
@[simp] theorem Y4{α:Type}(g:Nat->α)(i:Nat)(v:α):dy g i v i=v:=by simp[dy]
theorem WM{α:Type}(g:Nat->α){i j:Nat}(v:α)(h:j≠i):dy g i v j=g j:=by simp[dy,h]
def flat(g:Nat->List Value):Nat->List Value
 |0=>[]
 |n+1=>flat g n++g n
theorem qV{g:Nat->List Value}{k:Nat}:∀{n:Nat},(∀i,i<n->(g i).length=k)->(flat g n).length=n*k:=by
 intro n
 induction n with
 |zero=>intro _;simp[flat]
 |succ n ih=>intro h;simp[flat,ih (λi hi=>h i (by omega)),h n (by omega),Nat.add_mul]
theorem Aw{g g':Nat->List Value}:∀{n:Nat},(∀i,i<n->g i=g' i)->flat g n=flat g' n:=by
 intro n
 induction n with
 |zero=>intro _;rfl
 |succ n ih=>intro h;simp[flat,ih (λi hi=>h i (by omega)),h n (by omega)]
theorem xJ{g:Nat->List Value}{k:Nat}:∀{n i j:Nat},(∀i,i<n->(g i).length=k)->i<n->j<k->(flat g n)[i*k+j]? =(g i)[j]? :=by
 intro n
 induction n with
 |zero=>intro i j _ hi;omega
 |succ n ih=>
  intro i j h hi hj;have hl:=qV (n:=n) (λi hi=>h i (by omega));by_cases e:i=n
  ·subst e
   rw[flat,List.getElem?_append_right (by omega),hl];congr 1;omega
  ·have:i*k+j<n*k:=by
    have h1:(i+1)*k<=n*k:=Nat.mul_le_mul_right k (by omega);rw[Nat.add_mul]at h1;omega
   rw[flat,List.getElem?_append_left (by omega)];exact ih (λi hi=>h i (by omega)) (by omega) hj
theorem Ch{l m:List Value}(h:∀j:Nat,l[j]? =m[j]?):l=m:=List.ext_getElem? h
theorem xn{cs vs:List Value}{off:Nat}(h:off+vs.length<=cs.length):(cY cs off vs).length=cs.length:=by simp[cY];omega
theorem rD{cs vs:List Value}{off:Nat}(h:off+vs.length<=cs.length)(j:Nat):(cY cs off vs)[j]? =if off<=j/\j<off+vs.length then vs[j-off]? else cs[j]? :=by
 unfold cY;by_cases h1:j<off
 ·rw[apt (by omega),List.append_assoc,List.getElem?_append_left (by simp;omega),List.getElem?_take,aps h1]
 ·by_cases h2:j<off+vs.length
  ·rw[aps (by omega),List.append_assoc,List.getElem?_append_right (by simp;omega),List.getElem?_append_left (by simp;omega)]
   congr 1;simp;omega
  ·rw[apt (by omega),List.getElem?_append_right (by simp;omega),List.getElem?_drop]
   congr 1;simp;omega
theorem FV{p q vs:List Value}{off:Nat}:cY (p++q) (p.length+off) vs=p++cY q off vs:=by
 unfold cY;have h1:(p++q).take (p.length+off)=p++q.take off:=by simp[List.take_append,List.take_of_length_le (show p.length<=p.length+off by omega)]
 have h2:(p++q).drop (p.length+off+vs.length)=q.drop (off+vs.length):=by rw[Nat.add_assoc,List.drop_append,List.drop_eq_nil_of_le (by omega)];simp
 rw[h1,h2];simp
theorem QD{p q vs:List Value}{off:Nat}(h:off+vs.length<=p.length):cY (p++q) off vs=cY p off vs++q:=by unfold cY;rw[List.take_append_of_le_length (by omega),List.drop_append_of_le_length h];simp
theorem RF{g:Nat->List Value}{k n i:Nat}{vs:List Value}(h:∀i,i<n->(g i).length=k)(hi:i<n)(hv:vs.length=k):cY (flat g n) (i*k) vs=flat (dy g i vs) n:=by
 have hl:=qV (n:=n) h;have h':∀j,j<n->(dy g i vs j).length=k:=λj hj=>by by_cases e:j=i<;>simp[dy,e,hv,h j hj]
 have hl':=qV (n:=n) h';have hb:(i+1)*k<=n*k:=Nat.mul_le_mul_right k (by omega);rw[Nat.add_mul]at hb;refine Ch λj=>?_;rw[rD (by omega)];by_cases hj:j<n*k
 ·have hk:0<k:=by
   rcases Nat.eq_zero_or_pos k with h0|h0
   ·subst h0;omega
   ·exact h0
  have hd:j=j/k*k+j%k:=by rw[Nat.mul_comm];exact(Nat.div_add_mod j k).symm
  have hm:=Nat.mod_lt j hk;have hq:j/k<n:=Nat.div_lt_of_lt_mul (by rw[Nat.mul_comm];exact hj);by_cases e:j/k=i
  ·rw[aps (by subst e;omega)]
   rw[hd,xJ h' hq hm,e,Y4];congr 1;subst e;omega
  ·rw[apt]
   ·rw[hd,xJ h' hq hm,xJ h hq hm,WM _ _ e]
   ·rintro⟨h1,h2⟩
    apply e;have:i<=j/k:=(Nat.le_div_iff_mul_le hk).2 h1;have:j/k<i+1:=(Nat.div_lt_iff_lt_mul hk).2 (by rw[Nat.add_mul];omega);omega
 ·rw[apt (by omega),List.getElem?_eq_none (by omega),List.getElem?_eq_none (by omega)]
theorem XN{g:Nat->List Value}{k n i:Nat}{t:List Value}(h:∀i,i<n->(g i).length=k)(hi:i<n):((flat g n++t).drop (i*k)).take k=g i:=by
 have hl:=qV (n:=n) h;have hb:(i+1)*k<=n*k:=Nat.mul_le_mul_right k (by omega);rw[Nat.add_mul]at hb;refine Ch λj=>?_;rw[List.getElem?_take,List.getElem?_drop];by_cases hj:j<k
 ·rw[aps hj,List.getElem?_append_left (by omega),xJ h hi hj]
 ·rw[apt hj,List.getElem?_eq_none (by rw[h i hi];omega)]
theorem vi.app{a b:List Value}(ha:vi a)(hb:vi b):vi (a++b):=λv hv=>(List.mem_append.1 hv).elim (ha v) (hb v)
theorem AT{vs:List Value}(h:vs.all (·.oneCell')=true):vi vs:=λv hv=>List.all_eq_true.1 h v hv
theorem vi.flat{g:Nat->List Value}:∀{n:Nat},(∀i,i<n->vi (g i))->vi (flat g n):=by
 intro n
 induction n with
 |zero=>intro _ v hv;simp[Bw.flat]at hv
 |succ n ih=>intro h;exact(ih λi hi=>h i (by omega)).app (h n (by omega))
end Go.Bw
namespace Go.Bw
open Go Go.RowKit
def Rnd(P:Program)(l:Nat)(bs0:List Nat)(w1:World)(J:Nat->List Nat->World->Prop)(Jx:List Nat->World->Prop)(yb:Nat->List Value)(n:Nat):Prop:=∀k,k<n->∀W bs,bI bs0 w1 W->(∀b∈bs,(b∈bs0\/w1.heap.size<=b)/\b<W.heap.size)->(aO.ext bs (J k bs)).holds W-> YieldAt (FA none) 0 P l (yb k).toArray W λe W'=>∃bs',(∀b∈bs',(b∈bs\/W.heap.size<=b)/\b<W'.heap.size)/\bI bs W W'/\ ((e= .returned (.bool true)/\(aO.ext bs' (J (k+1) bs')).holds W')\/(e= .returned (.bool false)/\(aO.ext bs' (Jx bs')).holds W'))
def akF:List Nat->List Value->gC->gC
 |p::ps,v::vs,F=>akF ps vs ((p,v)::F)
 |_,_,F=>F
theorem adP:∀{ps:List Nat} {vs:List Value} {F:gC} {t:Array Value} {N:Nat},Bx F t->t.size=N->ps.all (Nat.blt · N)=true->Bx (akF ps vs F) ((ps.zip vs).foldl (λt q=>t.setIfInBounds q.1 q.2) t)/\((ps.zip vs).foldl (λt q=>t.setIfInBounds q.1 q.2) t).size=N:=by
 intro ps
 induction ps with
 |nil=>intro vs F t N h hs _;cases vs<;>exact⟨h,hs⟩
 |cons p ps ih=>
  intro vs F t N h hs ha;cases vs with
  |nil=>exact⟨h,hs⟩
  |cons v vs=>simp only[List.all_cons,apv]at ha;have h1:=Bx.put (a:=⟨t,[]⟩) (d:=some p) (v:=v) (N:=N) h hs ha.1;exact ih h1 (by simpa using hs) ha.2
def ajr(P:Program)(l:Nat)(body:Code)(R:Ending->World->Prop):Exit->Act->World->Prop:=Exit.then (λa₁ w₁=>∃w₂,(Instr.beginRound l).run P w₁= .ok () w₂/\body.wpIn (FA (some l)) 0 P (roundPost P l R) a₁ w₂) (λ_ _ _ =>False)
def acI(c':Cx)(JT JX:List Nat->World->Prop):Ending->World->Prop:=λe W'=>∃bs',(∀b∈bs',(b∈c'.bs\/c'.w0.heap.size<=b)/\b<W'.heap.size)/\bI c'.bs c'.w0 W'/\((e= .returned (.bool true)/\(aO.ext bs' (JT bs')).holds W')\/(e= .returned (.bool false)/\(aO.ext bs' (JX bs')).holds W'))
def JW{α:Type}(n0:Nat)(cb:List Nat)(p:α->Prop)(I:α->List aO):List Nat->World->Prop:=λbs W=>∃i,p i/\cI cb n0 (I i) W/\bs=cy (I i)
theorem bO{H:List aO}{b:Nat}:b∈cy H↔∃r∈H,b∈r.eW:=by simp[cy]
theorem UM{α:Type}{n0:Nat}{cb:List Nat}{p:α->Prop}{I:α->List aO}{W:World}(i:α)(hp:p i)(h:cI cb n0 (I i) W):(aO.ext (cy (I i)) (JW n0 cb p I (cy (I i)))).holds W:=
 λ_ hs hb=>⟨i,hp,h.cW hs (λr hr b M4=>hb b (bO.2 ⟨r,hr,M4⟩)) (λ_ o _ =>o),rfl⟩
theorem Gp{bs:List Nat}{J:World->Prop}{W:World}(h:(aO.ext bs J).holds W):J W:=h W (Nat.le_refl _) λ_ _ =>rfl
section rules
variable {P:Program} {N:Nat} {c:Cx} {F:gC} {H H':List aO} {l:Nat} {body:Code} {R:Ending->World->Prop}
theorem St.yM{N:Nat}{D:List Deferred}{a:Act}{w:World}{b:Nat}{o o':Obj}(hst:St N c D F H a w)(ho:acV H b o)(hs:acH H b o' H'):St N c D F H' a (w.putObj b o')/\w.heap[b]? =some o:=by
 have hm:=hst.hp.holds _ ho.mem;have hd:w.heap[b]? =some o:=hm;have hlt:=(apA.1 hd).1;have qS:bI [b] w (w.putObj b o'):=⟨rfl,rfl,rfl,by simp[World.putObj],λk _ hk=>World.putObj_heap_other (by simpa using hk)⟩;refine⟨⟨hst.tm,hst.fr,hst.df,hst.si.store hst.hp ho.mem (by simp[aO.eW]) qS,?_⟩,hd⟩;obtain⟨k,o,hk,rfl⟩:=hs.ok;refine hst.hp.set hk qS.size (λj hj hne=>qS.block j hj hne) (World.putObj_heap_same hlt) hst.si.size (λb' hb=>?_);have e:b'=b:=by simpa[aO.eW]using hb
 subst e;exact⟨.inl (by simp[aO.eW]),by rw[World.putObj];simpa using hlt⟩
variable {α β:Type} {n0:Nat} {cb:List Nat} {p:α->Prop} {I:α->List aO} {px:β->Prop} {X:β->List aO}
theorem bI.afK{c':Cx}{H:List aO}{w:World}(hp:cI c'.bs c'.w0.heap.size H w){b:Nat}(hb:b∈cy H):(b∈c'.bs\/c'.w0.heap.size<=b)/\b<w.heap.size:=by obtain⟨r,hr,M4⟩:=bO.1 hb;exact hp.own r hr b M4
end rules
end Go.Bw
namespace Go.Bw
open Go Go.RowKit
structure dI(α:Type) where
 n:Nat
 fz:(World->Prop)->List Value->α->Prop
 len:∀{J cs x},fz J cs x->cs.length=n
 one:∀{J cs x},fz J cs x->vi cs
 mono:∀{J J':World->Prop} {cs x},(∀w,J' w->J w)->fz J cs x->fz J' cs x
class bW{α:Type}(L:dI α) where
 enc:α->List Value
 iff:∀{J cs x},L.fz J cs x↔cs=enc x
def dI.enc{α:Type}(L:dI α)[bW L](x:α):List Value:=bW.enc L x
section
variable {α β γ S:Type}
theorem rp(L:dI α)[bW L](x:α):L.fz (λ_ =>True) (L.enc x) x:=bW.iff.2 rfl
theorem lD(L:dI α)[bW L](x:α):(L.enc x).length=L.n:=L.len (rp L x)
theorem Gr(L:dI α)[bW L](x:α):vi (L.enc x):=L.one (rp L x)
def LI(k:IntKind):dI Int where
 n:=1
 fz _ cs x:=cs=[.int k x]
 len h:=by subst h;rfl
 one h:=by subst h;exact AT rfl
 mono _ h:=h
instance(k:IntKind):bW (LI k):=⟨λx=>[.int k x],Iff.rfl⟩
def LB:dI Bool where
 n:=1
 fz _ cs x:=cs=[.bool x]
 len h:=by subst h;rfl
 one h:=by subst h;exact AT rfl
 mono _ h:=h
instance:bW LB:=⟨λx=>[.bool x],Iff.rfl⟩
def LP(A:dI α)(B:dI β):dI (α×β) where
 n:=A.n+B.n
 fz J cs x:=∃c1 c2,cs=c1++c2/\A.fz J c1 x.1/\B.fz J c2 x.2
 len:=λ⟨c1,c2,h,h1,h2⟩=>by subst h;simp[A.len h1,B.len h2]
 one:=λ⟨c1,c2,h,h1,h2⟩=>by subst h;exact(A.one h1).app (B.one h2)
 mono m:=λ⟨c1,c2,h,h1,h2⟩=>⟨c1,c2,h,A.mono m h1,B.mono m h2⟩
instance(A:dI α)(B:dI β)[bW A][bW B]:bW (LP A B):=⟨λx=>A.enc x.1++B.enc x.2,by
 intro J cs x;constructor
 ·rintro⟨c1,c2,rfl,h1,h2⟩
  rw[bW.iff]at h1 h2;subst h1 h2;rfl
 ·intro h;exact⟨_,_,h,bW.iff.2 rfl,bW.iff.2 rfl⟩⟩
def dI.via(A:dI α)(f:S->α):dI S where
 n:=A.n
 fz J cs s:=A.fz J cs (f s)
 len h:=A.len h
 one h:=A.one h
 mono m h:=A.mono m h
instance(A:dI α)(f:S->α)[bW A]:bW (A.via f):=⟨λs=>A.enc (f s),bW.iff (L:=A)⟩
def LA(L:dI α)(m:Nat):dI (Nat->α) where
 n:=m*L.n
 fz J cs a:=∃cc:Nat->List Value,cs=flat cc m/\∀i,i<m->L.fz J (cc i) (a i)
 len:=λ⟨cc,h,h1⟩=>by subst h;exact qV λi hi=>L.len (h1 i hi)
 one:=λ⟨cc,h,h1⟩=>by subst h;exact vi.flat λi hi=>L.one (h1 i hi)
 mono m':=λ⟨cc,h,h1⟩=>⟨cc,h,λi hi=>L.mono m' (h1 i hi)⟩
instance(L:dI α)(m:Nat)[bW L]:bW (LA L m):=⟨λa=>flat (λi=>L.enc (a i)) m,by
 intro J cs a;constructor
 ·rintro⟨cc,rfl,h⟩
  exact Aw λi hi=>bW.iff.1 (h i hi)
 ·intro h;exact⟨_,h,λi _ =>bW.iff.2 rfl⟩⟩
structure aY(L:dI α)(M:dI β)(o:Nat)(g:α->β)(s:α->β->α):Prop where
 get:∀{J cs x},L.fz J cs x->M.fz J ((cs.drop o).take M.n) (g x)
 set:∀{J cs x vs v},L.fz J cs x->M.fz J vs v->L.fz J (cY cs o vs) (s x v)
 le:o+M.n<=L.n
theorem aY.id{L:dI α}:aY L L 0 (λx=>x) (λ_ v=>v) where
 get h:=by rw[List.drop_zero,List.take_of_length_le (by rw[L.len h];exact Nat.le_refl _)];exact h
 set:=@λJ cs x vs v h hv=>by have:cY cs 0 vs=vs:=S9 (by rw[L.len h,L.len hv]);rw[this];exact hv
 le:=by omega
where S9 {cs vs:List Value} (h:cs.length=vs.length):cY cs 0 vs=vs:=by simp[cY, ← h]
theorem aY.fst{A:dI α}{B:dI β}{M:dI γ}{o:Nat}{g:α->γ}{s:α->γ->α}(p:aY A M o g s):aY (LP A B) M o (λx=>g x.1) (λx v=>(s x.1 v,x.2)) where
 get:=λ⟨c1,c2,h,h1,h2⟩=>by subst h;have hl:=A.len h1;have:=p.le;rw[List.drop_append_of_le_length (by omega),List.take_append_of_le_length (by simp;omega)];exact p.get h1
 set:=λ⟨c1,c2,h,h1,h2⟩ hv=>by subst h;have hl:=A.len h1;have:=p.le;exact⟨_,_,QD (by rw[M.len hv];omega),p.set h1 hv,h2⟩
 le:=by have:=p.le;show o+M.n<=A.n+B.n;omega
theorem aY.snd{A:dI α}{B:dI β}{M:dI γ}{o:Nat}{g:β->γ}{s:β->γ->β}(p:aY B M o g s):aY (LP A B) M (A.n+o) (λx=>g x.2) (λx v=>(x.1,s x.2 v)) where
 get:=λ⟨c1,c2,h,h1,h2⟩=>by subst h;have hl:=A.len h1;rw[← hl, ← List.drop_drop,List.drop_left];exact p.get h2
 set:=λ⟨c1,c2,h,h1,h2⟩ hv=>by subst h;have hl:=A.len h1;exact⟨c1,_,by rw[← hl];exact FV,h1,p.set h2 hv⟩
 le:=by have:=p.le;show A.n+o+M.n<=A.n+B.n;omega
theorem aY.via{A:dI α}{M:dI γ}{o:Nat}{g:α->γ}{s:α->γ->α}(p:aY A M o g s)(f:S->α)(g':S->γ)(s':S->γ->S)(o':Nat)(ho:o'=o)(hg:∀x,g' x=g (f x))(hs:∀x v,f (s' x v)=s (f x) v):aY (A.via f) M o' g' s' where
 get h:=by subst ho;rw[hg];exact p.get h
 set h hv:=by subst ho;show A.fz _ _ (f (s' _ _));rw[hs];exact p.set h hv
 le:=by subst ho;exact p.le
theorem aY.idx{L:dI α}{m:Nat}(i:Nat)(h:i<m){k:Nat}(hk:k=L.n):aY (LA L m) L (i*k) (λa=>a i) (λa v=>dy a i v) where
 get:=λ⟨cc,hc,h1⟩=>by subst hc hk;have:=XN (g:=cc) (t:=[]) (λj hj=>L.len (h1 j hj)) h;rw[List.append_nil]at this;rw[this];exact h1 i h
 set:=@λJ cs x vs v hh hv=>by
  obtain⟨cc,hc,h1⟩:=hh;subst hc hk;refine⟨dy cc i vs,RF (λj hj=>L.len (h1 j hj)) h (L.len hv),λj hj=>?_⟩;unfold dy;split
  ·exact hv
  ·exact h1 j hj
 le:=by subst hk;show i*L.n+L.n<=m*L.n;rw[← Nat.succ_mul];exact Nat.mul_le_mul_right _ h
theorem aY.comp{L:dI α}{M:dI β}{K:dI γ}{o1 o2:Nat}{g1:α->β}{s1:α->β->α}{g2:β->γ}{s2:β->γ->β}(p:aY L M o1 g1 s1)(q:aY M K o2 g2 s2):aY L K (o1+o2) (λx=>g2 (g1 x)) (λx v=>s1 x (s2 (g1 x) v)) where
 get h:=by have h2:=q.get (p.get h);have:=q.le;rw[List.drop_take,List.take_take,List.drop_drop,Nat.min_eq_left (by omega)]at h2;exact h2
 set:=@λJ cs x vs v h hv=>by
  have hl:=L.len h;have h2:=p.set h (q.set (p.get h) hv);have Rq:=K.len hv;have:=q.le;have:=p.le;have e:cY cs o1 (cY ((cs.drop o1).take M.n) o2 vs)=cY cs (o1+o2) vs:=by
   refine Ch λj=>?_;have hm:=M.len (p.get h);have hlen:(cY ((cs.drop o1).take M.n) o2 vs).length=M.n:=by rw[xn (by omega)];exact hm
   rw[rD (by omega),rD (cs:=cs) (vs:=vs) (by omega),hlen,Rq];by_cases h1:o1<=j/\j<o1+M.n
   ·rw[aps h1,rD (by omega),Rq]
    by_cases h3:o1+o2<=j/\j<o1+o2+K.n
    ·rw[aps h3,aps (by omega),show j-o1-o2=j-(o1+o2)by omega]
    ·rw[apt h3,apt (by omega),List.getElem?_take,aps (by omega),List.getElem?_drop,show o1+(j-o1)=j by omega]
   ·rw[apt h1,apt (by omega)]
  rw[e]at h2;exact h2
 le:=by have:=q.le;have:=p.le;omega
theorem aY.c0{L:dI α}{M:dI β}{K:dI γ}{o2:Nat}{g1:α->β}{s1:α->β->α}{g2:β->γ}{s2:β->γ->β}(p:aY L M 0 g1 s1)(q:aY M K o2 g2 s2):aY L K o2 (λx=>g2 (g1 x)) (λx v=>s1 x (s2 (g1 x) v)):=by have:=p.comp q;rwa[Nat.zero_add]at this
theorem aY.int{L:dI α}{k:IntKind}{o:Nat}{g:α->Int}{s:α->Int->α}(p:aY L (LI k) o g s){J cs x}(r:L.fz J cs x):cs[o]? =some (.int k (g x)):=by
 have h:(cs.drop o).take 1=[.int k (g x)]:=p.get r;have h2:((cs.drop o).take 1)[0]? =some (.int k (g x)):=by rw[h];rfl
 rw[List.getElem?_take,aps (by decide),List.getElem?_drop]at h2;exact h2
theorem aY.bool{L:dI α}{o:Nat}{g:α->Bool}{s:α->Bool->α}(p:aY L LB o g s){J cs x}(r:L.fz J cs x):cs[o]? =some (.bool (g x)):=by
 have h:(cs.drop o).take 1=[.bool (g x)]:=p.get r;have h2:((cs.drop o).take 1)[0]? =some (.bool (g x)):=by rw[h];rfl
 rw[List.getElem?_take,aps (by decide),List.getElem?_drop]at h2;exact h2
theorem aY.agg{L:dI α}{M:dI β}[bW L][bW M]{o:Nat}{g:α->β}{s:α->β->α}(p:aY L M o g s)(x:α):((L.enc x).drop o).take M.n=M.enc (g x):=bW.iff.1 (p.get (rp L x))
theorem aY.put{L:dI α}{M:dI β}[bW L][bW M]{o:Nat}{g:α->β}{s:α->β->α}(p:aY L M o g s)(x:α)(v:β):cY (L.enc x) o (M.enc v)=L.enc (s x v):=bW.iff.1 (p.set (rp L x) (rp M v))
end
section words
variable {α ρ:Type}
def lt(a:α)(f:α->Option ρ):Option ρ:=f a
def gu(b:Bool)(k:Option ρ):Option ρ:=bif b then k else none
def bd(m:Option α)(f:α->Option ρ):Option ρ:=m.bind f
def cn(b:Bool)(x y:Option ρ):Option ρ:=bif b then x else y
def cl(g:Bool)(m:Option α)(z:α)(f:α->Option ρ):Option ρ:=bif g then m.bind f else f z
def bM(i:Int)(n:Nat):Bool:=decide (0<=i)&&decide (i<(n:Int))
abbrev wr(k:IntKind)(n:Int):Int:=k.wrap n
def FX(k:IntKind)(a b:Int):Int:=k.wrap (a*2^(min b.toNat k.bits))
def FW(k:IntKind)(a b:Int):Int:=a.fdiv (2^(min b.toNat k.bits))
def lY(k:IntKind)(a b:Int):Int:=k.wrap ((BitVec.ofInt k.bits a&&& BitVec.ofInt k.bits b).toNat:Int)
def orI(k:IntKind)(a b:Int):Int:=k.wrap ((BitVec.ofInt k.bits a|||BitVec.ofInt k.bits b).toNat:Int)
def JC(k:IntKind)(a b:Int):Int:=k.wrap ((BitVec.ofInt k.bits a^^^BitVec.ofInt k.bits b).toNat:Int)
def Dg(k:IntKind)(a b:Int):Int:=k.wrap ((BitVec.ofInt k.bits a&&& ~~~BitVec.ofInt k.bits b).toNat:Int)
theorem uS{a:α}{f:α->Option ρ}{r:ρ}(h:lt a f=some r):∃x,x=a/\f x=some r:=⟨a,rfl,h⟩
theorem rH{b:Bool}{k:Option ρ}{r:ρ}(h:gu b k=some r):b=true/\k=some r:=by cases b with|true=>exact⟨rfl,h⟩|false=>cases h
theorem vG{m:Option α}{f:α->Option ρ}{r:ρ}(h:bd m f=some r):∃x,m=some x/\f x=some r:=by cases m with|none=>cases h|some x=>exact⟨x,rfl,h⟩
theorem Um{b:Bool}{x y:Option ρ}{r:ρ}(hb:b=true)(h:cn b x y=some r):x=some r:=by subst hb;exact h
theorem Un{b:Bool}{x y:Option ρ}{r:ρ}(hb:b=false)(h:cn b x y=some r):y=some r:=by subst hb;exact h
theorem aeU{g:Bool}{m:Option α}{z:α}{f:α->Option ρ}{r:ρ}(h:cl g m z f=some r):∃x,(g=true->m=some x)/\(g=false->x=z)/\f x=some r:=by
 cases g with
 |true=>obtain⟨x,h1,h2⟩:=vG h;exact⟨x,λ_ =>h1,nofun,h2⟩
 |false=>exact⟨z,nofun,λ_ =>rfl,h⟩
theorem dH{i:Int}{n:Nat}(h:bM i n=true):i=(i.toNat:Int)/\i.toNat<n:=by simp[bM]at h;omega
theorem Ls{g p:Bool}(h:(!g||p)=true)(hg:g=true):p=true:=by subst hg;simpa using h
theorem af2{i:Int}(h:decide (0<=i)=true):0<=i:=by simpa using h
end words
section
variable {α1 ρ:Type}
def eU(B:(α1->Option ρ)->α1->Option ρ):Nat->α1->Option ρ
 |0,_ =>none
 |n+1,a1=>B (eU B n) a1
theorem ak2{lb B:(α1->Option ρ)->α1->Option ρ}(e:lb=B){m:Nat}{a1:α1}{r:ρ}(h:eU lb m a1=some r):∃m',m=m'+1/\B (eU lb m') a1=some r:=by
 subst e;cases m with
 |zero=>cases h
 |succ m=>exact⟨m,rfl,h⟩
theorem ak9{j B:α1->Option ρ}(e:j=B){a1:α1}{r:ρ}(h:j a1=some r):B a1=some r:=e▸h
theorem fK{B:(α1->Option ρ)->α1->Option ρ}(I:α1->Prop)(μ:α1->Nat)(Q:Option ρ->Prop)(hB:∀k a1,I a1->(∀b1,I b1->μ b1<μ a1->Q (k b1))->Q (B k a1)):∀n a1,I a1->μ a1<n->Q (eU B n a1):=by
 intro n
 induction n with
 |zero=>intro a1 _ h;exact absurd h (Nat.not_lt_zero _)
 |succ n ih=>intro a1 hi hm;exact hB _ a1 hi λb1 hj hl=>ih b1 hj (by omega)
end
section
variable {α1 α2 ρ:Type}
def cJ(B:(α1->α2->Option ρ)->α1->α2->Option ρ):Nat->α1->α2->Option ρ
 |0,_,_ =>none
 |n+1,a1,a2=>B (cJ B n) a1 a2
theorem Rc{B:(α1->α2->Option ρ)->α1->α2->Option ρ}{n:Nat}{a1:α1}{a2:α2}{r:ρ}(h:cJ B n a1 a2=some r):∃lb,lb=B/\cJ lb n a1 a2=some r:=⟨B,rfl,h⟩
theorem NJ{lb B:(α1->α2->Option ρ)->α1->α2->Option ρ}(e:lb=B){m:Nat}{a1:α1}{a2:α2}{r:ρ}(h:cJ lb m a1 a2=some r):∃m',m=m'+1/\B (cJ lb m') a1 a2=some r:=by
 subst e;cases m with
 |zero=>cases h
 |succ m=>exact⟨m,rfl,h⟩
theorem dY{B:(α1->α2->Option ρ)->α1->α2->Option ρ}(I:α1->α2->Prop)(μ:α1->α2->Nat)(Q:Option ρ->Prop)(hB:∀k a1 a2,I a1 a2->(∀b1 b2,I b1 b2->μ b1 b2<μ a1 a2->Q (k b1 b2))->Q (B k a1 a2)):∀n a1 a2,I a1 a2->μ a1 a2<n->Q (cJ B n a1 a2):=by
 intro n
 induction n with
 |zero=>intro a1 a2 _ h;exact absurd h (Nat.not_lt_zero _)
 |succ n ih=>intro a1 a2 hi hm;exact hB _ a1 a2 hi λb1 b2 hj hl=>ih b1 b2 hj (by omega)
end
section
variable {α1 α2 α3 ρ:Type}
def sU(B:(α1->α2->α3->Option ρ)->α1->α2->α3->Option ρ):Nat->α1->α2->α3->Option ρ
 |0,_,_,_ =>none
 |n+1,a1,a2,a3=>B (sU B n) a1 a2 a3
theorem ak1{B:(α1->α2->α3->Option ρ)->α1->α2->α3->Option ρ}{n:Nat}{a1:α1}{a2:α2}{a3:α3}{r:ρ}(h:sU B n a1 a2 a3=some r):∃lb,lb=B/\sU lb n a1 a2 a3=some r:=⟨B,rfl,h⟩
theorem afS{lb B:(α1->α2->α3->Option ρ)->α1->α2->α3->Option ρ}(e:lb=B){m:Nat}{a1:α1}{a2:α2}{a3:α3}{r:ρ}(h:sU lb m a1 a2 a3=some r):∃m',m=m'+1/\B (sU lb m') a1 a2 a3=some r:=by
 subst e;cases m with
 |zero=>cases h
 |succ m=>exact⟨m,rfl,h⟩
theorem rR{B:(α1->α2->α3->Option ρ)->α1->α2->α3->Option ρ}(I:α1->α2->α3->Prop)(μ:α1->α2->α3->Nat)(Q:Option ρ->Prop)(hB:∀k a1 a2 a3,I a1 a2 a3->(∀b1 b2 b3,I b1 b2 b3->μ b1 b2 b3<μ a1 a2 a3->Q (k b1 b2 b3))->Q (B k a1 a2 a3)):∀n a1 a2 a3,I a1 a2 a3->μ a1 a2 a3<n->Q (sU B n a1 a2 a3):=by
 intro n
 induction n with
 |zero=>intro a1 a2 a3 _ h;exact absurd h (Nat.not_lt_zero _)
 |succ n ih=>intro a1 a2 a3 hi hm;exact hB _ a1 a2 a3 hi λb1 b2 b3 hj hl=>ih b1 b2 b3 hj (by omega)
end
section
variable {α1 α2 α3 α4 ρ:Type}
def VB(B:(α1->α2->α3->α4->Option ρ)->α1->α2->α3->α4->Option ρ):Nat->α1->α2->α3->α4->Option ρ
 |0,_,_,_,_ =>none
 |n+1,a1,a2,a3,a4=>B (VB B n) a1 a2 a3 a4
theorem ak0{lb B:(α1->α2->α3->α4->Option ρ)->α1->α2->α3->α4->Option ρ}(e:lb=B){m:Nat}{a1:α1}{a2:α2}{a3:α3}{a4:α4}{r:ρ}(h:VB lb m a1 a2 a3 a4=some r):∃m',m=m'+1/\B (VB lb m') a1 a2 a3 a4=some r:=by
 subst e;cases m with
 |zero=>cases h
 |succ m=>exact⟨m,rfl,h⟩
end
section
variable {α1 α2 α3 α4 α5 ρ:Type}
def VA(B:(α1->α2->α3->α4->α5->Option ρ)->α1->α2->α3->α4->α5->Option ρ):Nat->α1->α2->α3->α4->α5->Option ρ
 |0,_,_,_,_,_ =>none
 |n+1,a1,a2,a3,a4,a5=>B (VA B n) a1 a2 a3 a4 a5
theorem akZ{lb B:(α1->α2->α3->α4->α5->Option ρ)->α1->α2->α3->α4->α5->Option ρ}(e:lb=B){m:Nat}{a1:α1}{a2:α2}{a3:α3}{a4:α4}{a5:α5}{r:ρ}(h:VA lb m a1 a2 a3 a4 a5=some r):∃m',m=m'+1/\B (VA lb m') a1 a2 a3 a4 a5=some r:=by
 subst e;cases m with
 |zero=>cases h
 |succ m=>exact⟨m,rfl,h⟩
end
section
variable {α1 α2 α3 α4 α5 α6 ρ:Type}
def Ln(B:(α1->α2->α3->α4->α5->α6->Option ρ)->α1->α2->α3->α4->α5->α6->Option ρ):Nat->α1->α2->α3->α4->α5->α6->Option ρ
 |0,_,_,_,_,_,_ =>none
 |n+1,a1,a2,a3,a4,a5,a6=>B (Ln B n) a1 a2 a3 a4 a5 a6
theorem akY{lb B:(α1->α2->α3->α4->α5->α6->Option ρ)->α1->α2->α3->α4->α5->α6->Option ρ}(e:lb=B){m:Nat}{a1:α1}{a2:α2}{a3:α3}{a4:α4}{a5:α5}{a6:α6}{r:ρ}(h:Ln lb m a1 a2 a3 a4 a5 a6=some r):∃m',m=m'+1/\B (Ln lb m') a1 a2 a3 a4 a5 a6=some r:=by
 subst e;cases m with
 |zero=>cases h
 |succ m=>exact⟨m,rfl,h⟩
theorem Xt{B:(α1->α2->α3->α4->α5->α6->Option ρ)->α1->α2->α3->α4->α5->α6->Option ρ}(I:α1->α2->α3->α4->α5->α6->Prop)(μ:α1->α2->α3->α4->α5->α6->Nat)(Q:Option ρ->Prop)(hB:∀k a1 a2 a3 a4 a5 a6,I a1 a2 a3 a4 a5 a6->(∀b1 b2 b3 b4 b5 b6,I b1 b2 b3 b4 b5 b6->μ b1 b2 b3 b4 b5 b6<μ a1 a2 a3 a4 a5 a6->Q (k b1 b2 b3 b4 b5 b6))->Q (B k a1 a2 a3 a4 a5 a6)):∀n a1 a2 a3 a4 a5 a6,I a1 a2 a3 a4 a5 a6->μ a1 a2 a3 a4 a5 a6<n->Q (Ln B n a1 a2 a3 a4 a5 a6):=by
 intro n
 induction n with
 |zero=>intro a1 a2 a3 a4 a5 a6 _ h;exact absurd h (Nat.not_lt_zero _)
 |succ n ih=>intro a1 a2 a3 a4 a5 a6 hi hm;exact hB _ a1 a2 a3 a4 a5 a6 hi λb1 b2 b3 b4 b5 b6 hj hl=>ih b1 b2 b3 b4 b5 b6 hj (by omega)
end
section
variable {α1 α2 α3 α4 α5 α6 α7 ρ:Type}
def Vz(B:(α1->α2->α3->α4->α5->α6->α7->Option ρ)->α1->α2->α3->α4->α5->α6->α7->Option ρ):Nat->α1->α2->α3->α4->α5->α6->α7->Option ρ
 |0,_,_,_,_,_,_,_ =>none
 |n+1,a1,a2,a3,a4,a5,a6,a7=>B (Vz B n) a1 a2 a3 a4 a5 a6 a7
theorem akX{lb B:(α1->α2->α3->α4->α5->α6->α7->Option ρ)->α1->α2->α3->α4->α5->α6->α7->Option ρ}(e:lb=B){m:Nat}{a1:α1}{a2:α2}{a3:α3}{a4:α4}{a5:α5}{a6:α6}{a7:α7}{r:ρ}(h:Vz lb m a1 a2 a3 a4 a5 a6 a7=some r):∃m',m=m'+1/\B (Vz lb m') a1 a2 a3 a4 a5 a6 a7=some r:=by
 subst e;cases m with
 |zero=>cases h
 |succ m=>exact⟨m,rfl,h⟩
end
section
variable {α1 α2 α3 α4 α5 α6 α7 α8 ρ:Type}
def Vy(B:(α1->α2->α3->α4->α5->α6->α7->α8->Option ρ)->α1->α2->α3->α4->α5->α6->α7->α8->Option ρ):Nat->α1->α2->α3->α4->α5->α6->α7->α8->Option ρ
 |0,_,_,_,_,_,_,_,_ =>none
 |n+1,a1,a2,a3,a4,a5,a6,a7,a8=>B (Vy B n) a1 a2 a3 a4 a5 a6 a7 a8
theorem akW{lb B:(α1->α2->α3->α4->α5->α6->α7->α8->Option ρ)->α1->α2->α3->α4->α5->α6->α7->α8->Option ρ}(e:lb=B){m:Nat}{a1:α1}{a2:α2}{a3:α3}{a4:α4}{a5:α5}{a6:α6}{a7:α7}{a8:α8}{r:ρ}(h:Vy lb m a1 a2 a3 a4 a5 a6 a7 a8=some r):∃m',m=m'+1/\B (Vy lb m') a1 a2 a3 a4 a5 a6 a7 a8=some r:=by
 subst e;cases m with
 |zero=>cases h
 |succ m=>exact⟨m,rfl,h⟩
end
section
variable {α1 α2 α3 α4 α5 α6 α7 α8 α9 ρ:Type}
def Vx(B:(α1->α2->α3->α4->α5->α6->α7->α8->α9->Option ρ)->α1->α2->α3->α4->α5->α6->α7->α8->α9->Option ρ):Nat->α1->α2->α3->α4->α5->α6->α7->α8->α9->Option ρ
 |0,_,_,_,_,_,_,_,_,_ =>none
 |n+1,a1,a2,a3,a4,a5,a6,a7,a8,a9=>B (Vx B n) a1 a2 a3 a4 a5 a6 a7 a8 a9
theorem akV{lb B:(α1->α2->α3->α4->α5->α6->α7->α8->α9->Option ρ)->α1->α2->α3->α4->α5->α6->α7->α8->α9->Option ρ}(e:lb=B){m:Nat}{a1:α1}{a2:α2}{a3:α3}{a4:α4}{a5:α5}{a6:α6}{a7:α7}{a8:α8}{a9:α9}{r:ρ}(h:Vx lb m a1 a2 a3 a4 a5 a6 a7 a8 a9=some r):∃m',m=m'+1/\B (Vx lb m') a1 a2 a3 a4 a5 a6 a7 a8 a9=some r:=by
 subst e;cases m with
 |zero=>cases h
 |succ m=>exact⟨m,rfl,h⟩
end
section
variable {α1 α2 α3 α4 α5 α6 α7 α8 α9 Nj ρ:Type}
def Ph(B:(α1->α2->α3->α4->α5->α6->α7->α8->α9->Nj->Option ρ)->α1->α2->α3->α4->α5->α6->α7->α8->α9->Nj->Option ρ):Nat->α1->α2->α3->α4->α5->α6->α7->α8->α9->Nj->Option ρ
 |0,_,_,_,_,_,_,_,_,_,_ =>none
 |n+1,a1,a2,a3,a4,a5,a6,a7,a8,a9,Wq=>B (Ph B n) a1 a2 a3 a4 a5 a6 a7 a8 a9 Wq
theorem aht{lb B:(α1->α2->α3->α4->α5->α6->α7->α8->α9->Nj->Option ρ)->α1->α2->α3->α4->α5->α6->α7->α8->α9->Nj->Option ρ}(e:lb=B){m:Nat}{a1:α1}{a2:α2}{a3:α3}{a4:α4}{a5:α5}{a6:α6}{a7:α7}{a8:α8}{a9:α9}{Wq:Nj}{r:ρ}(h:Ph lb m a1 a2 a3 a4 a5 a6 a7 a8 a9 Wq=some r):∃m',m=m'+1/\B (Ph lb m') a1 a2 a3 a4 a5 a6 a7 a8 a9 Wq=some r:=by
 subst e;cases m with
 |zero=>cases h
 |succ m=>exact⟨m,rfl,h⟩
end
section
variable {α1 α2 α3 α4 α5 α6 α7 α8 α9 Nj WE ρ:Type}
def Pf(B:(α1->α2->α3->α4->α5->α6->α7->α8->α9->Nj->WE->Option ρ)->α1->α2->α3->α4->α5->α6->α7->α8->α9->Nj->WE->Option ρ):Nat->α1->α2->α3->α4->α5->α6->α7->α8->α9->Nj->WE->Option ρ
 |0,_,_,_,_,_,_,_,_,_,_,_ =>none
 |n+1,a1,a2,a3,a4,a5,a6,a7,a8,a9,Wq,a11=>B (Pf B n) a1 a2 a3 a4 a5 a6 a7 a8 a9 Wq a11
theorem ahs{lb B:(α1->α2->α3->α4->α5->α6->α7->α8->α9->Nj->WE->Option ρ)->α1->α2->α3->α4->α5->α6->α7->α8->α9->Nj->WE->Option ρ}(e:lb=B){m:Nat}{a1:α1}{a2:α2}{a3:α3}{a4:α4}{a5:α5}{a6:α6}{a7:α7}{a8:α8}{a9:α9}{Wq:Nj}{a11:WE}{r:ρ}(h:Pf lb m a1 a2 a3 a4 a5 a6 a7 a8 a9 Wq a11=some r):∃m',m=m'+1/\B (Pf lb m') a1 a2 a3 a4 a5 a6 a7 a8 a9 Wq a11=some r:=by
 subst e;cases m with
 |zero=>cases h
 |succ m=>exact⟨m,rfl,h⟩
end
section
variable {α1 α2 α3 α4 α5 α6 α7 α8 α9 Nj WE α12 ρ:Type}
def Pe(B:(α1->α2->α3->α4->α5->α6->α7->α8->α9->Nj->WE->α12->Option ρ)->α1->α2->α3->α4->α5->α6->α7->α8->α9->Nj->WE->α12->Option ρ):Nat->α1->α2->α3->α4->α5->α6->α7->α8->α9->Nj->WE->α12->Option ρ
 |0,_,_,_,_,_,_,_,_,_,_,_,_ =>none
 |n+1,a1,a2,a3,a4,a5,a6,a7,a8,a9,Wq,a11,a12=>B (Pe B n) a1 a2 a3 a4 a5 a6 a7 a8 a9 Wq a11 a12
theorem ahr{lb B:(α1->α2->α3->α4->α5->α6->α7->α8->α9->Nj->WE->α12->Option ρ)->α1->α2->α3->α4->α5->α6->α7->α8->α9->Nj->WE->α12->Option ρ}(e:lb=B){m:Nat}{a1:α1}{a2:α2}{a3:α3}{a4:α4}{a5:α5}{a6:α6}{a7:α7}{a8:α8}{a9:α9}{Wq:Nj}{a11:WE}{a12:α12}{r:ρ}(h:Pe lb m a1 a2 a3 a4 a5 a6 a7 a8 a9 Wq a11 a12=some r):∃m',m=m'+1/\B (Pe lb m') a1 a2 a3 a4 a5 a6 a7 a8 a9 Wq a11 a12=some r:=by
 subst e;cases m with
 |zero=>cases h
 |succ m=>exact⟨m,rfl,h⟩
end
section rules
variable {P:Program} {N:Nat} {c:Cx} {D:List Deferred} {Q:Exit->Act->World->Prop} {F:gC} {H:List aO} {d:Option Tmp} {ty:TypeId} {ps:String} {af:Array Edge} {g:Option (Nat×Bool)} {α β γ:Type}
theorem R9{x:Operand}{y z:Code}{t:Bool}(hc:ev F x=some (.bool t))(h1:t=true->WP P N c D y Q F H)(h0:t=false->WP P N c D z Q F H):WP P N c D (.cond x y z) Q F H:=by
 cases t with
 |true=>exact afc hc (h1 rfl)
 |false=>exact acq hc (h0 rfl)
theorem UC{o:Oper}{v v':Value}(h:VS P N c o F H v)(e:v=v'):VS P N c o F H v':=e▸h
theorem afq{T U:TypeId}{x y:Operand}{k:IntKind}{a b:Int}(hx:ev F x=some (.int k a))(hy:ev F y=some (.int k b)):VS P N c ⟨d, .binOp .and T x y U,ty,ps,af,g⟩ F H (.int k (lY k a b)):=afp hx hy rfl λ_ _ =>rfl
theorem Wr{T U:TypeId}{x y:Operand}{k k':IntKind}{a b:Int}(hx:ev F x=some (.int k a))(hy:ev F y=some (.int k' b))(h0:0<=b):VS P N c ⟨d, .binOp .shl T x y U,ty,ps,af,g⟩ F H (.int k (FX k a b)):=aja hx hy h0 rfl
theorem P1{T U:TypeId}{x y:Operand}{k k':IntKind}{a b:Int}(hx:ev F x=some (.int k a))(hy:ev F y=some (.int k' b))(h0:0<=b):VS P N c ⟨d, .binOp .shr T x y U,ty,ps,af,g⟩ F H (.int k (FW k a b)):=ai9 hx hy h0 rfl
theorem Iz{L:dI α}[bW L]{x:α}{k:IntKind}{o b t T:Nat}{y:Operand}{gg:α->Int}{s:α->Int->α}(p:aY L (LI k) o gg s)(hx:ev F y=some (gk b o))[xW H b T (L.enc x)][s9 P t]:VS P N c ⟨d, .load t y,ty,ps,af,g⟩ F H (.int k (gg x)):=lG hx (p.int (rp L x))
theorem ajh{L:dI α}[bW L]{x:α}{o b t T:Nat}{y:Operand}{gg:α->Bool}{s:α->Bool->α}(p:aY L LB o gg s)(hx:ev F y=some (gk b o))[xW H b T (L.enc x)][s9 P t]:VS P N c ⟨d, .load t y,ty,ps,af,g⟩ F H (.bool (gg x)):=lG hx (p.bool (rp L x))
theorem nH{L:dI α}{M:dI β}[bW L][bW M]{x:α}{o b t T q:Nat}{y:Operand}{gg:α->β}{s:α->β->α}(p:aY L M o gg s)(hx:ev F y=some (gk b o))[xW H b T (L.enc x)][ht:wH P t q](hn:M.n=q):VS P N c ⟨d, .load t y,ty,ps,af,g⟩ F H (.agg (M.enc (gg x)).toArray):=by subst hn;exact Jw hx (p.agg x) (lD _ _)
theorem zC{L:dI α}{M:dI β}[bW L][bW M]{x:α}{o b t T q:Nat}{y z:Operand}{gg:α->β}{s:α->β->α}{val:Value}{H':List aO}(p:aY L M o gg s)(v:β)(x':α)(e:x'=s x v)(hx:ev F y=some (gk b o))(hz:ev F z=some val)(hv:val.cells.toList=M.enc v)
  [xW H b T (L.enc x)][ht:UH P t q](hn:M.n=q)[M8 H b (L.enc x') H']:RX (α:=Unit) P N c ⟨d, .store t y z,ty,ps,af,g⟩ F H (λ_ =>True) (λ_ =>undef) (λ_ =>H'):=by
 subst hn;subst e;exact vg hx hz hv (lD _ _) (by rw[lD];exact p.le) (Gr _ _) (p.put x v)
theorem qx(L:dI α)[bW L](x:α){y:Operand}{t:Nat}{val:Value}(hx:ev F y=some val)(hv:val.cells.toList=L.enc x):
  RX P N c ⟨d, .box t y,ty,ps,af,g⟩ F H (λ_ =>True) (λb=>gk b 0) (λb=> .cells b t (L.enc x)::H):=UK hx hv
theorem zD{L:dI α}[bW L]{z:α}{t:Nat}(hz:kz P t (L.enc z)):
  RX P N c ⟨d, .alloc t,ty,ps,af,g⟩ F H (λ_ =>True) (λb=>gk b 0) (λb=> .cells b t (L.enc z)::H):=ta (hz:=hz)
end rules
end Go.Bw
namespace Go.Bw
open Go Go.RowKit
def Hs(R:List aO)(w:World):Prop:=∀r∈R,r.holds w/\∀b∈r.eW,b<w.heap.size
class CG(K:World->Prop):Prop where
 ok:∀w w',K w->bI [] w w'->K w'
instance ajJ(R:List aO):CG (Hs R):=⟨λw w' h hs r hr=>⟨aO.oy (h r hr).1 hs.size λb hb=>hs.block b ((h r hr).2 b hb) (by simp),λb hb=>Nat.lt_of_lt_of_le ((h r hr).2 b hb) hs.size⟩⟩
class HIn(A:World->Prop)(r:aO):Prop where
 ok:∀w,A w->r.holds w/\∀b∈r.eW,b<w.heap.size
instance(priority:=100) amM(r:aO)(R:List aO):HIn (Hs (r::R)) r:=⟨λ_ h=>h r (by simp)⟩
instance(priority:=50) ajQ(r s:aO)(R:List aO)[h:HIn (Hs R) r]:HIn (Hs (s::R)) r:=⟨λw hw=>h.ok w λq hq=>hw q (by simp[hq])⟩
instance(priority:=30) ao7(A B:World->Prop)(r:aO)[h:HIn B r]:HIn (λw=>A w/\B w) r:=⟨λw hw=>h.ok w hw.2⟩
class Ent(A B:World->Prop):Prop where
 ok:∀w,A w->B w
theorem G9{A B:World->Prop}[h:Ent A B]:∀w,A w->B w:=h.ok
instance(priority:=100) amO(A:World->Prop):Ent A A:=⟨λ_ h=>h⟩
instance(priority:=80) amV(A:World->Prop):Ent A (Hs []):=⟨λ_ _ _ h=>by simp at h⟩
instance(priority:=70) amP(A:World->Prop)(r:aO)(R:List aO)[h:HIn A r][k:Ent A (Hs R)]:Ent A (Hs (r::R)):=⟨λw hw q hq=>by
 rcases List.mem_cons.1 hq with rfl|hq
 ·exact h.ok w hw
 ·exact k.ok w hw q hq⟩
class Kn(c:Cx)(H:List aO)(A:World->Prop):Prop where
 ok:∀w,bI c.bs c.w0 w->cI c.bs c.w0.heap.size H w->A w
theorem kn{c:Cx}{H:List aO}{A:World->Prop}[h:Kn c H A]:∀w,bI c.bs c.w0 w->cI c.bs c.w0.heap.size H w->A w:=h.ok
theorem Jm{c:Cx}{H:List aO}{w:World}(h:cI c.bs c.w0.heap.size H w):Hs H w:=λr hr=>⟨h.holds r hr,λb hb=>(h.own r hr b hb).2⟩
instance(priority:=80) ao6(c:Cx)(H R:List aO)[h:Ent (Hs H) (Hs R)]:Kn c H (Hs R):=⟨λw _ h2=>h.ok w (Jm h2)⟩
instance(priority:=80) amT(c:Cx)(H:List aO):Kn c H (λ_ =>True):=⟨λ_ _ _ =>trivial⟩
theorem ahG{c:Cx}{K:World->Prop}[hS:CG K](qT:c.bs=[])(hpre:K c.w0):∀H,Kn c H K:=λH=>⟨λw hs _ =>hS.ok c.w0 w hpre (by rw[qT]at hs;exact hs)⟩
section
variable {α β:Type}
def fW(L:dI α)[bW L](xs:List α):List Value:=(xs.map L.enc).flatten
theorem qK(L:dI α)[bW L](xs:List α):(fW L xs).length=xs.length*L.n:=by
 induction xs with
 |nil=>simp[fW]
 |cons x xs ih=>simp only[fW,List.map_cons,List.flatten_cons,List.length_append,List.length_cons,lD]at *;rw[ih,Nat.succ_mul];omega
theorem QJ(L:dI α)[bW L](xs:List α):vi (fW L xs):=by intro v hv;simp only[fW,List.mem_flatten,List.mem_map]at hv;obtain⟨l,⟨x,_,rfl⟩,h⟩:=hv;exact Gr L x v h
theorem uP(L:dI α)[bW L](xs ys:List α):fW L (xs++ys)=fW L xs++fW L ys:=by simp[fW]
theorem Nv(L:dI α)[bW L](x:α):fW L [x]=L.enc x:=by simp[fW]
theorem Uc(g:Nat->List Value):∀n,flat g (n+1)=g 0++flat (λi=>g (i+1)) n:=by
 intro n
 induction n with
 |zero=>simp[flat]
 |succ n ih=>rw[flat,ih,flat,List.append_assoc]
theorem jH(L:dI α)[bW L][Inhabited α](xs:List α):fW L xs=(LA L xs.length).enc (λi=>xs.getD i default):=by
 show _ =flat (λi=>L.enc (xs.getD i default)) xs.length
 induction xs with
 |nil=>rfl
 |cons x xs ih=>rw[List.length_cons,Uc];simp only[fW,List.map_cons,List.flatten_cons]at *;rw[ih];rfl
theorem ZC(L:dI α)[bW L](xs:List α)(l h:Nat)(hl:l<=h)(hh:h<=xs.length):((fW L xs).drop (l*L.n)).take ((h-l)*L.n)=fW L ((xs.drop l).take (h-l)):=by
 have e1:xs=xs.take l++((xs.drop l).take (h-l)++(xs.drop l).drop (h-l)):=by rw[List.take_append_drop,List.take_append_drop]
 have l1:(fW L (xs.take l)).length=l*L.n:=by rw[qK,List.length_take,Nat.min_eq_left (by omega)]
 have l2:(fW L ((xs.drop l).take (h-l))).length=(h-l)*L.n:=by rw[qK];congr 1;simp;omega
 conv=>lhs;rw[e1,uP,uP]
 rw[← l1,List.drop_left, ← l2,List.take_left]
theorem ZA(L:dI α)[bW L][Inhabited α](xs:List α)(m:Nat)(y:α)(hm:m<xs.length):(LA L xs.length).enc (dy (λi=>xs.getD i default) m y)=fW L (xs.set m y):=by
 rw[jH,List.length_set];show flat _ _ =flat _ _;refine Aw λi hi=>?_;congr 1;unfold dy;simp only[List.getD,List.getElem?_set];by_cases e:m=i
 ·subst e;simp[hm]
 ·simp[e,Ne.symm e]
structure Fz(A:World->Prop)(v:Value)(L:dI α)[bW L](xs:List α):Prop where
 sl:wI v xs.length
 ro:∀w,A w->Ro w v L.n xs.length (fW L xs)
theorem Fz.mono{A B:World->Prop}{v:Value}{L:dI α}[bW L]{xs:List α}(h:Fz A v L xs)(m:∀w,B w->A w):Fz B v L xs:=⟨h.sl,λw hw=>h.ro w (m w hw)⟩
theorem Fz.nil{A:World->Prop}{L:dI α}[bW L]{a:Option Addr}{cp:Nat}:Fz A (.slice a 0 cp) L ([]:List α):=⟨⟨_,_,rfl⟩,λ_ _ =>⟨by simp[fW], .inl ⟨⟨_,_,rfl⟩,rfl⟩⟩⟩
theorem Fz.at {c:Cx}{H:List aO}{A:World->Prop}{v:Value}{L:dI α}[bW L]{xs:List α}(h:Fz A v L xs)[k:Kn c H A]:tH c H v L.n xs.length (fW L xs):=⟨λw h1 h2=>h.ro w (k.ok w h1 h2)⟩
abbrev nF(v:Value)(e sz:Nat)(L:dI α)[bW L](xs:List α):aO:= .row v e sz xs.length (fW L xs)
theorem Fz.row{v:Value}{e sz:Nat}{L:dI α}[bW L]{xs:List α}(hs:sz=L.n)(h:wI v xs.length):Fz (Hs [nF v e sz L xs]) v L xs:=⟨h,λw hw=>by
 subst hs;have h1:(nF v e L.n L xs).holds w:=(hw _ (List.mem_singleton.2 rfl)).1;exact Ro.Ab (e:=e) h1⟩
theorem Ti(M:dI β)[bW M][Inhabited β](g:Nat->β)(m:Nat):fW M ((List.range m).map g)=flat (λi=>M.enc (g i)) m:=by rw[jH];show flat _ _ =_;rw[List.length_map,List.length_range];refine Aw λi hi=>?_;simp[List.getD,hi]
theorem Fz.akJ{W:World}{v:Value}{L:dI α}[bW L][Inhabited α]{sz len:Nat}{g:Nat->α}(hs:sz=L.n)(hv:wI v len)(h:Ro W v sz len (flat (λi=>L.enc (g i)) len)):Fz (λw=>bI [] W w) v L ((List.range len).map g):=by subst hs;refine⟨by simpa using hv,λw hw=>?_⟩;rw[Ti];have:=h.since hw;simpa using this
def WC(L:dI α)[bW L]:dI (List α) where
 n:=1
 fz A cs xs:=∃v,cs=[v]/\Fz A v L xs
 len:=λ⟨v,h,_⟩=>by subst h;rfl
 one:=λ⟨v,h,hf⟩=>by subst h;intro u hu;rw[List.mem_singleton.1 hu];exact hf.sl.one
 mono m:=λ⟨v,h,hf⟩=>⟨v,h,hf.mono m⟩
theorem aY.sl{L:dI α}{M:dI β}[bW M]{o:Nat}{g:α->List β}{s:α->List β->α}(p:aY L (WC M) o g s){A cs x}(r:L.fz A cs x):∃v,cs[o]? =some v/\Fz A v M (g x):=by
 obtain⟨v,h,hf⟩:=p.get r;refine⟨v,?_,hf⟩;have h2:((cs.drop o).take (WC M).n)[0]? =some v:=by rw[h];rfl
 rw[List.getElem?_take,aps (by show 0<1;decide),List.getElem?_drop]at h2;exact h2
end
section rules
variable {P:Program} {N:Nat} {c:Cx} {D:List Deferred} {Q:Exit->Act->World->Prop} {F:gC} {H:List aO} {d:Option Tmp} {ty:TypeId} {ps:String} {af:Array Edge} {g:Option (Nat×Bool)} {α β γ:Type}
section
variable {A:World->Prop} {v:Value} {L:dI α} [bW L] {xs:List α}
theorem wG{x:Operand}{t e q:Nat}[ht:zG P t e q](hf:Fz A v L xs)(hx:ev F x=some v)[Kn c H A]:VS P N c ⟨d, .call ⟨.builtin .len, #[x], #[t]⟩,ty,ps,af,g⟩ F H (.int .i64 (xs.length:Int)):=by haveI:=hf.at (c:=c) (H:=H);exact UF hx
theorem AO{x y:Operand}{t e sz m:Nat}{k:IntKind}{i:Int}[ht:zG P t e sz](hf:Fz A v L xs)(hs:L.n=sz)(hx:ev F x=some v)(hy:ev F y=some (.int k i))[Kn c H A](hi:i=(m:Int))(hm:m<xs.length):
  VS P N c ⟨d, .indexAddr t x y,ty,ps,af,g⟩ F H (jG v (m*sz)):=by
 haveI:=hf.at (c:=c) (H:=H);subst hs;exact AP hx hy hi hm
variable [Inhabited α]
theorem Dh{k:IntKind}{o t:Nat}{y:Operand}{gg:(Nat->α)->Int}{s:(Nat->α)->Int->(Nat->α)}(hf:Fz A v L xs)(p:aY (LA L xs.length) (LI k) o gg s)(hx:ev F y=some (jG v o))[Kn c H A][s9 P t]:VS P N c ⟨d, .load t y,ty,ps,af,g⟩ F H (.int k (gg (λi=>xs.getD i default))):=by haveI:=hf.at (c:=c) (H:=H);exact Jz hx (by rw[jH];exact p.int (rp _ _))
end
def gO(n m b:Nat):Bool:=decide ((n+m)*b<=140737488355328/\n+m<=9223372036854775807)
theorem ld{n m b:Nat}(h:gO n m b=true):(n+m)*b<=140737488355328/\n+m<=9223372036854775807:=of_decide_eq_true h
theorem Md{L:dI α}{M:dI β}{o b t T q:Nat}{y z:Operand}{gg:α->β}{s:α->β->α}{val:Value}{cs cs':List Value}(vs:List Value){x:α}{v:β}{A B:World->Prop}{H':List aO}(p:aY L M o gg s)(r:L.fz A cs x)(rv:M.fz B vs v)(hx:ev F y=some (gk b o))(hz:ev F z=some val)(hv:val.cells.toList=vs)
  [xW H b T cs][ht:UH P t q](hn:M.n=q)(hc:cY cs o vs=cs')[M8 H b cs' H']:RX (α:=Unit) P N c ⟨d, .store t y z,ty,ps,af,g⟩ F H (λ_ =>True) (λ_ =>undef) (λ_ =>H'):=by
 subst hn;exact vg hx hz hv (M.len rv) (by rw[L.len r];exact p.le) (M.one rv) hc
section
variable {v:Value} {L:dI α} [bW L] {xs:List α} {t e sz bytes:Nat} {f:aO->List aO}
theorem GU{s x:Operand}{b T cp:Nat}{y:α}[P7 P t e sz bytes](hs:ev F s=some v)[hr:xS H v e sz xs.length (fW L xs) f](hx:ev F x=some (.slice (some ⟨b,0,none⟩) 1 cp))[hc:xW H b T (L.enc y)](hn:L.n=sz)
  (Rr:(xs.length+1)*bytes<=140737488355328)(h63:xs.length+1<=9223372036854775807):
  RX P N c ⟨d, .call ⟨.builtin .append, #[s,x], #[t,t]⟩,ty,ps,af,g⟩ F H (λv'=>wI v' (xs++[y]).length) (λv'=>v') (λv'=>f (nF v' e sz L (xs++[y]))):=by
 have h:=Ye (P:=P) (N:=N) (c:=c) (F:=F) (H:=H) (d:=d) (ty:=ty) (p:=ps) (af:=af) (g:=g) (t:=t) (m:=1) hs hx (by rw[lD,hn];omega) (Gr L y) Rr h63 (hr:=hr) (hc:=hc);have e1:(xs++[y]).length=xs.length+1:=by simp
 have e2:fW L (xs++[y])=fW L xs++L.enc y:=by rw[uP,Nv]
 unfold nF;rw[e1,e2];exact h
theorem GR{s x:Operand}{A:World->Prop}{u:Value}{ys:List α}[P7 P t e sz bytes](hf:Fz A u L ys)(hs:ev F s=some v)[hr:xS H v e sz xs.length (fW L xs) f](hx:ev F x=some u)[Kn c H A](hn:L.n=sz)
  (Rr:(xs.length+ys.length)*bytes<=140737488355328)(h63:xs.length+ys.length<=9223372036854775807):
  RX P N c ⟨d, .call ⟨.builtin .append, #[s,x], #[t,t]⟩,ty,ps,af,g⟩ F H (λv'=>wI v' (xs++ys).length) (λv'=>v') (λv'=>f (nF v' e sz L (xs++ys))):=by
 subst hn;have h:=AQ (P:=P) (N:=N) (c:=c) (F:=F) (H:=H) (d:=d) (ty:=ty) (p:=ps) (af:=af) (g:=g) (t:=t) hs hx (hr:=hr) (hu:=hf.at) (QJ L ys) Rr h63;have e1:(xs++ys).length=xs.length+ys.length:=by simp
 have e2:fW L (xs++ys)=fW L xs++fW L ys:=uP _ _ _;unfold nF;rw[e1,e2];exact h
theorem IB{x:Operand}(L:dI α)[bW L](y:α){zs:List Value}{val:Value}[ht:zG P t e sz][hz:kz P e zs](hx:ev F x=some val)(hc:val.cells.toList=L.enc y)(hl:L.n=sz)(hzl:zs.length=sz)(h0:0<sz)(hs:sz<=16777216):
  RX P N c ⟨d, .buildSlice t 1 #[(0,x)],ty,ps,af,g⟩ F H (λ_ =>True) (λb=> .slice (some ⟨b,0,none⟩) 1 1) (λb=> .cells b e (L.enc y)::H):=Mf hx hc (by rw[lD];exact hl) hzl h0 hs
end
theorem GL{x:Code}(e sz:Nat)(L:dI α)[bW L](h:WP P N c D x Q F (nF (.slice none 0 0) e sz L []::H)):WP P N c D x Q F H:=afd e sz h
theorem ae9{x:Exit}(e sz:Nat)(L:dI α)[bW L](h:WQ N c D Q x F (nF (.slice none 0 0) e sz L []::H)):WQ N c D Q x F H:=afa e sz h
abbrev FnB(P:Program)(f:Nat)(args:List Value)(K:World->Prop)(p:(World->Prop)->Value->Prop):Prop:=
 Fn (α:=Value×List Nat×(World->Prop)) P f args K [] (λx=>p (Hs [.ext x.2.1 x.2.2]) x.1) (λx=>x.1) (λx=>[.ext x.2.1 x.2.2])
theorem abV{bs:List Nat}{n0:Nat}{w:World}{R H':List aO}(h:cI bs n0 (R++H') w):cI bs n0 (.ext (cy R) (Hs R)::H') w:=by
 have hp:=List.pairwise_append.1 h.apart;refine⟨λr hr=>?_,λr hr b hb=>?_,?_⟩
 ·rcases List.mem_cons.1 hr with rfl|hr
  ·intro w' h1 h2 q hq
   have Lu:=h.holds q (apz _ hq);exact⟨aO.oy Lu h1 λb hb=>h2 b (bO.2 ⟨q,hq,hb⟩),λb hb=>Nat.lt_of_lt_of_le (h.own q (apz _ hq) b hb).2 h1⟩
  ·exact h.holds r (apy _ hr)
 ·rcases List.mem_cons.1 hr with rfl|hr
  ·obtain⟨q,hq,hb⟩:=bO.1 hb;exact h.own q (apz _ hq) b hb
  ·exact h.own r (apy _ hr) b hb
 ·refine List.pairwise_cons.2 ⟨λs hs b hb qT=>?_,hp.2.1⟩
  obtain⟨q,hq,hb⟩:=bO.1 hb;exact hp.2.2 q hq s hs b hb qT
theorem Iu{e:Exit}{R H':List aO}{ks:List Nat}(hk:pick H ks=some (R++H'))(hn:ks.Nodup)(h:WQ N c D Q e F (.ext (cy R) (Hs R)::H')):WQ N c D Q e F H:=ach (λ_ _ _ hp=>abV (hp.pick hk hn)) h
instance(priority:=60) amU(bs:List Nat)(R:List aO)(r:aO)(S:List aO)[h:HIn (Hs R) r]:HIn (Hs (.ext bs (Hs R)::S)) r:=⟨λw hw=>h.ok w (Gp (hw (.ext bs (Hs R)) (by simp)).1)⟩
end rules
end Go.Bw
namespace Go.Bw
open Go Go.RowKit
section rules
variable {P:Program} {N:Nat} {c:Cx} {D:List Deferred} {Q:Exit->Act->World->Prop} {F:gC} {H:List aO} {d:Option Tmp} {ty:TypeId} {ps:String} {af:Array Edge} {g:Option (Nat×Bool)} {α β γ:Type}
theorem acB{A:World->Prop}{v:Value}{L:dI α}[bW L]{xs:List α}{x hi mx:Operand}{t e q:Nat}{k k':IntKind}[ht:zG P t e q](hf:Fz A v L xs)(hx:ev F x=some v)(hh:ev F hi=some (.int k (xs.length:Int)))(hm:ev F mx=some (.int k' (xs.length:Int)))[Kn c H A]:
  VS P N c ⟨d, .slice t x none (some hi) (some mx),ty,ps,af,g⟩ F H (Bg v):=by
 haveI:=hf.at (c:=c) (H:=H);exact Ww hx hh hm
def YA(bs:List Nat)(K:World->Prop)(w:World):Prop:=∀w',bI bs w w'->K w'
class KnF(c:Cx)(R:List aO)(K:World->Prop):Prop where
 ok:∀w,bI c.bs c.w0 w->Hs R w->K w
instance(priority:=80) amK(c:Cx)(R:List aO):KnF c R (λ_ =>True):=⟨λ_ _ _ =>trivial⟩
instance(priority:=20) apo(c:Cx)(H:List aO)(K:World->Prop)[h:KnF c H K]:Kn c H K:=⟨λw h1 h2=>h.ok w h1 (Jm h2)⟩
theorem aek{c:Cx}{K:World->Prop}[hS:CG K](qT:c.bs=[])(hpre:K c.w0):∀R,KnF c R K:=λR=>⟨λw hs _ =>hS.ok c.w0 w hpre (by rw[qT]at hs;exact hs)⟩
abbrev FnC(P:Program)(f:Nat)(args:List Value)(K:World->Prop)(qd:List aO)(p:(World->Prop)->Value->List aO->Prop):Prop:=
 Fn (α:=Value×List aO×List Nat×(World->Prop)) P f args (YA (cy qd) K) qd (λx=>p (Hs [.ext x.2.2.1 x.2.2.2]) x.1 x.2.1) (λx=>x.1) (λx=> .ext x.2.2.1 x.2.2.2::x.2.1)
theorem CI{α:Type}{x:Operand}{args:List Operand}{ats:Array TypeId}{f:Nat}{fst cap:Array Value}{us vs:List Value}{K:World->Prop}{qd rest:List aO}{p:α->Prop}{fv:α->Value}{fH:α->List aO}{ks:List Nat}
  (hc:Fn P f vs (YA (cy qd) K) qd p fv fH)(hx:ev F x=some (.func (.func f) fst cap))(ha:Jp F args=some us)(hv:fst.toList++us++cap.toList=vs)(hkp:pick H ks=some (qd++rest))(hn:ks.Nodup)[hK:KnF c rest K]:
  RX P N c ⟨d, .call ⟨.value x,args.toArray,ats⟩,ty,ps,af,g⟩ F H p fv (λi=>fH i++rest):=λD a w next Q hst hk=>by
 refine⟨λ_ _ =>trivial,?_⟩;have hs:Oper.semAt (FA c.ro).round a.eval (⟨d, .call ⟨.value x,args.toArray,ats⟩,ty,ps,af,g⟩:Oper)=execOp a.eval ⟨d, .call ⟨.value x,args.toArray,ats⟩,ty,ps,af,g⟩:=Oper.semAt_eq _ _ _ (by simp);have hr:(execOp a.eval ⟨d, .call ⟨.value x,args.toArray,ats⟩,ty,ps,af,g⟩).run P w= .ok (.enter f vs.toArray) w:=by
  have e1:=bB hst.fr hx;have e2:=PJ hst.fr ha;have e3:fst++(args.toArray.map a.eval)++cap=vs.toArray:=by rw[← hv, ← e2];simp
  simp only[execOp,resolve,e1,Deferred.ofValue,Sem.run_bind,Sem.run_pure,Result.andThen_ok,invoke,e3];exact hc.enter _ _
 rw[hs,hr];refine⟨λh=>by simp at h,oC c.ro ?_⟩;have hp:=hst.hp.pick hkp hn;have hap:=List.pairwise_append.1 hp.apart;have hin:cI (cy qd) w.heap.size qd w:=⟨λr hr=>hp.holds r (apz _ hr),λr hr b hb=>⟨.inl (bO.2 ⟨r,hr,hb⟩),(hp.own r (apz _ hr) b hb).2⟩,hap.1⟩;have hkeep:∀{w':World},bI (cy qd) w w'->∀r∈rest,r.holds w'/\∀b∈r.eW,b<w'.heap.size:=λhsi r hr=>by have hlt:∀b∈r.eW,b<w.heap.size:=λb hb=>(hp.own r (apy _ hr) b hb).2;refine⟨aO.oy (hp.holds r (apy _ hr)) hsi.size λb hb=>hsi.block b (hlt b hb) λhm=>?_,λb hb=>Nat.lt_of_lt_of_le (hlt b hb) hsi.size⟩;obtain⟨q,hq,hbq⟩:=bO.1 hm;exact hap.2.2 q hq r hr b hbq hb
 have hown:∀b∈cy qd,b∈c.bs\/c.w0.heap.size<=b:=λb hb=>by obtain⟨q,hq,hbq⟩:=bO.1 hb;exact(hp.own q (apz _ hq) b hbq).1
 have hpre:YA (cy qd) K w:=λw' hsi=>hK.ok w' (hst.si.trans hsi hown) (hkeep hsi);have zv:=hc.calls w hpre hin;intro cs;obtain⟨e,w',fr,⟨i,hpi,he,hsi,hh⟩,fA⟩:=zv cs;refine⟨e,w',fr,?_,fA⟩;subst he;have Bf:=hkeep hsi;refine hk i w' hpi (hst.si.trans hsi hown) ⟨λr hm=>?_,λr hm b hb=>?_,List.pairwise_append.2 ⟨hh.apart,hap.2.1,λr h1 s h2 b hb VJ=>?_⟩⟩
 ·rcases List.mem_append.1 hm with h1|h1
  ·exact hh.holds r h1
  ·exact(Bf r h1).1
 ·rcases List.mem_append.1 hm with h1|h1
  ·obtain⟨o,l⟩:=hh.own r h1 b hb
   refine⟨?_,l⟩;rcases o with o|o
   ·exact hown b o
   ·exact .inr (Nat.le_trans hst.si.size o)
  ·exact⟨(hp.own r (apy _ h1) b hb).1,(Bf r h1).2 b hb⟩
 ·obtain⟨o,_⟩:=hh.own r h1 b hb
  rcases o with o|o
  ·obtain⟨q,hq,hbq⟩:=bO.1 o
   exact hap.2.2 q hq s h2 b hbq VJ
  ·have:=(hp.own s (apy _ h2) b VJ).2
   omega
end rules
end Go.Bw
namespace Go.Bw
open Go Go.RowKit Go.ChangeShapes Go.WideShapes Go.Deep
theorem Below.aai{w w':World}(h:bI [] w w'):Below w.heap.size w w':=⟨h.os,h.tape,h.output,h.size,λk hk=>h.block k hk (by simp)⟩
theorem aeV{w:World}{a:Addr}{v:Value}(h:w.cell? a=some v):a.block<w.heap.size:=by
 rcases Nat.lt_or_ge a.block w.heap.size with h1|h1
 ·exact h1
 ·have:w.heap[a.block]? =none:=Array.getElem?_eq_none h1
  simp[World.cell?,this]at h
section
variable {H:Type} {enc:TypeId×Value->H} {P:Program} {w:World} {base:Nat} {spare:Nat->Bool} {held:Bool}
theorem K3{t fuel:Nat}{fs:Array Field}{cs:List Value}{x:DataW H×List MemPlace}(ht:P.underlying t=some (.struct fs))(h:DataW.trod enc P w base spare held fuel t cs=some x):
  cs.length=P.cellsOf t/\∀(i:Nat) (f:Field),fs[i]? =some f->∃n y,DataW.trod enc P w base spare held n f.type ((cs.drop f.offset).take (P.cellsOf f.type))=some y:=by
 obtain⟨ys,n,_,_,hl,hy,hf⟩:=DataW.trod_struct ht h;refine⟨hl,λi f hi=>?_⟩;have hlt:i<ys.length:=by rw[hy];exact(apA.1 hi).1
 exact⟨n,ys[i],(hf i f hi).trans (apB hlt)⟩
theorem adV{α:Type}[Inhabited α]{t e sz fuel len cap:Nat}{a:Option Addr}{x:DataW H×List MemPlace}(E:α->List Value)(R:α->Prop)(ht:P.underlying t=some (.slice e))(hC:P.cellsOf e=sz)(h0:0<sz)
  (hE:∀z,(E z).length=sz)(hQ:∀(n:Nat) (cs:List Value) y,DataW.trod enc P w base spare held n e cs=some y->∃z,cs=E z/\R z)(h:DataW.trod enc P w base spare held fuel t [.slice a len cap]=some x):
  ∃g:Nat->α,Ro w (.slice a len cap) sz len (flat (λi=>E (g i)) len)/\(∀i,i<len->R (g i))/\len<=maxLen:=by
 rcases open_slice ht h with⟨hcs,_⟩|⟨a',len',cap',m,n,D,Pl,hcs,_,hl,hm,NN,_,hi⟩
 ·simp at hcs
  obtain⟨rfl,rfl,rfl⟩:=hcs;exact⟨λ_ =>default,⟨by simp[flat], .inl ⟨⟨_,_,rfl⟩,rfl⟩⟩,λi hi=>by omega,Nat.zero_le _⟩
 ·simp at hcs
  obtain⟨rfl,rfl,rfl⟩:=hcs;have hlm:len<=m:=by rw[NN];split<;>omega
  have hex:∀i,i<len->∃z,R z/\∀j,j<sz->w.cell? (a'.add (i*sz+j))=(E z)[j]? :=λi Ao=>by obtain⟨cs',hc,ht'⟩:=hi i (by omega);obtain⟨z,rfl,hz⟩:=hQ _ _ _ ht';rw[hC]at hc;obtain⟨_,_,hat⟩:=World.cells?_some hc;refine⟨z,hz,λj hj=>?_⟩;rw[← hat j hj, ← Go.Deep.add_add]
  let g:Nat->α:=λi=>if hh:i<len then Classical.choose (hex i hh)else default
  have hg:∀i,i<len->R (g i)/\∀j,j<sz->w.cell? (a'.add (i*sz+j))=(E (g i))[j]? :=λi Ao=>by have:=Classical.choose_spec (hex i Ao);simp only[g,Ao,dif_pos];exact this
  refine⟨g,⟨qV λi _ =>hE _,?_⟩,λi Ao=>(hg i Ao).1,by omega⟩;have hcells:∀(j:Nat) u,(flat (λi=>E (g i)) len)[j]? =some u->w.cell? (a'.add j)=some u:=λj u hu=>by
   have hlen:(flat (λi=>E (g i)) len).length=len*sz:=qV λi _ =>hE _;have hj:j<len*sz:=by rw[← hlen];exact(List.getElem?_eq_some_iff.1 hu).1
   have hd:j=(j/sz)*sz+j%sz:=by rw[Nat.mul_comm];exact(Nat.div_add_mod j sz).symm
   have hq:j/sz<len:=(Nat.div_lt_iff_lt_mul h0).2 hj;have hr:j%sz<sz:=Nat.mod_lt _ h0;rw[hd,xJ (g:=λi=>E (g i)) (λi _ =>hE _) hq hr]at hu;rw[hd,(hg _ hq).2 _ hr,hu]
  rcases Nat.eq_zero_or_pos len with e0|e0
  ·subst e0;exact .inl ⟨⟨_,_,rfl⟩,rfl⟩
  ·obtain⟨b,off,spot⟩:=a'
   have hz:(flat (λi=>E (g i)) len)[0]? =some ((flat (λi=>E (g i)) len)[0]'(by rw[qV (k:=sz) (λi _ =>hE _)];exact Nat.mul_pos e0 h0)):=apB _;have h1:=hcells 0 _ hz;have alq:spot=none:=by simpa[Addr.add]using World.cell?_spot h1
   subst alq;refine .inr ⟨b,off,cap,rfl,?_,by omega,λj u hu=>?_⟩
   ·simpa[Addr.add]using aeV h1
   ·have:=hcells j u hu
    rwa[Addr.add_lit]at this
end
end Go.Bw
namespace Go.Bw
open Go Go.RowKit Go.ChangeShapes Go.WideShapes Go.Deep
def Opn{α:Type}(P:Program)(W:World)(t:TypeId)(L:dI α)(R:α->Prop):Prop:=∀(H:Type) (enc:TypeId×Value->H) (base:Nat) (spare:Nat->Bool) (held:Bool) (n:Nat) (cs:List Value) (y:DataW H×List MemPlace),DataW.trod enc P W base spare held n t cs=some y->∃z,L.fz (λw=>bI [] W w) cs z/\R z
section
variable {P:Program} {W:World} {t e:TypeId} {α β:Type}
theorem acQ(hu:P.underlying t=some (.int .u8)):Opn P W t (LI .u8) (λz=>0<=z/\z<=255):=λ_ _ _ _ _ _ _ _ h=>by obtain⟨a,e,_,b⟩:=DataW.trod_int hu h;exact⟨a,e,bounds_u8 b⟩
theorem Kz(hu:P.underlying t=some (.int .u32)):Opn P W t (LI .u32) (λz=>0<=z/\z<=4294967295):=λ_ _ _ _ _ _ _ _ h=>by obtain⟨a,e,_,b⟩:=DataW.trod_int hu h;exact⟨a,e,bounds_u32 b⟩
theorem afv(hu:P.underlying t=some (.int .u64)):Opn P W t (LI .u64) (λz=>0<=z/\z<=18446744073709551615):=λ_ _ _ _ _ _ _ _ h=>by obtain⟨a,e,_,b⟩:=DataW.trod_int hu h;exact⟨a,e,bounds_u64 b⟩
theorem ajw[Inhabited α]{L:dI α}[bW L]{R:α->Prop}{sz:Nat}(hu:P.underlying t=some (.slice e))(hc:P.cellsOf e=sz)(hn:L.n=sz)(h0:0<sz)(h:Opn P W e L R):Opn P W t (WC L) (λz=>∀x∈z,R x):=by
 intro H enc base spare held n cs y hy;have hcs:∃a len cap,cs=[.slice a len cap]:=by
  rcases open_slice hu hy with⟨hcs,_⟩|⟨a',len',cap',m,n,D,Pl,hcs,_⟩
  ·exact⟨_,_,_,hcs⟩
  ·exact⟨_,_,_,hcs⟩
 obtain⟨a,len,cap,rfl⟩:=hcs;obtain⟨g,w,q,_⟩:=adV (α:=α) (sz:=sz) L.enc R hu hc h0 (λz=>(lD L z).trans hn) (λn cs y hy=>by
  obtain⟨z,hz,hr⟩:=h H enc base spare held n cs y hy;exact⟨z,bW.iff.1 hz,hr⟩) hy
 refine⟨_,⟨_,rfl,Fz.akJ (L:=L) hn.symm ⟨_,_,rfl⟩ w⟩,λx hx=>?_⟩;obtain⟨i,hi,rfl⟩:=List.mem_map.1 hx;exact q i (List.mem_range.1 hi)
theorem Dl{A:dI α}{B:dI β}{J:World->Prop}{cs:List Value}{o na:Nat}{x:α}{y:β}(hn:A.n=na)(h1:A.fz J ((cs.drop o).take na) x)(h2:B.fz J (cs.drop (o+na)) y):(LP A B).fz J (cs.drop o) (x,y):=
 ⟨_,_,(List.take_append_drop na _).symm,h1,by rw[List.drop_drop];exact h2⟩
theorem acS{A:dI α}{J:World->Prop}{cs:List Value}{o na:Nat}{x:α}(hl:cs.length=o+na)(h1:A.fz J ((cs.drop o).take na) x):A.fz J (cs.drop o) x:=by rwa[List.take_of_length_le (by rw[List.length_drop];omega)]at h1
theorem akl{L:dI α}[bW L]{A:World->Prop}{a:Option Addr}{len cap:Nat}{z:List α}(h:(WC L).fz A (Value.slice a len cap).cells.toList z):Fz A (.slice a len cap) L z:=by obtain⟨v,e,f⟩:=h;have e:[Value.slice a len cap]=[v]:=e;cases e;exact f
end
end Go.Bw
namespace Go.Bw
open Go Go.RowKit Go.ChangeShapes Go.WideShapes Go.Deep
section
variable {α β:Type}
structure DZ[Inhabited α](A:World->Prop)(v:Value)(L:dI α)(ws:List Value)(xs:List α):Prop where
 sl:wI v xs.length
 fz:(LA L xs.length).fz A ws (λi=>xs.getD i default)
 ro:∀w,A w->Ro w v L.n xs.length ws
theorem DZ.mono[Inhabited α]{A B:World->Prop}{v:Value}{L:dI α}{ws:List Value}{xs:List α}(h:DZ A v L ws xs)(m:∀w,B w->A w):DZ B v L ws xs:=⟨h.sl,dI.mono _ m h.fz,λw hw=>h.ro w (m w hw)⟩
theorem DZ.at [Inhabited α]{c:Cx}{H:List aO}{A:World->Prop}{v:Value}{L:dI α}{ws:List Value}{xs:List α}(h:DZ A v L ws xs)[k:Kn c H A]:tH c H v L.n xs.length ws:=⟨λw h1 h2=>h.ro w (k.ok w h1 h2)⟩
theorem DZ.nil[Inhabited α]{A:World->Prop}{L:dI α}:DZ A (.slice none 0 0) L [] ([]:List α):=⟨⟨_,_,rfl⟩,⟨λ_ =>[],rfl,λi hi=>absurd hi (Nat.not_lt_zero _)⟩,λ_ _ =>⟨by simp, .inl ⟨⟨_,_,rfl⟩,rfl⟩⟩⟩
def Qc[Inhabited α](L:dI α):dI (List α) where
 n:=1
 fz A cs xs:=∃v ws,cs=[v]/\DZ A v L ws xs
 len:=λ⟨v,ws,h,_⟩=>by subst h;rfl
 one:=λ⟨v,ws,h,hf⟩=>by subst h;intro u hu;rw[List.mem_singleton.1 hu];exact hf.sl.one
 mono m:=λ⟨v,ws,h,hf⟩=>⟨v,ws,h,hf.mono m⟩
end
section rules
variable {P:Program} {N:Nat} {c:Cx} {D:List Deferred} {Q:Exit->Act->World->Prop} {F:gC} {H:List aO} {d:Option Tmp} {ty:TypeId} {ps:String} {af:Array Edge} {g:Option (Nat×Bool)} {α β γ:Type}
 {A:World->Prop} {v:Value} {L:dI α} [Inhabited α] {ws:List Value} {xs:List α}
theorem Wt{x:Operand}{t e q:Nat}[ht:zG P t e q](hf:DZ A v L ws xs)(hx:ev F x=some v)[Kn c H A]:VS P N c ⟨d, .call ⟨.builtin .len, #[x], #[t]⟩,ty,ps,af,g⟩ F H (.int .i64 (xs.length:Int)):=by haveI:=hf.at (c:=c) (H:=H);exact UF hx
theorem aji{x y:Operand}{t e sz m:Nat}{k:IntKind}{i:Int}[ht:zG P t e sz](hf:DZ A v L ws xs)(hs:L.n=sz)(hx:ev F x=some v)(hy:ev F y=some (.int k i))[Kn c H A](hi:i=(m:Int))(hm:m<xs.length):
  VS P N c ⟨d, .indexAddr t x y,ty,ps,af,g⟩ F H (jG v (m*sz)):=by
 haveI:=hf.at (c:=c) (H:=H);subst hs;exact AP hx hy hi hm
theorem afl{x:Operand}{s f fo k m:Nat}[GN P s f fo](hf:DZ A v L ws xs)(hx:ev F x=some (jG v k))[Kn c H A](hm:m<xs.length):VS P N c ⟨d, .fieldAddr s x f,ty,ps,af,g⟩ F H (jG v (k+fo)):=by haveI:=hf.at (c:=c) (H:=H);exact P4 hx hm
theorem afk{x y:Operand}{t len e sz k0 m q:Nat}{k:IntKind}{i:Int}[h:DM P t len e sz](hf:DZ A v L ws xs)(hx:ev F x=some (jG v k0))(hy:ev F y=some (.int k i))[Kn c H A](hq:q<xs.length)(hi:i=(m:Int))(hm:m<len):
  VS P N c ⟨d, .indexAddr t x y,ty,ps,af,g⟩ F H (jG v (k0+m*sz)):=
 bp (by simp) λa w hf' hs hp=>by haveI:=hf.at (c:=c) (H:=H);obtain⟨gb,off,cap,rfl,_,_,_⟩:=((hf.at (c:=c) (H:=H)).ro w hs hp).at hq;obtain⟨inf,h1,h2,h3⟩:=DM.get h.ok;subst hi;simp[execOp,bB hf' hx,bB hf' hy,jG,Instr.indexAt,asIntOf,run_underlying h1,Instr.sureAddr,sizeOf,typeInfo,h2,h3,Addr.add_lit,Nat.add_assoc];intro hle;exact absurd (hm) (by omega)
end rules
end Go.Bw
namespace Go.Rw
open Go Go.Bw
inductive Ty where
 |int (k:IntKind)
 |bool
 |st (i:Nat)
 |oE (n:Nat) (e:Ty)
 |sl (e:Ty)
def Ty.cW:Ty->Ty->Bool
 | .int k, .int l=>Nat.beq (ik k) (ik l)
 | .bool, .bool=>true
 | .st i, .st j=>Nat.beq i j
 | .oE n e, .oE m f=>Nat.beq n m&&e.cW f
 | .sl e, .sl f=>e.cW f
 |_,_ =>false
where ik:IntKind->Nat
 | .i8=>0| .i16=>1| .i32=>2| .i64=>3| .u8=>4| .u16=>5| .u32=>6| .u64=>7
theorem Rj{k l:IntKind}(h:Nat.beq (Ty.cW.ik k) (Ty.cW.ik l)=true):k=l:=by cases k<;>cases l<;>first|rfl|(exact absurd h (by decide))
theorem Ty.yN:∀{t u:Ty},t.cW u=true->t=u:=by
 intro t
 induction t with
 |int k=>intro u h;cases u<;>simp only[Ty.cW,Bool.false_eq_true]at h;rw[Rj h]
 |bool=>intro u h;cases u<;>simp only[Ty.cW,Bool.false_eq_true]at h;rfl
 |st i=>intro u h;cases u<;>simp only[Ty.cW,Bool.false_eq_true]at h;rw[apu h]
 |oE n e ih=>intro u h;cases u<;>simp only[Ty.cW,Bool.false_eq_true,apv]at h;rw[apu h.1,ih h.2]
 |sl e ih=>intro u h;cases u<;>simp only[Ty.cW,Bool.false_eq_true]at h;rw[ih h]
structure Sg where
 S:Nat->Type
 z:∀i,S i
 L:∀i,dI (S i)
 gt:Option (IntKind×List (Int×Nat))
def Ty.T(G:Sg):Ty->Type
 | .int _ =>Int
 | .bool=>Bool
 | .st i=>G.S i
 | .oE _ e=>Nat->e.T G
 | .sl e=>List (e.T G)
def Ty.z(G:Sg):(t:Ty)->t.T G
 | .int _ =>(0:Int)
 | .bool=>false
 | .st i=>G.z i
 | .oE _ e=>λ_ =>e.z G
 | .sl _ =>[]
instance(G:Sg)(t:Ty):Inhabited (t.T G):=⟨t.z G⟩
def Ty.L(G:Sg):(t:Ty)->dI (t.T G)
 | .int k=>LI k
 | .bool=>LB
 | .st i=>G.L i
 | .oE n e=>LA (e.L G) n
 | .sl e=>Qc (α:=e.T G) (e.L G)
def Ty.ag:Ty->Bool
 | .st _ =>true
 | .oE _ _ =>true
 |_ =>false
structure Fd(G:Sg)(i:Nat) where
 ty:Ty
 off:Nat
 get:G.S i->ty.T G
 set:G.S i->ty.T G->G.S i
 ok:aY (G.L i) (ty.L G) off get set
inductive zB where
 |ME (j o:Nat)
 |idx (n sz:Nat) (i:Int)
def zB.off:zB->Nat
 | .ME _ o=>o
 | .idx _ sz i=>i.toNat*sz
def jz:List zB->Nat
 |[]=>0
 |s::r=>s.off+jz r
theorem Q2(p q:List zB):jz (p++q)=jz p+jz q:=by
 induction p with
 |nil=>simp[jz]
 |cons s p ih=>simp only[List.cons_append,jz,ih];omega
def zB.ok:zB->Prop
 | .ME _ _ =>True
 | .idx n _ i=>bM i n=true
inductive AV(G:Sg) where
 |Y9
 |unk (n:Nat)
 |int (k:IntKind) (n:Int)
 |lit (k:IntKind) (n:Int)
 |bool (b:Bool)
 |kb (b:Bool)
 |str (s:ByteArray)
 |dat (t:Ty) (x:t.T G)
 |ptr (r:Nat) (p:List zB)
 |Gc
 |row (r:Nat)
 |pR
 |mp (r:Nat)
 |Ge
 |fn (f:Fn) (a c:AV G)
 |Ce
 |st (a:AV G)
 |sE (a:AV G)
 |om (t:Nat) (v:AV G)
 |JO
 |elt (e:Ty) (xs:List (e.T G)) (p:List zB)
 |gd (j:Nat) (w:Bool) (v:AV G)
 |nil
 |cons (a b:AV G)
 |part (w:Nat) (a b:AV G)
variable {G:Sg}
def mk:(t:Ty)->t.T G->AV G
 | .int k,x=> .int k x
 | .bool,x=> .bool x
 |t,x=> .dat t x
abbrev bV:=Nat->Option Value
def bV.le(ρ ρ':bV):Prop:=∀r v,ρ r=some v->ρ' r=some v
theorem bV.le_refl(ρ:bV):ρ.le ρ:=λ_ _ h=>h
theorem bV.le_trans{a b c:bV}(h:a.le b)(k:b.le c):a.le c:=λr v e=>k r v (h r v e)
def zY(J:World->Prop)(t:Ty)(x:t.T G)(u:Value):Prop:=(t.L G).fz J u.cells.toList x/\(t.ag=true->∃cs:List Value,u= .agg cs.toArray)/\(t.ag=false->u.cells= #[u])
def PB(ρ:bV)(r:Nat)(p:List zB)(b o:Nat):Prop:=ρ r=some (.pointer (some ⟨b,o,none⟩))\/∃n cap n' sz i q,ρ r=some (.slice (some ⟨b,o,none⟩) n cap)/\p= .idx n' sz i::q/\i.toNat<n
theorem PB.app{ρ:bV}{r:Nat}{p q:List zB}{b o:Nat}(h:PB ρ r p b o):PB ρ r (p++q) b o:=by
 rcases h with h|⟨n,cap,n',sz,i,q',h1,rfl,h3⟩
 ·exact .inl h
 ·exact .inr ⟨n,cap,n',sz,i,q'++q,h1,rfl,h3⟩
theorem PB.ext{ρ ρ':bV}(m:ρ.le ρ'){r:Nat}{p:List zB}{b o:Nat}(h:PB ρ r p b o):PB ρ' r p b o:=by
 rcases h with h|⟨n,cap,n',sz,i,q',h1,h2⟩
 ·exact .inl (m _ _ h)
 ·exact .inr ⟨n,cap,n',sz,i,q',m _ _ h1,h2⟩
def rl(J:World->Prop)(ρ:bV):AV G->List Value->Prop
 | .Y9,l=>∃u,l=[u]
 | .unk n,l=>∃u:Value,l=[u]/\u.cells.size=n
 | .int k n,l=>l=[.int k n]
 | .lit k n,l=>l=[.int k n]
 | .bool b,l=>l=[.bool b]
 | .kb b,l=>l=[.bool b]
 | .str s,l=>l=[.string s]
 | .dat t x,l=>∃u,l=[u]/\zY J t x u
 | .ptr r p,l=>(∃b o,PB ρ r p b o/\l=[.pointer (some ⟨b,o+jz p,none⟩)])/\∀s∈p,s.ok
 | .Gc,l=>l=[.pointer none]
 | .row r,l=>∃a n cap,ρ r=some (.slice a n cap)/\l=[.slice a n cap]
 | .pR,l=>l=[.slice none 0 0]
 | .mp r,l=>∃u,ρ r=some u/\l=[u]/\u.cells= #[u]/\u.oneCell'=true
 | .Ge,l=>l=[.map none]
 | .fn f a c,l=>∃fs cs:List Value,l=[.func f fs.toArray cs.toArray]/\rl J ρ a fs/\rl J ρ c cs
 | .Ce,l=>l=[.nilFunc]
 | .st a,l=>∃cs:List Value,l=[.agg cs.toArray]/\rl J ρ a cs/\vi cs
 | .sE a,l=>∃vs:List Value,l=[.tuple vs.toArray]/\rl J ρ a vs
 | .om t v,l=>∃u,l=[.iface t u]/\rl J ρ v [u]
 | .JO,l=>l=[.nilIface]
 | .elt e xs p,l=>∃v ws,DZ J v (e.L G) ws xs/\l=[jG v (jz p)]/\(∀s∈p,s.ok)/\∃n sz i q,p= .idx n sz i::q/\n=xs.length/\sz=(e.L G).n
 | .gd _ _ _,_ =>False
 | .nil,l=>l=[]
 | .cons a b,l=>∃u r,l=u::r/\rl J ρ a [u]/\rl J ρ b r
 | .part w a b,l=>∃c1 c2 u,l=c1++c2/\c1.length=w/\rl J ρ a [u]/\u.cells.toList=c1/\rl J ρ b c2
abbrev rv(J:World->Prop)(ρ:bV)(v:AV G)(u:Value):Prop:=rl J ρ v [u]
theorem zY.mono{J J':World->Prop}(m:∀w,J' w->J w){t:Ty}{x:t.T G}{u:Value}(h:zY J t x u):zY J' t x u:=⟨(t.L G).mono m h.1,h.2⟩
theorem rl.mono{J J':World->Prop}{ρ:bV}(m:∀w,J' w->J w):∀{v:AV G} {l:List Value},rl J ρ v l->rl J' ρ v l:=by
 intro v
 induction v with
 |dat t x=>intro l h;obtain⟨u,e,h⟩:=h;exact⟨u,e,h.mono m⟩
 |fn f a c pU Gj=>intro l h;obtain⟨fs,cs,e,h1,h2⟩:=h;exact⟨fs,cs,e,pU h1,Gj h2⟩
 |st a ih=>intro l h;obtain⟨cs,e,h1,h2⟩:=h;exact⟨cs,e,ih h1,h2⟩
 |sE a ih=>intro l h;obtain⟨vs,e,h1⟩:=h;exact⟨vs,e,ih h1⟩
 |om t v ih=>intro l h;obtain⟨u,e,h1⟩:=h;exact⟨u,e,ih h1⟩
 |elt e xs p=>intro l h;obtain⟨v,ws,h1,h2⟩:=h;exact⟨v,ws,h1.mono m,h2⟩
 |cons a b pU uV=>intro l h;obtain⟨u,r,e,h1,h2⟩:=h;exact⟨u,r,e,pU h1,uV h2⟩
 |part w a b pU uV=>intro l h;obtain⟨c1,c2,u,e,h1,h2,h3,h4⟩:=h;exact⟨c1,c2,u,e,h1,pU h2,h3,uV h4⟩
 |_ =>intro l h;exact h
theorem rl.ext{J:World->Prop}{ρ ρ':bV}(m:ρ.le ρ'):∀{v:AV G} {l:List Value},rl J ρ v l->rl J ρ' v l:=by
 intro v
 induction v with
 |ptr r p=>intro l h;obtain⟨⟨b,o,h1,h2⟩,h3⟩:=h;exact⟨⟨b,o,h1.ext m,h2⟩,h3⟩
 |row r=>intro l h;obtain⟨a,n,cap,h1,h2⟩:=h;exact⟨a,n,cap,m _ _ h1,h2⟩
 |mp r=>intro l h;obtain⟨b,h1,h2⟩:=h;exact⟨b,m _ _ h1,h2⟩
 |fn f a c pU Gj=>intro l h;obtain⟨fs,cs,e,h1,h2⟩:=h;exact⟨fs,cs,e,pU h1,Gj h2⟩
 |st a ih=>intro l h;obtain⟨cs,e,h1,h2⟩:=h;exact⟨cs,e,ih h1,h2⟩
 |sE a ih=>intro l h;obtain⟨vs,e,h1⟩:=h;exact⟨vs,e,ih h1⟩
 |om t v ih=>intro l h;obtain⟨u,e,h1⟩:=h;exact⟨u,e,ih h1⟩
 |cons a b pU uV=>intro l h;obtain⟨u,r,e,h1,h2⟩:=h;exact⟨u,r,e,pU h1,uV h2⟩
 |part w a b pU uV=>intro l h;obtain⟨c1,c2,u,e,h1,h2,h3,h4⟩:=h;exact⟨c1,c2,u,e,h1,pU h2,h3,uV h4⟩
 |_ =>intro l h;exact h
theorem Nr{J:World->Prop}{ρ:bV}{t:Ty}{x:t.T G}{u:Value}(h:zY J t x u):rv J ρ (mk t x) u:=by
 cases t with
 |int k=>have h1:u.cells.toList=[.int k x]:=h.1;have h2:=h.2.2 rfl;rw[h2]at h1;exact h1
 |bool=>have h1:u.cells.toList=[.bool x]:=h.1;have h2:=h.2.2 rfl;rw[h2]at h1;exact h1
 |st i=>exact⟨u,rfl,h⟩
 |oE n e=>exact⟨u,rfl,h⟩
 |sl e=>exact⟨u,rfl,h⟩
theorem Vp{J:World->Prop}{ρ:bV}{t:Ty}{x:t.T G}{u:Value}(h:rv J ρ (mk t x) u):zY J t x u:=by
 cases t with
 |int k=>have h:[u]=[.int k x]:=h;cases h;exact⟨rfl,nofun,λ_ =>rfl⟩
 |bool=>have h:[u]=[.bool x]:=h;cases h;exact⟨rfl,nofun,λ_ =>rfl⟩
 |st i=>obtain⟨u',e,h⟩:=h;cases e;exact h
 |oE n e=>obtain⟨u',e,h⟩:=h;cases e;exact h
 |sl e=>obtain⟨u',e,h⟩:=h;cases e;exact h
end Go.Rw
namespace Go.Bw
open Go Go.RowKit
def yl{β:Type}(e:β)(m:Option (List β)):Option (List β):=m.map (e::·)
theorem anm{β:Type}{e:β}{m:Option (List β)}{r:List β}(h:yl e m=some r):∃r',r=e::r'/\m=some r':=by
 cases m with
 |none=>cases h
 |some l=>exact⟨l,(Option.some.inj h).symm,rfl⟩
section
variable {α1 β ρ:Type}
def tQ(B:β->(α1->Option ρ)->α1->Option ρ)(fin:α1->Option ρ):List β->α1->Option ρ
 |[],a1=>fin a1
 |x::l,a1=>B x (tQ B fin l) a1
end
section
variable {α1 α2 β ρ:Type}
def alg(B:β->(α1->α2->Option ρ)->α1->α2->Option ρ)(fin:α1->α2->Option ρ):List β->α1->α2->Option ρ
 |[],a1,a2=>fin a1 a2
 |x::l,a1,a2=>B x (alg B fin l) a1 a2
end
section
variable {α1 α2 α3 β ρ:Type}
def aaO(B:β->(α1->α2->α3->Option ρ)->α1->α2->α3->Option ρ)(fin:α1->α2->α3->Option ρ):List β->α1->α2->α3->Option ρ
 |[],a1,a2,a3=>fin a1 a2 a3
 |x::l,a1,a2,a3=>B x (aaO B fin l) a1 a2 a3
end
section
variable {α1 α2 α3 α4 β ρ:Type}
def alf(B:β->(α1->α2->α3->α4->Option ρ)->α1->α2->α3->α4->Option ρ)(fin:α1->α2->α3->α4->Option ρ):List β->α1->α2->α3->α4->Option ρ
 |[],a1,a2,a3,a4=>fin a1 a2 a3 a4
 |x::l,a1,a2,a3,a4=>B x (alf B fin l) a1 a2 a3 a4
end
section
variable {α1 α2 α3 α4 α5 β ρ:Type}
def ale(B:β->(α1->α2->α3->α4->α5->Option ρ)->α1->α2->α3->α4->α5->Option ρ)(fin:α1->α2->α3->α4->α5->Option ρ):List β->α1->α2->α3->α4->α5->Option ρ
 |[],a1,a2,a3,a4,a5=>fin a1 a2 a3 a4 a5
 |x::l,a1,a2,a3,a4,a5=>B x (ale B fin l) a1 a2 a3 a4 a5
end
section
variable {α1 α2 α3 α4 α5 α6 β ρ:Type}
def ald(B:β->(α1->α2->α3->α4->α5->α6->Option ρ)->α1->α2->α3->α4->α5->α6->Option ρ)(fin:α1->α2->α3->α4->α5->α6->Option ρ):List β->α1->α2->α3->α4->α5->α6->Option ρ
 |[],a1,a2,a3,a4,a5,a6=>fin a1 a2 a3 a4 a5 a6
 |x::l,a1,a2,a3,a4,a5,a6=>B x (ald B fin l) a1 a2 a3 a4 a5 a6
end
section
variable {α1 α2 α3 α4 α5 α6 α7 β ρ:Type}
def alc(B:β->(α1->α2->α3->α4->α5->α6->α7->Option ρ)->α1->α2->α3->α4->α5->α6->α7->Option ρ)(fin:α1->α2->α3->α4->α5->α6->α7->Option ρ):List β->α1->α2->α3->α4->α5->α6->α7->Option ρ
 |[],a1,a2,a3,a4,a5,a6,a7=>fin a1 a2 a3 a4 a5 a6 a7
 |x::l,a1,a2,a3,a4,a5,a6,a7=>B x (alc B fin l) a1 a2 a3 a4 a5 a6 a7
end
section
variable {α1 α2 α3 α4 α5 α6 α7 α8 β ρ:Type}
def alb(B:β->(α1->α2->α3->α4->α5->α6->α7->α8->Option ρ)->α1->α2->α3->α4->α5->α6->α7->α8->Option ρ)(fin:α1->α2->α3->α4->α5->α6->α7->α8->Option ρ):List β->α1->α2->α3->α4->α5->α6->α7->α8->Option ρ
 |[],a1,a2,a3,a4,a5,a6,a7,a8=>fin a1 a2 a3 a4 a5 a6 a7 a8
 |x::l,a1,a2,a3,a4,a5,a6,a7,a8=>B x (alb B fin l) a1 a2 a3 a4 a5 a6 a7 a8
end
end Go.Bw
namespace Go.Bw
open Go Go.RowKit
section rules
variable {P:Program} {N:Nat} {c:Cx} {D:List Deferred} {Q:Exit->Act->World->Prop} {F:gC} {H:List aO} {d:Option Tmp} {ty:TypeId} {ps:String} {af:Array Edge} {g:Option (Nat×Bool)} {α β γ:Type}
theorem UJ{L:dI α}[bW L][Inhabited α]{M:dI β}[bW M]{v:Value}{xs:List α}{e sz off t q:Nat}{x y:Operand}{val:Value}{gg:(Nat->α)->β}{s:(Nat->α)->β->(Nat->α)}{f:aO->List aO}{z:α}
  (m:Nat)(p:aY (LA L xs.length) M off gg s)(u:β)(ys:List α)(hy:ys=xs.set m z)(hx:ev F x=some (jG v off))(hz:ev F y=some val)(hv:val.cells.toList=M.enc u)(hs:s (λi=>xs.getD i default) u=dy (λi=>xs.getD i default) m z)
  (hm:m<xs.length)(hn:M.n=q)[hr:xS H v e sz xs.length (fW L xs) f](hsz:L.n=sz)[ht:UH P t q]:
  RX (α:=Unit) P N c ⟨d, .store t x y,ty,ps,af,g⟩ F H (λ_ =>True) (λ_ =>undef) (λ_ =>f (nF v e sz L ys)):=λD a w next Q hst hk=>by
 subst hn hsz;obtain⟨k,k1,k2⟩:=hr.ok;have NN:aO.row v e L.n xs.length (fW L xs)∈H:=List.mem_of_getElem? k1;have hown:w.ownsRow 0 e L.n v xs.length (fW L xs):=hst.hp.holds _ NN;obtain⟨hlen,Jn⟩:=hown;rcases Jn with⟨_,h0⟩|⟨gb,cap,cur,rfl,_,hgb,hnc,VM,hcs,NM⟩
 ·omega
 have hle:off+M.n<=xs.length*L.n:=p.le;have hmul:xs.length*L.n<=cap*L.n:=Nat.mul_le_mul_right _ hnc;obtain⟨cs,rfl⟩:∃cs:List Value,cur=cs.toArray:=⟨cur.toList,by simp⟩;have wC:cs.length=cap*L.n:=by simpa using hcs
 have Jl:cs.take (xs.length*L.n)=fW L xs:=by simpa using NM
 have hul:(M.enc u).length=M.n:=lD M u;obtain⟨w',e1,e2,e3⟩:=vz (P:=P) (t:=t) (b:=gb) (T:=e) (off:=off) (cs:=cs) (w:=w) hgb hv hul (by omega) (Gr M u);have aa6:ys.length=xs.length:=by rw[hy,List.length_set]
 have hnew:(cY cs off (M.enc u)).take (xs.length*L.n)=fW L ys:=by
  have h1:cY (fW L xs) off (M.enc u)=fW L ys:=by rw[jH L xs,hy, ← ZA L xs m z hm, ← hs];exact p.put _ _
  rw[← h1, ← Jl];unfold cY;rw[hul];have t1:(cs.take (xs.length*L.n)).take off=cs.take off:=by rw[List.take_take,Nat.min_eq_left (by omega)]
  have t2:(cs.take (xs.length*L.n)).drop (off+M.n)=(cs.drop (off+M.n)).take (xs.length*L.n-(off+M.n)):=by rw[List.drop_take]
  have t3:(cs.take off++M.enc u).length=off+M.n:=by rw[List.length_append,List.length_take,hul,Nat.min_eq_left (by omega)]
  rw[t1,t2,List.take_append,List.take_of_length_le (by omega),t3]
 refine tO (by simp) (w':=w') ?_ (hk () w' trivial (hst.si.store hst.hp NN (by simp[aO.eW,Value.ownBlock]) e3) ?_)
 ·simp[execOp,bB hst.fr hx,bB hst.fr hz,jG,Instr.storeAt,Instr.sureAddr,e1]
 ·show cI c.bs c.w0.heap.size (f (nF _ e L.n L ys)) w'
  rw[nF,k2];refine hst.hp.set k1 e3.size (λj hj hn=>e3.block j hj (by simpa[aO.eW,Value.ownBlock]using hn)) ?_ hst.si.size (λb' hb'=>?_)
  ·refine⟨by rw[qK], .inr ⟨gb,cap,_,by rw[aa6],Nat.zero_le _,e2,by omega,VM,?_,?_⟩⟩
   ·simp only[List.size_toArray,cY,List.length_append,List.length_take,List.length_drop,hul];omega
   ·rw[aa6];simpa using hnew
  ·have h5:b'=gb:=by simpa[aO.eW,Value.ownBlock]using hb'
   subst h5;exact⟨.inl (by simp[aO.eW,Value.ownBlock]),Nat.lt_of_lt_of_le (apA.1 hgb).1 e3.size⟩
theorem Iw{ops:Array Oper}{rest:List Oper}{x:Operand}{args:List Operand}{ats:Array TypeId}{f:Nat}{fst cap:Array Value}{us vs:List Value}{K:World->Prop}{qd rst:List aO}{val:Value}{ks:List Nat}{gg:Option (Nat×Bool)}{b:Bool}{dd:Tmp}
  (hg:Gd ops F gg b)(hd:Nat.blt dd N=true)(hc:b=true->Fn (α:=Unit) P f vs (YA (cy qd) K) qd (λ_ =>True) (λ_ =>val) (λ_ =>qd))(hx:b=true->ev F x=some (.func (.func f) fst cap))(ha:b=true->Jp F args=some us)
  (hv:fst.toList++us++cap.toList=vs)(hkp:pick H ks=some (qd++rst))(hn:ks.Nodup)(hK:b=true->KnF c rst K)
  (h:WL P N c D ops Q rest ((dd,bif b then val else undef)::F) (qd++rst)):
  WL P N c D ops Q (⟨some dd, .call ⟨.value x,args.toArray,ats⟩,ty,ps,af,gg⟩::rest) F H:=by
 cases b with
 |false=>exact P0 hg hd (ai8 (λ_ _ _ hp=>hp.pick hkp hn) h)
 |true=>intro a w hst;simp only[wpListIn,hg ⟨some dd, .call ⟨.value x,args.toArray,ats⟩,ty,ps,af,gg⟩ a rfl hst.fr,if_true];haveI:=hK rfl;exact CI (hc rfl) (hx rfl) (ha rfl) hv hkp hn D a w _ Q hst λi w' hp hs hh=>h _ _ (hst.put (d:=some dd) hd hs hh)
theorem Wx{x:Operand}{t e sz n cp:Nat}{a0:Option Addr}[ht:zG P t e sz](hx:ev F x=some (.slice a0 n cp)):VS P N c ⟨d, .call ⟨.builtin .cap, #[x], #[t]⟩,ty,ps,af,g⟩ F H (.int .i64 cp):=
 bp (by simp) λa w hf _ _ =>by obtain⟨i,h1,h2,h3⟩:=zG.get ht.ok;simp[execOp,resolve,invoke,builtin,bB hf hx,Builtin.cap_,run_underlying h1];rfl
theorem acA{x hi:Operand}{t e sz n cp b:Nat}{k:IntKind}[ht:zG P t e sz](hx:ev F x=some (.slice (some ⟨b,0,none⟩) n cp))(hh:ev F hi=some (.int k 0)):
  VS P N c ⟨d, .slice t x none (some hi) none,ty,ps,af,g⟩ F H (.slice (some ⟨b,0,none⟩) 0 cp):=
 bp (by simp) λa w hf _ _ =>by obtain⟨i,h1,h2,h3⟩:=zG.get ht.ok;simp[execOp,bB hf hx,bB hf hh,Instr.sliceAt,run_underlying h1,Instr.slice,Instr.sliceBounds,Instr.sliceBound,asIntOf,sizeOf,typeInfo,h2,Addr.add]
theorem N6{x hi:Operand}{t e sz:Nat}{k:IntKind}[ht:zG P t e sz](hx:ev F x=some (.slice none 0 0))(hh:ev F hi=some (.int k 0)):
  VS P N c ⟨d, .slice t x none (some hi) none,ty,ps,af,g⟩ F H (.slice none 0 0):=
 bp (by simp) λa w hf _ _ =>by obtain⟨i,h1,h2,h3⟩:=zG.get ht.ok;simp[execOp,bB hf hx,bB hf hh,Instr.sliceAt,run_underlying h1,Instr.slice,Instr.sliceBounds,Instr.sliceBound,asIntOf,sizeOf,typeInfo,h2,Addr.add]
theorem agz{a:Int}(h1: -9223372036854775808<=a)(h2:a<=9223372036854775807):wr .i64 a=a:=IntWalk.i64_in a ⟨h1,h2⟩
theorem HG(t ti ty e:TypeId)(i:TypeInfo)(z:Value)(q:IntKind)(w:World)(ht:P.underlying t=some (.slice e))(hti:P.underlying ti=some (.int q))(hi:P.info? e=some i)(hz:i.zero=some z)
  (n:Nat)(h0:0<n)(h63:(n:Int)<=9223372036854775807)(h48:n*i.bytes<=140737488355328)(hpos:0<i.size):
  (Builtin.append_ #[t,ti] ty #[.slice none 0 0, .int .i64 n]).run P w=
   .ok (.slice (some ⟨w.heap.size,0,none⟩) n (grownCap w n 0 e)) (w.drew.alloc (.cells (Builtin.zeroCells z.cells n++Builtin.zeroCells z.cells (grownCap w n 0 e-n)) e)):=by
 have hn:n≠0:=by omega
 have hns:n*i.size≠0:=Nat.mul_ne_zero hn (by omega);have aoC:¬(9223372036854775807<(n:Int)):=by omega
 have aoE:¬(281474976710656<Builtin.nextslicecap n 0*i.bytes):=by rw[nextslicecap_zero h0];omega
 have hw:IntKind.i64.wrap (n:Int)=n:=by rw[show IntKind.i64.wrap (n:Int)=wr .i64 (n:Int)from rfl,agz (by omega) h63]
 have hneg:¬((n:Int)<0):=by omega
 have aoD:¬(281474976710656<(n:Int)*(i.bytes:Int)):=by have h5:((n*i.bytes:Nat):Int)=(n:Int)*(i.bytes:Int):=Int.natCast_mul _ _;rw[← h5];omega
 simp[Builtin.append_,run_underlying ht,run_underlying hti,sizeOf,typeInfo,zeroValue,hi,hz,hn,aoC,aoE,Question.forced,run_firstCells_none,newRow,grownCap,asInt,asIntOf,hw,hneg,aoD,hns,Nat.pos_iff_ne_zero.1 hpos]
def Pw(n:Int)(b:Nat):Bool:=decide (0<n/\n*b<=140737488355328/\n<=9223372036854775807)
theorem abh{n:Int}{b:Nat}(h:Pw n b=true):0<n/\n*b<=140737488355328/\n<=9223372036854775807:=of_decide_eq_true h
theorem afu{s x:Operand}{t ti e sz bytes:Nat}{n:Int}{q:IntKind}(L:dI α)[bW L][ht:P7 P t e sz bytes](hti:P.underlying ti=some (.int q))(hs:ev F s=some (.slice none 0 0))(hx:ev F x=some (.int .i64 n))(hok:Pw n bytes=true):
  RX (α:=Nat×Nat) P N c ⟨d, .call ⟨.builtin .append, #[s,x], #[t,ti]⟩,ty,ps,af,g⟩ F H (λ_ =>True) (λv=> .slice (some ⟨v.1,0,none⟩) n.toNat v.2) (λv=>nF (.slice (some ⟨v.1,0,none⟩) 0 v.2) e sz L []::H):=λD a w next Q hst hk=>by
 obtain⟨i,z,e1,e2,e3,e4,e5,e6,e7⟩:=P7.get ht.ok;obtain⟨g1,g2,g3⟩:=abh hok;obtain⟨m,rfl⟩:∃m:Nat,n=m:=⟨n.toNat,by omega⟩;subst e4 e5;have hm0:0<m:=by omega
 have hb:m*i.bytes<=140737488355328:=by have h5:((m*i.bytes:Nat):Int)=(m:Int)*(i.bytes:Int):=Int.natCast_mul _ _;rw[← h5]at g2;omega
 have hr:=HG (P:=P) t ti ty e i z q w e1 hti e2 e3 m hm0 g3 hb e7;have XD:m<=maxLen:=by simp only[maxLen];omega
 have VM:grownCap w m 0 e<=maxLen:=grownCap_le_maxLen w m 0 e XD;have hge:m<=grownCap w m 0 e:=grownCap_ge w m 0 e;have qS:bI [] w (w.drew.alloc (.cells (Builtin.zeroCells z.cells m++Builtin.zeroCells z.cells (grownCap w m 0 e-m)) e)):=bI.Cd (row:=none) ⟨rfl,rfl,rfl,by simp,λk hk _ =>heap_alloc_old w.drew _ k hk⟩;refine ic (by simp) (v:= .slice (some ⟨w.heap.size,0,none⟩) m (grownCap w m 0 e)) ?_ (hk (w.heap.size,grownCap w m 0 e) _ trivial (hst.si.ext qS) (hst.hp.fresh qS ?_ hst.si.size ?_))
 ·simp[execOp,resolve,invoke,builtin,bB hst.fr hs,bB hst.fr hx,hr]
 ·refine⟨by simp[fW], .inr ⟨w.heap.size,grownCap w m 0 e,_,rfl,Nat.zero_le _,heap_alloc_new w.drew _,Nat.zero_le _,VM,?_,by simp[fW]⟩⟩
  simp only[Array.size_append,size_zeroCells,e6, ← Nat.add_mul];congr 1;omega
 ·intro b hb
  have:b=w.heap.size:=by simpa[nF,aO.eW,Value.ownBlock]using hb
  subst this;exact⟨Nat.le_refl _,(apA.1 (heap_alloc_new w.drew (.cells (Builtin.zeroCells z.cells m++Builtin.zeroCells z.cells (grownCap w m 0 e-m)) e))).1⟩
theorem wI.size{v:Value}{n:Nat}(h:wI v n):v.cells.size=1:=by obtain⟨a,cp,rfl⟩:=h;rfl
theorem EV{p q:Nat->Option (Nat×Nat)}:∀(parts:List (Nat×Value)) (cells:Array Value),(∀x∈parts,p x.1=q x.1)->Instr.fill p cells parts=Instr.fill q cells parts
 |[],_,_ =>rfl
 |(i,v)::r,cells,h=>by
  have h1:=h (i,v) (by simp);simp only at h1;simp only[Instr.fill,h1];split
  ·rfl
  ·split
   ·rfl
   ·exact EV r _ λx hx=>h x (apE _ hx)
def Yo(n sz:Nat):List (Nat×Nat):=(List.range n).map λi=>(i*sz,sz)
theorem Pa{n sz i:Nat}(h:i<n):(Yo n sz)[i]? =some (i*sz,sz):=by simp[Yo,h]
theorem X9{t n e sz:Nat}{parts:List (Nat×Operand)}{vs zs cs:List Value}[hz:kz P t zs][ht:DM P t n e sz](hv:Jp F (parts.map (·.2))=some vs)(hc:tE (Yo n sz) zs ((parts.map (·.1)).zip vs)=some cs)(hi:((parts.map (·.1)).all λi=>decide (i<n))=true):
  VS P N c ⟨d, .build t parts.toArray,ty,ps,af,g⟩ F H (.agg cs.toArray):=
 bp (by simp) λa w hf _ _ =>by
  obtain⟨i,z,h1,h2,h3⟩:=kz.get hz.ok;obtain⟨inf,h4,h5,h6⟩:=DM.get ht.ok;have h7:(zeroValue t).run P w= .ok z w:=by simp[zeroValue,typeInfo,h1,h2]
  have h8:=Ay (place:=λi=>(Yo n sz)[i]?) (pl:=Yo n sz) (λ_ =>rfl) ((parts.map (·.1)).zip vs) z.cells cs (by rw[h3];exact hc);have h9:=evp hf hv;have h10:(Array.map (λx=>(x.fst,a.eval x.snd)) parts.toArray).toList=(parts.map (·.1)).zip vs:=by simpa using h9
  have h11:=EV (p:=λi=>some (i*sz,sz)) (q:=λi=>(Yo n sz)[i]?) ((parts.map (·.1)).zip vs) z.cells (λx hx=>by
   have:=List.all_eq_true.1 hi x.1 (List.of_mem_zip hx).1;simp only[decide_eq_true_eq]at this;simp[Pa this])
  simp only[execOp,Instr.build,Sem.run_bind,h7,Result.andThen_ok,run_underlying h4,sizeOf,typeInfo];simp[h5,h6,h9,h11,h8]
theorem ajt{t n e sz:Nat}{parts:List (Nat×Operand)}{vs zs cs:List Value}[ht:zG P t e sz][hz:kz P e zs](hv:Jp F (parts.map (·.2))=some vs)(hc:tE (Yo n sz) ((List.range (n*sz)).map λj=>zs[j%zs.length]!) ((parts.map (·.1)).zip vs)=some cs)
  (hi:((parts.map (·.1)).all λi=>decide (i<n))=true)(h0:0<n*sz)(hs:n*sz<=16777216):
  RX P N c ⟨d, .buildSlice t n parts.toArray,ty,ps,af,g⟩ F H (λ_ =>True) (λb=> .slice (some ⟨b,0,none⟩) n n) (λb=> .cells b e cs::H):=λD a w next Q hst hk=>by
 obtain⟨i,h1,h2,h3⟩:=zG.get ht.ok;obtain⟨i',z,h4,h5,h6⟩:=kz.get hz.ok;rw[h2]at h4;cases h4;subst h3;refine ic (by simp) (w':=w.alloc (.cells cs.toArray e)) ?_ (hk w.heap.size _ trivial (hst.si.ext (bI.alloc _ _)) (hst.hp.box e cs hst.si.size));have h9:=evp hst.fr hv;have h10:(Array.map (λx=>(x.fst,a.eval x.snd)) parts.toArray).toList=(parts.map (·.1)).zip vs:=by simpa using h9
 have h11:=EV (p:=λk=>some (k*i.size,i.size)) (q:=λk=>((Yo n i.size).toArray)[k]?) ((parts.map (·.1)).zip vs) ((Array.range (n*i.size)).map (z.cells[· %z.cells.size]!)) (λx hx=>by
   have:=List.all_eq_true.1 hi x.1 (List.of_mem_zip hx).1;simp only[decide_eq_true_eq]at this;simp[Pa this])
 have hzc:z.cells=zs.toArray:=by rw[← h6]
 have h8:=Ay (place:=λk=>((Yo n i.size).toArray)[k]?) (pl:=Yo n i.size) (by simp) ((parts.map (·.1)).zip vs) ((Array.range (n*i.size)).map (z.cells[· %z.cells.size]!)) cs (by
  rw[← hc];congr 1;rw[hzc];simp[Array.toList_range])
 have e3:(λx=>(x.fst,a.eval x.snd))=(λ(x:Nat×Operand)=>(x.1,a.eval x.2)):=rfl;have hb:(Instr.buildSlice t n (Array.map (λx=>(x.fst,a.eval x.snd)) parts.toArray)).run P w= .ok (.slice (some ⟨w.heap.size,0,none⟩) n n) (w.alloc (.cells cs.toArray e)):=
  run_buildSlice w t e n _ cs.toArray i z h1 h2 h5 (by omega) (by omega) (by rw[h10,h11,h8])
 simp only[execOp,Sem.run_bind];rw[hb];rfl
end rules
end Go.Bw
namespace Go.Bw
open Go Go.RowKit Go.ChangeMaps
section
variable {β:Type}
def jt:List (Int×β)->Int->Option (Nat×β)
 |[],_ =>none
 |p::r,k=>bif k==p.1 then some (0,p.2)else(jt r k).map λq=>(q.1+1,q.2)
def qQ(l:List (Int×β))(k:Int)(z:β):β:=((jt l k).map Prod.snd).getD z
def zl(l:List (Int×β))(k:Int):Bool:=(jt l k).isSome
def qF:List (Int×β)->Int->β->List (Int×β)
 |[],k,v=>[(k,v)]
 |p::r,k,v=>bif k==p.1 then(k,v)::r else p::qF r k v
end
structure G7{β:Type}(q:IntKind)(E:β->Value)(es:Array MapEntry)(clock:Nat)(l:List (Int×β)):Prop where
 kv:es.toList.map (λe=>(e.key,e.val))=l.map λp=>(Value.int q p.1,E p.2)
 born:∀e∈es.toList,e.born<clock
 nd:(es.toList.map (·.born)).Nodup
def MpJ{β:Type}(b:Nat)(q:IntKind)(E:β->Value)(l:List (Int×β))(w:World):Prop:=∃es clock,w.heap[b]? =some (.map es clock)/\G7 q E es clock l
abbrev Mp{β:Type}(b:Nat)(q:IntKind)(E:β->Value)(l:List (Int×β)):aO:= .ext [b] (MpJ b q E l)
theorem Sj{β:Type}{b:Nat}{q:IntKind}{E:β->Value}{l:List (Int×β)}{w:World}(h:MpJ b q E l w):(Mp b q E l).holds w:=λw' _ hb=>by obtain⟨es,clock,h1,h2⟩:=h;exact⟨es,clock,(hb b (by simp)).trans h1,h2⟩
theorem ajx{β:Type}{b:Nat}{q:IntKind}{E:β->Value}{l:List (Int×β)}{w:World}(h:(Mp b q E l).holds w):MpJ b q E l w:=Gp h
class Ke(H:List aO)(b:Nat)(β:outParam Type)(q:outParam IntKind)(E:outParam (β->Value))(l:outParam (List (Int×β)))(f:outParam (aO->List aO)):Prop where
 ok:∃k:Nat,H[k]? =some (Mp b q E l)/\∀r',f r'=H.set k r'
instance(priority:=100) ajM{β:Type}(b:Nat)(q:IntKind)(E:β->Value)(l:List (Int×β))(H:List aO):Ke (Mp b q E l::H) b β q E l (λr'=>r'::H):=⟨0,rfl,λ_ =>rfl⟩
instance(priority:=50) ajy(r:aO)(H:List aO)(b:Nat)(β:Type)(q:IntKind)(E:β->Value)(l f)[h:Ke H b β q E l f]:Ke (r::H) b β q E l (λr'=>r::f r'):=
 ⟨by obtain⟨k,h1,h2⟩:=h.ok;exact⟨k+1,by simpa using h1,λr'=>by rw[h2 r'];simp⟩⟩
class Mc(P:Program)(t:TypeId)(k e:outParam TypeId)(q:outParam IntKind):Prop where
 ok:P.underlying t=some (.map k e)/\P.underlying k=some (.int q)
section
variable {β:Type} {q:IntKind} {E:β->Value}
theorem LQ{k:Int}:∀(es:List MapEntry) (l:List (Int×β)) (i:Nat),es.map (λe=>(e.key,e.val))=l.map (λp=>(Value.int q p.1,E p.2))->
  Instr.findNow (.int q) (.int q k) es i=some ((jt l k).map λp=>(i+p.1,E p.2))
 |[],[],i,_ =>rfl
 |[],p::r,i,h=>by simp at h
 |e::es,[],i,h=>by simp at h
 |e::es,p::r,i,h=>by
  simp only[List.map_cons,List.cons.injEq,Prod.mk.injEq]at h;obtain⟨⟨h1,h2⟩,h3⟩:=h;have ih:=LQ (k:=k) es r (i+1) h3;unfold Instr.findNow jt;rw[h1];have hs:Instr.sameNow (.int q) (.int q k) (.int q p.1)=some (k==p.1):=by simp[Instr.sameNow]
  rw[hs];cases hk:k==p.1 with
  |true=>simp[h2]
  |false=>
   simp only[ih,cond_false,Option.map_map];congr 1;cases jt r k with
   |none=>rfl
   |some z=>simp[Function.comp];omega
theorem vB{P:Program}{kt:TypeId}{k:Int}{es:Array MapEntry}{clock:Nat}{l:List (Int×β)}(w:World)(hk:P.underlying kt=some (.int q))(h:G7 q E es clock l):
  (Instr.findKey kt (.int q k) es.toList).run P w= .ok ((jt l k).map λp=>(p.1,E p.2)) w:=by
 unfold Instr.findKey;rw[Sem.run_bind,run_underlying hk w];simp only[Result.andThen];rw[LQ es.toList l 0 h.kv];cases jt l k with
 |none=>rfl
 |some z=>simp[Sem.run]
theorem C6{k:Int}:∀{l:List (Int×β)} {j:Nat} {y:β},jt l k=some (j,y)->l[j]? =some (k,y)
 |[],_,_,h=>by simp[jt]at h
 |p::r,j,y,h=>by
  unfold jt at h;cases hk:k==p.1 with
  |true=>
   rw[hk]at h;simp only[cond_true,Option.some.injEq,Prod.mk.injEq]at h;obtain⟨rfl,rfl⟩:=h;have:k=p.1:=by simpa using hk
   subst this;rfl
  |false=>
   rw[hk]at h;simp only[cond_false]at h;cases hr:jt r k with
   |none=>simp[hr]at h
   |some z=>rw[hr]at h;simp only[Option.map_some,Option.some.injEq,Prod.mk.injEq]at h;obtain⟨rfl,rfl⟩:=h;have:=C6 (l:=r) (j:=z.1) (y:=z.2) hr;simpa using this
theorem HV{k:Int}{v:β}:∀{l:List (Int×β)},jt l k=none->qF l k v=l++[(k,v)]
 |[],_ =>rfl
 |p::r,h=>by
  unfold jt at h;cases hk:k==p.1 with
  |true=>rw[hk]at h;simp at h
  |false=>rw[hk]at h;simp only[cond_false,Option.map_eq_none_iff]at h;unfold qF;rw[hk,cond_false,HV h];rfl
theorem HU{k:Int}{v:β}:∀{l:List (Int×β)} {j:Nat} {y:β},jt l k=some (j,y)->qF l k v=l.set j (k,v)
 |[],_,_,h=>by simp[jt]at h
 |p::r,j,y,h=>by
  unfold jt at h;unfold qF;cases hk:k==p.1 with
  |true=>rw[hk]at h;simp only[cond_true,Option.some.injEq,Prod.mk.injEq]at h;obtain⟨rfl,rfl⟩:=h;rfl
  |false=>
   rw[hk]at h;simp only[cond_false]at h;cases hr:jt r k with
   |none=>simp[hr]at h
   |some z=>rw[hr]at h;simp only[Option.map_some,Option.some.injEq,Prod.mk.injEq]at h;obtain⟨rfl,rfl⟩:=h;rw[cond_false,HU (j:=z.1) (y:=z.2) hr];rfl
theorem G7.push{es:Array MapEntry}{clock:Nat}{l:List (Int×β)}(h:G7 q E es clock l)(k:Int)(v:β):G7 q E (es.push ⟨.int q k,E v,clock⟩) (clock+1) (l++[(k,v)]):=by
 refine⟨by simp[h.kv],λe he=>?_,?_⟩
 ·rw[Array.toList_push,List.mem_append,List.mem_singleton]at he
  rcases he with he|rfl
  ·exact Nat.lt_succ_of_lt (h.born e he)
  ·exact Nat.lt_succ_self _
 ·rw[Array.toList_push,List.map_append,List.nodup_append]
  refine⟨h.nd,by simp,λa ha b hb=>?_⟩;obtain⟨e,he,rfl⟩:=List.mem_map.1 ha;have hb:b=clock:=by simpa using hb
  subst hb
  exactλe'=>by have:=h.born e he;omega
theorem Be{γ:Type}(f:MapEntry->MapEntry)(g:MapEntry->γ)(x:γ):∀(es:List MapEntry) (j:Nat),(∀e,g (f e)=x)->(es.modify j f).map g=(es.map g).set j x
 |[],j,_ =>by simp
 |e::es,0,h=>by simp[h]
 |e::es,j+1,h=>by simp[Be f g x es j h]
theorem zo{γ:Type}(f:MapEntry->MapEntry)(g:MapEntry->γ):∀(es:List MapEntry) (j:Nat),(∀e,g (f e)=g e)->(es.modify j f).map g=es.map g
 |[],j,_ =>by simp
 |e::es,0,h=>by simp[h]
 |e::es,j+1,h=>by simp[zo f g es j h]
theorem G7.modify{es:Array MapEntry}{clock:Nat}{l:List (Int×β)}(h:G7 q E es clock l)(j:Nat)(k:Int)(v:β):G7 q E (es.modify j λe=>{e with key:= .int q k,val:=E v}) clock (l.set j (k,v)):=by
 have hb:(es.modify j λe=>{e with key:= .int q k,val:=E v}).toList.map (·.born)=es.toList.map (·.born):=by rw[Array.toList_modify];exact zo _ _ _ _ λ_ =>rfl
 refine⟨?_,λe he=>?_,?_⟩
 ·rw[Array.toList_modify,Be _ _ (Value.int q k,E v) _ _ (λ_ =>rfl),h.kv,List.map_set]
 ·have:e.born∈es.toList.map (·.born):=by rw[← hb];exact List.mem_map_of_mem he
  obtain⟨e',he',hee⟩:=List.mem_map.1 this;rw[← hee];exact h.born e' he'
 ·rw[hb];exact h.nd
end
section rules
variable {P:Program} {N:Nat} {c:Cx} {F:gC} {H:List aO} {d:Option Tmp} {ty:TypeId} {ps:String} {af:Array Edge} {g:Option (Nat×Bool)} {β:Type} {q:IntKind} {E:β->Value} {l:List (Int×β)} {f:aO->List aO} {b:Nat}
theorem Ke.aeD{bs:List Nat}{n0:Nat}{w:World}(h:Ke H b β q E l f)(hp:cI bs n0 H w):MpJ b q E l w:=by obtain⟨k,h1,_⟩:=h.ok;exact ajx (hp.holds _ (List.mem_of_getElem? h1))
theorem Ke.put{N:Nat}{D:List Deferred}{a:Act}{w:World}{l':List (Int×β)}{es es':Array MapEntry}{clock clock':Nat}(h:Ke H b β q E l f)(hst:St N c D F H a w)(he:w.heap[b]? =some (.map es clock))(hok:G7 q E es' clock' l'):
  bI c.bs c.w0 (w.putObj b (.map es' clock'))/\cI c.bs c.w0.heap.size (f (Mp b q E l')) (w.putObj b (.map es' clock')):=by
 obtain⟨k,h1,h2⟩:=h.ok;have hlt:=(apA.1 he).1;have qS:bI [b] w (w.putObj b (.map es' clock')):=⟨rfl,rfl,rfl,by simp[World.putObj],λk _ hk=>World.putObj_heap_other (by simpa using hk)⟩;refine⟨hst.si.store hst.hp (List.mem_of_getElem? h1) (by simp[aO.eW]) qS,?_⟩;rw[h2];refine hst.hp.set h1 qS.size (λj hj hne=>qS.block j hj (by simpa[aO.eW]using hne)) (Sj ⟨es',clock',World.putObj_heap_same hlt,hok⟩) hst.si.size (λb' hb=>?_);have e:b'=b:=by simpa[aO.eW]using hb
 subst e;exact⟨.inl (by simp[aO.eW]),by rw[World.putObj];simpa using hlt⟩
theorem Me(q:IntKind)(E:β->Value){t k e:TypeId}{q':IntKind}[Mc P t k e q']:
  RX P N c ⟨d, .makeMap t none,ty,ps,af,g⟩ F H (λ_ =>True) (λb=> .map (some b)) (λb=>Mp b q E []::H):=λD a w next Q hst hk=>by
 refine ic (by simp) (w':=w.alloc (.map #[] 0)) ?_ (hk w.heap.size _ trivial (hst.si.ext (bI.alloc _ _)) (hst.hp.fresh (bI.alloc _ _) (Sj ⟨#[],0,by show(w.heap.push _)[w.heap.size]? =_;simp,⟨rfl,by simp,by simp⟩⟩) hst.si.size (λb hb=>?_)))
 ·simp[execOp,Instr.makeMap,newObj,Sem.run,Result.andThen]
 ·have e:b=w.heap.size:=by simpa[aO.eW]using hb
  subst e;exact⟨Nat.le_refl _,by simp⟩
class Yx(P:Program)(e:TypeId)(z:outParam Value):Prop where
 ok:(P.info? e).bind (·.zero)=some z
theorem Zz{e:TypeId}{z:Value}(h:Yx P e z)(w:World):(zeroValue e).run P w= .ok z w:=by
 have:=h.ok;cases hi:P.info? e with
 |none=>simp[hi]at this
 |some i=>simp[hi]at this;simp[zeroValue,typeInfo,hi,this,Sem.run_bind,Sem.run,Result.andThen]
theorem xo{t kt e:TypeId}{k:Int}{z:β}{commaOk:Bool}(w:World)(ht:Mc P t kt e q)(hz:Yx P e (E z))(h:MpJ b q E l w):
  (Instr.lookup t (.map (some b)) (.int q k) commaOk).run P w= .ok (if commaOk then .tuple #[E (qQ l k z), .bool (zl l k)]else E (qQ l k z)) w:=by
 obtain⟨es,clock,h1,h2⟩:=h;obtain⟨t1,t2⟩:=ht.ok;have hf:=vB (k:=k) w t2 h2;have hc:∀em,(Instr.checkKey em 10000 kt (.int q k)).run P w= .ok () w:=λem=>MapKept.run_checkKey (k:= .int q k) t2 (show q=q from rfl) em 9999;simp only[Instr.lookup,Sem.run_bind,run_underlying t1,Result.andThen,MapKept.run_getObj_map h1,Sem.run];rw[Sem.run_pure];dsimp only;rw[hc];dsimp only;rw[hf];dsimp only;unfold qQ zl;cases jt l k with
 |none=>cases commaOk<;>simp[Zz hz,Result.andThen]
 |some p=>cases commaOk<;>simp[Result.andThen]
theorem X6{x y:Operand}{t kt e:TypeId}{k:Int}(z:β)[ht:Mc P t kt e q][hz:Yx P e (E z)](hx:ev F x=some (.map (some b)))(hy:ev F y=some (.int q k))[hm:Ke H b β q E l f]:
  VS P N c ⟨d, .lookup t x y false,ty,ps,af,g⟩ F H (E (qQ l k z)):=bp (by simp) λa w hf _ hp=>by
 simp[execOp,bB hf hx,bB hf hy,xo w ht hz (hm.aeD hp),Result.andThen]
theorem UE{x y:Operand}{t kt e:TypeId}{k:Int}(z:β)[ht:Mc P t kt e q][hz:Yx P e (E z)](hx:ev F x=some (.map (some b)))(hy:ev F y=some (.int q k))[hm:Ke H b β q E l f]:
  VS P N c ⟨d, .lookup t x y true,ty,ps,af,g⟩ F H (.tuple #[E (qQ l k z), .bool (zl l k)]):=bp (by simp) λa w hf _ hp=>by
 simp[execOp,bB hf hx,bB hf hy,xo w ht hz (hm.aeD hp),Result.andThen]
theorem P8{x y z:Operand}{t kt e:TypeId}{k:Int}{v:Value}(u:β)[ht:Mc P t kt e q](hx:ev F x=some (.map (some b)))(hy:ev F y=some (.int q k))(hz:ev F z=some v)[hm:Ke H b β q E l f](hv:v=E u):
  RX (α:=Unit) P N c ⟨d, .mapUpdate t x y z,ty,ps,af,g⟩ F H (λ_ =>True) (λ_ =>undef) (λ_ =>f (Mp b q E (qF l k u))):=λD a w next Q hst hk=>by
 subst hv;obtain⟨es,clock,h1,h2⟩:=hm.aeD hst.hp;obtain⟨t1,t2⟩:=ht.ok;have hf:=vB (k:=k) w t2 h2;have hc:∀em,(Instr.checkKey em 10000 kt (.int q k)).run P w= .ok () w:=λem=>MapKept.run_checkKey (k:= .int q k) t2 (show q=q from rfl) em 9999;cases hm1:jt l k with
 |none=>obtain⟨p1,p2⟩:=hm.put hst h1 (h2.push k u);refine tO (by simp) (w':=w.putObj b (.map (es.push ⟨.int q k,E u,clock⟩) (clock+1))) ?_ (hk () _ trivial p1 (by rw[HV hm1];exact p2));rw[hm1]at hf;simp[execOp,bB hst.fr hx,bB hst.fr hy,bB hst.fr hz,Instr.mapUpdate,run_underlying t1,MapKept.run_getObj_map h1,hc,hf,MapKept.run_setObj_map _ h1,Result.andThen,World.putObj]
 |some p=>
  have hg:=C6 (j:=p.1) (y:=p.2) hm1;obtain⟨p1,p2⟩:=hm.put hst h1 (h2.modify p.1 k u);refine tO (by simp) (w':=w.putObj b (.map (es.modify p.1 λe=>{e with key:= .int q k,val:=E u}) clock)) ?_ (hk () _ trivial p1 (by rw[HU (j:=p.1) (y:=p.2) hm1];exact p2));rw[hm1]at hf;have hkey:((es[p.1]?).map (·.key))=some (.int q k):=by
   have:(es.toList.map λe=>(e.key,e.val))[p.1]? =some (Value.int q k,E p.2):=by rw[h2.kv,List.getElem?_map,hg];rfl
   rw[List.getElem?_map,Array.getElem?_toList]at this;cases he:es[p.1]? with
   |none=>simp[he]at this
   |some e0=>simp[he]at this;simp[this.1]
  simp[execOp,bB hst.fr hx,bB hst.fr hy,bB hst.fr hz,Instr.mapUpdate,run_underlying t1,MapKept.run_getObj_map h1,hc,hf,hkey,MapKept.run_keyThatStays (show MapKept.IsKey (.int q) (.int q k)from rfl),MapKept.run_setObj_map _ h1,Result.andThen,World.putObj]
end rules
end Go.Bw
namespace Go.Bw
open Go Go.RowKit Go.ChangeMaps
section rules
variable {P:Program} {N:Nat} {c:Cx} {F:gC} {H:List aO} {d:Option Tmp} {ty:TypeId} {ps:String} {af:Array Edge} {g:Option (Nat×Bool)} {β:Type} {q:IntKind} {E:β->Value} {l rem:List (Int×β)} {ahF:Option (Int×β)} {f:aO->List aO} {b r:Nat}
end rules
end Go.Bw
namespace Go.Rw
open Go Go.Bw
variable {G:Sg}
inductive Ob(G:Sg) where
 |eW (T:Nat) (c:AV G)
 |row (e sz:Nat) (t:Ty) (xs:List (t.T G))
 |aux (b:Bool)
 |gm
abbrev Fr(G:Sg):=List (Nat×AV G)
abbrev Os(G:Sg):=List (Nat×Ob G)
def gw{α:Type}:List (Nat×α)->Nat->Option α
 |[],_ =>none
 |(k,v)::r,d=>bif Nat.beq k d then some v else gw r d
structure Ly(G:Sg) where
 F:Fr G
 O:Os G
 D:List (AV G)
abbrev CC(G:Sg):=List (Ly G)
def lkC:CC G->Nat->Option (AV G)
 |[],_ =>none
 |y::r,d=>match gw y.F d with
  |some v=>some v
  |none=>lkC r d
def zk:CC G->Os G
 |[]=>[]
 |y::r=>y.O++zk r
def dfC:CC G->List (AV G)
 |[]=>[]
 |y::r=>y.D++dfC r
structure AS(G:Sg) where
 F:Fr G
 O:Os G
 nx:Nat
 D:List (AV G)
def rf(J:World->Prop)(ρ:bV)(t:Array Value):AV G->Value->Prop
 | .gd j w v,u=>(t[j]? =some (.bool w)->rv J ρ v u)/\(t[j]? ≠some (.bool w)->u=undef)
 |v,u=>rv J ρ v u
def tf(J:World->Prop)(ρ:bV)(F:Fr G)(t:Array Value):Prop:=∀d v,gw F d=some v->∃u,t[d]? =some u/\rf J ρ t v u
def FC(J:World->Prop)(ρ:bV)(C:CC G)(t:Array Value):Prop:=∀y∈C,tf J ρ y.F t
def Jo(x:Int×Nat):Int×Value:=(x.1, .func (.func x.2) #[] #[])
def GlX(g:IntKind×List (Int×Nat))(mb:Nat)(w:World):Prop:=w.cell? ⟨0,0,none⟩=some (.map (some mb))/\∃l,MpJ mb g.1 (λv:Value=>v) l w/\∀k,qQ l k .nilFunc=qQ (g.2.map Jo) k .nilFunc/\zl l k=zl (g.2.map Jo) k
def WD(G:Sg)(J:World->Prop):Prop:=∀g,G.gt=some g->∃mb,∀w,J w->GlX g mb w
theorem WD.mono{J J':World->Prop}(h:WD G J)(m:∀w,J' w->J w):WD G J':=λg hg=>by obtain⟨mb,k⟩:=h g hg;exact⟨mb,λw q=>k w (m w q)⟩
def aiV:Bool->Obj->Prop
 |true,o=>o= .deferred (some [])
 |false,o=>∃rec,o= .loop rec
def Lj:Os G->Bool
 |[]=>true
 |(_, .aux false)::_ =>false
 |_ ::r=>Lj r
theorem Gb{B:Os G}:∀{A:Os G},Lj (A++B)=true->Lj B=true:=by
 intro A
 induction A with
 |nil=>exactλh=>h
 |cons p r ih=>
  intro h;obtain⟨k,o⟩:=p;cases o with
  |aux b=>cases b with
   |true=>exact ih h
   |false=>cases h
  |eW T c=>exact ih h
  |row e sz t xs=>exact ih h
  |gm=>exact ih h
structure Sn(c:Cx)(C:CC G)(w:World):Prop where
 s:bI c.bs c.w0 w
 n:Lj (zk C)=true->c.ro=none
theorem Sn.ext{c:Cx}{C:CC G}{w w':World}(h:Sn c C w)(k:bI [] w w'):Sn c C w':=⟨h.s.ext k,h.n⟩
theorem Sn.size{c:Cx}{C:CC G}{w:World}(h:Sn c C w):c.w0.heap.size<=w.heap.size:=h.s.size
def ro(J:World->Prop)(ρ:bV)(r:Nat):Ob G->aO->Prop
 | .eW T c,JM=>∃b u,ρ r=some (gk b 0)/\JM= .cells b T u.cells.toList/\rv J ρ c u
 | .row e sz t xs,JM=>∃v ws,ρ r=some v/\JM= .row v e sz xs.length ws/\wI v xs.length/\(LA (t.L G) xs.length).fz J ws (λi=>xs.getD i default)/\(t.L G).n=sz
 | .aux b,JM=>∃n o,ρ r=some (gk n 0)/\JM= .obj n o/\aiV b o
 | .gm,JM=>(∃mb g,ρ r=some (.map (some mb))/\G.gt=some g/\∀w,J w->GlX g mb w)/\JM= .row (.slice none 0 0) 0 1 0 []
inductive RO(J:World->Prop)(ρ:bV):Os G->List aO->Prop
 |nil:RO J ρ [] []
 |cons {r:Nat} {o:Ob G} {x:aO} {O:Os G} {H:List aO} (h:ro J ρ r o x) (k:RO J ρ O H):RO J ρ ((r,o)::O) (x::H)
def dr(J:World->Prop)(ρ:bV):AV G->Deferred->Prop
 | .cons (.fn f a c) l,d=>∃fs cs ls:List Value,rl J ρ a fs/\rl J ρ c cs/\rl J ρ l ls/\d={target:= .fn f cs.toArray,args:=(fs++ls).toArray}
 | .ptr r p,d=>p=[]/\∃b,ρ r=some (gk b 0)/\d=Go.Bw.mark b
 |_,_ =>False
inductive DR(J:World->Prop)(ρ:bV):List (AV G)->List Deferred->Prop
 |nil:DR J ρ [] []
 |cons {v:AV G} {d:Deferred} {l:List (AV G)} {D:List Deferred} (h:dr J ρ v d) (k:DR J ρ l D):DR J ρ (v::l) (d::D)
def amN(X:List aO):Prop:=∀w w',Hs X w->Hs X w'->∀b∈cy X,w'.heap[b]? =w.heap[b]?
structure Yz(G:Sg)(X:List aO)(J:World->Prop):Prop where
 to:∀w',Hs X w'->J w'
 ex:amN X
 gl:WD G J
theorem Yz.one{X:List aO}{J:World->Prop}(h:Yz G X J){x:aO}{w:World}(hx:x.holds w)(hl:∀b∈x.eW,b<w.heap.size):
  ∃q:aO,q.holds w/\q.eW=x.eW/\Yz G (q::X) λw=>J w/\Hs [x] w:=by
 have st:∀w1:World,(aO.ext x.eW λw'=>w.heap.size<=w'.heap.size/\∀b∈x.eW,w'.heap[b]? =w.heap[b]?).holds w1->w.heap.size<=w1.heap.size/\∀b∈x.eW,w1.heap[b]? =w.heap[b]? :=λw1 h=>h w1 (Nat.le_refl _) λ_ _ =>rfl;refine⟨.ext x.eW λw'=>w.heap.size<=w'.heap.size/\∀b∈x.eW,w'.heap[b]? =w.heap[b]?,λw' h1 h2=>⟨h1,h2⟩,rfl,λw' hw=>?_,λw1 w2 h1 h2 b hb=>?_,h.gl.mono λw q=>q.1⟩
 ·have h1:=st w' (hw _ List.mem_cons_self).1
  refine⟨h.to w' λr hr=>hw r (apE _ hr),λr hr=>?_⟩;obtain rfl:=List.mem_singleton.1 hr;exact⟨aO.oy hx h1.1 h1.2,λb hb=>Nat.lt_of_lt_of_le (hl b hb) h1.1⟩
 ·have k1:=st w1 (h1 _ List.mem_cons_self).1
  have k2:=st w2 (h2 _ List.mem_cons_self).1;have hb:b∈x.eW\/b∈cy X:=by simpa[cy,aO.eW]using hb
  rcases hb with hb|hb
  ·rw[k1.2 b hb,k2.2 b hb]
  ·exact h.ex w1 w2 (λr hr=>h1 r (apE _ hr)) (λr hr=>h2 r (apE _ hr)) b hb
structure Rl(c:Cx)(N:Nat)(ρ:bV)(J:World->Prop)(HK X:List aO)(C:CC G)(S:AS G)(a:Act)(w:World):Prop where
 tm:a.tmps.size=N
 df:DR J ρ (S.D++dfC C) a.defers
 si:Sn c C w
 fs:tf J ρ S.F a.tmps
 fc:FC J ρ C a.tmps
 kc:∀r o,gw (zk C) r=some o->∃x∈HK,ro J ρ r o x
 hp:∃HS,RO J ρ S.O HS/\cI c.bs c.w0.heap.size (HS++(HK++X)) w
 kn:Yz G X J
 fr:∀r,S.nx<=r->ρ r=none
section
variable {J J':World->Prop} {ρ ρ':bV}
theorem rf.mono(m:∀w,J' w->J w){t:Array Value}{v:AV G}{u:Value}(h:rf J ρ t v u):rf J' ρ t v u:=by
 cases v with
 |gd j w v=>exact⟨λe=>(h.1 e).mono m,h.2⟩
 |_ =>exact rl.mono m h
theorem rf.ext(m:ρ.le ρ'){t:Array Value}{v:AV G}{u:Value}(h:rf J ρ t v u):rf J ρ' t v u:=by
 cases v with
 |gd j w v=>exact⟨λe=>(h.1 e).ext m,h.2⟩
 |_ =>exact rl.ext m h
theorem tf.up(mJ:∀w,J' w->J w)(mρ:ρ.le ρ'){F:Fr G}{t:Array Value}(h:tf J ρ F t):tf J' ρ' F t:=λd v e=>by obtain⟨u,h1,h2⟩:=h d v e;exact⟨u,h1,(h2.mono mJ).ext mρ⟩
theorem ro.up(mJ:∀w,J' w->J w)(mρ:ρ.le ρ'){r:Nat}{o:Ob G}{x:aO}(h:ro J ρ r o x):ro J' ρ' r o x:=by
 cases o with
 |eW T c=>obtain⟨b,u,h1,h2,h3⟩:=h;exact⟨b,u,mρ _ _ h1,h2,(h3.mono mJ).ext mρ⟩
 |row e sz t xs=>obtain⟨v,ws,h1,h2,h3,h4,h5⟩:=h;exact⟨v,ws,mρ _ _ h1,h2,h3,dI.mono _ mJ h4,h5⟩
 |aux b=>obtain⟨n,x,h1,h2⟩:=h;exact⟨n,x,mρ _ _ h1,h2⟩
 |gm=>obtain⟨⟨mb,g,h1,h2,h3⟩,h4⟩:=h;exact⟨⟨mb,g,mρ _ _ h1,h2,λw q=>h3 w (mJ w q)⟩,h4⟩
theorem RO.up(mJ:∀w,J' w->J w)(mρ:ρ.le ρ'){O:Os G}{H:List aO}(h:RO J ρ O H):RO J' ρ' O H:=by
 induction h with
 |nil=>exact .nil
 |cons h _ ih=>exact .cons (h.up mJ mρ) ih
theorem dr.up(mJ:∀w,J' w->J w)(mρ:ρ.le ρ'){v:AV G}{d:Deferred}(h:dr J ρ v d):dr J' ρ' v d:=by
 unfold dr at h;split at h
 ·obtain⟨fs,cs,ls,h1,h2,h3,h4⟩:=h
  exact⟨fs,cs,ls,(h1.mono mJ).ext mρ,(h2.mono mJ).ext mρ,(h3.mono mJ).ext mρ,h4⟩
 ·obtain⟨rfl,b,h1,h2⟩:=h
  exact⟨rfl,b,mρ _ _ h1,h2⟩
 ·exact h.elim
theorem DR.up(mJ:∀w,J' w->J w)(mρ:ρ.le ρ'){l:List (AV G)}{D:List Deferred}(h:DR J ρ l D):DR J' ρ' l D:=by
 induction h with
 |nil=>exact .nil
 |cons h _ ih=>exact .cons (h.up mJ mρ) ih
def O6(d:Nat):Fr G->Bool
 |[]=>true
 |(_,v)::r=>(match v with
  | .gd j _ _ => !Nat.beq j d
  |_ =>true)&&O6 d r
theorem ahn{d:Nat}:∀{F:Fr G},O6 d F=true->∀{k:Nat} {j:Nat} {w:Bool} {v:AV G},gw F k=some (.gd j w v)->j≠d:=by
 intro F
 induction F with
 |nil=>intro _ k j w v h;cases h
 |cons p r ih=>
  obtain⟨k0,v0⟩:=p;intro h k j w v e;simp only[O6,apv]at h;simp only[gw]at e;cases hb:Nat.beq k0 k with
  |true=>rw[hb]at e;cases e;intro hj;have:=h.1;simp only[hj,Nat.beq_refl,Bool.not_true,Bool.false_eq_true]at this
  |false=>rw[hb]at e;exact ih h.2 e
theorem OQ{t:Array Value}{v:AV G}{u:Value}{d:Nat}{x:Value}(h:rf J ρ t v u)(hn:∀j w v',v= .gd j w v'->j≠d):rf J ρ (t.setIfInBounds d x) v u:=by
 cases v with
 |gd j w v=>
  have:(t.setIfInBounds d x)[j]? =t[j]? :=by rw[Array.getElem?_setIfInBounds,apt (Ne.symm (hn j w v rfl))]
  refine⟨λe=>h.1 (this▸e),λe=>h.2 (this▸e)⟩
 |_ =>exact h
theorem tf.put{F:Fr G}{a:Act}{d:Nat}{v:AV G}{u:Value}(h:tf J ρ F a.tmps)(hd:d<a.tmps.size)(hn:O6 d F=true)(hg:∀j w v',v= .gd j w v'->j≠d)(hv:rf J ρ a.tmps v u):
  tf J ρ ((d,v)::F) (a.put (some d) u).tmps:=λk x e=>by
 simp only[gw]at e;cases hb:Nat.beq d k with
 |true=>rw[hb]at e;cases e;have:=apu hb;subst this;exact⟨u,by simp[Act.put,hd],OQ hv hg⟩
 |false=>
  rw[hb]at e;obtain⟨y,h1,h2⟩:=h k x e;have hne:¬d=k:=λe=>by rw[e,Nat.beq_refl]at hb;cases hb
  exact⟨y,by simp only[Act.put,Array.getElem?_setIfInBounds,apt hne];exact h1,OQ h2 λj w v' e'=>ahn hn (e'▸e)⟩
def Xn(d:Nat):Fr G->Bool
 |[]=>true
 |(k,v)::r=> !Nat.beq k d&&(match v with
  | .gd j _ _ => !Nat.beq j d
  |_ =>true)&&Xn d r
theorem ahk{d:Nat}:∀{F:Fr G},Xn d F=true->gw F d=none/\∀{k:Nat} {j:Nat} {w:Bool} {v:AV G},gw F k=some (.gd j w v)->j≠d:=by
 intro F
 induction F with
 |nil=>intro _;exact⟨rfl,λh=>by cases h⟩
 |cons p r ih=>
  obtain⟨k0,v0⟩:=p;intro h;simp only[Xn,apv,Bool.not_eq_true']at h;obtain⟨h1,h2⟩:=ih h.2;refine⟨by simp only[gw,h.1.1,cond_false];exact h1,λ{k j w v} e=>?_⟩;simp only[gw]at e;cases hb:Nat.beq k0 k with
  |true=>rw[hb]at e;cases e;intro hj;have:=h.1.2;simp only[hj,Nat.beq_refl,Bool.not_true,Bool.false_eq_true]at this
  |false=>rw[hb]at e;exact h2 e
theorem tf.off{F:Fr G}{a:Act}{d:Nat}{u:Value}(h:tf J ρ F a.tmps)(hn:Xn d F=true):tf J ρ F (a.put (some d) u).tmps:=λk x e=>by
 obtain⟨h1,h2⟩:=ahk hn;obtain⟨y,h3,h4⟩:=h k x e;have hne:¬d=k:=λq=>by rw[q,e]at h1;cases h1
 exact⟨y,by simp only[Act.put,Array.getElem?_setIfInBounds,apt hne];exact h3,OQ h4 λj w v' e'=>h2 (e'▸e)⟩
def NQ(d:Nat):AV G->Bool
 | .gd j _ _ => !Nat.beq j d
 |_ =>true
def Q3(d:Nat):CC G->Bool
 |[]=>true
 |y::r=>Xn d y.F&&Q3 d r
theorem ahj{d:Nat}:∀{C:CC G},Q3 d C=true->∀y∈C,Xn d y.F=true:=by
 intro C
 induction C with
 |nil=>intro _ y hy;cases hy
 |cons x r ih=>
  intro h y hy;simp only[Q3,apv]at h;rcases List.mem_cons.1 hy with rfl|hy
  ·exact h.1
  ·exact ih h.2 y hy
def yP(N:Nat)(C:CC G)(d:Option Tmp)(v:AV G)(S:AS G):Option (AS G):=match d with
 |none=>some S
 |some d=>bif Nat.blt d N&&(O6 d S.F&&Q3 d C)&&NQ d v then some {S with F:=(d,v)::S.F}else none
theorem Rl.put{c:Cx}{N:Nat}{HK X:List aO}{C:CC G}{S S':AS G}{a:Act}{w:World}{d:Option Tmp}{v:AV G}{u:Value}(h:Rl c N ρ J HK X C S a w)(hp:yP N C d v S=some S')(hv:rf J ρ a.tmps v u):
  Rl c N ρ J HK X C S' (a.put d u) w:=by
 cases d with
 |none=>cases hp;exact h
 |some d=>
  unfold yP at hp;dsimp only at hp;cases hb:(Nat.blt d N&&(O6 d S.F&&Q3 d C)&&NQ d v)with
  |false=>rw[hb]at hp;cases hp
  |true=>rw[hb]at hp;cases hp;simp only[apv]at hb;obtain⟨⟨h1,h2,h3⟩,h4⟩:=hb;refine⟨by simp[Act.put,h.tm],by simpa[Act.put]using h.df,h.si,h.fs.put (by rw[h.tm];simpa[Nat.blt_eq]using h1) h2 (λj w v' e=>?_) hv,(λy hy=>(h.fc y hy).off (ahj h3 y hy)),h.kc,h.hp,h.kn,h.fr⟩;subst e;intro hj;simp only[NQ,hj,Nat.beq_refl,Bool.not_true,Bool.false_eq_true]at h4
def avc:Value->Option (AV G)
 | .int k n=>some (.lit k n)
 | .bool b=>some (.kb b)
 | .string s=>some (.str s)
 | .pointer none=>some .Gc
 | .slice none 0 0=>some .pR
 | .map none=>some .Ge
 | .nilFunc=>some .Ce
 | .nilIface=>some .JO
 |_ =>none
def SD(C:CC G)(S:AS G):Operand->Option (AV G)
 | .tmp t=>match gw S.F t with
  |some v=>some v
  |none=>lkC C t
 | .const v=>avc v
 | .global _ =>none
 | .func f=>some (.fn (.func f) .nil .nil)
theorem amx{v:Value}{x:AV G}{t:Array Value}(h:avc v=some x):rf J ρ t x v:=by unfold avc at h;split at h<;>first|(cases h;rfl)|cases h
theorem aaG{t:Array Value}:∀{C:CC G} {d:Nat} {v:AV G},FC J ρ C t->lkC C d=some v->∃u,t[d]? =some u/\rf J ρ t v u:=by
 intro C
 induction C with
 |nil=>intro d v _ h;cases h
 |cons y r ih=>
  intro d v hf h;simp only[lkC]at h;split at h
  ·rename_i v' hv;cases h;exact hf y List.mem_cons_self d _ hv
  ·exact ih (λz hz=>hf z (apE _ hz)) h
theorem FC.up(mJ:∀w,J' w->J w)(mρ:ρ.le ρ'){C:CC G}{t:Array Value}(h:FC J ρ C t):FC J' ρ' C t:=λy hy=>(h y hy).up mJ mρ
theorem Rl.ev{c:Cx}{N:Nat}{HK X:List aO}{C:CC G}{S:AS G}{a:Act}{w:World}(h:Rl c N ρ J HK X C S a w){x:Operand}{v:AV G}(e:SD C S x=some v):rf J ρ a.tmps v (a.eval x):=by
 cases x with
 |tmp t=>
  simp only[SD]at e;cases h1:gw S.F t with
  |some v'=>
   rw[h1]at e;cases e;obtain⟨u,h2,h3⟩:=h.fs t _ h1;have:a.eval (.tmp t)=u:=by simp[Act.eval,h2]
   rw[this];exact h3
  |none=>
   rw[h1]at e;obtain⟨u,h2,h3⟩:=aaG h.fc e;have:a.eval (.tmp t)=u:=by simp[Act.eval,h2]
   rw[this];exact h3
 |const v'=>exact amx e
 |global g=>cases e
 |func f=>cases e;exact⟨[],[],rfl,rfl,rfl⟩
def bV.fr(ρ:bV)(n:Nat):Prop:=∀r,n<=r->ρ r=none
def bV.to(ρ ρ':bV)(n:Nat):Prop:=∀r,r<n->ρ' r=ρ r
theorem bV.to.le{n:Nat}(h:ρ.to ρ' n)(f:ρ.fr n):ρ.le ρ':=λr v e=>by
 by_cases hr:r<n
 ·rw[h r hr];exact e
 ·rw[f r (by omega)]at e;cases e
theorem bV.to.trans{ρ'':bV}{n m:Nat}(h:ρ.to ρ' n)(k:ρ'.to ρ'' m)(hn:n<=m):ρ.to ρ'' n:=λr hr=>(k r (by omega)).trans (h r hr)
theorem bV.gU(ρ:bV)(n:Nat):ρ.to ρ n:=λ_ _ =>rfl
def bV.set(ρ:bV)(n:Nat)(v:Value):bV:=λr=>if r=n then some v else ρ r
theorem bV.ou(ρ:bV)(n:Nat)(v:Value):ρ.set n v n=some v:=by simp[bV.set]
theorem bV.sJ(ρ:bV)(n:Nat)(v:Value):ρ.to (ρ.set n v) n:=λr hr=>by simp[bV.set,Nat.ne_of_lt hr]
theorem bV.EI{n:Nat}(h:ρ.fr n)(v:Value):(ρ.set n v).fr (n+1):=λr hr=>by unfold bV.set;rw[apt (by omega)];exact h r (by omega)
end
end Go.Rw
namespace Go.Rw
open Go Go.Bw
variable {G:Sg}
abbrev UN(G:Sg):=∀i,List (Fd G i)
structure PR(G:Sg)(t:Ty) where
 m:Ty
 get:t.T G->m.T G
 set:t.T G->m.T G->t.T G
def path(F:UN G):List zB->(t:Ty)->Option (PR G t)
 |[],t=>some ⟨t,λx=>x,λ_ v=>v⟩
 | .ME j o::r, .st i=>match(F i)[j]? with
  |some f=>bif Nat.beq f.off o then(match path F r f.ty with
   |some q=>some ⟨q.m,λx=>q.get (f.get x),λx v=>f.set x (q.set (f.get x) v)⟩
   |none=>none)else none
  |none=>none
 | .idx k sz i::r, .oE n e=>bif Nat.beq n k&&Nat.beq sz (e.L G).n then(match path F r e with
   |some q=>some ⟨q.m,λx=>q.get (x i.toNat),λx v=>dy x i.toNat (q.set (x i.toNat) v)⟩
   |none=>none)else none
 |_,_ =>none
theorem OX{F:UN G}:∀{p:List zB} {t:Ty} {q:PR G t},path F p t=some q->(∀s∈p,s.ok)->aY (t.L G) (q.m.L G) (jz p) q.get q.set:=by
 intro p
 induction p with
 |nil=>intro t q h _;cases h;exact aY.id
 |cons s r ih=>
  intro t q h hs;have hr:=λs' hs'=>hs s' (apE _ hs');cases s with
  |ME j o=>
   cases t with
   |st i=>
    simp only[path]at h;split at h
    ·rename_i f hf
     cases hb:Nat.beq f.off o with
     |false=>rw[hb]at h;cases h
     |true=>
      rw[hb]at h;simp only[cond_true]at h;split at h
      ·rename_i q' hq
       cases h;have:=f.ok.comp (ih hq hr);rw[apu hb]at this;exact this
      ·cases h
    ·cases h
   |_ =>cases h
  |idx k sz i=>
   cases t with
   |oE n e=>
    simp only[path]at h;cases hb:(Nat.beq n k&&Nat.beq sz (e.L G).n)with
    |false=>rw[hb]at h;cases h
    |true=>
     rw[hb]at h;simp only[cond_true]at h;simp only[apv]at hb;have e1:=apu hb.1;have e2:=apu hb.2;subst e1;split at h
     ·rename_i q' hq
      cases h;have hi:bM i n=true:=hs _ List.mem_cons_self;exact(aY.idx (L:=e.L G) (m:=n) i.toNat (dH hi).2 e2).comp (ih hq hr)
     ·cases h
   |_ =>cases h
structure PL(G:Sg)(e:Ty) where
 m:Ty
 i:Int
 get:e.T G->m.T G
 set:e.T G->m.T G->e.T G
def Le(F:UN G)(e:Ty):List zB->Option (PL G e)
 | .idx _ _ i::r=>match path F r e with
  |some q=>some ⟨q.m,i,q.get,q.set⟩
  |none=>none
 |_ =>none
theorem QT{F:UN G}{e:Ty}{n sz:Nat}{i:Int}{r:List zB}{q:PL G e}(h:Le F e (.idx n sz i::r)=some q)(hs:∀s∈(.idx n sz i::r:List zB),s.ok)(he:sz=(e.L G).n){m:Nat}(hi:i.toNat<m):
  q.i=i/\aY (LA (e.L G) m) (q.m.L G) (jz (.idx n sz i::r)) (λx=>q.get (x i.toNat)) (λx v=>dy x i.toNat (q.set (x i.toNat) v)):=by
 simp only[Le]at h;split at h
 ·rename_i q' hq
  cases h;exact⟨rfl,(aY.idx (L:=e.L G) (m:=m) i.toNat hi he).comp (OX hq λs hs'=>hs s (apE _ hs'))⟩
 ·cases h
def EF:(t:Ty)->AV G->Option (t.T G)
 | .int k, .int l n=>bif Nat.beq (Ty.cW.ik l) (Ty.cW.ik k)then some n else none
 | .int k, .lit l n=>bif Nat.beq (Ty.cW.ik l) (Ty.cW.ik k)then some n else none
 | .bool, .bool b=>some b
 | .bool, .kb b=>some b
 | .sl _, .pR=>some []
 |t, .dat t' x=>if h:t'.cW t=true then some (Ty.yN h▸x)else none
 |_,_ =>none
theorem ZI{J:World->Prop}{e:Ty}:zY (G:=G) J (.sl e) ([]:List (e.T G)) (.slice none 0 0):=⟨⟨_,[],rfl,DZ.nil⟩,nofun,λ_ =>rfl⟩
theorem C3{J:World->Prop}{ρ:bV}{t:Ty}{v:AV G}{x:t.T G}{u:Value}(h:EF t v=some x)(hv:rv J ρ v u):zY J t x u:=by
 have hd:∀{t':Ty} {y:t'.T G},v= .dat t' y->(if h:t'.cW t=true then some (Ty.yN h▸y:t.T G)else none)=some x->zY J t x u:=by
  intro t' y e k;subst e;by_cases hs:t'.cW t=true
  ·rw[dif_pos hs]at k
   obtain⟨u',e1,hr⟩:=hv;cases e1;have:=Ty.yN hs;subst this;cases k;exact hr
  ·rw[dif_neg hs]at k;cases k
 unfold EF at h;split at h
 ·rename_i k l n
  cases hb:Nat.beq (Ty.cW.ik l) (Ty.cW.ik k)with
  |false=>rw[hb]at h;cases h
  |true=>rw[hb]at h;cases h;obtain rfl:=Rj hb;exact Vp (t:= .int l) hv
 ·rename_i k l n
  cases hb:Nat.beq (Ty.cW.ik l) (Ty.cW.ik k)with
  |false=>rw[hb]at h;cases h
  |true=>rw[hb]at h;cases h;obtain rfl:=Rj hb;exact Vp (ρ:=ρ) (t:= .int l) hv
 ·cases h;exact Vp (t:= .bool) hv
 ·cases h;exact Vp (ρ:=ρ) (t:= .bool) hv
 ·cases h
  have:[u]=[.slice none 0 0]:=hv;cases this;exact ZI
 ·exact hd rfl h
 ·cases h
def partAt:AV G->Nat->Option (Nat×AV G)
 | .part w a b,o=>bif Nat.beq o 0 then some (w,a)else bif Nat.ble w o then partAt b (o-w)else none
 |_,_ =>none
def FZ:AV G->Nat->AV G->Option (AV G)
 | .part w a b,o,v=>bif Nat.beq o 0 then some (.part w v b)else bif Nat.ble w o then(match FZ b (o-w) v with
   |some b'=>some (.part w a b')
   |none=>none)else none
 |_,_,_ =>none
def VE(F:UN G):AV G->List zB->Option (AV G)
 |v,[]=>some v
 | .dat t x,p=>match path F p t with
  |some q=>some (mk q.m (q.get x))
  |none=>none
 | .st a, .ME _ o::r=>match partAt a o with
  |some (_,v)=>VE F v r
  |none=>none
 |_,_ =>none
theorem NB{J:World->Prop}{ρ:bV}:∀{a:AV G} {o w:Nat} {v:AV G} {cs:List Value},partAt a o=some (w,v)->rl J ρ a cs->∃u,rv J ρ v u/\(cs.drop o).take w=u.cells.toList/\u.cells.size=w/\o+w<=cs.length:=by
 intro a
 induction a with
 |part w0 a b _ uV=>
  intro o w v cs h hr;obtain⟨c1,c2,u,rfl,h1,h2,h3,h4⟩:=hr;unfold partAt at h;cases h0:Nat.beq o 0 with
  |true=>rw[h0]at h;cases h;obtain rfl:=apu h0;refine⟨u,h2,?_,by rw[← h1, ← h3,Array.length_toList],by simp;omega⟩;rw[List.drop_zero, ← h1,List.take_left,h3]
  |false=>
   rw[h0]at h;cases hb:Nat.ble w0 o with
   |false=>rw[hb]at h;cases h
   |true=>rw[hb]at h;have hle:=Nat.le_of_ble_eq_true hb;obtain⟨u',k1,k2,k3,k4⟩:=uV h h4;refine⟨u',k1,?_,k3,by simp;omega⟩;rw[← k2,List.drop_append,List.drop_of_length_le (by omega),List.nil_append,h1]
 |_ =>intro o w v cs h;cases h
theorem Kk{J:World->Prop}:∀{t:Ty} {x:t.T G} {cs:List Value},(t.L G).fz J cs x->∃u:Value,u.cells.toList=cs/\zY J t x u:=by
 intro t x cs h;cases t with
 |int k=>have h:cs=[.int k x]:=h;subst h;exact⟨.int k x,rfl,rfl,nofun,λ_ =>rfl⟩
 |bool=>have h:cs=[.bool x]:=h;subst h;exact⟨.bool x,rfl,rfl,nofun,λ_ =>rfl⟩
 |st i=>exact⟨.agg cs.toArray,rfl,h,λ_ =>⟨cs,rfl⟩,nofun⟩
 |oE n e=>exact⟨.agg cs.toArray,rfl,h,λ_ =>⟨cs,rfl⟩,nofun⟩
 |sl e=>obtain⟨v,ws,rfl,hf⟩:=h;have hc:v.cells.toList=[v]:=hf.sl.cells;exact⟨v,hc,⟨v,ws,hc,hf⟩,nofun,λ_ =>by rw[← hc]⟩
theorem aaK{F:UN G}{J:World->Prop}{ρ:bV}:∀{p:List zB} {c v:AV G} {u:Value},VE F c p=some v->rv J ρ c u->(∀s∈p,s.ok)->
  ∃u',rv J ρ v u'/\(u.cells.toList.drop (jz p)).take u'.cells.size=u'.cells.toList/\jz p+u'.cells.size<=u.cells.size:=by
 intro p
 induction p with
 |nil=>
  intro c v u h hr _;have:c=v:=by unfold VE at h;exact Option.some.inj h
  subst this;exact⟨u,hr,by rw[jz,List.drop_zero,List.take_of_length_le (by simp)],by simp[jz]⟩
 |cons s r ih=>
  intro c v u h hr hs;cases c with
  |dat t x=>
   simp only[VE]at h;split at h
   ·rename_i q hq
    cases h;obtain⟨u0,e,hd⟩:=hr;cases e;have hp:=OX hq hs;have hg:=hp.get hd.1;obtain⟨u',k1,k2⟩:=Kk hg;have hl:=(q.m.L G).len hg;have Yq:=(t.L G).len hd.1;have hle:=hp.le;rw[← k1]at hl;rw[Array.length_toList]at hl Yq;exact⟨u',Nr k2,by rw[hl,k1],by omega⟩
   ·cases h
  |st a=>
   cases s with
   |ME j o=>
    simp only[VE]at h;split at h
    ·rename_i w c' hp
     obtain⟨cs,e,h1,h2⟩:=hr;cases e;obtain⟨u1,k1,k2,k3,k4⟩:=NB hp h1;obtain⟨u',m1,m2,m3⟩:=ih h k1 λs hs'=>hs s (apE _ hs');refine⟨u',m1,?_,?_⟩
     ·rw[← m2, ← k2]
      show(cs.drop (o+jz r)).take _ =_;rw[List.drop_take,List.take_take,List.drop_drop,Nat.min_eq_left (by omega)]
     ·show o+jz r+_ <=cs.length
      omega
    ·cases h
   |idx _ _ _ =>simp[VE]at h
  |_ =>simp[VE]at h
def AV.one:AV G->Bool
 | .int _ _ =>true
 | .lit _ _ =>true
 | .bool _ =>true
 | .kb _ =>true
 | .str _ =>true
 | .dat t _ => !t.ag
 | .ptr _ _ =>true
 | .Gc=>true
 | .pR=>true
 | .row _ =>true
 | .mp _ =>true
 | .Ge=>true
 | .fn _ _ _ =>true
 | .Ce=>true
 | .om _ _ =>true
 | .JO=>true
 |_ =>false
theorem Lh{J:World->Prop}{ρ:bV}{v:AV G}{u:Value}(h:v.one=true)(hr:rv J ρ v u):u.cells= #[u]/\u.oneCell'=true:=by
 cases v<;>simp only[AV.one,Bool.false_eq_true]at h
 case int=>have hr:[u]=_ :=hr;cases hr;exact⟨rfl,rfl⟩
 case lit=>have hr:[u]=_ :=hr;cases hr;exact⟨rfl,rfl⟩
 case bool=>have hr:[u]=_ :=hr;cases hr;exact⟨rfl,rfl⟩
 case kb=>have hr:[u]=_ :=hr;cases hr;exact⟨rfl,rfl⟩
 case str=>have hr:[u]=_ :=hr;cases hr;exact⟨rfl,rfl⟩
 case dat t x=>obtain⟨u',e,h1,_,h3⟩:=hr;cases e;have h3:=h3 (by simpa using h);refine⟨h3,?_⟩;have:=(t.L G).one h1 u (by rw[h3];simp);exact this
 case ptr=>obtain⟨⟨b,o,_,e⟩,_⟩:=hr;cases e;exact⟨rfl,rfl⟩
 case Gc=>have hr:[u]=_ :=hr;cases hr;exact⟨rfl,rfl⟩
 case pR=>have hr:[u]=_ :=hr;cases hr;exact⟨rfl,rfl⟩
 case row r=>obtain⟨_,_,_,_,e⟩:=hr;cases e;exact⟨rfl,rfl⟩
 case mp r=>obtain⟨_,_,e,h1⟩:=hr;cases e;exact h1
 case Ge=>have hr:[u]=_ :=hr;cases hr;exact⟨rfl,rfl⟩
 case fn=>obtain⟨_,_,e,_⟩:=hr;cases e;exact⟨rfl,rfl⟩
 case Ce=>have hr:[u]=_ :=hr;cases hr;exact⟨rfl,rfl⟩
 case om=>obtain⟨_,e,_⟩:=hr;cases e;exact⟨rfl,rfl⟩
 case JO=>have hr:[u]=_ :=hr;cases hr;exact⟨rfl,rfl⟩
theorem HP{J:World->Prop}{ρ:bV}{v:AV G}{u:Value}(h:v.one=true)(hr:rv J ρ v u):u.cells.toList=[u]/\u.cells.size=1:=by
 have:=(Lh h hr).1;constructor
 ·rw[this]
 ·rw[this];rfl
def parts:AV G->Option Nat
 | .nil=>some 0
 | .part w _ b=>match parts b with
  |some n=>some (w+n)
  |none=>none
 |_ =>none
theorem Cc{J:World->Prop}{ρ:bV}:∀{a:AV G} {n:Nat} {cs:List Value},parts a=some n->rl J ρ a cs->cs.length=n:=by
 intro a
 induction a with
 |nil=>intro n cs h hr;cases h;have:cs=[]:=hr;subst this;rfl
 |part w a b _ uV=>
  intro n cs h hr;simp only[parts]at h;split at h
  ·rename_i m hm
   cases h;obtain⟨c1,c2,u,rfl,h1,_,_,h4⟩:=hr;simp[h1,uV hm h4]
  ·cases h
 |_ =>intro n cs h;cases h
def AV.ncl(v:AV G):Option Nat:=bif v.one then some 1 else match v with
 | .dat t _ =>some (t.L G).n
 | .st a=>parts a
 |_ =>none
theorem TJ{J:World->Prop}{ρ:bV}{v:AV G}{n:Nat}{l:List Value}(h:v.ncl=some n)(hr:rl J ρ v l):∃u,l=[u]/\u.cells.size=n/\vi u.cells.toList:=by
 unfold AV.ncl at h;cases hb:v.one with
 |true=>
  rw[hb]at h;cases h;have key:∀u,l=[u]->∃u,l=[u]/\u.cells.size=1/\vi u.cells.toList:=λu e=>by subst e;obtain⟨k1,k2⟩:=Lh hb hr;refine⟨u,rfl,(HP hb hr).2,?_⟩;rw[k1];intro x hx;simp at hx;subst hx;exact k2
  cases v<;>simp only[AV.one,Bool.false_eq_true]at hb
  case dat t x=>obtain⟨u,e,_⟩:=hr;exact key u e
  case ptr=>obtain⟨⟨b,o,_,e⟩,_⟩:=hr;exact key _ e
  case row=>obtain⟨_,_,_,_,e⟩:=hr;exact key _ e
  case mp=>obtain⟨_,_,e,_⟩:=hr;exact key _ e
  case fn=>obtain⟨_,_,e,_⟩:=hr;exact key _ e
  case om=>obtain⟨_,e,_⟩:=hr;exact key _ e
  all_goals exact key _ hr
 |false=>
  rw[hb]at h;simp only[cond_false]at h;split at h
  ·rename_i t x
   cases h;obtain⟨u,e,h1,_⟩:=hr;exact⟨u,e,by rw[← Array.length_toList];exact(t.L G).len h1,(t.L G).one h1⟩
  ·obtain⟨cs,e,h1,h2⟩:=hr
   exact⟨_,e,Cc h h1,h2⟩
  ·cases h
def Bc(c v:AV G):Option (AV G):=bif c.one&&v.one then some v else match c,v with
 | .unk n,v=>match v.ncl with
  |some m=>bif Nat.beq n m then some v else none
  |none=>none
 | .dat t _,v=>match EF t v with
  |some x=>some (mk t x)
  |none=>none
 | .st a, .st b=>match parts a,parts b with
  |some n,some m=>bif Nat.beq n m then some (.st b)else none
  |_,_ =>none
 |_,_ =>none
theorem agO{J:World->Prop}{ρ:bV}{c v c':AV G}{u uv:Value}(h:Bc c v=some c')(hc:rv J ρ c u)(hv:rv J ρ v uv):rv J ρ c' uv/\uv.cells.size=u.cells.size/\vi uv.cells.toList:=by
 unfold Bc at h;cases hb:(c.one&&v.one)with
 |true=>rw[hb]at h;cases h;simp only[apv]at hb;obtain⟨k1,k2⟩:=Lh hb.2 hv;refine⟨hv,by rw[(HP hb.1 hc).2,(HP hb.2 hv).2],?_⟩;rw[k1];intro x hx;simp at hx;subst hx;exact k2
 |false=>
  rw[hb]at h;simp only[cond_false]at h;split at h
  ·rename_i n
   split at h
   ·rename_i m hm
    cases hq:Nat.beq n m with
    |false=>rw[hq]at h;cases h
    |true=>rw[hq]at h;cases h;obtain⟨u1,e1,k1,k2⟩:=TJ hm hv;cases e1;obtain⟨u2,e2,k3⟩:=hc;cases e2;exact⟨hv,by rw[k1,k3,apu hq],k2⟩
   ·cases h
  ·rename_i t x
   split at h
   ·rename_i y hy
    cases h;obtain⟨u',e,k1,_⟩:=hc;cases e;have k2:=C3 hy hv;refine⟨Nr k2,?_,(t.L G).one k2.1⟩;rw[← Array.length_toList,(t.L G).len k2.1, ← (t.L G).len k1,Array.length_toList]
   ·cases h
  ·split at h
   ·rename_i n m h1 h2
    cases hq:Nat.beq n m with
    |false=>rw[hq]at h;cases h
    |true=>rw[hq]at h;cases h;obtain⟨cs,e,k1,_⟩:=hc;cases e;obtain⟨ds,e,k2,k3⟩:=hv;cases e;have:=apu hq;refine⟨⟨ds,rfl,k2,k3⟩,?_,k3⟩;show ds.length=cs.length;rw[Cc h1 k1,Cc h2 k2,this]
   ·cases h
  ·cases h
def WV(F:UN G):AV G->List zB->AV G->Option (AV G)
 |c,[],v=>Bc c v
 | .dat t x,p,v=>match path F p t with
  |some q=>match EF q.m v with
   |some y=>some (.dat t (q.set x y))
   |none=>none
  |none=>none
 | .st a, .ME _ o::r,v=>match partAt a o with
  |some (_,c)=>match WV F c r v with
   |some c'=>match FZ a o c' with
    |some a'=>some (.st a')
    |none=>none
   |none=>none
  |none=>none
 |_,_,_ =>none
theorem Ta{J:World->Prop}{ρ:bV}:∀{a:AV G} {o w:Nat} {v v' a':AV G} {cs:List Value} {u':Value},partAt a o=some (w,v)->FZ a o v'=some a'->rl J ρ a cs->rv J ρ v' u'->u'.cells.size=w->rl J ρ a' (cY cs o u'.cells.toList):=by
 intro a
 induction a with
 |part w0 a b _ uV=>
  intro o w v v' a' cs u' h hp hr hv hw;obtain⟨c1,c2,u,rfl,h1,h2,h3,h4⟩:=hr;unfold partAt at h;unfold FZ at hp;have hl:u'.cells.toList.length=w:=by rw[Array.length_toList];exact hw
  cases h0:Nat.beq o 0 with
  |true=>
   rw[h0]at h hp;cases h;cases hp;obtain rfl:=apu h0;refine⟨u'.cells.toList,c2,u',?_,hl,hv,rfl,h4⟩;have e1:(c1++c2).drop (0+u'.cells.toList.length)=c2:=by rw[Nat.zero_add,hl, ← h1,List.drop_left]
   unfold cY;rw[e1];simp
  |false=>
   rw[h0]at h hp;simp only[cond_false]at h hp;cases hb:Nat.ble w0 o with
   |false=>rw[hb]at h;cases h
   |true=>
    rw[hb]at h hp;simp only[cond_true]at h hp;have hle:=Nat.le_of_ble_eq_true hb;split at hp
    ·rename_i b' hb'
     cases hp;refine⟨c1,_,u,?_,h1,h2,h3,uV h hb' h4 hv hw⟩;have:o=c1.length+(o-w0):=by omega
     rw[this,FV];congr 2;omega
    ·cases hp
 |_ =>intro o w v v' a' cs u' h;cases h
theorem Zn{F:UN G}{J:World->Prop}{ρ:bV}{v:AV G}{uv:Value}(hv:rv J ρ v uv):∀{p:List zB} {c c':AV G} {u:Value},WV F c p v=some c'->rv J ρ c u->(∀s∈p,s.ok)->
  ∃u',rv J ρ c' u'/\u'.cells.toList=cY u.cells.toList (jz p) uv.cells.toList/\jz p+uv.cells.size<=u.cells.size/\vi uv.cells.toList:=by
 intro p
 induction p with
 |nil=>
  intro c c' u h hr _;have h:Bc c v=some c':=by unfold WV at h;exact h
  obtain⟨k1,k2,k3⟩:=agO h hr hv;refine⟨uv,k1,?_,by simp[jz,k2],k3⟩;simp[cY,jz, ← k2]
 |cons s r ih=>
  intro c c' u h hr hs;cases c with
  |dat t x=>
   simp only[WV]at h;split at h
   ·rename_i q hq
    split at h
    ·rename_i y hy
     cases h;obtain⟨u0,e,hd⟩:=hr;cases e;have hp:=OX hq hs;have hrv:=C3 hy hv;have aaY:=hp.set (v:=y) hd.1 hrv.1;have hl:=(q.m.L G).len hrv.1;have Yq:=(t.L G).len hd.1;have hle:=hp.le;rw[Array.length_toList]at hl Yq;obtain⟨u',k1,k2⟩:=Kk aaY;refine⟨u',⟨u',rfl,k2⟩,k1,by omega,(q.m.L G).one hrv.1⟩
    ·cases h
   ·cases h
  |st a=>
   cases s with
   |ME j o=>
    simp only[WV]at h;split at h
    ·rename_i w c1 hp
     split at h
     ·rename_i c2 h2
      split at h
      ·rename_i a' ha
       cases h;obtain⟨cs,e,h1,h3⟩:=hr;cases e;obtain⟨u1,k1,k2,k3,k4⟩:=NB hp h1;obtain⟨u',m1,m2,m3,m4⟩:=ih h2 k1 λs hs'=>hs s (apE _ hs');have hsz:u'.cells.size=w:=by rw[← Array.length_toList,m2,xn (by simpa using m3),Array.length_toList];exact k3
       have hn:=Ta hp ha h1 m1 hsz;have hcs:cY cs o u'.cells.toList=cY cs (o+jz r) uv.cells.toList:=by
        rw[m2];refine Ch λi=>?_;have hu1:u1.cells.toList.length=w:=by rw[Array.length_toList];exact k3
        have huv:uv.cells.toList.length=uv.cells.size:=Array.length_toList;have Qk:(cY u1.cells.toList (jz r) uv.cells.toList).length=w:=by rw[xn (by omega)];exact hu1
        rw[rD (by omega),rD (cs:=cs) (by omega),Qk];by_cases q1:o<=i/\i<o+w
        ·rw[aps q1,rD (by omega)]
         by_cases q2:jz r<=i-o/\i-o<jz r+uv.cells.toList.length
         ·rw[aps q2,aps (by omega)];congr 1;omega
         ·rw[apt q2,apt (by omega), ← k2,List.getElem?_take,aps (by omega),List.getElem?_drop];congr 1;omega
        ·rw[apt q1,apt (by omega)]
       refine⟨.agg (cY cs o u'.cells.toList).toArray,⟨_,rfl,hn,?_⟩,hcs,?_,m4⟩
       ·rw[hcs]
        intro x hx;simp only[cY,List.mem_append]at hx;rcases hx with(hx|hx)|hx
        ·exact h3 x (List.mem_of_mem_take hx)
        ·exact m4 x hx
        ·exact h3 x (List.mem_of_mem_drop hx)
       ·show o+jz r+_ <=cs.length
        omega
      ·cases h
     ·cases h
    ·cases h
   |idx _ _ _ =>simp[WV]at h
  |_ =>simp[WV]at h
end Go.Rw
namespace Go.Bw
open Go Go.RowKit
section rules
variable {P:Program} {N:Nat} {c:Cx} {D:List Deferred} {Q:Exit->Act->World->Prop} {F:gC} {H:List aO} {d:Option Tmp} {ty:TypeId} {ps:String} {af:Array Edge} {g:Option (Nat×Bool)} {α β γ:Type}
theorem acO{s x:Operand}{t e sz bytes b T cp:Nat}{A:World->Prop}{v:Value}{L:dI α}[bW L]{xs:List α}{y:α}[ht:P7 P t e sz bytes](hf:Fz A v L xs)(hs:ev F s=some (Bg v))(hx:ev F x=some (.slice (some ⟨b,0,none⟩) 1 cp))[hc:xW H b T (L.enc y)][k:Kn c H A](hn:L.n=sz)
  (Rr:(xs.length+1)*bytes<=140737488355328)(h63:xs.length+1<=9223372036854775807):
  RX P N c ⟨d, .call ⟨.builtin .append, #[s,x], #[t,t]⟩,ty,ps,af,g⟩ F H (λv'=>wI v' (xs++[y]).length) (λv'=>v') (λv'=>nF v' e sz L (xs++[y])::H):=λD a w next Q hst hk=>by
 subst hn;obtain⟨i,z,e1,e2,e3,e4,e5,e6,e7⟩:=P7.get ht.ok;have hro:=hf.ro w (k.ok w hst.si hst.hp);have hcell:=hst.hp.holds _ hc.mem;have hnews:∀(j:Nat) u,(L.enc y)[j]? =some u->w.cell? ((⟨b,0,none⟩:Addr).add j)=some u:=λj u hj=>by rw[Addr.add_lit,Nat.zero_add,yD hcell];exact hj
 have XD:xs.length+1<=maxLen:=by simp only[maxLen];omega
 have key:∃v' w',(Builtin.append_ #[t,t] ty #[Bg v, .slice (some ⟨b,0,none⟩) 1 cp]).run P w= .ok v' w'/\w'.ownsRow w.heap.size e L.n v' (xs.length+1) (fW L xs++L.enc y)/\bI [] w w':=by
  rcases hro.2 with⟨⟨a0,c0,hv⟩,h0⟩|⟨gb,off,cap,hv,h3,h4,h5⟩
  ·subst hv
   have hxs:xs=[]:=List.length_eq_zero_iff.1 h0;subst hxs;cases a0 with
   |none=>obtain⟨v',w',q1,q2,q3,_⟩:=run_append_own w w.heap.size t ty e i z L.n bytes e1 e2 e3 e4 e5 e6 e7 (.slice none 0 0) 0 [] ⟨by simp, .inl ⟨rfl,rfl⟩⟩ ⟨b,0,none⟩ 1 cp (L.enc y) (by rw[lD];omega) hnews (Gr L y) (by simpa using XD) (by simpa using Rr) (Nat.le_refl _);exact⟨v',w',q1,q2,bI.Cd q3⟩
   |some ad=>obtain⟨v',w',q1,q2,q3⟩:=run_append_arg_grows (P:=P) w t ty e i z L.n bytes e1 e2 e3 e4 e5 e6 e7 ad 0 0 [] (by simp) (by simp) ⟨b,0,none⟩ 1 cp (L.enc y) (by rw[lD];omega) hnews (by omega) (by simpa using XD) (by simpa using Rr);exact⟨v',w',q1,q2,bI.Cd q3⟩
  ·subst hv
   obtain⟨v',w',q1,q2,q3⟩:=run_append_arg_grows (P:=P) w t ty e i z L.n bytes e1 e2 e3 e4 e5 e6 e7 ⟨gb,off,none⟩ xs.length xs.length (fW L xs) (qK L xs) (λj u hj=>by rw[Addr.add_lit];exact h5 j u hj) ⟨b,0,none⟩ 1 cp (L.enc y) (by rw[lD];omega) hnews (by omega) XD Rr;exact⟨v',w',q1,q2,bI.Cd q3⟩
 obtain⟨v',w',q1,q2,q3⟩:=key;have hrow:(nF v' e L.n L (xs++[y])).holds w':=by unfold nF;rw[uP,Nv,List.length_append];obtain⟨o1,o2⟩:=q2;refine⟨o1,o2.imp (λh=>h) λ⟨gb,cap,cur,r1,r2,r3⟩=>⟨gb,cap,cur,r1,Nat.zero_le _,r3⟩⟩
 refine ic (by simp) (v:=v') (w':=w') ?_ (hk v' w' (wI.Ab hrow) (hst.si.ext q3) (hst.hp.fresh q3 hrow hst.si.size λb' hb'=>?_))
 ·simp[execOp,resolve,invoke,builtin,bB hst.fr hs,bB hst.fr hx,q1]
 ·exact q2.lt b' (by simpa[nF,aO.eW]using hb')
end rules
end Go.Bw
namespace Go.Bw
open Go Go.RowKit
def oc{α ρ:Type}(o:Option α)(z:Option ρ)(f:α->Option ρ):Option ρ:=match o with
 |none=>z
 |some a=>f a
section rules
variable {P:Program} {N:Nat} {c:Cx} {D:List Deferred} {Q:Exit->Act->World->Prop} {F:gC} {H:List aO} {d:Option Tmp} {ty:TypeId} {ps:String} {af:Array Edge} {g:Option (Nat×Bool)} {α β γ:Type}
def Jq(P:Program)(t:Nat):Bool:=match P.underlying t with
 |some (.pointer e)=>Nat.beq e (P.pointee t)
 |_ =>false
theorem Dc{t:Nat}(h:Jq P t=true):P.underlying t=some (.pointer (P.pointee t)):=by
 unfold Jq at h;split at h
 ·rename_i e h1;rw[h1,apu h]
 ·cases h
theorem afo{x y:Operand}{T U b o:Nat}(ht:Jq P T=true)(hx:ev F x=some (gk b o))(hy:ev F y=some (.pointer none)):VS P N c ⟨d, .binOp .eql T x y U,ty,ps,af,g⟩ F H (.bool false):=
 bp (by simp) λa w hf _ _ =>by have:=run_eql_pointer_nil (P:=P) (w:=w) T (some ⟨b,o,none⟩) (Dc ht);simp[execOp,bB hf hx,bB hf hy,eqGuard,gk,this]
theorem afj{x y:Operand}{T U b o:Nat}(ht:Jq P T=true)(hx:ev F x=some (gk b o))(hy:ev F y=some (.pointer none)):VS P N c ⟨d, .binOp .neq T x y U,ty,ps,af,g⟩ F H (.bool true):=
 bp (by simp) λa w hf _ _ =>by have:=run_neq_pointer_nil (P:=P) (w:=w) T (some ⟨b,o,none⟩) (Dc ht);simp[execOp,bB hf hx,bB hf hy,eqGuard,gk,this]
theorem acz{x y:Operand}{T U:Nat}(ht:Jq P T=true)(hx:ev F x=some (.pointer none))(hy:ev F y=some (.pointer none)):VS P N c ⟨d, .binOp .eql T x y U,ty,ps,af,g⟩ F H (.bool true):=
 bp (by simp) λa w hf _ _ =>by have:=run_eql_pointer_nil (P:=P) (w:=w) T none (Dc ht);simp[execOp,bB hf hx,bB hf hy,eqGuard,this]
theorem acu{x y:Operand}{T U:Nat}(ht:Jq P T=true)(hx:ev F x=some (.pointer none))(hy:ev F y=some (.pointer none)):VS P N c ⟨d, .binOp .neq T x y U,ty,ps,af,g⟩ F H (.bool false):=
 bp (by simp) λa w hf _ _ =>by have:=run_neq_pointer_nil (P:=P) (w:=w) T none (Dc ht);simp[execOp,bB hf hx,bB hf hy,eqGuard,this]
theorem MK{z:Value}(hz:z.cells= #[z])(n:Nat):(Builtin.zeroCells z.cells n).toList=List.replicate n z:=by
 rw[hz];simp[Builtin.zeroCells];apply List.ext_getElem
 ·simp
 ·intro i h1 h2
  simp[Nat.mod_one]
end rules
end Go.Bw
namespace Go.Rw
open Go Go.Bw Go.RowKit
variable {G:Sg}
inductive Sc(α:Type) where
 |gA
 |gD (k:Nat) (v:α) (l r:Sc α)
def Sc.find{α:Type}:Sc α->Nat->Option α
 | .gA,_ =>none
 | .gD k v l r,d=>bif Nat.beq k d then some v else bif Nat.blt d k then l.find d else r.find d
def Sc.all{α:Type}(p:Nat->α->Bool):Sc α->Bool
 | .gA=>true
 | .gD k v l r=>p k v&&(l.all p&&r.all p)
theorem Sc.ab9{α:Type}{p:Nat->α->Bool}:∀{t:Sc α} {d:Nat} {v:α},t.all p=true->t.find d=some v->p d v=true:=by
 intro t
 induction t with
 |gA=>intro d v _ h;cases h
 |gD k v0 l r ihl ihr=>
  intro d v ha h;simp only[Sc.all,apv]at ha;simp only[Sc.find]at h;cases h1:Nat.beq k d with
  |true=>rw[h1]at h;cases h;rw[← apu h1];exact ha.1
  |false=>
   rw[h1]at h;simp only[cond_false]at h;cases h2:Nat.blt d k with
   |true=>rw[h2]at h;exact ihl ha.2.1 h
   |false=>rw[h2]at h;exact ihr ha.2.2 h
inductive TE where
 |int (k:IntKind)
 |bool
 |one
 |ptr
 |sl (e sz bytes:Nat)
 |oE (n e sz tot:Nat)
 |st (jz:List (Nat×Option Nat)) (tot:Nat)
def N0(P:Program)(t j o:Nat)(w:Option Nat):Bool:=LZ P t j o&&match P.underlying t with
 |some (.struct fs)=>match fs[j]? with
  |some fl=>Nat.beq fl.offset o&&(match w with
   |none=>vF P fl.type
   |some n=>Io P fl.type n)
  |none=>false
 |_ =>false
def O3(P:Program)(t:Nat):List (Nat×Option Nat)->Nat->Bool
 |[],_ =>true
 |o::r,j=>N0 P t j o.1 o.2&&O3 P t r (j+1)
def Ei(P:Program)(t:Nat):TE->Bool
 | .int k=>(match P.underlying t with
  |some (.int l)=>Nat.beq (Ty.cW.ik k) (Ty.cW.ik l)
  |_ =>false)&&vF P t
 | .bool=>(match P.underlying t with
  |some .bool=>true
  |_ =>false)&&vF P t
 | .one=>vF P t
 | .ptr=>vF P t&&Jq P t
 | .sl e sz b=>vF P t&&(Wd P t e sz b&&NZ P t e sz)
 | .oE n e sz tot=>PU P t n e sz&&Io P t tot
 | .st jz tot=>O3 P t jz 0&&Io P t tot
structure TT(P:Program)(G:Sg) where
 F:UN G
 te:Sc TE
 ok:te.all (Ei P)=true
section
variable {P:Program} {tt:TT P G}
theorem TT.get{t:Nat}{e:TE}(h:tt.te.find t=some e):Ei P t e=true:=Sc.ab9 tt.ok h
theorem TT.int{t:Nat}{k:IntKind}(h:tt.te.find t=some (.int k)):acD P t k/\s9 P t:=by
 have:=tt.get h;simp only[Ei,apv]at this;refine⟨⟨?_⟩,⟨this.2⟩⟩;have h1:=this.1;split at h1
 ·rename_i l hl;rw[Rj h1];exact hl
 ·cases h1
theorem TT.bool{t:Nat}(h:tt.te.find t=some .bool):acE P t/\s9 P t:=by
 have:=tt.get h;simp only[Ei,apv]at this;refine⟨⟨?_⟩,⟨this.2⟩⟩;have h1:=this.1;split at h1
 ·assumption
 ·cases h1
def TE.sz:TE->Option Nat
 | .oE _ _ _ n=>some n
 | .st _ n=>some n
 |_ =>none
theorem TT.one{t:Nat}{e:TE}(h:tt.te.find t=some e)(hs:e.sz=none):s9 P t:=by have:=tt.get h;cases e<;>simp only[Ei,apv]at this<;>first|exact⟨this⟩|exact⟨this.1⟩|exact⟨this.2⟩|simp[TE.sz]at hs
theorem TT.agg{t n:Nat}{e:TE}(h:tt.te.find t=some e)(hs:e.sz=some n):wH P t n:=by have:=tt.get h;cases e<;>simp only[TE.sz,Option.some.injEq]at hs<;>first|(subst hs;simp only[Ei,apv]at this;exact⟨this.2⟩)|cases hs
theorem TT.sl{t e sz b:Nat}(h:tt.te.find t=some (.sl e sz b)):zG P t e sz/\P7 P t e sz b:=by have:=tt.get h;simp only[Ei,apv]at this;exact⟨⟨this.2.2⟩,⟨this.2.1⟩⟩
theorem TT.oE{t n e sz tot:Nat}(h:tt.te.find t=some (.oE n e sz tot)):DM P t n e sz:=by have:=tt.get h;simp only[Ei,apv]at this;exact⟨this.1⟩
theorem TG:∀{l:List (Nat×Option Nat)} {i j:Nat} {o:Nat×Option Nat} {t:Nat},O3 P t l i=true->l[j]? =some o->N0 P t (i+j) o.1 o.2=true:=by
 intro l
 induction l with
 |nil=>intro i j o t _ h;cases h
 |cons x r ih=>
  intro i j o t h hj;simp only[O3,apv]at h;cases j with
  |zero=>simp at hj;subst hj;exact h.1
  |succ j=>have:=ih h.2 (by simpa using hj);rwa[Nat.add_right_comm,Nat.add_assoc]at this
theorem TT.fs{t n j:Nat}{o:Nat×Option Nat}{jz:List (Nat×Option Nat)}(h:tt.te.find t=some (.st jz n))(hj:jz[j]? =some o):N0 P t j o.1 o.2=true:=by have:=tt.get h;simp only[Ei,apv]at this;have:=TG this.1 hj;rwa[Nat.zero_add]at this
theorem TT.ME{t n j:Nat}{o:Nat×Option Nat}{jz:List (Nat×Option Nat)}(h:tt.te.find t=some (.st jz n))(hj:jz[j]? =some o):GN P t j o.1:=by have:=tt.fs h hj;unfold N0 at this;rw[apv]at this;exact⟨this.1⟩
theorem TT.ptr{t:Nat}(h:tt.te.find t=some .ptr):Jq P t=true:=by have:=tt.get h;simp only[Ei,apv]at this;exact this.2
end
def Sy(k l:IntKind):Bool:=Nat.beq (Ty.cW.ik k) (Ty.cW.ik l)
theorem Jk{k l:IntKind}(h:Sy k l=true):k=l:=Rj h
abbrev PV(G:Sg):=Option (List Bool×AV G)
def ask(l b:Bool):List Bool:=bif l then(bif b then[]else[b])else[b]
theorem Jr{l b:Bool}(h:∀x∈ask l b,x=true):b=true:=by
 unfold ask at h;cases l with
 |false=>exact h b (by simp)
 |true=>cases b with
  |true=>rfl
  |false=>exact h false (by simp)
def Z0(o:BinOp)(k:IntKind)(x y:Int)(q:Bool):PV G:=match o with
 | .add=>some ([], .int k (wr k (x+y)))
 | .sub=>some ([], .int k (wr k (x-y)))
 | .mul=>some ([], .int k (wr k (x*y)))
 | .quo=>some (ask q (y !=0), .int k (wr k (Int.tdiv x y)))
 | .rem=>some (ask q (y !=0), .int k (Int.tmod x y))
 | .and=>some ([], .int k (lY k x y))
 | .or=>some ([], .int k (orI k x y))
 | .xor=>some ([], .int k (JC k x y))
 | .andNot=>some ([], .int k (Dg k x y))
 | .eql=>some ([], .bool (x==y))
 | .neq=>some ([], .bool (x !=y))
 | .lss=>some ([], .bool (decide (x<y)))
 | .leq=>some ([], .bool (decide (x<=y)))
 | .gtr=>some ([], .bool (decide (y<x)))
 | .geq=>some ([], .bool (decide (y<=x)))
 |_ =>none
def aaQ:AV G->Option Bool
 | .ptr _ _ =>some true
 | .Gc=>some false
 |_ =>none
def asB:AV G->Option Bool
 | .bool b=>some b
 | .kb b=>some b
 |_ =>none
def Z6{P:Program}(tt:TT P G)(o:BinOp)(T:Nat)(a b:AV G):PV G:=match asB a,asB b with
 |some x,some y=>match o,tt.te.find T with
  | .eql,some .bool=>some ([], .bool (x==y))
  | .neq,some .bool=>some ([], .bool (x !=y))
  |_,_ =>none
 |_,_ =>match a,b with
 |a, .Gc=>match aaQ a,o,tt.te.find T with
  |some b, .eql,some .ptr=>some ([], .bool (!b))
  |some b, .neq,some .ptr=>some ([], .bool b)
  |_,_,_ =>none
 |_,_ =>none
def asI:AV G->Option (IntKind×Int×Bool)
 | .int k n=>some (k,n,false)
 | .lit k n=>some (k,n,true)
 |_ =>none
def afJ(o:BinOp)(k:IntKind)(x:Int)(l:IntKind)(y:Int)(q:Bool):PV G:=match o with
 | .shl=>some (ask q (decide (0<=y)), .int k (FX k x y))
 | .shr=>some (ask q (decide (0<=y)), .int k (FW k x y))
 |_ =>bif Sy k l then Z0 o k x y q else none
def Z7{P:Program}(tt:TT P G)(o:BinOp)(T:Nat)(a b:AV G):PV G:=match asI a,asI b with
 |some (k,x,_),some (l,y,q)=>afJ o k x l y q
 |_,_ =>Z6 tt o T a b
section
variable {P:Program} {J:World->Prop} {ρ:bV} {a:Act} {w:World} {d:Option Tmp} {ty:TypeId} {ps:String} {af:Array Edge} {g:Option (Nat×Bool)}
def VOk(P:Program)(J:World->Prop)(ρ:bV)(a:Act)(w:World)(o:Oper)(v:AV G):Prop:=∃u,(execOp a.eval o).run P w= .ok (.value u) w/\rv J ρ v u
theorem ZZ{o:BinOp}{T U:Nat}{k:IntKind}{x y:Int}{p q:Operand}{gs:List Bool}{v:AV G}{qq:Bool}(h:Z0 o k x y qq=some (gs,v))(hg:∀b∈gs,b=true)(hx:a.eval p= .int k x)(hy:a.eval q= .int k y):
  VOk P J ρ a w ⟨d, .binOp o T p q U,ty,ps,af,g⟩ v:=by
 cases o<;>simp only[Z0,reduceCtorEq,Option.some.injEq,Prod.mk.injEq]at h
 case add=>obtain⟨rfl,rfl⟩:=h;exact⟨_,by simp[execOp,hx,hy,eqGuard,binOp,Op.intArith],rfl⟩
 case sub=>obtain⟨rfl,rfl⟩:=h;exact⟨_,by simp[execOp,hx,hy,eqGuard,binOp,Op.intArith],rfl⟩
 case mul=>obtain⟨rfl,rfl⟩:=h;exact⟨_,by simp[execOp,hx,hy,eqGuard,binOp,Op.intArith],rfl⟩
 case quo=>obtain⟨rfl,rfl⟩:=h;have h0:y≠0:=(by simpa using Jr hg);exact⟨_,by simp[execOp,hx,hy,eqGuard,binOp,Op.intDiv,h0],rfl⟩
 case rem=>obtain⟨rfl,rfl⟩:=h;have h0:y≠0:=(by simpa using Jr hg);exact⟨_,by simp[execOp,hx,hy,eqGuard,binOp,Op.intDiv,h0],rfl⟩
 case and=>obtain⟨rfl,rfl⟩:=h;exact⟨.int k (lY k x y),by simp[execOp,hx,hy,eqGuard,binOp,Op.intBits,lY],rfl⟩
 case or=>obtain⟨rfl,rfl⟩:=h;exact⟨.int k (orI k x y),by simp[execOp,hx,hy,eqGuard,binOp,Op.intBits,orI],rfl⟩
 case xor=>obtain⟨rfl,rfl⟩:=h;exact⟨.int k (JC k x y),by simp[execOp,hx,hy,eqGuard,binOp,Op.intBits,JC],rfl⟩
 case andNot=>obtain⟨rfl,rfl⟩:=h;exact⟨.int k (Dg k x y),by simp[execOp,hx,hy,eqGuard,binOp,Op.intBits,Dg],rfl⟩
 case eql=>obtain⟨rfl,rfl⟩:=h;exact⟨_,by simp[execOp,hx,hy,eqGuard,binOp,Op.intCmp],rfl⟩
 case neq=>obtain⟨rfl,rfl⟩:=h;exact⟨_,by simp[execOp,hx,hy,eqGuard,binOp,Op.intCmp],rfl⟩
 case lss=>obtain⟨rfl,rfl⟩:=h;exact⟨_,by simp[execOp,hx,hy,eqGuard,binOp,Op.intCmp],rfl⟩
 case leq=>obtain⟨rfl,rfl⟩:=h;exact⟨_,by simp[execOp,hx,hy,eqGuard,binOp,Op.intCmp],rfl⟩
 case gtr=>obtain⟨rfl,rfl⟩:=h;exact⟨_,by simp[execOp,hx,hy,eqGuard,binOp,Op.intCmp],rfl⟩
 case geq=>obtain⟨rfl,rfl⟩:=h;exact⟨_,by simp[execOp,hx,hy,eqGuard,binOp,Op.intCmp],rfl⟩
theorem Ns{b:Bool}{u:Value}(h:rv (G:=G) J ρ (.kb b) u):u= .bool b:=by have h:[u]=_ :=h;cases h;rfl
theorem E8{v:AV G}{b:Bool}{u:Value}(h:asB v=some b)(hv:rv J ρ v u):u= .bool b:=by unfold asB at h;split at h<;>cases h<;>(have hv:[u]=_ :=hv;cases hv;rfl)
theorem C4{b:Bool}{u:Value}(h:rv (G:=G) J ρ (.bool b) u):u= .bool b:=by have h:[u]=_ :=h;cases h;rfl
theorem Ri{v:AV G}{b:Bool}{u:Value}(h:aaQ v=some b)(hv:rv J ρ v u):(b=true->∃x y,u= .pointer (some ⟨x,y,none⟩))/\(b=false->u= .pointer none):=by
 unfold aaQ at h;split at h
 ·cases h;obtain⟨⟨x,y,_,e⟩,_⟩:=hv;cases e;exact⟨λ_ =>⟨_,_,rfl⟩,nofun⟩
 ·cases h;have e:[u]=_ :=hv;cases e;exact⟨nofun,λ_ =>rfl⟩
 ·cases h
def sV(a:Act):gC:=(List.range a.tmps.size).map λd=>(d,a.tmps.getD d undef)
theorem Jj{t:Array Value}:∀{l:List Nat} {d:Nat},lk (l.map λd=>(d,t.getD d undef)) d=if d∈l then some (t.getD d undef)else none:=by
 intro l
 induction l with
 |nil=>intro d;simp[lk]
 |cons x r ih=>
  intro d;simp only[List.map_cons,lk];by_cases e:x=d
  ·subst e;simp
  ·rw[xO e,cond_false,ih]
   simp[Ne.symm e]
theorem Kt(a:Act):Bx (sV a) a.tmps:=λd v h=>by
 unfold sV at h;rw[Jj]at h;split at h
 ·rename_i hm
  have hd:d<a.tmps.size:=by simpa using hm
  have h:=Option.some.inj h;rw[← h];simp[hd]
 ·cases h
theorem VV{a:Act}{x:Operand}(h:∀t,x= .tmp t->t<a.tmps.size)(hg:∀g,x≠ .global g):Bw.ev (sV a) x=some (a.eval x):=by
 cases x with
 |tmp t=>have:=h t rfl;show lk (sV a) t=_;unfold sV;rw[Jj,aps (by simpa using this)];rfl
 |const v=>rfl
 |global g=>exact absurd rfl (hg g)
 |func f=>rfl
def VK(P:Program)(c:Cx)(o:Oper)(a:Act)(w:World)(u:Value):Prop:=∀next Q,(∀w',bI [] w w'->next (a.put o.dst u) w')->o.wpIn (FA c.ro) 0 P a w next Q
theorem VK.run{c:Cx}{o:Oper}{u:Value}(hd:∀cc,o.op≠ .defer cc)(h:(execOp a.eval o).run P w= .ok (.value u) w):VK P c o a w u:=λ_ _ hk=>ic hd h (hk w (bI.refl _ _))
theorem _root_.Go.Bw.VS.vk{N:Nat}{c:Cx}{D:List Deferred}{o:Oper}{F:gC}{H:List aO}{u:Value}(h:VS P N c o F H u)(hst:St N c D F H a w):VK P c o a w u:=λnext Q hk=>h D a w next Q hst hk
structure Fk(J:World->Prop)(ρ:bV)(a:Act)(E:Operand->Option (AV G)):Prop where
 ok:∀x v,E x=some v->rv J ρ v (a.eval x)
 ev:∀x v,E x=some v->Bw.ev (sV a) x=some (a.eval x)
def Ug(E:Operand->Option (AV G)):List Operand->Option (AV G)
 |[]=>some .nil
 |x::r=>match E x,Ug E r with
  |some v,some l=>some (.cons v l)
  |_,_ =>none
theorem AA{E:Operand->Option (AV G)}(h:Fk J ρ a E):∀{l:List Operand} {v:AV G},Ug E l=some v->rl J ρ v (l.map a.eval)/\Jp (sV a) l=some (l.map a.eval):=by
 intro l
 induction l with
 |nil=>intro v e;cases e;exact⟨rfl,rfl⟩
 |cons x r ih=>
  intro v e;simp only[Ug]at e;split at e
  ·rename_i u k h1 h2
   cases e;obtain⟨i1,i2⟩:=ih h2;refine⟨⟨_,_,rfl,h.ok _ _ h1,i1⟩,?_⟩;simp only[Jp,h.ev _ _ h1,i2,List.map_cons]
  ·cases e
def Xp:AV G->Nat->Option (AV G)
 | .cons a b,i=>match i with
  |0=>some a
  |i+1=>Xp b i
 |_,_ =>none
theorem O4:∀{v:AV G} {i:Nat} {x:AV G} {l:List Value},Xp v i=some x->rl J ρ v l->∃u,l[i]? =some u/\rv J ρ x u:=by
 intro v
 induction v with
 |cons a b _ uV=>
  intro i x l h hr;obtain⟨u,r,rfl,h1,h2⟩:=hr;cases i with
  |zero=>cases h;exact⟨u,rfl,h1⟩
  |succ i=>obtain⟨u',k1,k2⟩:=uV (i:=i) h h2;exact⟨u',by simpa using k1,k2⟩
 |_ =>intro i x l h;cases i<;>cases h
def tu(v:Option (AV G)):Option (IntKind×Int×Bool):=match v with
 |some v=>asI v
 |none=>none
def ag9{P:Program}(tt:TT P G)(ob:Nat->Option (Ob G))(T:Nat)(v:AV G)(i:Int)(q:Bool):PV G:=match v,tt.te.find T with
 | .ptr r p,some (.oE n _ sz _)=>some (ask q (bM i n), .ptr r (p++[.idx n sz i]))
 | .elt e xs p,some (.oE n _ sz _)=>some (ask q (bM i n), .elt e xs (p++[.idx n sz i]))
 | .row r,some (.sl _ sz _)=>match ob r with
  |some (.row _ sz' _ xs)=>bif Nat.beq sz sz' then some ([bM i xs.length], .ptr r [.idx xs.length sz i])else none
  |_ =>none
 | .dat (.sl e) xs,some (.sl _ sz _)=>bif Nat.beq sz (e.L G).n then some ([bM i (xs:List (e.T G)).length], .elt e xs [.idx (xs:List (e.T G)).length sz i])else none
 |_,_ =>none
def abb:List zB->Nat->Bool
 | .idx _ sz _ ::_,n=>Nat.beq sz n
 |_,_ =>false
def ag8{P:Program}(tt:TT P G)(ob:Nat->Option (Ob G)):AV G->Option (AV G)
 | .ptr r p=>match ob r with
  |some (.eW _ c)=>VE tt.F c p
  |some (.row _ sz t xs)=>bif abb p sz then(match Le tt.F t p with
   |some q=>some (mk q.m (q.get (xs.getD q.i.toNat default)))
   |none=>none)else none
  |_ =>none
 | .elt e xs p=>match Le tt.F e p with
  |some q=>some (mk q.m (q.get (xs.getD q.i.toNat default)))
  |none=>none
 |_ =>none
def AV.cw:AV G->Option Nat
 | .dat t _ =>bif t.ag then some (t.L G).n else none
 | .st a=>parts a
 |_ =>none
def Bl{P:Program}(tt:TT P G)(T:Nat)(v:AV G):Bool:=match tt.te.find T with
 |some e=>match e.sz with
  |none=>v.one
  |some n=>match v.cw with
   |some m=>Nat.beq n m&& !Nat.beq n 0
   |none=>false
 |none=>false
def RH(o:Option Nat)(y:AV G):Bool:=match o with
 |none=>y.one
 |some n=>match y.cw with
  |some m=>Nat.beq n m
  |none=>false
def pv{P:Program}(tt:TT P G)(ob:Nat->Option (Ob G))(E:Operand->Option (AV G)):Op->PV G
 | .move x=>match E x with
  |some v=>some ([],v)
  |none=>none
 | .assign x=>match E x with
  |some v=>some ([],v)
  |none=>none
 | .binOp o T x y _ =>match E x,E y with
  |some a,some b=>Z7 tt o T a b
  |_,_ =>none
 | .unOp .not _ x=>match E x with
  |some (.bool b)=>some ([], .bool (!b))
  |some (.kb b)=>some ([], .kb (!b))
  |_ =>none
 | .unOp .neg _ x=>match tu (E x)with
  |some (k,n,_)=>some ([], .int k (wr k (0-n)))
  |none=>none
 | .convert S T x=>match tu (E x),tt.te.find S,tt.te.find T with
  |some (k,n,_),some (.int l),some (.int k')=>bif Sy k l then some ([], .int k' (wr k' n))else none
  |_,_,_ =>none
 | .nilCheck x=>match E x with
  |some (.ptr r p)=>some ([], .ptr r p)
  |some (.fn (.func f) a c)=>some ([], .fn (.func f) a c)
  |_ =>none
 | .fieldAddr s x j=>match tt.te.find s with
  |some (.st jz _)=>match jz[j]? with
   |some o=>match E x with
    |some (.ptr r p)=>some ([], .ptr r (p++[.ME j o.1]))
    |some (.elt e xs p)=>some ([], .elt e xs (p++[.ME j o.1]))
    |_ =>none
   |none=>none
  |_ =>none
 | .field T x j=>match tt.te.find T with
  |some (.st jz _)=>match jz[j]? with
   |some o=>match E x with
    |some v=>match VE tt.F v [.ME j o.1]with
     |some y=>bif RH o.2 y then some ([],y)else none
     |none=>none
    |none=>none
   |none=>none
  |_ =>none
 | .indexAddr T x i=>match E x,tu (E i)with
  |some v,some (_,i,q)=>ag9 tt ob T v i q
  |_,_ =>none
 | .index T x i=>match E x,tu (E i),tt.te.find T with
  |some (.dat (.oE n e) f),some (_,i,q),some (.oE m te sz _)=>bif Nat.beq n m&&(Nat.beq sz (e.L G).n&&Bl tt te (mk e (f i.toNat)))then some (ask q (bM i n),mk e (f i.toNat))else none
  |_,_,_ =>none
 | .load T x=>match E x with
  |some v=>match ag8 tt ob v with
   |some y=>bif Bl tt T y then some ([],y)else none
   |none=>none
  |none=>none
 | .extract x i=>match E x with
  |some (.sE l)=>match Xp l i with
   |some v=>some ([],v)
   |none=>none
  |_ =>none
 | .makeFunc fn first cap=>match Ug E first.toList,Ug E cap.toList with
  |some a,some c=>some ([], .fn fn a c)
  |_,_ =>none
 | .makeInterface T x=>match E x,tt.te.find T with
  |some v,some (.int _)=>some ([], .om T v)
  |_,_ =>none
 | .call ⟨.builtin .len,args,Sq⟩=>match args.toList,Sq.toList with
  |[x],[T]=>match E x,tt.te.find T with
   |some (.row r),some (.sl _ _ _)=>match ob r with
    |some (.row _ _ _ xs)=>some ([], .int .i64 (xs.length:Int))
    |_ =>none
   |some (.dat (.sl e) xs),some (.sl _ _ _)=>some ([], .int .i64 ((xs:List (e.T G)).length:Int))
   |some .pR,some (.sl _ _ _)=>some ([], .int .i64 0)
   |_,_ =>none
  |_,_ =>none
 | .call ⟨.builtin .min,args,_⟩=>match args.toList with
  |[x,y]=>match tu (E x),tu (E y)with
   |some (k,a,_),some (l,b,_)=>bif Sy k l then some ([], .int k (if b<a then b else a))else none
   |_,_ =>none
  |_ =>none
 | .call ⟨.builtin .max,args,_⟩=>match args.toList with
  |[x,y]=>match tu (E x),tu (E y)with
   |some (k,a,_),some (l,b,_)=>bif Sy k l then some ([], .int k (if a<b then b else a))else none
   |_,_ =>none
  |_ =>none
 |_ =>none
end
end Go.Rw
