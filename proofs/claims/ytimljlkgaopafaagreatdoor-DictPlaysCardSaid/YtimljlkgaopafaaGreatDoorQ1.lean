/- Part 1 of what a proof leans on; pruned and shortened by a program out of longer texts. -/
import Derived.RangeFuncNested
import Derived.RangeFuncBound
import Derived.RangeFuncCalls
import Derived.RangeFuncLeaves
import Derived.WalkKit
import Derived.TacticsIn
import Derived.KernelRfl
import Derived.OrdersIn
import Derived.Laws.AppendOwn
import Derived.ArgAppend
import Derived.Laws.StructEq
import Derived.Deep.Upon
import Derived.Laws.CopyRow
import Derived.ProofKit
import Derived.OpenShut
import Derived.ShutString
import Derived.ChangeOld
import Derived.Below
import Derived.Carry
import Derived.Deep.Slices
import Derived.ChangeKeysEq
import Derived.Laws.Cover3
import Derived.LoopNIn
import Derived.Great.BuildSlice
import Derived.Maps.RangeRun
import Derived.MapKept
import Derived.Laws.Pointers
import Derived.Lib.Tables
import Derived.RecoverIn
import Derived.Test.YtimljlkgaopafaaGreatDoorProg
import Derived.LaidMore
import Derived.ChangeMaps
import Derived.ChangeAnyMap
import Derived.Test.YtimljlkgaopafaaGreatDoorCards
import Derived.Stop.Joined
import Derived.SevenTiedAt
universe u
theorem akd {c : Prop} {h : Decidable c} (hc : c) {α : Sort u} {t e : α} : ite c t e = t := if_pos hc
theorem ake {c : Prop} {h : Decidable c} (hc : ¬c) {α : Sort u} {t e : α} : ite c t e = e := if_neg hc
theorem akf {n m : Nat} (h : Nat.beq n m = true) : n = m := Nat.eq_of_beq_eq_true h
theorem akg (a b : Bool) : ((a && b) = true) = (a = true ∧ b = true) := Bool.and_eq_true a b
theorem akh {p : Prop} [inst : Decidable p] (h : p) : decide p = true := decide_eq_true h
theorem aki (n : Nat) : ((n : Int)).toNat = n := Int.toNat_natCast n
theorem akj {α : Type u} {a : α} (l : List α) {m : List α} (h : a ∈ m) : a ∈ l ++ m := List.mem_append_right l h
theorem akk {α : Type u} {a : α} {l : List α} (m : List α) (h : a ∈ l) : a ∈ l ++ m := List.mem_append_left m h
theorem akl {α : Type u} {b : α} {xs : Array α} {i : Nat} : xs[i]? = some b ↔ ∃ h : i < xs.size, xs[i] = b := Array.getElem?_eq_some_iff
theorem akm {α : Type u} {l : List α} {i : Nat} (h : i < l.length) : l[i]? = some l[i] := List.getElem?_eq_getElem h
theorem akn {α : Type u} {i : Nat} {l : List α} (h : i < l.length) : l.take (i + 1) = l.take i ++ [l[i]] := List.take_succ_eq_append_getElem h
theorem ako {p : Prop} [inst : Decidable p] (h : ¬p) : decide p = false := decide_eq_false h
theorem akp {α : Type u} (y : α) {a : α} {l : List α} (h : a ∈ l) : a ∈ y :: l := List.mem_cons_of_mem y h
namespace Go.Bw
open Go Go.RowKit
abbrev FA(ro:Option Nat):Fence:={fn:=λ_ =>True,depth:=none,alive:=false,round:=ro}
abbrev eH:=List (Nat×Value)
def lk:eH->Nat->Option Value
 |[],_ =>none
 |(k,v)::r,d=>bif Nat.beq k d then some v else lk r d
def ev(F:eH):Operand->Option Value
 | .tmp t=>lk F t
 | .const v=>some v
 | .global g=>some (.pointer (some ⟨g,0,none⟩))
 | .func f=>some (.func (.func f) #[] #[])
def yN(F:eH)(t:Array Value):Prop:=∀d v,lk F d=some v->t[d]? =some v
theorem aI{F:eH}{a:Act}(h:yN F a.tmps){x:Operand}{v:Value}(hx:ev F x=some v):a.eval x=v:=by
 cases x with
 |tmp t=>have:=h t v hx;simp[Act.eval,this]
 |const u=>exact Option.some.inj hx
 |global g=>exact Option.some.inj hx
 |func f=>exact Option.some.inj hx
def D3(F:eH):List Operand->Option (List Value)
 |[]=>some []
 |x::r=>match ev F x,D3 F r with
  |some v,some vs=>some (v::vs)
  |_,_ =>none
theorem Mr{F:eH}{a:Act}(h:yN F a.tmps):∀{l:List Operand} {vs:List Value},D3 F l=some vs->l.map a.eval=vs:=by
 intro l
 induction l with
 |nil=>intro vs hl;exact(Option.some.inj hl)
 |cons x l ih=>
  intro vs hl;simp only[D3]at hl;split at hl
  ·rename_i v us h1 h2
   rw[← Option.some.inj hl];simp[aI h h1,ih h2]
  ·cases hl
theorem uO{d k:Nat}(e:¬d=k):Nat.beq d k=false:=by
 cases hb:Nat.beq d k with
 |false=>rfl
 |true=>exact absurd (akf hb) e
def pt(d:Option Tmp)(v:Value)(F:eH):eH:=match d with
 |some d=>(d,v)::F
 |none=>F
def dOk(N:Nat)(d:Option Tmp):Bool:=match d with
 |some d=>Nat.blt d N
 |none=>true
theorem yN.put{F:eH}{a:Act}{d:Option Tmp}{v:Value}{N:Nat}(h:yN F a.tmps)(hs:a.tmps.size=N)(hd:dOk N d=true):
  yN (pt d v F) (a.put d v).tmps:=by
 cases d with
 |none=>exact h
 |some d=>
  intro k u hk;simp only[pt,lk]at hk;have hd':d<a.tmps.size:=by simpa[dOk,hs,Nat.blt_eq]using hd
  by_cases e:d=k
  ·subst e
   simp at hk;subst hk;simp[Act.put,hd']
  ·have:Nat.beq d k=false:=uO e
   rw[this]at hk;simp only[cond_false]at hk;simp only[Act.put,Array.getElem?_setIfInBounds,ake e];exact h k u hk
theorem yN.sub{F F':eH}{t:Array Value}(h:yN F t)(hs:∀d v,lk F' d=some v->lk F d=some v):yN F' t:=λd v hk=>h d v (hs d v hk)
def Sub:eH->eH->Prop
 |[],_ =>True
 |p::r,F=>lk F p.1=some p.2/\Sub r F
structure aQ(bs:List Nat)(w0 w:World):Prop where
 os:w.os=w0.os
 tape:w.tape=w0.tape
 output:w.output=w0.output
 size:w0.heap.size<=w.heap.size
 block:∀k,k<w0.heap.size->k∉bs->w.heap[k]? =w0.heap[k]?
theorem aQ.refl(bs:List Nat)(w:World):aQ bs w w:=⟨rfl,rfl,rfl,Nat.le_refl _,λ_ _ _ =>rfl⟩
theorem aQ.trans{bs bs':List Nat}{w0 w w':World}(h:aQ bs w0 w)(k:aQ bs' w w')(hb:∀b∈bs',b∈bs\/w0.heap.size<=b):aQ bs w0 w':=
 ⟨k.os.trans h.os,k.tape.trans h.tape,k.output.trans h.output,Nat.le_trans h.size k.size,
  λi hi hn=>(k.block i (Nat.lt_of_lt_of_le hi h.size) (λhm=>by
   rcases hb i hm with h1|h1
   ·exact hn h1
   ·omega)).trans (h.block i hi hn)⟩
theorem aQ.ext{bs:List Nat}{w0 w w':World}(h:aQ bs w0 w)(k:aQ [] w w'):aQ bs w0 w':=h.trans k (λ_ hb=>by cases hb)
theorem aQ.wE{w w':World}{row:Option Nat}(h:w.grownBy w' row):aQ row.toList w w':=
 ⟨h.os,h.tape,h.output,h.size,λk hk hn=>h.block k hk (λe=>hn (by rw[← e];simp))⟩
theorem aQ.alloc(w:World)(o:Obj):aQ [] w (w.alloc o):=⟨rfl,rfl,rfl,by simp,λk hk _ =>Below.heap_alloc w o k hk⟩
theorem aQ.drawn{w0 w:World}{bs:List Nat}(h:aQ bs w0 w)(n:Nat):aQ bs w0 {w with drawn:=n}:=⟨h.os,h.tape,h.output,h.size,h.block⟩
def Ro(w:World)(v:Value)(sz n:Nat)(xs:List Value):Prop:=xs.length=n*sz/\(((∃a cp,v= .slice a 0 cp)/\n=0)\/∃g off cap,v= .slice (some ⟨g,off,none⟩) n cap/\g<w.heap.size/\n<=cap/\∀(j:Nat) u,xs[j]? =some u->w.cell? ⟨g,off+j,none⟩=some u)
def kZ(w:World)(e:TypeId)(sz:Nat)(v:Value)(n:Nat)(xs:List Value):Prop:=xs.length=n*sz/\((v= .slice none 0 0/\n=0)\/∃g o cap cur,v= .slice (some ⟨g,o,none⟩) n cap/\w.heap[g]? =some (.cells cur e (0,0))/\n<=cap/\cap<=maxLen/\o+cap*sz<=cur.size/\(cur.toList.drop o).take (n*sz)=xs)
theorem Dh{w:World}{base:Nat}{e:TypeId}{sz:Nat}{v:Value}{n:Nat}{xs:List Value}(h:w.ownsRow base e sz v n xs):kZ w e sz v n xs:=
 ⟨h.1,h.2.imp id λ⟨g,cap,cur,h1,_,h3,h4,h5,h6,h7⟩=>⟨g,0,cap,cur,h1,h3,h4,h5,by omega,by simpa using h7⟩⟩
inductive aE where
 |cells (b:Nat) (t:TypeId) (cs:List Value)
 |row (v:Value) (e:TypeId) (sz:Nat) (n:Nat) (xs:List Value)
 |obj (b:Nat) (o:Obj)
 |sl (v:Value) (sz n:Nat) (xs:List Value)
 |ext (bs:List Nat) (J:World->Prop)
def aE.cI:aE->List Nat
 | .cells b _ _ =>[b]
 | .row v _ _ _ _ =>v.ownBlock.toList
 | .obj b _ =>[b]
 | .sl v _ _ _ =>v.ownBlock.toList
 | .ext bs _ =>bs
def aE.holds(w:World):aE->Prop
 | .cells b t cs=>w.heap[b]? =some (.cells cs.toArray t (0,0))
 | .row v e sz n xs=>kZ w e sz v n xs
 | .obj b o=>w.heap[b]? =some o
 | .sl v sz n xs=>Ro w v sz n xs
 | .ext bs J=>∀w':World,w.heap.size<=w'.heap.size->(∀b∈bs,w'.heap[b]? =w.heap[b]?)->J w'
def aE.apart(r s:aE):Prop:=∀b,b∈r.cI->b∉s.cI
theorem aE.uQ{r s:aE}(h:r.apart s):s.apart r:=λb hs hr=>h b hr hs
theorem LH{w w':World}{e:TypeId}{sz:Nat}{v:Value}{n:Nat}{xs:List Value}(h:kZ w e sz v n xs)
  (hb:∀b,v.ownBlock=some b->w'.heap[b]? =w.heap[b]?):kZ w' e sz v n xs:=by
 refine⟨h.1,?_⟩;rcases h.2 with hn|⟨g,o,cap,cur,rfl,hgg,rest⟩
 ·exact .inl hn
 ·exact .inr ⟨g,o,cap,cur,rfl,(hb g rfl).trans hgg,rest⟩
theorem Ro.bS{w w':World}{v:Value}{sz n:Nat}{xs:List Value}(h:Ro w v sz n xs)(hs:w.heap.size<=w'.heap.size)(hb:∀b,v.ownBlock=some b->w'.heap[b]? =w.heap[b]?):Ro w' v sz n xs:=by
 refine⟨h.1,?_⟩;rcases h.2 with h0|⟨g,off,cap,rfl,h2,h3,h4⟩
 ·exact .inl h0
 ·exact .inr ⟨g,off,cap,rfl,Nat.lt_of_lt_of_le h2 hs,h3,λj u hu=>(World.cell?_of_block (hb g rfl)).trans (h4 j u hu)⟩
theorem aE.kT{w w':World}{r:aE}(h:r.holds w)(hs:w.heap.size<=w'.heap.size)(hb:∀b,b∈r.cI->w'.heap[b]? =w.heap[b]?):r.holds w':=by
 cases r with
 |cells b t cs=>exact(hb b (by simp[aE.cI])).trans h
 |row v e sz n xs=>exact LH h λb hv=>hb b (by simp[aE.cI,hv])
 |obj b o=>exact(hb b (by simp[aE.cI])).trans h
 |sl v sz n xs=>exact Ro.bS h hs λb hv=>hb b (by simp[aE.cI,hv])
 |ext bs J=>exactλw2 h1 h2=>h w2 (Nat.le_trans hs h1) λb hm=>(h2 b hm).trans (hb b hm)
structure bH(bs:List Nat)(n0:Nat)(H:List aE)(w:World):Prop where
 holds:∀r∈H,r.holds w
 own:∀r∈H,∀b,b∈r.cI->(b∈bs\/n0<=b)/\b<w.heap.size
 apart:H.Pairwise aE.apart
theorem bH.nil(bs:List Nat)(n0:Nat)(w:World):bH bs n0 [] w:=⟨by simp,by simp, .nil⟩
theorem bH.bS{bs bs':List Nat}{n0 n0':Nat}{H:List aE}{w w':World}(h:bH bs n0 H w)(hs:w.heap.size<=w'.heap.size)
  (hb:∀r∈H,∀b,b∈r.cI->w'.heap[b]? =w.heap[b]?)(hw:∀b,(b∈bs\/n0<=b)->b<w.heap.size->(b∈bs'\/n0'<=b)):bH bs' n0' H w':=
 ⟨λr hr=>aE.kT (h.holds r hr) hs (hb r hr),λr hr b hb'=>let⟨o,l⟩:=h.own r hr b hb';⟨hw b o l,Nat.lt_of_lt_of_le l hs⟩,h.apart⟩
theorem bH.ext{bs:List Nat}{n0:Nat}{H:List aE}{w w':World}(h:bH bs n0 H w)(hs:aQ [] w w'):bH bs n0 H w':=
 h.bS hs.size (λr hr b hb=>hs.block b (h.own r hr b hb).2 (by simp)) (λ_ o _ =>o)
theorem bH.cons{bs:List Nat}{n0:Nat}{H:List aE}{w:World}{r:aE}(h:bH bs n0 H w)(hr:r.holds w)
  (ho:∀b,b∈r.cI->(b∈bs\/n0<=b)/\b<w.heap.size)(ha:∀s∈H,r.apart s):bH bs n0 (r::H) w:=
 ⟨λs hs=>by cases hs with|head=>exact hr|tail _ hm=>exact h.holds s hm,
  λs hs=>by cases hs with|head=>exact ho|tail _ hm=>exact h.own s hm,
  .cons ha h.apart⟩
theorem bH.fresh{bs:List Nat}{n0:Nat}{H:List aE}{w w':World}{r:aE}(h:bH bs n0 H w)(hs:aQ [] w w')(hr:r.holds w')
  (hn:n0<=w.heap.size)(ho:∀b,b∈r.cI->w.heap.size<=b/\b<w'.heap.size):bH bs n0 (r::H) w':=
 (h.ext hs).cons hr (λb hb=>⟨.inr (Nat.le_trans hn (ho b hb).1),(ho b hb).2⟩)
  (λs hm b hb Q9=>by have:=(h.own s hm b Q9).2;have:=(ho b hb).1;omega)
theorem bH.sub{bs:List Nat}{n0:Nat}{H H':List aE}{w:World}(h:bH bs n0 H w)(hs:H'.Sublist H):bH bs n0 H' w:=
 ⟨λr hr=>h.holds r (hs.subset hr),λr hr=>h.own r (hs.subset hr),h.apart.sublist hs⟩
theorem bH.j9{bs:List Nat}{n0:Nat}{H H':List aE}{w:World}(h:bH bs n0 H w)(hs:H.Perm H'):bH bs n0 H' w:=
 ⟨λr hr=>h.holds r (hs.mem_iff.2 hr),λr hr=>h.own r (hs.mem_iff.2 hr),(hs.pairwise_iff (λhrs=>aE.uQ hrs)).1 h.apart⟩
theorem qc{H:List aE}(h:H.Pairwise aE.apart){j k:Nat}{r s:aE}(hj:H[j]? =some r)(hk:H[k]? =some s)(hne:j≠k):r.apart s:=by
 obtain⟨lj,rfl⟩:=List.getElem?_eq_some_iff.1 hj;obtain⟨lk,rfl⟩:=List.getElem?_eq_some_iff.1 hk;rcases Nat.lt_or_ge j k with hlt|hge
 ·exact List.pairwise_iff_getElem.1 h j k lj lk hlt
 ·exact aE.uQ (List.pairwise_iff_getElem.1 h k j lk lj (by omega))
theorem bH.set{bs:List Nat}{n0:Nat}{H:List aE}{w w':World}(h:bH bs n0 H w){k:Nat}{r r':aE}(hk:H[k]? =some r)
  (hs:w.heap.size<=w'.heap.size)(hb:∀j,j<w.heap.size->j∉r.cI->w'.heap[j]? =w.heap[j]?)(hr:r'.holds w')(hn:n0<=w.heap.size)
  (ho:∀b,b∈r'.cI->(b∈r.cI\/w.heap.size<=b)/\b<w'.heap.size):bH bs n0 (H.set k r') w':=by
 have hmem:r∈H:=List.mem_of_getElem? hk;refine⟨λs hm=>?_,λs hm b oo=>?_,?_⟩
 ·obtain⟨j,hj⟩:=List.mem_iff_getElem?.1 hm
  rw[List.getElem?_set]at hj;by_cases e:k=j
  ·subst e
   have hl:=(List.getElem?_eq_some_iff.1 hk).1;simp[hl]at hj;subst hj;exact hr
  ·simp[e]at hj
   refine aE.kT (h.holds s (List.mem_of_getElem? hj)) hs (λb hbb=>hb b (h.own s (List.mem_of_getElem? hj) b hbb).2 (λhrb=>?_));exact qc h.apart hk hj e b hrb hbb
 ·obtain⟨j,hj⟩:=List.mem_iff_getElem?.1 hm
  rw[List.getElem?_set]at hj;by_cases e:k=j
  ·subst e
   have hl:=(List.getElem?_eq_some_iff.1 hk).1;simp[hl]at hj;subst hj;obtain⟨h1,h2⟩:=ho b oo;refine⟨?_,h2⟩;rcases h1 with h1|h1
   ·exact(h.own r hmem b h1).1
   ·exact .inr (Nat.le_trans hn h1)
  ·simp[e]at hj
   obtain⟨h1,h2⟩:=h.own s (List.mem_of_getElem? hj) b oo;exact⟨h1,Nat.lt_of_lt_of_le h2 hs⟩
 ·rw[List.pairwise_iff_getElem]
  intro i j hi hj hij;have hl:=(List.getElem?_eq_some_iff.1 hk).1;have key:∀j s,H[j]? =some s->k≠j->r'.apart s:=λj s hjs hne b hrb Q9=>by
   have h2:=(h.own s (List.mem_of_getElem? hjs) b Q9).2;rcases(ho b hrb).1 with h1|h1
   ·exact qc h.apart hk hjs hne b h1 Q9
   ·omega
  rw[List.length_set]at hi hj;rw[List.getElem_set,List.getElem_set];by_cases e1:k=i
  ·rw[akd e1,ake (by omega)]
   exact key j _ (akm hj) (by omega)
  ·rw[ake e1]
   by_cases e2:k=j
   ·rw[akd e2]
    exact aE.uQ (key i _ (akm hi) (by omega))
   ·rw[ake e2]
    exact List.pairwise_iff_getElem.1 h.apart i j hi hj hij
theorem bH.C0{bs:List Nat}{n0:Nat}{H:List aE}{w:World}(h:bH bs n0 H w){k:Nat}{r r':aE}(hk:H[k]? =some r)(hr:∀w:World,r.holds w->r'.holds w)(hb:∀b,b∈r'.cI->b∈r.cI):bH bs n0 (H.set k r') w:=by
 have hmem:r∈H:=List.mem_of_getElem? hk;have hl:=(List.getElem?_eq_some_iff.1 hk).1;have get:∀s∈H.set k r',(s=r'\/∃j,j≠k/\H[j]? =some s):=λs hs=>by
  obtain⟨j,hj⟩:=List.mem_iff_getElem?.1 hs;rw[List.getElem?_set]at hj;by_cases e:k=j
  ·subst e;simp[hl]at hj;exact .inl hj.symm
  ·simp[e]at hj;exact .inr ⟨j,Ne.symm e,hj⟩
 refine⟨λs hs=>?_,λs hs b oo=>?_,?_⟩
 ·rcases get s hs with rfl|⟨j,_,hj⟩
  ·exact hr w (h.holds r hmem)
  ·exact h.holds s (List.mem_of_getElem? hj)
 ·rcases get s hs with rfl|⟨j,_,hj⟩
  ·exact h.own r hmem b (hb b oo)
  ·exact h.own s (List.mem_of_getElem? hj) b oo
 ·rw[List.pairwise_iff_getElem]
  intro i j hi hj hij;rw[List.length_set]at hi hj;rw[List.getElem_set,List.getElem_set];by_cases e1:k=i
  ·rw[akd e1,ake (by omega)]
   exactλb Tg KV=>qc h.apart hk (akm hj) (by omega) b (hb b Tg) KV
  ·rw[ake e1]
   by_cases e2:k=j
   ·rw[akd e2]
    exactλb Tg KV=>qc h.apart (akm hi) hk (by omega) b Tg (hb b KV)
   ·rw[ake e2]
    exact List.pairwise_iff_getElem.1 h.apart i j hi hj hij
def pick(H:List aE):List Nat->Option (List aE)
 |[]=>some []
 |k::ks=>match H[k]?,pick H ks with
  |some r,some l=>some (r::l)
  |_,_ =>none
theorem Dd{H:List aE}:∀{ks:List Nat} {l:List aE},pick H ks=some l->∀(j:Nat) (r:aE),l[j]? =some r->∃k:Nat,ks[j]? =some k/\H[k]? =some r:=by
 intro ks
 induction ks with
 |nil=>intro l h j r hj;simp[pick]at h;subst h;simp at hj
 |cons k ks ih=>
  intro l h j r hj;simp only[pick]at h;split at h
  ·rename_i r0 l0 h1 h2
   simp at h;subst h;cases j with
   |zero=>simp at hj;subst hj;exact⟨k,rfl,h1⟩
   |succ j=>obtain⟨k',e1,e2⟩:=ih h2 j r (by simpa using hj);exact⟨k',by simpa using e1,e2⟩
  ·cases h
theorem bH.pick{bs:List Nat}{n0:Nat}{H l:List aE}{w:World}(h:bH bs n0 H w){ks:List Nat}(hp:pick H ks=some l)(hn:ks.Nodup):bH bs n0 l w:=by
 refine⟨λr hr=>?_,λr hr=>?_,?_⟩
 ·obtain⟨j,hj⟩:=List.mem_iff_getElem?.1 hr
  obtain⟨k,_,e⟩:=Dd hp j r hj;exact h.holds r (List.mem_of_getElem? e)
 ·obtain⟨j,hj⟩:=List.mem_iff_getElem?.1 hr
  obtain⟨k,_,e⟩:=Dd hp j r hj;exact h.own r (List.mem_of_getElem? e)
 ·rw[List.pairwise_iff_getElem]
  intro i j hi hj hij;obtain⟨k1,e1,f1⟩:=Dd hp i _ (akm hi);obtain⟨k2,e2,f2⟩:=Dd hp j _ (akm hj);refine qc h.apart f1 f2 (λe=>?_);subst e;obtain⟨l1,q1⟩:=List.getElem?_eq_some_iff.1 e1;obtain⟨l2,q2⟩:=List.getElem?_eq_some_iff.1 e2;exact absurd (q1.trans q2.symm) (by
   intro hq;exact(List.pairwise_iff_getElem.1 hn i j l1 l2 hij) hq)
structure Cx where
 ro:Option Nat
 w0:World
 bs:List Nat
structure St(N:Nat)(c:Cx)(D:List Deferred)(F:eH)(H:List aE)(a:Act)(w:World):Prop where
 tm:a.tmps.size=N
 fr:yN F a.tmps
 df:a.defers=D
 si:aQ c.bs c.w0 w
 hp:bH c.bs c.w0.heap.size H w
theorem St.sub{N:Nat}{c:Cx}{D:List Deferred}{F F':eH}{H:List aE}{a:Act}{w:World}(h:St N c D F H a w)(hs:∀d v,lk F' d=some v->lk F d=some v):St N c D F' H a w:=
 ⟨h.tm,h.fr.sub hs,h.df,h.si,h.hp⟩
theorem St.put{N:Nat}{c:Cx}{D:List Deferred}{F:eH}{H H':List aE}{a:Act}{w w':World}{d:Option Tmp}{v:Value}(h:St N c D F H a w)(hd:dOk N d=true)
  (hs:aQ c.bs c.w0 w')(hp:bH c.bs c.w0.heap.size H' w'):St N c D (pt d v F) H' (a.put d v) w':=by
 refine⟨?_,h.fr.put h.tm hd,?_,hs,hp⟩
 ·cases d<;>simp[Act.put,h.tm]
 ·cases d<;>simp[Act.put,h.df]
def WP(P:Program)(N:Nat)(c:Cx)(D:List Deferred)(code:Code)(Q:Exit->Act->World->Prop)(F:eH)(H:List aE):Prop:=∀a w,St N c D F H a w->code.wpIn (FA c.ro) 0 P Q a w
def WQ(N:Nat)(c:Cx)(D:List Deferred)(Q:Exit->Act->World->Prop)(e:Exit)(F:eH)(H:List aE):Prop:=∀a w,St N c D F H a w->Q e a w
def WL(P:Program)(N:Nat)(c:Cx)(D:List Deferred)(ops:Array Oper)(Q:Exit->Act->World->Prop)(l:List Oper)(F:eH)(H:List aE):Prop:=∀a w,St N c D F H a w->wpListIn (FA c.ro) 0 P ops Q l a w
def VS(P:Program)(N:Nat)(c:Cx)(o:Oper)(F:eH)(H:List aE)(v:Value):Prop:=∀D a w next Q,St N c D F H a w->(∀w',aQ [] w w'->next (a.put o.dst v) w')->o.wpIn (FA c.ro) 0 P a w next Q
def RX{α:Type}(P:Program)(N:Nat)(c:Cx)(o:Oper)(F:eH)(H:List aE)(p:α->Prop)(fv:α->Value)(fH:α->List aE):Prop:=∀D a w next Q,St N c D F H a w->(∀x w',p x->aQ c.bs c.w0 w'->bH c.bs c.w0.heap.size (fH x) w'->next (a.put o.dst (fv x)) w')->o.wpIn (FA c.ro) 0 P a w next Q
theorem ew{P:Program}{c:Cx}{o:Oper}{a:Act}{w w':World}{v:Value}{next:Act->World->Prop}{Q:Exit->Act->World->Prop}(hd:∀cc,o.op≠ .defer cc)
  (hr:(execOp a.eval o).run P w= .ok (.value v) w')(hk:next (a.put o.dst v) w'):o.wpIn (FA c.ro) 0 P a w next Q:=by
 refine⟨λ_ _ =>trivial,?_⟩;have:Oper.semAt (FA c.ro).round a.eval o=execOp a.eval o:=Oper.semAt_eq _ _ _ hd;rw[this,hr];exact hk
theorem oU{P:Program}{c:Cx}{o:Oper}{a:Act}{w w':World}{next:Act->World->Prop}{Q:Exit->Act->World->Prop}(hd:∀cc,o.op≠ .defer cc)
  (hr:(execOp a.eval o).run P w= .ok .skip w')(hk:next (a.put o.dst undef) w'):o.wpIn (FA c.ro) 0 P a w next Q:=by
 refine⟨λ_ _ =>trivial,?_⟩;have:Oper.semAt (FA c.ro).round a.eval o=execOp a.eval o:=Oper.semAt_eq _ _ _ hd;rw[this,hr];exact hk
theorem aG{P:Program}{N:Nat}{c:Cx}{o:Oper}{F:eH}{H:List aE}{v:Value}(hd:∀cc,o.op≠ .defer cc)
  (h:∀(a:Act) (w:World),yN F a.tmps->aQ c.bs c.w0 w->bH c.bs c.w0.heap.size H w->(execOp a.eval o).run P w= .ok (.value v) w):VS P N c o F H v:=
 λ_ a w _ _ hst hk=>ew hd (h a w hst.fr hst.si hst.hp) (hk w (aQ.refl _ _))
section lists
variable {P:Program} {N:Nat} {c:Cx} {D:List Deferred} {ops:Array Oper} {Q:Exit->Act->World->Prop} {o:Oper} {rest:List Oper} {F:eH} {H:List aE}
 {d:Tmp} {op:Op} {ty:TypeId} {ps:String} {af:Array Edge} {g:Option (Nat×Bool)}
theorem qR(h:WQ N c D Q .normal F H):WL P N c D ops Q [] F H:=λa w hst=>h a w hst
theorem bQ{v:Value}(hd:Nat.blt d N=true)(hv:VS P N c ⟨some d,op,ty,ps,af,none⟩ F H v)(h:WL P N c D ops Q rest ((d,v)::F) H):WL P N c D ops Q (⟨some d,op,ty,ps,af,none⟩::rest) F H:=
 λa w hst=>wpListIn_plain rfl λK hK=>hv D a w K Q hst λ_ hw=>hK _ _ (h _ _ (hst.put (d:=some d) hd (hst.si.ext hw) (hst.hp.ext hw)))
theorem A4{α:Type}{p:α->Prop}{fv:α->Value}{fH:α->List aE}(hd:Nat.blt d N=true)(hv:RX P N c ⟨some d,op,ty,ps,af,none⟩ F H p fv fH)
  (h:∀x,p x->WL P N c D ops Q rest ((d,fv x)::F) (fH x)):WL P N c D ops Q (⟨some d,op,ty,ps,af,none⟩::rest) F H:=
 λa w hst=>wpListIn_plain rfl λK hK=>hv D a w K Q hst λx _ hp hs hh=>hK _ _ (h x hp _ _ (hst.put (d:=some d) hd hs hh))
theorem F1{α:Type}{p:α->Prop}{fv:α->Value}{fH:α->List aE}(hv:RX P N c ⟨none,op,ty,ps,af,none⟩ F H p fv fH)
  (h:∀x,p x->WL P N c D ops Q rest F (fH x)):WL P N c D ops Q (⟨none,op,ty,ps,af,none⟩::rest) F H:=
 λa w hst=>wpListIn_plain rfl λK hK=>hv D a w K Q hst λx _ hp hs hh=>hK _ _ (h x hp _ _ (hst.put (d:=none) rfl hs hh))
def gd(ops:Array Oper)(F:eH):Option (Nat×Bool)->Option Bool
 |none=>none
 |some (j,want)=>match((ops[j]?).bind (·.dst)).bind (lk F)with
  |some (.bool b)=>some (b==want)
  |_ =>none
def Gd(ops:Array Oper)(F:eH)(g:Option (Nat×Bool))(B:Bool):Prop:=∀(o:Oper) (a:Act),o.guard=g->yN F a.tmps->Region.wanted o (yielded ops a.tmps)=B
theorem OB{a:Act}{j:Nat}{k:Tmp}{v:Value}(hf:yN F a.tmps)(hd:(ops[j]?).bind (·.dst)=some k)(hl:lk F k=some v):yielded ops a.tmps j=match v with| .bool b=>some b|_ =>none:=by
 have h1:=hf _ _ hl;cases ho:ops[j]? with
 |none=>simp[ho]at hd
 |some oj=>simp[ho]at hd;cases v<;>simp[yielded,ho,hd,h1]
theorem YI{j:Nat}{want b:Bool}{k:Tmp}(hd:(ops[j]?).bind (·.dst)=some k)(hl:lk F k=some (.bool b)):Gd ops F (some (j,want)) (b==want):=λo a hg hf=>by simp only[Region.wanted,hg,OB hf hd hl];cases b<;>cases want<;>rfl
theorem Mz(hg:Gd ops F g false)(hd:Nat.blt d N=true)(h:WL P N c D ops Q rest ((d,undef)::F) H):WL P N c D ops Q (⟨some d,op,ty,ps,af,g⟩::rest) F H:=by intro a w hst;simp only[wpListIn,hg ⟨some d,op,ty,ps,af,g⟩ a rfl hst.fr];exact⟨λ_ _ =>trivial,h _ _ (hst.put (d:=some d) hd hst.si hst.hp)⟩
theorem ajQ{b:Bool}{v:Value}(hg:Gd ops F g b)(hd:Nat.blt d N=true)(hv:b=true->VS P N c ⟨some d,op,ty,ps,af,g⟩ F H v)
  (h:WL P N c D ops Q rest ((d,bif b then v else undef)::F) H):WL P N c D ops Q (⟨some d,op,ty,ps,af,g⟩::rest) F H:=by
 cases b with
 |false=>exact Mz hg hd h
 |true=>intro a w hst;simp only[wpListIn,hg ⟨some d,op,ty,ps,af,g⟩ a rfl hst.fr,if_true];exact hv rfl D a w _ Q hst λw' hw=>h _ _ (hst.put (d:=some d) hd (hst.si.ext hw) (hst.hp.ext hw))
theorem Mi{x:Operand}{t:Bool}{v:Value}(h:ev F x=some (bif t then v else undef))(ht:t=true):ev F x=some v:=by subst ht;exact h
theorem aeH{l:List Oper}{H':List aE}(hH:∀bs n0 w,bH bs n0 H w->bH bs n0 H' w)(h:WL P N c D ops Q l F H'):WL P N c D ops Q l F H:=λa w hst=>h a w ⟨hst.tm,hst.fr,hst.df,hst.si,hH _ _ _ hst.hp⟩
end lists
section code
variable {P:Program} {N:Nat} {c:Cx} {D:List Deferred} {Q:Exit->Act->World->Prop} {F:eH} {H:List aE}
theorem qQ{x y:Code}(h:WP P N c D x (Exit.then (y.wpIn (FA c.ro) 0 P Q) Q) F H):WP P N c D (.seq x y) Q F H:=λa w hst=>wpIn_seq (h a w hst)
theorem X8{id:Nat}{x:Code}(h:WP P N c D x (Exit.inBlock id Q) F H):WP P N c D (.block id x) Q F H:=λa w hst=>wpIn_block (h a w hst)
theorem DL(h:WQ N c D Q .normal F H):WP P N c D .skip Q F H:=λa w hst=>wpIn_skip (h a w hst)
theorem X6{l:Nat}(h:WQ N c D Q .normal F H):WP P N c D (.label l) Q F H:=λa w hst=>wpIn_label (h a w hst)
theorem aeE(h:WQ N c D Q .ret F H):WP P N c D .ret Q F H:=λa w hst=>wpIn_ret (h a w hst)
theorem aa8{id:Nat}(h:WQ N c D Q (.exit id) F H):WP P N c D (.exit id) Q F H:=λa w hst=>wpIn_exit (h a w hst)
theorem jl{id:Nat}{l:List Oper}(h:WL P N c D l.toArray Q l F H):WP P N c D (.region id l.toArray false) Q F H:=λa w hst=>wpIn_region_lit (h a w hst)
theorem aa6{x:Operand}{y z:Code}(hc:ev F x=some (.bool true))(h:WP P N c D y Q F H):WP P N c D (.cond x y z) Q F H:=
 λa w hst=>wpIn_cond_true (aI hst.fr hc) (h a w hst)
theorem X7{x:Operand}{y z:Code}(hc:ev F x=some (.bool false))(h:WP P N c D z Q F H):WP P N c D (.cond x y z) Q F H:=
 λa w hst=>wpIn_cond_false (aI hst.fr hc) (h a w hst)
theorem aeF{x:Code}{H':List aE}(hH:∀bs n0 w,bH bs n0 H w->bH bs n0 H' w)(h:WP P N c D x Q F H'):WP P N c D x Q F H:=λa w hst=>h a w ⟨hst.tm,hst.fr,hst.df,hst.si,hH _ _ _ hst.hp⟩
theorem XY{e:Exit}{H':List aE}(hH:∀bs n0 w,bH bs n0 H w->bH bs n0 H' w)(h:WQ N c D Q e F H'):WQ N c D Q e F H:=λa w hst=>h a w ⟨hst.tm,hst.fr,hst.df,hst.si,hH _ _ _ hst.hp⟩
theorem ny{y:Code}(h:WP P N c D y Q F H):WQ N c D (Exit.then (y.wpIn (FA c.ro) 0 P Q) Q) .normal F H:=h
theorem FZ{K:Act->World->Prop}(h:WQ N c D Q .ret F H):WQ N c D (Exit.then K Q) .ret F H:=h
theorem DK{K:Act->World->Prop}{id:Nat}(h:WQ N c D Q (.exit id) F H):WQ N c D (Exit.then K Q) (.exit id) F H:=h
theorem X3{id:Nat}(h:WQ N c D Q .normal F H):WQ N c D (Exit.inBlock id Q) .normal F H:=h
theorem Mx{id:Nat}(h:WQ N c D Q .ret F H):WQ N c D (Exit.inBlock id Q) .ret F H:=h
theorem J5{id:Nat}(h:WQ N c D Q .normal F H):WQ N c D (Exit.inBlock id Q) (.exit id) F H:=λa w hst=>by simpa[Exit.inBlock]using h a w hst
theorem J4{id k:Nat}(hne:Nat.beq k id=false)(h:WQ N c D Q (.exit k) F H):WQ N c D (Exit.inBlock id Q) (.exit k) F H:=λa w hst=>by
 have:¬k=id:=λe=>by rw[e,Nat.beq_refl]at hne;cases hne
 simpa[Exit.inBlock,this]using h a w hst
theorem aeG{α:Type}{x y:Code}(I:α->eH)(J:α->List aE)(p:α->Prop)
  (h1:WP P N c D x (Exit.then (λa w=>∃i,p i/\St N c D (I i) (J i) a w) Q) F H)(h2:∀i,p i->WP P N c D y Q (I i) (J i)):WP P N c D (.seq x y) Q F H:=
 λ_ _ hst=>wpIn_seq (wpIn_mono (h1 _ _ hst) λe a' w' hq=>by
  cases e with
  |normal=>obtain⟨i,hp,hs⟩:=hq;exact h2 i hp a' w' hs
  |_ =>exact hq)
theorem X5{α:Type}{x:Code}(I:α->eH)(J:α->List aE)(p:α->Prop)(μ:α->Nat)(i0:α)(Px:p i0)
  (hbody:∀i,p i->WP P N c D x (Exit.then (λa w=>∃i',μ i'<μ i/\p i'/\St N c D (I i') (J i') a w) Q) (I i) (J i)):WP P N c D (.loop x) Q (I i0) (J i0):=by
 intro a w hst b k cs hro hb hr;have key:∀j i,μ i=j->p i->∀a w,St N c D (I i) (J i) a w->
   ∃e a' w',Q e a' w'/\ArrivesIn (Machine.fenced P (FA c.ro)) P (lone (b.atR a (.code x:: .inLoop x::k)) cs w) b k cs e a' w':=by
  intro j
  induction j using Nat.strongRecOn with
  |_ j ih=>
   intro i hi hp a w hst;obtain⟨e,a₁,w₁,hq,ta⟩:=hbody i hp a w hst b (.inLoop x::k) cs hro hb hr;cases e with
   |normal=>obtain⟨i',hlt,hp',adw⟩:=hq;obtain⟨e₂,a₂,w₂,hq₂,W3⟩:=ih (μ i') (hi▸hlt) i' rfl hp' a₁ w₁ adw;exact⟨e₂,a₂,w₂,hq₂, .of_steps (StepsIn.trans ta (.one (fenced_calm hb hr rfl) stepR_inLoop)) W3⟩
   |exit id=>exact⟨_,a₁,w₁,hq, .pass (x:= .inLoop x) rfl (λ_ _ => .inl (by simp)) ta⟩
   |goto l=>exact⟨_,a₁,w₁,hq, .pass (x:= .inLoop x) rfl (λ_ _ => .inl (by simp)) ta⟩
   |ret=>exact⟨_,a₁,w₁,hq, .pass (x:= .inLoop x) rfl (λ_ _ => .inl (by simp)) ta⟩
   |panic ch=>exact⟨_,a₁,w₁,hq, .pass (x:= .inLoop x) rfl (λ_ _ => .inl (by simp)) ta⟩
   |outgrown=>exact⟨_,a₁,w₁,hq, .pass (x:= .inLoop x) rfl (λ_ _ => .inl (by simp)) ta⟩
 obtain⟨e,a',w',hq,ta⟩:=key _ i0 rfl Px a w hst;exact⟨e,a',w',hq, .of_steps (.one (fenced_calm hb hr rfl) stepR_loop) ta⟩
def su(F:eH):List Nat->eH
 |[]=>[]
 |k::r=>match lk F k with
  |some v=>(k,v)::su F r
  |none=>su F r
theorem L3{F:eH}:∀{ks:List Nat} {d:Nat} {v:Value},lk (su F ks) d=some v->d∈ks/\lk F d=some v:=by
 intro ks
 induction ks with
 |nil=>intro d v h;simp[su,lk]at h
 |cons k r ih=>
  intro d v h;simp only[su]at h;split at h
  ·rename_i u hu
   simp only[lk]at h;by_cases e:k=d
   ·subst e;simp at h;subst h;exact⟨by simp,hu⟩
   ·rw[uO e]at h;obtain⟨h1,h2⟩:=ih h;exact⟨by simp[h1],h2⟩
  ·obtain⟨h1,h2⟩:=ih h;exact⟨by simp[h1],h2⟩
inductive Kb(F:eH):List Nat->eH->Prop where
 |nil:Kb F [] []
 |cons {k:Nat} {v:Value} {ks:List Nat} {K:eH} (h:lk F k=some v) (r:Kb F ks K):Kb F (k::ks) ((k,v)::K)
theorem Kb.lk{F:eH}{ks:List Nat}{K:eH}(h:Kb F ks K):∀d v,lk K d=some v->Bw.lk F d=some v:=by
 induction h with
 |nil=>intro d v hd;simp[Bw.lk]at hd
 |@cons k u ks K h r ih=>
  intro d v hd;by_cases e:k=d
  ·subst e;simp[Bw.lk]at hd;subst hd;exact h
  ·simp only[Bw.lk,uO e,cond_false]at hd;exact ih d v hd
theorem L4{I K G:eH}(h1:Sub I G)(h2:∀d v,lk K d=some v->lk G d=some v):∀d v,lk (I++K) d=some v->lk G d=some v:=by
 induction I with
 |nil=>exact h2
 |cons q I ih=>
  obtain⟨k,u⟩:=q;obtain⟨hq,hr⟩:=h1;intro d v hd;by_cases e:k=d
  ·subst e;simp[lk]at hd;subst hd;exact hq
  ·simp only[List.cons_append,lk,uO e,cond_false]at hd;exact ih hr d v hd
def ahY{α:Type}(N:Nat)(c:Cx)(D:List Deferred)(sl:List Nat)(K:eH)(I:α->eH)(J:α->List aE)(p:α->Prop)(μ:α->Nat)(i0:α):Act->World->Prop:=
 λa w=>match sl with|_ =>∃i',μ i'<μ i0/\p i'/\St N c D (I i'++K) (J i') a w
abbrev Se{α:Type}(N:Nat)(c:Cx)(D:List Deferred)(Q:Exit->Act->World->Prop)(sl:List Nat)(K:eH)(I:α->eH)(J:α->List aE)(p:α->Prop)(μ:α->Nat)(i0:α):Exit->Act->World->Prop:=
 Exit.then (ahY N c D sl K I J p μ i0) Q
def ajT{α:Type}(N:Nat)(c:Cx)(D:List Deferred)(sl:List Nat)(K:eH)(I:α->eH)(J:α->List aE)(p:α->Prop):Act->World->Prop:=
 λa w=>match sl with|_ =>∃i,p i/\St N c D (I i++K) (J i) a w
abbrev abt{α:Type}(N:Nat)(c:Cx)(D:List Deferred)(Q:Exit->Act->World->Prop)(sl:List Nat)(K:eH)(I:α->eH)(J:α->List aE)(p:α->Prop):Exit->Act->World->Prop:=
 Exit.then (ajT N c D sl K I J p) Q
theorem X4{α:Type}{x:Code}(sl:List Nat){K:eH}(hK:Kb F sl K)(I:α->eH)(J:α->List aE)(p:α->Prop)(μ:α->Nat)(i0:α)(Px:p i0)(hs:Sub (I i0) F){ks:List Nat}(hk:pick H ks=some (J i0))(hn:ks.Nodup)
  (hbody:∀i,p i->WP P N c D x (Se N c D Q sl K I J p μ i) (I i++K) (J i)):WP P N c D (.loop x) Q F H:=by
 have h0:WP P N c D (.loop x) Q (I i0++K) (J i0):=by exact X5 (λi=>I i++K) J p μ i0 Px hbody
 intro a w hst;exact h0 a w ⟨hst.tm,hst.fr.sub (L4 hs hK.lk),hst.df,hst.si,hst.hp.pick hk hn⟩
theorem XZ{α:Type}{K:eH}{sl:List Nat}{I:α->eH}{J:α->List aE}{p:α->Prop}{μ:α->Nat}{i0:α}(i:α)(hμ:μ i<μ i0)(hp:p i)(hs:Sub (I i) F)(hl:Kb F sl K){ks:List Nat}(hk:pick H ks=some (J i))(hn:ks.Nodup):
  WQ N c D (Se N c D Q sl K I J p μ i0) .normal F H:=
 λ_ _ hst=>⟨i,hμ,hp,hst.tm,hst.fr.sub (L4 hs hl.lk),hst.df,hst.si,hst.hp.pick hk hn⟩
theorem aa9{α:Type}{x y:Code}(sl:List Nat){K:eH}(_ :Kb F sl K)(I:α->eH)(J:α->List aE)(p:α->Prop)
  (h1:WP P N c D x (abt N c D Q sl K I J p) F H)(h2:∀i,p i->WP P N c D y Q (I i++K) (J i)):WP P N c D (.seq x y) Q F H:=
 aeG (λi=>I i++K) J p h1 h2
theorem aa5{α:Type}{K:eH}{sl:List Nat}{I:α->eH}{J:α->List aE}{p:α->Prop}(i:α)(hp:p i)(hs:Sub (I i) F)(hl:Kb F sl K){ks:List Nat}(hk:pick H ks=some (J i))(hn:ks.Nodup):
  WQ N c D (abt N c D Q sl K I J p) .normal F H:=
 λ_ _ hst=>⟨i,hp,hst.tm,hst.fr.sub (L4 hs hl.lk),hst.df,hst.si,hst.hp.pick hk hn⟩
end code
end Go.Bw
namespace Go.Bw
open Go Go.RowKit
def ER:TypeDesc->Bool
 | .struct _ =>true
 | .array _ _ =>true
 |_ =>false
def E3(P:Program)(t n:Nat):Bool:=match P.underlying t,P.info? t with
 |some d,some i=>ER d&&Nat.beq i.size n
 |_,_ =>false
def sC(P:Program)(t:Nat):Bool:=match P.underlying t,P.info? t with
 |some d,some i=> !ER d&&Nat.beq i.size 1
 |_,_ =>false
class ve(P:Program)(t:TypeId)(n:outParam Nat):Prop where
 ok:E3 P t n=true
class qS(P:Program)(t:TypeId):Prop where
 ok:sC P t=true
class R9(P:Program)(t:TypeId)(n:outParam Nat):Prop where
 ok:(P.info? t).map (·.size)=some n
section types
variable {P:Program} {t n:Nat}
theorem ve.get(h:E3 P t n=true):∃d i,P.underlying t=some d/\ER d=true/\P.info? t=some i/\i.size=n:=by
 unfold E3 at h;split at h
 ·rename_i d i h1 h2
  simp only[akg]at h;exact⟨d,i,h1,h.1,h2,akf h.2⟩
 ·cases h
theorem qS.get(h:sC P t=true):∃d i,P.underlying t=some d/\ER d=false/\P.info? t=some i/\i.size=1:=by
 unfold sC at h;split at h
 ·rename_i d i h1 h2
  simp only[akg,Bool.not_eq_true']at h;exact⟨d,i,h1,h.1,h2,akf h.2⟩
 ·cases h
instance(priority:=50) ah7[h:ve P t n]:R9 P t n:=⟨by obtain⟨d,i,_,_,h3,h4⟩:=ve.get h.ok;simp[h3,h4]⟩
instance(priority:=40) ah6[h:qS P t]:R9 P t 1:=⟨by obtain⟨d,i,_,_,h3,h4⟩:=qS.get h.ok;simp[h3,h4]⟩
theorem uo(w:World)[h:ve P t n]:(isAgg t).run P w= .ok true w:=by obtain⟨d,i,h1,h2,_,_⟩:=ve.get h.ok;unfold isAgg;rw[Sem.run_bind,run_underlying h1 w];cases d<;>simp_all[ER]
theorem sx(w:World)[h:qS P t]:(isAgg t).run P w= .ok false w:=by obtain⟨d,i,h1,h2,_,_⟩:=qS.get h.ok;unfold isAgg;rw[Sem.run_bind,run_underlying h1 w];cases d<;>simp_all[ER]
theorem BS(w:World)[h:R9 P t n]:(sizeOf t).run P w= .ok n w:=by
 have:=h.ok;cases hi:P.info? t with
 |none=>simp[hi]at this
 |some i=>simp[hi]at this;simp[sizeOf,typeInfo,hi,this]
end types
class sE(H:List aE)(b:Nat)(T:outParam TypeId)(cs:outParam (List Value)):Prop where
 mem:aE.cells b T cs∈H
instance(priority:=100) afl(b T cs)(H:List aE):sE (.cells b T cs::H) b T cs:=⟨by simp⟩
instance(priority:=50) afb(r:aE)(H:List aE)(b T cs)[h:sE H b T cs]:sE (r::H) b T cs:=⟨by simp[h.mem]⟩
class Gz(H:List aE)(b:Nat)(cs':List Value)(H':outParam (List aE)):Prop where
 ok:∃k T cs,H[k]? =some (.cells b T cs)/\H'=H.set k (.cells b T cs')
instance(priority:=100) afh(b T cs cs')(H:List aE):Gz (.cells b T cs::H) b cs' (.cells b T cs'::H):=⟨0,T,cs,rfl,rfl⟩
instance(priority:=50) aeY(r:aE)(H H':List aE)(b cs')[h:Gz H b cs' H']:Gz (r::H) b cs' (r::H'):=
 ⟨by obtain⟨k,T,cs,h1,h2⟩:=h.ok;exact⟨k+1,T,cs,by simpa using h1,by simp[h2]⟩⟩
class TY(H:List aE)(b:Nat)(o:outParam Obj):Prop where
 mem:aE.obj b o∈H
instance(priority:=100) afk(b o)(H:List aE):TY (.obj b o::H) b o:=⟨by simp⟩
instance(priority:=50) afa(r:aE)(H:List aE)(b o)[h:TY H b o]:TY (r::H) b o:=⟨by simp[h.mem]⟩
class TV(H:List aE)(b:Nat)(o':Obj)(H':outParam (List aE)):Prop where
 ok:∃k o,H[k]? =some (.obj b o)/\H'=H.set k (.obj b o')
instance(priority:=100) afg(b o o')(H:List aE):TV (.obj b o::H) b o' (.obj b o'::H):=⟨0,o,rfl,rfl⟩
instance(priority:=50) aeX(r:aE)(H H':List aE)(b o')[h:TV H b o' H']:TV (r::H) b o' (r::H'):=
 ⟨by obtain⟨k,o,h1,h2⟩:=h.ok;exact⟨k+1,o,by simpa using h1,by simp[h2]⟩⟩
def dO(b off:Nat):Value:= .pointer (some ⟨b,off,none⟩)
attribute [reducible] dO
section ops
variable {P:Program} {N:Nat} {c:Cx} {F:eH} {H:List aE} {d:Option Tmp} {ty:TypeId} {p:String} {af:Array Edge} {g:Option (Nat×Bool)}
theorem cz{x:Operand}{v:Value}(hx:ev F x=some v):VS P N c ⟨d, .move x,ty,p,af,g⟩ F H v:=
 aG (by simp) λa w hf _ _ =>by simp[execOp,aI hf hx]
theorem oZ{x:Operand}{v:Value}(hx:ev F x=some v):VS P N c ⟨d, .assign x,ty,p,af,g⟩ F H v:=
 aG (by simp) λa w hf _ _ =>by simp[execOp,aI hf hx]
theorem Jd{x y:Operand}{b u:Bool}(hx:ev F x=some (.bool b))(hy:ev F y=some (bif b==true then .bool u else undef)):
  VS P N c ⟨d, .pick x y (.const (.bool false)),ty,p,af,g⟩ F H (.bool (b&&u)):=
 aG (by simp) λa w hf _ _ =>by have e1:=aI hf hx;have e2:=aI hf hy;have e3:∀v,a.eval (.const v)=v:=λ_ =>rfl;cases b<;>(try simp at e2)<;>simp[execOp,e1,e2,e3,asBool]
theorem R3{x y:Operand}{b u:Bool}(hx:ev F x=some (.bool b))(hy:ev F y=some (bif b==false then .bool u else undef)):
  VS P N c ⟨d, .pick x (.const (.bool true)) y,ty,p,af,g⟩ F H (.bool (b||u)):=
 aG (by simp) λa w hf _ _ =>by have e1:=aI hf hx;have e2:=aI hf hy;have e3:∀v,a.eval (.const v)=v:=λ_ =>rfl;cases b<;>(try simp at e2)<;>simp[execOp,e1,e2,e3,asBool]
theorem Cd{x:Operand}{b:Bool}(hx:ev F x=some (.bool b)){T:TypeId}:VS P N c ⟨d, .unOp .not T x,ty,p,af,g⟩ F H (.bool (!b)):=
 aG (by simp) λa w hf _ _ =>by simp[execOp,aI hf hx,Op.unary]
section ints
variable {x y:Operand} {k:IntKind} {a b r:Int} {T U:TypeId}
theorem aeU(hx:ev F x=some (.int k a))(hy:ev F y=some (.int k b))(h:k.wrap (a+b)=r):VS P N c ⟨d, .binOp .add T x y U,ty,p,af,g⟩ F H (.int k r):=
 aG (by simp) λa' w hf _ _ =>by simp[execOp,aI hf hx,aI hf hy,eqGuard,binOp,Op.intArith,h]
theorem X9(hx:ev F x=some (.int k a))(hy:ev F y=some (.int k b))(h:k.wrap (a-b)=r):VS P N c ⟨d, .binOp .sub T x y U,ty,p,af,g⟩ F H (.int k r):=
 aG (by simp) λa' w hf _ _ =>by simp[execOp,aI hf hx,aI hf hy,eqGuard,binOp,Op.intArith,h]
theorem aeL(hx:ev F x=some (.int k a))(hy:ev F y=some (.int k b))(h:k.wrap (a*b)=r):VS P N c ⟨d, .binOp .mul T x y U,ty,p,af,g⟩ F H (.int k r):=
 aG (by simp) λa' w hf _ _ =>by simp[execOp,aI hf hx,aI hf hy,eqGuard,binOp,Op.intArith,h]
theorem abl{op:BinOp}{v:Value}(hx:ev F x=some (.int k a))(hy:ev F y=some (.int k b))(ho:(op matches .and| .or| .xor| .andNot)=true)
  (h:∀P w,(Op.intBits op k a b).run P w= .ok v w):VS P N c ⟨d, .binOp op T x y U,ty,p,af,g⟩ F H v:=
 aG (by simp) λa' w hf _ _ =>by cases op<;>simp at ho<;>simp[execOp,aI hf hx,aI hf hy,eqGuard,binOp,h]
theorem aeJ{k':IntKind}(hx:ev F x=some (.int k a))(hy:ev F y=some (.int k' b))(h0:0<=b)(h:k.wrap (a*2^(min b.toNat k.bits))=r):VS P N c ⟨d, .binOp .shl T x y U,ty,p,af,g⟩ F H (.int k r):=
 aG (by simp) λa' w hf _ _ =>by simp[execOp,aI hf hx,aI hf hy,eqGuard,binOp,Op.shift,h,Int.not_lt.2 h0]
theorem aeI{k':IntKind}(hx:ev F x=some (.int k a))(hy:ev F y=some (.int k' b))(h0:0<=b)(h:a.fdiv (2^(min b.toNat k.bits))=r):VS P N c ⟨d, .binOp .shr T x y U,ty,p,af,g⟩ F H (.int k r):=
 aG (by simp) λa' w hf _ _ =>by simp[execOp,aI hf hx,aI hf hy,eqGuard,binOp,Op.shift,h,Int.not_lt.2 h0]
theorem aeS(hx:ev F x=some (.int k a))(hy:ev F y=some (.int k b)):VS P N c ⟨d, .binOp .eql T x y U,ty,p,af,g⟩ F H (.bool (a==b)):=
 aG (by simp) λa' w hf _ _ =>by simp[execOp,aI hf hx,aI hf hy,eqGuard,binOp,Op.intCmp]
theorem aeK(hx:ev F x=some (.int k a))(hy:ev F y=some (.int k b)):VS P N c ⟨d, .binOp .neq T x y U,ty,p,af,g⟩ F H (.bool (a !=b)):=
 aG (by simp) λa' w hf _ _ =>by simp[execOp,aI hf hx,aI hf hy,eqGuard,binOp,Op.intCmp]
theorem aeO(hx:ev F x=some (.int k a))(hy:ev F y=some (.int k b)):VS P N c ⟨d, .binOp .lss T x y U,ty,p,af,g⟩ F H (.bool (decide (a<b))):=
 aG (by simp) λa' w hf _ _ =>by simp[execOp,aI hf hx,aI hf hy,eqGuard,binOp,Op.intCmp]
theorem aeP(hx:ev F x=some (.int k a))(hy:ev F y=some (.int k b)):VS P N c ⟨d, .binOp .leq T x y U,ty,p,af,g⟩ F H (.bool (decide (a<=b))):=
 aG (by simp) λa' w hf _ _ =>by simp[execOp,aI hf hx,aI hf hy,eqGuard,binOp,Op.intCmp]
theorem Yi(hx:ev F x=some (.int k a))(hy:ev F y=some (.int k b)):VS P N c ⟨d, .binOp .gtr T x y U,ty,p,af,g⟩ F H (.bool (decide (b<a))):=
 aG (by simp) λa' w hf _ _ =>by simp[execOp,aI hf hx,aI hf hy,eqGuard,binOp,Op.intCmp]
theorem Qm(hx:ev F x=some (.int k a))(hy:ev F y=some (.int k b)):VS P N c ⟨d, .binOp .geq T x y U,ty,p,af,g⟩ F H (.bool (decide (b<=a))):=
 aG (by simp) λa' w hf _ _ =>by simp[execOp,aI hf hx,aI hf hy,eqGuard,binOp,Op.intCmp]
theorem Yg(hx:ev F x=some (.int k a))(h:k.wrap (0-a)=r):VS P N c ⟨d, .unOp .neg T x,ty,p,af,g⟩ F H (.int k r):=
 aG (by simp) λa' w hf _ _ =>by simp at h;simp[execOp,aI hf hx,Op.unary,Op.intArith,h]
end ints
class Yn(P:Program)(t:TypeId)(k:outParam IntKind):Prop where
 ok:P.underlying t=some (.int k)
class Yo(P:Program)(t:TypeId):Prop where
 ok:P.underlying t=some .bool
theorem R6{x:Operand}{k k':IntKind}{a r:Int}{S T:TypeId}(hx:ev F x=some (.int k a))[hT:Yn P T k'][hS:Yn P S k](h:k'.wrap a=r):
  VS P N c ⟨d, .convert S T x,ty,p,af,g⟩ F H (.int k' r):=
 aG (by simp) λa' w hf _ _ =>by have h1:=run_underlying hT.ok w;have h2:=run_underlying hS.ok w;simp[execOp,aI hf hx,convert,h1,h2,Conv.intToInt,h]
theorem abj{x y:Operand}{a b:Bool}{T U:TypeId}[hT:Yo P T](hx:ev F x=some (.bool a))(hy:ev F y=some (.bool b)):
  VS P N c ⟨d, .binOp .eql T x y U,ty,p,af,g⟩ F H (.bool (a==b)):=
 aG (by simp) λa' w hf _ _ =>by have h1:=run_eql_bool (P:=P) w T a b hT.ok;simp[execOp,aI hf hx,aI hf hy,eqGuard,h1]
theorem abd{x y:Operand}{a b:Bool}{T U:TypeId}[hT:Yo P T](hx:ev F x=some (.bool a))(hy:ev F y=some (.bool b)):
  VS P N c ⟨d, .binOp .neq T x y U,ty,p,af,g⟩ F H (.bool (a !=b)):=
 aG (by simp) λa' w hf _ _ =>by have h1:=run_neq_bool (P:=P) w T a b hT.ok;have e1:=aI hf hx;have e2:=aI hf hy;cases a<;>cases b<;>simp[execOp,e1,e2,eqGuard,h1]
theorem mW{x:Operand}{vs:List Value}{i:Nat}{v:Value}(hx:ev F x=some (.tuple vs.toArray))(hv:vs[i]? =some v):VS P N c ⟨d, .extract x i,ty,p,af,g⟩ F H v:=
 aG (by simp) λa w hf _ _ =>by simp[execOp,aI hf hx,Instr.extract,hv]
def IT(P:Program)(s f off:Nat):Bool:=match P.underlying s with
 |some (.struct fs)=>match fs[f]? with
  |some fl=>Nat.beq fl.offset off&&(match P.info? fl.type with|some i=> !Nat.beq i.size 0|none=>false)
  |none=>false
 |_ =>false
class Gy(P:Program)(s:TypeId)(f:Nat)(off:outParam Nat):Prop where
 ok:IT P s f off=true
theorem Gy.get{s f off:Nat}(h:IT P s f off=true):∃fs fl i,P.underlying s=some (.struct fs)/\fs[f]? =some fl/\fl.offset=off/\P.info? fl.type=some i/\i.size≠0:=by
 unfold IT at h;split at h
 ·rename_i fs h1
  split at h
  ·rename_i fl h2
   split at h
   ·rename_i i h3
    simp only[akg,Bool.not_eq_true']at h;exact⟨fs,fl,i,h1,h2,akf h.1,h3,λe=>by rw[e]at h;exact absurd h.2 (by decide)⟩
   ·simp at h
  ·cases h
 ·cases h
theorem zo{s f fo b off:Nat}[h:Gy P s f fo](w:World):(Instr.fieldAt s (dO b off) f).run P w= .ok (dO b (off+fo)) w:=by obtain⟨fs,fl,i,h1,h2,h3,h4,h5⟩:=Gy.get h.ok;simp[Instr.fieldAt,run_underlying h1,h2,Instr.sureAddr,fieldPlace,sizeOf,typeInfo,h4,h5,Addr.add_lit,h3]
theorem K7{x:Operand}{s f fo b:Nat}[Gy P s f fo](hx:ev F x=some (dO b 0)):VS P N c ⟨d, .fieldAddr s x f,ty,p,af,g⟩ F H (dO b fo):=
 aG (by simp) λa w hf _ _ =>by have:=zo (P:=P) (s:=s) (f:=f) (b:=b) (off:=0) w;rw[Nat.zero_add]at this;simp only[execOp,aI hf hx];simp[this]
theorem DM{x:Operand}{s f fo b off:Nat}[Gy P s f fo](hx:ev F x=some (dO b off)):VS P N c ⟨d, .fieldAddr s x f,ty,p,af,g⟩ F H (dO b (off+fo)):=
 aG (by simp) λa w hf _ _ =>by have:=zo (P:=P) (s:=s) (f:=f) (b:=b) (off:=off) w;simp only[execOp,aI hf hx];simp[this]
def IU(P:Program)(t len e sz:Nat):Bool:=match P.underlying t with
 |some (.array l e')=>Nat.beq l len&&Nat.beq e' e&&(match P.info? e with|some i=>Nat.beq i.size sz|none=>false)
 |_ =>false
class tu(P:Program)(t:TypeId)(len e sz:outParam Nat):Prop where
 ok:IU P t len e sz=true
theorem tu.get{t len e sz:Nat}(h:IU P t len e sz=true):∃i,P.underlying t=some (.array len e)/\P.info? e=some i/\i.size=sz:=by
 unfold IU at h;split at h
 ·rename_i l e' h1
  split at h
  ·rename_i i h3
   simp only[akg]at h;obtain⟨⟨h4,h5⟩,h6⟩:=h;rw[akf h4,akf h5]at h1;exact⟨i,h1,h3,akf h6⟩
  ·simp at h
 ·cases h
def FT(P:Program)(t e sz:Nat):Bool:=match P.underlying t with
 |some (.slice e')=>Nat.beq e' e&&(match P.info? e with|some i=>Nat.beq i.size sz|none=>false)
 |_ =>false
class vD(P:Program)(t:TypeId)(e sz:outParam Nat):Prop where
 ok:FT P t e sz=true
theorem vD.get{t e sz:Nat}(h:FT P t e sz=true):∃i,P.underlying t=some (.slice e)/\P.info? e=some i/\i.size=sz:=by
 unfold FT at h;split at h
 ·rename_i e' h1
  split at h
  ·rename_i i h3
   simp only[akg]at h;obtain⟨h4,h6⟩:=h;rw[akf h4]at h1;exact⟨i,h1,h3,akf h6⟩
  ·simp at h
 ·cases h
theorem AH{x y:Operand}{t len e sz b:Nat}{k:IntKind}{i:Int}{m:Nat}[h:tu P t len e sz](hx:ev F x=some (dO b 0))(hy:ev F y=some (.int k i))(hi:i=(m:Int))(hm:m<len):
  VS P N c ⟨d, .indexAddr t x y,ty,p,af,g⟩ F H (dO b (m*sz)):=
 aG (by simp) λa w hf _ _ =>by obtain⟨inf,h1,h2,h3⟩:=tu.get h.ok;subst hi;simp[execOp,aI hf hx,aI hf hy,Instr.indexAt,asIntOf,run_underlying h1,Instr.sureAddr,sizeOf,typeInfo,h2,h3,Addr.add_lit];intro hle;omega
theorem Oe{x y:Operand}{t len e sz b off:Nat}{k:IntKind}{i:Int}{m:Nat}[h:tu P t len e sz](hx:ev F x=some (dO b off))(hy:ev F y=some (.int k i))(hi:i=(m:Int))(hm:m<len):
  VS P N c ⟨d, .indexAddr t x y,ty,p,af,g⟩ F H (dO b (off+m*sz)):=
 aG (by simp) λa w hf _ _ =>by obtain⟨inf,h1,h2,h3⟩:=tu.get h.ok;subst hi;simp[execOp,aI hf hx,aI hf hy,Instr.indexAt,asIntOf,run_underlying h1,Instr.sureAddr,sizeOf,typeInfo,h2,h3,Addr.add_lit];intro hle;omega
theorem vC{x:Operand}{a:Addr}(hx:ev F x=some (.pointer (some a))):VS P N c ⟨d, .nilCheck x,ty,p,af,g⟩ F H (.pointer (some a)):=
 aG (by simp) λa w hf _ _ =>by simp[execOp,aI hf hx]
theorem q7{w:World}{b T:Nat}{cs:List Value}(h:(aE.cells b T cs).holds w)(j:Nat):w.cell? ⟨b,j,none⟩=cs[j]? :=by have:w.heap[b]? =some (.cells cs.toArray T (0,0)):=h;simp[World.cell?,this]
theorem lq{t:TypeId}{a:Addr}{v:Value}{w:World}[qS P t](h:w.cell? a=some v):(loadVar t a).run P w= .ok v w:=by simp[loadVar,sx,load,Sem.run,h]
theorem lu{t:TypeId}{b off n:Nat}{vs:List Value}{w:World}[ve P t n](hl:vs.length=n)(h:∀(j:Nat) v,vs[j]? =some v->w.cell? ⟨b,off+j,none⟩=some v):
  (loadVar t ⟨b,off,none⟩).run P w= .ok (.agg vs.toArray) w:=by
 have hl':(loadCells ⟨b,off,none⟩ vs.length).run P w= .ok vs.toArray w:=
  run_loadCells_list (P:=P) w ⟨b,off,none⟩ vs (λj v hv=>by rw[Addr.add_lit];exact h j v hv)
 have hs:(sizeOf t).run P w= .ok n w:=BS w;simp[loadVar,Sem.run_bind,uo,hs, ← hl,hl']
theorem tn{x:Operand}{t b off T:Nat}{cs:List Value}{v:Value}(hx:ev F x=some (dO b off))[hr:sE H b T cs][qS P t](hv:cs[off]? =some v):VS P N c ⟨d, .load t x,ty,p,af,g⟩ F H v:=
 aG (by simp) λa w hf _ hp=>by have:=lq (P:=P) (t:=t) (a:=⟨b,off,none⟩) ((q7 (hp.holds _ hr.mem) off).trans hv);simp[execOp,aI hf hx,Instr.loadAt,Instr.sureAddr,this]
theorem Ce{x:Operand}{t b T n:Nat}{cs:List Value}(hx:ev F x=some (dO b 0))[hr:sE H b T cs][ve P t n](hl:cs.length=n):VS P N c ⟨d, .load t x,ty,p,af,g⟩ F H (.agg cs.toArray):=
 aG (by simp) λa w hf _ hp=>by have:=lu (P:=P) (t:=t) (b:=b) (off:=0) (w:=w) hl (λj v hv=>by rw[Nat.zero_add,q7 (hp.holds _ hr.mem)];exact hv);simp[execOp,aI hf hx,Instr.loadAt,Instr.sureAddr,this]
theorem F3{x:Operand}{t b off T n:Nat}{cs vs:List Value}(hx:ev F x=some (dO b off))[hr:sE H b T cs][ve P t n](hv:(cs.drop off).take n=vs)(hl:vs.length=n):VS P N c ⟨d, .load t x,ty,p,af,g⟩ F H (.agg vs.toArray):=
 aG (by simp) λa w hf _ hp=>by
  have:=lu (P:=P) (t:=t) (b:=b) (off:=off) (w:=w) hl (λj v hj=>by
   rw[q7 (hp.holds _ hr.mem)];rw[← hv,List.getElem?_take]at hj;split at hj
   ·rwa[List.getElem?_drop]at hj
   ·cases hj)
  simp[execOp,aI hf hx,Instr.loadAt,Instr.sureAddr,this]
def bX(cs:List Value)(off:Nat)(vs:List Value):List Value:=cs.take off++vs++cs.drop (off+vs.length)
def o9(vs:List Value):Prop:=∀v∈vs,v.oneCell'=true
theorem sw{t b off T n:Nat}{cs vs:List Value}{v:Value}{w:World}[R9 P t n](h:(aE.cells b T cs).holds w)(hv:v.cells.toList=vs)(hl:vs.length=n)(ho:off+n<=cs.length)(h1:o9 vs):
  ∃w',(storeVar t ⟨b,off,none⟩ v).run P w= .ok () w'/\(aE.cells b T (bX cs off vs)).holds w'/\aQ [b] w w':=by
 have hb:w.heap[b]? =some (.cells cs.toArray T (0,0)):=h;have hst:=run_storeCells_at P b off T vs 0 cs.toArray w hb (by simp;omega) h1;simp only[Nat.add_zero]at hst;have hs:(sizeOf t).run P w= .ok n w:=BS w;have hsz:v.cells.size=n:=by rw[← hl, ← hv];simp
 refine⟨w.setRow b (bX cs off vs).toArray,?_,?_,?_⟩
 ·simp only[storeVar,Sem.run_bind,hs,Result.andThen_ok,hsz,hv,ne_eq,not_true_eq_false,if_false]
  exact hst
 ·have:=setRow_heap w b cs.toArray (bX cs off vs).toArray T (0,0) hb
  simpa[aE.holds,bX]using this
 ·exact⟨rfl,rfl,rfl,by simp,λk _ hk=>setRow_other w b k _ (by simpa using hk)⟩
theorem bH.acK{bs:List Nat}{n0 b:Nat}{H H':List aE}{cs':List Value}{w w':World}(h:bH bs n0 H w)(hs:Gz H b cs' H')(hw:aQ [b] w w')(hn:n0<=w.heap.size)
  (hc:∀T cs,(aE.cells b T cs).holds w->(aE.cells b T cs').holds w'):bH bs n0 H' w':=by
 obtain⟨k,T,cs,hk,rfl⟩:=hs.ok;have hm:aE.cells b T cs∈H:=List.mem_of_getElem? hk;refine h.set hk hw.size (λj hj hne=>hw.block j hj hne) (hc T cs (h.holds _ hm)) hn (λb' hb'=>?_);have e:b'=b:=by simpa[aE.cI]using hb'
 subst e;exact⟨.inl (by simp[aE.cI]),Nat.lt_of_lt_of_le (h.own _ hm b' (by simp[aE.cI])).2 hw.size⟩
theorem aQ.store{bs:List Nat}{w0 w w':World}{H:List aE}{r:aE}{b:Nat}(h:aQ bs w0 w)(hp:bH bs w0.heap.size H w)(hm:r∈H)(hb:b∈r.cI)(hw:aQ [b] w w'):aQ bs w0 w':=
 h.trans hw (λx hx=>by simp at hx;subst hx;exact(hp.own r hm _ hb).1)
theorem FW{w:World}{b T T':Nat}{cs cs':List Value}(h:(aE.cells b T cs).holds w)(h':(aE.cells b T' cs').holds w):T=T'/\cs=cs':=by have h1:w.heap[b]? =some (.cells cs.toArray T (0,0)):=h;have h2:w.heap[b]? =some (.cells cs'.toArray T' (0,0)):=h';rw[h1]at h2;simp at h2;exact⟨h2.2,h2.1⟩
variable {D:List Deferred} {ops:Array Oper} {Q:Exit->Act->World->Prop} {rest:List Oper}
theorem rP{x y:Operand}{t b off T n:Nat}{cs vs cs':List Value}{v:Value}{H':List aE}(hx:ev F x=some (dO b off))(hy:ev F y=some v)[hr:sE H b T cs][R9 P t n]
  (hv:v.cells.toList=vs)(hl:vs.length=n)(ho:off+n<=cs.length)(h1:o9 vs)(hc:bX cs off vs=cs')[hs:Gz H b cs' H']:
  RX (α:=Unit) P N c ⟨d, .store t x y,ty,p,af,g⟩ F H (λ_ =>True) (λ_ =>undef) (λ_ =>H'):=λD a w next Q hst hk=>by
 obtain⟨w',e1,e2,e3⟩:=sw (P:=P) (t:=t) (off:=off) (hst.hp.holds _ hr.mem) hv hl ho h1;refine oU (by simp) (w':=w') ?_ (hk () w' trivial (hst.si.store hst.hp hr.mem (by simp[aE.cI]) e3) (hst.hp.acK hs e3 hst.si.size ?_))
 ·simp[execOp,aI hst.fr hx,aI hst.fr hy,Instr.storeAt,Instr.sureAddr,e1]
 ·intro T' aem hT
  have:=FW (hst.hp.holds _ hr.mem) hT;obtain⟨rfl,rfl⟩:=this;rw[← hc];exact e2
def bT(P:Program)(t:Nat):Option (List Value):=(P.info? t).bind λi=>i.zero.map λz=>z.cells.toList
class jH(P:Program)(t:TypeId)(cs:outParam (List Value)):Prop where
 ok:bT P t=some cs
theorem jH.get{t:Nat}{cs:List Value}(h:bT P t=some cs):∃i z,P.info? t=some i/\i.zero=some z/\z.cells.toList=cs:=by
 unfold bT at h;cases hi:P.info? t with
 |none=>simp[hi]at h
 |some i=>
  cases hz:i.zero with
  |none=>simp[hi,hz]at h
  |some z=>simp[hi,hz]at h;exact⟨i,z,rfl,hz,h⟩
theorem bH.box{bs:List Nat}{n0:Nat}{H:List aE}{w:World}(h:bH bs n0 H w)(t:TypeId)(cs:List Value)(hn:n0<=w.heap.size):bH bs n0 (.cells w.heap.size t cs::H) (w.alloc (.cells cs.toArray t)):=
 h.fresh (aQ.alloc _ _) (by show(w.heap.push _)[w.heap.size]? =_;simp) hn (λb hb=>by
  have e:b=w.heap.size:=by simpa[aE.cI]using hb
  subst e;exact⟨Nat.le_refl _,by simp⟩)
theorem Qo{x:Operand}{t:Nat}{v:Value}{cs:List Value}(hx:ev F x=some v)(hc:v.cells.toList=cs):
  RX P N c ⟨d, .box t x,ty,p,af,g⟩ F H (λ_ =>True) (λb=>dO b 0) (λb=> .cells b t cs::H):=λD a w next Q hst hk=>by
 refine ew (by simp) (w':=w.alloc (.cells cs.toArray t)) ?_ (hk w.heap.size _ trivial (hst.si.ext (aQ.alloc _ _)) (hst.hp.box t cs hst.si.size));subst hc;simp[execOp,aI hst.fr hx,Instr.box,newVar,newRow,newObj,Sem.run]
theorem Sc{x:Operand}{t:Nat}{cs:List Value}(hx:ev F x=some (.agg cs.toArray)):
  RX P N c ⟨d, .box t x,ty,p,af,g⟩ F H (λ_ =>True) (λb=>dO b 0) (λb=> .cells b t cs::H):=Qo hx rfl
theorem Ag{t:Nat}{cs:List Value}[hz:jH P t cs]:
  RX P N c ⟨d, .alloc t,ty,p,af,g⟩ F H (λ_ =>True) (λb=>dO b 0) (λb=> .cells b t cs::H):=λD a w next Q hst hk=>by
 refine ew (by simp) (w':=w.alloc (.cells cs.toArray t)) ?_ (hk w.heap.size _ trivial (hst.si.ext (aQ.alloc _ _)) (hst.hp.box t cs hst.si.size));obtain⟨i,z,h1,h2,rfl⟩:=jH.get hz.ok;simp[execOp,Instr.alloc,zeroValue,typeInfo,h1,h2,newVar,newRow,newObj,Sem.run]
theorem rO{fn:Fn}{cap:List Operand}{vs:List Value}(hc:D3 F cap=some vs):VS P N c ⟨d, .makeFunc fn #[] cap.toArray,ty,p,af,g⟩ F H (.func fn #[] vs.toArray):=
 aG (by simp) λa w hf _ _ =>by simp[execOp,Instr.makeFunc,Mr hf hc]
end ops
end Go.Bw
namespace Go.Bw
open Go Go.RowKit
def bF(H:List aE):List Nat:=H.flatMap aE.cI
structure Fn{α:Type}(P:Program)(f:Nat)(args:List Value)(pre:World->Prop)(nc:List aE)(p:α->Prop)(fv:α->Value)(fH:α->List aE):Prop where
 enter:∀args w,(callFunc f args).run P w= .ok (.enter f args) w
 calls:∀w,pre w->bH (bF nc) w.heap.size nc w->Calls P f args.toArray w λe w'=>∃x,p x/\e= .returned (fv x)/\aQ (bF nc) w w'/\bH (bF nc) w.heap.size (fH x) w'
abbrev FnV(P:Program)(f:Nat)(args:List Value)(v:Value):Prop:=Fn (α:=Unit) P f args (λ_ =>True) [] (λ_ =>True) (λ_ =>v) (λ_ =>[])
abbrev FnW(P:Program)(f:Nat)(args:List Value)(pre:World->Prop)(v:Value):Prop:=Fn (α:=Unit) P f args pre [] (λ_ =>True) (λ_ =>v) (λ_ =>[])
inductive v8(P:Program)(F:eH)(H:List aE):List ResultVar->List Value->Prop where
 |nil:v8 P F H [] []
 |tmp {t:Nat} {v:Value} {rs:List ResultVar} {vs:List Value} (hv:lk F t=some v) (h:v8 P F H rs vs):v8 P F H (.tmp t::rs) (v::vs)
 |agg {t ty b T n:Nat} {cs:List Value} {rs:List ResultVar} {vs:List Value} (hv:lk F t=some (dO b 0)) (hr:sE H b T cs) (ht:ve P ty n) (hl:cs.length=n) (h:v8 P F H rs vs):v8 P F H (.cell t ty::rs) (.agg cs.toArray::vs)
 |one {t ty b T:Nat} {v:Value} {cs:List Value} {rs:List ResultVar} {vs:List Value} (hv:lk F t=some (dO b 0)) (hr:sE H b T cs) (ht:qS P ty) (hl:cs=[v]) (h:v8 P F H rs vs):v8 P F H (.cell t ty::rs) (v::vs)
def BT:List Value->Value
 |[v]=>v
 |vs=> .tuple vs.toArray
def ux(t:Array Value):ResultVar->Sem Value
 | .tmp k=>pure (t.getD k undef)
 | .cell a ty=>do loadVar ty (← asAddr (t.getD a undef))
theorem FB{P:Program}{fn:Func}{F:eH}{H:List aE}{rs:List ResultVar}{vs:List Value}{t:Array Value}{bs:List Nat}{n0:Nat}{w:World}(hf:fn.results.toList=rs)(hF:yN F t)(hp:bH bs n0 H w)(h:v8 P F H rs vs):
  (results fn t).run P w= .ok (BT vs) w:=by
 have get:∀{k:Nat} {v:Value},t[k]? =some v->t.getD k undef=v:=λh=>by simp[h]
 have key:∀{rs vs},v8 P F H rs vs->(rs.mapM (ux t)).run P w= .ok vs w:=by
  intro rs vs h
  induction h with
  |nil=>simp
  |tmp hv h ih=>have h1:ux t (.tmp _)=pure _ :=congrArg pure (get (hF _ _ hv));simp only[List.mapM_cons,Sem.run_bind,h1,Sem.run_pure,Result.andThen_ok,ih]
  |@agg t' ty b T n cs rs' vs' hv hr ht hl h ih=>have h1:=get (hF _ _ hv);have h2:=lu (P:=P) (t:=ty) (off:=0) (w:=w) hl (λj v hv=>by rw[Nat.zero_add,q7 (hp.holds _ hr.mem)];exact hv);simp only[List.mapM_cons,Sem.run_bind,ux,h1,asAddr,Sem.run_pure,h2,Result.andThen_ok,ih]
  |@one t' ty b T v cs rs' vs' hv hr ht hl h ih=>have h1:=get (hF _ _ hv);subst hl;have h2:=lq (P:=P) (t:=ty) (a:=⟨b,0,none⟩) (v:=v) ((q7 (hp.holds _ hr.mem) 0).trans rfl);simp only[List.mapM_cons,Sem.run_bind,ux,h1,asAddr,Sem.run_pure,h2,Result.andThen_ok,ih]
 have hr:fn.results=rs.toArray:=by rw[← hf]
 have hk:=key h;show(do let vs ← fn.results.mapM (ux t);pure (if h:vs.size=1 then vs[0]else .tuple vs):Sem Value).run P w=_;rw[hr,List.mapM_toArray];simp only[Sem.run_bind,Sem.run_map,hk,Result.andThen_ok]
 match vs with
 |[]=>simp[BT]
 |[v]=>simp[BT]
 |u::v::r=>simp[BT]
def acd{α:Type}(c:Cx)(p:α->Prop)(fv:α->Value)(fH:α->List aE):Ending->World->Prop:=λe w'=>∃x,p x/\e= .returned (fv x)/\aQ c.bs c.w0 w'/\bH c.bs c.w0.heap.size (fH x) w'
def Post{α:Type}(P:Program)(c:Cx)(fn:Func)(p:α->Prop)(fv:α->Value)(fH:α->List aE):Exit->Act->World->Prop:=bodyPostM (FA none) 0 P fn (acd c p fv fH)
section
variable {α:Type} {P:Program} {N:Nat} {c:Cx} {fn:Func} {p:α->Prop} {fv:α->Value} {fH:α->List aE} {F:eH} {H:List aE}
theorem KQ{a:Act}{w:World}{vs:List Value}{rs:List ResultVar}(hst:St N c [] F H a w)(x:α)(hf:fn.results.toList=rs)(hr:v8 P F H rs vs)(hp:p x)(hv:BT vs=fv x){ks:List Nat}
  (hk:pick H ks=some (fH x))(hn:ks.Nodup):LeavesInM (FA none) 0 P fn a.tmps (acd c p fv fH) [] .returning w:=
 ⟨_,FB hf hst.fr hst.hp hr,x,hp,by rw[hv],hst.si,hst.hp.pick hk hn⟩
theorem Aa(x:α){vs:List Value}{rs:List ResultVar}(hf:fn.results.toList=rs)(hr:v8 P F H rs vs)(hp:p x)(hv:BT vs=fv x){ks:List Nat}(hk:pick H ks=some (fH x))(hn:ks.Nodup):
  WQ N c [] (Post P c fn p fv fH) .ret F H:=λa w hst=>by
 show LeavesInM (FA none) 0 P fn a.tmps _ a.defers .returning w;rw[hst.df];exact KQ hst x hf hr hp hv hk hn
theorem X2(x:α){vs:List Value}{rs:List ResultVar}(hf:fn.results.toList=rs)(hr:v8 P F H rs vs)(hp:p x)(hv:BT vs=fv x){ks:List Nat}(hk:pick H ks=some (fH x))(hn:ks.Nodup):
  WQ N c [] (Post P c fn p fv fH) .normal F H:=λa w hst=>by
 show LeavesInM (FA none) 0 P fn a.tmps _ a.defers .returning w;rw[hst.df];exact KQ hst x hf hr hp hv hk hn
def mark(d:Nat):Deferred:={target:= .collected d,args:= #[]}
end
def wO:Nat->List Value->eH
 |_,[]=>[]
 |i,v::r=>(i,v)::wO (i+1) r
theorem Z4:∀(args:List Value) (i d:Nat) (v:Value),lk (wO i args) d=some v->i<=d/\args[d-i]? =some v:=by
 intro args
 induction args with
 |nil=>intro i d v h;simp[wO,lk]at h
 |cons u r ih=>
  intro i d v h;simp only[wO,lk]at h;by_cases e:i=d
  ·subst e;simp at h;subst h;simp
  ·rw[uO e]at h
   obtain⟨h1,h2⟩:=ih (i+1) d v h;exact⟨by omega,by rw[show d-i=(d-(i+1))+1 from by omega];simpa using h2⟩
theorem uH{α:Type}{P:Program}{f:Nat}{fn:Func}{code:Code}{N:Nat}{args:List Value}{pre:World->Prop}{nc:List aE}{p:α->Prop}{fv:α->Value}{fH:α->List aE}
  (hf:P.funcs[f]? =some fn)(hname:(fn.name== "runtime.NumGoroutine")=false)(hb:fn.body=some code)(hN:fn.ntmps=N)(ha:Nat.ble args.length N=true)
  (h:∀c:Cx,c.bs=bF nc->pre c.w0->c.ro=none->WP P N c [] code (Post P c fn p fv fH) (wO 0 args) nc):Fn P f args pre nc p fv fH:=by
 refine⟨λargs w=>?_,λw hw hH=>?_⟩
 ·have h1:fn.name≠ "runtime.NumGoroutine" :=by simpa using hname
  simp[callFunc,hf,h1,hb,Go.mark]
 ·refine(callsIn_wide (n:=0)).1 (callsIn_of_wp_marks (F:=Fence.wide) hf hb trivial ?_)
  refine h ⟨none,w,bF nc⟩ rfl hw rfl _ w ⟨?_,?_,rfl,aQ.refl _ _,hH⟩
  ·have:=Nat.le_of_ble_eq_true ha
   simp;omega
  ·intro d v hd
   obtain⟨_,h2⟩:=Z4 args 0 d v hd;simp only[Nat.sub_zero]at h2;have hlt:=(List.getElem?_eq_some_iff.1 h2).1;rw[Array.getElem?_append_left (by simpa using hlt)];simpa using h2
section
variable {α:Type} {P:Program} {N:Nat} {c:Cx} {F:eH} {H:List aE} {d:Option Tmp} {ty:TypeId} {ps:String} {af:Array Edge} {g:Option (Nat×Bool)}
theorem jN{P:Program}{f:Nat}{args:Array Value}{w:World}{R:Ending->World->Prop}(ro:Option Nat)(h:Calls P f args w R):CallsIn (FA ro) 0 P f args w R:=
 ⟨trivial,λcs _ =>by
  obtain⟨e,w',fr,r,s,x⟩:=((callsIn_wide (n:=0)).2 h).2 cs (room_wide _);exact⟨e,w',fr,r,s,x⟩⟩
theorem Yz{x:Operand}{args:List Operand}{ats:Array TypeId}{f:Nat}{fst cap:Array Value}{us vs:List Value}{pre:World->Prop}{p:α->Prop}{fv:α->Value}{fH:α->List aE}
  (hc:Fn P f vs pre [] p fv fH)(hx:ev F x=some (.func (.func f) fst cap))(ha:D3 F args=some us)(hv:fst.toList++us++cap.toList=vs)
  (hpre:∀w,aQ c.bs c.w0 w->bH c.bs c.w0.heap.size H w->pre w):
  RX P N c ⟨d, .call ⟨.value x,args.toArray,ats⟩,ty,ps,af,g⟩ F H p fv (λi=>fH i++H):=λD a w next Q hst hk=>by
 refine⟨λ_ _ =>trivial,?_⟩;have hs:Oper.semAt (FA c.ro).round a.eval (⟨d, .call ⟨.value x,args.toArray,ats⟩,ty,ps,af,g⟩:Oper)=execOp a.eval ⟨d, .call ⟨.value x,args.toArray,ats⟩,ty,ps,af,g⟩:=Oper.semAt_eq _ _ _ (by simp);have hr:(execOp a.eval ⟨d, .call ⟨.value x,args.toArray,ats⟩,ty,ps,af,g⟩).run P w= .ok (.enter f vs.toArray) w:=by
  have e1:=aI hst.fr hx;have e2:=Mr hst.fr ha;have e3:fst++(args.toArray.map a.eval)++cap=vs.toArray:=by rw[← hv, ← e2];simp
  simp only[execOp,resolve,e1,Deferred.ofValue,Sem.run_bind,Sem.run_pure,Result.andThen_ok,invoke,e3];exact hc.enter _ _
 rw[hs,hr];refine⟨λh=>by simp at h,jN c.ro ?_⟩;have uF:=hc.calls w (hpre w hst.si hst.hp) (bH.nil _ _ _);intro cs;obtain⟨e,w',fr,⟨i,hp,he,hsi,hh⟩,rest⟩:=uF cs;refine⟨e,w',fr,?_,rest⟩;subst he;refine hk i w' hp (hst.si.ext hsi) ?_;have hH:=hst.hp.ext hsi;refine⟨λr hm=>?_,λr hm b hb=>?_,?_⟩
 ·rcases List.mem_append.1 hm with h1|h1
  ·exact hh.holds r h1
  ·exact hH.holds r h1
 ·rcases List.mem_append.1 hm with h1|h1
  ·obtain⟨o,l⟩:=hh.own r h1 b hb
   simp[bF]at o;exact⟨.inr (Nat.le_trans hst.si.size o),l⟩
  ·exact hH.own r h1 b hb
 ·refine List.pairwise_append.2 ⟨hh.apart,hH.apart,λr h1 s h2 b hb Q9=>?_⟩
  have l:=(hst.hp.own s h2 b Q9).2;obtain⟨o,_⟩:=hh.own r h1 b hb;simp[bF]at o;omega
theorem Sb{args:List Operand}{ats:Array TypeId}{f:Nat}{vs:List Value}{pre:World->Prop}{p:α->Prop}{fv:α->Value}{fH:α->List aE}
  (hc:Fn P f vs pre [] p fv fH)(ha:D3 F args=some vs)(hpre:∀w,aQ c.bs c.w0 w->bH c.bs c.w0.heap.size H w->pre w):
  RX P N c ⟨d, .call ⟨.value (.func f),args.toArray,ats⟩,ty,ps,af,g⟩ F H p fv (λi=>fH i++H):=
 Yz (fst:= #[]) (cap:= #[]) (us:=vs) hc rfl ha (by simp) hpre
theorem MF{args:List Operand}{ats:Array TypeId}{f:Nat}{vs:List Value}{v:Value}{pre:World->Prop}(hc:FnW P f vs pre v)(ha:D3 F args=some vs)(hpre:∀w,aQ c.bs c.w0 w->bH c.bs c.w0.heap.size H w->pre w):
  VS P N c ⟨d, .call ⟨.value (.func f),args.toArray,ats⟩,ty,ps,af,g⟩ F H v:=λD a w next Q hst hk=>by
 refine⟨λ_ _ =>trivial,?_⟩;have hs:Oper.semAt (FA c.ro).round a.eval (⟨d, .call ⟨.value (.func f),args.toArray,ats⟩,ty,ps,af,g⟩:Oper)=execOp a.eval ⟨d, .call ⟨.value (.func f),args.toArray,ats⟩,ty,ps,af,g⟩:=Oper.semAt_eq _ _ _ (by simp);have hr:(execOp a.eval ⟨d, .call ⟨.value (.func f),args.toArray,ats⟩,ty,ps,af,g⟩).run P w= .ok (.enter f vs.toArray) w:=by
  have e2:=Mr hst.fr ha;have e1:a.eval (.func f)= .func (.func f) #[] #[]:=rfl;have e3: #[]++(args.toArray.map a.eval)++ #[]=vs.toArray:=by rw[← e2];simp
  simp only[execOp,resolve,e1,Deferred.ofValue,Sem.run_bind,Sem.run_pure,Result.andThen_ok,invoke,e3];exact hc.enter _ _
 rw[hs,hr];refine⟨λh=>by simp at h,jN c.ro ?_⟩;have uF:=hc.calls w (hpre w hst.si hst.hp) (bH.nil _ _ _);intro cs;obtain⟨e,w',fr,⟨i,hp,he,hsi,hh⟩,rest⟩:=uF cs;refine⟨e,w',fr,?_,rest⟩;subst he;exact hk w' hsi
end
end Go.Bw
namespace Go.Bw
open Go Go.RowKit
theorem KP{F:eH}:∀{ks:List Nat} {d:Nat} {v:Value},d∈ks->lk F d=some v->lk (su F ks) d=some v:=by
 intro ks
 induction ks with
 |nil=>intro d v h;simp at h
 |cons k r ih=>
  intro d v h hl;simp only[su];by_cases e:k=d
  ·subst e;rw[hl];simp[lk]
  ·have hm:d∈r:=by simpa[Ne.symm e]using h
   split
   ·simp only[lk,uO e,cond_false];exact ih hm hl
   ·exact ih hm hl
section
variable (ops:Array Oper)
def A3(i:Nat):List Nat:=match ops[i]? with
 |some o=>(o.after.toList.filter λe=>Region.binds .any e).map (·.on)
 |none=>[]
def qx(i:Nat):Option Nat:=(ops[i]?).bind (·.dst)
end
variable {P:Program} {N:Nat} {c:Cx} {D:List Deferred} {ops:Array Oper} {Q:Exit->Act->World->Prop}
def VG(P:Program)(N:Nat)(c:Cx)(ops:Array Oper)(o:Oper)(F:eH)(H:List aE)(v:Value):Prop:=∀D a w next Q,St N c D F H a w->(∀w',aQ [] w w'->next (a.put o.dst v) w')->if Region.wanted o (yielded ops a.tmps)then o.wpIn (FA c.ro) 0 P a w next Q else next (a.put o.dst undef) w
theorem Ym{o:Oper}{F:eH}{H:List aE}{v:Value}(hg:o.guard=none)(h:VS P N c o F H v):VG P N c ops o F H v:=λD a w next Q hst hk=>by simp only[Region.wanted,hg,if_true];exact h D a w next Q hst hk
def RG{α:Type}(P:Program)(N:Nat)(c:Cx)(ops:Array Oper)(o:Oper)(F:eH)(H:List aE)(p:α->Prop)(fv:α->Value)(fH:α->List aE):Prop:=∀D a w next Q,St N c D F H a w->(∀x w',p x->aQ c.bs c.w0 w'->bH c.bs c.w0.heap.size (fH x) w'->next (a.put o.dst (fv x)) w')->if Region.wanted o (yielded ops a.tmps)then o.wpIn (FA c.ro) 0 P a w next Q else next (a.put o.dst undef) w
theorem ahX{α:Type}{o:Oper}{F:eH}{H:List aE}{p:α->Prop}{fv:α->Value}{fH:α->List aE}(hg:o.guard=none)(h:RX P N c o F H p fv fH):RG P N c ops o F H p fv fH:=λD a w next Q hst hk=>by simp only[Region.wanted,hg,if_true];exact h D a w next Q hst hk
def RQ{α:Type}(P:Program)(N:Nat)(c:Cx)(D:List Deferred)(ops:Array Oper)(Q:Exit->Act->World->Prop)(o:Oper)(F:eH)(H:List aE)(p:α->Prop)(fv:α->Value)(fH:α->List aE):Prop:=∀a w next,St N c D F H a w->(∀x w',p x->aQ c.bs c.w0 w'->bH c.bs c.w0.heap.size (fH x) w'->next (a.put o.dst (fv x)) w')->if Region.wanted o (yielded ops a.tmps)then o.wpIn (FA c.ro) 0 P a w next Q else next (a.put o.dst undef) w
abbrev Fl:=Nat×List Nat
def DN(P:Program)(N:Nat)(c:Cx)(ops:Array Oper)(F:eH)(H:List aE):List Fl->Prop
 |[]=>True
 |(i,ks)::r=>(∃o d v,ops[i]? =some o/\o.dst=some d/\lk F d=some v/\VG P N c ops o (su F ks) H v)/\DN P N c ops F H r
def rR(P:Program)(N:Nat)(c:Cx)(ops:Array Oper)(H:List aE):List Fl->eH->(eH->Prop)->Prop
 |[],F,K=>K F
 |(i,ks)::r,F,K=>∃o d v,ops[i]? =some o/\o.dst=some d/\Nat.blt d N=true/\VG P N c ops o (su F ks) H v/\rR P N c ops H r ((d,v)::F) K
inductive Tr where
 |fin (re new:List Fl)
 |Sy (re new:List Fl) (t:Tr)
 |alt (s:Nat) (ks:List Nat) (here iH:Tr)
 |no
def Tr.alts:Tr->List Nat
 | .alt s _ _ iH=>s::iH.alts
 |_ =>[]
def Tr.Kl:Tr->Bool
 | .fin _ _ =>true
 | .Sy _ _ _ =>true
 |_ =>false
def Hq(P:Program)(N:Nat)(c:Cx)(D:List Deferred)(ops:Array Oper)(Q:Exit->Act->World->Prop):Tr->eH->List aE->Prop
 | .fin re new,F,H=>DN P N c ops F H re/\rR P N c ops H new F λF'=>WQ N c D Q .normal F' H
 | .Sy re new t,F,H=>DN P N c ops F H re/\rR P N c ops H new F λF'=>Hq P N c D ops Q t F' H
 | .alt s ks here iH,F,H=>(∃(o:Oper) (α:Type) (p:α->Prop) (fv:α->Value) (fH:α->List aE),ops[s]? =some o/\dOk N o.dst=true/\RQ P N c D ops Q o (su F ks) H p fv fH/\∀x,p x->Hq P N c D ops Q here (pt o.dst (fv x) F) (fH x))/\Hq P N c D ops Q iH F H
 | .no,_,_ =>True
def RU(ops:Array Oper)(s:Nat):List Nat:=(List.range s).reverse.foldl (λGt j=>if(A3 ops s).contains j||Gt.any (λk=>(A3 ops k).contains j)then j::Gt else Gt) []
def wN(ops:Array Oper)(pu:List Nat)(i d:Nat):Bool:=pu.all λj=> !(qx ops j==some d)||(A3 ops i).contains j
def EL(ops:Array Oper)(pu:List Nat):(seen:List Nat)->List Fl->Bool
 |_,[]=>true
 |seen,(i,ks)::r=>(A3 ops i).all seen.contains&& !seen.contains i&&pu.contains i&&ks.all (wN ops pu i)&&EL ops pu (i::seen) r
def V0(ops:Array Oper)(pu:List Nat):Tr->(en yB sX:List Nat)->Bool
 | .fin re new,en,yB,sX=>yB.all (re.map (·.1)).contains&&re.all (λq=>q.2.all (wN ops pu q.1))&&EL ops pu (en++sX) new&&
   (List.range ops.size).all λi=>en.contains i||(new.map (·.1)).contains i||sX.contains i
 | .Sy re new t,en,yB,sX=>
  yB.all (re.map (·.1)).contains&&re.all (λq=>q.2.all (wN ops pu q.1))&&EL ops pu (en++sX) new&&
  (List.range ops.size).all (λi=>t.alts.contains i||(new.map (·.1)).contains i||en.contains i||sX.contains i||(A3 ops i).any λj=> !((new.map (·.1)).contains j||en.contains j||sX.contains j))&&
  !t.alts.isEmpty&&V0 ops pu t (en++new.map (·.1)) (yB++new.map (·.1)) sX
 | .alt s ks here iH,en,yB,sX=>ks.all (wN ops pu s)&& !pu.contains s&& !sX.contains s&&here.Kl&&V0 ops pu here en (yB.filter λi=> !(RU ops s).contains i) (s::sX)&&V0 ops pu iH en yB sX
 | .no,_,_,_ =>true
def T6(ops:Array Oper)(pu:List Nat):Bool:=(List.range ops.size).all (λi=>(A3 ops i).all λj=>Nat.blt j i)&& pu.all λj=>(List.range ops.size).all λi=>i==j|| !(qx ops i==qx ops j)||(qx ops j).isNone
def Ky:Tr->List Nat
 | .fin _ new=>new.map (·.1)
 | .Sy _ new t=>new.map (·.1)++Ky t
 | .alt _ _ here iH=>Ky here++Ky iH
 | .no=>[]
def abI(ops:Array Oper)(t:Tr):Bool:=t.Kl&&T6 ops (Ky t)&&V0 ops (Ky t) t [] [] []
def dn(l:Array Bool)(j:Nat):Prop:=l.getD j false=true
theorem gT{l:Array Bool}{i j:Nat}(hi:i<l.size):dn (l.setIfInBounds i true) j↔dn l j\/j=i:=by
 unfold dn;simp only[Array.getD_eq_getD_getElem?,Array.getElem?_setIfInBounds];by_cases e:i=j
 ·subst e;simp[hi]
 ·simp[e,Ne.symm e]
theorem wH{l:Array Bool}{i:Nat}(hs:l.size=ops.size):i∈Region.ready .any ops l↔i<ops.size/\¬dn l i/\∀j∈A3 ops i,dn l j:=by
 unfold Region.ready dn A3;simp only[List.mem_filter,List.mem_range,akg,Bool.not_eq_true'];constructor
 ·rintro⟨h1,h2,h3⟩
  have hi:i<l.size:=by omega
  refine⟨h1,?_,?_⟩
  ·simp[Array.getD_eq_getD_getElem?,hi]at h2 ⊢;exact h2
  ·cases ho:ops[i]? with
   |none=>simp
   |some o=>simp only[ho,Option.map_some,Option.getD_some,Array.all_eq_true']at h3;simp only[List.mem_map,List.mem_filter];rintro j ⟨e,⟨he,hb⟩,rfl⟩;have:=h3 e (by simpa using he);simpa[hb]using this
 ·rintro⟨h1,h2,h3⟩
  have hi:i<l.size:=by omega
  have ho:ops[i]? =some ops[i]:=Array.getElem?_eq_getElem h1;refine⟨h1,?_,?_⟩
  ·simp[Array.getD_eq_getD_getElem?,hi]at h2 ⊢;exact h2
  ·simp only[ho,Option.map_some,Option.getD_some,Array.all_eq_true']
   simp only[ho,List.mem_map,List.mem_filter]at h3;intro e he;cases hb:Region.binds .any e with
   |false=>simp
   |true=>simp only[Bool.not_true,Bool.false_or];exact h3 e.on ⟨e,⟨by simpa using he,hb⟩,rfl⟩
theorem XP{l:Array Bool}{s:Nat}(rX:∀j,dn l j->∀k∈A3 ops j,dn l k)(hs:∀j∈A3 ops s,dn l j):∀j∈RU ops s,dn l j:=by
 have key:∀(L:List Nat) (Gt:List Nat),(∀j∈Gt,dn l j)->∀j∈L.foldl (λGt j=>if(A3 ops s).contains j||Gt.any (λk=>(A3 ops k).contains j)then j::Gt else Gt) Gt,dn l j:=by
  intro L
  induction L with
  |nil=>intro Gt h;exact h
  |cons x L ih=>
   intro Gt h;simp only[List.foldl_cons];refine ih _ ?_;split
   ·rename_i hc
    intro j hj;rcases List.mem_cons.1 hj with rfl|hj
    ·simp only[Bool.or_eq_true,List.contains_eq_mem,decide_eq_true_eq,List.any_eq_true]at hc
     rcases hc with hc|⟨k,hk,hc⟩
     ·exact hs _ hc
     ·exact rX k (h k hk) _ hc
    ·exact h j hj
   ·exact h
 exact key _ [] (by simp)
structure Inv(P:Program)(N:Nat)(c:Cx)(D:List Deferred)(ops:Array Oper)(pu en pn sX:List Nat)(l:Array Bool)(F:eH)(H:List aE)(a:Act)(w:World):Prop where
 size:l.size=ops.size
 seen:∀j,dn l j->j∈en\/j∈sX
 sp:∀j∈sX,dn l j
 yB:∀j∈en,¬dn l j->j∈pn
 Tw:∀j∈en,j∈pu
 gk:∀j∈en,∀k∈A3 ops j,k∈en\/k∈sX
 tm:a.tmps.size=N
 df:a.defers=D
 si:aQ c.bs c.w0 w
 hp:bH c.bs c.w0.heap.size H w
 cl:∀j,dn l j->∀k∈A3 ops j,dn l k
 fr:∀d v,lk F d=some v->(∀j∈en,qx ops j=some d->dn l j)->a.tmps[d]? =some v
def abn(P:Program)(N:Nat)(c:Cx)(ops:Array Oper)(pu:List Nat)(F:eH)(H:List aE)(j:Nat):Prop:=∃ks o d v,ops[j]? =some o/\o.dst=some d/\Nat.blt d N=true/\lk F d=some v/\VG P N c ops o (su F ks) H v/\∀k∈ks,wN ops pu j k=true
theorem Inv.st{pu en pn sX:List Nat}{l:Array Bool}{F:eH}{H:List aE}{a:Act}{w:World}(h:Inv P N c D ops pu en pn sX l F H a w){i:Nat}{ks:List Nat}(hk:∀k∈ks,wN ops pu i k=true)
  (hr:∀j∈A3 ops i,dn l j):St N c D (su F ks) H a w:=by
 refine⟨h.tm,λd v hd=>?_,h.df,h.si,h.hp⟩;obtain⟨h1,h2⟩:=L3 hd;refine h.fr d v h2 λj hj Gp=>?_;have:=hk d h1;simp only[wN,List.all_eq_true,Bool.or_eq_true,Bool.not_eq_true',List.contains_eq_mem,decide_eq_true_eq]at this;rcases this j (h.Tw j hj)with h3|h3
 ·rw[Gp]at h3;simp at h3
 ·exact hr j h3
theorem Nj{pu:List Nat}(h:T6 ops pu=true){i j:Nat}(hi:i<ops.size)(hj:j∈A3 ops i):j<i:=by simp only[T6,akg,List.all_eq_true,List.mem_range]at h;have:=h.1 i hi j hj;simpa[Nat.blt_eq]using this
theorem QO{pu:List Nat}(h:T6 ops pu=true){i j d:Nat}(hj:j∈pu)(hi:qx ops i=some d)(hd:qx ops j=some d):i=j:=by
 simp only[T6,akg,List.all_eq_true,List.mem_range]at h;have hlt:i<ops.size:=by
  unfold qx at hi;cases ho:ops[i]? with
  |none=>simp[ho]at hi
  |some o=>exact(akl.1 ho).1
 have:=h.2 j hj i hlt;rw[hi,hd]at this;simpa using this
theorem DC{i:Nat}{o:Oper}{d:Nat}(ho:ops[i]? =some o)(hd:o.dst=some d):qx ops i=some d:=by simp[qx,ho,hd]
theorem SV{pu:List Nat}(hD:T6 ops pu=true){H:List aE}{K:eH->Prop}:∀{new:List Fl} {seen:List Nat} {F:eH},rR P N c ops H new F K->EL ops pu seen new=true->
  ∃F2,K F2/\(∀i∈new.map (·.1),i∈pu/\i∉seen)/\
   (∀d,(∀j∈new.map (·.1),qx ops j≠some d)->lk F2 d=lk F d)/\
   (∀i∈new.map (·.1),abn P N c ops pu F2 H i)/\(∀i∈new.map (·.1),∀k∈A3 ops i,k∈seen\/k∈new.map (·.1)):=by
 intro new
 induction new with
 |nil=>intro seen F h _;exact⟨F,h,by simp,by simp,by simp,by simp⟩
 |cons q r ih=>
  obtain⟨i,ks⟩:=q;intro seen F h hc;obtain⟨o,d,v,ho,hd,hN,hv,hn⟩:=h;simp only[EL,akg,Bool.not_eq_true',List.all_eq_true,List.contains_eq_mem,decide_eq_true_eq,decide_eq_false_iff_not]at hc;obtain⟨⟨⟨⟨h1,h2⟩,h3⟩,h4⟩,h5⟩:=hc;obtain⟨F2,k1,k2,k3,k4,k5⟩:=ih hn h5;have hdi:=DC ho hd;refine⟨F2,k1,?_,?_,?_,?_⟩
  ·intro j hj
   rcases List.mem_cons.1 hj with rfl|hj
   ·exact⟨h3,h2⟩
   ·obtain⟨e1,e2⟩:=k2 j hj
    exact⟨e1,λhm=>e2 (by simp[hm])⟩
  ·intro d' hd'
   rw[k3 d' (λj hj=>hd' j (by simp only[List.map_cons];exact akp _ hj))];have:¬d=d':=λe=>hd' i (by simp) (by rw[hdi,e]);simp[lk,uO this]
  ·intro j hj
   rcases List.mem_cons.1 hj with rfl|hj
   ·refine⟨ks,o,d,v,ho,hd,hN,?_,?_,h4⟩
    ·rw[k3 d (λj hj Gp=>by
      have:=QO hD (k2 j hj).1 hdi Gp;exact(k2 j hj).2 (by simp[← this]))]
     simp[lk]
    ·intro D' a w next Q' hst hk
     refine hv D' a w next Q' (hst.sub λd' v' hl=>?_) hk
     obtain⟨e1,e2⟩:=L3 hl;refine KP e1 ?_;rw[k3 d' (λj hj Gp=>by
      have hkk:=h4 d' e1;simp only[wN,List.all_eq_true,Bool.or_eq_true,Bool.not_eq_true',List.contains_eq_mem,decide_eq_true_eq]at hkk;rcases hkk j (k2 j hj).1 with h6|h6
      ·rw[Gp]at h6;simp at h6
      ·exact(k2 j hj).2 (by simp[h1 j h6]))]
     have:¬d=d':=λe=>by
      have hkk:=h4 d' e1;simp only[wN,List.all_eq_true,Bool.or_eq_true,Bool.not_eq_true',List.contains_eq_mem,decide_eq_true_eq]at hkk;rcases hkk j h3 with h6|h6
      ·rw[hdi,e]at h6;simp at h6
      ·exact h2 (h1 j h6)
     simp only[lk,uO this,cond_false];exact e2
   ·exact k4 j hj
  ·intro j hj k hk
   rcases List.mem_cons.1 hj with rfl|hj
   ·exact .inl (h1 k hk)
   ·rcases k5 j hj k hk with h6|h6
    ·rcases List.mem_cons.1 h6 with rfl|h6
     ·exact .inr (by simp)
     ·exact .inl h6
    ·exact .inr (by simp only[List.map_cons];exact akp _ h6)
theorem Vq{F:eH}{H:List aE}:∀{re:List Fl} {i:Nat},DN P N c ops F H re->i∈re.map (·.1)->∃ks o d v,(i,ks)∈re/\ops[i]? =some o/\o.dst=some d/\lk F d=some v/\VG P N c ops o (su F ks) H v:=by
 intro re
 induction re with
 |nil=>intro i _ hi;simp at hi
 |cons q r ih=>
  obtain⟨j,ks⟩:=q;intro i h hi;obtain⟨⟨o,d,v,h1,h2,h3,h4⟩,h5⟩:=h;rcases List.mem_cons.1 hi with rfl|hi
  ·exact⟨ks,o,d,v,by simp,h1,h2,h3,h4⟩
  ·obtain⟨ks',o',d',v',e1,e2⟩:=ih h5 hi
   exact⟨ks',o',d',v',by simp[e1],e2⟩
def afe(P:Program)(N:Nat)(c:Cx)(D:List Deferred)(ops:Array Oper)(Q:Exit->Act->World->Prop)(pu:List Nat)(en pn sX:List Nat)(F:eH)(H:List aE):Prop:=((∀i,i<ops.size->i∈en\/i∈sX)/\WQ N c D Q .normal F H)\/ ∃t:Tr,Hq P N c D ops Q t F H/\V0 ops pu t en pn sX=true/\t.alts≠[]/\(∀i,i<ops.size->i∈t.alts\/i∈en\/i∈sX\/∃j∈A3 ops i,j∉en/\j∉sX)
theorem RW{pu en pn sX:List Nat}{F:eH}{H:List aE}{i:Nat}:∀{t:Tr},i∈t.alts->Hq P N c D ops Q t F H->V0 ops pu t en pn sX=true->
  ∃(ks:List Nat) (o:Oper) (α:Type) (p:α->Prop) (fv:α->Value) (fH:α->List aE) (r:Tr),ops[i]? =some o/\dOk N o.dst=true/\RQ P N c D ops Q o (su F ks) H p fv fH/\(∀x,p x->Hq P N c D ops Q r (pt o.dst (fv x) F) (fH x))/\
   (∀k∈ks,wN ops pu i k=true)/\i∉pu/\i∉sX/\r.Kl=true/\V0 ops pu r en (pn.filter λj=> !(RU ops i).contains j) (i::sX)=true:=by
 intro t
 induction t with
 |fin re new=>intro h;simp[Tr.alts]at h
 |Sy re new t _ =>intro h;simp[Tr.alts]at h
 |no=>intro h;simp[Tr.alts]at h
 |alt s ks here iH _ ih=>
  intro h hs hc;obtain⟨h1,h2⟩:=hs;simp only[V0,akg,Bool.not_eq_true',List.all_eq_true]at hc;obtain⟨⟨⟨⟨⟨c1,c2⟩,c3⟩,c4⟩,c5⟩,c6⟩:=hc;rcases List.mem_cons.1 h with rfl|h
  ·obtain⟨o,α,p,fv,fH,e1,e2,e3,e4⟩:=h1
   exact⟨ks,o,α,p,fv,fH,here,e1,e2,e3,e4,c1,by simpa using c2,by simpa using c3,c4,c5⟩
  ·exact ih h h2 c6
theorem ac5{i:Nat}{d:Nat}(h:qx ops i=some d):i<ops.size:=by
 unfold qx at h;cases ho:ops[i]? with
 |none=>simp[ho]at h
 |some o=>exact(akl.1 ho).1
theorem enter{pu:List Nat}(hD:T6 ops pu=true){en yB sX:List Nat}{l:Array Bool}{F:eH}{H:List aE}{a:Act}{w:World}{st:Tr}(hst:st.Kl=true)
  (hI:Inv P N c D ops pu en yB sX l F H a w)(hN:∀j∈en,∀d,qx ops j=some d->Nat.blt d N=true)(hs:Hq P N c D ops Q st F H)(hc:V0 ops pu st en yB sX=true):
  ∃YT pn2 F2,Inv P N c D ops pu YT pn2 sX l F2 H a w/\(∀j∈YT,∀d,qx ops j=some d->Nat.blt d N=true)/\(∀j∈YT,¬dn l j->abn P N c ops pu F2 H j)/\afe P N c D ops Q pu YT pn2 sX F2 H:=by
 have key:∀{re new:List Fl} {K:eH->Prop},DN P N c ops F H re->rR P N c ops H new F K->(∀j∈yB,j∈re.map (·.1))->(∀q∈re,∀k∈q.2,wN ops pu q.1 k=true)->EL ops pu (en++sX) new=true->
   ∃F2,K F2/\Inv P N c D ops pu (en++new.map (·.1)) (yB++new.map (·.1)) sX l F2 H a w/\(∀j∈en++new.map (·.1),∀d,qx ops j=some d->Nat.blt d N=true)/\(∀j∈en++new.map (·.1),¬dn l j->abn P N c ops pu F2 H j):=by
  intro re new K hre hnew hp hk hch;obtain⟨F2,k1,k2,k3,k4,k5⟩:=SV hD hnew hch;refine⟨F2,k1,⟨hI.size,?_,hI.sp,?_,?_,?_,hI.tm,hI.df,hI.si,hI.hp,hI.cl,?_⟩,?_,?_⟩
  ·intro j hj;rcases hI.seen j hj with h|h
   ·exact .inl (by simp[h])
   ·exact .inr h
  ·intro j hj uU
   rcases List.mem_append.1 hj with h|h
   ·exact akk _ (hI.yB j h uU)
   ·exact akj _ h
  ·intro j hj
   rcases List.mem_append.1 hj with h|h
   ·exact hI.Tw j h
   ·exact(k2 j h).1
  ·intro j hj k hk'
   rcases List.mem_append.1 hj with h|h
   ·rcases hI.gk j h k hk' with h1|h1
    ·exact .inl (by simp[h1])
    ·exact .inr h1
   ·rcases k5 j h k hk' with h1|h1
    ·rcases List.mem_append.1 h1 with h2|h2
     ·exact .inl (by simp[h2])
     ·exact .inr h2
    ·exact .inl (akj _ h1)
  ·intro d v hl hdn
   by_cases hex:∃j∈new.map (·.1),qx ops j=some d
   ·obtain⟨j,hj,Gp⟩:=hex
    have h1:=hdn j (akj _ hj) Gp;exact absurd (hI.seen j h1) (λh2=>(k2 j hj).2 (by rcases h2 with h2|h2<;>simp[h2]))
   ·rw[k3 d (λj hj Gp=>hex ⟨j,hj,Gp⟩)]at hl
    exact hI.fr d v hl (λj hj Gp=>hdn j (akk _ hj) Gp)
  ·intro j hj d Gp
   rcases List.mem_append.1 hj with h|h
   ·exact hN j h d Gp
   ·obtain⟨ks,o,d',v,e1,e2,e3,_⟩:=k4 j h
    have:=DC e1 e2;rw[Gp]at this;cases this;exact e3
  ·intro j hj uU
   rcases List.mem_append.1 hj with h|h
   ·obtain⟨ks,o,d,v,e0,e1,e2,e3,e4⟩:=Vq hre (hp j (hI.yB j h uU))
    have Gp:=DC e1 e2;have hkk:∀k∈ks,wN ops pu j k=true:=λk hk'=>hk _ e0 k hk';refine⟨ks,o,d,v,e1,e2,hN j h d Gp,?_,?_,hkk⟩
    ·rw[k3 d (λj' hj' adM=>by
      have:=QO hD (k2 j' hj').1 Gp adM;subst this;exact(k2 _ hj').2 (by simp[h]))]
     exact e3
    ·intro D' a' w' next Q' hst hk'
     refine e4 D' a' w' next Q' (hst.sub λd' v' hl=>?_) hk'
     obtain⟨f1,f2⟩:=L3 hl;refine KP f1 ?_;rw[k3 d' (λj' hj' adM=>by
      have hq:=hkk d' f1;simp only[wN,List.all_eq_true,Bool.or_eq_true,Bool.not_eq_true',List.contains_eq_mem,decide_eq_true_eq]at hq;rcases hq j' (k2 j' hj').1 with h6|h6
      ·rw[adM]at h6;simp at h6
      ·refine(k2 j' hj').2 ?_
       rcases hI.gk j h j' h6 with h7|h7<;>simp[h7])]
     exact f2
   ·exact k4 j h
 cases st with
 |no=>simp[Tr.Kl]at hst
 |alt _ _ _ _ =>simp[Tr.Kl]at hst
 |fin re new=>
  obtain⟨hre,hnew⟩:=hs;simp only[V0,akg,List.all_eq_true,List.contains_eq_mem,decide_eq_true_eq,List.mem_range,Bool.or_eq_true]at hc;obtain⟨⟨⟨c1,c2⟩,c3⟩,c4⟩:=hc;obtain⟨F2,k1,k2,k3,k4⟩:=key hre hnew c1 c2 c3;exact⟨_,_,F2,k2,k3,k4, .inl ⟨λi hi=>by
   rcases c4 i hi with(h|h)|h
   ·exact .inl (by simp[h])
   ·exact .inl (akj _ h)
   ·exact .inr h,k1⟩⟩
 |Sy re new t=>
  obtain⟨hre,hnew⟩:=hs;simp only[V0,akg,List.all_eq_true,List.contains_eq_mem,decide_eq_true_eq,List.mem_range,Bool.or_eq_true,Bool.not_eq_true',List.any_eq_true]at hc;obtain⟨⟨⟨⟨⟨c1,c2⟩,c3⟩,c7⟩,c6⟩,c8⟩:=hc;obtain⟨F2,k1,k2,k3,k4⟩:=key hre hnew c1 c2 c3;refine⟨_,_,F2,k2,k3,k4, .inr ⟨t,k1,c8,λe=>by simp[e]at c6,λi hi=>?_⟩⟩;rcases c7 i hi with(((h|h)|h)|h)|h
  ·exact .inl h
  ·exact .inr (.inl (akj _ h))
  ·exact .inr (.inl (by simp[h]))
  ·exact .inr (.inr (.inl h))
  ·obtain⟨j,hj,hn⟩:=h
   refine .inr (.inr (.inr ⟨j,hj,λhm=>?_,λhm=>?_⟩))
   ·rcases List.mem_append.1 hm with h1|h1
    ·simp[h1]at hn
    ·have h1':decide (j∈new.map (·.1))=true:=akh h1
     rw[h1']at hn;simp at hn
   ·simp[hm]at hn
theorem Oa{pu:List Nat}(hD:T6 ops pu=true){l:Array Bool}(hs:l.size=ops.size)(hr:Region.ready .any ops l=[]):∀i,i<ops.size->dn l i:=by
 intro i
 induction i using Nat.strongRecOn with
 |_ i ih=>
  intro hi;by_cases hd:dn l i
  ·exact hd
  ·have:i∈Region.ready .any ops l:=(wH hs).2 ⟨hi,hd,λj hj=>ih j (Nj hD hi hj) (Nat.lt_trans (Nj hD hi hj) hi)⟩
   rw[hr]at this;simp at this
def uf(ops:Array Oper)(l:Array Bool):Nat:=((List.range ops.size).filter λi=> !l.getD i false).length
theorem Tq{p q:Nat->Bool}(h:∀x,q x=true->p x=true):∀(L:List Nat),(L.filter q).length<=(L.filter p).length:=by
 intro L
 induction L with
 |nil=>simp
 |cons x L ih=>
  by_cases hq:q x=true
  ·simp[hq,h x hq,ih]
  ·by_cases hp:p x=true
   ·simp[hq,hp];omega
   ·simp[hq,hp,ih]
theorem Tp{p q:Nat->Bool}(h:∀x,q x=true->p x=true){i:Nat}(hp:p i=true)(hq:q i=false):∀(L:List Nat),i∈L->(L.filter q).length<(L.filter p).length:=by
 intro L
 induction L with
 |nil=>intro hi;simp at hi
 |cons x L ih=>
  intro hi;by_cases e:i=x
  ·subst e
   have:=Tq h L;simp[hp,hq];omega
  ·have hi':i∈L:=by simpa[e]using hi
   have:=ih hi';by_cases hqx:q x=true
   ·simp[hqx,h x hqx];omega
   ·by_cases hpx:p x=true
    ·simp[hqx,hpx];omega
    ·simp[hqx,hpx];omega
theorem HJ{l:Array Bool}{i:Nat}(hs:l.size=ops.size)(hi:i<ops.size)(hd:¬dn l i):uf ops (l.setIfInBounds i true)<uf ops l:=by
 unfold uf;have yE:i<l.size:=by omega
 refine Tp (i:=i) (λx hx=>?_) ?_ ?_ _ (by simpa using hi)
 ·have h1:¬dn (l.setIfInBounds i true) x:=by simpa[dn]using hx
  have h2:¬dn l x:=λh=>h1 ((gT yE).2 (.inl h));simpa[dn]using h2
 ·simpa[dn]using hd
 ·have:dn (l.setIfInBounds i true) i:=(gT yE).2 (.inr rfl)
  simpa[dn]using this
theorem Sw{pu:List Nat}(hD:T6 ops pu=true):∀(fuel:Nat) (l:Array Bool) (a:Act) (w:World) (en pn sX:List Nat) (F:eH) (H:List aE),uf ops l<=fuel->
  Inv P N c D ops pu en pn sX l F H a w->(∀j∈en,∀d,qx ops j=some d->Nat.blt d N=true)->(∀j∈en,¬dn l j->abn P N c ops pu F H j)->afe P N c D ops Q pu en pn sX F H->
  wpAnyIn (FA c.ro) 0 P .any ops Q fuel l a w:=by
 intro fuel;have Xn:∀(l:Array Bool) (a:Act) (w:World) (en pn sX:List Nat) (F:eH) (H:List aE),Inv P N c D ops pu en pn sX l F H a w->afe P N c D ops Q pu en pn sX F H->(∀i,i<ops.size->dn l i)->Q .normal a w:=by
  intro l a w en pn sX F H hI hC BZ;rcases hC with⟨_,hq⟩|⟨t,hst,hok,hne,_⟩
  ·refine hq a w ⟨hI.tm,λd v hl=>hI.fr d v hl λj _ Gp=>BZ j (ac5 Gp),hI.df,hI.si,hI.hp⟩
  ·obtain⟨s,hs⟩:=List.exists_mem_of_ne_nil _ hne
   obtain⟨ks,o,α,p,fv,fH,r,e1,_,_,_,_,e5,e6,_,_⟩:=RW hs hst hok;have hlt:=(akl.1 e1).1;rcases hI.seen s (BZ s hlt)with h|h
   ·exact absurd (hI.Tw s h) e5
   ·exact absurd h e6
 induction fuel with
 |zero=>
  intro l a w en pn sX F H hu hI hN hV hC;have BZ:∀i,i<ops.size->dn l i:=λi hi=>by unfold uf at hu;have h0:(List.range ops.size).filter (λi=> !l.getD i false)=[]:=List.length_eq_zero_iff.1 (by omega);rw[List.filter_eq_nil_iff]at h0;have:=h0 i (by simpa using hi);simpa[dn]using this
  refine⟨?_,Xn l a w en pn sX F H hI hC BZ⟩;cases hr:Region.ready .any ops l with
  |nil=>rfl
  |cons i r=>
   have:i∈Region.ready .any ops l:=by rw[hr];simp
   obtain⟨h1,h2,_⟩:=(wH hI.size).1 this;exact absurd (BZ i h1) h2
 |succ fuel ih=>
  intro l a w en pn sX F H hu hI hN hV hC;refine⟨λhr=>Xn l a w en pn sX F H hI hC (Oa hD hI.size hr),λi hi=>?_⟩;obtain⟨h1,h2,h3⟩:=(wH hI.size).1 hi;have yE:i<l.size:=by rw[hI.size];exact h1
  have hu':uf ops (l.setIfInBounds i true)<=fuel:=by have:=HJ hI.size h1 h2;omega
  have ahn:∀j,dn (l.setIfInBounds i true) j->∀k∈A3 ops j,dn (l.setIfInBounds i true) k:=λj hj k hk=>by
   rcases(gT yE).1 hj with h|rfl
   ·exact(gT yE).2 (.inl (hI.cl j h k hk))
   ·exact(gT yE).2 (.inl (h3 k hk))
  by_cases hen:i∈en
  ·
   obtain⟨ks,o,d,v,e1,e2,e3,e4,e5,e6⟩:=hV i hen h2;have hst:=hI.st (i:=i) e6 h3;have hdi:=DC e1 e2;have step:=e5 D a w (wpAnyIn (FA c.ro) 0 P .any ops Q fuel (l.setIfInBounds i true)) Q hst;have nxt:∀w',aQ [] w w'->wpAnyIn (FA c.ro) 0 P .any ops Q fuel (l.setIfInBounds i true) (a.put o.dst v) w':=by
    intro w' hw;refine ih _ _ _ en pn sX F H hu' ⟨by simp[hI.size],?_,?_,?_,hI.Tw,hI.gk,?_,?_,hI.si.ext hw,hI.hp.ext hw,ahn,?_⟩ hN ?_ hC
    ·intro j hj
     rcases(gT yE).1 hj with h|rfl
     ·exact hI.seen j h
     ·exact .inl hen
    ·intro j hj;exact(gT yE).2 (.inl (hI.sp j hj))
    ·intro j hj uU;exact hI.yB j hj λh=>uU ((gT yE).2 (.inl h))
    ·rw[e2];simp[Act.put,hI.tm]
    ·rw[e2];simp[Act.put,hI.df]
    ·intro d' v' hl hdn
     rw[e2];have hdN:d<a.tmps.size:=by rw[hI.tm];simpa[Nat.blt_eq]using e3
     by_cases e:d=d'
     ·subst e
      rw[e4]at hl;cases hl;simp[Act.put,hdN]
     ·simp only[Act.put,Array.getElem?_setIfInBounds,ake e]
      refine hI.fr d' v' hl λj hj Gp=>?_;rcases(gT yE).1 (hdn j hj Gp)with h|rfl
      ·exact h
      ·rw[hdi]at Gp;cases Gp;exact absurd rfl e
    ·intro j hj uU
     exact hV j hj λh=>uU ((gT yE).2 (.inl h))
   have step:=step nxt;unfold wpOpIn;simp only[e1];split
   ·rename_i hw;simp only[hw,if_true]at step;exact step
   ·rename_i hw;simp only[hw]at step;exact⟨λ_ _ =>trivial,step⟩
  ·
   have hsp:i∉sX:=λh=>h2 (hI.sp i h);rcases hC with⟨BZ,_⟩|⟨t,aje,hok,_,e8⟩
   ·rcases BZ i h1 with h|h
    ·exact absurd h hen
    ·exact absurd h hsp
   ·have his:i∈t.alts:=by
     rcases e8 i h1 with h|h|h|⟨j,hj,h4,h5⟩
     ·exact h
     ·exact absurd h hen
     ·exact absurd h hsp
     ·rcases hI.seen j (h3 j hj)with h|h
      ·exact absurd h h4
      ·exact absurd h h5
    obtain⟨ks,o,α,p,fv,fH,r,e1,e2,e3,e4,e5,e6,e7,e10,e9⟩:=RW his aje hok;have hst:=hI.st (i:=i) e5 h3;have step:=e3 a w (wpAnyIn (FA c.ro) 0 P .any ops Q fuel (l.setIfInBounds i true)) hst;have nxt:∀x w',p x->aQ c.bs c.w0 w'->bH c.bs c.w0.heap.size (fH x) w'->wpAnyIn (FA c.ro) 0 P .any ops Q fuel (l.setIfInBounds i true) (a.put o.dst (fv x)) w':=by
     intro x w' hp hsi hhp;have hI':Inv P N c D ops pu en (pn.filter λj=> !(RU ops i).contains j) (i::sX) (l.setIfInBounds i true) (pt o.dst (fv x) F) (fH x) (a.put o.dst (fv x)) w':=by
      refine⟨by simp[hI.size],?_,?_,?_,hI.Tw,?_,?_,?_,hsi,hhp,ahn,?_⟩
      ·intro j hj
       rcases(gT yE).1 hj with h|rfl
       ·rcases hI.seen j h with h|h
        ·exact .inl h
        ·exact .inr (by simp[h])
       ·exact .inr (by simp)
      ·intro j hj
       rcases List.mem_cons.1 hj with rfl|h
       ·exact(gT yE).2 (.inr rfl)
       ·exact(gT yE).2 (.inl (hI.sp j h))
      ·intro j hj uU
       have ahc:¬dn l j:=λh=>uU ((gT yE).2 (.inl h));simp only[List.mem_filter,Bool.not_eq_true',List.contains_eq_mem,decide_eq_false_iff_not];exact⟨hI.yB j hj ahc,λhm=>ahc (XP hI.cl h3 j hm)⟩
      ·intro j hj k hk
       rcases hI.gk j hj k hk with h|h
       ·exact .inl h
       ·exact .inr (by simp[h])
      ·cases o.dst<;>simp[Act.put,hI.tm]
      ·cases o.dst<;>simp[Act.put,hI.df]
      ·intro d v hl hdn
       have old:lk F d=some v->a.tmps[d]? =some v:=λhl'=>hI.fr d v hl' λj hj Gp=>by
        rcases(gT yE).1 (hdn j hj Gp)with h|rfl
        ·exact h
        ·exact absurd (hI.Tw _ hj) e6
       cases ho:o.dst with
       |none=>rw[ho]at hl;exact old hl
       |some k=>
        rw[ho]at hl e2;have hkN:k<a.tmps.size:=by rw[hI.tm];simpa[dOk,Nat.blt_eq]using e2
        simp only[pt,lk]at hl;by_cases e:k=d
        ·subst e;simp at hl;subst hl;simp[Act.put,hkN]
        ·rw[uO e]at hl
         simp only[Act.put,Array.getElem?_setIfInBounds,ake e];exact old hl
     obtain⟨YT,pn2,F2,k1,k2,k3,k4⟩:=enter hD e10 hI' hN (e4 x hp) e9;exact ih _ _ _ YT pn2 (i::sX) F2 (fH x) hu' k1 k2 k3 k4
    have step:=step nxt;unfold wpOpIn;simp only[e1];split
    ·rename_i hw;simp only[hw,if_true]at step;exact step
    ·rename_i hw;simp only[hw]at step;exact⟨λ_ _ =>trivial,step⟩
section
variable {F:eH} {H:List aE}
theorem Oj:DN P N c ops F H []:=trivial
theorem Ld{i:Nat}{ks:List Nat}{r:List Fl}{d:Nat}{v:Value}{op:Op}{ty:TypeId}{ps:String}{af:Array Edge}{g:Option (Nat×Bool)}(ho:ops[i]? =some ⟨some d,op,ty,ps,af,g⟩)(hl:lk F d=some v)(hv:VG P N c ops ⟨some d,op,ty,ps,af,g⟩ (su F ks) H v)(hr:DN P N c ops F H r):
  DN P N c ops F H ((i,ks)::r):=⟨⟨_,d,v,ho,rfl,hl,hv⟩,hr⟩
theorem wV{K:eH->Prop}(h:K F):rR P N c ops H [] F K:=h
theorem Cn{i:Nat}{ks:List Nat}{r:List Fl}{K:eH->Prop}{d:Nat}{v:Value}{op:Op}{ty:TypeId}{ps:String}{af:Array Edge}{g:Option (Nat×Bool)}(ho:ops[i]? =some ⟨some d,op,ty,ps,af,g⟩)(hN:Nat.blt d N=true)
  (hv:VG P N c ops ⟨some d,op,ty,ps,af,g⟩ (su F ks) H v)(hr:rR P N c ops H r ((d,v)::F) K):rR P N c ops H ((i,ks)::r) F K:=⟨_,d,v,ho,rfl,hN,hv,hr⟩
theorem MG{re new:List Fl}{t:Tr}(h1:DN P N c ops F H re)(h2:rR P N c ops H new F λF'=>Hq P N c D ops Q t F' H):Hq P N c D ops Q (.Sy re new t) F H:=⟨h1,h2⟩
theorem Yp{s:Nat}{ks:List Nat}{here iH:Tr}{d:Nat}{op:Op}{ty:TypeId}{ps:String}{af:Array Edge}{g:Option (Nat×Bool)}{α:Type}{p:α->Prop}{fv:α->Value}{fH:α->List aE}
  (ho:ops[s]? =some ⟨some d,op,ty,ps,af,g⟩)(hN:Nat.blt d N=true)(hv:RG P N c ops ⟨some d,op,ty,ps,af,g⟩ (su F ks) H p fv fH)(h:∀x,p x->Hq P N c D ops Q here ((d,fv x)::F) (fH x))(hm:Hq P N c D ops Q iH F H):Hq P N c D ops Q (.alt s ks here iH) F H:=
 ⟨⟨_,α,p,fv,fH,ho,hN,λa w next=>hv D a w next Q,h⟩,hm⟩
theorem Yq{s:Nat}{ks:List Nat}{here iH:Tr}{op:Op}{ty:TypeId}{ps:String}{af:Array Edge}{g:Option (Nat×Bool)}{α:Type}{p:α->Prop}{fv:α->Value}{fH:α->List aE}
  (ho:ops[s]? =some ⟨none,op,ty,ps,af,g⟩)(hv:RG P N c ops ⟨none,op,ty,ps,af,g⟩ (su F ks) H p fv fH)(h:∀x,p x->Hq P N c D ops Q here F (fH x))(hm:Hq P N c D ops Q iH F H):Hq P N c D ops Q (.alt s ks here iH) F H:=
 ⟨⟨_,α,p,fv,fH,ho,rfl,λa w next=>hv D a w next Q,h⟩,hm⟩
end
theorem RZ{id:Nat}{l:List Oper}{F:eH}{H:List aE}(hm:P.follows .mixedOrders=true)(st:Tr)(hok:abI l.toArray st=true)
  (h:Hq P N c D l.toArray Q st F H):WP P N c D (.region id l.toArray true) Q F H:=λa w hst=>by
 simp only[abI,akg]at hok;refine wpIn_region_any hm ?_;have hdn:∀j,¬dn (Array.replicate l.toArray.size false) j:=λj h=>by unfold dn at h;simp only[Array.getD_eq_getD_getElem?,Array.getElem?_replicate]at h;split at h<;>simp at h
 have hI:Inv P N c D l.toArray (Ky st) [] [] [] (Array.replicate l.toArray.size false) F H a {w with drawn:=w.drawn+1}:=
  ⟨by simp,λj hj=>absurd hj (hdn j),by simp,by simp,by simp,by simp,hst.tm,hst.df,hst.si.drawn _,⟨λr hr=>hst.hp.holds r hr,hst.hp.own,hst.hp.apart⟩,λj hj=>absurd hj (hdn j),λd v hl _ =>hst.fr d v hl⟩
 obtain⟨YT,pn2,F2,k1,k2,k3,k4⟩:=enter hok.1.2 hok.1.1 hI (by simp) h hok.2;refine Sw hok.1.2 _ _ _ _ YT pn2 [] F2 H ?_ k1 k2 k3 k4;unfold uf;exact Nat.le_trans (List.length_filter_le _ _) (by simp)
end Go.Bw
