/- Part 1 of what a proof leans on; pruned and shortened by a program out of longer texts. -/
import Derived.RangeFuncNested
import Derived.RangeFuncBound
import Derived.RangeFuncCalls
import Derived.RangeFuncLeaves
import Derived.WalkKit
import Derived.TacticsIn
import Derived.KernelRfl
import Derived.OrdersIn
import Derived.Laws.AppendOwn
import Derived.Laws.StructEq
import Derived.Deep.Upon
import Derived.Test.YtbalnnoofdkbaaaProg
import Derived.Laws.CopyRow
import Derived.Laws.Cover3
import Derived.LoopNIn
import Derived.Great.BuildSlice
import Derived.ArgAppend
import Derived.Maps.RangeRun
import Derived.MapKept
import Derived.Carry
import Derived.ProofKit
import Derived.OpenShut
import Derived.ShutString
import Derived.ChangeOld
import Derived.Below
import Derived.Deep.Slices
import Derived.ChangeKeysEq
import Derived.Laws.Pointers
import Derived.Lib.Tables
import Derived.RecoverIn
import Derived.WideLaws
namespace Go.Bw
open Go Go.RowKit
abbrev FA (ro:Option Nat):Fence:={ fn:=fun _=>True,depth:=none,alive:=false,round:=ro }
abbrev dB:=List (Nat × Value)
def lk:dB→Nat→Option Value
  | [],_=>none
  | (k,v)::r,d=>bif Nat.beq k d then some v else lk r d
def ev (F:dB):Operand→Option Value
  | .tmp t=>lk F t
  | .const v=>some v
  | .global g=>some (.pointer (some ⟨g,0,none⟩))
  | .func f=>some (.func (.func f) #[] #[])
def nF (F:dB) (t:Array Value):Prop:=∀d v,lk F d = some v→t[d]? = some v
theorem bK {F:dB} {a:Act} (h:nF F a.tmps) {x:Operand} {v:Value} (hx:ev F x = some v):a.eval x = v:=by
  cases x with
  | tmp t=>have:=h t v hx; simp [Act.eval,this]
  | const u=>exact Option.some.inj hx
  | global g=>exact Option.some.inj hx
  | func f=>exact Option.some.inj hx
def qw (F:dB):List Operand→Option (List Value)
  | []=>some []
  | x::r=>match ev F x,qw F r with
    | some v,some vs=>some (v::vs)
    | _,_=>none
theorem pU {F:dB} {a:Act} (h:nF F a.tmps):∀{l:List Operand} {vs:List Value},qw F l = some vs→l.map a.eval = vs:=by
  intro l
  induction l with
  | nil=>intro vs hl; exact (Option.some.inj hl)
  | cons x l ih =>
    intro vs hl
    simp only [qw] at hl
    split at hl
    · rename_i v us h1 h2
      rw [← Option.some.inj hl]
      simp [bK h h1,ih h2]
    · cases hl
theorem kU {d k:Nat} (e:¬ d = k):Nat.beq d k = false:=by
  cases hb:Nat.beq d k with
  | false=>rfl
  | true=>exact absurd (Nat.eq_of_beq_eq_true hb) e
def pt (d:Option Tmp) (v:Value) (F:dB):dB:=match d with
  | some d=>(d,v)::F
  | none=>F
def Gv (N:Nat) (d:Option Tmp):Bool:=match d with
  | some d=>Nat.blt d N
  | none=>true
theorem nF.put {F:dB} {a:Act} {d:Option Tmp} {v:Value} {N:Nat} (h:nF F a.tmps) (hs:a.tmps.size = N) (hd:Gv N d = true) :
    nF (pt d v F) (a.put d v).tmps:=by
  cases d with
  | none=>exact h
  | some d =>
    intro k u hk
    simp only [pt,lk] at hk
    have hd' : d < a.tmps.size:=by simpa [Gv,hs,Nat.blt_eq] using hd
    by_cases e:d = k
    · subst e
      simp at hk; subst hk
      simp [Act.put,hd']
    · have:Nat.beq d k = false:=kU e
      rw [this] at hk
      simp only [cond_false] at hk
      simp only [Act.put,Array.getElem?_setIfInBounds,if_neg e]
      exact h k u hk
theorem nF.sub {F F' : dB} {t:Array Value} (h:nF F t) (hs:∀d v,lk F' d = some v→lk F d = some v):nF F' t:=fun d v hk=>h d v (hs d v hk)
def Sub:dB→dB→Prop
  | [],_=>True
  | p::r,F=>lk F p.1 = some p.2∧Sub r F
theorem Sub.lk {F' F:dB} (h:Sub F' F):∀d v,lk F' d = some v→lk F d = some v:=by
  induction F' with
  | nil=>intro d v hk; simp [Bw.lk] at hk
  | cons p r ih =>
    intro d v hk
    obtain ⟨h1,h2⟩:=h
    simp only [Bw.lk] at hk
    by_cases e:p.1 = d
    · subst e; simp at hk; subst hk; exact h1
    · have:Nat.beq p.1 d = false:=kU e
      rw [this] at hk
      exact ih h2 d v hk
structure bw (bs:List Nat) (w0 w:World):Prop where
  os:w.os = w0.os
  tape:w.tape = w0.tape
  output:w.output = w0.output
  size:w0.heap.size ≤ w.heap.size
  block:∀k,k < w0.heap.size→k ∉ bs→w.heap[k]? = w0.heap[k]?
theorem bw.refl (bs:List Nat) (w:World):bw bs w w:=⟨rfl,rfl,rfl,Nat.le_refl _,fun _ _ _=>rfl⟩
theorem bw.trans {bs bs' : List Nat} {w0 w w' : World} (h:bw bs w0 w) (k:bw bs' w w') (hb:∀b ∈ bs',b ∈ bs∨w0.heap.size ≤ b):bw bs w0 w':=
  ⟨k.os.trans h.os,k.tape.trans h.tape,k.output.trans h.output,Nat.le_trans h.size k.size,
   fun i hi hn=>(k.block i (Nat.lt_of_lt_of_le hi h.size) (fun hm=>by
     rcases hb i hm with h1 | h1
     · exact hn h1
     · omega)).trans (h.block i hi hn)⟩
theorem bw.ext {bs:List Nat} {w0 w w' : World} (h:bw bs w0 w) (k:bw [] w w'):bw bs w0 w':=h.trans k (fun _ hb=>by cases hb)
theorem bw.below {w0 w:World} (h:bw [] w0 w):Below w0.heap.size w0 w:=⟨h.os,h.tape,h.output,h.size,fun k hk=>h.block k hk (by simp)⟩
theorem bw.z9 {w w' : World} {row:Option Nat} (h:w.grownBy w' row):bw row.toList w w':=
  ⟨h.os,h.tape,h.output,h.size,fun k hk hn=>h.block k hk (fun e=>hn (by rw [← e]; simp))⟩
theorem bw.alloc (w:World) (o:Obj):bw [] w (w.alloc o):=⟨rfl,rfl,rfl,by simp,fun k hk _=>Below.heap_alloc w o k hk⟩
theorem bw.drawn {w0 w:World} {bs:List Nat} (h:bw bs w0 w) (n:Nat):bw bs w0 { w with drawn:=n }:=⟨h.os,h.tape,h.output,h.size,h.block⟩
def Ro (w:World) (v:Value) (sz n:Nat) (xs:List Value):Prop:=
  xs.length = n * sz∧(((∃a cp,v = .slice a 0 cp)∧n = 0)∨∃g off cap,v = .slice (some ⟨g,off,none⟩) n cap∧g < w.heap.size∧n ≤ cap∧∀(j:Nat) u,xs[j]? = some u→w.cell? ⟨g,off + j,none⟩ = some u)
inductive aZ where
  | cells (b:Nat) (t:TypeId) (cs:List Value)
  | row (v:Value) (e:TypeId) (sz:Nat) (n:Nat) (xs:List Value)
  | obj (b:Nat) (o:Obj)
  | sl (v:Value) (sz n:Nat) (xs:List Value)
  | ext (bs:List Nat) (J:World→Prop)
def aZ.gN:aZ→List Nat
  | .cells b _ _=>[b]
  | .row v _ _ _ _=>v.ownBlock.toList
  | .obj b _=>[b]
  | .sl v _ _ _=>v.ownBlock.toList
  | .ext bs _=>bs
def aZ.holds (w:World):aZ→Prop
  | .cells b t cs=>w.heap[b]? = some (.cells cs.toArray t (0,0))
  | .row v e sz n xs=>w.ownsRow 0 e sz v n xs
  | .obj b o=>w.heap[b]? = some o
  | .sl v sz n xs=>Ro w v sz n xs
  | .ext bs J=>∀w' : World,w.heap.size ≤ w'.heap.size→(∀b ∈ bs,w'.heap[b]? = w.heap[b]?)→J w'
def aZ.apart (r s:aZ):Prop:=∀b,b ∈ r.gN→b ∉ s.gN
theorem aZ.jD {r s:aZ} (h:r.apart s):s.apart r:=fun b hs hr=>h b hr hs
theorem tQ {w w' : World} {base:Nat} {e:TypeId} {sz:Nat} {v:Value} {n:Nat} {xs:List Value} (h:w.ownsRow base e sz v n xs)
    (hb:∀b,v.ownBlock = some b→w'.heap[b]? = w.heap[b]?):w'.ownsRow base e sz v n xs:=by
  refine ⟨h.1,?_⟩
  rcases h.2 with hn | ⟨g,cap,cur,rfl,Qq,AN,rest⟩
  · exact .inl hn
  · exact .inr ⟨g,cap,cur,rfl,Qq,(hb g rfl).trans AN,rest⟩
theorem Ro.same {w w' : World} {v:Value} {sz n:Nat} {xs:List Value} (h:Ro w v sz n xs) (hs:w.heap.size ≤ w'.heap.size) (hb:∀b,v.ownBlock = some b→w'.heap[b]? = w.heap[b]?):Ro w' v sz n xs:=by
  refine ⟨h.1,?_⟩
  rcases h.2 with h0 | ⟨g,off,cap,rfl,h2,h3,h4⟩
  · exact .inl h0
  · exact .inr ⟨g,off,cap,rfl,Nat.lt_of_lt_of_le h2 hs,h3,fun j u hu=>(World.cell?_of_block (hb g rfl)).trans (h4 j u hu)⟩
theorem aZ.kQ {w w' : World} {r:aZ} (h:r.holds w) (hs:w.heap.size ≤ w'.heap.size) (hb:∀b,b ∈ r.gN→w'.heap[b]? = w.heap[b]?):r.holds w':=by
  cases r with
  | cells b t cs=>exact (hb b (by simp [aZ.gN])).trans h
  | row v e sz n xs=>exact tQ h fun b hv=>hb b (by simp [aZ.gN,hv])
  | obj b o=>exact (hb b (by simp [aZ.gN])).trans h
  | sl v sz n xs=>exact Ro.same h hs fun b hv=>hb b (by simp [aZ.gN,hv])
  | ext bs J=>exact fun w2 h1 h2=>h w2 (Nat.le_trans hs h1) fun b hm=>(h2 b hm).trans (hb b hm)
structure cy (bs:List Nat) (n0:Nat) (H:List aZ) (w:World):Prop where
  holds:∀r ∈ H,r.holds w
  own:∀r ∈ H,∀b,b ∈ r.gN→(b ∈ bs∨n0 ≤ b)∧b < w.heap.size
  apart:H.Pairwise aZ.apart
theorem cy.nil (bs:List Nat) (n0:Nat) (w:World):cy bs n0 [] w:=⟨by simp,by simp, .nil⟩
theorem cy.same {bs bs' : List Nat} {n0 Oe:Nat} {H:List aZ} {w w' : World} (h:cy bs n0 H w) (hs:w.heap.size ≤ w'.heap.size)
    (hb:∀r ∈ H,∀b,b ∈ r.gN→w'.heap[b]? = w.heap[b]?) (hw:∀b,(b ∈ bs∨n0 ≤ b)→b < w.heap.size→(b ∈ bs'∨Oe ≤ b)):cy bs' Oe H w':=
  ⟨fun r hr=>aZ.kQ (h.holds r hr) hs (hb r hr),fun r hr b hb'=>let ⟨o,l⟩:=h.own r hr b hb'; ⟨hw b o l,Nat.lt_of_lt_of_le l hs⟩,h.apart⟩
theorem cy.ext {bs:List Nat} {n0:Nat} {H:List aZ} {w w' : World} (h:cy bs n0 H w) (hs:bw [] w w'):cy bs n0 H w':=
  h.same hs.size (fun r hr b hb=>hs.block b (h.own r hr b hb).2 (by simp)) (fun _ o _=>o)
theorem cy.cons {bs:List Nat} {n0:Nat} {H:List aZ} {w:World} {r:aZ} (h:cy bs n0 H w) (hr:r.holds w)
    (ho:∀b,b ∈ r.gN→(b ∈ bs∨n0 ≤ b)∧b < w.heap.size) (ha:∀s ∈ H,r.apart s):cy bs n0 (r::H) w:=
  ⟨fun s hs=>by cases hs with | head=>exact hr | tail _ hm=>exact h.holds s hm,
   fun s hs=>by cases hs with | head=>exact ho | tail _ hm=>exact h.own s hm,
   .cons ha h.apart⟩
theorem cy.fresh {bs:List Nat} {n0:Nat} {H:List aZ} {w w' : World} {r:aZ} (h:cy bs n0 H w) (hs:bw [] w w') (hr:r.holds w')
    (hn:n0 ≤ w.heap.size) (ho:∀b,b ∈ r.gN→w.heap.size ≤ b∧b < w'.heap.size):cy bs n0 (r::H) w':=
  (h.ext hs).cons hr (fun b hb=>⟨.inr (Nat.le_trans hn (ho b hb).1),(ho b hb).2⟩)
    (fun s hm b hb Cq=>by have:=(h.own s hm b Cq).2; have:=(ho b hb).1; omega)
theorem cy.sub {bs:List Nat} {n0:Nat} {H H' : List aZ} {w:World} (h:cy bs n0 H w) (hs:H'.Sublist H):cy bs n0 H' w:=
  ⟨fun r hr=>h.holds r (hs.subset hr),fun r hr=>h.own r (hs.subset hr),h.apart.sublist hs⟩
theorem js {H:List aZ} (h:H.Pairwise aZ.apart) {j k:Nat} {r s:aZ} (hj:H[j]? = some r) (hk:H[k]? = some s) (hne:j ≠ k):r.apart s:=by
  obtain ⟨lj,rfl⟩:=List.getElem?_eq_some_iff.1 hj
  obtain ⟨lk,rfl⟩:=List.getElem?_eq_some_iff.1 hk
  rcases Nat.lt_or_ge j k with hlt | hge
  · exact List.pairwise_iff_getElem.1 h j k lj lk hlt
  · exact aZ.jD (List.pairwise_iff_getElem.1 h k j lk lj (by omega))
theorem cy.set {bs:List Nat} {n0:Nat} {H:List aZ} {w w' : World} (h:cy bs n0 H w) {k:Nat} {r r' : aZ} (hk:H[k]? = some r)
    (hs:w.heap.size ≤ w'.heap.size) (hb:∀j,j < w.heap.size→j ∉ r.gN→w'.heap[j]? = w.heap[j]?) (hr:r'.holds w') (hn:n0 ≤ w.heap.size)
    (ho:∀b,b ∈ r'.gN→(b ∈ r.gN∨w.heap.size ≤ b)∧b < w'.heap.size):cy bs n0 (H.set k r') w':=by
  have hmem:r ∈ H:=List.mem_of_getElem? hk
  refine ⟨fun s hm=>?_,fun s hm b dc=>?_,?_⟩
  · obtain ⟨j,hj⟩:=List.mem_iff_getElem?.1 hm
    rw [List.getElem?_set] at hj
    by_cases e:k = j
    · subst e
      have hl:=(List.getElem?_eq_some_iff.1 hk).1
      simp [hl] at hj; subst hj; exact hr
    · simp [e] at hj
      refine aZ.kQ (h.holds s (List.mem_of_getElem? hj)) hs (fun b OB=>hb b (h.own s (List.mem_of_getElem? hj) b OB).2 (fun hrb=>?_))
      exact js h.apart hk hj e b hrb OB
  · obtain ⟨j,hj⟩:=List.mem_iff_getElem?.1 hm
    rw [List.getElem?_set] at hj
    by_cases e:k = j
    · subst e
      have hl:=(List.getElem?_eq_some_iff.1 hk).1
      simp [hl] at hj; subst hj
      obtain ⟨h1,h2⟩:=ho b dc
      refine ⟨?_,h2⟩
      rcases h1 with h1 | h1
      · exact (h.own r hmem b h1).1
      · exact .inr (Nat.le_trans hn h1)
    · simp [e] at hj
      obtain ⟨h1,h2⟩:=h.own s (List.mem_of_getElem? hj) b dc
      exact ⟨h1,Nat.lt_of_lt_of_le h2 hs⟩
  · rw [List.pairwise_iff_getElem]
    intro i j hi hj hij
    have hl:=(List.getElem?_eq_some_iff.1 hk).1
    have key:∀j s,H[j]? = some s→k ≠ j→r'.apart s:=fun j s Ow hne b hrb Cq=>by
      have h2:=(h.own s (List.mem_of_getElem? Ow) b Cq).2
      rcases (ho b hrb).1 with h1 | h1
      · exact js h.apart hk Ow hne b h1 Cq
      · omega
    rw [List.length_set] at hi hj
    rw [List.getElem_set,List.getElem_set]
    by_cases e1:k = i
    · rw [if_pos e1,if_neg (by omega)]
      exact key j _ (List.getElem?_eq_getElem hj) (by omega)
    · rw [if_neg e1]
      by_cases e2:k = j
      · rw [if_pos e2]
        exact aZ.jD (key i _ (List.getElem?_eq_getElem hi) (by omega))
      · rw [if_neg e2]
        exact List.pairwise_iff_getElem.1 h.apart i j hi hj hij
theorem cy.zI {bs:List Nat} {n0:Nat} {H:List aZ} {w:World} (h:cy bs n0 H w) {k:Nat} {r r' : aZ} (hk:H[k]? = some r) (hr:∀w:World,r.holds w→r'.holds w) (hb:∀b,b ∈ r'.gN→b ∈ r.gN):cy bs n0 (H.set k r') w:=by
  have hmem:r ∈ H:=List.mem_of_getElem? hk
  have hl:=(List.getElem?_eq_some_iff.1 hk).1
  have get:∀s ∈ H.set k r',(s = r'∨∃j,j ≠ k∧H[j]? = some s):=fun s hs=>by
    obtain ⟨j,hj⟩:=List.mem_iff_getElem?.1 hs
    rw [List.getElem?_set] at hj
    by_cases e:k = j
    · subst e; simp [hl] at hj; exact .inl hj.symm
    · simp [e] at hj; exact .inr ⟨j,Ne.symm e,hj⟩
  refine ⟨fun s hs=>?_,fun s hs b dc=>?_,?_⟩
  · rcases get s hs with rfl | ⟨j,_,hj⟩
    · exact hr w (h.holds r hmem)
    · exact h.holds s (List.mem_of_getElem? hj)
  · rcases get s hs with rfl | ⟨j,_,hj⟩
    · exact h.own r hmem b (hb b dc)
    · exact h.own s (List.mem_of_getElem? hj) b dc
  · rw [List.pairwise_iff_getElem]
    intro i j hi hj hij
    rw [List.length_set] at hi hj
    rw [List.getElem_set,List.getElem_set]
    by_cases e1:k = i
    · rw [if_pos e1,if_neg (by omega)]
      exact fun b Nc CC=>js h.apart hk (List.getElem?_eq_getElem hj) (by omega) b (hb b Nc) CC
    · rw [if_neg e1]
      by_cases e2:k = j
      · rw [if_pos e2]
        exact fun b Nc CC=>js h.apart (List.getElem?_eq_getElem hi) hk (by omega) b Nc (hb b CC)
      · rw [if_neg e2]
        exact List.pairwise_iff_getElem.1 h.apart i j hi hj hij
def pick (H:List aZ):List Nat→Option (List aZ)
  | []=>some []
  | k::ks=>match H[k]?,pick H ks with
    | some r,some l=>some (r::l)
    | _,_=>none
theorem lR {H:List aZ}:∀{ks:List Nat} {l:List aZ},pick H ks = some l→∀(j:Nat) (r:aZ),l[j]? = some r→∃k:Nat,ks[j]? = some k∧H[k]? = some r:=by
  intro ks
  induction ks with
  | nil=>intro l h j r hj; simp [pick] at h; subst h; simp at hj
  | cons k ks ih =>
    intro l h j r hj
    simp only [pick] at h
    split at h
    · rename_i r0 l0 h1 h2
      simp at h; subst h
      cases j with
      | zero=>simp at hj; subst hj; exact ⟨k,rfl,h1⟩
      | succ j=>obtain ⟨k',e1,e2⟩:=ih h2 j r (by simpa using hj); exact ⟨k',by simpa using e1,e2⟩
    · cases h
theorem cy.pick {bs:List Nat} {n0:Nat} {H l:List aZ} {w:World} (h:cy bs n0 H w) {ks:List Nat} (hp:pick H ks = some l) (hn:ks.Nodup):cy bs n0 l w:=by
  refine ⟨fun r hr=>?_,fun r hr=>?_,?_⟩
  · obtain ⟨j,hj⟩:=List.mem_iff_getElem?.1 hr
    obtain ⟨k,_,e⟩:=lR hp j r hj
    exact h.holds r (List.mem_of_getElem? e)
  · obtain ⟨j,hj⟩:=List.mem_iff_getElem?.1 hr
    obtain ⟨k,_,e⟩:=lR hp j r hj
    exact h.own r (List.mem_of_getElem? e)
  · rw [List.pairwise_iff_getElem]
    intro i j hi hj hij
    obtain ⟨k1,e1,f1⟩:=lR hp i _ (List.getElem?_eq_getElem hi)
    obtain ⟨k2,e2,f2⟩:=lR hp j _ (List.getElem?_eq_getElem hj)
    refine js h.apart f1 f2 (fun e=>?_)
    subst e
    obtain ⟨l1,q1⟩:=List.getElem?_eq_some_iff.1 e1
    obtain ⟨l2,q2⟩:=List.getElem?_eq_some_iff.1 e2
    exact absurd (q1.trans q2.symm) (by
      intro hq
      exact (List.pairwise_iff_getElem.1 hn i j l1 l2 hij) hq)
structure Cx where
  ro:Option Nat
  w0:World
  bs:List Nat
structure St (N:Nat) (c:Cx) (D:List Deferred) (F:dB) (H:List aZ) (a:Act) (w:World):Prop where
  tm:a.tmps.size = N
  fr:nF F a.tmps
  df:a.defers = D
  si:bw c.bs c.w0 w
  hp:cy c.bs c.w0.heap.size H w
theorem St.sub {N:Nat} {c:Cx} {D:List Deferred} {F F' : dB} {H:List aZ} {a:Act} {w:World} (h:St N c D F H a w) (hs:∀d v,lk F' d = some v→lk F d = some v):St N c D F' H a w:=
  ⟨h.tm,h.fr.sub hs,h.df,h.si,h.hp⟩
theorem St.put {N:Nat} {c:Cx} {D:List Deferred} {F:dB} {H H' : List aZ} {a:Act} {w w' : World} {d:Option Tmp} {v:Value} (h:St N c D F H a w) (hd:Gv N d = true)
    (hs:bw c.bs c.w0 w') (hp:cy c.bs c.w0.heap.size H' w'):St N c D (pt d v F) H' (a.put d v) w':=by
  refine ⟨?_,h.fr.put h.tm hd,?_,hs,hp⟩
  · cases d <;> simp [Act.put,h.tm]
  · cases d <;> simp [Act.put,h.df]
def WP (P:Program) (N:Nat) (c:Cx) (D:List Deferred) (code:Code) (Q:Exit→Act→World→Prop) (F:dB) (H:List aZ):Prop:=
  ∀a w,St N c D F H a w→code.wpIn (FA c.ro) 0 P Q a w
def WQ (N:Nat) (c:Cx) (D:List Deferred) (Q:Exit→Act→World→Prop) (e:Exit) (F:dB) (H:List aZ):Prop:=
  ∀a w,St N c D F H a w→Q e a w
def WL (P:Program) (N:Nat) (c:Cx) (D:List Deferred) (ops:Array Oper) (Q:Exit→Act→World→Prop) (l:List Oper) (F:dB) (H:List aZ):Prop:=
  ∀a w,St N c D F H a w→wpListIn (FA c.ro) 0 P ops Q l a w
def VS (P:Program) (N:Nat) (c:Cx) (o:Oper) (F:dB) (H:List aZ) (v:Value):Prop:=
  ∀D a w next Q,St N c D F H a w→(∀w',bw [] w w'→next (a.put o.dst v) w')→o.wpIn (FA c.ro) 0 P a w next Q
def RX {α:Type} (P:Program) (N:Nat) (c:Cx) (o:Oper) (F:dB) (H:List aZ) (p:α→Prop) (fv:α→Value) (fH:α→List aZ):Prop:=
  ∀D a w next Q,St N c D F H a w→(∀x w',p x→bw c.bs c.w0 w'→cy c.bs c.w0.heap.size (fH x) w'→next (a.put o.dst (fv x)) w')→o.wpIn (FA c.ro) 0 P a w next Q
theorem VS.rx {P:Program} {N:Nat} {c:Cx} {o:Oper} {F:dB} {H:List aZ} {v:Value} (h:VS P N c o F H v):RX (α:=Unit) P N c o F H (fun _=>True) (fun _=>v) (fun _=>H):=
  fun D a w next Q hst hk=>h D a w next Q hst fun w' hw=>hk () w' trivial (hst.si.ext hw) (hst.hp.ext hw)
theorem g7 {P:Program} {c:Cx} {o:Oper} {a:Act} {w w' : World} {v:Value} {next:Act→World→Prop} {Q:Exit→Act→World→Prop} (hd:∀cc,o.op ≠ .defer cc)
    (hr:(execOp a.eval o).run P w = .ok (.value v) w') (hk:next (a.put o.dst v) w'):o.wpIn (FA c.ro) 0 P a w next Q:=by
  refine ⟨fun _ _=>trivial,?_⟩
  have:Oper.semAt (FA c.ro).round a.eval o = execOp a.eval o:=Oper.semAt_eq _ _ _ hd
  rw [this,hr]
  exact hk
theorem sX {P:Program} {c:Cx} {o:Oper} {a:Act} {w w' : World} {next:Act→World→Prop} {Q:Exit→Act→World→Prop} (hd:∀cc,o.op ≠ .defer cc)
    (hr:(execOp a.eval o).run P w = .ok .skip w') (hk:next (a.put o.dst undef) w'):o.wpIn (FA c.ro) 0 P a w next Q:=by
  refine ⟨fun _ _=>trivial,?_⟩
  have:Oper.semAt (FA c.ro).round a.eval o = execOp a.eval o:=Oper.semAt_eq _ _ _ hd
  rw [this,hr]
  exact hk
theorem br {P:Program} {N:Nat} {c:Cx} {o:Oper} {F:dB} {H:List aZ} {v:Value} (hd:∀cc,o.op ≠ .defer cc)
    (h:∀(a:Act) (w:World),nF F a.tmps→bw c.bs c.w0 w→cy c.bs c.w0.heap.size H w→(execOp a.eval o).run P w = .ok (.value v) w):VS P N c o F H v:=
  fun _ a w _ _ hst hk=>g7 hd (h a w hst.fr hst.si hst.hp) (hk w (bw.refl _ _))
section lists
variable {P:Program} {N:Nat} {c:Cx} {D:List Deferred} {ops:Array Oper} {Q:Exit→Act→World→Prop} {o:Oper} {rest:List Oper} {F:dB} {H:List aZ}
  {d:Tmp} {op:Op} {ty:TypeId} {ps:String} {af:Array Edge} {g:Option (Nat × Bool)}
theorem bh (h:WQ N c D Q .normal F H):WL P N c D ops Q [] F H:=fun a w hst=>h a w hst
theorem ag {v:Value} (hd:Nat.blt d N = true) (hv:VS P N c ⟨some d,op,ty,ps,af,none⟩ F H v) (h:WL P N c D ops Q rest ((d,v)::F) H):WL P N c D ops Q (⟨some d,op,ty,ps,af,none⟩::rest) F H:=
  fun a w hst=>wpListIn_plain rfl fun K hK=>hv D a w K Q hst fun _ hw=>hK _ _ (h _ _ (hst.put (d:=some d) hd (hst.si.ext hw) (hst.hp.ext hw)))
theorem cG {α:Type} {p:α→Prop} {fv:α→Value} {fH:α→List aZ} (hd:Nat.blt d N = true) (hv:RX P N c ⟨some d,op,ty,ps,af,none⟩ F H p fv fH)
    (h:∀x,p x→WL P N c D ops Q rest ((d,fv x)::F) (fH x)):WL P N c D ops Q (⟨some d,op,ty,ps,af,none⟩::rest) F H:=
  fun a w hst=>wpListIn_plain rfl fun K hK=>hv D a w K Q hst fun x _ hp hs hh=>hK _ _ (h x hp _ _ (hst.put (d:=some d) hd hs hh))
theorem fq {α:Type} {p:α→Prop} {fv:α→Value} {fH:α→List aZ} (hv:RX P N c ⟨none,op,ty,ps,af,none⟩ F H p fv fH)
    (h:∀x,p x→WL P N c D ops Q rest F (fH x)):WL P N c D ops Q (⟨none,op,ty,ps,af,none⟩::rest) F H:=
  fun a w hst=>wpListIn_plain rfl fun K hK=>hv D a w K Q hst fun x _ hp hs hh=>hK _ _ (h x hp _ _ (hst.put (d:=none) rfl hs hh))
def gd (ops:Array Oper) (F:dB):Option (Nat × Bool)→Option Bool
  | none=>none
  | some (j,want)=>match ((ops[j]?).bind (·.dst)).bind (lk F) with
    | some (.bool b)=>some (b == want)
    | _=>none
def Gd (ops:Array Oper) (F:dB) (g:Option (Nat × Bool)) (B:Bool):Prop:=∀(o:Oper) (a:Act),o.guard = g→nF F a.tmps→Region.wanted o (yielded ops a.tmps) = B
theorem qN {a:Act} {j:Nat} {k:Tmp} {v:Value} (hf:nF F a.tmps) (hd:(ops[j]?).bind (·.dst) = some k) (hl:lk F k = some v):yielded ops a.tmps j = match v with | .bool b=>some b | _=>none:=by
  have h1:=hf _ _ hl
  cases ho:ops[j]? with
  | none=>simp [ho] at hd
  | some oj =>
    simp [ho] at hd
    cases v <;> simp [yielded,ho,hd,h1]
theorem cg {j:Nat} {want b:Bool} {k:Tmp} (hd:(ops[j]?).bind (·.dst) = some k) (hl:lk F k = some (.bool b)):Gd ops F (some (j,want)) (b == want):=fun o a hg hf=>by
  simp only [Region.wanted,hg,qN hf hd hl]
  cases b <;> cases want <;> rfl
theorem iO {j:Nat} {want b t:Bool} {k:Tmp} (hd:(ops[j]?).bind (·.dst) = some k) (hl:lk F k = some (bif t then .bool b else undef)):Gd ops F (some (j,want)) (t && (b == want)):=fun o a hg hf=>by
  simp only [Region.wanted,hg,qN hf hd hl]
  cases b <;> cases want <;> cases t <;> rfl
theorem uG (hg:Gd ops F g false) (hd:Nat.blt d N = true) (h:WL P N c D ops Q rest ((d,undef)::F) H):WL P N c D ops Q (⟨some d,op,ty,ps,af,g⟩::rest) F H:=by
  intro a w hst
  simp only [wpListIn,hg ⟨some d,op,ty,ps,af,g⟩ a rfl hst.fr]
  exact ⟨fun _ _=>trivial,h _ _ (hst.put (d:=some d) hd hst.si hst.hp)⟩
theorem cC {b:Bool} {v:Value} (hg:Gd ops F g b) (hd:Nat.blt d N = true) (hv:b = true→VS P N c ⟨some d,op,ty,ps,af,g⟩ F H v)
    (h:WL P N c D ops Q rest ((d,bif b then v else undef)::F) H):WL P N c D ops Q (⟨some d,op,ty,ps,af,g⟩::rest) F H:=by
  cases b with
  | false=>exact uG hg hd h
  | true =>
    intro a w hst
    simp only [wpListIn,hg ⟨some d,op,ty,ps,af,g⟩ a rfl hst.fr,if_true]
    exact hv rfl D a w _ Q hst fun w' hw=>h _ _ (hst.put (d:=some d) hd (hst.si.ext hw) (hst.hp.ext hw))
theorem J0 {α:Type} {b:Bool} {p:α→Prop} {fv:α→Value} {fH:α→List aZ} (hg:Gd ops F g b) (hd:Nat.blt d N = true) (hv:b = true→RX P N c ⟨some d,op,ty,ps,af,g⟩ F H p fv fH)
    (h1:b = true→∀x,p x→WL P N c D ops Q rest ((d,fv x)::F) (fH x)) (h0:b = false→WL P N c D ops Q rest ((d,undef)::F) H):WL P N c D ops Q (⟨some d,op,ty,ps,af,g⟩::rest) F H:=by
  cases b with
  | false=>exact uG hg hd (h0 rfl)
  | true =>
    intro a w hst
    simp only [wpListIn,hg ⟨some d,op,ty,ps,af,g⟩ a rfl hst.fr,if_true]
    exact hv rfl D a w _ Q hst fun x w' hp hs hh=>h1 rfl x hp _ _ (hst.put (d:=some d) hd hs hh)
theorem bT {x:Operand} {t:Bool} {v:Value} (h:ev F x = some (bif t then v else undef)) (ht:t = true):ev F x = some v:=by subst ht; exact h
theorem w5 {x:Operand} {s t:Bool} {v:Value} (h:ev F x = some (bif s && t then v else undef)) (ht:s = true):ev F x = some (bif t then v else undef):=by subst ht; exact h
end lists
section code
variable {P:Program} {N:Nat} {c:Cx} {D:List Deferred} {Q:Exit→Act→World→Prop} {F:dB} {H:List aZ}
theorem aS {x y:Code} (h:WP P N c D x (Exit.then (y.wpIn (FA c.ro) 0 P Q) Q) F H):WP P N c D (.seq x y) Q F H:=fun a w hst=>wpIn_seq (h a w hst)
theorem nt {id:Nat} {x:Code} (h:WP P N c D x (Exit.inBlock id Q) F H):WP P N c D (.block id x) Q F H:=fun a w hst=>wpIn_block (h a w hst)
theorem fV (h:WQ N c D Q .normal F H):WP P N c D .skip Q F H:=fun a w hst=>wpIn_skip (h a w hst)
theorem Bl {l:Nat} (h:WQ N c D Q .normal F H):WP P N c D (.label l) Q F H:=fun a w hst=>wpIn_label (h a w hst)
theorem fJ (h:WQ N c D Q .ret F H):WP P N c D .ret Q F H:=fun a w hst=>wpIn_ret (h a w hst)
theorem ya {id:Nat} (h:WQ N c D Q (.exit id) F H):WP P N c D (.exit id) Q F H:=fun a w hst=>wpIn_exit (h a w hst)
theorem aB {id:Nat} {l:List Oper} (h:WL P N c D l.toArray Q l F H):WP P N c D (.region id l.toArray false) Q F H:=fun a w hst=>wpIn_region_lit (h a w hst)
theorem C1 {x:Operand} {y z:Code} (hc:ev F x = some (.bool true)) (h:WP P N c D y Q F H):WP P N c D (.cond x y z) Q F H:=
  fun a w hst=>wpIn_cond_true (bK hst.fr hc) (h a w hst)
theorem Bm {x:Operand} {y z:Code} (hc:ev F x = some (.bool false)) (h:WP P N c D z Q F H):WP P N c D (.cond x y z) Q F H:=
  fun a w hst=>wpIn_cond_false (bK hst.fr hc) (h a w hst)
theorem Bj {x:Code} {H' : List aZ} (hH:∀bs n0 w,cy bs n0 H w→cy bs n0 H' w) (h:WP P N c D x Q F H'):WP P N c D x Q F H:=fun a w hst=>h a w ⟨hst.tm,hst.fr,hst.df,hst.si,hH _ _ _ hst.hp⟩
theorem xu {e:Exit} {H' : List aZ} (hH:∀bs n0 w,cy bs n0 H w→cy bs n0 H' w) (h:WQ N c D Q e F H'):WQ N c D Q e F H:=fun a w hst=>h a w ⟨hst.tm,hst.fr,hst.df,hst.si,hH _ _ _ hst.hp⟩
class BP (t:Bool) (p:outParam Prop):Prop where
  iff:t = true↔p
theorem aI {y:Code} (h:WP P N c D y Q F H):WQ N c D (Exit.then (y.wpIn (FA c.ro) 0 P Q) Q) .normal F H:=h
theorem dK {K:Act→World→Prop} (h:WQ N c D Q .ret F H):WQ N c D (Exit.then K Q) .ret F H:=h
theorem kz {K:Act→World→Prop} {id:Nat} (h:WQ N c D Q (.exit id) F H):WQ N c D (Exit.then K Q) (.exit id) F H:=h
theorem rO {id:Nat} (h:WQ N c D Q .normal F H):WQ N c D (Exit.inBlock id Q) .normal F H:=h
theorem mI {id:Nat} (h:WQ N c D Q .ret F H):WQ N c D (Exit.inBlock id Q) .ret F H:=h
theorem ob {id:Nat} (h:WQ N c D Q .normal F H):WQ N c D (Exit.inBlock id Q) (.exit id) F H:=fun a w hst=>by simpa [Exit.inBlock] using h a w hst
theorem sG {id k:Nat} (hne:Nat.beq k id = false) (h:WQ N c D Q (.exit k) F H):WQ N c D (Exit.inBlock id Q) (.exit k) F H:=fun a w hst=>by
  have:¬ k = id:=fun e=>by rw [e,Nat.beq_refl] at hne; cases hne
  simpa [Exit.inBlock,this] using h a w hst
theorem FU {α:Type} {x y:Code} (I:α→dB) (J:α→List aZ) (p:α→Prop)
    (h1:WP P N c D x (Exit.then (fun a w=>∃i,p i∧St N c D (I i) (J i) a w) Q) F H) (h2:∀i,p i→WP P N c D y Q (I i) (J i)):WP P N c D (.seq x y) Q F H:=
  fun _ _ hst=>wpIn_seq (wpIn_mono (h1 _ _ hst) fun e a' w' hq=>by
    cases e with
    | normal=>obtain ⟨i,hp,hs⟩:=hq; exact h2 i hp a' w' hs
    | _=>exact hq)
theorem Bk {α:Type} {x:Code} (I:α→dB) (J:α→List aZ) (p:α→Prop) (μ:α→Nat) (i0:α) (Cz:p i0)
    (hbody:∀i,p i→WP P N c D x (Exit.then (fun a w=>∃i',μ i' < μ i∧p i'∧St N c D (I i') (J i') a w) Q) (I i) (J i)):WP P N c D (.loop x) Q (I i0) (J i0):=by
  intro a w hst b k cs hro hb hr
  have key:∀j i,μ i = j→p i→∀a w,St N c D (I i) (J i) a w →
      ∃e a' w',Q e a' w'∧ArrivesIn (Machine.fenced P (FA c.ro)) P (lone (b.atR a (.code x::.inLoop x::k)) cs w) b k cs e a' w':=by
    intro j
    induction j using Nat.strongRecOn with
    | _ j ih =>
      intro i hi hp a w hst
      obtain ⟨e,a₁,w₁,hq,vw⟩:=hbody i hp a w hst b (.inLoop x::k) cs hro hb hr
      cases e with
      | normal =>
        obtain ⟨i',hlt,Mv,tY⟩:=hq
        obtain ⟨e₂,a₂,w₂,Qb,Jf⟩:=ih (μ i') (hi ▸ hlt) i' rfl Mv a₁ w₁ tY
        exact ⟨e₂,a₂,w₂,Qb, .of_steps (StepsIn.trans vw (.one (fenced_calm hb hr rfl) stepR_inLoop)) Jf⟩
      | exit id=>exact ⟨_,a₁,w₁,hq, .pass (x:=.inLoop x) rfl (fun _ _=>.inl (by simp)) vw⟩
      | goto l=>exact ⟨_,a₁,w₁,hq, .pass (x:=.inLoop x) rfl (fun _ _=>.inl (by simp)) vw⟩
      | ret=>exact ⟨_,a₁,w₁,hq, .pass (x:=.inLoop x) rfl (fun _ _=>.inl (by simp)) vw⟩
      | panic ch=>exact ⟨_,a₁,w₁,hq, .pass (x:=.inLoop x) rfl (fun _ _=>.inl (by simp)) vw⟩
      | outgrown=>exact ⟨_,a₁,w₁,hq, .pass (x:=.inLoop x) rfl (fun _ _=>.inl (by simp)) vw⟩
  obtain ⟨e,a',w',hq,vw⟩:=key _ i0 rfl Cz a w hst
  exact ⟨e,a',w',hq, .of_steps (.one (fenced_calm hb hr rfl) stepR_loop) vw⟩
theorem qJ {G:dB}:Sub [] G:=trivial
theorem pE {d:Nat} {v:Value} {r G:dB} (h:lk G d = some v) (hr:Sub r G):Sub ((d,v)::r) G:=⟨h,hr⟩
def jf (F:dB):List Nat→dB
  | []=>[]
  | k::r=>match lk F k with
    | some v=>(k,v)::jf F r
    | none=>jf F r
theorem tT {F:dB}:∀{ks:List Nat} {d:Nat} {v:Value},lk (jf F ks) d = some v→d ∈ ks∧lk F d = some v:=by
  intro ks
  induction ks with
  | nil=>intro d v h; simp [jf,lk] at h
  | cons k r ih =>
    intro d v h
    simp only [jf] at h
    split at h
    · rename_i u hu
      simp only [lk] at h
      by_cases e:k = d
      · subst e; simp at h; subst h; exact ⟨by simp,hu⟩
      · rw [kU e] at h; obtain ⟨h1,h2⟩:=ih h; exact ⟨by simp [h1],h2⟩
    · obtain ⟨h1,h2⟩:=ih h; exact ⟨by simp [h1],h2⟩
def By (G F:dB):List Nat→Prop
  | []=>True
  | k::r=>lk G k = lk F k∧By G F r
theorem By.get {G F:dB}:∀{ks:List Nat},By G F ks→∀k ∈ ks,lk G k = lk F k:=by
  intro ks
  induction ks with
  | nil=>intro _ k h; simp at h
  | cons k r ih =>
    intro h j hj
    rcases List.mem_cons.1 hj with e | hj
    · rw [e]; exact h.1
    · exact ih h.2 j hj
inductive sJ (F:dB):List Nat→dB→Prop where
  | nil:sJ F [] []
  | cons {k:Nat} {v:Value} {ks:List Nat} {K:dB} (h:lk F k = some v) (r:sJ F ks K):sJ F (k::ks) ((k,v)::K)
theorem sJ.lk {F:dB} {ks:List Nat} {K:dB} (h:sJ F ks K):∀d v,lk K d = some v→Bw.lk F d = some v:=by
  induction h with
  | nil=>intro d v hd; simp [Bw.lk] at hd
  | @cons k u ks K h r ih =>
    intro d v hd
    by_cases e:k = d
    · subst e; simp [Bw.lk] at hd; subst hd; exact h
    · simp only [Bw.lk,kU e,cond_false] at hd; exact ih d v hd
theorem tU {I K G:dB} (h1:Sub I G) (h2:∀d v,lk K d = some v→lk G d = some v):∀d v,lk (I++K) d = some v→lk G d = some v:=by
  induction I with
  | nil=>exact h2
  | cons q I ih =>
    obtain ⟨k,u⟩:=q
    obtain ⟨hq,hr⟩:=h1
    intro d v hd
    by_cases e:k = d
    · subst e; simp [lk] at hd; subst hd; exact hq
    · simp only [List.cons_append,lk,kU e,cond_false] at hd; exact ih hr d v hd
def J7 {α:Type} (N:Nat) (c:Cx) (D:List Deferred) (sl:List Nat) (K:dB) (I:α→dB) (J:α→List aZ) (p:α→Prop) (μ:α→Nat) (i0:α):Act→World→Prop:=
  fun a w=>match sl with | _=>∃i',μ i' < μ i0∧p i'∧St N c D (I i'++K) (J i') a w
abbrev ym {α:Type} (N:Nat) (c:Cx) (D:List Deferred) (Q:Exit→Act→World→Prop) (sl:List Nat) (K:dB) (I:α→dB) (J:α→List aZ) (p:α→Prop) (μ:α→Nat) (i0:α):Exit→Act→World→Prop:=
  Exit.then (J7 N c D sl K I J p μ i0) Q
def N5 {α:Type} (N:Nat) (c:Cx) (D:List Deferred) (sl:List Nat) (K:dB) (I:α→dB) (J:α→List aZ) (p:α→Prop):Act→World→Prop:=
  fun a w=>match sl with | _=>∃i,p i∧St N c D (I i++K) (J i) a w
abbrev De {α:Type} (N:Nat) (c:Cx) (D:List Deferred) (Q:Exit→Act→World→Prop) (sl:List Nat) (K:dB) (I:α→dB) (J:α→List aZ) (p:α→Prop):Exit→Act→World→Prop:=
  Exit.then (N5 N c D sl K I J p) Q
theorem vX {α:Type} {x:Code} (sl:List Nat) {K:dB} (hK:sJ F sl K) (I:α→dB) (J:α→List aZ) (p:α→Prop) (μ:α→Nat) (i0:α) (Cz:p i0) (hs:Sub (I i0) F) {ks:List Nat} (hk:pick H ks = some (J i0)) (hn:ks.Nodup)
    (hbody:∀i,p i→WP P N c D x (ym N c D Q sl K I J p μ i) (I i++K) (J i)):WP P N c D (.loop x) Q F H:=by
  have h0:WP P N c D (.loop x) Q (I i0++K) (J i0):=by
    exact Bk (fun i=>I i++K) J p μ i0 Cz hbody
  intro a w hst
  exact h0 a w ⟨hst.tm,hst.fr.sub (tU hs hK.lk),hst.df,hst.si,hst.hp.pick hk hn⟩
theorem vV {α:Type} {K:dB} {sl:List Nat} {I:α→dB} {J:α→List aZ} {p:α→Prop} {μ:α→Nat} {i0:α} (i:α) (hμ:μ i < μ i0) (hp:p i) (hs:Sub (I i) F) (hl:sJ F sl K) {ks:List Nat} (hk:pick H ks = some (J i)) (hn:ks.Nodup) :
    WQ N c D (ym N c D Q sl K I J p μ i0) .normal F H:=
  fun _ _ hst=>⟨i,hμ,hp,hst.tm,hst.fr.sub (tU hs hl.lk),hst.df,hst.si,hst.hp.pick hk hn⟩
theorem yb {α:Type} {x y:Code} (sl:List Nat) {K:dB} (_:sJ F sl K) (I:α→dB) (J:α→List aZ) (p:α→Prop)
    (h1:WP P N c D x (De N c D Q sl K I J p) F H) (h2:∀i,p i→WP P N c D y Q (I i++K) (J i)):WP P N c D (.seq x y) Q F H:=
  FU (fun i=>I i++K) J p h1 h2
theorem uF {α:Type} {K:dB} {sl:List Nat} {I:α→dB} {J:α→List aZ} {p:α→Prop} (i:α) (hp:p i) (hs:Sub (I i) F) (hl:sJ F sl K) {ks:List Nat} (hk:pick H ks = some (J i)) (hn:ks.Nodup) :
    WQ N c D (De N c D Q sl K I J p) .normal F H:=
  fun _ _ hst=>⟨i,hp,hst.tm,hst.fr.sub (tU hs hl.lk),hst.df,hst.si,hst.hp.pick hk hn⟩
end code
end Go.Bw
namespace Go.Bw
open Go Go.RowKit
def pO:TypeDesc→Bool
  | .struct _=>true
  | .array _ _=>true
  | _=>false
def uv (P:Program) (t n:Nat):Bool:=match P.underlying t,P.info? t with
  | some d,some i=>pO d && Nat.beq i.size n
  | _,_=>false
def xe (P:Program) (t:Nat):Bool:=match P.underlying t,P.info? t with
  | some d,some i=>!pO d && Nat.beq i.size 1
  | _,_=>false
class ja (P:Program) (t:TypeId) (n:outParam Nat):Prop where
  ok:uv P t n = true
class kB (P:Program) (t:TypeId):Prop where
  ok:xe P t = true
class BL (P:Program) (t:TypeId) (n:outParam Nat):Prop where
  ok:(P.info? t).map (·.size) = some n
section types
variable {P:Program} {t n:Nat}
theorem ja.get (h:uv P t n = true):∃d i,P.underlying t = some d∧pO d = true∧P.info? t = some i∧i.size = n:=by
  unfold uv at h
  split at h
  · rename_i d i h1 h2
    simp only [Bool.and_eq_true] at h
    exact ⟨d,i,h1,h.1,h2,Nat.eq_of_beq_eq_true h.2⟩
  · cases h
theorem kB.get (h:xe P t = true):∃d i,P.underlying t = some d∧pO d = false∧P.info? t = some i∧i.size = 1:=by
  unfold xe at h
  split at h
  · rename_i d i h1 h2
    simp only [Bool.and_eq_true,Bool.not_eq_true'] at h
    exact ⟨d,i,h1,h.1,h2,Nat.eq_of_beq_eq_true h.2⟩
  · cases h
instance (priority:=50) KF [h:ja P t n]:BL P t n:=⟨by obtain ⟨d,i,_,_,h3,h4⟩:=ja.get h.ok; simp [h3,h4]⟩
instance (priority:=40) KE [h:kB P t]:BL P t 1:=⟨by obtain ⟨d,i,_,_,h3,h4⟩:=kB.get h.ok; simp [h3,h4]⟩
theorem kJ (w:World) [h:ja P t n]:(isAgg t).run P w = .ok true w:=by
  obtain ⟨d,i,h1,h2,_,_⟩:=ja.get h.ok
  unfold isAgg
  rw [Sem.run_bind,run_underlying h1 w]
  cases d <;> simp_all [pO]
theorem mN (w:World) [h:kB P t]:(isAgg t).run P w = .ok false w:=by
  obtain ⟨d,i,h1,h2,_,_⟩:=kB.get h.ok
  unfold isAgg
  rw [Sem.run_bind,run_underlying h1 w]
  cases d <;> simp_all [pO]
theorem run_sizeOf (w:World) [h:BL P t n]:(sizeOf t).run P w = .ok n w:=by
  have:=h.ok
  cases hi:P.info? t with
  | none=>simp [hi] at this
  | some i=>simp [hi] at this; simp [sizeOf,typeInfo,hi,this]
end types
class lG (H:List aZ) (b:Nat) (T:outParam TypeId) (cs:outParam (List Value)):Prop where
  mem:aZ.cells b T cs ∈ H
instance (priority:=100) GL (b T cs) (H:List aZ):lG (.cells b T cs::H) b T cs:=⟨by simp⟩
instance (priority:=50) Gj (r:aZ) (H:List aZ) (b T cs) [h:lG H b T cs]:lG (r::H) b T cs:=⟨by simp [h.mem]⟩
class sH (H:List aZ) (b:Nat) (cs' : List Value) (H' : outParam (List aZ)):Prop where
  ok:∃k T cs,H[k]? = some (.cells b T cs)∧H' = H.set k (.cells b T cs')
instance (priority:=100) GC (b T cs cs') (H:List aZ):sH (.cells b T cs::H) b cs' (.cells b T cs'::H):=⟨0,T,cs,rfl,rfl⟩
instance (priority:=50) F9 (r:aZ) (H H' : List aZ) (b cs') [h:sH H b cs' H']:sH (r::H) b cs' (r::H'):=
  ⟨by obtain ⟨k,T,cs,h1,h2⟩:=h.ok; exact ⟨k + 1,T,cs,by simpa using h1,by simp [h2]⟩⟩
class Rd (H:List aZ) (v:Value) (e sz n:outParam Nat) (xs:outParam (List Value)):Prop where
  mem:aZ.row v e sz n xs ∈ H
class Q2 (H:List aZ) (v:Value) (r' : aZ) (H' : outParam (List aZ)):Prop where
  ok:∃k e sz n xs,H[k]? = some (.row v e sz n xs)∧H' = H.set k r'
class p8 (H:List aZ) (b:Nat) (o:outParam Obj):Prop where
  mem:aZ.obj b o ∈ H
instance (priority:=100) GJ (b o) (H:List aZ):p8 (.obj b o::H) b o:=⟨by simp⟩
instance (priority:=50) Gh (r:aZ) (H:List aZ) (b o) [h:p8 H b o]:p8 (r::H) b o:=⟨by simp [h.mem]⟩
class qz (H:List aZ) (b:Nat) (o' : Obj) (H' : outParam (List aZ)):Prop where
  ok:∃k o,H[k]? = some (.obj b o)∧H' = H.set k (.obj b o')
instance (priority:=100) GA (b o o') (H:List aZ):qz (.obj b o::H) b o' (.obj b o'::H):=⟨0,o,rfl,rfl⟩
instance (priority:=50) F8 (r:aZ) (H H' : List aZ) (b o') [h:qz H b o' H']:qz (r::H) b o' (r::H'):=
  ⟨by obtain ⟨k,o,h1,h2⟩:=h.ok; exact ⟨k + 1,o,by simpa using h1,by simp [h2]⟩⟩
def Ptr (b off:Nat):Value:=.pointer (some ⟨b,off,none⟩)
attribute [reducible] Ptr
section ops
variable {P:Program} {N:Nat} {c:Cx} {F:dB} {H:List aZ} {d:Option Tmp} {ty:TypeId} {p:String} {af:Array Edge} {g:Option (Nat × Bool)}
theorem ah {x:Operand} {v:Value} (hx:ev F x = some v):VS P N c ⟨d, .move x,ty,p,af,g⟩ F H v:=
  br (by simp) fun a w hf _ _=>by simp [execOp,bK hf hx]
theorem aC {x:Operand} {v:Value} (hx:ev F x = some v):VS P N c ⟨d, .assign x,ty,p,af,g⟩ F H v:=
  br (by simp) fun a w hf _ _=>by simp [execOp,bK hf hx]
theorem cM {x y:Operand} {b u:Bool} (hx:ev F x = some (.bool b)) (hy:ev F y = some (bif b == true then .bool u else undef)) :
    VS P N c ⟨d, .pick x y (.const (.bool false)),ty,p,af,g⟩ F H (.bool (b && u)):=
  br (by simp) fun a w hf _ _=>by
    have e1:=bK hf hx
    have e2:=bK hf hy
    have e3:∀v,a.eval (.const v) = v:=fun _=>rfl
    cases b <;> (try simp at e2) <;> simp [execOp,e1,e2,e3,asBool]
theorem dV {x y:Operand} {b u:Bool} (hx:ev F x = some (.bool b)) (hy:ev F y = some (bif b == false then .bool u else undef)) :
    VS P N c ⟨d, .pick x (.const (.bool true)) y,ty,p,af,g⟩ F H (.bool (b || u)):=
  br (by simp) fun a w hf _ _=>by
    have e1:=bK hf hx
    have e2:=bK hf hy
    have e3:∀v,a.eval (.const v) = v:=fun _=>rfl
    cases b <;> (try simp at e2) <;> simp [execOp,e1,e2,e3,asBool]
theorem eW {x:Operand} {b:Bool} (hx:ev F x = some (.bool b)) {T:TypeId}:VS P N c ⟨d, .unOp .not T x,ty,p,af,g⟩ F H (.bool (!b)):=
  br (by simp) fun a w hf _ _=>by simp [execOp,bK hf hx,Op.unary]
section ints
variable {x y:Operand} {k:IntKind} {a b r:Int} {T U:TypeId}
theorem p5 (hx:ev F x = some (.int k a)) (hy:ev F y = some (.int k b)) (h:k.wrap (a + b) = r):VS P N c ⟨d, .binOp .add T x y U,ty,p,af,g⟩ F H (.int k r):=
  br (by simp) fun a' w hf _ _=>by simp [execOp,bK hf hx,bK hf hy,eqGuard,binOp,Op.intArith,h]
theorem oR (hx:ev F x = some (.int k a)) (hy:ev F y = some (.int k b)) (h:k.wrap (a - b) = r):VS P N c ⟨d, .binOp .sub T x y U,ty,p,af,g⟩ F H (.int k r):=
  br (by simp) fun a' w hf _ _=>by simp [execOp,bK hf hx,bK hf hy,eqGuard,binOp,Op.intArith,h]
theorem xw (hx:ev F x = some (.int k a)) (hy:ev F y = some (.int k b)) (h:k.wrap (a * b) = r):VS P N c ⟨d, .binOp .mul T x y U,ty,p,af,g⟩ F H (.int k r):=
  br (by simp) fun a' w hf _ _=>by simp [execOp,bK hf hx,bK hf hy,eqGuard,binOp,Op.intArith,h]
theorem Bo (hx:ev F x = some (.int k a)) (hy:ev F y = some (.int k b)) (h0:b ≠ 0) (h:a.tmod b = r):VS P N c ⟨d, .binOp .rem T x y U,ty,p,af,g⟩ F H (.int k r):=
  br (by simp) fun a' w hf _ _=>by simp [execOp,bK hf hx,bK hf hy,eqGuard,binOp,Op.intDiv,h,h0]
theorem C5 {op:BinOp} {v:Value} (hx:ev F x = some (.int k a)) (hy:ev F y = some (.int k b)) (ho:(op matches .and | .or | .xor | .andNot) = true)
    (h:∀P w,(Op.intBits op k a b).run P w = .ok v w):VS P N c ⟨d, .binOp op T x y U,ty,p,af,g⟩ F H v:=
  br (by simp) fun a' w hf _ _=>by cases op <;> simp at ho <;> simp [execOp,bK hf hx,bK hf hy,eqGuard,binOp,h]
theorem FW {k' : IntKind} (hx:ev F x = some (.int k a)) (hy:ev F y = some (.int k' b)) (h0:0 ≤ b) (h:k.wrap (a * 2 ^ (min b.toNat k.bits)) = r):VS P N c ⟨d, .binOp .shl T x y U,ty,p,af,g⟩ F H (.int k r):=
  br (by simp) fun a' w hf _ _=>by simp [execOp,bK hf hx,bK hf hy,eqGuard,binOp,Op.shift,h,Int.not_lt.2 h0]
theorem FV {k' : IntKind} (hx:ev F x = some (.int k a)) (hy:ev F y = some (.int k' b)) (h0:0 ≤ b) (h:a.fdiv (2 ^ (min b.toNat k.bits)) = r):VS P N c ⟨d, .binOp .shr T x y U,ty,p,af,g⟩ F H (.int k r):=
  br (by simp) fun a' w hf _ _=>by simp [execOp,bK hf hx,bK hf hy,eqGuard,binOp,Op.shift,h,Int.not_lt.2 h0]
theorem dM (hx:ev F x = some (.int k a)) (hy:ev F y = some (.int k b)):VS P N c ⟨d, .binOp .eql T x y U,ty,p,af,g⟩ F H (.bool (a == b)):=
  br (by simp) fun a' w hf _ _=>by simp [execOp,bK hf hx,bK hf hy,eqGuard,binOp,Op.intCmp]
theorem j5 (hx:ev F x = some (.int k a)) (hy:ev F y = some (.int k b)):VS P N c ⟨d, .binOp .neq T x y U,ty,p,af,g⟩ F H (.bool (a != b)):=
  br (by simp) fun a' w hf _ _=>by simp [execOp,bK hf hx,bK hf hy,eqGuard,binOp,Op.intCmp]
theorem nv (hx:ev F x = some (.int k a)) (hy:ev F y = some (.int k b)):VS P N c ⟨d, .binOp .lss T x y U,ty,p,af,g⟩ F H (.bool (decide (a < b))):=
  br (by simp) fun a' w hf _ _=>by simp [execOp,bK hf hx,bK hf hy,eqGuard,binOp,Op.intCmp]
theorem nw (hx:ev F x = some (.int k a)) (hy:ev F y = some (.int k b)):VS P N c ⟨d, .binOp .leq T x y U,ty,p,af,g⟩ F H (.bool (decide (a ≤ b))):=
  br (by simp) fun a' w hf _ _=>by simp [execOp,bK hf hx,bK hf hy,eqGuard,binOp,Op.intCmp]
theorem kW (hx:ev F x = some (.int k a)) (hy:ev F y = some (.int k b)):VS P N c ⟨d, .binOp .gtr T x y U,ty,p,af,g⟩ F H (.bool (decide (b < a))):=
  br (by simp) fun a' w hf _ _=>by simp [execOp,bK hf hx,bK hf hy,eqGuard,binOp,Op.intCmp]
theorem lF (hx:ev F x = some (.int k a)) (hy:ev F y = some (.int k b)):VS P N c ⟨d, .binOp .geq T x y U,ty,p,af,g⟩ F H (.bool (decide (b ≤ a))):=
  br (by simp) fun a' w hf _ _=>by simp [execOp,bK hf hx,bK hf hy,eqGuard,binOp,Op.intCmp]
theorem FX (hx:ev F x = some (.int k a)) (h:k.wrap (0 - a) = r):VS P N c ⟨d, .unOp .neg T x,ty,p,af,g⟩ F H (.int k r):=
  br (by simp) fun a' w hf _ _=>by simp at h; simp [execOp,bK hf hx,Op.unary,Op.intArith,h]
end ints
class v7 (P:Program) (t:TypeId) (k:outParam IntKind):Prop where
  ok:P.underlying t = some (.int k)
class OR (P:Program) (t:TypeId):Prop where
  ok:P.underlying t = some .bool
theorem lq {x:Operand} {k k' : IntKind} {a r:Int} {S T:TypeId} (hx:ev F x = some (.int k a)) [hT:v7 P T k'] [hS:v7 P S k] (h:k'.wrap a = r) :
    VS P N c ⟨d, .convert S T x,ty,p,af,g⟩ F H (.int k' r):=
  br (by simp) fun a' w hf _ _=>by
    have h1:=run_underlying hT.ok w
    have h2:=run_underlying hS.ok w
    simp [execOp,bK hf hx,convert,h1,h2,Conv.intToInt,h]
theorem bt {x:Operand} {vs:List Value} {i:Nat} {v:Value} (hx:ev F x = some (.tuple vs.toArray)) (hv:vs[i]? = some v):VS P N c ⟨d, .extract x i,ty,p,af,g⟩ F H v:=
  br (by simp) fun a w hf _ _=>by simp [execOp,bK hf hx,Instr.extract,hv]
def uu (P:Program) (s f off:Nat):Bool:=match P.underlying s with
  | some (.struct fs)=>match fs[f]? with
    | some fl=>Nat.beq fl.offset off && (match P.info? fl.type with | some i=>!Nat.beq i.size 0 | none=>false)
    | none=>false
  | _=>false
class gU (P:Program) (s:TypeId) (f:Nat) (off:outParam Nat):Prop where
  ok:uu P s f off = true
theorem gU.get {s f off:Nat} (h:uu P s f off = true):∃fs fl i,P.underlying s = some (.struct fs)∧fs[f]? = some fl∧fl.offset = off∧P.info? fl.type = some i∧i.size ≠ 0:=by
  unfold uu at h
  split at h
  · rename_i fs h1
    split at h
    · rename_i fl h2
      split at h
      · rename_i i h3
        simp only [Bool.and_eq_true,Bool.not_eq_true'] at h
        exact ⟨fs,fl,i,h1,h2,Nat.eq_of_beq_eq_true h.1,h3,fun e=>by rw [e] at h; exact absurd h.2 (by decide)⟩
      · simp at h
    · cases h
  · cases h
theorem mY {s f fo b off:Nat} [h:gU P s f fo] (w:World):(Instr.fieldAt s (Ptr b off) f).run P w = .ok (Ptr b (off + fo)) w:=by
  obtain ⟨fs,fl,i,h1,h2,h3,h4,h5⟩:=gU.get h.ok
  simp [Instr.fieldAt,run_underlying h1,h2,Instr.sureAddr,fieldPlace,sizeOf,typeInfo,h4,h5,Addr.add_lit,h3]
theorem aH {x:Operand} {s f fo b:Nat} [gU P s f fo] (hx:ev F x = some (Ptr b 0)):VS P N c ⟨d, .fieldAddr s x f,ty,p,af,g⟩ F H (Ptr b fo):=
  br (by simp) fun a w hf _ _=>by
    have:=mY (P:=P) (s:=s) (f:=f) (b:=b) (off:=0) w
    rw [Nat.zero_add] at this
    simp only [execOp,bK hf hx]
    simp [this]
theorem eX {x:Operand} {s f fo b off:Nat} [gU P s f fo] (hx:ev F x = some (Ptr b off)):VS P N c ⟨d, .fieldAddr s x f,ty,p,af,g⟩ F H (Ptr b (off + fo)):=
  br (by simp) fun a w hf _ _=>by
    have:=mY (P:=P) (s:=s) (f:=f) (b:=b) (off:=off) w
    simp only [execOp,bK hf hx]
    simp [this]
def xj (P:Program) (t len e sz:Nat):Bool:=match P.underlying t with
  | some (.array l e')=>Nat.beq l len && Nat.beq e' e && (match P.info? e with | some i=>Nat.beq i.size sz | none=>false)
  | _=>false
class mc (P:Program) (t:TypeId) (len e sz:outParam Nat):Prop where
  ok:xj P t len e sz = true
theorem mc.get {t len e sz:Nat} (h:xj P t len e sz = true):∃i,P.underlying t = some (.array len e)∧P.info? e = some i∧i.size = sz:=by
  unfold xj at h
  split at h
  · rename_i l e' h1
    split at h
    · rename_i i h3
      simp only [Bool.and_eq_true] at h
      obtain ⟨⟨h4,h5⟩,h6⟩:=h
      rw [Nat.eq_of_beq_eq_true h4,Nat.eq_of_beq_eq_true h5] at h1
      exact ⟨i,h1,h3,Nat.eq_of_beq_eq_true h6⟩
    · simp at h
  · cases h
def x6 (P:Program) (t e sz:Nat):Bool:=match P.underlying t with
  | some (.slice e')=>Nat.beq e' e && (match P.info? e with | some i=>Nat.beq i.size sz | none=>false)
  | _=>false
class qI (P:Program) (t:TypeId) (e sz:outParam Nat):Prop where
  ok:x6 P t e sz = true
theorem qI.get {t e sz:Nat} (h:x6 P t e sz = true):∃i,P.underlying t = some (.slice e)∧P.info? e = some i∧i.size = sz:=by
  unfold x6 at h
  split at h
  · rename_i e' h1
    split at h
    · rename_i i h3
      simp only [Bool.and_eq_true] at h
      obtain ⟨h4,h6⟩:=h
      rw [Nat.eq_of_beq_eq_true h4] at h1
      exact ⟨i,h1,h3,Nat.eq_of_beq_eq_true h6⟩
    · simp at h
  · cases h
theorem gB {x y:Operand} {t len e sz b:Nat} {k:IntKind} {i:Int} {m:Nat} [h:mc P t len e sz] (hx:ev F x = some (Ptr b 0)) (hy:ev F y = some (.int k i)) (hi:i = (m:Int)) (hm:m < len) :
    VS P N c ⟨d, .indexAddr t x y,ty,p,af,g⟩ F H (Ptr b (m * sz)):=
  br (by simp) fun a w hf _ _=>by
    obtain ⟨inf,h1,h2,h3⟩:=mc.get h.ok
    subst hi
    simp [execOp,bK hf hx,bK hf hy,Instr.indexAt,asIntOf,run_underlying h1,Instr.sureAddr,sizeOf,typeInfo,h2,h3,Addr.add_lit]
    intro hle
    omega
theorem bV {x y:Operand} {t len e sz b off:Nat} {k:IntKind} {i:Int} {m:Nat} [h:mc P t len e sz] (hx:ev F x = some (Ptr b off)) (hy:ev F y = some (.int k i)) (hi:i = (m:Int)) (hm:m < len) :
    VS P N c ⟨d, .indexAddr t x y,ty,p,af,g⟩ F H (Ptr b (off + m * sz)):=
  br (by simp) fun a w hf _ _=>by
    obtain ⟨inf,h1,h2,h3⟩:=mc.get h.ok
    subst hi
    simp [execOp,bK hf hx,bK hf hy,Instr.indexAt,asIntOf,run_underlying h1,Instr.sureAddr,sizeOf,typeInfo,h2,h3,Addr.add_lit]
    intro hle
    omega
theorem qm {x:Operand} {a:Addr} (hx:ev F x = some (.pointer (some a))):VS P N c ⟨d, .nilCheck x,ty,p,af,g⟩ F H (.pointer (some a)):=
  br (by simp) fun a w hf _ _=>by simp [execOp,bK hf hx]
theorem cell_of {w:World} {b T:Nat} {cs:List Value} (h:(aZ.cells b T cs).holds w) (j:Nat):w.cell? ⟨b,j,none⟩ = cs[j]?:=by
  have:w.heap[b]? = some (.cells cs.toArray T (0,0)):=h
  simp [World.cell?,this]
theorem j3 {t:TypeId} {a:Addr} {v:Value} {w:World} [kB P t] (h:w.cell? a = some v):(loadVar t a).run P w = .ok v w:=by
  simp [loadVar,mN,load,Sem.run,h]
theorem iR {t:TypeId} {b off n:Nat} {vs:List Value} {w:World} [ja P t n] (hl:vs.length = n) (h:∀(j:Nat) v,vs[j]? = some v→w.cell? ⟨b,off + j,none⟩ = some v) :
    (loadVar t ⟨b,off,none⟩).run P w = .ok (.agg vs.toArray) w:=by
  have hl' : (loadCells ⟨b,off,none⟩ vs.length).run P w = .ok vs.toArray w:=
    run_loadCells_list (P:=P) w ⟨b,off,none⟩ vs (fun j v hv=>by rw [Addr.add_lit]; exact h j v hv)
  have hs:(sizeOf t).run P w = .ok n w:=run_sizeOf w
  simp [loadVar,Sem.run_bind,kJ,hs,← hl,hl']
theorem bG {x:Operand} {t b off T:Nat} {cs:List Value} {v:Value} (hx:ev F x = some (Ptr b off)) [hr:lG H b T cs] [kB P t] (hv:cs[off]? = some v):VS P N c ⟨d, .load t x,ty,p,af,g⟩ F H v:=
  br (by simp) fun a w hf _ hp=>by
    have:=j3 (P:=P) (t:=t) (a:=⟨b,off,none⟩) ((cell_of (hp.holds _ hr.mem) off).trans hv)
    simp [execOp,bK hf hx,Instr.loadAt,Instr.sureAddr,this]
theorem aj {x:Operand} {t b T n:Nat} {cs:List Value} (hx:ev F x = some (Ptr b 0)) [hr:lG H b T cs] [ja P t n] (hl:cs.length = n):VS P N c ⟨d, .load t x,ty,p,af,g⟩ F H (.agg cs.toArray):=
  br (by simp) fun a w hf _ hp=>by
    have:=iR (P:=P) (t:=t) (b:=b) (off:=0) (w:=w) hl (fun j v hv=>by rw [Nat.zero_add,cell_of (hp.holds _ hr.mem)]; exact hv)
    simp [execOp,bK hf hx,Instr.loadAt,Instr.sureAddr,this]
theorem aR {x:Operand} {t b off T n:Nat} {cs vs:List Value} (hx:ev F x = some (Ptr b off)) [hr:lG H b T cs] [ja P t n] (hv:(cs.drop off).take n = vs) (hl:vs.length = n):VS P N c ⟨d, .load t x,ty,p,af,g⟩ F H (.agg vs.toArray):=
  br (by simp) fun a w hf _ hp=>by
    have:=iR (P:=P) (t:=t) (b:=b) (off:=off) (w:=w) hl (fun j v hj=>by
      rw [cell_of (hp.holds _ hr.mem)]
      rw [← hv,List.getElem?_take] at hj
      split at hj
      · rwa [List.getElem?_drop] at hj
      · cases hj)
    simp [execOp,bK hf hx,Instr.loadAt,Instr.sureAddr,this]
def bP (cs:List Value) (off:Nat) (vs:List Value):List Value:=cs.take off++vs++cs.drop (off + vs.length)
def ju (vs:List Value):Prop:=∀v ∈ vs,v.oneCell' = true
theorem mM {t b off T n:Nat} {cs vs:List Value} {v:Value} {w:World} [BL P t n] (h:(aZ.cells b T cs).holds w) (hv:v.cells.toList = vs) (hl:vs.length = n) (ho:off + n ≤ cs.length) (h1:ju vs) :
    ∃w',(storeVar t ⟨b,off,none⟩ v).run P w = .ok () w'∧(aZ.cells b T (bP cs off vs)).holds w'∧bw [b] w w':=by
  have hb:w.heap[b]? = some (.cells cs.toArray T (0,0)):=h
  have hst:=run_storeCells_at P b off T vs 0 cs.toArray w hb (by simp; omega) h1
  simp only [Nat.add_zero] at hst
  have hs:(sizeOf t).run P w = .ok n w:=run_sizeOf w
  have hsz:v.cells.size = n:=by rw [← hl,← hv]; simp
  refine ⟨w.setRow b (bP cs off vs).toArray,?_,?_,?_⟩
  · simp only [storeVar,Sem.run_bind,hs,Result.andThen_ok,hsz,hv,ne_eq,not_true_eq_false,if_false]
    exact hst
  · have:=setRow_heap w b cs.toArray (bP cs off vs).toArray T (0,0) hb
    simpa [aZ.holds,bP] using this
  · exact ⟨rfl,rfl,rfl,by simp,fun k _ hk=>setRow_other w b k _ (by simpa using hk)⟩
theorem cy.KV {bs:List Nat} {n0 b:Nat} {H H' : List aZ} {cs' : List Value} {w w' : World} (h:cy bs n0 H w) (hs:sH H b cs' H') (hw:bw [b] w w') (hn:n0 ≤ w.heap.size)
    (hc:∀T cs,(aZ.cells b T cs).holds w→(aZ.cells b T cs').holds w'):cy bs n0 H' w':=by
  obtain ⟨k,T,cs,hk,rfl⟩:=hs.ok
  have hm:aZ.cells b T cs ∈ H:=List.mem_of_getElem? hk
  refine h.set hk hw.size (fun j hj hne=>hw.block j hj hne) (hc T cs (h.holds _ hm)) hn (fun b' hb'=>?_)
  have e:b' = b:=by simpa [aZ.gN] using hb'
  subst e
  exact ⟨.inl (by simp [aZ.gN]),Nat.lt_of_lt_of_le (h.own _ hm b' (by simp [aZ.gN])).2 hw.size⟩
theorem bw.store {bs:List Nat} {w0 w w' : World} {H:List aZ} {r:aZ} {b:Nat} (h:bw bs w0 w) (hp:cy bs w0.heap.size H w) (hm:r ∈ H) (hb:b ∈ r.gN) (hw:bw [b] w w'):bw bs w0 w':=
  h.trans hw (fun x hx=>by simp at hx; subst hx; exact (hp.own r hm _ hb).1)
theorem vC {w:World} {b T T' : Nat} {cs cs' : List Value} (h:(aZ.cells b T cs).holds w) (h' : (aZ.cells b T' cs').holds w):T = T'∧cs = cs':=by
  have h1:w.heap[b]? = some (.cells cs.toArray T (0,0)):=h
  have h2:w.heap[b]? = some (.cells cs'.toArray T' (0,0)):=h'
  rw [h1] at h2
  simp at h2
  exact ⟨h2.2,h2.1⟩
variable {D:List Deferred} {ops:Array Oper} {Q:Exit→Act→World→Prop} {rest:List Oper}
theorem nB {x y:Operand} {t b off T n:Nat} {cs vs cs' : List Value} {v:Value} {H' : List aZ} (hx:ev F x = some (Ptr b off)) (hy:ev F y = some v) [hr:lG H b T cs] [BL P t n]
    (hv:v.cells.toList = vs) (hl:vs.length = n) (ho:off + n ≤ cs.length) (h1:ju vs) (hc:bP cs off vs = cs') [hs:sH H b cs' H'] :
    RX (α:=Unit) P N c ⟨d, .store t x y,ty,p,af,g⟩ F H (fun _=>True) (fun _=>undef) (fun _=>H'):=fun D a w next Q hst hk=>by
  obtain ⟨w',e1,e2,e3⟩:=mM (P:=P) (t:=t) (off:=off) (hst.hp.holds _ hr.mem) hv hl ho h1
  refine sX (by simp) (w':=w') ?_ (hk () w' trivial (hst.si.store hst.hp hr.mem (by simp [aZ.gN]) e3) (hst.hp.KV hs e3 hst.si.size ?_))
  · simp [execOp,bK hst.fr hx,bK hst.fr hy,Instr.storeAt,Instr.sureAddr,e1]
  · intro T' QA hT
    have:=vC (hst.hp.holds _ hr.mem) hT
    obtain ⟨rfl,rfl⟩:=this
    rw [← hc]; exact e2
def ur (P:Program) (t:Nat):Option (List Value):=(P.info? t).bind fun i=>i.zero.map fun z=>z.cells.toList
class bY (P:Program) (t:TypeId) (cs:outParam (List Value)):Prop where
  ok:ur P t = some cs
theorem bY.get {t:Nat} {cs:List Value} (h:ur P t = some cs):∃i z,P.info? t = some i∧i.zero = some z∧z.cells.toList = cs:=by
  unfold ur at h
  cases hi:P.info? t with
  | none=>simp [hi] at h
  | some i =>
    cases hz:i.zero with
    | none=>simp [hi,hz] at h
    | some z=>simp [hi,hz] at h; exact ⟨i,z,rfl,hz,h⟩
theorem cy.box {bs:List Nat} {n0:Nat} {H:List aZ} {w:World} (h:cy bs n0 H w) (t:TypeId) (cs:List Value) (hn:n0 ≤ w.heap.size):cy bs n0 (.cells w.heap.size t cs::H) (w.alloc (.cells cs.toArray t)):=
  h.fresh (bw.alloc _ _) (by show (w.heap.push _)[w.heap.size]? = _; simp) hn (fun b hb=>by
    have e:b = w.heap.size:=by simpa [aZ.gN] using hb
    subst e
    exact ⟨Nat.le_refl _,by simp⟩)
theorem xC {x:Operand} {t:Nat} {v:Value} {cs:List Value} (hx:ev F x = some v) (hc:v.cells.toList = cs) :
    RX P N c ⟨d, .box t x,ty,p,af,g⟩ F H (fun _=>True) (fun b=>Ptr b 0) (fun b=>.cells b t cs::H):=fun D a w next Q hst hk=>by
  refine g7 (by simp) (w':=w.alloc (.cells cs.toArray t)) ?_ (hk w.heap.size _ trivial (hst.si.ext (bw.alloc _ _)) (hst.hp.box t cs hst.si.size))
  subst hc
  simp [execOp,bK hst.fr hx,Instr.box,newVar,newRow,newObj,Sem.run]
theorem bH {x:Operand} {t:Nat} {cs:List Value} (hx:ev F x = some (.agg cs.toArray)) :
    RX P N c ⟨d, .box t x,ty,p,af,g⟩ F H (fun _=>True) (fun b=>Ptr b 0) (fun b=>.cells b t cs::H):=xC hx rfl
theorem yh {x:Operand} {t:Nat} {v:Value} (hx:ev F x = some v) (hc:v.cells.toList = [v]) :
    RX P N c ⟨d, .box t x,ty,p,af,g⟩ F H (fun _=>True) (fun b=>Ptr b 0) (fun b=>.cells b t [v]::H):=xC hx hc
theorem bk {t:Nat} {cs:List Value} [hz:bY P t cs] :
    RX P N c ⟨d, .alloc t,ty,p,af,g⟩ F H (fun _=>True) (fun b=>Ptr b 0) (fun b=>.cells b t cs::H):=fun D a w next Q hst hk=>by
  refine g7 (by simp) (w':=w.alloc (.cells cs.toArray t)) ?_ (hk w.heap.size _ trivial (hst.si.ext (bw.alloc _ _)) (hst.hp.box t cs hst.si.size))
  obtain ⟨i,z,h1,h2,rfl⟩:=bY.get hz.ok
  simp [execOp,Instr.alloc,zeroValue,typeInfo,h1,h2,newVar,newRow,newObj,Sem.run]
theorem qn {fn:Fn} {cap:List Operand} {vs:List Value} (hc:qw F cap = some vs):VS P N c ⟨d, .makeFunc fn #[] cap.toArray,ty,p,af,g⟩ F H (.func fn #[] vs.toArray):=
  br (by simp) fun a w hf _ _=>by simp [execOp,Instr.makeFunc,pU hf hc]
end ops
end Go.Bw
namespace Go.Bw
open Go Go.RowKit
def bI (H:List aZ):List Nat:=H.flatMap aZ.gN
structure Fn {α:Type} (P:Program) (f:Nat) (args:List Value) (pre:World→Prop) (oh:List aZ) (p:α→Prop) (fv:α→Value) (fH:α→List aZ):Prop where
  enter:∀args w,(callFunc f args).run P w = .ok (.enter f args) w
  calls:∀w,pre w→cy (bI oh) w.heap.size oh w→Calls P f args.toArray w fun e w'=>∃x,p x∧e = .returned (fv x)∧bw (bI oh) w w'∧cy (bI oh) w.heap.size (fH x) w'
abbrev xE (P:Program) (f:Nat) (args:List Value) (v:Value):Prop:=Fn (α:=Unit) P f args (fun _=>True) [] (fun _=>True) (fun _=>v) (fun _=>[])
abbrev qM (P:Program) (f:Nat) (args:List Value) (pre:World→Prop) (v:Value):Prop:=Fn (α:=Unit) P f args pre [] (fun _=>True) (fun _=>v) (fun _=>[])
inductive k6 (P:Program) (F:dB) (H:List aZ):List ResultVar→List Value→Prop where
  | nil:k6 P F H [] []
  | tmp {t:Nat} {v:Value} {rs:List ResultVar} {vs:List Value} (hv:lk F t = some v) (h:k6 P F H rs vs):k6 P F H (.tmp t::rs) (v::vs)
  | agg {t ty b T n:Nat} {cs:List Value} {rs:List ResultVar} {vs:List Value} (hv:lk F t = some (Ptr b 0)) (hr:lG H b T cs) (ht:ja P ty n) (hl:cs.length = n) (h:k6 P F H rs vs):k6 P F H (.cell t ty::rs) (.agg cs.toArray::vs)
  | one {t ty b T:Nat} {v:Value} {cs:List Value} {rs:List ResultVar} {vs:List Value} (hv:lk F t = some (Ptr b 0)) (hr:lG H b T cs) (ht:kB P ty) (hl:cs = [v]) (h:k6 P F H rs vs):k6 P F H (.cell t ty::rs) (v::vs)
def qS:List Value→Value
  | [v]=>v
  | vs=>.tuple vs.toArray
def qT (t:Array Value):ResultVar→Sem Value
  | .tmp k=>pure (t.getD k undef)
  | .cell a ty=>do loadVar ty (← asAddr (t.getD a undef))
theorem qc {P:Program} {fn:Func} {F:dB} {H:List aZ} {rs:List ResultVar} {vs:List Value} {t:Array Value} {bs:List Nat} {n0:Nat} {w:World} (hf:fn.results.toList = rs) (hF:nF F t) (hp:cy bs n0 H w) (h:k6 P F H rs vs) :
    (results fn t).run P w = .ok (qS vs) w:=by
  have get:∀{k:Nat} {v:Value},t[k]? = some v→t.getD k undef = v:=fun h=>by simp [h]
  have key:∀{rs vs},k6 P F H rs vs→(rs.mapM (qT t)).run P w = .ok vs w:=by
    intro rs vs h
    induction h with
    | nil=>simp
    | tmp hv h ih =>
      have h1:qT t (.tmp _) = pure _:=congrArg pure (get (hF _ _ hv))
      simp only [List.mapM_cons,Sem.run_bind,h1,Sem.run_pure,Result.andThen_ok,ih]
    | @agg t' ty b T n cs Po vs' hv hr ht hl h ih =>
      have h1:=get (hF _ _ hv)
      have h2:=iR (P:=P) (t:=ty) (off:=0) (w:=w) hl (fun j v hv=>by rw [Nat.zero_add,cell_of (hp.holds _ hr.mem)]; exact hv)
      simp only [List.mapM_cons,Sem.run_bind,qT,h1,asAddr,Sem.run_pure,h2,Result.andThen_ok,ih]
    | @one t' ty b T v cs Po vs' hv hr ht hl h ih =>
      have h1:=get (hF _ _ hv)
      subst hl
      have h2:=j3 (P:=P) (t:=ty) (a:=⟨b,0,none⟩) (v:=v) ((cell_of (hp.holds _ hr.mem) 0).trans rfl)
      simp only [List.mapM_cons,Sem.run_bind,qT,h1,asAddr,Sem.run_pure,h2,Result.andThen_ok,ih]
  have hr:fn.results = rs.toArray:=by rw [← hf]
  have hk:=key h
  show (do let vs ← fn.results.mapM (qT t); pure (if h:vs.size = 1 then vs[0] else .tuple vs):Sem Value).run P w = _
  rw [hr,List.mapM_toArray]
  simp only [Sem.run_bind,Sem.run_map,hk,Result.andThen_ok]
  match vs with
  | []=>simp [qS]
  | [v]=>simp [qS]
  | u::v::r=>simp [qS]
def DM {α:Type} (c:Cx) (p:α→Prop) (fv:α→Value) (fH:α→List aZ):Ending→World→Prop:=
  fun e w'=>∃x,p x∧e = .returned (fv x)∧bw c.bs c.w0 w'∧cy c.bs c.w0.heap.size (fH x) w'
def Post {α:Type} (P:Program) (c:Cx) (fn:Func) (p:α→Prop) (fv:α→Value) (fH:α→List aZ):Exit→Act→World→Prop:=
  bodyPostM (FA none) 0 P fn (DM c p fv fH)
section
variable {α:Type} {P:Program} {N:Nat} {c:Cx} {fn:Func} {p:α→Prop} {fv:α→Value} {fH:α→List aZ} {F:dB} {H:List aZ}
theorem pN {a:Act} {w:World} {vs:List Value} {rs:List ResultVar} (hst:St N c [] F H a w) (x:α) (hf:fn.results.toList = rs) (hr:k6 P F H rs vs) (hp:p x) (hv:qS vs = fv x) {ks:List Nat}
    (hk:pick H ks = some (fH x)) (hn:ks.Nodup):LeavesInM (FA none) 0 P fn a.tmps (DM c p fv fH) [] .returning w:=
  ⟨_,qc hf hst.fr hst.hp hr,x,hp,by rw [hv],hst.si,hst.hp.pick hk hn⟩
theorem bW (x:α) {vs:List Value} {rs:List ResultVar} (hf:fn.results.toList = rs) (hr:k6 P F H rs vs) (hp:p x) (hv:qS vs = fv x) {ks:List Nat} (hk:pick H ks = some (fH x)) (hn:ks.Nodup) :
    WQ N c [] (Post P c fn p fv fH) .ret F H:=fun a w hst=>by
  show LeavesInM (FA none) 0 P fn a.tmps _ a.defers .returning w
  rw [hst.df]
  exact pN hst x hf hr hp hv hk hn
theorem rN (x:α) {vs:List Value} {rs:List ResultVar} (hf:fn.results.toList = rs) (hr:k6 P F H rs vs) (hp:p x) (hv:qS vs = fv x) {ks:List Nat} (hk:pick H ks = some (fH x)) (hn:ks.Nodup) :
    WQ N c [] (Post P c fn p fv fH) .normal F H:=fun a w hst=>by
  show LeavesInM (FA none) 0 P fn a.tmps _ a.defers .returning w
  rw [hst.df]
  exact pN hst x hf hr hp hv hk hn
def mark (d:Nat):Deferred:={ target:=.collected d,args:=#[] }
theorem St.D6 {D:List Deferred} {a:Act} {w:World} {d:Nat} {o' : Obj} {H' : List aZ} (hst:St N c D F H a w) [ho:p8 H d (.deferred (some []))] (hs:qz H d o' H') :
    St N c D F H' a (w.putObj d o'):=by
  have hm:=hst.hp.holds _ ho.mem
  have hd:w.heap[d]? = some (.deferred (some [])):=hm
  have hlt:=(Array.getElem?_eq_some_iff.1 hd).1
  have nN:bw [d] w (w.putObj d o'):=⟨rfl,rfl,rfl,by simp [World.putObj],fun k _ hk=>World.putObj_heap_other (by simpa using hk)⟩
  refine ⟨hst.tm,hst.fr,hst.df,hst.si.store hst.hp ho.mem (by simp [aZ.gN]) nN,?_⟩
  obtain ⟨k,o,hk,rfl⟩:=hs.ok
  refine hst.hp.set hk nN.size (fun j hj hne=>nN.block j hj hne) (World.putObj_heap_same hlt) hst.si.size (fun b hb=>?_)
  have e:b = d:=by simpa [aZ.gN] using hb
  subst e
  exact ⟨.inl (by simp [aZ.gN]),by rw [World.putObj]; simpa using hlt⟩
theorem wI {D:List Deferred} {a:Act} {w:World} {d:Nat} {H' : List aZ} (hst:St N c (mark d::D) F H a w) [p8 H d (.deferred (some []))] [hs:qz H d (.deferred none) H'] {R:Ending→World→Prop}
    (h:St N c (mark d::D) F H' a (w.putObj d (.deferred none))→LeavesInM (FA none) 0 P fn a.tmps R D .returning (w.putObj d (.deferred none))) :
    LeavesInM (FA none) 0 P fn a.tmps R (mark d::D) .returning w:=by
  have ho:p8 H d (.deferred (some [])):=inferInstance
  have hd:w.heap[d]? = some (.deferred (some [])):=hst.hp.holds _ ho.mem
  exact ⟨by simp, .inl ⟨d,_,rfl,run_takeDeferred hd,h (hst.D6 hs)⟩⟩
theorem jJ (x:α) {d:Nat} {H' : List aZ} [p8 H d (.deferred (some []))] [hs:qz H d (.deferred none) H'] {vs:List Value} {rs:List ResultVar} (hf:fn.results.toList = rs) (hr:k6 P F H' rs vs) (hp:p x) (hv:qS vs = fv x) {ks:List Nat} (hk:pick H' ks = some (fH x)) (hn:ks.Nodup) :
    WQ N c [mark d] (Post P c fn p fv fH) .ret F H:=fun a w hst=>by
  show LeavesInM (FA none) 0 P fn a.tmps _ a.defers .returning w
  rw [hst.df]
  exact wI (hs:=hs) hst fun h=>pN (a:={ a with defers:=[] }) ⟨h.tm,h.fr,rfl,h.si,h.hp⟩ x hf hr hp hv hk hn
end
def w6:Nat→List Value→dB
  | _,[]=>[]
  | i,v::r=>(i,v)::w6 (i + 1) r
theorem xW:∀(args:List Value) (i d:Nat) (v:Value),lk (w6 i args) d = some v→i ≤ d∧args[d - i]? = some v:=by
  intro args
  induction args with
  | nil=>intro i d v h; simp [w6,lk] at h
  | cons u r ih =>
    intro i d v h
    simp only [w6,lk] at h
    by_cases e:i = d
    · subst e; simp at h; subst h; simp
    · rw [kU e] at h
      obtain ⟨h1,h2⟩:=ih (i + 1) d v h
      exact ⟨by omega,by rw [show d - i = (d - (i + 1)) + 1 from by omega]; simpa using h2⟩
theorem eR {α:Type} {P:Program} {f:Nat} {fn:Func} {code:Code} {N:Nat} {args:List Value} {pre:World→Prop} {oh:List aZ} {p:α→Prop} {fv:α→Value} {fH:α→List aZ}
    (hf:P.funcs[f]? = some fn) (hname:(fn.name == "runtime.NumGoroutine") = false) (hb:fn.body = some code) (hN:fn.ntmps = N) (ha:Nat.ble args.length N = true)
    (h:∀c:Cx,c.bs = bI oh→pre c.w0→c.ro = none→WP P N c [] code (Post P c fn p fv fH) (w6 0 args) oh):Fn P f args pre oh p fv fH:=by
  refine ⟨fun args w=>?_,fun w hw hH=>?_⟩
  · have h1:fn.name ≠ "runtime.NumGoroutine":=by simpa using hname
    simp [callFunc,hf,h1,hb,Go.mark]
  · refine (callsIn_wide (n:=0)).1 (callsIn_of_wp_marks (F:=Fence.wide) hf hb trivial ?_)
    refine h ⟨none,w,bI oh⟩ rfl hw rfl _ w ⟨?_,?_,rfl,bw.refl _ _,hH⟩
    · have:=Nat.le_of_ble_eq_true ha
      simp; omega
    · intro d v hd
      obtain ⟨_,h2⟩:=xW args 0 d v hd
      simp only [Nat.sub_zero] at h2
      have hlt:=(List.getElem?_eq_some_iff.1 h2).1
      rw [Array.getElem?_append_left (by simpa using hlt)]
      simpa using h2
section
variable {α:Type} {P:Program} {N:Nat} {c:Cx} {F:dB} {H:List aZ} {d:Option Tmp} {ty:TypeId} {ps:String} {af:Array Edge} {g:Option (Nat × Bool)}
theorem jB {P:Program} {f:Nat} {args:Array Value} {w:World} {R:Ending→World→Prop} (ro:Option Nat) (h:Calls P f args w R):CallsIn (FA ro) 0 P f args w R:=
  ⟨trivial,fun cs _=>by
    obtain ⟨e,w',fr,r,s,x⟩:=((callsIn_wide (n:=0)).2 h).2 cs (room_wide _)
    exact ⟨e,w',fr,r,s,x⟩⟩
theorem Br {x:Operand} {args:List Operand} {ats:Array TypeId} {f:Nat} {fst cap:Array Value} {us vs:List Value} {pre:World→Prop} {p:α→Prop} {fv:α→Value} {fH:α→List aZ}
    (hc:Fn P f vs pre [] p fv fH) (hx:ev F x = some (.func (.func f) fst cap)) (ha:qw F args = some us) (hv:fst.toList++us++cap.toList = vs)
    (hpre:∀w,bw c.bs c.w0 w→cy c.bs c.w0.heap.size H w→pre w) :
    RX P N c ⟨d, .call ⟨.value x,args.toArray,ats⟩,ty,ps,af,g⟩ F H p fv (fun i=>fH i++H):=fun D a w next Q hst hk=>by
  refine ⟨fun _ _=>trivial,?_⟩
  have hs:Oper.semAt (FA c.ro).round a.eval (⟨d, .call ⟨.value x,args.toArray,ats⟩,ty,ps,af,g⟩ : Oper) = execOp a.eval ⟨d, .call ⟨.value x,args.toArray,ats⟩,ty,ps,af,g⟩:=Oper.semAt_eq _ _ _ (by simp)
  have hr:(execOp a.eval ⟨d, .call ⟨.value x,args.toArray,ats⟩,ty,ps,af,g⟩).run P w = .ok (.enter f vs.toArray) w:=by
    have e1:=bK hst.fr hx
    have e2:=pU hst.fr ha
    have e3:fst++(args.toArray.map a.eval)++cap = vs.toArray:=by
      rw [← hv,← e2]
      simp
    simp only [execOp,resolve,e1,Deferred.ofValue,Sem.run_bind,Sem.run_pure,Result.andThen_ok,invoke,e3]
    exact hc.enter _ _
  rw [hs,hr]
  refine ⟨fun h=>by simp at h,jB c.ro ?_⟩
  have vv:=hc.calls w (hpre w hst.si hst.hp) (cy.nil _ _ _)
  intro cs
  obtain ⟨e,w',fr,⟨i,hp,he,hsi,hh⟩,rest⟩:=vv cs
  refine ⟨e,w',fr,?_,rest⟩
  subst he
  refine hk i w' hp (hst.si.ext hsi) ?_
  have hH:=hst.hp.ext hsi
  refine ⟨fun r hm=>?_,fun r hm b hb=>?_,?_⟩
  · rcases List.mem_append.1 hm with h1 | h1
    · exact hh.holds r h1
    · exact hH.holds r h1
  · rcases List.mem_append.1 hm with h1 | h1
    · obtain ⟨o,l⟩:=hh.own r h1 b hb
      simp [bI] at o
      exact ⟨.inr (Nat.le_trans hst.si.size o),l⟩
    · exact hH.own r h1 b hb
  · refine List.pairwise_append.2 ⟨hh.apart,hH.apart,fun r h1 s h2 b hb Cq=>?_⟩
    have l:=(hst.hp.own s h2 b Cq).2
    obtain ⟨o,_⟩:=hh.own r h1 b hb
    simp [bI] at o
    omega
theorem eU {args:List Operand} {ats:Array TypeId} {f:Nat} {vs:List Value} {pre:World→Prop} {p:α→Prop} {fv:α→Value} {fH:α→List aZ}
    (hc:Fn P f vs pre [] p fv fH) (ha:qw F args = some vs) (hpre:∀w,bw c.bs c.w0 w→cy c.bs c.w0.heap.size H w→pre w) :
    RX P N c ⟨d, .call ⟨.value (.func f),args.toArray,ats⟩,ty,ps,af,g⟩ F H p fv (fun i=>fH i++H):=
  Br (fst:=#[]) (cap:=#[]) (us:=vs) hc rfl ha (by simp) hpre
theorem bD {args:List Operand} {ats:Array TypeId} {f:Nat} {vs:List Value} {v:Value} {pre:World→Prop} (hc:qM P f vs pre v) (ha:qw F args = some vs) (hpre:∀w,bw c.bs c.w0 w→cy c.bs c.w0.heap.size H w→pre w) :
    VS P N c ⟨d, .call ⟨.value (.func f),args.toArray,ats⟩,ty,ps,af,g⟩ F H v:=fun D a w next Q hst hk=>by
  refine ⟨fun _ _=>trivial,?_⟩
  have hs:Oper.semAt (FA c.ro).round a.eval (⟨d, .call ⟨.value (.func f),args.toArray,ats⟩,ty,ps,af,g⟩ : Oper) = execOp a.eval ⟨d, .call ⟨.value (.func f),args.toArray,ats⟩,ty,ps,af,g⟩:=Oper.semAt_eq _ _ _ (by simp)
  have hr:(execOp a.eval ⟨d, .call ⟨.value (.func f),args.toArray,ats⟩,ty,ps,af,g⟩).run P w = .ok (.enter f vs.toArray) w:=by
    have e2:=pU hst.fr ha
    have e1:a.eval (.func f) = .func (.func f) #[] #[]:=rfl
    have e3:#[]++(args.toArray.map a.eval)++#[] = vs.toArray:=by rw [← e2]; simp
    simp only [execOp,resolve,e1,Deferred.ofValue,Sem.run_bind,Sem.run_pure,Result.andThen_ok,invoke,e3]
    exact hc.enter _ _
  rw [hs,hr]
  refine ⟨fun h=>by simp at h,jB c.ro ?_⟩
  have vv:=hc.calls w (hpre w hst.si hst.hp) (cy.nil _ _ _)
  intro cs
  obtain ⟨e,w',fr,⟨i,hp,he,hsi,hh⟩,rest⟩:=vv cs
  refine ⟨e,w',fr,?_,rest⟩
  subst he
  exact hk w' hsi
end
end Go.Bw
namespace Go.Bw
open Go Go.RowKit
theorem s8 {F:dB}:∀{ks:List Nat} {d:Nat} {v:Value},d ∈ ks→lk F d = some v→lk (jf F ks) d = some v:=by
  intro ks
  induction ks with
  | nil=>intro d v h; simp at h
  | cons k r ih =>
    intro d v h hl
    simp only [jf]
    by_cases e:k = d
    · subst e; rw [hl]; simp [lk]
    · have hm:d ∈ r:=by simpa [Ne.symm e] using h
      split
      · simp only [lk,kU e,cond_false]; exact ih hm hl
      · exact ih hm hl
section
variable (ops:Array Oper)
def uD (i:Nat):List Nat:=match ops[i]? with
  | some o=>(o.after.toList.filter fun e=>Region.binds .any e).map (·.on)
  | none=>[]
def jw (i:Nat):Option Nat:=(ops[i]?).bind (·.dst)
end
variable {P:Program} {N:Nat} {c:Cx} {D:List Deferred} {ops:Array Oper} {Q:Exit→Act→World→Prop}
def VG (P:Program) (N:Nat) (c:Cx) (ops:Array Oper) (o:Oper) (F:dB) (H:List aZ) (v:Value):Prop:=
  ∀D a w next Q,St N c D F H a w→(∀w',bw [] w w'→next (a.put o.dst v) w')→if Region.wanted o (yielded ops a.tmps) then o.wpIn (FA c.ro) 0 P a w next Q else next (a.put o.dst undef) w
theorem nT {o:Oper} {F:dB} {H:List aZ} {v:Value} (hg:o.guard = none) (h:VS P N c o F H v):VG P N c ops o F H v:=fun D a w next Q hst hk=>by
  simp only [Region.wanted,hg,if_true]
  exact h D a w next Q hst hk
theorem xx {o:Oper} {F:dB} {H:List aZ} {v:Value} {b:Bool} (hg:Gd ops F o.guard b) (h:b = true→VS P N c o F H v):VG P N c ops o F H (bif b then v else undef):=fun D a w next Q hst hk=>by
  rw [hg o a rfl hst.fr]
  cases b with
  | false=>exact hk w (bw.refl _ _)
  | true=>exact h rfl D a w next Q hst hk
def RG {α:Type} (P:Program) (N:Nat) (c:Cx) (ops:Array Oper) (o:Oper) (F:dB) (H:List aZ) (p:α→Prop) (fv:α→Value) (fH:α→List aZ):Prop:=
  ∀D a w next Q,St N c D F H a w→(∀x w',p x→bw c.bs c.w0 w'→cy c.bs c.w0.heap.size (fH x) w'→next (a.put o.dst (fv x)) w')→if Region.wanted o (yielded ops a.tmps) then o.wpIn (FA c.ro) 0 P a w next Q else next (a.put o.dst undef) w
theorem v8 {α:Type} {o:Oper} {F:dB} {H:List aZ} {p:α→Prop} {fv:α→Value} {fH:α→List aZ} (hg:o.guard = none) (h:RX P N c o F H p fv fH):RG P N c ops o F H p fv fH:=fun D a w next Q hst hk=>by
  simp only [Region.wanted,hg,if_true]
  exact h D a w next Q hst hk
abbrev Fl:=Nat × List Nat
def oS (P:Program) (N:Nat) (c:Cx) (ops:Array Oper) (F:dB) (H:List aZ):List Fl→Prop
  | []=>True
  | (i,ks)::r=>(∃o d v,ops[i]? = some o∧o.dst = some d∧lk F d = some v∧VG P N c ops o (jf F ks) H v)∧oS P N c ops F H r
def iN (P:Program) (N:Nat) (c:Cx) (ops:Array Oper) (H:List aZ):List Fl→dB→(dB→Prop)→Prop
  | [],F,K=>K F
  | (i,ks)::r,F,K=>∃o d v,ops[i]? = some o∧o.dst = some d∧Nat.blt d N = true∧VG P N c ops o (jf F ks) H v∧iN P N c ops H r ((d,v)::F) K
inductive Tr where
  | fin (re new:List Fl)
  | iH (re new:List Fl) (t:Tr)
  | alt (s:Nat) (ks:List Nat) (here more:Tr)
  | no
def Tr.alts:Tr→List Nat
  | .alt s _ _ more=>s::more.alts
  | _=>[]
def Tr.sN:Tr→Bool
  | .fin _ _=>true
  | .iH _ _ _=>true
  | _=>false
def nU (P:Program) (N:Nat) (c:Cx) (D:List Deferred) (ops:Array Oper) (Q:Exit→Act→World→Prop):Tr→dB→List aZ→Prop
  | .fin re new,F,H=>oS P N c ops F H re∧iN P N c ops H new F fun F'=>WQ N c D Q .normal F' H
  | .iH re new t,F,H=>oS P N c ops F H re∧iN P N c ops H new F fun F'=>nU P N c D ops Q t F' H
  | .alt s ks here more,F,H=>(∃(o:Oper) (α:Type) (p:α→Prop) (fv:α→Value) (fH:α→List aZ),ops[s]? = some o∧Gv N o.dst = true∧RG P N c ops o (jf F ks) H p fv fH∧∀x,p x→nU P N c D ops Q here (pt o.dst (fv x) F) (fH x))∧nU P N c D ops Q more F H
  | .no,_,_=>True
def KD (ops:Array Oper) (s:Nat):List Nat:=(List.range s).reverse.foldl (fun acc j=>if (uD ops s).contains j || acc.any (fun k=>(uD ops k).contains j) then j::acc else acc) []
def lX (ops:Array Oper) (pu:List Nat) (i d:Nat):Bool:=pu.all fun j=>!(jw ops j == some d) || (uD ops i).contains j
def pK (ops:Array Oper) (pu:List Nat):(seen:List Nat)→List Fl→Bool
  | _,[]=>true
  | seen,(i,ks)::r=>(uD ops i).all seen.contains && !seen.contains i && pu.contains i && ks.all (lX ops pu i) && pK ops pu (i::seen) r
def z6 (ops:Array Oper) (pu:List Nat):Tr→(en mP kj:List Nat)→Bool
  | .fin re new,en,mP,kj=>mP.all (re.map (·.1)).contains && re.all (fun q=>q.2.all (lX ops pu q.1)) && pK ops pu (en++kj) new &&
      (List.range ops.size).all fun i=>en.contains i || (new.map (·.1)).contains i || kj.contains i
  | .iH re new t,en,mP,kj =>
    mP.all (re.map (·.1)).contains && re.all (fun q=>q.2.all (lX ops pu q.1)) && pK ops pu (en++kj) new &&
    (List.range ops.size).all (fun i=>t.alts.contains i || (new.map (·.1)).contains i || en.contains i || kj.contains i || (uD ops i).any fun j=>!((new.map (·.1)).contains j || en.contains j || kj.contains j)) &&
    !t.alts.isEmpty && z6 ops pu t (en++new.map (·.1)) (mP++new.map (·.1)) kj
  | .alt s ks here more,en,mP,kj=>ks.all (lX ops pu s) && !pu.contains s && !kj.contains s && here.sN && z6 ops pu here en (mP.filter fun i=>!(KD ops s).contains i) (s::kj) && z6 ops pu more en mP kj
  | .no,_,_,_=>true
def B6 (ops:Array Oper) (pu:List Nat):Bool:=
  (List.range ops.size).all (fun i=>(uD ops i).all fun j=>Nat.blt j i) &&
  pu.all fun j=>(List.range ops.size).all fun i=>i == j || !(jw ops i == jw ops j) || (jw ops j).isNone
def sV:Tr→List Nat
  | .fin _ new=>new.map (·.1)
  | .iH _ new t=>new.map (·.1)++sV t
  | .alt _ _ here more=>sV here++sV more
  | .no=>[]
def Dp (ops:Array Oper) (t:Tr):Bool:=t.sN && B6 ops (sV t) && z6 ops (sV t) t [] [] []
def dn (l:Array Bool) (j:Nat):Prop:=l.getD j false = true
theorem iX {l:Array Bool} {i j:Nat} (hi:i < l.size):dn (l.setIfInBounds i true) j↔dn l j∨j = i:=by
  unfold dn
  simp only [Array.getD_eq_getD_getElem?,Array.getElem?_setIfInBounds]
  by_cases e:i = j
  · subst e; simp [hi]
  · simp [e,Ne.symm e]
theorem mem_ready {l:Array Bool} {i:Nat} (hs:l.size = ops.size):i ∈ Region.ready .any ops l↔i < ops.size∧¬ dn l i∧∀j ∈ uD ops i,dn l j:=by
  unfold Region.ready dn uD
  simp only [List.mem_filter,List.mem_range,Bool.and_eq_true,Bool.not_eq_true']
  constructor
  · rintro ⟨h1,h2,h3⟩
    have hi:i < l.size:=by omega
    refine ⟨h1,?_,?_⟩
    · simp [Array.getD_eq_getD_getElem?,hi] at h2 ⊢; exact h2
    · cases ho:ops[i]? with
      | none=>simp
      | some o =>
        simp only [ho,Option.map_some,Option.getD_some,Array.all_eq_true'] at h3
        simp only [List.mem_map,List.mem_filter]
        rintro j ⟨e,⟨he,hb⟩,rfl⟩
        have:=h3 e (by simpa using he)
        simpa [hb] using this
  · rintro ⟨h1,h2,h3⟩
    have hi:i < l.size:=by omega
    have ho:ops[i]? = some ops[i]:=Array.getElem?_eq_getElem h1
    refine ⟨h1,?_,?_⟩
    · simp [Array.getD_eq_getD_getElem?,hi] at h2 ⊢; exact h2
    · simp only [ho,Option.map_some,Option.getD_some,Array.all_eq_true']
      simp only [ho,List.mem_map,List.mem_filter] at h3
      intro e he
      cases hb:Region.binds .any e with
      | false=>simp
      | true=>simp only [Bool.not_true,Bool.false_or]; exact h3 e.on ⟨e,⟨by simpa using he,hb⟩,rfl⟩
theorem Bh {l:Array Bool} {s:Nat} (MR:∀j,dn l j→∀k ∈ uD ops j,dn l k) (hs:∀j ∈ uD ops s,dn l j):∀j ∈ KD ops s,dn l j:=by
  have key:∀(L:List Nat) (acc:List Nat),(∀j ∈ acc,dn l j)→∀j ∈ L.foldl (fun acc j=>if (uD ops s).contains j || acc.any (fun k=>(uD ops k).contains j) then j::acc else acc) acc,dn l j:=by
    intro L
    induction L with
    | nil=>intro acc h; exact h
    | cons x L ih =>
      intro acc h
      simp only [List.foldl_cons]
      refine ih _ ?_
      split
      · rename_i hc
        intro j hj
        rcases List.mem_cons.1 hj with rfl | hj
        · simp only [Bool.or_eq_true,List.contains_eq_mem,decide_eq_true_eq,List.any_eq_true] at hc
          rcases hc with hc | ⟨k,hk,hc⟩
          · exact hs _ hc
          · exact MR k (h k hk) _ hc
        · exact h j hj
      · exact h
  exact key _ [] (by simp)
structure Inv (P:Program) (N:Nat) (c:Cx) (D:List Deferred) (ops:Array Oper) (pu en pn kj:List Nat) (l:Array Bool) (F:dB) (H:List aZ) (a:Act) (w:World):Prop where
  size:l.size = ops.size
  seen:∀j,dn l j→j ∈ en∨j ∈ kj
  sp:∀j ∈ kj,dn l j
  mP:∀j ∈ en,¬ dn l j→j ∈ pn
  yZ:∀j ∈ en,j ∈ pu
  back:∀j ∈ en,∀k ∈ uD ops j,k ∈ en∨k ∈ kj
  tm:a.tmps.size = N
  df:a.defers = D
  si:bw c.bs c.w0 w
  hp:cy c.bs c.w0.heap.size H w
  cl:∀j,dn l j→∀k ∈ uD ops j,dn l k
  fr:∀d v,lk F d = some v→(∀j ∈ en,jw ops j = some d→dn l j)→a.tmps[d]? = some v
def C8 (P:Program) (N:Nat) (c:Cx) (ops:Array Oper) (pu:List Nat) (F:dB) (H:List aZ) (j:Nat):Prop:=
  ∃ks o d v,ops[j]? = some o∧o.dst = some d∧Nat.blt d N = true∧lk F d = some v∧VG P N c ops o (jf F ks) H v∧∀k ∈ ks,lX ops pu j k = true
theorem Inv.st {pu en pn kj:List Nat} {l:Array Bool} {F:dB} {H:List aZ} {a:Act} {w:World} (h:Inv P N c D ops pu en pn kj l F H a w) {i:Nat} {ks:List Nat} (hk:∀k ∈ ks,lX ops pu i k = true)
    (hr:∀j ∈ uD ops i,dn l j):St N c D (jf F ks) H a w:=by
  refine ⟨h.tm,fun d v hd=>?_,h.df,h.si,h.hp⟩
  obtain ⟨h1,h2⟩:=tT hd
  refine h.fr d v h2 fun j hj qv=>?_
  have:=hk d h1
  simp only [lX,List.all_eq_true,Bool.or_eq_true,Bool.not_eq_true',List.contains_eq_mem,decide_eq_true_eq] at this
  rcases this j (h.yZ j hj) with h3 | h3
  · rw [qv] at h3; simp at h3
  · exact hr j h3
theorem vh {pu:List Nat} (h:B6 ops pu = true) {i j:Nat} (hi:i < ops.size) (hj:j ∈ uD ops i):j < i:=by
  simp only [B6,Bool.and_eq_true,List.all_eq_true,List.mem_range] at h
  have:=h.1 i hi j hj
  simpa [Nat.blt_eq] using this
theorem xS {pu:List Nat} (h:B6 ops pu = true) {i j d:Nat} (hj:j ∈ pu) (hi:jw ops i = some d) (hd:jw ops j = some d):i = j:=by
  simp only [B6,Bool.and_eq_true,List.all_eq_true,List.mem_range] at h
  have hlt:i < ops.size:=by
    unfold jw at hi
    cases ho:ops[i]? with
    | none=>simp [ho] at hi
    | some o=>exact (Array.getElem?_eq_some_iff.1 ho).1
  have:=h.2 j hj i hlt
  rw [hi,hd] at this
  simpa using this
theorem o6 {i:Nat} {o:Oper} {d:Nat} (ho:ops[i]? = some o) (hd:o.dst = some d):jw ops i = some d:=by simp [jw,ho,hd]
theorem yN {pu:List Nat} (hD:B6 ops pu = true) {H:List aZ} {K:dB→Prop}:∀{new:List Fl} {seen:List Nat} {F:dB},iN P N c ops H new F K→pK ops pu seen new = true →
    ∃F2,K F2∧(∀i ∈ new.map (·.1),i ∈ pu∧i ∉ seen) ∧
      (∀d,(∀j ∈ new.map (·.1),jw ops j ≠ some d)→lk F2 d = lk F d) ∧
      (∀i ∈ new.map (·.1),C8 P N c ops pu F2 H i)∧(∀i ∈ new.map (·.1),∀k ∈ uD ops i,k ∈ seen∨k ∈ new.map (·.1)):=by
  intro new
  induction new with
  | nil=>intro seen F h _; exact ⟨F,h,by simp,by simp,by simp,by simp⟩
  | cons q r ih =>
    obtain ⟨i,ks⟩:=q
    intro seen F h hc
    obtain ⟨o,d,v,ho,hd,hN,hv,hn⟩:=h
    simp only [pK,Bool.and_eq_true,Bool.not_eq_true',List.all_eq_true,List.contains_eq_mem,decide_eq_true_eq,decide_eq_false_iff_not] at hc
    obtain ⟨⟨⟨⟨h1,h2⟩,h3⟩,h4⟩,h5⟩:=hc
    obtain ⟨F2,k1,k2,k3,k4,k5⟩:=ih hn h5
    have I4:=o6 ho hd
    refine ⟨F2,k1,?_,?_,?_,?_⟩
    · intro j hj
      rcases List.mem_cons.1 hj with rfl | hj
      · exact ⟨h3,h2⟩
      · obtain ⟨e1,e2⟩:=k2 j hj
        exact ⟨e1,fun hm=>e2 (by simp [hm])⟩
    · intro d' hd'
      rw [k3 d' (fun j hj=>hd' j (by simp only [List.map_cons]; exact List.mem_cons_of_mem _ hj))]
      have:¬ d = d':=fun e=>hd' i (by simp) (by rw [I4,e])
      simp [lk,kU this]
    · intro j hj
      rcases List.mem_cons.1 hj with rfl | hj
      · refine ⟨ks,o,d,v,ho,hd,hN,?_,?_,h4⟩
        · rw [k3 d (fun j hj qv=>by
            have:=xS hD (k2 j hj).1 I4 qv
            exact (k2 j hj).2 (by simp [← this]))]
          simp [lk]
        · intro D' a w next Q' hst hk
          refine hv D' a w next Q' (hst.sub fun d' v' hl=>?_) hk
          obtain ⟨e1,e2⟩:=tT hl
          refine s8 e1 ?_
          rw [k3 d' (fun j hj qv=>by
            have hkk:=h4 d' e1
            simp only [lX,List.all_eq_true,Bool.or_eq_true,Bool.not_eq_true',List.contains_eq_mem,decide_eq_true_eq] at hkk
            rcases hkk j (k2 j hj).1 with h6 | h6
            · rw [qv] at h6; simp at h6
            · exact (k2 j hj).2 (by simp [h1 j h6]))]
          have:¬ d = d':=fun e=>by
            have hkk:=h4 d' e1
            simp only [lX,List.all_eq_true,Bool.or_eq_true,Bool.not_eq_true',List.contains_eq_mem,decide_eq_true_eq] at hkk
            rcases hkk j h3 with h6 | h6
            · rw [I4,e] at h6; simp at h6
            · exact h2 (h1 j h6)
          simp only [lk,kU this,cond_false]
          exact e2
      · exact k4 j hj
    · intro j hj k hk
      rcases List.mem_cons.1 hj with rfl | hj
      · exact .inl (h1 k hk)
      · rcases k5 j hj k hk with h6 | h6
        · rcases List.mem_cons.1 h6 with rfl | h6
          · exact .inr (by simp)
          · exact .inl h6
        · exact .inr (by simp only [List.map_cons]; exact List.mem_cons_of_mem _ h6)
theorem zX {F:dB} {H:List aZ}:∀{re:List Fl} {i:Nat},oS P N c ops F H re→i ∈ re.map (·.1)→∃ks o d v,(i,ks) ∈ re∧ops[i]? = some o∧o.dst = some d∧lk F d = some v∧VG P N c ops o (jf F ks) H v:=by
  intro re
  induction re with
  | nil=>intro i _ hi; simp at hi
  | cons q r ih =>
    obtain ⟨j,ks⟩:=q
    intro i h hi
    obtain ⟨⟨o,d,v,h1,h2,h3,h4⟩,h5⟩:=h
    rcases List.mem_cons.1 hi with rfl | hi
    · exact ⟨ks,o,d,v,by simp,h1,h2,h3,h4⟩
    · obtain ⟨ks',o',d',v',e1,e2⟩:=ih h5 hi
      exact ⟨ks',o',d',v',by simp [e1],e2⟩
def Cont (P:Program) (N:Nat) (c:Cx) (D:List Deferred) (ops:Array Oper) (Q:Exit→Act→World→Prop) (pu:List Nat) (en pn kj:List Nat) (F:dB) (H:List aZ):Prop:=
  ((∀i,i < ops.size→i ∈ en∨i ∈ kj)∧WQ N c D Q .normal F H) ∨
  ∃t:Tr,nU P N c D ops Q t F H∧z6 ops pu t en pn kj = true∧t.alts ≠ []∧(∀i,i < ops.size→i ∈ t.alts∨i ∈ en∨i ∈ kj∨∃j ∈ uD ops i,j ∉ en∧j ∉ kj)
theorem x8 {pu en pn kj:List Nat} {F:dB} {H:List aZ} {i:Nat}:∀{t:Tr},i ∈ t.alts→nU P N c D ops Q t F H→z6 ops pu t en pn kj = true →
    ∃(ks:List Nat) (o:Oper) (α:Type) (p:α→Prop) (fv:α→Value) (fH:α→List aZ) (r:Tr),ops[i]? = some o∧Gv N o.dst = true∧RG P N c ops o (jf F ks) H p fv fH∧(∀x,p x→nU P N c D ops Q r (pt o.dst (fv x) F) (fH x)) ∧
      (∀k ∈ ks,lX ops pu i k = true)∧i ∉ pu∧i ∉ kj∧r.sN = true∧z6 ops pu r en (pn.filter fun j=>!(KD ops i).contains j) (i::kj) = true:=by
  intro t
  induction t with
  | fin re new=>intro h; simp [Tr.alts] at h
  | iH re new t _=>intro h; simp [Tr.alts] at h
  | no=>intro h; simp [Tr.alts] at h
  | alt s ks here more _ ih =>
    intro h hs hc
    obtain ⟨h1,h2⟩:=hs
    simp only [z6,Bool.and_eq_true,Bool.not_eq_true',List.all_eq_true] at hc
    obtain ⟨⟨⟨⟨⟨c1,c2⟩,c3⟩,c4⟩,c5⟩,c6⟩:=hc
    rcases List.mem_cons.1 h with rfl | h
    · obtain ⟨o,α,p,fv,fH,e1,e2,e3,e4⟩:=h1
      exact ⟨ks,o,α,p,fv,fH,here,e1,e2,e3,e4,c1,by simpa using c2,by simpa using c3,c4,c5⟩
    · exact ih h h2 c6
theorem Ei {i:Nat} {d:Nat} (h:jw ops i = some d):i < ops.size:=by
  unfold jw at h
  cases ho:ops[i]? with
  | none=>simp [ho] at h
  | some o=>exact (Array.getElem?_eq_some_iff.1 ho).1
theorem enter {pu:List Nat} (hD:B6 ops pu = true) {en mP kj:List Nat} {l:Array Bool} {F:dB} {H:List aZ} {a:Act} {w:World} {st:Tr} (hst:st.sN = true)
    (hI:Inv P N c D ops pu en mP kj l F H a w) (hN:∀j ∈ en,∀d,jw ops j = some d→Nat.blt d N = true) (hs:nU P N c D ops Q st F H) (hc:z6 ops pu st en mP kj = true) :
    ∃DE Gp F2,Inv P N c D ops pu DE Gp kj l F2 H a w∧(∀j ∈ DE,∀d,jw ops j = some d→Nat.blt d N = true)∧(∀j ∈ DE,¬ dn l j→C8 P N c ops pu F2 H j)∧Cont P N c D ops Q pu DE Gp kj F2 H:=by
  have key:∀{re new:List Fl} {K:dB→Prop},oS P N c ops F H re→iN P N c ops H new F K→(∀j ∈ mP,j ∈ re.map (·.1))→(∀q ∈ re,∀k ∈ q.2,lX ops pu q.1 k = true)→pK ops pu (en++kj) new = true →
      ∃F2,K F2∧Inv P N c D ops pu (en++new.map (·.1)) (mP++new.map (·.1)) kj l F2 H a w∧(∀j ∈ en++new.map (·.1),∀d,jw ops j = some d→Nat.blt d N = true)∧(∀j ∈ en++new.map (·.1),¬ dn l j→C8 P N c ops pu F2 H j):=by
    intro re new K Ip hnew hp hk Qp
    obtain ⟨F2,k1,k2,k3,k4,k5⟩:=yN hD hnew Qp
    refine ⟨F2,k1,⟨hI.size,?_,hI.sp,?_,?_,?_,hI.tm,hI.df,hI.si,hI.hp,hI.cl,?_⟩,?_,?_⟩
    · intro j hj; rcases hI.seen j hj with h | h
      · exact .inl (by simp [h])
      · exact .inr h
    · intro j hj BE
      rcases List.mem_append.1 hj with h | h
      · exact List.mem_append_left _ (hI.mP j h BE)
      · exact List.mem_append_right _ h
    · intro j hj
      rcases List.mem_append.1 hj with h | h
      · exact hI.yZ j h
      · exact (k2 j h).1
    · intro j hj k hk'
      rcases List.mem_append.1 hj with h | h
      · rcases hI.back j h k hk' with h1 | h1
        · exact .inl (by simp [h1])
        · exact .inr h1
      · rcases k5 j h k hk' with h1 | h1
        · rcases List.mem_append.1 h1 with h2 | h2
          · exact .inl (by simp [h2])
          · exact .inr h2
        · exact .inl (List.mem_append_right _ h1)
    · intro d v hl hdn
      by_cases hex:∃j ∈ new.map (·.1),jw ops j = some d
      · obtain ⟨j,hj,qv⟩:=hex
        have h1:=hdn j (List.mem_append_right _ hj) qv
        exact absurd (hI.seen j h1) (fun h2=>(k2 j hj).2 (by rcases h2 with h2 | h2 <;> simp [h2]))
      · rw [k3 d (fun j hj qv=>hex ⟨j,hj,qv⟩)] at hl
        exact hI.fr d v hl (fun j hj qv=>hdn j (List.mem_append_left _ hj) qv)
    · intro j hj d qv
      rcases List.mem_append.1 hj with h | h
      · exact hN j h d qv
      · obtain ⟨ks,o,d',v,e1,e2,e3,_⟩:=k4 j h
        have:=o6 e1 e2
        rw [qv] at this; cases this; exact e3
    · intro j hj BE
      rcases List.mem_append.1 hj with h | h
      · obtain ⟨ks,o,d,v,e0,e1,e2,e3,e4⟩:=zX Ip (hp j (hI.mP j h BE))
        have qv:=o6 e1 e2
        have hkk:∀k ∈ ks,lX ops pu j k = true:=fun k hk'=>hk _ e0 k hk'
        refine ⟨ks,o,d,v,e1,e2,hN j h d qv,?_,?_,hkk⟩
        · rw [k3 d (fun j' hj' E1=>by
            have:=xS hD (k2 j' hj').1 qv E1
            subst this
            exact (k2 _ hj').2 (by simp [h]))]
          exact e3
        · intro D' a' w' next Q' hst hk'
          refine e4 D' a' w' next Q' (hst.sub fun d' v' hl=>?_) hk'
          obtain ⟨f1,f2⟩:=tT hl
          refine s8 f1 ?_
          rw [k3 d' (fun j' hj' E1=>by
            have hq:=hkk d' f1
            simp only [lX,List.all_eq_true,Bool.or_eq_true,Bool.not_eq_true',List.contains_eq_mem,decide_eq_true_eq] at hq
            rcases hq j' (k2 j' hj').1 with h6 | h6
            · rw [E1] at h6; simp at h6
            · refine (k2 j' hj').2 ?_
              rcases hI.back j h j' h6 with h7 | h7 <;> simp [h7])]
          exact f2
      · exact k4 j h
  cases st with
  | no=>simp [Tr.sN] at hst
  | alt _ _ _ _=>simp [Tr.sN] at hst
  | fin re new =>
    obtain ⟨Ip,hnew⟩:=hs
    simp only [z6,Bool.and_eq_true,List.all_eq_true,List.contains_eq_mem,decide_eq_true_eq,List.mem_range,Bool.or_eq_true] at hc
    obtain ⟨⟨⟨c1,c2⟩,c3⟩,c4⟩:=hc
    obtain ⟨F2,k1,k2,k3,k4⟩:=key Ip hnew c1 c2 c3
    exact ⟨_,_,F2,k2,k3,k4, .inl ⟨fun i hi=>by
      rcases c4 i hi with (h | h) | h
      · exact .inl (by simp [h])
      · exact .inl (List.mem_append_right _ h)
      · exact .inr h,k1⟩⟩
  | iH re new t =>
    obtain ⟨Ip,hnew⟩:=hs
    simp only [z6,Bool.and_eq_true,List.all_eq_true,List.contains_eq_mem,decide_eq_true_eq,List.mem_range,Bool.or_eq_true,Bool.not_eq_true',List.any_eq_true] at hc
    obtain ⟨⟨⟨⟨⟨c1,c2⟩,c3⟩,c7⟩,c6⟩,c8⟩:=hc
    obtain ⟨F2,k1,k2,k3,k4⟩:=key Ip hnew c1 c2 c3
    refine ⟨_,_,F2,k2,k3,k4, .inr ⟨t,k1,c8,fun e=>by simp [e] at c6,fun i hi=>?_⟩⟩
    rcases c7 i hi with (((h | h) | h) | h) | h
    · exact .inl h
    · exact .inr (.inl (List.mem_append_right _ h))
    · exact .inr (.inl (by simp [h]))
    · exact .inr (.inr (.inl h))
    · obtain ⟨j,hj,hn⟩:=h
      refine .inr (.inr (.inr ⟨j,hj,fun hm=>?_,fun hm=>?_⟩))
      · rcases List.mem_append.1 hm with h1 | h1
        · simp [h1] at hn
        · have Qu:decide (j ∈ new.map (·.1)) = true:=decide_eq_true h1
          rw [Qu] at hn; simp at hn
      · simp [hm] at hn
theorem Bi {pu:List Nat} (hD:B6 ops pu = true) {l:Array Bool} (hs:l.size = ops.size) (hr:Region.ready .any ops l = []):∀i,i < ops.size→dn l i:=by
  intro i
  induction i using Nat.strongRecOn with
  | _ i ih =>
    intro hi
    by_cases hd:dn l i
    · exact hd
    · have:i ∈ Region.ready .any ops l:=(mem_ready hs).2 ⟨hi,hd,fun j hj=>ih j (vh hD hi hj) (Nat.lt_trans (vh hD hi hj) hi)⟩
      rw [hr] at this; simp at this
def oq (ops:Array Oper) (l:Array Bool):Nat:=((List.range ops.size).filter fun i=>!l.getD i false).length
theorem filter_le {p q:Nat→Bool} (h:∀x,q x = true→p x = true):∀(L:List Nat),(L.filter q).length ≤ (L.filter p).length:=by
  intro L
  induction L with
  | nil=>simp
  | cons x L ih =>
    by_cases hq:q x = true
    · simp [hq,h x hq,ih]
    · by_cases hp:p x = true
      · simp [hq,hp]; omega
      · simp [hq,hp,ih]
theorem filter_lt {p q:Nat→Bool} (h:∀x,q x = true→p x = true) {i:Nat} (hp:p i = true) (hq:q i = false):∀(L:List Nat),i ∈ L→(L.filter q).length < (L.filter p).length:=by
  intro L
  induction L with
  | nil=>intro hi; simp at hi
  | cons x L ih =>
    intro hi
    by_cases e:i = x
    · subst e
      have:=filter_le h L
      simp [hp,hq]; omega
    · have hi' : i ∈ L:=by simpa [e] using hi
      have:=ih hi'
      by_cases Kq:q x = true
      · simp [Kq,h x Kq]; omega
      · by_cases Oo:p x = true
        · simp [Kq,Oo]; omega
        · simp [Kq,Oo]; omega
theorem wv {l:Array Bool} {i:Nat} (hs:l.size = ops.size) (hi:i < ops.size) (hd:¬ dn l i):oq ops (l.setIfInBounds i true) < oq ops l:=by
  unfold oq
  have rB:i < l.size:=by omega
  refine filter_lt (i:=i) (fun x hx=>?_) ?_ ?_ _ (by simpa using hi)
  · have h1:¬ dn (l.setIfInBounds i true) x:=by simpa [dn] using hx
    have h2:¬ dn l x:=fun h=>h1 ((iX rB).2 (.inl h))
    simpa [dn] using h2
  · simpa [dn] using hd
  · have:dn (l.setIfInBounds i true) i:=(iX rB).2 (.inr rfl)
    simpa [dn] using this
theorem yA {pu:List Nat} (hD:B6 ops pu = true):∀(fuel:Nat) (l:Array Bool) (a:Act) (w:World) (en pn kj:List Nat) (F:dB) (H:List aZ),oq ops l ≤ fuel →
    Inv P N c D ops pu en pn kj l F H a w→(∀j ∈ en,∀d,jw ops j = some d→Nat.blt d N = true)→(∀j ∈ en,¬ dn l j→C8 P N c ops pu F H j)→Cont P N c D ops Q pu en pn kj F H →
    wpAnyIn (FA c.ro) 0 P .any ops Q fuel l a w:=by
  intro fuel
  have A2:∀(l:Array Bool) (a:Act) (w:World) (en pn kj:List Nat) (F:dB) (H:List aZ),Inv P N c D ops pu en pn kj l F H a w→Cont P N c D ops Q pu en pn kj F H→(∀i,i < ops.size→dn l i)→Q .normal a w:=by
    intro l a w en pn kj F H hI hC lZ
    rcases hC with ⟨_,hq⟩ | ⟨t,hst,hok,hne,_⟩
    · refine hq a w ⟨hI.tm,fun d v hl=>hI.fr d v hl fun j _ qv=>lZ j (Ei qv),hI.df,hI.si,hI.hp⟩
    · obtain ⟨s,hs⟩:=List.exists_mem_of_ne_nil _ hne
      obtain ⟨ks,o,α,p,fv,fH,r,e1,_,_,_,_,e5,e6,_,_⟩:=x8 hs hst hok
      have hlt:=(Array.getElem?_eq_some_iff.1 e1).1
      rcases hI.seen s (lZ s hlt) with h | h
      · exact absurd (hI.yZ s h) e5
      · exact absurd h e6
  induction fuel with
  | zero =>
    intro l a w en pn kj F H hu hI hN hV hC
    have lZ:∀i,i < ops.size→dn l i:=fun i hi=>by
      unfold oq at hu
      have h0:(List.range ops.size).filter (fun i=>!l.getD i false) = []:=List.length_eq_zero_iff.1 (by omega)
      rw [List.filter_eq_nil_iff] at h0
      have:=h0 i (by simpa using hi)
      simpa [dn] using this
    refine ⟨?_,A2 l a w en pn kj F H hI hC lZ⟩
    cases hr:Region.ready .any ops l with
    | nil=>rfl
    | cons i r =>
      have:i ∈ Region.ready .any ops l:=by rw [hr]; simp
      obtain ⟨h1,h2,_⟩:=(mem_ready hI.size).1 this
      exact absurd (lZ i h1) h2
  | succ fuel ih =>
    intro l a w en pn kj F H hu hI hN hV hC
    refine ⟨fun hr=>A2 l a w en pn kj F H hI hC (Bi hD hI.size hr),fun i hi=>?_⟩
    obtain ⟨h1,h2,h3⟩:=(mem_ready hI.size).1 hi
    have rB:i < l.size:=by rw [hI.size]; exact h1
    have Om:oq ops (l.setIfInBounds i true) ≤ fuel:=by have:=wv hI.size h1 h2; omega
    have I9:∀j,dn (l.setIfInBounds i true) j→∀k ∈ uD ops j,dn (l.setIfInBounds i true) k:=fun j hj k hk=>by
      rcases (iX rB).1 hj with h | rfl
      · exact (iX rB).2 (.inl (hI.cl j h k hk))
      · exact (iX rB).2 (.inl (h3 k hk))
    by_cases Ks:i ∈ en
    ·
      obtain ⟨ks,o,d,v,e1,e2,e3,e4,e5,e6⟩:=hV i Ks h2
      have hst:=hI.st (i:=i) e6 h3
      have I4:=o6 e1 e2
      have step:=e5 D a w (wpAnyIn (FA c.ro) 0 P .any ops Q fuel (l.setIfInBounds i true)) Q hst
      have K5:∀w',bw [] w w'→wpAnyIn (FA c.ro) 0 P .any ops Q fuel (l.setIfInBounds i true) (a.put o.dst v) w':=by
        intro w' hw
        refine ih _ _ _ en pn kj F H Om ⟨by simp [hI.size],?_,?_,?_,hI.yZ,hI.back,?_,?_,hI.si.ext hw,hI.hp.ext hw,I9,?_⟩ hN ?_ hC
        · intro j hj
          rcases (iX rB).1 hj with h | rfl
          · exact hI.seen j h
          · exact .inl Ks
        · intro j hj; exact (iX rB).2 (.inl (hI.sp j hj))
        · intro j hj BE; exact hI.mP j hj fun h=>BE ((iX rB).2 (.inl h))
        · rw [e2]; simp [Act.put,hI.tm]
        · rw [e2]; simp [Act.put,hI.df]
        · intro d' v' hl hdn
          rw [e2]
          have Qm:d < a.tmps.size:=by rw [hI.tm]; simpa [Nat.blt_eq] using e3
          by_cases e:d = d'
          · subst e
            rw [e4] at hl; cases hl
            simp [Act.put,Qm]
          · simp only [Act.put,Array.getElem?_setIfInBounds,if_neg e]
            refine hI.fr d' v' hl fun j hj qv=>?_
            rcases (iX rB).1 (hdn j hj qv) with h | rfl
            · exact h
            · rw [I4] at qv; cases qv; exact absurd rfl e
        · intro j hj BE
          exact hV j hj fun h=>BE ((iX rB).2 (.inl h))
      have step:=step K5
      unfold wpOpIn
      simp only [e1]
      split
      · rename_i hw; simp only [hw,if_true] at step; exact step
      · rename_i hw; simp only [hw] at step; exact ⟨fun _ _=>trivial,step⟩
    ·
      have hsp:i ∉ kj:=fun h=>h2 (hI.sp i h)
      rcases hC with ⟨lZ,_⟩ | ⟨t,L8,hok,_,e8⟩
      · rcases lZ i h1 with h | h
        · exact absurd h Ks
        · exact absurd h hsp
      · have Qi:i ∈ t.alts:=by
          rcases e8 i h1 with h | h | h | ⟨j,hj,h4,h5⟩
          · exact h
          · exact absurd h Ks
          · exact absurd h hsp
          · rcases hI.seen j (h3 j hj) with h | h
            · exact absurd h h4
            · exact absurd h h5
        obtain ⟨ks,o,α,p,fv,fH,r,e1,e2,e3,e4,e5,e6,e7,Qx,e9⟩:=x8 Qi L8 hok
        have hst:=hI.st (i:=i) e5 h3
        have step:=e3 D a w (wpAnyIn (FA c.ro) 0 P .any ops Q fuel (l.setIfInBounds i true)) Q hst
        have K5:∀x w',p x→bw c.bs c.w0 w'→cy c.bs c.w0.heap.size (fH x) w'→wpAnyIn (FA c.ro) 0 P .any ops Q fuel (l.setIfInBounds i true) (a.put o.dst (fv x)) w':=by
          intro x w' hp hsi MK
          have Jg:Inv P N c D ops pu en (pn.filter fun j=>!(KD ops i).contains j) (i::kj) (l.setIfInBounds i true) (pt o.dst (fv x) F) (fH x) (a.put o.dst (fv x)) w':=by
            refine ⟨by simp [hI.size],?_,?_,?_,hI.yZ,?_,?_,?_,hsi,MK,I9,?_⟩
            · intro j hj
              rcases (iX rB).1 hj with h | rfl
              · rcases hI.seen j h with h | h
                · exact .inl h
                · exact .inr (by simp [h])
              · exact .inr (by simp)
            · intro j hj
              rcases List.mem_cons.1 hj with rfl | h
              · exact (iX rB).2 (.inr rfl)
              · exact (iX rB).2 (.inl (hI.sp j h))
            · intro j hj BE
              have Ir:¬ dn l j:=fun h=>BE ((iX rB).2 (.inl h))
              simp only [List.mem_filter,Bool.not_eq_true',List.contains_eq_mem,decide_eq_false_iff_not]
              exact ⟨hI.mP j hj Ir,fun hm=>Ir (Bh hI.cl h3 j hm)⟩
            · intro j hj k hk
              rcases hI.back j hj k hk with h | h
              · exact .inl h
              · exact .inr (by simp [h])
            · cases o.dst <;> simp [Act.put,hI.tm]
            · cases o.dst <;> simp [Act.put,hI.df]
            · intro d v hl hdn
              have old:lk F d = some v→a.tmps[d]? = some v:=fun hl'=>hI.fr d v hl' fun j hj qv=>by
                rcases (iX rB).1 (hdn j hj qv) with h | rfl
                · exact h
                · exact absurd (hI.yZ _ hj) e6
              cases ho:o.dst with
              | none=>rw [ho] at hl; exact old hl
              | some k =>
                rw [ho] at hl e2
                have Qh:k < a.tmps.size:=by rw [hI.tm]; simpa [Gv,Nat.blt_eq] using e2
                simp only [pt,lk] at hl
                by_cases e:k = d
                · subst e; simp at hl; subst hl; simp [Act.put,Qh]
                · rw [kU e] at hl
                  simp only [Act.put,Array.getElem?_setIfInBounds,if_neg e]
                  exact old hl
          obtain ⟨DE,Gp,F2,k1,k2,k3,k4⟩:=enter hD Qx Jg hN (e4 x hp) e9
          exact ih _ _ _ DE Gp (i::kj) F2 (fH x) Om k1 k2 k3 k4
        have step:=step K5
        unfold wpOpIn
        simp only [e1]
        split
        · rename_i hw; simp only [hw,if_true] at step; exact step
        · rename_i hw; simp only [hw] at step; exact ⟨fun _ _=>trivial,step⟩
section
variable {F:dB} {H:List aZ}
theorem gQ:oS P N c ops F H []:=trivial
theorem iE {i:Nat} {ks:List Nat} {r:List Fl} {d:Nat} {v:Value} {op:Op} {ty:TypeId} {ps:String} {af:Array Edge} {g:Option (Nat × Bool)} (ho:ops[i]? = some ⟨some d,op,ty,ps,af,g⟩) (hl:lk F d = some v) (hv:VG P N c ops ⟨some d,op,ty,ps,af,g⟩ (jf F ks) H v) (hr:oS P N c ops F H r) :
    oS P N c ops F H ((i,ks)::r):=⟨⟨_,d,v,ho,rfl,hl,hv⟩,hr⟩
theorem bA {K:dB→Prop} (h:K F):iN P N c ops H [] F K:=h
theorem eF {i:Nat} {ks:List Nat} {r:List Fl} {K:dB→Prop} {d:Nat} {v:Value} {op:Op} {ty:TypeId} {ps:String} {af:Array Edge} {g:Option (Nat × Bool)} (ho:ops[i]? = some ⟨some d,op,ty,ps,af,g⟩) (hN:Nat.blt d N = true)
    (hv:VG P N c ops ⟨some d,op,ty,ps,af,g⟩ (jf F ks) H v) (hr:iN P N c ops H r ((d,v)::F) K):iN P N c ops H ((i,ks)::r) F K:=⟨_,d,v,ho,rfl,hN,hv,hr⟩
theorem uK {re new:List Fl} (h1:oS P N c ops F H re) (h2:iN P N c ops H new F fun F'=>WQ N c D Q .normal F' H):nU P N c D ops Q (.fin re new) F H:=⟨h1,h2⟩
theorem eA {re new:List Fl} {t:Tr} (h1:oS P N c ops F H re) (h2:iN P N c ops H new F fun F'=>nU P N c D ops Q t F' H):nU P N c D ops Q (.iH re new t) F H:=⟨h1,h2⟩
theorem p6:nU P N c D ops Q .no F H:=trivial
theorem ny {s:Nat} {ks:List Nat} {here more:Tr} {d:Nat} {op:Op} {ty:TypeId} {ps:String} {af:Array Edge} {g:Option (Nat × Bool)} {α:Type} {p:α→Prop} {fv:α→Value} {fH:α→List aZ}
    (ho:ops[s]? = some ⟨some d,op,ty,ps,af,g⟩) (hN:Nat.blt d N = true) (hv:RG P N c ops ⟨some d,op,ty,ps,af,g⟩ (jf F ks) H p fv fH) (h:∀x,p x→nU P N c D ops Q here ((d,fv x)::F) (fH x)) (hm:nU P N c D ops Q more F H):nU P N c D ops Q (.alt s ks here more) F H:=
  ⟨⟨_,α,p,fv,fH,ho,hN,hv,h⟩,hm⟩
theorem rR {s:Nat} {ks:List Nat} {here more:Tr} {op:Op} {ty:TypeId} {ps:String} {af:Array Edge} {g:Option (Nat × Bool)} {α:Type} {p:α→Prop} {fv:α→Value} {fH:α→List aZ}
    (ho:ops[s]? = some ⟨none,op,ty,ps,af,g⟩) (hv:RG P N c ops ⟨none,op,ty,ps,af,g⟩ (jf F ks) H p fv fH) (h:∀x,p x→nU P N c D ops Q here F (fH x)) (hm:nU P N c D ops Q more F H):nU P N c D ops Q (.alt s ks here more) F H:=
  ⟨⟨_,α,p,fv,fH,ho,rfl,hv,h⟩,hm⟩
end
theorem dy {id:Nat} {l:List Oper} {F:dB} {H:List aZ} (hm:P.follows .mixedOrders = true) (st:Tr) (hok:Dp l.toArray st = true)
    (h:nU P N c D l.toArray Q st F H):WP P N c D (.region id l.toArray true) Q F H:=fun a w hst=>by
  simp only [Dp,Bool.and_eq_true] at hok
  refine wpIn_region_any hm ?_
  have hdn:∀j,¬ dn (Array.replicate l.toArray.size false) j:=fun j h=>by
    unfold dn at h
    simp only [Array.getD_eq_getD_getElem?,Array.getElem?_replicate] at h
    split at h <;> simp at h
  have hI:Inv P N c D l.toArray (sV st) [] [] [] (Array.replicate l.toArray.size false) F H a { w with drawn:=w.drawn + 1 }:=
    ⟨by simp,fun j hj=>absurd hj (hdn j),by simp,by simp,by simp,by simp,hst.tm,hst.df,hst.si.drawn _,⟨fun r hr=>hst.hp.holds r hr,hst.hp.own,hst.hp.apart⟩,fun j hj=>absurd hj (hdn j),fun d v hl _=>hst.fr d v hl⟩
  obtain ⟨DE,Gp,F2,k1,k2,k3,k4⟩:=enter hok.1.2 hok.1.1 hI (by simp) h hok.2
  refine yA hok.1.2 _ _ _ _ DE Gp [] F2 H ?_ k1 k2 k3 k4
  unfold oq
  exact Nat.le_trans (List.length_filter_le _ _) (by simp)
end Go.Bw
namespace Go.Bw
open Go Go.RowKit
theorem aU {F:dB} {x:Operand} {r:List Operand} {v:Value} {vs:List Value} (h:ev F x = some v) (hr:qw F r = some vs):qw F (x::r) = some (v::vs):=by simp [qw,h,hr]
def gK (v:Value) (k:Nat):Value:=match v with
  | .slice (some a) _ _=>.pointer (some ⟨a.block,a.off + k,none⟩)
  | _=>undef
theorem Ro.since {w w' : World} {v:Value} {sz n:Nat} {xs:List Value} (h:Ro w v sz n xs) (hs:bw [] w w'):Ro w' v sz n xs:=by
  refine ⟨h.1,?_⟩
  rcases h.2 with h0 | ⟨g,off,cap,h1,h2,h3,h4⟩
  · exact .inl h0
  · exact .inr ⟨g,off,cap,h1,Nat.lt_of_lt_of_le h2 hs.size,h3,fun j u hu=>(World.cell?_of_block (hs.block g h2 (by simp))).trans (h4 j u hu)⟩
theorem Ro.qV {w:World} {v:Value} {e sz n:Nat} {xs:List Value} (h:(aZ.row v e sz n xs).holds w):Ro w v sz n xs:=by
  have h' : w.ownsRow 0 e sz v n xs:=h
  refine ⟨h'.1,?_⟩
  rcases h'.2 with h0 | ⟨g,cap,cur,h1,_,h3,h4,_,h5,h6⟩
  · exact .inl ⟨⟨_,_,h0.1⟩,h0.2⟩
  · refine .inr ⟨g,0,cap,h1,(Array.getElem?_eq_some_iff.1 h3).1,h4,fun j u hu=>?_⟩
    have:=World.ownsRow.cells (g:=g) h' (by rw [h1]; rfl) j u hu
    rwa [Addr.add_lit] at this
theorem Ro.at {w:World} {v:Value} {sz n m:Nat} {xs:List Value} (h:Ro w v sz n xs) (hm:m < n):∃g off cap,v = .slice (some ⟨g,off,none⟩) n cap∧g < w.heap.size∧n ≤ cap∧∀(j:Nat) u,xs[j]? = some u→w.cell? ⟨g,off + j,none⟩ = some u:=by
  rcases h.2 with ⟨_,h0⟩ | h1
  · omega
  · exact h1
section
variable {P:Program} {N:Nat} {c:Cx} {F:dB} {H:List aZ} {d:Option Tmp} {ty:TypeId} {p:String} {af:Array Edge} {g:Option (Nat × Bool)}
class oc (c:Cx) (H:List aZ) (v:Value) (sz n:outParam Nat) (xs:outParam (List Value)):Prop where
  ro:∀w,bw c.bs c.w0 w→cy c.bs c.w0.heap.size H w→Ro w v sz n xs
class Rc (H:List aZ) (v:Value) (sz n:outParam Nat) (xs:outParam (List Value)):Prop where
  mem:aZ.sl v sz n xs ∈ H
theorem F1 {x:Operand} {v:Value} {t e q sz n:Nat} {xs:List Value} [ht:qI P t e q] (hx:ev F x = some v) [h:oc c H v sz n xs]:VS P N c ⟨d, .call ⟨.builtin .len,#[x],#[t]⟩,ty,p,af,g⟩ F H (.int .i64 n):=
  br (by simp) fun a w hf hs hp=>by
    have hr:=h.ro w hs hp
    obtain ⟨inf,h1,_,_⟩:=qI.get ht.ok
    rcases hr.2 with ⟨⟨a0,cp,rfl⟩,rfl⟩ | ⟨g,off,cap,rfl,_⟩ <;> simp [execOp,resolve,invoke,builtin,bK hf hx,Builtin.len_,goInt,run_underlying h1]
theorem uI {x y:Operand} {t e sz n:Nat} {v:Value} {xs:List Value} {k:IntKind} {i:Int} {m:Nat} [ht:qI P t e sz] (hx:ev F x = some v) (hy:ev F y = some (.int k i)) [h:oc c H v sz n xs] (hi:i = (m:Int)) (hm:m < n) :
    VS P N c ⟨d, .indexAddr t x y,ty,p,af,g⟩ F H (gK v (m * sz)):=
  br (by simp) fun a w hf hs hp=>by
    obtain ⟨g,off,cap,rfl,_,_,_⟩:=(h.ro w hs hp).at hm
    obtain ⟨inf,h1,h2,h3⟩:=qI.get ht.ok
    subst hi
    simp [execOp,bK hf hx,bK hf hy,Instr.indexAt,asIntOf,run_underlying h1,sizeOf,typeInfo,h2,h3,Addr.add_lit,gK]
    intro hle
    omega
theorem uJ {x:Operand} {s f fo k m sz n:Nat} {v:Value} {xs:List Value} [gU P s f fo] (hx:ev F x = some (gK v k)) [h:oc c H v sz n xs] (hm:m < n):VS P N c ⟨d, .fieldAddr s x f,ty,p,af,g⟩ F H (gK v (k + fo)):=
  br (by simp) fun a w hf hs hp=>by
    obtain ⟨g,off,cap,rfl,_,_,_⟩:=(h.ro w hs hp).at hm
    have:=mY (P:=P) (s:=s) (f:=f) (b:=g) (off:=off + k) w
    simp only [execOp,bK hf hx,gK]
    simp [this,Nat.add_assoc]
theorem vZ {x:Operand} {t k sz n:Nat} {v u:Value} {xs:List Value} (hx:ev F x = some (gK v k)) [h:oc c H v sz n xs] [kB P t] (hv:xs[k]? = some u):VS P N c ⟨d, .load t x,ty,p,af,g⟩ F H u:=
  br (by simp) fun a w hf hs hp=>by
    have hr:=h.ro w hs hp
    have hl:=(List.getElem?_eq_some_iff.1 hv).1
    have hn:0 < n:=by
      rcases Nat.eq_zero_or_pos n with h0 | h0
      · subst h0; have:=hr.1; omega
      · exact h0
    obtain ⟨g,off,cap,rfl,_,_,h4⟩:=hr.at hn
    have:=j3 (P:=P) (t:=t) (a:=⟨g,off + k,none⟩) (h4 k u hv)
    simp [execOp,bK hf hx,gK,Instr.loadAt,Instr.sureAddr,this]
theorem uH {x:Operand} {t k sz n q:Nat} {v:Value} {xs us:List Value} (hx:ev F x = some (gK v k)) [h:oc c H v sz n xs] [ja P t q] (hv:(xs.drop k).take q = us) (hq:us.length = q) (h0:0 < q):VS P N c ⟨d, .load t x,ty,p,af,g⟩ F H (.agg us.toArray):=
  br (by simp) fun a w hf hs hp=>by
    have hr:=h.ro w hs hp
    have hl:0 < xs.length:=by
      have:us.length ≤ xs.length:=by rw [← hv]; simp; omega
      omega
    have hn:0 < n:=by
      rcases Nat.eq_zero_or_pos n with h0 | h0
      · subst h0; have:=hr.1; omega
      · exact h0
    obtain ⟨g,off,cap,rfl,_,_,h4⟩:=hr.at hn
    have:=iR (P:=P) (t:=t) (b:=g) (off:=off + k) (w:=w) hq (fun j u hj=>by
      rw [← hv,List.getElem?_take] at hj
      split at hj
      · rw [List.getElem?_drop] at hj; rw [Nat.add_assoc]; exact h4 _ u hj
      · cases hj)
    simp [execOp,bK hf hx,gK,Instr.loadAt,Instr.sureAddr,this]
theorem FZ {x y:Operand} {k:IntKind} {a b:Int} {ats:Array TypeId} (hx:ev F x = some (.int k a)) (hy:ev F y = some (.int k b)):VS P N c ⟨d, .call ⟨.builtin .max,#[x,y],ats⟩,ty,p,af,g⟩ F H (.int k (if a < b then b else a)):=
  br (by simp) fun a' w hf _ _=>by simp [execOp,resolve,invoke,builtin,bK hf hx,bK hf hy,Builtin.max_,Builtin.max2]
def placesOf (P:Program) (t:Nat):Option (List (Nat × Nat)):=match P.underlying t with
  | some (.struct fs)=>fs.toList.mapM fun f=>(P.info? f.type).map fun i=>(f.offset,i.size)
  | _=>none
def qj (pl:List (Nat × Nat)):List Value→List (Nat × Value)→Option (List Value)
  | cs,[]=>some cs
  | cs,(i,v)::r=>match pl[i]? with
    | none=>none
    | some (off,sz)=>if v.cells.size ≠ sz || decide (off + v.cells.size > cs.length) then none else qj pl (bP cs off v.cells.toList) r
class F4 (P:Program) (t:TypeId) (pl:outParam (List (Nat × Nat))):Prop where
  ok:placesOf P t = some pl
theorem foldl_set (vs:List Value):∀(cs:Array Value) (off j:Nat),off + j + vs.length ≤ cs.size→((vs.zipIdx j).foldl (fun (cs:Array Value) (q:Value × Nat)=>cs.setIfInBounds (off + q.2) q.1) cs).toList = bP cs.toList (off + j) vs:=by
  induction vs with
  | nil=>intro cs off j h; simp [bP]
  | cons v r ih =>
    intro cs off j h
    simp only [List.zipIdx_cons,List.foldl_cons]
    have hl:off + j + (r.length + 1) ≤ cs.size:=h
    rw [ih (cs.setIfInBounds (off + j) v) off (j + 1) (by simp; omega)]
    refine List.ext_getElem? fun m=>?_
    have g:∀(Ki:List Value) (o:Nat) (us:List Value),o + us.length ≤ Ki.length→∀m:Nat,(bP Ki o us)[m]? = if o ≤ m∧m < o + us.length then us[m - o]? else Ki[m]?:=by
      intro Ki o us h m
      unfold bP
      by_cases h1:m < o
      · rw [if_neg (by omega),List.append_assoc,List.getElem?_append_left (by simp; omega),List.getElem?_take,if_pos h1]
      · by_cases h2:m < o + us.length
        · rw [if_pos (by omega),List.append_assoc,List.getElem?_append_right (by simp; omega),List.getElem?_append_left (by simp; omega)]
          congr 1; simp; omega
        · rw [if_neg (by omega),List.getElem?_append_right (by simp; omega),List.getElem?_drop]
          congr 1; simp; omega
    rw [g _ _ _ (by simp; omega),g _ _ _ (by simp; omega)]
    simp only [Array.toList_setIfInBounds,List.length_cons]
    by_cases e:m = off + j
    · subst e
      rw [if_neg (by omega),if_pos (by omega)]
      have hc:off + j < cs.size:=by omega
      simp [hc]
    · by_cases h1:off + (j + 1) ≤ m∧m < off + (j + 1) + r.length
      · rw [if_pos h1,if_pos (by omega)]
        have:m - (off + j) = (m - (off + (j + 1))) + 1:=by omega
        rw [this,List.getElem?_cons_succ]
      · rw [if_neg h1,if_neg (by omega)]
        rw [List.getElem?_set_ne (by omega)]
theorem rE {place:Nat→Option (Nat × Nat)} {pl:List (Nat × Nat)} (hp:∀i,place i = pl[i]?):∀(parts:List (Nat × Value)) (cs:Array Value) (out:List Value),qj pl cs.toList parts = some out→Instr.fill place cs parts = some out.toArray:=by
  intro parts
  induction parts with
  | nil=>intro cs out h; simp [qj] at h; simp [Instr.fill,← h]
  | cons q r ih =>
    obtain ⟨i,v⟩:=q
    intro cs out h
    simp only [qj] at h
    simp only [Instr.fill,hp i]
    split at h
    · cases h
    · rename_i off sz Oq
      rw [Oq]
      simp only
      split at h
      · cases h
      · rename_i hc
        simp only [Array.length_toList] at hc
        rw [if_neg (by simpa using hc)]
        refine ih _ out ?_
        have hle:off + v.cells.size ≤ cs.size:=by
          simp only [Bool.or_eq_true,decide_eq_true_eq,not_or] at hc
          omega
        have:=foldl_set v.cells.toList cs off 0 (by simpa using hle)
        rw [← h]
        congr 1
        rw [Nat.add_zero] at this
        rw [← this,← Array.foldl_toList]
        simp only [Array.toList_zipIdx]
theorem run_places {P:Program} {t:Nat} {pl:List (Nat × Nat)} [h:F4 P t pl] (w:World):∃fs,P.underlying t = some (.struct fs)∧((fs.mapM (m:=Sem) fun f=>do pure (f.offset,← sizeOf f.type)).run P w = .ok pl.toArray w):=by
  have:=h.ok
  unfold placesOf at this
  split at this
  · rename_i fs hu
    refine ⟨fs,hu,?_⟩
    have key:∀(l:List Field) (pl:List (Nat × Nat)),(l.mapM fun f=>(P.info? f.type).map fun i=>(f.offset,i.size)) = some pl→(l.mapM (m:=Sem) fun f=>do pure (f.offset,← sizeOf f.type)).run P w = .ok pl w:=by
      intro l
      induction l with
      | nil=>intro pl h; simp at h; subst h; simp
      | cons f r ih =>
        intro pl h
        cases hi:P.info? f.type with
        | none=>simp [hi] at h
        | some i =>
          simp only [List.mapM_cons,hi,Option.map_some,Option.pure_def,Option.bind_eq_bind,Option.bind_some] at h
          cases hr:(r.mapM fun f=>(P.info? f.type).map fun i=>(f.offset,i.size)) with
          | none=>simp [hr] at h
          | some q =>
            simp only [hr,Option.bind_some,Option.some.injEq] at h
            subst h
            have hs:(sizeOf f.type).run P w = .ok i.size w:=by simp [sizeOf,typeInfo,hi]
            simp only [List.mapM_cons,Sem.run_bind,hs,Result.andThen_ok,Sem.run_pure,ih q hr]
    have hk:=key _ _ this
    have e:fs = fs.toList.toArray:=by simp
    rw [e,List.mapM_toArray]
    simp only [Sem.run_map,hk,Result.andThen_ok]
  · cases this
theorem Qw {F:dB} {a:Act} (hf:nF F a.tmps):∀{parts:List (Nat × Operand)} {vs:List Value},qw F (parts.map (·.2)) = some vs→parts.map (fun q=>(q.1,a.eval q.2)) = (parts.map (·.1)).zip vs:=by
  intro parts
  induction parts with
  | nil=>intro vs _; simp
  | cons q r ih =>
    intro vs h
    simp only [List.map_cons,qw] at h
    split at h
    · rename_i v us h1 h2
      rw [← Option.some.inj h]
      simp [bK hf h1,ih h2]
    · cases h
theorem iu {t:Nat} {parts:List (Nat × Operand)} {vs zs cs:List Value} {pl:List (Nat × Nat)} [hz:bY P t zs] [Oq:F4 P t pl] (hv:qw F (parts.map (·.2)) = some vs) (hc:qj pl zs ((parts.map (·.1)).zip vs) = some cs) :
    VS P N c ⟨d, .build t parts.toArray,ty,p,af,g⟩ F H (.agg cs.toArray):=
  br (by simp) fun a w hf _ _=>by
    obtain ⟨i,z,h1,h2,h3⟩:=bY.get hz.ok
    obtain ⟨fs,h4,h5⟩:=run_places (P:=P) (t:=t) w
    have h6:(zeroValue t).run P w = .ok z w:=by simp [zeroValue,typeInfo,h1,h2]
    have h7:=rE (place:=fun i=>(pl.toArray)[i]?) (pl:=pl) (by simp) ((parts.map (·.1)).zip vs) z.cells cs (by rw [h3]; exact hc)
    have h8:=Qw hf hv
    simp only [execOp,Instr.build,Sem.run_bind,h6,Result.andThen_ok,run_underlying h4,h5]
    have h9:(Array.map (fun x=>(x.fst,a.eval x.snd)) parts.toArray).toList = (parts.map (·.1)).zip vs:=by simpa using h8
    simp only [h9,h7]
    rfl
class nA (H:List aZ) (v:Value) (e sz n:outParam Nat) (xs:outParam (List Value)) (f:outParam (aZ→List aZ)):Prop where
  ok:∃k,H[k]? = some (.row v e sz n xs)∧∀r,f r = H.set k r
instance (priority:=100) F7 (v e sz n xs) (H:List aZ):nA (.row v e sz n xs::H) v e sz n xs (fun r=>r::H):=⟨⟨0,rfl,fun _=>rfl⟩⟩
instance (priority:=50) DK (r:aZ) (H:List aZ) (v e sz n xs f) [h:nA H v e sz n xs f]:nA (r::H) v e sz n xs (fun q=>r::f q):=
  ⟨by obtain ⟨k,h1,h2⟩:=h.ok; exact ⟨k + 1,by simpa using h1,fun q=>by simp [h2]⟩⟩
def A8 (P:Program) (t e sz bytes:Nat):Bool:=match P.underlying t,P.info? e with
  | some (.slice e'),some i=>Nat.beq e' e && Nat.beq i.size sz && Nat.beq i.bytes bytes && (match i.zero with | some z=>Nat.beq z.cells.size sz | none=>false) && !Nat.beq sz 0
  | _,_=>false
class zB (P:Program) (t:TypeId) (e sz bytes:outParam Nat):Prop where
  ok:A8 P t e sz bytes = true
theorem zB.get {P:Program} {t e sz bytes:Nat} (h:A8 P t e sz bytes = true):∃i z,P.underlying t = some (.slice e)∧P.info? e = some i∧i.zero = some z∧i.size = sz∧i.bytes = bytes∧z.cells.size = sz∧0 < sz:=by
  unfold A8 at h
  split at h
  · rename_i e' i h1 h2
    simp only [Bool.and_eq_true,Bool.not_eq_true'] at h
    obtain ⟨⟨⟨⟨a1,a2⟩,a3⟩,a4⟩,a5⟩:=h
    cases hz:i.zero with
    | none=>simp [hz] at a4
    | some z =>
      simp only [hz] at a4
      rw [Nat.eq_of_beq_eq_true a1] at h1
      refine ⟨i,z,h1,h2,hz,Nat.eq_of_beq_eq_true a2,Nat.eq_of_beq_eq_true a3,Nat.eq_of_beq_eq_true a4,Nat.pos_of_ne_zero fun e0=>?_⟩
      rw [e0] at a5; exact absurd a5 (by decide)
  · cases h
theorem mZ {P:Program} {t ty e sz bytes n m cp:Nat} {v:Value} {xs news:List Value} {w:World} {b off:Nat} [ht:zB P t e sz bytes] (hown:w.ownsRow 0 e sz v n xs) (hl:news.length = m * sz)
    (hn:∀(j:Nat) u,news[j]? = some u→w.cell? ⟨b,off + j,none⟩ = some u) (h1:ju news) (yS:(n + m) * bytes ≤ 140737488355328) (h63:n + m ≤ 9223372036854775807) :
    ∃v' w',(Builtin.append_ #[t,t] ty #[v, .slice (some ⟨b,off,none⟩) m cp]).run P w = .ok v' w'∧w'.ownsRow 0 e sz v' (n + m) (xs++news)∧bw v.ownBlock.toList w w' ∧
      (∀k,v'.ownBlock = some k→(v.ownBlock = some k∨w.heap.size ≤ k)∧k < w'.heap.size):=by
  obtain ⟨i,z,e1,e2,e3,e4,e5,e6,e7⟩:=zB.get ht.ok
  have hn' : ∀(j:Nat) u,news[j]? = some u→w.cell? ((⟨b,off,none⟩ : Addr).add j) = some u:=fun j u hj=>by rw [Addr.add_lit]; exact hn j u hj
  have Ov:n + m ≤ maxLen:=by simp only [maxLen]; omega
  obtain ⟨v',w',hr,hown',hg,_⟩:=run_append_own w 0 t ty e i z sz bytes e1 e2 e3 e4 e5 e6 e7 v n xs hown ⟨b,off,none⟩ m cp news hl hn' h1 Ov yS (Nat.zero_le _)
  refine ⟨v',w',hr,hown',bw.z9 hg,fun k hk=>⟨?_,(hown'.lt k hk).2⟩⟩
  subst e4; subst e5
  rcases hown.2 with ⟨rfl,rfl⟩ | ⟨gb,cap,cur,rfl,_,DA,hnc,Kt,hcs,xX⟩
  · obtain ⟨v2,w2,Dz,Iq,_,_⟩:=run_append_own w w.heap.size t ty e i z i.size i.bytes e1 e2 e3 rfl rfl e6 e7 (.slice none 0 0) 0 xs ⟨hown.1, .inl ⟨rfl,rfl⟩⟩ ⟨b,off,none⟩ m cp news hl hn' h1 Ov yS (Nat.le_refl _)
    rw [hr] at Dz
    cases Dz
    exact .inr (Iq.lt k hk).1
  · by_cases hroom:n + m ≤ cap
    · have hfit:n * i.size + news.length ≤ cur.size:=by rw [hl,hcs,← Nat.add_mul]; exact Nat.mul_le_mul_right _ hroom
      have Dz:=run_append_room (P:=P) w t ty e i e1 e2 gb n cap cur DA ⟨b,off,none⟩ m cp news hl hn' h1 hroom hfit
      rw [hr] at Dz
      cases Dz
      exact .inl hk
    · have Dz:=run_append_grow (P:=P) w t ty e i z e1 e2 e3 ⟨gb,0,none⟩ n cap xs hown.1 (hown.cells (g:=gb) rfl) ⟨b,off,none⟩ m cp news hl hn' (by omega) (by omega) (growslice_fits (by omega) yS)
      rw [hr] at Dz
      cases Dz
      simp [Value.ownBlock] at hk
      exact .inr (by omega)
def BM (v:Value):Prop:=∃a n cp,v = .slice a n cp
theorem BM.cells {v:Value} (h:BM v):v.cells.toList = [v]:=by obtain ⟨a,n,cp,rfl⟩:=h; rfl
theorem BM.one {v:Value} (h:BM v):v.oneCell' = true:=by obtain ⟨a,n,cp,rfl⟩:=h; cases a <;> rfl
def kf (v:Value) (n:Nat):Prop:=∃a cp,v = .slice a n cp
theorem kf.Od {v:Value} {n:Nat} (h:kf v n):BM v:=by obtain ⟨a,cp,rfl⟩:=h; exact ⟨_,_,_,rfl⟩
theorem kf.cells {v:Value} {n:Nat} (h:kf v n):v.cells.toList = [v]:=h.Od.cells
theorem kf.one {v:Value} {n:Nat} (h:kf v n):v.oneCell' = true:=h.Od.one
theorem kf.qV {w:World} {v:Value} {e sz n:Nat} {xs:List Value} (h:w.ownsRow 0 e sz v n xs):kf v n:=by
  rcases h.2 with ⟨rfl,rfl⟩ | ⟨_,_,_,rfl,_⟩
  · exact ⟨_,_,rfl⟩
  · exact ⟨_,_,rfl⟩
theorem BM.qV {w:World} {v:Value} {e sz n:Nat} {xs:List Value} (h:w.ownsRow 0 e sz v n xs):BM v:=by
  rcases h.2 with ⟨rfl,_⟩ | ⟨_,_,_,rfl,_⟩
  · exact ⟨_,_,_,rfl⟩
  · exact ⟨_,_,_,rfl⟩
theorem zi {s x:Operand} {t e sz bytes n m b T cp:Nat} {v:Value} {xs news:List Value} {f:aZ→List aZ} [zB P t e sz bytes] (hs:ev F s = some v) [hr:nA H v e sz n xs f] (hx:ev F x = some (.slice (some ⟨b,0,none⟩) m cp)) [hc:lG H b T news]
    (hl:news.length = m * sz) (h1:ju news) (yS:(n + m) * bytes ≤ 140737488355328) (h63:n + m ≤ 9223372036854775807) :
    RX P N c ⟨d, .call ⟨.builtin .append,#[s,x],#[t,t]⟩,ty,p,af,g⟩ F H (fun v'=>kf v' (n + m)) (fun v'=>v') (fun v'=>f (.row v' e sz (n + m) (xs++news))):=fun D a w next Q hst hk=>by
  obtain ⟨k,k1,k2⟩:=hr.ok
  have hm:aZ.row v e sz n xs ∈ H:=List.mem_of_getElem? k1
  obtain ⟨v',w',q1,q2,q3,q4⟩:=mZ (P:=P) (t:=t) (ty:=ty) (cp:=cp) (b:=b) (off:=0) (hst.hp.holds _ hm) hl (fun j u hj=>by rw [Nat.zero_add,cell_of (hst.hp.holds _ hc.mem)]; exact hj) h1 yS h63
  refine g7 (by simp) (v:=v') (w':=w') ?_ (hk v' w' (kf.qV q2) (hst.si.trans q3 fun b' hb'=>(hst.hp.own _ hm b' hb').1) ?_)
  · simp [execOp,resolve,invoke,builtin,bK hst.fr hs,bK hst.fr hx,q1]
  · show cy c.bs c.w0.heap.size (f (.row v' e sz (n + m) (xs++news))) w'
    rw [k2]
    refine hst.hp.set k1 q3.size (fun j hj hn=>q3.block j hj hn) q2 hst.si.size (fun b' hb'=>?_)
    have:=q4 b' (by simpa [aZ.gN] using hb')
    exact ⟨this.1.imp (fun h=>by simpa [aZ.gN] using h) id,this.2⟩
theorem rS {x:Operand} {t e sz:Nat} {v:Value} {cs zs:List Value} [ht:qI P t e sz] [hz:bY P e zs] (hx:ev F x = some v) (hc:v.cells.toList = cs) (hl:cs.length = sz) (Ko:zs.length = sz) (h0:0 < sz) (hs:sz ≤ 16777216) :
    RX P N c ⟨d, .buildSlice t 1 #[(0,x)],ty,p,af,g⟩ F H (fun _=>True) (fun b=>.slice (some ⟨b,0,none⟩) 1 1) (fun b=>.cells b e cs::H):=fun D a w next Q hst hk=>by
  obtain ⟨i,h1,h2,h3⟩:=qI.get ht.ok
  obtain ⟨i',z,h4,h5,h6⟩:=bY.get hz.ok
  rw [h2] at h4; cases h4
  have hsz:v.cells.size = sz:=by rw [← hl,← hc]; simp
  refine g7 (by simp) (w':=w.alloc (.cells cs.toArray e)) ?_ (hk w.heap.size _ trivial (hst.si.ext (bw.alloc _ _)) (hst.hp.box e cs hst.si.size))
  have IW:Instr.fill (fun i=>some (i * sz,sz)) ((Array.range sz).map (z.cells[· % z.cells.size]!)) [(0,v)] = some cs.toArray:=by
    have:=rE (place:=fun i=>if i = 0 then some (0,sz) else none) (pl:=[(0,sz)]) (by intro i; cases i <;> simp) [(0,v)] ((Array.range sz).map (z.cells[· % z.cells.size]!)) cs (by
      simp only [qj,List.getElem?_cons_zero,hsz,hc,Array.length_toList,Array.size_map,Array.size_range,Nat.zero_add,ne_eq,not_true_eq_false,decide_false,Bool.false_or,gt_iff_lt,Nat.lt_irrefl,Bool.false_eq_true,if_false]
      simp [bP,hl])
    have e:∀cells:Array Value,Instr.fill (fun i=>some (i * sz,sz)) cells [(0,v)] = Instr.fill (fun i=>if i = 0 then some (0,sz) else none) cells [(0,v)]:=fun cells=>by simp [Instr.fill]
    rw [e]; exact this
  have Qf:¬ sz = 0:=by omega
  have Nb:¬ 16777216 < sz:=by omega
  simp only [execOp,Instr.buildSlice,Sem.run_bind,run_underlying h1,Result.andThen_ok,sizeOf,typeInfo]
  simp [h2,h3,Qf,Nb,bK hst.fr hx,IW,zeroValue,typeInfo,h5,newRow,newObj,Sem.run]
theorem xY {bs:List Nat} {n0 e sz:Nat} {w:World} (h:cy bs n0 H w):cy bs n0 (.row (.slice none 0 0) e sz 0 []::H) w:=
  h.cons ⟨by simp, .inl ⟨rfl,rfl⟩⟩ (fun b hb=>by simp [aZ.gN,Value.ownBlock] at hb) (fun s _ b hb=>by simp [aZ.gN,Value.ownBlock] at hb)
theorem C2 {D:List Deferred} {Q:Exit→Act→World→Prop} {x:Code} (e sz:Nat) (h:WP P N c D x Q F (.row (.slice none 0 0) e sz 0 []::H)):WP P N c D x Q F H:=Bj (fun _ _ _ hp=>xY hp) h
theorem C0 {D:List Deferred} {Q:Exit→Act→World→Prop} {x:Exit} (e sz:Nat) (h:WQ N c D Q x F (.row (.slice none 0 0) e sz 0 []::H)):WQ N c D Q x F H:=xu (fun _ _ _ hp=>xY hp) h
end
end Go.Bw
namespace Go.Bw
open Go Go.RowKit
def xk:Option Value→Option Value→Bool
  | some (.int _ a),some (.int _ b)=>a == b
  | some (.bool a),some (.bool b)=>a == b
  | _,_=>false
def ou (k:Option IntKind):Option Value→Bool
  | some (.int k' _)=>match k with | some k=>decide (k = k') | none=>false
  | some (.bool _)=>k.isNone
  | _=>false
def xd:List (Nat × Option IntKind)→List Value→List Value→Bool
  | [],_,_=>true
  | (o,_)::r,cs,ds=>xk cs[o]? ds[o]? && xd r cs ds
def yM:List (Nat × Option IntKind)→List Value→Bool
  | [],_=>true
  | (o,k)::r,cs=>ou k cs[o]? && yM r cs
def DD (P:Program) (f:Field) (q:Nat × Option IntKind):Bool:=
  f.name != "_" && Nat.beq f.offset q.1 && (match P.underlying f.type,q.2 with | some (.int k),some k'=>decide (k = k') | some .bool,none=>true | _,_=>false)
def oE (P:Program):List Field→List (Nat × Option IntKind)→Bool
  | [],[]=>true
  | f::fs,q::qs=>DD P f q && oE P fs qs
  | _,_=>false
def xg (P:Program) (t:Nat) (ks:List (Nat × Option IntKind)):Bool:=match P.underlying t with
  | some (.struct fs)=>!P.stoodInHeld t && !P.eqGuardType P.depth t && oE P fs.toList ks
  | _=>false
class C9 (P:Program) (t:TypeId) (ks:outParam (List (Nat × Option IntKind))):Prop where
  ok:xg P t ks = true
theorem kq {P:Program} {t off:Nat} {cs:Array Value} {v:Value} {w:World} (ht:(∃k,P.underlying t = some (.int k))∨P.underlying t = some .bool) (h:cs[off]? = some v):(part t cs off).run P w = .ok v w:=by
  rcases ht with ⟨k,hk⟩ | hk <;> simp [part,isAgg,run_underlying hk,h]
theorem oU {P:Program} {w:World} (n:Nat) {cs ds:List Value}:∀{fs:List Field} {ks:List (Nat × Option IntKind)},oE P fs ks = true→yM ks cs = true→yM ks ds = true →
    (Op.eqFields (n + 1) cs.toArray ds.toArray fs).run P w = .ok (xd ks cs ds) w:=by
  intro fs
  induction fs with
  | nil=>intro ks h _ _; cases ks with
    | nil=>simp [Op.eqFields,xd]
    | cons _ _=>simp [oE] at h
  | cons f fs ih =>
    intro ks h h1 h2
    cases ks with
    | nil=>simp [oE] at h
    | cons q qs =>
      obtain ⟨o,k⟩:=q
      simp only [oE,DD,Bool.and_eq_true,bne_iff_ne,ne_eq] at h
      obtain ⟨⟨⟨hn,ho⟩,hk⟩,hr⟩:=h
      have ho:f.offset = o:=Nat.eq_of_beq_eq_true ho
      simp only [yM,Bool.and_eq_true] at h1 h2
      have mQ:=ih hr h1.2 h2.2
      subst ho
      have k1:=h1.1
      have k2:=h2.1
      match hu:P.underlying f.type,k,hk with
      | some (.int kk),some k',hk =>
        have e:kk = k':=by simpa using hk
        subst e
        match hc:cs[f.offset]?,k1 with
        | some (.int ka a),k1 =>
          have e1:kk = ka:=by simpa [ou] using k1
          subst e1
          match hd:ds[f.offset]?,k2 with
          | some (.int kb b),k2 =>
            have e2:kk = kb:=by simpa [ou] using k2
            subst e2
            have p1:=kq (w:=w) (.inl ⟨_,hu⟩) (show cs.toArray[f.offset]? = some (.int kk a) by simpa using hc)
            have p2:=kq (w:=w) (.inl ⟨_,hu⟩) (show ds.toArray[f.offset]? = some (.int kk b) by simpa using hd)
            have p3:=run_equalIn_int (P:=P) w n f.type kk kk a b hu
            simp only [Op.eqFields,hn,ne_eq,not_false_eq_true,if_true,Sem.run_bind,p1,p2,p3,Result.andThen_ok]
            simp only [xd,hc,hd,xk]
            cases a == b <;> simp [mQ]
          | some (.bool _),k2=>simp [ou] at k2
        | some (.bool _),k1=>simp [ou] at k1
      | some .bool,none,_ =>
        match hc:cs[f.offset]?,k1 with
        | some (.bool a),_ =>
          match hd:ds[f.offset]?,k2 with
          | some (.bool b),_ =>
            have p1:=kq (w:=w) (.inr hu) (show cs.toArray[f.offset]? = some (.bool a) by simpa using hc)
            have p2:=kq (w:=w) (.inr hu) (show ds.toArray[f.offset]? = some (.bool b) by simpa using hd)
            have p3:=run_equalIn_bool' (P:=P) w n f.type a b hu
            simp only [Op.eqFields,hn,ne_eq,not_false_eq_true,if_true,Sem.run_bind,p1,p2,p3,Result.andThen_ok]
            simp only [xd,hc,hd,xk]
            cases a == b <;> simp [mQ]
          | some (.int _ _),k2=>simp [ou] at k2
        | some (.int _ _),k1=>simp [ou] at k1
section
variable {P:Program} {N:Nat} {c:Cx} {F:dB} {H:List aZ} {d:Option Tmp} {ty:TypeId} {p:String} {af:Array Edge} {g:Option (Nat × Bool)}
theorem C9.get {t:Nat} {ks:List (Nat × Option IntKind)} (h:xg P t ks = true):P.underlying t = some (.struct (P.fieldsOf t))∧P.stoodInHeld t = false∧P.eqGuardType P.depth t = false∧oE P (P.fieldsOf t).toList ks = true:=by
  unfold xg at h
  split at h
  · rename_i fs hu
    simp only [Bool.and_eq_true,Bool.not_eq_true'] at h
    have e:P.fieldsOf t = fs:=by simp [Program.fieldsOf,hu]
    rw [e]
    exact ⟨hu,h.1.1,h.1.2,h.2⟩
  · cases h
theorem C4 {x y:Operand} {cs ds:List Value} {T U:TypeId} {ks:List (Nat × Option IntKind)} [hT:C9 P T ks] (hx:ev F x = some (.agg cs.toArray)) (hy:ev F y = some (.agg ds.toArray)) (h1:yM ks cs = true) (h2:yM ks ds = true) :
    VS P N c ⟨d, .binOp .eql T x y U,ty,p,af,g⟩ F H (.bool (xd ks cs ds)):=
  br (by simp) fun a' w hf _ _=>by
    obtain ⟨e1,e2,e3,e4⟩:=C9.get hT.ok
    have q1:=run_eqGuard_agg (P:=P) w .eql T x y cs.toArray ds.toArray e3
    have q2:=run_eql_struct (P:=P) w T cs.toArray ds.toArray
    rw [run_equalIn_struct w 9999 T _ _ e1 e2,oU 9998 e4 h1 h2] at q2
    simp only [Result.andThen_ok] at q2
    simp [execOp,bK hf hx,bK hf hy,q1,q2]
def jA (l h sz:Nat):Value→Value
  | .slice a _ cap=>.slice (if cap = l then a else a.map (·.add (l * sz))) (h - l) (cap - l)
  | v=>v
theorem Ro.cut {w:World} {v:Value} {sz n l h:Nat} {xs:List Value} (hr:Ro w v sz n xs) (hl:l ≤ h) (hh:h ≤ n):Ro w (jA l h sz v) sz (h - l) ((xs.drop (l * sz)).take ((h - l) * sz)):=by
  have hlen:((xs.drop (l * sz)).take ((h - l) * sz)).length = (h - l) * sz:=by
    have:(h - l) * sz + l * sz ≤ n * sz:=by rw [← Nat.add_mul]; exact Nat.mul_le_mul_right _ (by omega)
    simp [hr.1]; omega
  refine ⟨hlen,?_⟩
  rcases hr.2 with ⟨⟨a,cp,rfl⟩,rfl⟩ | ⟨gb,off,cap,rfl,h2,h3,h4⟩
  · have e1:l = 0:=by omega
    have e2:h = 0:=by omega
    subst e1; subst e2
    exact .inl ⟨⟨_,_,rfl⟩,rfl⟩
  · by_cases e:cap = l
    · have e2:h = l:=by omega
      subst e2
      exact .inl ⟨⟨some ⟨gb,off,none⟩,cap - h,by simp [jA,e]⟩,by omega⟩
    · refine .inr ⟨gb,off + l * sz,cap - l,by simp [jA,e,Addr.add_lit],h2,by omega,fun j u hu=>?_⟩
      rw [List.getElem?_take] at hu
      split at hu
      · rw [List.getElem?_drop] at hu
        rw [Nat.add_assoc]
        exact h4 _ u hu
      · cases hu
theorem A5 (l h sz:Nat) (v:Value):(jA l h sz v).ownBlock = v.ownBlock:=by
  cases v with
  | slice a n cap=>cases a <;> simp only [jA] <;> split <;> simp [Value.ownBlock,Addr.add] <;> split <;> rfl
  | _=>rfl
theorem BM.cut {l h sz:Nat} {v:Value} (hv:BM v):BM (jA l h sz v):=by obtain ⟨a,n,cp,rfl⟩:=hv; exact ⟨_,_,_,rfl⟩
theorem tw {k:IntKind} {l n:Nat} {code:BoundsCode} {w:World} (h:l ≤ n):(Instr.sliceBound (.int k l) n code).run P w = .ok l w:=by
  have h2:(l:Int) ≤ (n:Int):=by omega
  simp [Instr.sliceBound,asIntOf,h2]
theorem zf {x lo:Operand} {t e q sz n:Nat} (l:Nat) {v:Value} {xs:List Value} {k:IntKind} [ht:qI P t e q] (hx:ev F x = some v) (hlo:ev F lo = some (.int k l)) [h:oc c H v sz n xs] (hl:l ≤ n) :
    VS P N c ⟨d, .slice t x (some lo) none none,ty,p,af,g⟩ F H (jA l n q v):=
  br (by simp) fun a w hf hs hp=>by
    obtain ⟨i,h1,h2,h3⟩:=qI.get ht.ok
    obtain ⟨a0,cp,rfl⟩ : ∃a0 cp,v = .slice a0 n cp:=by
      rcases (h.ro w hs hp).2 with ⟨⟨a0,cp,rfl⟩,rfl⟩ | ⟨gb,off,cap,rfl,_⟩ <;> exact ⟨_,_,rfl⟩
    have b1:=tw (P:=P) (k:=k) (w:=w) (code:=.sliceB) hl
    simp [execOp,bK hf hx,bK hf hlo,Instr.sliceAt,run_underlying h1,Instr.slice,Instr.sliceBounds,b1,sizeOf,typeInfo,h2,h3,jA]
theorem zg {x hi:Operand} {t e q sz n:Nat} (m:Nat) {v:Value} {xs:List Value} {k:IntKind} [ht:qI P t e q] (hx:ev F x = some v) (hhi:ev F hi = some (.int k m)) [h:oc c H v sz n xs] (hm:m ≤ n) :
    VS P N c ⟨d, .slice t x none (some hi) none,ty,p,af,g⟩ F H (jA 0 m q v):=
  br (by simp) fun a w hf hs hp=>by
    obtain ⟨i,h1,h2,h3⟩:=qI.get ht.ok
    obtain ⟨a0,cp,rfl,Qn⟩ : ∃a0 cp,v = .slice a0 n cp∧m ≤ cp:=by
      rcases (h.ro w hs hp).2 with ⟨⟨a0,cp,rfl⟩,rfl⟩ | ⟨gb,off,cap,rfl,_,hle,_⟩
      · exact ⟨_,_,rfl,by omega⟩
      · exact ⟨_,_,rfl,by omega⟩
    have b1:=tw (P:=P) (k:=k) (w:=w) (code:=.sliceAcap) Qn
    simp [execOp,bK hf hx,bK hf hhi,Instr.sliceAt,run_underlying h1,Instr.slice,Instr.sliceBounds,b1,sizeOf,typeInfo,h2,jA]
theorem r8 {t ty e sz bytes n m:Nat} {v x:Value} {xs news:List Value} {w:World} [ht:zB P t e sz bytes] (hown:w.ownsRow 0 e sz v n xs) (hx:Ro w x sz m news) (h1:ju news) (yS:(n + m) * bytes ≤ 140737488355328) (h63:n + m ≤ 9223372036854775807) :
    ∃v' w',(Builtin.append_ #[t,t] ty #[v,x]).run P w = .ok v' w'∧w'.ownsRow 0 e sz v' (n + m) (xs++news)∧bw v.ownBlock.toList w w' ∧
      (∀k,v'.ownBlock = some k→(v.ownBlock = some k∨w.heap.size ≤ k)∧k < w'.heap.size):=by
  rcases hx.2 with ⟨⟨a,cp,rfl⟩,rfl⟩ | ⟨gb,off,cap,rfl,_,_,h4⟩
  · obtain ⟨i,z,e1,e2,e3,e4,e5,e6,e7⟩:=zB.get ht.ok
    have Mw:news = []:=List.length_eq_zero_iff.1 (by rw [hx.1]; simp)
    subst Mw
    have hsrc:Src P i.size t (.slice a 0 cp) 0 [] w:=by
      cases a with
      | none=>exact Src.ofNil w e1 cp
      | some a=>exact Src.ofSlice w e1 a 0 cp [] (by simp) (by simp) (by simp)
    obtain ⟨base,sCap,hv,hle⟩ : ∃base sCap,v = .slice base n sCap∧n ≤ sCap:=by
      rcases hown.2 with ⟨rfl,rfl⟩ | ⟨g,cap,cur,rfl,_,_,hc,_⟩
      · exact ⟨_,_,rfl,Nat.le_refl _⟩
      · exact ⟨_,_,rfl,hc⟩
    have hrun:=run_append_nothing (P:=P) w t t ty e i e1 e2 base n sCap hle _ hsrc
    rw [← hv] at hrun
    refine ⟨v,w,hrun,by simpa using hown,bw.refl _ _,fun k hk=>⟨.inl hk,?_⟩⟩
    rcases hown.2 with ⟨rfl,_⟩ | ⟨g,cap,cur,rfl,_,hg,_⟩
    · cases hk
    · cases hk; exact (Array.getElem?_eq_some_iff.1 hg).1
  · exact mZ hown hx.1 h4 h1 yS h63
theorem uM {s x:Operand} {t e sz bytes n m:Nat} {v u:Value} {xs news:List Value} {f:aZ→List aZ} [zB P t e sz bytes] (hs:ev F s = some v) [hr:nA H v e sz n xs f] (hx:ev F x = some u) [hu:oc c H u sz m news]
    (h1:ju news) (yS:(n + m) * bytes ≤ 140737488355328) (h63:n + m ≤ 9223372036854775807) :
    RX P N c ⟨d, .call ⟨.builtin .append,#[s,x],#[t,t]⟩,ty,p,af,g⟩ F H (fun v'=>kf v' (n + m)) (fun v'=>v') (fun v'=>f (.row v' e sz (n + m) (xs++news))):=fun D a w next Q hst hk=>by
  obtain ⟨k,k1,k2⟩:=hr.ok
  have hm:aZ.row v e sz n xs ∈ H:=List.mem_of_getElem? k1
  obtain ⟨v',w',q1,q2,q3,q4⟩:=r8 (P:=P) (t:=t) (ty:=ty) (hst.hp.holds _ hm) (hu.ro w hst.si hst.hp) h1 yS h63
  refine g7 (by simp) (v:=v') (w':=w') ?_ (hk v' w' (kf.qV q2) (hst.si.trans q3 fun b' hb'=>(hst.hp.own _ hm b' hb').1) ?_)
  · simp [execOp,resolve,invoke,builtin,bK hst.fr hs,bK hst.fr hx,q1]
  · show cy c.bs c.w0.heap.size (f (.row v' e sz (n + m) (xs++news))) w'
    rw [k2]
    refine hst.hp.set k1 q3.size (fun j hj hn=>q3.block j hj hn) q2 hst.si.size (fun b' hb'=>?_)
    have:=q4 b' (by simpa [aZ.gN] using hb')
    exact ⟨this.1.imp (fun h=>by simpa [aZ.gN] using h) id,this.2⟩
structure Sl where
  v:Value
  sz:Nat
  n:Nat
  xs:List Value
def Sl.ok (w:World) (q:Sl):Prop:=Ro w q.v q.sz q.n q.xs
def Eg (l:List Sl):List Nat:=l.flatMap fun q=>q.v.ownBlock.toList
def Hl (l:List Sl):aZ:=.ext (Eg l) fun w=>∀q ∈ l,q.ok w
class Re (H:List aZ) (v:Value) (sz n:outParam Nat) (xs:outParam (List Value)):Prop where
  ok:∃l,Hl l ∈ H∧(⟨v,sz,n,xs⟩ : Sl) ∈ l
class Q6 (l:List Sl) (v:Value) (sz n:outParam Nat) (xs:outParam (List Value)):Prop where
  ok:(⟨v,sz,n,xs⟩ : Sl) ∈ l
class Q3 (H:List aZ) (l:outParam (List Sl)) (f:outParam (aZ→List aZ)):Prop where
  ok:∃k,H[k]? = some (Hl l)∧∀r,f r = H.set k r
end
end Go.Bw
namespace Go.Bw
open Go Go.RowKit
def IntKind.up (k:IntKind):Nat:=if k.signed then k.bits - 1 else k.bits
theorem BR {k:IntKind} {r:Nat} (h:r < 2 ^ IntKind.up k):k.wrap (r:Int) = r:=by
  cases k <;> simp only [IntKind.up,IntKind.signed,IntKind.bits,if_true,Bool.false_eq_true,if_false] at h <;>
    simp [IntKind.wrap,IntKind.signed,IntKind.bits] at h ⊢ <;> omega
theorem CW (k:IntKind):IntKind.up k ≤ k.bits:=by cases k <;> simp [IntKind.up,IntKind.signed,IntKind.bits]
section
variable {P:Program} {N:Nat} {c:Cx} {F:dB} {H:List aZ} {d:Option Tmp} {ty:TypeId} {p:String} {af:Array Edge} {g:Option (Nat × Bool)} {x y:Operand} {k:IntKind} {T U:TypeId}
theorem za {x y:Operand} {T len e sz q m:Nat} {i:Int} {k:IntKind} {cs us:List Value} [hT:mc P T len e sz] [hA:ja P e q] (hx:ev F x = some (.agg cs.toArray)) (hy:ev F y = some (.int k i)) (hi:i = (m:Int)) (hm:m < len)
    (hv:(cs.drop (m * sz)).take sz = us):VS P N c ⟨d, .index T x y,ty,p,af,g⟩ F H (.agg us.toArray):=
  br (by simp) fun a w hf _ _=>by
    obtain ⟨inf,h1,h2,h3⟩:=mc.get hT.ok
    subst hi
    have hs:(sizeOf e).run P w = .ok sz w:=by simp [sizeOf,typeInfo,h2,h3]
    have Fj:(isAgg e).run P w = .ok true w:=kJ w
    have he:cs.toArray.extract (m * sz) (m * sz + sz) = us.toArray:=by
      apply Array.ext'
      rw [← hv]
      simp [List.extract_eq_take_drop,Nat.add_sub_cancel_left]
    have hp:(part e cs.toArray (m * sz)).run P w = .ok (.agg us.toArray) w:=by
      unfold part
      rw [Sem.run_bind,Fj]
      simp only [Result.andThen_ok,if_true,Sem.run_bind,hs,Sem.run_pure,he]
    simp [execOp,bK hf hx,bK hf hy,Instr.index,asIntOf,run_underlying h1,hm,hs,hp]
theorem tA {x y:Operand} {T len e sz m:Nat} {i:Int} {k:IntKind} {cs:List Value} {u:Value} [hT:mc P T len e sz] [hA:kB P e] (hx:ev F x = some (.agg cs.toArray)) (hy:ev F y = some (.int k i)) (hi:i = (m:Int)) (hm:m < len)
    (hv:cs[m * sz]? = some u):VS P N c ⟨d, .index T x y,ty,p,af,g⟩ F H u:=
  br (by simp) fun a w hf _ _=>by
    obtain ⟨inf,h1,h2,h3⟩:=mc.get hT.ok
    subst hi
    have hs:(sizeOf e).run P w = .ok sz w:=by simp [sizeOf,typeInfo,h2,h3]
    have Fj:(isAgg e).run P w = .ok false w:=mN w
    have hp:(part e cs.toArray (m * sz)).run P w = .ok u w:=by simp [part,Fj,hv]
    simp [execOp,bK hf hx,bK hf hy,Instr.index,asIntOf,run_underlying h1,hm,hs,hp]
end
end Go.Bw
namespace Go.Bw
open Go
def eO {α:Type} (g:Nat→α) (i:Nat) (v:α):Nat→α:=fun j=>if j = i then v else g j
@[simp] theorem zF {α:Type} (g:Nat→α) (i:Nat) (v:α):eO g i v i = v:=by simp [eO]
theorem yw {α:Type} (g:Nat→α) {i j:Nat} (v:α) (h:j ≠ i):eO g i v j = g j:=by simp [eO,h]
def flat (g:Nat→List Value):Nat→List Value
  | 0=>[]
  | n + 1=>flat g n++g n
theorem jS {g:Nat→List Value} {k:Nat}:∀{n:Nat},(∀i,i < n→(g i).length = k)→(flat g n).length = n * k:=by
  intro n
  induction n with
  | zero=>intro _; simp [flat]
  | succ n ih=>intro h; simp [flat,ih (fun i hi=>h i (by omega)),h n (by omega),Nat.add_mul]
theorem oF {g g' : Nat→List Value}:∀{n:Nat},(∀i,i < n→g i = g' i)→flat g n = flat g' n:=by
  intro n
  induction n with
  | zero=>intro _; rfl
  | succ n ih=>intro h; simp [flat,ih (fun i hi=>h i (by omega)),h n (by omega)]
theorem flat_get {g:Nat→List Value} {k:Nat}:∀{n i j:Nat},(∀i,i < n→(g i).length = k)→i < n→j < k→(flat g n)[i * k + j]? = (g i)[j]?:=by
  intro n
  induction n with
  | zero=>intro i j _ hi; omega
  | succ n ih =>
    intro i j h hi hj
    have hl:=jS (n:=n) (fun i hi=>h i (by omega))
    by_cases e:i = n
    · subst e
      rw [flat,List.getElem?_append_right (by omega),hl]
      congr 1; omega
    · have:i * k + j < n * k:=by
        have h1:(i + 1) * k ≤ n * k:=Nat.mul_le_mul_right k (by omega)
        rw [Nat.add_mul] at h1; omega
      rw [flat,List.getElem?_append_left (by omega)]
      exact ih (fun i hi=>h i (by omega)) (by omega) hj
theorem q7 {l m:List Value} (h:∀j:Nat,l[j]? = m[j]?):l = m:=List.ext_getElem? h
theorem wB {cs vs:List Value} {off:Nat} (h:off + vs.length ≤ cs.length):(bP cs off vs).length = cs.length:=by
  simp [bP]; omega
theorem mw {cs vs:List Value} {off:Nat} (h:off + vs.length ≤ cs.length) (j:Nat):(bP cs off vs)[j]? = if off ≤ j∧j < off + vs.length then vs[j - off]? else cs[j]?:=by
  unfold bP
  by_cases h1:j < off
  · rw [if_neg (by omega),List.append_assoc,List.getElem?_append_left (by simp; omega),List.getElem?_take,if_pos h1]
  · by_cases h2:j < off + vs.length
    · rw [if_pos (by omega),List.append_assoc,List.getElem?_append_right (by simp; omega),List.getElem?_append_left (by simp; omega)]
      congr 1; simp; omega
    · rw [if_neg (by omega),List.getElem?_append_right (by simp; omega),List.getElem?_drop]
      congr 1; simp; omega
theorem tN {p q vs:List Value} {off:Nat}:bP (p++q) (p.length + off) vs = p++bP q off vs:=by
  unfold bP
  have h1:(p++q).take (p.length + off) = p++q.take off:=by simp [List.take_append,List.take_of_length_le (show p.length ≤ p.length + off by omega)]
  have h2:(p++q).drop (p.length + off + vs.length) = q.drop (off + vs.length):=by
    rw [Nat.add_assoc,List.drop_append,List.drop_eq_nil_of_le (by omega)]
    simp
  rw [h1,h2]; simp
theorem u6 {p q vs:List Value} {off:Nat} (h:off + vs.length ≤ p.length):bP (p++q) off vs = bP p off vs++q:=by
  unfold bP
  rw [List.take_append_of_le_length (by omega),List.drop_append_of_le_length h]
  simp
theorem vy {g:Nat→List Value} {k n i:Nat} {vs:List Value} (h:∀i,i < n→(g i).length = k) (hi:i < n) (hv:vs.length = k):bP (flat g n) (i * k) vs = flat (eO g i vs) n:=by
  have hl:=jS (n:=n) h
  have h' : ∀j,j < n→(eO g i vs j).length = k:=fun j hj=>by by_cases e:j = i <;> simp [eO,e,hv,h j hj]
  have hl':=jS (n:=n) h'
  have hb:(i + 1) * k ≤ n * k:=Nat.mul_le_mul_right k (by omega)
  rw [Nat.add_mul] at hb
  refine q7 fun j=>?_
  rw [mw (by omega)]
  by_cases hj:j < n * k
  · have hk:0 < k:=by
      rcases Nat.eq_zero_or_pos k with h0 | h0
      · subst h0; omega
      · exact h0
    have hd:j = j / k * k + j % k:=by rw [Nat.mul_comm]; exact (Nat.div_add_mod j k).symm
    have hm:=Nat.mod_lt j hk
    have hq:j / k < n:=Nat.div_lt_of_lt_mul (by rw [Nat.mul_comm]; exact hj)
    by_cases e:j / k = i
    · rw [if_pos (by subst e; omega)]
      rw [hd,flat_get h' hq hm,e,zF]
      congr 1; subst e; omega
    · rw [if_neg]
      · rw [hd,flat_get h' hq hm,flat_get h hq hm,yw _ _ e]
      · rintro ⟨h1,h2⟩
        apply e
        have:i ≤ j / k:=(Nat.le_div_iff_mul_le hk).2 h1
        have:j / k < i + 1:=(Nat.div_lt_iff_lt_mul hk).2 (by rw [Nat.add_mul]; omega)
        omega
  · rw [if_neg (by omega),List.getElem?_eq_none (by omega),List.getElem?_eq_none (by omega)]
theorem yY {g:Nat→List Value} {k n i:Nat} {t:List Value} (h:∀i,i < n→(g i).length = k) (hi:i < n):((flat g n++t).drop (i * k)).take k = g i:=by
  have hl:=jS (n:=n) h
  have hb:(i + 1) * k ≤ n * k:=Nat.mul_le_mul_right k (by omega)
  rw [Nat.add_mul] at hb
  refine q7 fun j=>?_
  rw [List.getElem?_take,List.getElem?_drop]
  by_cases hj:j < k
  · rw [if_pos hj,List.getElem?_append_left (by omega),flat_get h hi hj]
  · rw [if_neg hj,List.getElem?_eq_none (by rw [h i hi]; omega)]
theorem ju.app {a b:List Value} (ha:ju a) (hb:ju b):ju (a++b):=fun v hv=>(List.mem_append.1 hv).elim (ha v) (hb v)
@[simp] theorem ju.set {cs:List Value} {i:Nat} {v:Value} (h:ju cs) (hv:v.oneCell' = true):ju (cs.set i v):=fun u hu=>by
  rcases List.mem_or_eq_of_mem_set hu with h1 | h1
  · exact h u h1
  · rw [h1]; exact hv
@[simp] theorem ju.nil:ju []:=fun _ h=>by cases h
@[simp] theorem ju.cons {v:Value} {r:List Value} (hv:v.oneCell' = true) (h:ju r):ju (v::r):=fun u hu=>by
  rcases List.mem_cons.1 hu with h1 | h1
  · rw [h1]; exact hv
  · exact h u h1
theorem qK {vs:List Value} (h:vs.all (·.oneCell') = true):ju vs:=fun v hv=>List.all_eq_true.1 h v hv
theorem ju.flat {g:Nat→List Value}:∀{n:Nat},(∀i,i < n→ju (g i))→ju (flat g n):=by
  intro n
  induction n with
  | zero=>intro _ v hv; simp [Bw.flat] at hv
  | succ n ih=>intro h; exact (ih fun i hi=>h i (by omega)).app (h n (by omega))
end Go.Bw
namespace Go.Bw
open Go Go.RowKit
def DL (P:Program) (l:Nat) (OM:List Nat) (w1:World) (J:Nat→List Nat→World→Prop) (Jx:List Nat→World→Prop) (encs:Nat→List Value) (n:Nat):Prop:=
  ∀k,k < n→∀W bs,bw OM w1 W→(∀b ∈ bs,(b ∈ OM∨w1.heap.size ≤ b)∧b < W.heap.size)→(aZ.ext bs (J k bs)).holds W →
    YieldAt (FA none) 0 P l (encs k).toArray W fun e W'=>∃bs',(∀b ∈ bs',(b ∈ bs∨W.heap.size ≤ b)∧b < W'.heap.size)∧bw bs W W' ∧
      ((e = .returned (.bool true)∧(aZ.ext bs' (J (k + 1) bs')).holds W')∨(e = .returned (.bool false)∧(aZ.ext bs' (Jx bs')).holds W'))
structure N4 (P:Program) (gf:Nat) (caps:List Value) (Hc:List aZ) (pre:World→Prop) (encs:Nat→List Value) (n:Nat):Prop where
  fn:∀(l:Nat) (J:Nat→List Nat→World→Prop) (Jx:List Nat→World→Prop) (bs:List Nat),
    Fn (α:=Bool × List Nat) P gf (.func (.yield l) #[] #[]::caps) (fun w=>pre w∧DL P l (bs++bI Hc) w J Jx encs n) (.ext bs (J 0 bs)::Hc)
      (fun _=>True) (fun _=>.tuple #[]) (fun x=>.ext x.2 (bif x.1 then J n x.2 else Jx x.2)::Hc)
class Dd (H:List aZ) (bs:List Nat) (J:World→Prop) (f:outParam (aZ→List aZ)):Prop where
  ok:∃k,H[k]? = some (.ext bs J)∧∀r,f r = H.set k r
instance (priority:=100) GK (bs J) (H:List aZ):Dd (.ext bs J::H) bs J (fun r=>r::H):=⟨⟨0,rfl,fun _=>rfl⟩⟩
instance (priority:=50) Gi (r:aZ) (H:List aZ) (bs J f) [h:Dd H bs J f]:Dd (r::H) bs J (fun q=>r::f q):=
  ⟨by obtain ⟨k,h1,h2⟩:=h.ok; exact ⟨k + 1,by simpa using h1,fun q=>by simp [h2]⟩⟩
section
variable {P:Program} {N:Nat} {c:Cx} {F:dB} {H:List aZ} {d:Option Tmp} {ty:TypeId} {p:String} {af:Array Edge} {g:Option (Nat × Bool)}
theorem pF {x:Operand} {args:List Operand} {ats:Array TypeId} {l n k:Nat} {encs:Nat→List Value} {J:Nat→List Nat→World→Prop} {Jx:List Nat→World→Prop} {bs:List Nat} {f:aZ→List aZ}
    (hR:DL P l c.bs c.w0 J Jx encs n) (hk:k < n) (hro:c.ro = none) (hx:ev F x = some (.func (.yield l) #[] #[])) (ha:qw F args = some (encs k)) [he:Dd H bs (J k bs) f] :
    RX (α:=Bool × List Nat) P N c ⟨d, .call ⟨.value x,args.toArray,ats⟩,ty,p,af,g⟩ F H (fun _=>True) (fun x=>.bool x.1) (fun x=>f (.ext x.2 (bif x.1 then J (k + 1) x.2 else Jx x.2))):=fun D a w next Q hst hkk=>by
  obtain ⟨kk,h1,h2⟩:=he.ok
  have hm:aZ.ext bs (J k bs) ∈ H:=List.mem_of_getElem? h1
  have dc:∀b ∈ bs,(b ∈ c.bs∨c.w0.heap.size ≤ b)∧b < w.heap.size:=fun b hb=>hst.hp.own _ hm b hb
  obtain ⟨fn,tmps,assign,body,hy,hF,hr⟩:=hR k hk w bs hst.si dc (hst.hp.holds _ hm)
  refine ⟨fun _ _=>trivial,?_⟩
  have hs:Oper.semAt (FA c.ro).round a.eval (⟨d, .call ⟨.value x,args.toArray,ats⟩,ty,p,af,g⟩ : Oper) = execOp a.eval ⟨d, .call ⟨.value x,args.toArray,ats⟩,ty,p,af,g⟩:=Oper.semAt_eq _ _ _ (by simp)
  have hrun:(execOp a.eval ⟨d, .call ⟨.value x,args.toArray,ats⟩,ty,p,af,g⟩).run P w = .ok (.round l fn tmps assign body) w:=by
    have e1:=bK hst.fr hx
    have e2:=pU hst.fr ha
    have e3:#[]++(args.toArray.map a.eval) = (encs k).toArray:=by rw [← e2]; simp
    simp only [execOp,resolve,e1,Deferred.ofValue,Sem.run_bind,Sem.run_pure,Result.andThen_ok,invoke,e3]
    exact hy
  rw [hs,hrun]
  refine ⟨fun h=>by simp at h,⟨trivial,fun cf cs hroom=>?_⟩⟩
  have Oy:FA c.ro = FA none:=by rw [hro]
  rw [Oy]
  obtain ⟨e,W',hpost,E6⟩:=hr cf cs (by rw [← Oy]; exact hroom)
  refine ⟨e,W',?_,E6⟩
  obtain ⟨bs',hb',hsi,s9⟩:=hpost
  have fin:∀b:Bool,(aZ.ext bs' (bif b then J (k + 1) bs' else Jx bs')).holds W'→next (a.put d (.bool b)) W':=fun b hh=>by
    refine hkk (b,bs') W' trivial (hst.si.trans hsi fun b hb=>(dc b hb).1) ?_
    show cy c.bs c.w0.heap.size (f (aZ.ext bs' (bif b then J (k + 1) bs' else Jx bs'))) W'
    rw [h2]
    exact hst.hp.set h1 hsi.size (fun j hj hn=>hsi.block j hj hn) hh hst.si.size (fun b hb=>hb' b hb)
  rcases s9 with ⟨rfl,hh⟩ | ⟨rfl,hh⟩
  · exact fin true hh
  · exact fin false hh
end
def qp:List Nat→List Value→dB→dB
  | p::ps,v::vs,F=>qp ps vs ((p,v)::F)
  | _,_,F=>F
theorem xR:∀{ps:List Nat} {vs:List Value} {F:dB} {t:Array Value} {N:Nat},nF F t→t.size = N→ps.all (Nat.blt · N) = true→nF (qp ps vs F) ((ps.zip vs).foldl (fun t q=>t.setIfInBounds q.1 q.2) t)∧((ps.zip vs).foldl (fun t q=>t.setIfInBounds q.1 q.2) t).size = N:=by
  intro ps
  induction ps with
  | nil=>intro vs F t N h hs _; cases vs <;> exact ⟨h,hs⟩
  | cons p ps ih =>
    intro vs F t N h hs ha
    cases vs with
    | nil=>exact ⟨h,hs⟩
    | cons v vs =>
      simp only [List.all_cons,Bool.and_eq_true] at ha
      have h1:=nF.put (a:=⟨t,[]⟩) (d:=some p) (v:=v) (N:=N) h hs ha.1
      exact ih h1 (by simpa using hs) ha.2
def xA (P:Program) (l:Nat) (body:Code) (R:Ending→World→Prop):Exit→Act→World→Prop:=
  Exit.then (fun a₁ w₁=>∃w₂,(Instr.beginRound l).run P w₁ = .ok () w₂∧body.wpIn (FA (some l)) 0 P (roundPost P l R) a₁ w₂) (fun _ _ _=>False)
def xy (c' : Cx) (JT JX:List Nat→World→Prop):Ending→World→Prop:=fun e W' =>
  ∃bs',(∀b ∈ bs',(b ∈ c'.bs∨c'.w0.heap.size ≤ b)∧b < W'.heap.size)∧bw c'.bs c'.w0 W'∧((e = .returned (.bool true)∧(aZ.ext bs' (JT bs')).holds W')∨(e = .returned (.bool false)∧(aZ.ext bs' (JX bs')).holds W'))
def JW {α:Type} (n0:Nat) (cb:List Nat) (p:α→Prop) (I:α→List aZ):List Nat→World→Prop:=fun bs W=>∃i,p i∧cy cb n0 (I i) W∧bs = bI (I i)
theorem dw {H:List aZ} {b:Nat}:b ∈ bI H↔∃r ∈ H,b ∈ r.gN:=by simp [bI]
theorem uO {α:Type} {n0:Nat} {cb:List Nat} {p:α→Prop} {I:α→List aZ} {W:World} (i:α) (hp:p i) (h:cy cb n0 (I i) W):(aZ.ext (bI (I i)) (JW n0 cb p I (bI (I i)))).holds W:=
  fun _ hs hb=>⟨i,hp,h.same hs (fun r hr b ud=>hb b (dw.2 ⟨r,hr,ud⟩)) (fun _ o _=>o),rfl⟩
theorem ext_get {bs:List Nat} {J:World→Prop} {W:World} (h:(aZ.ext bs J).holds W):J W:=h W (Nat.le_refl _) fun _ _=>rfl
section rules
variable {P:Program} {N:Nat} {c:Cx} {F:dB} {H H' : List aZ} {l:Nat} {body:Code} {R:Ending→World→Prop}
theorem St.zP {N:Nat} {D:List Deferred} {a:Act} {w:World} {b:Nat} {o o' : Obj} (hst:St N c D F H a w) (ho:p8 H b o) (hs:qz H b o' H'):St N c D F H' a (w.putObj b o')∧w.heap[b]? = some o:=by
  have hm:=hst.hp.holds _ ho.mem
  have hd:w.heap[b]? = some o:=hm
  have hlt:=(Array.getElem?_eq_some_iff.1 hd).1
  have nN:bw [b] w (w.putObj b o'):=⟨rfl,rfl,rfl,by simp [World.putObj],fun k _ hk=>World.putObj_heap_other (by simpa using hk)⟩
  refine ⟨⟨hst.tm,hst.fr,hst.df,hst.si.store hst.hp ho.mem (by simp [aZ.gN]) nN,?_⟩,hd⟩
  obtain ⟨k,o,hk,rfl⟩:=hs.ok
  refine hst.hp.set hk nN.size (fun j hj hne=>nN.block j hj hne) (World.putObj_heap_same hlt) hst.si.size (fun b' hb=>?_)
  have e:b' = b:=by simpa [aZ.gN] using hb
  subst e
  exact ⟨.inl (by simp [aZ.gN]),by rw [World.putObj]; simpa using hlt⟩
theorem jW {rec:Loop} (hr:rec.state = .ready) (hro:c.ro = some l) [ho:p8 H l (.loop rec)] [hs:qz H l (.loop { rec with state:=.busy }) H'] (h:WP P N c [] body (roundPost P l R) F H') :
    WQ N c [] (xA P l body R) .normal F H:=fun a w hst=>by
  obtain ⟨h1,h2⟩:=hst.zP ho hs
  refine ⟨_,run_beginRound h2 hr,?_⟩
  have:=h _ _ h1
  rw [hro] at this
  exact this
variable {α β:Type} {n0:Nat} {cb:List Nat} {p:α→Prop} {I:α→List aZ} {px:β→Prop} {X:β→List aZ}
theorem bw.owned {c' : Cx} {H:List aZ} {w:World} (hp:cy c'.bs c'.w0.heap.size H w) {b:Nat} (hb:b ∈ bI H):(b ∈ c'.bs∨c'.w0.heap.size ≤ b)∧b < w.heap.size:=by
  obtain ⟨r,hr,ud⟩:=dw.1 hb
  exact hp.own r hr b ud
theorem jt {rec:Loop} (hr:rec.state = .ready) (tZ:rec.pending = none) (hT:∀b,(b ∈ c.bs∨c.w0.heap.size ≤ b)→(b ∈ cb∨n0 ≤ b)) {JX:List Nat→World→Prop} [ho:p8 H l (.loop { rec with state:=.busy })] [hs:qz H l (.loop rec) H']
    (i:α) (hp:p i) {ks:List Nat} (hk:pick H' ks = some (I i)) (hn:ks.Nodup):WQ N c [] (roundPost P l (xy c (JW n0 cb p I) JX)) .normal F H:=fun a w hst=>by
  obtain ⟨h1,h2⟩:=hst.zP ho hs
  have e:({ { rec with state:=LoopState.busy } with state:=if (none:Option Code).isNone then LoopState.ready else .done,pending:=none }:Loop) = rec:=by cases rec; simp_all
  have hrun:=run_endRound (P:=P) none h2
  rw [e] at hrun
  refine ⟨_,_,hrun,bI (I i),?_,h1.si, .inl ⟨rfl,?_⟩⟩
  · intro b hb; exact bw.owned (h1.hp.pick hk hn) hb
  · refine uO i hp ?_
    have:=h1.hp.pick hk hn
    exact ⟨this.holds,fun r hr b hb=>⟨hT b (this.own r hr b hb).1,(this.own r hr b hb).2⟩,this.apart⟩
theorem CZ {rec:Loop} (hT:∀b,(b ∈ c.bs∨c.w0.heap.size ≤ b)→(b ∈ cb∨n0 ≤ b)) {JT:List Nat→World→Prop} [ho:p8 H l (.loop { rec with state:=.busy })] {e:Exit} {j:Code}
    (hj:(e = .ret∧j = .ret)∨(∃id,e = .exit id∧j = .exit id)) [hs:qz H l (.loop { rec with state:=.done,pending:=some j }) H']
    (i:β) (hp:px i) {ks:List Nat} (hk:pick H' ks = some (X i)) (hn:ks.Nodup):WQ N c [] (roundPost P l (xy c JT (JW n0 cb px X))) e F H:=fun a w hst=>by
  obtain ⟨h1,h2⟩:=hst.zP ho hs
  have hrun:=run_endRound (P:=P) (some j) h2
  have fin:∃v w',(Instr.endRound l (some j)).run P w = .ok v w'∧xy c JT (JW n0 cb px X) (.returned v) w':=by
    refine ⟨_,_,hrun,bI (X i),?_,h1.si, .inr ⟨rfl,?_⟩⟩
    · intro b hb; exact bw.owned (h1.hp.pick hk hn) hb
    · refine uO i hp ?_
      have:=h1.hp.pick hk hn
      exact ⟨this.holds,fun r hr b hb=>⟨hT b (this.own r hr b hb).1,(this.own r hr b hb).2⟩,this.apart⟩
  rcases hj with ⟨rfl,rfl⟩ | ⟨id,rfl,rfl⟩
  · exact fin
  · exact fin
end rules
end Go.Bw
namespace Go.Proofs.Ytbalnnoofdkbaaa
open Go Go.Bw
instance:kB Try.prog 3:=⟨by kernel_rfl⟩
instance:v7 Try.prog 3 .i64:=⟨by kernel_rfl⟩
instance:bY Try.prog 3 ([.int .i64 0]):=⟨by kernel_rfl⟩
instance:kB Try.prog 4:=⟨by kernel_rfl⟩
instance:kB Try.prog 5:=⟨by kernel_rfl⟩
instance:qI Try.prog 22 55 5:=⟨by kernel_rfl⟩
instance:kB Try.prog 23:=⟨by kernel_rfl⟩
instance:v7 Try.prog 23 .u32:=⟨by kernel_rfl⟩
instance:ja Try.prog 26 3:=⟨by kernel_rfl⟩
instance:gU Try.prog 26 0 0:=⟨by kernel_rfl⟩
instance:gU Try.prog 26 1 1:=⟨by kernel_rfl⟩
instance:gU Try.prog 26 2 2:=⟨by kernel_rfl⟩
instance:F4 Try.prog 26 [(0,1),(1,1),(2,1)]:=⟨by kernel_rfl⟩
instance:C9 Try.prog 26 [(0,some .u32),(1,none),(2,none)]:=⟨by kernel_rfl⟩
instance:bY Try.prog 26 ([.int .u32 0, .bool false, .bool false]):=⟨by kernel_rfl⟩
instance:ja Try.prog 27 96:=⟨by kernel_rfl⟩
instance:mc Try.prog 27 32 26 3:=⟨by kernel_rfl⟩
instance:ja Try.prog 29 96:=⟨by kernel_rfl⟩
instance:gU Try.prog 29 0 0:=⟨by kernel_rfl⟩
instance:ja Try.prog 31 96:=⟨by kernel_rfl⟩
instance:gU Try.prog 31 0 0:=⟨by kernel_rfl⟩
instance:kB Try.prog 32:=⟨by kernel_rfl⟩
instance:v7 Try.prog 32 .u32:=⟨by kernel_rfl⟩
instance:bY Try.prog 32 ([.int .u32 0]):=⟨by kernel_rfl⟩
instance:kB Try.prog 33:=⟨by kernel_rfl⟩
instance:qI Try.prog 33 124 2:=⟨by kernel_rfl⟩
instance:zB Try.prog 33 124 2 16:=⟨by kernel_rfl⟩
instance:ja Try.prog 35 2:=⟨by kernel_rfl⟩
instance:gU Try.prog 35 0 0:=⟨by kernel_rfl⟩
instance:gU Try.prog 35 1 1:=⟨by kernel_rfl⟩
instance:ja Try.prog 36 8:=⟨by kernel_rfl⟩
instance:mc Try.prog 36 8 32 1:=⟨by kernel_rfl⟩
instance:ja Try.prog 38 12:=⟨by kernel_rfl⟩
instance:gU Try.prog 38 0 0:=⟨by kernel_rfl⟩
instance:gU Try.prog 38 1 1:=⟨by kernel_rfl⟩
instance:gU Try.prog 38 2 2:=⟨by kernel_rfl⟩
instance:gU Try.prog 38 3 4:=⟨by kernel_rfl⟩
instance:F4 Try.prog 38 [(0,1),(1,1),(2,2),(4,8)]:=⟨by kernel_rfl⟩
instance:bY Try.prog 38 ([.int .u32 0, .int .i64 0, .slice none 0 0, .int .i64 0, .int .u32 0, .int .u32 0, .int .u32 0, .int .u32 0, .int .u32 0, .int .u32 0, .int .u32 0, .int .u32 0]):=⟨by kernel_rfl⟩
instance:mc Try.prog 39 32 38 12:=⟨by kernel_rfl⟩
instance:ja Try.prog 41 480:=⟨by kernel_rfl⟩
instance:gU Try.prog 41 0 0:=⟨by kernel_rfl⟩
instance:gU Try.prog 41 1 96:=⟨by kernel_rfl⟩
instance:mc Try.prog 42 32 3 1:=⟨by kernel_rfl⟩
instance:ja Try.prog 44 64:=⟨by kernel_rfl⟩
instance:gU Try.prog 44 1 32:=⟨by kernel_rfl⟩
instance:kB Try.prog 45:=⟨by kernel_rfl⟩
instance:qI Try.prog 45 125 2:=⟨by kernel_rfl⟩
instance:ja Try.prog 47 2:=⟨by kernel_rfl⟩
instance:gU Try.prog 47 0 0:=⟨by kernel_rfl⟩
instance:gU Try.prog 47 1 1:=⟨by kernel_rfl⟩
instance:mc Try.prog 48 8 3 1:=⟨by kernel_rfl⟩
instance:ja Try.prog 50 12:=⟨by kernel_rfl⟩
instance:gU Try.prog 50 0 0:=⟨by kernel_rfl⟩
instance:gU Try.prog 50 1 1:=⟨by kernel_rfl⟩
instance:gU Try.prog 50 2 2:=⟨by kernel_rfl⟩
instance:gU Try.prog 50 3 4:=⟨by kernel_rfl⟩
instance:F4 Try.prog 50 [(0,1),(1,1),(2,2),(4,8)]:=⟨by kernel_rfl⟩
instance:bY Try.prog 50 ([.int .i64 0, .int .i64 0, .slice none 0 0, .int .i64 0, .int .i64 0, .int .i64 0, .int .i64 0, .int .i64 0, .int .i64 0, .int .i64 0, .int .i64 0, .int .i64 0]):=⟨by kernel_rfl⟩
instance:mc Try.prog 51 32 50 12:=⟨by kernel_rfl⟩
instance:ja Try.prog 53 448:=⟨by kernel_rfl⟩
instance:gU Try.prog 53 0 0:=⟨by kernel_rfl⟩
instance:gU Try.prog 53 1 64:=⟨by kernel_rfl⟩
instance:ja Try.prog 55 5:=⟨by kernel_rfl⟩
instance:gU Try.prog 55 0 0:=⟨by kernel_rfl⟩
instance:gU Try.prog 55 1 1:=⟨by kernel_rfl⟩
instance:gU Try.prog 55 2 2:=⟨by kernel_rfl⟩
instance:gU Try.prog 55 3 3:=⟨by kernel_rfl⟩
instance:gU Try.prog 55 4 4:=⟨by kernel_rfl⟩
instance:kB Try.prog 57:=⟨by kernel_rfl⟩
instance:v7 Try.prog 57 .i64:=⟨by kernel_rfl⟩
instance:kB Try.prog 70:=⟨by kernel_rfl⟩
instance:qI Try.prog 70 32 1:=⟨by kernel_rfl⟩
instance:zB Try.prog 70 32 1 4:=⟨by kernel_rfl⟩
instance:qI Try.prog 83 3 1:=⟨by kernel_rfl⟩
instance:zB Try.prog 83 3 1 8:=⟨by kernel_rfl⟩
instance:kB Try.prog 98:=⟨by kernel_rfl⟩
instance:ja Try.prog 124 2:=⟨by kernel_rfl⟩
instance:gU Try.prog 124 0 0:=⟨by kernel_rfl⟩
instance:gU Try.prog 124 1 1:=⟨by kernel_rfl⟩
instance:F4 Try.prog 124 [(0,1),(1,1)]:=⟨by kernel_rfl⟩
instance:bY Try.prog 124 ([.int .i64 0, .int .i64 0]):=⟨by kernel_rfl⟩
instance:mc Try.prog 125 2 3 1:=⟨by kernel_rfl⟩
instance:ja Try.prog 138 1:=⟨by kernel_rfl⟩
instance:F4 Try.prog 138 [(0,1)]:=⟨by kernel_rfl⟩
instance:bY Try.prog 138 ([.slice none 0 0]):=⟨by kernel_rfl⟩
instance:mc Try.prog 142 64 4 1:=⟨by kernel_rfl⟩
theorem mixed:Try.prog.follows .mixedOrders = true:=by kernel_rfl
end Go.Proofs.Ytbalnnoofdkbaaa
namespace Go.Bw
open Go Go.RowKit
structure aJ (α:Type) where
  n:Nat
  rep:(World→Prop)→List Value→α→Prop
  len:∀{J cs x},rep J cs x→cs.length = n
  one:∀{J cs x},rep J cs x→ju cs
  mono:∀{J J' : World→Prop} {cs x},(∀w,J' w→J w)→rep J cs x→rep J' cs x
class bg {α:Type} (L:aJ α) where
  enc:α→List Value
  iff:∀{J cs x},L.rep J cs x↔cs = enc x
def aJ.enc {α:Type} (L:aJ α) [bg L] (x:α):List Value:=bg.enc L x
section
variable {α β γ S:Type}
theorem rp (L:aJ α) [bg L] (x:α):L.rep (fun _=>True) (L.enc x) x:=bg.iff.2 rfl
theorem bx (L:aJ α) [bg L] (x:α):(L.enc x).length = L.n:=L.len (rp L x)
theorem qD (L:aJ α) [bg L] (x:α):ju (L.enc x):=L.one (rp L x)
def LI (k:IntKind):aJ Int where
  n:=1
  rep _ cs x:=cs = [.int k x]
  len h:=by subst h; rfl
  one h:=by subst h; exact qK rfl
  mono _ h:=h
instance (k:IntKind):bg (LI k):=⟨fun x=>[.int k x],Iff.rfl⟩
def LB:aJ Bool where
  n:=1
  rep _ cs x:=cs = [.bool x]
  len h:=by subst h; rfl
  one h:=by subst h; exact qK rfl
  mono _ h:=h
instance:bg LB:=⟨fun x=>[.bool x],Iff.rfl⟩
def LP (A:aJ α) (B:aJ β):aJ (α × β) where
  n:=A.n + B.n
  rep J cs x:=∃c1 c2,cs = c1++c2∧A.rep J c1 x.1∧B.rep J c2 x.2
  len:=fun ⟨c1,c2,h,h1,h2⟩=>by subst h; simp [A.len h1,B.len h2]
  one:=fun ⟨c1,c2,h,h1,h2⟩=>by subst h; exact (A.one h1).app (B.one h2)
  mono m:=fun ⟨c1,c2,h,h1,h2⟩=>⟨c1,c2,h,A.mono m h1,B.mono m h2⟩
instance (A:aJ α) (B:aJ β) [bg A] [bg B]:bg (LP A B):=⟨fun x=>A.enc x.1++B.enc x.2,by
  intro J cs x
  constructor
  · rintro ⟨c1,c2,rfl,h1,h2⟩
    rw [bg.iff] at h1 h2; subst h1 h2; rfl
  · intro h; exact ⟨_,_,h,bg.iff.2 rfl,bg.iff.2 rfl⟩⟩
def aJ.via (A:aJ α) (f:S→α):aJ S where
  n:=A.n
  rep J cs s:=A.rep J cs (f s)
  len h:=A.len h
  one h:=A.one h
  mono m h:=A.mono m h
instance (A:aJ α) (f:S→α) [bg A]:bg (A.via f):=⟨fun s=>A.enc (f s),bg.iff (L:=A)⟩
def LA (L:aJ α) (m:Nat):aJ (Nat→α) where
  n:=m * L.n
  rep J cs a:=∃cc:Nat→List Value,cs = flat cc m∧∀i,i < m→L.rep J (cc i) (a i)
  len:=fun ⟨cc,h,h1⟩=>by subst h; exact jS fun i hi=>L.len (h1 i hi)
  one:=fun ⟨cc,h,h1⟩=>by subst h; exact ju.flat fun i hi=>L.one (h1 i hi)
  mono m':=fun ⟨cc,h,h1⟩=>⟨cc,h,fun i hi=>L.mono m' (h1 i hi)⟩
instance (L:aJ α) (m:Nat) [bg L]:bg (LA L m):=⟨fun a=>flat (fun i=>L.enc (a i)) m,by
  intro J cs a
  constructor
  · rintro ⟨cc,rfl,h⟩
    exact oF fun i hi=>bg.iff.1 (h i hi)
  · intro h; exact ⟨_,h,fun i _=>bg.iff.2 rfl⟩⟩
structure aN (L:aJ α) (M:aJ β) (o:Nat) (g:α→β) (s:α→β→α):Prop where
  get:∀{J cs x},L.rep J cs x→M.rep J ((cs.drop o).take M.n) (g x)
  set:∀{J cs x vs v},L.rep J cs x→M.rep J vs v→L.rep J (bP cs o vs) (s x v)
  le:o + M.n ≤ L.n
theorem aN.id {L:aJ α}:aN L L 0 (fun x=>x) (fun _ v=>v) where
  get h:=by rw [List.drop_zero,List.take_of_length_le (by rw [L.len h]; exact Nat.le_refl _)]; exact h
  set:=@fun J cs x vs v h hv=>by
    have:bP cs 0 vs = vs:=wC (by rw [L.len h,L.len hv])
    rw [this]; exact hv
  le:=by omega
where wC {cs vs:List Value} (h:cs.length = vs.length):bP cs 0 vs = vs:=by simp [bP,← h]
theorem aN.fst {A:aJ α} {B:aJ β} {M:aJ γ} {o:Nat} {g:α→γ} {s:α→γ→α} (p:aN A M o g s):aN (LP A B) M o (fun x=>g x.1) (fun x v=>(s x.1 v,x.2)) where
  get:=fun ⟨c1,c2,h,h1,h2⟩=>by
    subst h
    have hl:=A.len h1
    have:=p.le
    rw [List.drop_append_of_le_length (by omega),List.take_append_of_le_length (by simp; omega)]
    exact p.get h1
  set:=fun ⟨c1,c2,h,h1,h2⟩ hv=>by
    subst h
    have hl:=A.len h1
    have:=p.le
    exact ⟨_,_,u6 (by rw [M.len hv]; omega),p.set h1 hv,h2⟩
  le:=by have:=p.le; show o + M.n ≤ A.n + B.n; omega
theorem aN.snd {A:aJ α} {B:aJ β} {M:aJ γ} {o:Nat} {g:β→γ} {s:β→γ→β} (p:aN B M o g s):aN (LP A B) M (A.n + o) (fun x=>g x.2) (fun x v=>(x.1,s x.2 v)) where
  get:=fun ⟨c1,c2,h,h1,h2⟩=>by
    subst h
    have hl:=A.len h1
    rw [← hl,← List.drop_drop,List.drop_left]
    exact p.get h2
  set:=fun ⟨c1,c2,h,h1,h2⟩ hv=>by
    subst h
    have hl:=A.len h1
    exact ⟨c1,_,by rw [← hl]; exact tN,h1,p.set h2 hv⟩
  le:=by have:=p.le; show A.n + o + M.n ≤ A.n + B.n; omega
theorem aN.via {A:aJ α} {M:aJ γ} {o:Nat} {g:α→γ} {s:α→γ→α} (p:aN A M o g s) (f:S→α) (g' : S→γ) (s' : S→γ→S) (o' : Nat) (ho:o' = o) (hg:∀x,g' x = g (f x)) (hs:∀x v,f (s' x v) = s (f x) v):aN (A.via f) M o' g' s' where
  get h:=by subst ho; rw [hg]; exact p.get h
  set h hv:=by
    subst ho
    show A.rep _ _ (f (s' _ _))
    rw [hs]; exact p.set h hv
  le:=by subst ho; exact p.le
theorem aN.idx {L:aJ α} {m:Nat} (i:Nat) (h:i < m) {k:Nat} (hk:k = L.n):aN (LA L m) L (i * k) (fun a=>a i) (fun a v=>eO a i v) where
  get:=fun ⟨cc,hc,h1⟩=>by
    subst hc hk
    have:=yY (g:=cc) (t:=[]) (fun j hj=>L.len (h1 j hj)) h
    rw [List.append_nil] at this
    rw [this]; exact h1 i h
  set:=@fun J cs x vs v hh hv=>by
    obtain ⟨cc,hc,h1⟩:=hh
    subst hc hk
    refine ⟨eO cc i vs,vy (fun j hj=>L.len (h1 j hj)) h (L.len hv),fun j hj=>?_⟩
    unfold eO
    split
    · exact hv
    · exact h1 j hj
  le:=by
    subst hk
    show i * L.n + L.n ≤ m * L.n
    rw [← Nat.succ_mul]; exact Nat.mul_le_mul_right _ h
theorem aN.comp {L:aJ α} {M:aJ β} {K:aJ γ} {o1 o2:Nat} {g1:α→β} {s1:α→β→α} {g2:β→γ} {s2:β→γ→β} (p:aN L M o1 g1 s1) (q:aN M K o2 g2 s2):aN L K (o1 + o2) (fun x=>g2 (g1 x)) (fun x v=>s1 x (s2 (g1 x) v)) where
  get h:=by
    have h2:=q.get (p.get h)
    have:=q.le
    rw [List.drop_take,List.take_take,List.drop_drop,Nat.min_eq_left (by omega)] at h2
    exact h2
  set:=@fun J cs x vs v h hv=>by
    have hl:=L.len h
    have h2:=p.set h (q.set (p.get h) hv)
    have Ol:=K.len hv
    have:=q.le; have:=p.le
    have e:bP cs o1 (bP ((cs.drop o1).take M.n) o2 vs) = bP cs (o1 + o2) vs:=by
      refine q7 fun j=>?_
      have hm:=M.len (p.get h)
      have hlen:(bP ((cs.drop o1).take M.n) o2 vs).length = M.n:=by
        rw [wB (by omega)]; exact hm
      rw [mw (by omega),mw (cs:=cs) (vs:=vs) (by omega),hlen,Ol]
      by_cases h1:o1 ≤ j∧j < o1 + M.n
      · rw [if_pos h1,mw (by omega),Ol]
        by_cases h3:o1 + o2 ≤ j∧j < o1 + o2 + K.n
        · rw [if_pos h3,if_pos (by omega),show j - o1 - o2 = j - (o1 + o2) by omega]
        · rw [if_neg h3,if_neg (by omega),List.getElem?_take,if_pos (by omega),List.getElem?_drop,show o1 + (j - o1) = j by omega]
      · rw [if_neg h1,if_neg (by omega)]
    rw [e] at h2; exact h2
  le:=by have:=q.le; have:=p.le; omega
theorem aN.c0 {L:aJ α} {M:aJ β} {K:aJ γ} {o2:Nat} {g1:α→β} {s1:α→β→α} {g2:β→γ} {s2:β→γ→β} (p:aN L M 0 g1 s1) (q:aN M K o2 g2 s2):aN L K o2 (fun x=>g2 (g1 x)) (fun x v=>s1 x (s2 (g1 x) v)):=by
  have:=p.comp q
  rwa [Nat.zero_add] at this
theorem aN.int {L:aJ α} {k:IntKind} {o:Nat} {g:α→Int} {s:α→Int→α} (p:aN L (LI k) o g s) {J cs x} (r:L.rep J cs x):cs[o]? = some (.int k (g x)):=by
  have h:(cs.drop o).take 1 = [.int k (g x)]:=p.get r
  have h2:((cs.drop o).take 1)[0]? = some (.int k (g x)):=by rw [h]; rfl
  rw [List.getElem?_take,if_pos (by decide),List.getElem?_drop] at h2
  exact h2
theorem aN.bool {L:aJ α} {o:Nat} {g:α→Bool} {s:α→Bool→α} (p:aN L LB o g s) {J cs x} (r:L.rep J cs x):cs[o]? = some (.bool (g x)):=by
  have h:(cs.drop o).take 1 = [.bool (g x)]:=p.get r
  have h2:((cs.drop o).take 1)[0]? = some (.bool (g x)):=by rw [h]; rfl
  rw [List.getElem?_take,if_pos (by decide),List.getElem?_drop] at h2
  exact h2
theorem aN.agg {L:aJ α} {M:aJ β} [bg L] [bg M] {o:Nat} {g:α→β} {s:α→β→α} (p:aN L M o g s) (x:α):((L.enc x).drop o).take M.n = M.enc (g x):=bg.iff.1 (p.get (rp L x))
theorem aN.put {L:aJ α} {M:aJ β} [bg L] [bg M] {o:Nat} {g:α→β} {s:α→β→α} (p:aN L M o g s) (x:α) (v:β):bP (L.enc x) o (M.enc v) = L.enc (s x v):=bg.iff.1 (p.set (rp L x) (rp M v))
end
section words
variable {α ρ:Type}
def lt (a:α) (f:α→Option ρ):Option ρ:=f a
def gu (b:Bool) (k:Option ρ):Option ρ:=bif b then k else none
def bd (m:Option α) (f:α→Option ρ):Option ρ:=m.bind f
def cn (b:Bool) (x y:Option ρ):Option ρ:=bif b then x else y
def cl (g:Bool) (m:Option α) (z:α) (f:α→Option ρ):Option ρ:=bif g then m.bind f else f z
def dU (i:Int) (n:Nat):Bool:=decide (0 ≤ i) && decide (i < (n:Int))
abbrev wr (k:IntKind) (n:Int):Int:=k.wrap n
def BX (k:IntKind) (a b:Int):Int:=k.wrap (a * 2 ^ (min b.toNat k.bits))
def wD (k:IntKind) (a b:Int):Int:=a.fdiv (2 ^ (min b.toNat k.bits))
def vR (k:IntKind) (a b:Int):Int:=k.wrap ((BitVec.ofInt k.bits a &&& BitVec.ofInt k.bits b).toNat:Int)
theorem cQ {a:α} {f:α→Option ρ} {r:ρ} (h:lt a f = some r):∃x,x = a∧f x = some r:=⟨a,rfl,h⟩
theorem cD {b:Bool} {k:Option ρ} {r:ρ} (h:gu b k = some r):b = true∧k = some r:=by cases b with | true=>exact ⟨rfl,h⟩ | false=>cases h
theorem bu {m:Option α} {f:α→Option ρ} {r:ρ} (h:bd m f = some r):∃x,m = some x∧f x = some r:=by cases m with | none=>cases h | some x=>exact ⟨x,rfl,h⟩
theorem oH {b:Bool} {x y:Option ρ} {r:ρ} (hb:b = true) (h:cn b x y = some r):x = some r:=by subst hb; exact h
theorem oI {b:Bool} {x y:Option ρ} {r:ρ} (hb:b = false) (h:cn b x y = some r):y = some r:=by subst hb; exact h
theorem jd {g:Bool} {m:Option α} {z:α} {f:α→Option ρ} {r:ρ} (h:cl g m z f = some r):∃x,(g = true→m = some x)∧(g = false→x = z)∧f x = some r:=by
  cases g with
  | true=>obtain ⟨x,h1,h2⟩:=bu h; exact ⟨x,fun _=>h1,nofun,h2⟩
  | false=>exact ⟨z,nofun,fun _=>rfl,h⟩
theorem ay {i:Int} {n:Nat} (h:dU i n = true):i = (i.toNat:Int)∧i.toNat < n:=by
  simp [dU] at h; omega
theorem gG {g p:Bool} (h:(!g || p) = true) (hg:g = true):p = true:=by subst hg; simpa using h
end words
section
variable {α1 ρ:Type}
def ef (B:(α1→Option ρ)→α1→Option ρ):Nat→α1→Option ρ
  | 0,_=>none
  | n + 1,a1=>B (ef B n) a1
theorem ld {B:(α1→Option ρ)→α1→Option ρ} {n:Nat} {a1:α1} {r:ρ} (h:ef B n a1 = some r):∃lb,lb = B∧ef lb n a1 = some r:=⟨B,rfl,h⟩
theorem k9 {lb B:(α1→Option ρ)→α1→Option ρ} (e:lb = B) {m:Nat} {a1:α1} {r:ρ} (h:ef lb m a1 = some r):∃m',m = m' + 1∧B (ef lb m') a1 = some r:=by
  subst e
  cases m with
  | zero=>cases h
  | succ m=>exact ⟨m,rfl,h⟩
theorem gn {B:(α1→Option ρ)→α1→Option ρ} (I:α1→Prop) (μ:α1→Nat) (Q:Option ρ→Prop) (hB:∀k a1,I a1→(∀b1,I b1→μ b1 < μ a1→Q (k b1))→Q (B k a1)):∀n a1,I a1→μ a1 < n→Q (ef B n a1):=by
  intro n
  induction n with
  | zero=>intro a1 _ h; exact absurd h (Nat.not_lt_zero _)
  | succ n ih=>intro a1 hi hm; exact hB _ a1 hi fun b1 hj hl=>ih b1 hj (by omega)
end
section
variable {α1 α2 ρ:Type}
def ec (B:(α1→α2→Option ρ)→α1→α2→Option ρ):Nat→α1→α2→Option ρ
  | 0,_,_=>none
  | n + 1,a1,a2=>B (ec B n) a1 a2
theorem lT {B:(α1→α2→Option ρ)→α1→α2→Option ρ} {n:Nat} {a1:α1} {a2:α2} {r:ρ} (h:ec B n a1 a2 = some r):∃lb,lb = B∧ec lb n a1 a2 = some r:=⟨B,rfl,h⟩
theorem lS {lb B:(α1→α2→Option ρ)→α1→α2→Option ρ} (e:lb = B) {m:Nat} {a1:α1} {a2:α2} {r:ρ} (h:ec lb m a1 a2 = some r):∃m',m = m' + 1∧B (ec lb m') a1 a2 = some r:=by
  subst e
  cases m with
  | zero=>cases h
  | succ m=>exact ⟨m,rfl,h⟩
theorem HM {j B:α1→α2→Option ρ} (e:j = B) {a1:α1} {a2:α2} {r:ρ} (h:j a1 a2 = some r):B a1 a2 = some r:=e ▸ h
theorem fy {B:(α1→α2→Option ρ)→α1→α2→Option ρ} (I:α1→α2→Prop) (μ:α1→α2→Nat) (Q:Option ρ→Prop) (hB:∀k a1 a2,I a1 a2→(∀b1 b2,I b1 b2→μ b1 b2 < μ a1 a2→Q (k b1 b2))→Q (B k a1 a2)):∀n a1 a2,I a1 a2→μ a1 a2 < n→Q (ec B n a1 a2):=by
  intro n
  induction n with
  | zero=>intro a1 a2 _ h; exact absurd h (Nat.not_lt_zero _)
  | succ n ih=>intro a1 a2 hi hm; exact hB _ a1 a2 hi fun b1 b2 hj hl=>ih b1 b2 hj (by omega)
end
section
variable {α1 α2 α3 ρ:Type}
def j9 (B:(α1→α2→α3→Option ρ)→α1→α2→α3→Option ρ):Nat→α1→α2→α3→Option ρ
  | 0,_,_,_=>none
  | n + 1,a1,a2,a3=>B (j9 B n) a1 a2 a3
theorem xV {B:(α1→α2→α3→Option ρ)→α1→α2→α3→Option ρ} {n:Nat} {a1:α1} {a2:α2} {a3:α3} {r:ρ} (h:j9 B n a1 a2 a3 = some r):∃lb,lb = B∧j9 lb n a1 a2 a3 = some r:=⟨B,rfl,h⟩
theorem xU {lb B:(α1→α2→α3→Option ρ)→α1→α2→α3→Option ρ} (e:lb = B) {m:Nat} {a1:α1} {a2:α2} {a3:α3} {r:ρ} (h:j9 lb m a1 a2 a3 = some r):∃m',m = m' + 1∧B (j9 lb m') a1 a2 a3 = some r:=by
  subst e
  cases m with
  | zero=>cases h
  | succ m=>exact ⟨m,rfl,h⟩
theorem HL {j B:α1→α2→α3→Option ρ} (e:j = B) {a1:α1} {a2:α2} {a3:α3} {r:ρ} (h:j a1 a2 a3 = some r):B a1 a2 a3 = some r:=e ▸ h
theorem nI {B:(α1→α2→α3→Option ρ)→α1→α2→α3→Option ρ} (I:α1→α2→α3→Prop) (μ:α1→α2→α3→Nat) (Q:Option ρ→Prop) (hB:∀k a1 a2 a3,I a1 a2 a3→(∀b1 b2 b3,I b1 b2 b3→μ b1 b2 b3 < μ a1 a2 a3→Q (k b1 b2 b3))→Q (B k a1 a2 a3)):∀n a1 a2 a3,I a1 a2 a3→μ a1 a2 a3 < n→Q (j9 B n a1 a2 a3):=by
  intro n
  induction n with
  | zero=>intro a1 a2 a3 _ h; exact absurd h (Nat.not_lt_zero _)
  | succ n ih=>intro a1 a2 a3 hi hm; exact hB _ a1 a2 a3 hi fun b1 b2 b3 hj hl=>ih b1 b2 b3 hj (by omega)
end
section
variable {α1 α2 α3 α4 ρ:Type}
end
section
variable {α1 α2 α3 α4 α5 ρ:Type}
theorem HK {j B:α1→α2→α3→α4→α5→Option ρ} (e:j = B) {a1:α1} {a2:α2} {a3:α3} {a4:α4} {a5:α5} {r:ρ} (h:j a1 a2 a3 a4 a5 = some r):B a1 a2 a3 a4 a5 = some r:=e ▸ h
end
section
variable {α1 α2 α3 α4 α5 α6 ρ:Type}
end
section
variable {α1 α2 α3 α4 α5 α6 α7 ρ:Type}
end
section
variable {α1 α2 α3 α4 α5 α6 α7 α8 ρ:Type}
end
section
variable {α1 α2 α3 α4 α5 α6 α7 α8 α9 ρ:Type}
end
section
variable {α1 α2 α3 α4 α5 α6 α7 α8 α9 KM ρ:Type}
end
section
variable {α1 α2 α3 α4 α5 α6 α7 α8 α9 KM O5 ρ:Type}
end
section
variable {α1 α2 α3 α4 α5 α6 α7 α8 α9 KM O5 Rg ρ:Type}
end
section rules
variable {P:Program} {N:Nat} {c:Cx} {D:List Deferred} {Q:Exit→Act→World→Prop} {F:dB} {H:List aZ} {d:Option Tmp} {ty:TypeId} {ps:String} {af:Array Edge} {g:Option (Nat × Bool)} {α β γ:Type}
theorem iq {x:Operand} {y z:Code} {t:Bool} (hc:ev F x = some (.bool t)) (h1:t = true→WP P N c D y Q F H) (h0:t = false→WP P N c D z Q F H):WP P N c D (.cond x y z) Q F H:=by
  cases t with
  | true=>exact C1 hc (h1 rfl)
  | false=>exact Bm hc (h0 rfl)
theorem rP {o:Oper} {v v' : Value} (h:VS P N c o F H v) (e:v = v'):VS P N c o F H v':=e ▸ h
theorem C6 {T U:TypeId} {x y:Operand} {k:IntKind} {a b:Int} (hx:ev F x = some (.int k a)) (hy:ev F y = some (.int k b)):VS P N c ⟨d, .binOp .and T x y U,ty,ps,af,g⟩ F H (.int k (vR k a b)):=C5 hx hy rfl fun _ _=>rfl
theorem C3 {T U:TypeId} {x y:Operand} {k k' : IntKind} {a b:Int} (hx:ev F x = some (.int k a)) (hy:ev F y = some (.int k' b)) (h0:0 ≤ b):VS P N c ⟨d, .binOp .shl T x y U,ty,ps,af,g⟩ F H (.int k (BX k a b)):=FW hx hy h0 rfl
theorem yc {T U:TypeId} {x y:Operand} {k k' : IntKind} {a b:Int} (hx:ev F x = some (.int k a)) (hy:ev F y = some (.int k' b)) (h0:0 ≤ b):VS P N c ⟨d, .binOp .shr T x y U,ty,ps,af,g⟩ F H (.int k (wD k a b)):=FV hx hy h0 rfl
theorem bQ {L:aJ α} [bg L] {x:α} {k:IntKind} {o b t T:Nat} {y:Operand} {gg:α→Int} {s:α→Int→α} (p:aN L (LI k) o gg s) (hx:ev F y = some (Ptr b o)) [lG H b T (L.enc x)] [kB P t]:VS P N c ⟨d, .load t y,ty,ps,af,g⟩ F H (.int k (gg x)):=bG hx (p.int (rp L x))
theorem nx {L:aJ α} [bg L] {x:α} {o b t T:Nat} {y:Operand} {gg:α→Bool} {s:α→Bool→α} (p:aN L LB o gg s) (hx:ev F y = some (Ptr b o)) [lG H b T (L.enc x)] [kB P t]:VS P N c ⟨d, .load t y,ty,ps,af,g⟩ F H (.bool (gg x)):=bG hx (p.bool (rp L x))
theorem dR {L:aJ α} {M:aJ β} [bg L] [bg M] {x:α} {o b t T q:Nat} {y:Operand} {gg:α→β} {s:α→β→α} (p:aN L M o gg s) (hx:ev F y = some (Ptr b o)) [lG H b T (L.enc x)] [ht:ja P t q] (hn:M.n = q):VS P N c ⟨d, .load t y,ty,ps,af,g⟩ F H (.agg (M.enc (gg x)).toArray):=by
  subst hn; exact aR hx (p.agg x) (bx _ _)
theorem dD {L:aJ α} {M:aJ β} [bg L] [bg M] {x:α} {o b t T q:Nat} {y z:Operand} {gg:α→β} {s:α→β→α} {val:Value} {H' : List aZ} (p:aN L M o gg s) (v:β) (x' : α) (e:x' = s x v) (hx:ev F y = some (Ptr b o)) (hz:ev F z = some val) (hv:val.cells.toList = M.enc v)
    [lG H b T (L.enc x)] [ht:BL P t q] (hn:M.n = q) [sH H b (L.enc x') H']:RX (α:=Unit) P N c ⟨d, .store t y z,ty,ps,af,g⟩ F H (fun _=>True) (fun _=>undef) (fun _=>H'):=by
  subst hn; subst e
  exact nB hx hz hv (bx _ _) (by rw [bx]; exact p.le) (qD _ _) (p.put x v)
theorem fa (L:aJ α) [bg L] (x:α) {y:Operand} {t:Nat} {val:Value} (hx:ev F y = some val) (hv:val.cells.toList = L.enc x) :
    RX P N c ⟨d, .box t y,ty,ps,af,g⟩ F H (fun _=>True) (fun b=>Ptr b 0) (fun b=>.cells b t (L.enc x)::H):=xC hx hv
theorem cP {L:aJ α} [bg L] {z:α} {t:Nat} (hz:bY P t (L.enc z)) :
    RX P N c ⟨d, .alloc t,ty,ps,af,g⟩ F H (fun _=>True) (fun b=>Ptr b 0) (fun b=>.cells b t (L.enc z)::H):=bk (hz:=hz)
theorem F3 {L:aJ α} [bg L] {A:Nat→α} {x y:Operand} {T len e sz q m:Nat} {i:Int} {k:IntKind} [hT:mc P T len e sz] [hA:ja P e q] (hx:ev F x = some (.agg ((LA L len).enc A).toArray)) (hy:ev F y = some (.int k i)) (hi:i = (m:Int)) (hm:m < len) (h1:L.n = sz) (h2:L.n = q) :
    VS P N c ⟨d, .index T x y,ty,ps,af,g⟩ F H (.agg (L.enc (A m)).toArray):=by
  subst h2
  have:=(aN.idx (L:=L) (m:=len) m hm (k:=sz) h1.symm).agg A
  rw [h1] at this
  exact za hx hy hi hm this
end rules
end Go.Bw
namespace Go.Bw
open Go Go.RowKit
def Hs (R:List aZ) (w:World):Prop:=∀r ∈ R,r.holds w∧∀b ∈ r.gN,b < w.heap.size
class bF (K:World→Prop):Prop where
  ok:∀w w',K w→bw [] w w'→K w'
instance Gz (R:List aZ):bF (Hs R):=⟨fun w w' h hs r hr=>⟨aZ.kQ (h r hr).1 hs.size fun b hb=>hs.block b ((h r hr).2 b hb) (by simp),fun b hb=>Nat.lt_of_lt_of_le ((h r hr).2 b hb) hs.size⟩⟩
instance F5 (A B:World→Prop) [bF A] [bF B]:bF (fun w=>A w∧B w):=⟨fun w w' h hs=>⟨bF.ok w w' h.1 hs,bF.ok w w' h.2 hs⟩⟩
class DT (A:World→Prop) (r:aZ):Prop where
  ok:∀w,A w→r.holds w∧∀b ∈ r.gN,b < w.heap.size
instance (priority:=100) Kc (r:aZ) (R:List aZ):DT (Hs (r::R)) r:=⟨fun _ h=>h r (by simp)⟩
instance (priority:=50) GM (r s:aZ) (R:List aZ) [h:DT (Hs R) r]:DT (Hs (s::R)) r:=⟨fun w hw=>h.ok w fun q hq=>hw q (by simp [hq])⟩
instance (priority:=30) O2 (A B:World→Prop) (r:aZ) [h:DT B r]:DT (fun w=>A w∧B w) r:=⟨fun w hw=>h.ok w hw.2⟩
class zm (A B:World→Prop):Prop where
  ok:∀w,A w→B w
theorem dk {A B:World→Prop} [h:zm A B]:∀w,A w→B w:=h.ok
instance (priority:=100) Ke (A:World→Prop):zm A A:=⟨fun _ h=>h⟩
instance (priority:=90) KL (A B C:World→Prop) [h:zm A B] [k:zm A C]:zm A (fun w=>B w∧C w):=⟨fun w hw=>⟨h.ok w hw,k.ok w hw⟩⟩
instance (priority:=80) KK (A:World→Prop):zm A (Hs []):=⟨fun _ _ _ h=>by simp at h⟩
instance (priority:=70) Kg (A:World→Prop) (r:aZ) (R:List aZ) [h:DT A r] [k:zm A (Hs R)]:zm A (Hs (r::R)):=⟨fun w hw q hq=>by
  rcases List.mem_cons.1 hq with rfl | hq
  · exact h.ok w hw
  · exact k.ok w hw q hq⟩
instance (priority:=40) O4 (A B C:World→Prop) [h:zm A C]:zm (fun w=>A w∧B w) C:=⟨fun w hw=>h.ok w hw.1⟩
class Kn (c:Cx) (H:List aZ) (A:World→Prop):Prop where
  ok:∀w,bw c.bs c.w0 w→cy c.bs c.w0.heap.size H w→A w
theorem kn {c:Cx} {H:List aZ} {A:World→Prop} [h:Kn c H A]:∀w,bw c.bs c.w0 w→cy c.bs c.w0.heap.size H w→A w:=h.ok
theorem Dy {c:Cx} {H:List aZ} {w:World} (h:cy c.bs c.w0.heap.size H w):Hs H w:=fun r hr=>⟨h.holds r hr,fun b hb=>(h.own r hr b hb).2⟩
instance (priority:=90) N0 (c:Cx) (H:List aZ) (A B:World→Prop) [h:Kn c H A] [k:Kn c H B]:Kn c H (fun w=>A w∧B w):=⟨fun w h1 h2=>⟨h.ok w h1 h2,k.ok w h1 h2⟩⟩
instance (priority:=80) O0 (c:Cx) (H R:List aZ) [h:zm (Hs H) (Hs R)]:Kn c H (Hs R):=⟨fun w _ h2=>h.ok w (Dy h2)⟩
instance (priority:=80) KH (c:Cx) (H:List aZ):Kn c H (fun _=>True):=⟨fun _ _ _=>trivial⟩
section
variable {α β:Type}
def fu (L:aJ α) [bg L] (xs:List α):List Value:=(xs.map L.enc).flatten
theorem m5 (L:aJ α) [bg L] (xs:List α):(fu L xs).length = xs.length * L.n:=by
  induction xs with
  | nil=>simp [fu]
  | cons x xs ih=>simp only [fu,List.map_cons,List.flatten_cons,List.length_append,List.length_cons,bx] at *; rw [ih,Nat.succ_mul]; omega
theorem zT (L:aJ α) [bg L] (xs:List α):ju (fu L xs):=by
  intro v hv
  simp only [fu,List.mem_flatten,List.mem_map] at hv
  obtain ⟨l,⟨x,_,rfl⟩,h⟩:=hv
  exact qD L x v h
theorem m6 (L:aJ α) [bg L] (xs ys:List α):fu L (xs++ys) = fu L xs++fu L ys:=by simp [fu]
theorem sQ (L:aJ α) [bg L] (x:α):fu L [x] = L.enc x:=by simp [fu]
theorem w7 (g:Nat→List Value):∀n,flat g (n + 1) = g 0++flat (fun i=>g (i + 1)) n:=by
  intro n
  induction n with
  | zero=>simp [flat]
  | succ n ih=>rw [flat,ih,flat,List.append_assoc]
theorem lK (L:aJ α) [bg L] [Inhabited α] (xs:List α):fu L xs = (LA L xs.length).enc (fun i=>xs.getD i default):=by
  show _ = flat (fun i=>L.enc (xs.getD i default)) xs.length
  induction xs with
  | nil=>rfl
  | cons x xs ih=>rw [List.length_cons,w7]; simp only [fu,List.map_cons,List.flatten_cons] at *; rw [ih]; rfl
theorem va (L:aJ α) [bg L] (xs:List α) (l h:Nat) (hl:l ≤ h) (hh:h ≤ xs.length):((fu L xs).drop (l * L.n)).take ((h - l) * L.n) = fu L ((xs.drop l).take (h - l)):=by
  have e1:xs = xs.take l++((xs.drop l).take (h - l)++(xs.drop l).drop (h - l)):=by rw [List.take_append_drop,List.take_append_drop]
  have l1:(fu L (xs.take l)).length = l * L.n:=by rw [m5,List.length_take,Nat.min_eq_left (by omega)]
  have l2:(fu L ((xs.drop l).take (h - l))).length = (h - l) * L.n:=by rw [m5]; congr 1; simp; omega
  conv=>lhs; rw [e1,m6,m6]
  rw [← l1,List.drop_left,← l2,List.take_left]
theorem zS (L:aJ α) [bg L] [Inhabited α] (xs:List α) (m:Nat) (y:α) (hm:m < xs.length):(LA L xs.length).enc (eO (fun i=>xs.getD i default) m y) = fu L (xs.set m y):=by
  rw [lK,List.length_set]
  show flat _ _ = flat _ _
  refine oF fun i hi=>?_
  congr 1
  unfold eO
  simp only [List.getD,List.getElem?_set]
  by_cases e:m = i
  · subst e; simp [hm]
  · simp [e,Ne.symm e]
structure Fz (A:World→Prop) (v:Value) (L:aJ α) [bg L] (xs:List α):Prop where
  sl:kf v xs.length
  ro:∀w,A w→Ro w v L.n xs.length (fu L xs)
theorem Fz.mono {A B:World→Prop} {v:Value} {L:aJ α} [bg L] {xs:List α} (h:Fz A v L xs) (m:∀w,B w→A w):Fz B v L xs:=⟨h.sl,fun w hw=>h.ro w (m w hw)⟩
theorem Fz.nil {A:World→Prop} {L:aJ α} [bg L] {a:Option Addr} {cp:Nat}:Fz A (.slice a 0 cp) L ([]:List α):=⟨⟨_,_,rfl⟩,fun _ _=>⟨by simp [fu], .inl ⟨⟨_,_,rfl⟩,rfl⟩⟩⟩
theorem Fz.at {c:Cx} {H:List aZ} {A:World→Prop} {v:Value} {L:aJ α} [bg L] {xs:List α} (h:Fz A v L xs) [k:Kn c H A]:oc c H v L.n xs.length (fu L xs):=⟨fun w h1 h2=>h.ro w (k.ok w h1 h2)⟩
theorem Fz.cut {A:World→Prop} {v:Value} {L:aJ α} [bg L] {xs:List α} (h:Fz A v L xs) (l m sz:Nat) (hs:sz = L.n) (hl:l ≤ m) (hm:m ≤ xs.length):Fz A (jA l m sz v) L ((xs.drop l).take (m - l)):=by
  subst hs
  have hlen:((xs.drop l).take (m - l)).length = m - l:=by simp; omega
  refine ⟨?_,fun w hw=>?_⟩
  · obtain ⟨a,cp,rfl⟩:=h.sl
    rw [hlen]; exact ⟨_,_,rfl⟩
  · have:=(h.ro w hw).cut hl hm
    rw [va L xs l m hl hm] at this
    rw [hlen]; exact this
abbrev Row (v:Value) (e sz:Nat) (L:aJ α) [bg L] (xs:List α):aZ:=.row v e sz xs.length (fu L xs)
theorem Fz.row {v:Value} {e sz:Nat} {L:aJ α} [bg L] {xs:List α} (hs:sz = L.n) (h:kf v xs.length):Fz (Hs [Row v e sz L xs]) v L xs:=⟨h,fun w hw=>by
  subst hs
  have h1:(Row v e L.n L xs).holds w:=(hw _ (List.mem_singleton.2 rfl)).1
  exact Ro.qV (e:=e) h1⟩
theorem Fz.cells {b T m:Nat} {L:aJ α} [bg L] {xs:List α} (hm:m = xs.length):Fz (Hs [.cells b T (fu L xs)]) (.slice (some ⟨b,0,none⟩) m m) L xs:=by
  subst hm
  refine ⟨⟨_,_,rfl⟩,fun w hw=>?_⟩
  obtain ⟨h1,h2⟩:=hw _ (List.mem_singleton.2 rfl)
  refine ⟨m5 _ _, .inr ⟨b,0,_,rfl,h2 b (by simp [aZ.gN]),Nat.le_refl _,fun j u hu=>?_⟩⟩
  rw [Nat.zero_add,cell_of h1]; exact hu
theorem wE (M:aJ β) [bg M] [Inhabited β] (g:Nat→β) (m:Nat):fu M ((List.range m).map g) = flat (fun i=>M.enc (g i)) m:=by
  rw [lK]
  show flat _ _ = _
  rw [List.length_map,List.length_range]
  refine oF fun i hi=>?_
  simp [List.getD,hi]
theorem Fz.Hq {W:World} {v:Value} {L:aJ α} [bg L] [Inhabited α] {sz len:Nat} {g:Nat→α} (hs:sz = L.n) (hv:kf v len) (h:Ro W v sz len (flat (fun i=>L.enc (g i)) len)):Fz (fun w=>bw [] W w) v L ((List.range len).map g):=by
  subst hs
  refine ⟨by simpa using hv,fun w hw=>?_⟩
  rw [wE]
  have:=h.since hw
  simpa using this
instance Da (W:World):bF (fun w=>bw [] W w):=⟨fun _ _ h hs=>h.ext hs⟩
def qo (L:aJ α) [bg L]:aJ (List α) where
  n:=1
  rep A cs xs:=∃v,cs = [v]∧Fz A v L xs
  len:=fun ⟨v,h,_⟩=>by subst h; rfl
  one:=fun ⟨v,h,hf⟩=>by subst h; intro u hu; rw [List.mem_singleton.1 hu]; exact hf.sl.one
  mono m:=fun ⟨v,h,hf⟩=>⟨v,h,hf.mono m⟩
theorem aN.sl {L:aJ α} {M:aJ β} [bg M] {o:Nat} {g:α→List β} {s:α→List β→α} (p:aN L (qo M) o g s) {A cs x} (r:L.rep A cs x):∃v,cs[o]? = some v∧Fz A v M (g x):=by
  obtain ⟨v,h,hf⟩:=p.get r
  refine ⟨v,?_,hf⟩
  have h2:((cs.drop o).take (qo M).n)[0]? = some v:=by rw [h]; rfl
  rw [List.getElem?_take,if_pos (by show 0 < 1; decide),List.getElem?_drop] at h2
  exact h2
end
section rules
variable {P:Program} {N:Nat} {c:Cx} {D:List Deferred} {Q:Exit→Act→World→Prop} {F:dB} {H:List aZ} {d:Option Tmp} {ty:TypeId} {ps:String} {af:Array Edge} {g:Option (Nat × Bool)} {α β γ:Type}
section
variable {A:World→Prop} {v:Value} {L:aJ α} [bg L] {xs:List α}
theorem dH {x:Operand} {t e q:Nat} [ht:qI P t e q] (hf:Fz A v L xs) (hx:ev F x = some v) [Kn c H A]:VS P N c ⟨d, .call ⟨.builtin .len,#[x],#[t]⟩,ty,ps,af,g⟩ F H (.int .i64 (xs.length:Int)):=by
  haveI:=hf.at (c:=c) (H:=H)
  exact F1 hx
theorem dL {x y:Operand} {t e sz m:Nat} {k:IntKind} {i:Int} [ht:qI P t e sz] (hf:Fz A v L xs) (hs:L.n = sz) (hx:ev F x = some v) (hy:ev F y = some (.int k i)) [Kn c H A] (hi:i = (m:Int)) (hm:m < xs.length) :
    VS P N c ⟨d, .indexAddr t x y,ty,ps,af,g⟩ F H (gK v (m * sz)):=by
  haveI:=hf.at (c:=c) (H:=H)
  subst hs
  exact uI hx hy hi hm
theorem yd {x:Operand} {s f fo k m:Nat} [gU P s f fo] (hf:Fz A v L xs) (hx:ev F x = some (gK v k)) [Kn c H A] (hm:m < xs.length):VS P N c ⟨d, .fieldAddr s x f,ty,ps,af,g⟩ F H (gK v (k + fo)):=by
  haveI:=hf.at (c:=c) (H:=H)
  exact uJ hx hm
variable [Inhabited α]
theorem dJ {k:IntKind} {o t:Nat} {y:Operand} {gg:(Nat→α)→Int} {s:(Nat→α)→Int→(Nat→α)} (hf:Fz A v L xs) (p:aN (LA L xs.length) (LI k) o gg s) (hx:ev F y = some (gK v o)) [Kn c H A] [kB P t]:VS P N c ⟨d, .load t y,ty,ps,af,g⟩ F H (.int k (gg (fun i=>xs.getD i default))):=by
  haveI:=hf.at (c:=c) (H:=H)
  exact vZ hx (by rw [lK]; exact p.int (rp _ _))
theorem qH {M:aJ β} [bg M] {o t q:Nat} {y:Operand} {gg:(Nat→α)→β} {s:(Nat→α)→β→(Nat→α)} (hf:Fz A v L xs) (p:aN (LA L xs.length) M o gg s) (hx:ev F y = some (gK v o)) [Kn c H A] [ja P t q] (hn:M.n = q) (h0:0 < q) :
    VS P N c ⟨d, .load t y,ty,ps,af,g⟩ F H (.agg (M.enc (gg (fun i=>xs.getD i default))).toArray):=by
  haveI:=hf.at (c:=c) (H:=H)
  subst hn
  exact uH hx (by rw [lK]; exact p.agg _) (bx _ _) h0
end
def lE (n m b:Nat):Bool:=decide ((n + m) * b ≤ 140737488355328∧n + m ≤ 9223372036854775807)
theorem gA {n m b:Nat} (h:lE n m b = true):(n + m) * b ≤ 140737488355328∧n + m ≤ 9223372036854775807:=of_decide_eq_true h
section
variable {A:World→Prop} {v:Value} {L:aJ α} [bg L] {xs:List α}
theorem zc {x lo:Operand} {t e q l:Nat} {k:IntKind} {i:Int} [ht:qI P t e q] (hf:Fz A v L xs) (hx:ev F x = some v) (hlo:ev F lo = some (.int k i)) (hi:i = (l:Int)) (hl:l ≤ xs.length) [Kn c H A] :
    VS P N c ⟨d, .slice t x (some lo) none none,ty,ps,af,g⟩ F H (jA l xs.length q v):=by
  subst hi; haveI:=hf.at (c:=c) (H:=H); exact zf l hx hlo hl
theorem ze {x hi:Operand} {t e q m:Nat} {k:IntKind} {i:Int} [ht:qI P t e q] (hf:Fz A v L xs) (hx:ev F x = some v) (hhi:ev F hi = some (.int k i)) (hi' : i = (m:Int)) (hm:m ≤ xs.length) [Kn c H A] :
    VS P N c ⟨d, .slice t x none (some hi) none,ty,ps,af,g⟩ F H (jA 0 m q v):=by
  subst hi'; haveI:=hf.at (c:=c) (H:=H); exact zg m hx hhi hm
end
theorem ei {L:aJ α} {M:aJ β} {o b t T q:Nat} {y z:Operand} {gg:α→β} {s:α→β→α} {val:Value} {cs cs' : List Value} (vs:List Value) {x:α} {v:β} {A B:World→Prop} {H' : List aZ} (p:aN L M o gg s) (r:L.rep A cs x) (rv:M.rep B vs v) (hx:ev F y = some (Ptr b o)) (hz:ev F z = some val) (hv:val.cells.toList = vs)
    [lG H b T cs] [ht:BL P t q] (hn:M.n = q) (hc:bP cs o vs = cs') [sH H b cs' H']:RX (α:=Unit) P N c ⟨d, .store t y z,ty,ps,af,g⟩ F H (fun _=>True) (fun _=>undef) (fun _=>H'):=by
  subst hn
  exact nB hx hz hv (M.len rv) (by rw [L.len r]; exact p.le) (M.one rv) hc
section
variable {v:Value} {L:aJ α} [bg L] {xs:List α} {t e sz bytes:Nat} {f:aZ→List aZ}
theorem lu {s x:Operand} {b T cp:Nat} {y:α} [zB P t e sz bytes] (hs:ev F s = some v) [hr:nA H v e sz xs.length (fu L xs) f] (hx:ev F x = some (.slice (some ⟨b,0,none⟩) 1 cp)) [hc:lG H b T (L.enc y)] (hn:L.n = sz)
    (yS:(xs.length + 1) * bytes ≤ 140737488355328) (h63:xs.length + 1 ≤ 9223372036854775807) :
    RX P N c ⟨d, .call ⟨.builtin .append,#[s,x],#[t,t]⟩,ty,ps,af,g⟩ F H (fun v'=>kf v' (xs++[y]).length) (fun v'=>v') (fun v'=>f (Row v' e sz L (xs++[y]))):=by
  have h:=zi (P:=P) (N:=N) (c:=c) (F:=F) (H:=H) (d:=d) (ty:=ty) (p:=ps) (af:=af) (g:=g) (t:=t) (m:=1) hs hx (by rw [bx,hn]; omega) (qD L y) yS h63 (hr:=hr) (hc:=hc)
  have e1:(xs++[y]).length = xs.length + 1:=by simp
  have e2:fu L (xs++[y]) = fu L xs++L.enc y:=by rw [m6,sQ]
  unfold Row
  rw [e1,e2]; exact h
theorem yj {s x:Operand} {A:World→Prop} {u:Value} {ys:List α} [zB P t e sz bytes] (hf:Fz A u L ys) (hs:ev F s = some v) [hr:nA H v e sz xs.length (fu L xs) f] (hx:ev F x = some u) [Kn c H A] (hn:L.n = sz)
    (yS:(xs.length + ys.length) * bytes ≤ 140737488355328) (h63:xs.length + ys.length ≤ 9223372036854775807) :
    RX P N c ⟨d, .call ⟨.builtin .append,#[s,x],#[t,t]⟩,ty,ps,af,g⟩ F H (fun v'=>kf v' (xs++ys).length) (fun v'=>v') (fun v'=>f (Row v' e sz L (xs++ys))):=by
  subst hn
  have h:=uM (P:=P) (N:=N) (c:=c) (F:=F) (H:=H) (d:=d) (ty:=ty) (p:=ps) (af:=af) (g:=g) (t:=t) hs hx (hr:=hr) (hu:=hf.at) (zT L ys) yS h63
  have e1:(xs++ys).length = xs.length + ys.length:=by simp
  have e2:fu L (xs++ys) = fu L xs++fu L ys:=m6 _ _ _
  unfold Row
  rw [e1,e2]; exact h
theorem mJ {x:Operand} (L:aJ α) [bg L] (y:α) {zs:List Value} {val:Value} [ht:qI P t e sz] [hz:bY P e zs] (hx:ev F x = some val) (hc:val.cells.toList = L.enc y) (hl:L.n = sz) (Ko:zs.length = sz) (h0:0 < sz) (hs:sz ≤ 16777216) :
    RX P N c ⟨d, .buildSlice t 1 #[(0,x)],ty,ps,af,g⟩ F H (fun _=>True) (fun b=>.slice (some ⟨b,0,none⟩) 1 1) (fun b=>.cells b e (L.enc y)::H):=rS hx hc (by rw [bx]; exact hl) Ko h0 hs
end
theorem pD {x:Code} (e sz:Nat) (L:aJ α) [bg L] (h:WP P N c D x Q F (Row (.slice none 0 0) e sz L []::H)):WP P N c D x Q F H:=C2 e sz h
theorem x9 {x:Exit} (e sz:Nat) (L:aJ α) [bg L] (h:WQ N c D Q x F (Row (.slice none 0 0) e sz L []::H)):WQ N c D Q x F H:=C0 e sz h
theorem Cy {bs:List Nat} {n0:Nat} {w:World} (h:cy bs n0 H w):cy bs n0 (.ext [] (Hs [])::H) w:=
  h.cons (fun w' _ _ r hr=>by simp at hr) (fun b hb=>by simp [aZ.gN] at hb) (fun s hs b hb=>by simp [aZ.gN] at hb)
theorem kA {x:Code} (h:WP P N c D x Q F (.ext [] (Hs [])::H)):WP P N c D x Q F H:=Bj (fun _ _ _ hp=>Cy hp) h
abbrev p9 (P:Program) (f:Nat) (args:List Value) (K:World→Prop) (p:(World→Prop)→Value→Prop):Prop:=
  Fn (α:=Value × List Nat × (World→Prop)) P f args K [] (fun x=>p (Hs [.ext x.2.1 x.2.2]) x.1) (fun x=>x.1) (fun x=>[.ext x.2.1 x.2.2])
theorem dW {args:List Operand} {ats:Array TypeId} {f:Nat} {vs:List Value} {K:World→Prop} {p:(World→Prop)→Value→Prop} (hc:p9 P f vs K p) (ha:qw F args = some vs) [k:Kn c H K] :
    RX (α:=Value × List Nat × (World→Prop)) P N c ⟨d, .call ⟨.value (.func f),args.toArray,ats⟩,ty,ps,af,g⟩ F H (fun x=>p (Hs [.ext x.2.1 x.2.2]) x.1) (fun x=>x.1) (fun x=>.ext x.2.1 x.2.2::H):=eU hc ha k.ok
theorem Bb {bs:List Nat} {n0:Nat} {w:World} {R H' : List aZ} (h:cy bs n0 (R++H') w):cy bs n0 (.ext (bI R) (Hs R)::H') w:=by
  have hp:=List.pairwise_append.1 h.apart
  refine ⟨fun r hr=>?_,fun r hr b hb=>?_,?_⟩
  · rcases List.mem_cons.1 hr with rfl | hr
    · intro w' h1 h2 q hq
      have Qc:=h.holds q (List.mem_append_left _ hq)
      exact ⟨aZ.kQ Qc h1 fun b hb=>h2 b (dw.2 ⟨q,hq,hb⟩),fun b hb=>Nat.lt_of_lt_of_le (h.own q (List.mem_append_left _ hq) b hb).2 h1⟩
    · exact h.holds r (List.mem_append_right _ hr)
  · rcases List.mem_cons.1 hr with rfl | hr
    · obtain ⟨q,hq,hb⟩:=dw.1 hb; exact h.own q (List.mem_append_left _ hq) b hb
    · exact h.own r (List.mem_append_right _ hr) b hb
  · refine List.pairwise_cons.2 ⟨fun s hs b hb dc=>?_,hp.2.1⟩
    obtain ⟨q,hq,hb⟩:=dw.1 hb
    exact hp.2.2 q hq s hs b hb dc
theorem qF {e:Exit} {H' : List aZ} {ks:List Nat} (hk:pick H ks = some H') (hn:ks.Nodup) (h:WQ N c D Q e F H'):WQ N c D Q e F H:=xu (fun _ _ _ hp=>hp.pick hk hn) h
theorem qG {e:Exit} {J:Nat→List Nat→World→Prop} {k n:Nat} {es:List Nat} {H' : List aZ} (ek:k = n) (h:WQ N c D Q e F (.ext es (J n es)::H')):WQ N c D Q e F (.ext es (J k es)::H'):=ek ▸ h
theorem bC {e:Exit} {R H' : List aZ} {ks:List Nat} (hk:pick H ks = some (R++H')) (hn:ks.Nodup) (h:WQ N c D Q e F (.ext (bI R) (Hs R)::H')):WQ N c D Q e F H:=xu (fun _ _ _ hp=>Bb (hp.pick hk hn)) h
instance (priority:=60) KJ (bs:List Nat) (R:List aZ) (r:aZ) (S:List aZ) [h:DT (Hs R) r]:DT (Hs (.ext bs (Hs R)::S)) r:=⟨fun w hw=>h.ok w (ext_get (hw (.ext bs (Hs R)) (by simp)).1)⟩
end rules
end Go.Bw
namespace Go.Bw
open Go Go.RowKit
section rules
variable {P:Program} {N:Nat} {c:Cx} {D:List Deferred} {Q:Exit→Act→World→Prop} {F:dB} {H:List aZ} {d:Option Tmp} {ty:TypeId} {ps:String} {af:Array Edge} {g:Option (Nat × Bool)} {α β γ:Type}
theorem rQ {A:World→Prop} {v:Value} {L:aJ α} [bg L] {xs:List α} {x y:Operand} {t len e sz k0 m q:Nat} {k:IntKind} {i:Int} [h:mc P t len e sz] (hf:Fz A v L xs) (hx:ev F x = some (gK v k0)) (hy:ev F y = some (.int k i)) [Kn c H A] (hq:q < xs.length) (hi:i = (m:Int)) (hm:m < len) :
    VS P N c ⟨d, .indexAddr t x y,ty,ps,af,g⟩ F H (gK v (k0 + m * sz)):=
  br (by simp) fun a w Oz hs hp=>by
    haveI:=hf.at (c:=c) (H:=H)
    obtain ⟨gb,off,cap,rfl,_,_,_⟩:=((hf.at (c:=c) (H:=H)).ro w hs hp).at hq
    obtain ⟨inf,h1,h2,h3⟩:=mc.get h.ok
    subst hi
    simp [execOp,bK Oz hx,bK Oz hy,gK,Instr.indexAt,asIntOf,run_underlying h1,Instr.sureAddr,sizeOf,typeInfo,h2,h3,Addr.add_lit,Nat.add_assoc]
    intro hle
    omega
theorem vx {g:Bool} {p q:Value→Prop} (h:g = true→∃v,p v∧q v):∃v,(g = true→p v)∧(g = true→q v):=by
  cases g with
  | false=>exact ⟨undef,nofun,nofun⟩
  | true=>obtain ⟨v,h1,h2⟩:=h rfl; exact ⟨v,fun _=>h1,fun _=>h2⟩
def Bx (bs:List Nat) (K:World→Prop) (w:World):Prop:=∀w',bw bs w w'→K w'
class yn (c:Cx) (R:List aZ) (K:World→Prop):Prop where
  ok:∀w,bw c.bs c.w0 w→Hs R w→K w
instance (priority:=90) KI (c:Cx) (R:List aZ) (A B:World→Prop) [h:yn c R A] [k:yn c R B]:yn c R (fun w=>A w∧B w):=⟨fun w h1 h2=>⟨h.ok w h1 h2,k.ok w h1 h2⟩⟩
instance (priority:=80) N1 (c:Cx) (R S:List aZ) [h:zm (Hs R) (Hs S)]:yn c R (Hs S):=⟨fun w _ h2=>h.ok w h2⟩
instance (priority:=80) J8 (c:Cx) (R:List aZ):yn c R (fun _=>True):=⟨fun _ _ _=>trivial⟩
instance (priority:=20) Q8 (c:Cx) (H:List aZ) (K:World→Prop) [h:yn c H K]:Kn c H K:=⟨fun w h1 h2=>h.ok w h1 (Dy h2)⟩
theorem jH {c:Cx} {K:World→Prop} [hS:bF K] (dc:c.bs = []) (hpre:K c.w0):∀R,yn c R K:=fun R=>⟨fun w hs _=>hS.ok c.w0 w hpre (by rw [dc] at hs; exact hs)⟩
theorem jI {c:Cx} {K:World→Prop} {bs:List Nat} (dc:c.bs = bs) (hpre:Bx bs K c.w0):∀R,yn c R K:=fun R=>⟨fun w hs _=>hpre w (dc ▸ hs)⟩
abbrev O3 (P:Program) (f:Nat) (args:List Value) (K:World→Prop) (oh:List aZ) (p:(World→Prop)→Value→List aZ→Prop):Prop:=
  Fn (α:=Value × List aZ × List Nat × (World→Prop)) P f args (Bx (bI oh) K) oh (fun x=>p (Hs [.ext x.2.2.1 x.2.2.2]) x.1 x.2.1) (fun x=>x.1) (fun x=>.ext x.2.2.1 x.2.2.2::x.2.1)
theorem jY {α:Type} {x:Operand} {args:List Operand} {ats:Array TypeId} {f:Nat} {fst cap:Array Value} {us vs:List Value} {K:World→Prop} {oh rest:List aZ} {p:α→Prop} {fv:α→Value} {fH:α→List aZ} {ks:List Nat}
    (hc:Fn P f vs (Bx (bI oh) K) oh p fv fH) (hx:ev F x = some (.func (.func f) fst cap)) (ha:qw F args = some us) (hv:fst.toList++us++cap.toList = vs) (hkp:pick H ks = some (oh++rest)) (hn:ks.Nodup) [hK:yn c rest K] :
    RX P N c ⟨d, .call ⟨.value x,args.toArray,ats⟩,ty,ps,af,g⟩ F H p fv (fun i=>fH i++rest):=fun D a w next Q hst hk=>by
  refine ⟨fun _ _=>trivial,?_⟩
  have hs:Oper.semAt (FA c.ro).round a.eval (⟨d, .call ⟨.value x,args.toArray,ats⟩,ty,ps,af,g⟩ : Oper) = execOp a.eval ⟨d, .call ⟨.value x,args.toArray,ats⟩,ty,ps,af,g⟩:=Oper.semAt_eq _ _ _ (by simp)
  have hr:(execOp a.eval ⟨d, .call ⟨.value x,args.toArray,ats⟩,ty,ps,af,g⟩).run P w = .ok (.enter f vs.toArray) w:=by
    have e1:=bK hst.fr hx
    have e2:=pU hst.fr ha
    have e3:fst++(args.toArray.map a.eval)++cap = vs.toArray:=by
      rw [← hv,← e2]
      simp
    simp only [execOp,resolve,e1,Deferred.ofValue,Sem.run_bind,Sem.run_pure,Result.andThen_ok,invoke,e3]
    exact hc.enter _ _
  rw [hs,hr]
  refine ⟨fun h=>by simp at h,jB c.ro ?_⟩
  have hp:=hst.hp.pick hkp hn
  have hap:=List.pairwise_append.1 hp.apart
  have hin:cy (bI oh) w.heap.size oh w:=⟨fun r hr=>hp.holds r (List.mem_append_left _ hr),fun r hr b hb=>⟨.inl (dw.2 ⟨r,hr,hb⟩),(hp.own r (List.mem_append_left _ hr) b hb).2⟩,hap.1⟩
  have hkeep:∀{w' : World},bw (bI oh) w w'→∀r ∈ rest,r.holds w'∧∀b ∈ r.gN,b < w'.heap.size:=fun hsi r hr=>by
    have hlt:∀b ∈ r.gN,b < w.heap.size:=fun b hb=>(hp.own r (List.mem_append_right _ hr) b hb).2
    refine ⟨aZ.kQ (hp.holds r (List.mem_append_right _ hr)) hsi.size fun b hb=>hsi.block b (hlt b hb) fun hm=>?_,fun b hb=>Nat.lt_of_lt_of_le (hlt b hb) hsi.size⟩
    obtain ⟨q,hq,Je⟩:=dw.1 hm
    exact hap.2.2 q hq r hr b Je hb
  have hown:∀b ∈ bI oh,b ∈ c.bs∨c.w0.heap.size ≤ b:=fun b hb=>by
    obtain ⟨q,hq,Je⟩:=dw.1 hb
    exact (hp.own q (List.mem_append_left _ hq) b Je).1
  have hpre:Bx (bI oh) K w:=fun w' hsi=>hK.ok w' (hst.si.trans hsi hown) (hkeep hsi)
  have vv:=hc.calls w hpre hin
  intro cs
  obtain ⟨e,w',fr,⟨i,yV,he,hsi,hh⟩,more⟩:=vv cs
  refine ⟨e,w',fr,?_,more⟩
  subst he
  have qg:=hkeep hsi
  refine hk i w' yV (hst.si.trans hsi hown) ⟨fun r hm=>?_,fun r hm b hb=>?_,List.pairwise_append.2 ⟨hh.apart,hap.2.1,fun r h1 s h2 b hb Cq=>?_⟩⟩
  · rcases List.mem_append.1 hm with h1 | h1
    · exact hh.holds r h1
    · exact (qg r h1).1
  · rcases List.mem_append.1 hm with h1 | h1
    · obtain ⟨o,l⟩:=hh.own r h1 b hb
      refine ⟨?_,l⟩
      rcases o with o | o
      · exact hown b o
      · exact .inr (Nat.le_trans hst.si.size o)
    · exact ⟨(hp.own r (List.mem_append_right _ h1) b hb).1,(qg r h1).2 b hb⟩
  · obtain ⟨o,_⟩:=hh.own r h1 b hb
    rcases o with o | o
    · obtain ⟨q,hq,Je⟩:=dw.1 o
      exact hap.2.2 q hq s h2 b Je Cq
    · have:=(hp.own s (List.mem_append_right _ h2) b Cq).2
      omega
end rules
end Go.Bw
namespace Go.Bw
open Go Go.RowKit
structure yq (P:Program) (gf:Nat) (caps:List Value) (Hc:List aZ) (K:World→Prop) (encs:Nat→List Value) (n:Nat):Prop where
  fn:∀(l:Nat) (J:Nat→List Nat→World→Prop) (Jx:List Nat→World→Prop) (bs:List Nat),
    Fn (α:=Bool × List Nat) P gf (.func (.yield l) #[] #[]::caps) (fun w=>Bx (bs++bI Hc) K w∧DL P l (bs++bI Hc) w J Jx encs n) (.ext bs (J 0 bs)::Hc)
      (fun _=>True) (fun _=>.tuple #[]) (fun x=>.ext x.2 (bif x.1 then J n x.2 else Jx x.2)::Hc)
theorem mb {P:Program} {N:Nat} {c:Cx} {D:List Deferred} {Q:Exit→Act→World→Prop} {F:dB} {H:List aZ} {g:Operand} {ps:List Nat} {assign body:Code}
    {gf n:Nat} {caps:Array Value} {Hc:List aZ} {K:World→Prop} {encs:Nat→List Value} {α β:Type}
    (hro:c.ro = none) (hg:ev F g = some (.func (.func gf) #[] caps)) (hit:yq P gf caps.toList Hc K encs n) (hlen:∀k,(encs k).length = ps.length) (hps:ps.all (Nat.blt · N) = true)
    [Nf:yn c [] K]
    (p:Nat→α→Prop) (I:Nat→α→List aZ) (px:Code→β→Prop) (X:β→List aZ) (i0:α) (Cz:p 0 i0) {ks:List Nat} (hk:pick H ks = some (Hc++I 0 i0)) (hn:ks.Nodup)
    (hbody:∀(k:Nat) (i:α) (l dd:Nat) (rec:Loop) (c' : Cx),k < n→p k i→rec.state = .ready→rec.pending = none→c'.ro = some l→(∀w,bw c'.bs c'.w0 w→bw c.bs c.w0 w) →
      (∀b,(b ∈ c'.bs∨c'.w0.heap.size ≤ b)→(b ∈ c.bs∨c.w0.heap.size ≤ b)) →
      WP P N c' [] assign (xA P l body (xy c' (JW c.w0.heap.size c.bs (p (k + 1)) (fun i=>.obj dd (.deferred (some []))::.obj l (.loop rec)::I (k + 1) i))
        (JW c.w0.heap.size c.bs (fun q:Code × β=>px q.1 q.2) (fun q=>.obj dd (.deferred (some []))::.obj l (.loop { rec with state:=.done,pending:=some q.1 })::X q.2))))
        (qp ps (encs k) F) (.obj dd (.deferred (some []))::.obj l (.loop rec)::I k i))
    (hdone:∀dd i,p n i→WQ N c (mark dd::D) Q .normal F (.obj dd (.deferred (some []))::(Hc++I n i)))
    (AI:∀dd j i,px j i→WP P N c (mark dd::D) j Q F (.obj dd (.deferred (some []))::(Hc++X i))) :
    WP P N c D (.rangeFunc g ps.toArray assign body) Q F H:=fun a w hst=>by
  refine wpIn_rangeFunc fun fn _=>?_
  have ox:(FA c.ro).round = none:=hro
  rw [ox]
  obtain ⟨rec,mQ⟩ : ∃rec:Loop,rec = { state:=.ready,pending:=none,fn,tmps:=a.tmps,params:=ps.toArray,assign,body,defers:=w.heap.size }:=⟨_,rfl⟩
  obtain ⟨W1,AY⟩ : ∃W1,(w.alloc (.deferred (some []))).alloc (.loop rec) = W1:=⟨_,rfl⟩
  have EG:bw [] w W1:=by rw [← AY]; exact (bw.alloc w _).ext (bw.alloc _ _)
  have L6:W1.heap.size = w.heap.size + 2:=by rw [← AY]; simp
  have Nd:W1.heap[w.heap.size + 1]? = some (.loop rec):=by
    rw [← AY]; have:=World.alloc_heap_new (w.alloc (.deferred (some []))) (.loop rec); rwa [World.size_alloc] at this
  have Ng:W1.heap[w.heap.size]? = some (.deferred (some [])):=by
    rw [← AY]; exact (Below.heap_alloc _ _ _ (by simp)).trans (World.alloc_heap_new w _)
  have MO:=bK hst.fr hg
  have hfr:=hst.fr
  let J:Nat→List Nat→World→Prop:=fun k=>JW c.w0.heap.size c.bs (p k) (fun i=>.obj w.heap.size (.deferred (some []))::.obj (w.heap.size + 1) (.loop rec)::I k i)
  let Jx:List Nat→World→Prop:=JW c.w0.heap.size c.bs (fun q:Code × β=>px q.1 q.2) (fun q=>.obj w.heap.size (.deferred (some []))::.obj (w.heap.size + 1) (.loop { rec with state:=.done,pending:=some q.1 })::X q.2)
  have Ay:=(hst.hp.ext EG).pick hk hn
  have Fp:cy c.bs c.w0.heap.size (.obj w.heap.size (.deferred (some []))::.obj (w.heap.size + 1) (.loop rec)::(Hc++I 0 i0)) W1:=by
    have hlt:∀s ∈ Hc++I 0 i0,∀b ∈ s.gN,b < w.heap.size:=fun s hs b hb=>by
      have hm:s ∈ H:=by
        obtain ⟨jj,hj⟩:=List.mem_iff_getElem?.1 hs
        obtain ⟨kk,_,hh⟩:=lR hk jj s hj
        exact List.mem_of_getElem? hh
      exact (hst.hp.own s hm b hb).2
    have L5:=hst.si.size
    refine cy.cons (cy.cons Ay Nd ?_ ?_) Ng ?_ ?_
    · intro b hb; have e:b = w.heap.size + 1:=by simpa [aZ.gN] using hb
      subst e; exact ⟨.inr (by omega),by omega⟩
    · intro s hs b hb dc
      have e:b = w.heap.size + 1:=by simpa [aZ.gN] using hb
      have:=hlt s hs b dc; omega
    · intro b hb; have e:b = w.heap.size:=by simpa [aZ.gN] using hb
      subst e; exact ⟨.inr (by omega),by omega⟩
    · intro s hs b hb dc
      have e:b = w.heap.size:=by simpa [aZ.gN] using hb
      rcases List.mem_cons.1 hs with rfl | hs
      · have e2:b = w.heap.size + 1:=by simpa [aZ.gN] using dc
        omega
      · have:=hlt s hs b dc; omega
  let I0:List aZ:=.obj w.heap.size (.deferred (some []))::.obj (w.heap.size + 1) (.loop rec)::I 0 i0
  have Fm:cy c.bs c.w0.heap.size I0 W1:=Fp.sub (by
    refine List.Sublist.cons_cons _ (List.Sublist.cons_cons _ (List.sublist_append_right _ _)))
  have zy:cy c.bs c.w0.heap.size Hc W1:=Fp.sub (by
    refine List.Sublist.cons _ (List.Sublist.cons _ (List.sublist_append_left _ _)))
  have hap:∀r ∈ I0,∀s ∈ Hc,r.apart s:=by
    intro r hr s hs
    have Aw:=Fp.apart
    rw [List.pairwise_cons,List.pairwise_cons,List.pairwise_append] at Aw
    obtain ⟨q1,q2,_,_,q3⟩:=Aw
    rcases List.mem_cons.1 hr with rfl | hr
    · exact q1 s (by simp [hs])
    · rcases List.mem_cons.1 hr with rfl | hr
      · exact q2 s (by simp [hs])
      · exact aZ.jD (q3 s hs r hr)
  have hfn:=hit.fn (w.heap.size + 1) J Jx (bI I0)
  have wZ:bI (aZ.ext (bI I0) (J 0 (bI I0))::Hc) = bI I0++bI Hc:=by simp [bI,aZ.gN]
  refine ⟨w.heap.size + 1,[mark w.heap.size],W1,{ target:=.fn (.func gf) caps,args:=#[.func (.yield (w.heap.size + 1)) #[] #[]] },W1,gf,
    (Value.func (.yield (w.heap.size + 1)) #[] #[]::caps.toList).toArray,W1,?_,?_,fun _ _=>trivial,?_,fun h=>by simp at h,?_⟩
  · rw [← AY,mQ]; exact run_enterLoop_outer _ _ _ _ _
  · simp only [resolve,MO]
    simp [go_sem]
  · have:=hfn.enter (#[.func (.yield (w.heap.size + 1)) #[] #[]]++caps) W1
    simp only [invoke]
    rw [this]
    congr 2
    simp
  · have hin:cy (bI I0++bI Hc) W1.heap.size (aZ.ext (bI I0) (J 0 (bI I0))::Hc) W1:=by
      refine ⟨?_,?_,?_⟩
      · intro r hr
        rcases List.mem_cons.1 hr with rfl | hr
        · exact uO (I:=fun i=>.obj w.heap.size (.deferred (some []))::.obj (w.heap.size + 1) (.loop rec)::I 0 i) i0 Cz Fm
        · exact zy.holds r hr
      · intro r hr b hb
        rcases List.mem_cons.1 hr with rfl | hr
        · obtain ⟨s,hs,dc⟩:=dw.1 hb
          exact ⟨.inl (List.mem_append_left _ hb),(Fm.own s hs b dc).2⟩
        · exact ⟨.inl (List.mem_append_right _ (dw.2 ⟨r,hr,hb⟩)),(zy.own r hr b hb).2⟩
      · refine List.pairwise_cons.2 ⟨fun s hs b hb dc=>?_,zy.apart⟩
        obtain ⟨r,hr,ud⟩:=dw.1 hb
        exact hap r hr s hs b ud dc
    have qh:∀b ∈ bI I0++bI Hc,b ∈ c.bs∨c.w0.heap.size ≤ b:=fun b hb=>by
      rcases List.mem_append.1 hb with h | h
      · obtain ⟨r,hr,ud⟩:=dw.1 h; exact (Fm.own r hr b ud).1
      · obtain ⟨r,hr,ud⟩:=dw.1 h; exact (zy.own r hr b ud).1
    have vt:bw c.bs c.w0 W1:=hst.si.ext EG
    have wX:=hfn.calls W1 ⟨fun w' EC=>Nf.ok w' (vt.trans EC qh) (fun r hr=>by cases hr),?_⟩ (by rw [wZ]; exact hin)
    · refine jB c.ro ?_
      intro cs
      obtain ⟨e,w2,fr,⟨x,_,he,yT,AL⟩,wO,qg⟩:=wX cs
      refine ⟨e,w2,fr,?_,wO,qg⟩
      subst he
      rw [wZ] at yT AL
      obtain ⟨go,bs'⟩:=x
      have As:bw c.bs c.w0 w2:=vt.trans yT qh
      have hex:=AL.holds _ (List.mem_cons_self)
      have Fk:∀r ∈ Hc,r.holds w2:=fun r hr=>AL.holds r (List.mem_cons_of_mem _ hr)
      have Fi:∀s ∈ Hc,∀b ∈ bs',b ∉ s.gN:=fun s hs b hb=>by
        have:=AL.apart
        rw [List.pairwise_cons] at this
        exact this.1 s hs b hb
      have both:∀(IL:List aZ) (jump:Option Code) (st:LoopState),st ≠ .busy→bs' = bI (.obj w.heap.size (.deferred (some []))::.obj (w.heap.size + 1) (.loop { rec with state:=st,pending:=jump })::IL) →
          cy c.bs c.w0.heap.size (.obj w.heap.size (.deferred (some []))::.obj (w.heap.size + 1) (.loop { rec with state:=st,pending:=jump })::IL) w2 →
          ∃w4,(Instr.endLoop (w.heap.size + 1)).run P w2 = .ok jump w4∧St N c (mark w.heap.size::D) F (.obj w.heap.size (.deferred (some []))::(Hc++IL)) { a with defers:=mark w.heap.size::a.defers } w4:=by
        intro IL jump st tY dc hI
        have hl:w2.heap[w.heap.size + 1]? = some (.loop { rec with state:=st,pending:=jump }):=hI.holds (.obj (w.heap.size + 1) _) (by simp)
        have lZ:cy c.bs c.w0.heap.size (.obj w.heap.size (.deferred (some []))::.obj (w.heap.size + 1) (.loop { rec with state:=st,pending:=jump })::(Hc++IL)) w2:=by
          have hq:=hI.apart
          rw [List.pairwise_cons,List.pairwise_cons] at hq
          refine ⟨?_,?_,?_⟩
          · intro r hr
            rcases List.mem_cons.1 hr with rfl | hr
            · exact hI.holds _ (by simp)
            · rcases List.mem_cons.1 hr with rfl | hr
              · exact hI.holds _ (by simp)
              · rcases List.mem_append.1 hr with h | h
                · exact Fk r h
                · exact hI.holds r (by simp [h])
          · intro r hr b hb
            rcases List.mem_cons.1 hr with rfl | hr
            · exact hI.own _ (by simp) b hb
            · rcases List.mem_cons.1 hr with rfl | hr
              · exact hI.own _ (by simp) b hb
              · rcases List.mem_append.1 hr with h | h
                · exact ⟨(zy.own r h b hb).1,Nat.lt_of_lt_of_le (zy.own r h b hb).2 yT.size⟩
                · exact hI.own r (by simp [h]) b hb
          · have E8:∀r,r ∈ (aZ.obj w.heap.size (.deferred (some []))::.obj (w.heap.size + 1) (.loop { rec with state:=st,pending:=jump })::IL)→∀s ∈ Hc,r.apart s:=fun r hr s hs b hb CC =>
              Fi s hs b (by rw [dc]; exact dw.2 ⟨r,hr,hb⟩) CC
            refine List.pairwise_cons.2 ⟨fun s hs=>?_,List.pairwise_cons.2 ⟨fun s hs=>?_,List.pairwise_append.2 ⟨zy.apart,hq.2.2,fun s hs r hr=>aZ.jD (E8 r (by simp [hr]) s hs)⟩⟩⟩
            · rcases List.mem_cons.1 hs with rfl | hs
              · exact hq.1 _ (by simp)
              · rcases List.mem_append.1 hs with h | h
                · exact E8 _ (by simp) s h
                · exact hq.1 s (by simp [h])
            · rcases List.mem_append.1 hs with h | h
              · exact E8 _ (by simp) s h
              · exact hq.2.1 s h
        have Ar:St N c (mark w.heap.size::D) F (.obj w.heap.size (.deferred (some []))::.obj (w.heap.size + 1) (.loop { rec with state:=st,pending:=jump })::(Hc++IL)) { a with defers:=mark w.heap.size::a.defers } w2:=
          ⟨hst.tm,hfr,by simp [hst.df],As,lZ⟩
        have Ma:qz (.obj w.heap.size (.deferred (some []))::.obj (w.heap.size + 1) (.loop { rec with state:=st,pending:=jump })::(Hc++IL)) (w.heap.size + 1) (.loop { rec with state:=.exhausted,pending:=jump }) (.obj w.heap.size (.deferred (some []))::.obj (w.heap.size + 1) (.loop { rec with state:=.exhausted,pending:=jump })::(Hc++IL)):=inferInstance
        have ho:p8 (.obj w.heap.size (.deferred (some []))::.obj (w.heap.size + 1) (.loop { rec with state:=st,pending:=jump })::(Hc++IL)) (w.heap.size + 1) (.loop { rec with state:=st,pending:=jump }):=inferInstance
        obtain ⟨h3,_⟩:=Ar.zP ho Ma
        refine ⟨_,run_endLoop hl tY,⟨h3.tm,h3.fr,h3.df,h3.si,h3.hp.sub ?_⟩⟩
        exact List.Sublist.cons_cons _ (List.Sublist.cons _ (List.Sublist.refl _))
      cases go with
      | true =>
        obtain ⟨i,yV,hI,dc⟩:=ext_get hex
        have Im:({ rec with state:=LoopState.ready,pending:=none }:Loop) = rec:=by rw [mQ]
        obtain ⟨w4,h4,h5⟩:=both (I n i) none .ready (by simp) (by rw [Im]; exact dc) (by rw [Im]; exact hI)
        exact ⟨none,w4,h4,hdone _ i yV _ _ h5⟩
      | false =>
        obtain ⟨⟨j,i⟩,yV,hI,dc⟩:=ext_get hex
        obtain ⟨w4,h4,h5⟩:=both (X i) (some j) .done (by simp) dc hI
        exact ⟨some j,w4,h4,AI _ j i yV _ _ h5⟩
    ·
      intro k Gu W bs Mb Na E0
      obtain ⟨i,yV,hI,dc⟩:=ext_get E0
      have hl:W.heap[w.heap.size + 1]? = some (.loop rec):=hI.holds (.obj (w.heap.size + 1) _) (by simp)
      have hy:=run_yield (P:=P) (args:=(encs k).toArray) hl (by rw [mQ]; simpa using hlen k)
      refine ⟨_,_,_,_,hy,?_⟩
      have Au:bw c.bs c.w0 W:=vt.trans Mb qh
      have hsub:∀b,(b ∈ bI (aZ.obj w.heap.size (.deferred (some []))::.obj (w.heap.size + 1) (.loop rec)::I k i)∨W.heap.size ≤ b)→(b ∈ c.bs∨c.w0.heap.size ≤ b):=fun b hb=>by
        rcases hb with hb | hb
        · obtain ⟨r,hr,ud⟩:=dw.1 hb; exact (hI.own r hr b ud).1
        · exact .inr (Nat.le_trans Au.size hb)
      have hb:=hbody k i (w.heap.size + 1) w.heap.size rec ⟨some (w.heap.size + 1),W,bs⟩ Gu yV (by rw [mQ]) (by rw [mQ]) rfl (fun w' EC=>Au.trans EC fun b hb=>hsub b (.inl (by rw [← dc]; exact hb))) (fun b hb=>hsub b (by rw [← dc]; exact hb))
      have ht:=xR (ps:=ps) (vs:=encs k) hfr hst.tm hps
      have Ew:(rec.params.zip (encs k).toArray).foldl (fun tmps (t,a)=>tmps.setIfInBounds t a) rec.tmps = (ps.zip (encs k)).foldl (fun t q=>t.setIfInBounds q.1 q.2) a.tmps:=by
        rw [mQ]; simp
      rw [Ew]
      have Io:rec.assign = assign∧rec.body = body:=by rw [mQ]; exact ⟨rfl,rfl⟩
      rw [Io.1,Io.2]
      have Jg:cy bs W.heap.size (.obj w.heap.size (.deferred (some []))::.obj (w.heap.size + 1) (.loop rec)::I k i) W:=
        ⟨hI.holds,fun r hr b hb=>⟨.inl (by rw [dc]; exact dw.2 ⟨r,hr,hb⟩),(hI.own r hr b hb).2⟩,hI.apart⟩
      have ox:=roundIn_of_wpIn (F:=FA none) (n:=0) (P:=P) (l:=w.heap.size + 1) (f:=rec.fn) (R:=xy ⟨some (w.heap.size + 1),W,bs⟩ (J (k + 1)) Jx) trivial
        (hb { tmps:=(ps.zip (encs k)).foldl (fun t q=>t.setIfInBounds q.1 q.2) a.tmps,defers:=[] } W ⟨ht.2,ht.1,rfl,bw.refl _ _,Jg⟩)
      refine ox.mono fun e W' hr=>?_
      rw [wZ] at *
      exact hr
theorem m8 {c c' : Cx} {K:World→Prop} [h:yn c [] K] (hsi:∀w,bw c'.bs c'.w0 w→bw c.bs c.w0 w):∀R,yn c' R K:=fun R=>⟨fun w hs _=>h.ok w (hsi w hs) (fun r hr=>by cases hr)⟩
def yl {β:Type} (e:β) (m:Option (List β)):Option (List β):=m.map (e::·)
theorem BQ {β:Type} {e:β} {m:Option (List β)} {r:List β} (h:yl e m = some r):∃r',r = e::r'∧m = some r':=by
  cases m with
  | none=>cases h
  | some l=>exact ⟨l,(Option.some.inj h).symm,rfl⟩
theorem drop_cons {β:Type} [Inhabited β] {l r:List β} {k:Nat} {e:β} (h:l.drop k = e::r):k < l.length∧l.getD k default = e∧l.drop (k + 1) = r∧k + 1 ≤ l.length:=by
  have hlt:k < l.length:=by
    rcases Nat.lt_or_ge k l.length with h1 | h1
    · exact h1
    · rw [List.drop_eq_nil_of_le h1] at h; cases h
  rw [List.drop_eq_getElem_cons hlt] at h
  obtain ⟨h1,h2⟩:=List.cons.inj h
  refine ⟨hlt,?_,h2,hlt⟩
  rw [List.getD,List.getElem?_eq_getElem hlt]; exact h1
theorem drop_nil {β:Type} {l:List β} {k:Nat} (h:l.drop k = []) (hk:k ≤ l.length):k = l.length:=by
  have:=List.drop_eq_nil_iff.1 h
  omega
section
variable {α1 β ρ:Type}
def fG (B:β→(α1→Option ρ)→α1→Option ρ) (fin:α1→Option ρ):List β→α1→Option ρ
  | [],a1=>fin a1
  | x::l,a1=>B x (fG B fin l) a1
theorem rj {B:β→(α1→Option ρ)→α1→Option ρ} {fin:α1→Option ρ} {l:List β} {a1:α1} {r:ρ} (h:fG B fin l a1 = some r):∃ib,ib = B∧∃fi,fi = fin∧fG ib fi (l.drop 0) a1 = some r:=⟨B,rfl,fin,rfl,h⟩
theorem rh [Inhabited β] {ib B:β→(α1→Option ρ)→α1→Option ρ} {fi:α1→Option ρ} (e:ib = B) {l:List β} {k:Nat} (hk:k < l.length) {a1:α1} {r:ρ} (h:fG ib fi (l.drop k) a1 = some r):B (l.getD k default) (fG ib fi (l.drop (k + 1))) a1 = some r:=by
  subst e
  rw [List.drop_eq_getElem_cons hk] at h
  rw [List.getD,List.getElem?_eq_getElem hk]; exact h
theorem ri {ib:β→(α1→Option ρ)→α1→Option ρ} {fi fin:α1→Option ρ} (e:fi = fin) {l:List β} {k:Nat} (hk:k = l.length) {a1:α1} {r:ρ} (h:fG ib fi (l.drop k) a1 = some r):fin a1 = some r:=by
  subst e; subst hk
  rw [List.drop_length] at h; exact h
end
section
variable {α1 α2 β ρ:Type}
end
section
variable {α1 α2 α3 β ρ:Type}
def qq (B:β→(α1→α2→α3→Option ρ)→α1→α2→α3→Option ρ) (fin:α1→α2→α3→Option ρ):List β→α1→α2→α3→Option ρ
  | [],a1,a2,a3=>fin a1 a2 a3
  | x::l,a1,a2,a3=>B x (qq B fin l) a1 a2 a3
theorem HQ {B:β→(α1→α2→α3→Option ρ)→α1→α2→α3→Option ρ} {fin:α1→α2→α3→Option ρ} {l:List β} {a1:α1} {a2:α2} {a3:α3} {r:ρ} (h:qq B fin l a1 a2 a3 = some r):∃ib,ib = B∧∃fi,fi = fin∧qq ib fi (l.drop 0) a1 a2 a3 = some r:=⟨B,rfl,fin,rfl,h⟩
theorem HO [Inhabited β] {ib B:β→(α1→α2→α3→Option ρ)→α1→α2→α3→Option ρ} {fi:α1→α2→α3→Option ρ} (e:ib = B) {l:List β} {k:Nat} (hk:k < l.length) {a1:α1} {a2:α2} {a3:α3} {r:ρ} (h:qq ib fi (l.drop k) a1 a2 a3 = some r):B (l.getD k default) (qq ib fi (l.drop (k + 1))) a1 a2 a3 = some r:=by
  subst e
  rw [List.drop_eq_getElem_cons hk] at h
  rw [List.getD,List.getElem?_eq_getElem hk]; exact h
theorem HP {ib:β→(α1→α2→α3→Option ρ)→α1→α2→α3→Option ρ} {fi fin:α1→α2→α3→Option ρ} (e:fi = fin) {l:List β} {k:Nat} (hk:k = l.length) {a1:α1} {a2:α2} {a3:α3} {r:ρ} (h:qq ib fi (l.drop k) a1 a2 a3 = some r):fin a1 a2 a3 = some r:=by
  subst e; subst hk
  rw [List.drop_length] at h; exact h
end
section
variable {α1 α2 α3 α4 β ρ:Type}
end
section
variable {α1 α2 α3 α4 α5 β ρ:Type}
end
section
variable {α1 α2 α3 α4 α5 α6 β ρ:Type}
end
section
variable {α1 α2 α3 α4 α5 α6 α7 β ρ:Type}
end
section
variable {α1 α2 α3 α4 α5 α6 α7 α8 β ρ:Type}
end
section
variable {α1 α2 α3 α4 α5 α6 α7 α8 α9 β ρ:Type}
end
section
variable {α1 α2 α3 α4 α5 α6 α7 α8 α9 KM β ρ:Type}
end
end Go.Bw
namespace Go.Bw
open Go Go.RowKit
section rules
variable {P:Program} {N:Nat} {c:Cx} {D:List Deferred} {Q:Exit→Act→World→Prop} {F:dB} {H:List aZ} {d:Option Tmp} {ty:TypeId} {ps:String} {af:Array Edge} {g:Option (Nat × Bool)} {α β γ:Type}
theorem xB {L:aJ α} [bg L] [Inhabited α] {M:aJ β} [bg M] {v:Value} {xs:List α} {e sz off t q:Nat} {x y:Operand} {val:Value} {gg:(Nat→α)→β} {s:(Nat→α)→β→(Nat→α)} {f:aZ→List aZ} {z:α}
    (m:Nat) (p:aN (LA L xs.length) M off gg s) (u:β) (ys:List α) (hy:ys = xs.set m z) (hx:ev F x = some (gK v off)) (hz:ev F y = some val) (hv:val.cells.toList = M.enc u) (hs:s (fun i=>xs.getD i default) u = eO (fun i=>xs.getD i default) m z)
    (hm:m < xs.length) (hn:M.n = q) [hr:nA H v e sz xs.length (fu L xs) f] (hsz:L.n = sz) [ht:BL P t q] :
    RX (α:=Unit) P N c ⟨d, .store t x y,ty,ps,af,g⟩ F H (fun _=>True) (fun _=>undef) (fun _=>f (Row v e sz L ys)):=fun D a w next Q hst hk=>by
  subst hn hsz
  obtain ⟨k,k1,k2⟩:=hr.ok
  have CA:aZ.row v e L.n xs.length (fu L xs) ∈ H:=List.mem_of_getElem? k1
  have hown:w.ownsRow 0 e L.n v xs.length (fu L xs):=hst.hp.holds _ CA
  obtain ⟨hlen,s9⟩:=hown
  rcases s9 with ⟨_,h0⟩ | ⟨gb,cap,cur,rfl,_,DA,hnc,Kt,hcs,xX⟩
  · omega
  have hle:off + M.n ≤ xs.length * L.n:=p.le
  have hmul:xs.length * L.n ≤ cap * L.n:=Nat.mul_le_mul_right _ hnc
  obtain ⟨cs,rfl⟩ : ∃cs:List Value,cur = cs.toArray:=⟨cur.toList,by simp⟩
  have MR:cs.length = cap * L.n:=by simpa using hcs
  have Gt:cs.take (xs.length * L.n) = fu L xs:=by simpa using xX
  have Ie:(M.enc u).length = M.n:=bx M u
  obtain ⟨w',e1,e2,e3⟩:=mM (P:=P) (t:=t) (b:=gb) (T:=e) (off:=off) (cs:=cs) (w:=w) DA hv Ie (by omega) (qD M u)
  have AB:ys.length = xs.length:=by rw [hy,List.length_set]
  have hnew:(bP cs off (M.enc u)).take (xs.length * L.n) = fu L ys:=by
    have h1:bP (fu L xs) off (M.enc u) = fu L ys:=by
      rw [lK L xs,hy,← zS L xs m z hm,← hs]
      exact p.put _ _
    rw [← h1,← Gt]
    unfold bP
    rw [Ie]
    have t1:(cs.take (xs.length * L.n)).take off = cs.take off:=by rw [List.take_take,Nat.min_eq_left (by omega)]
    have t2:(cs.take (xs.length * L.n)).drop (off + M.n) = (cs.drop (off + M.n)).take (xs.length * L.n - (off + M.n)):=by rw [List.drop_take]
    have t3:(cs.take off++M.enc u).length = off + M.n:=by rw [List.length_append,List.length_take,Ie,Nat.min_eq_left (by omega)]
    rw [t1,t2,List.take_append,List.take_of_length_le (by omega),t3]
  refine sX (by simp) (w':=w') ?_ (hk () w' trivial (hst.si.store hst.hp CA (by simp [aZ.gN,Value.ownBlock]) e3) ?_)
  · simp [execOp,bK hst.fr hx,bK hst.fr hz,gK,Instr.storeAt,Instr.sureAddr,e1]
  · show cy c.bs c.w0.heap.size (f (Row _ e L.n L ys)) w'
    rw [Row,k2]
    refine hst.hp.set k1 e3.size (fun j hj hn=>e3.block j hj (by simpa [aZ.gN,Value.ownBlock] using hn)) ?_ hst.si.size (fun b' hb'=>?_)
    · refine ⟨by rw [m5], .inr ⟨gb,cap,_,by rw [AB],Nat.zero_le _,e2,by omega,Kt,?_,?_⟩⟩
      · simp only [List.size_toArray,bP,List.length_append,List.length_take,List.length_drop,Ie]; omega
      · rw [AB]; simpa using hnew
    · have h5:b' = gb:=by simpa [aZ.gN,Value.ownBlock] using hb'
      subst h5
      exact ⟨.inl (by simp [aZ.gN,Value.ownBlock]),Nat.lt_of_lt_of_le (Array.getElem?_eq_some_iff.1 DA).1 e3.size⟩
class R2 (P:Program) (t:TypeId) (q:outParam IntKind):Prop where
  ok:P.underlying t = some (.int q)
theorem kf.size {v:Value} {n:Nat} (h:kf v n):v.cells.size = 1:=by obtain ⟨a,cp,rfl⟩:=h; rfl
end rules
end Go.Bw
namespace Go.Bw
open Go Go.RowKit
section rules
variable {P:Program} {N:Nat} {c:Cx} {D:List Deferred} {Q:Exit→Act→World→Prop} {F:dB} {H:List aZ} {d:Option Tmp} {ty:TypeId} {ps:String} {af:Array Edge} {g:Option (Nat × Bool)} {α β γ:Type}
end rules
end Go.Bw
namespace Go.Bw
open Go Go.RowKit Go.ChangeMaps
section
variable {β:Type}
def nZ:List (Int × β)→Int→Option (Nat × β)
  | [],_=>none
  | p::r,k=>bif k == p.1 then some (0,p.2) else (nZ r k).map fun q=>(q.1 + 1,q.2)
def Ab (l:List (Int × β)) (k:Int) (z:β):β:=((nZ l k).map Prod.snd).getD z
def sd:List (Int × β)→Int→β→List (Int × β)
  | [],k,v=>[(k,v)]
  | p::r,k,v=>bif k == p.1 then (k,v)::r else p::sd r k v
end
class Q4 {β:Type} (E:β→Value):Prop where
  ok:True
structure nD {β:Type} (q:IntKind) (E:β→Value) (es:Array MapEntry) (clock:Nat) (l:List (Int × β)):Prop where
  kv:es.toList.map (fun e=>(e.key,e.val)) = l.map fun p=>(Value.int q p.1,E p.2)
  born:∀e ∈ es.toList,e.born < clock
  nd:(es.toList.map (·.born)).Nodup
def OZ {β:Type} (b:Nat) (q:IntKind) (E:β→Value) (l:List (Int × β)) (w:World):Prop:=∃es clock,w.heap[b]? = some (.map es clock)∧nD q E es clock l
abbrev Mp {β:Type} (b:Nat) (q:IntKind) (E:β→Value) (l:List (Int × β)):aZ:=.ext [b] (OZ b q E l)
theorem Bs {β:Type} {b:Nat} {q:IntKind} {E:β→Value} {l:List (Int × β)} {w:World} (h:OZ b q E l w):(Mp b q E l).holds w:=fun w' _ hb=>by
  obtain ⟨es,clock,h1,h2⟩:=h
  exact ⟨es,clock,(hb b (by simp)).trans h1,h2⟩
class J6 (H:List aZ) (b:Nat) (β:outParam Type) (q:outParam IntKind) (E:outParam (β→Value)) (l:outParam (List (Int × β))) (f:outParam (aZ→List aZ)):Prop where
  ok:∃k:Nat,H[k]? = some (Mp b q E l)∧∀r',f r' = H.set k r'
class Q1 (P:Program) (t:TypeId) (k e:outParam TypeId) (q:outParam IntKind):Prop where
  ok:P.underlying t = some (.map k e)∧P.underlying k = some (.int q)
section
variable {β:Type} {q:IntKind} {E:β→Value}
theorem s6 {k:Int}:∀{l:List (Int × β)} {j:Nat} {y:β},nZ l k = some (j,y)→l[j]? = some (k,y)
  | [],_,_,h=>by simp [nZ] at h
  | p::r,j,y,h=>by
    unfold nZ at h
    cases hk:k == p.1 with
    | true =>
      rw [hk] at h
      simp only [cond_true,Option.some.injEq,Prod.mk.injEq] at h
      obtain ⟨rfl,rfl⟩:=h
      have:k = p.1:=by simpa using hk
      subst this; rfl
    | false =>
      rw [hk] at h
      simp only [cond_false] at h
      cases hr:nZ r k with
      | none=>simp [hr] at h
      | some z =>
        rw [hr] at h
        simp only [Option.map_some,Option.some.injEq,Prod.mk.injEq] at h
        obtain ⟨rfl,rfl⟩:=h
        have:=s6 (l:=r) (j:=z.1) (y:=z.2) hr
        simpa using this
theorem nD.len {es:Array MapEntry} {clock:Nat} {l:List (Int × β)} (h:nD q E es clock l):es.size = l.length:=by
  have:=congrArg List.length h.kv
  simpa using this
theorem nD.push {es:Array MapEntry} {clock:Nat} {l:List (Int × β)} (h:nD q E es clock l) (k:Int) (v:β):nD q E (es.push ⟨.int q k,E v,clock⟩) (clock + 1) (l++[(k,v)]):=by
  refine ⟨by simp [h.kv],fun e he=>?_,?_⟩
  · rw [Array.toList_push,List.mem_append,List.mem_singleton] at he
    rcases he with he | rfl
    · exact Nat.lt_succ_of_lt (h.born e he)
    · exact Nat.lt_succ_self _
  · rw [Array.toList_push,List.map_append,List.nodup_append]
    refine ⟨h.nd,by simp,fun a ha b hb=>?_⟩
    obtain ⟨e,he,rfl⟩:=List.mem_map.1 ha
    have hb:b = clock:=by simpa using hb
    subst hb
    exact fun e'=>by have:=h.born e he; omega
theorem nK {γ δ:Type} (f:γ→δ):∀(l:List γ) (j:Nat),(l.eraseIdx j).map f = (l.map f).eraseIdx j
  | [],j=>by simp
  | x::r,0=>by simp
  | x::r,j + 1=>by simp [nK f r j]
theorem nD.erase {es:Array MapEntry} {clock:Nat} {l:List (Int × β)} (h:nD q E es clock l) (j:Nat):nD q E (es.eraseIdxIfInBounds j) clock (l.eraseIdx j):=by
  have ht:(es.eraseIdxIfInBounds j).toList = es.toList.eraseIdx j:=by
    unfold Array.eraseIdxIfInBounds
    split
    · simp
    · rename_i hj
      rw [List.eraseIdx_of_length_le (by simpa using hj)]
  refine ⟨?_,fun e he=>?_,?_⟩
  · rw [ht,nK,h.kv,← nK]
  · rw [ht] at he; exact h.born e (List.mem_of_mem_eraseIdx he)
  · rw [ht,nK]; exact h.nd.sublist (List.eraseIdx_sublist _ _)
end
section rules
variable {P:Program} {N:Nat} {c:Cx} {F:dB} {H:List aZ} {d:Option Tmp} {ty:TypeId} {ps:String} {af:Array Edge} {g:Option (Nat × Bool)} {β:Type} {q:IntKind} {E:β→Value} {l:List (Int × β)} {f:aZ→List aZ} {b:Nat}
theorem J6.put {N:Nat} {D:List Deferred} {a:Act} {w:World} {l' : List (Int × β)} {es es' : Array MapEntry} {clock clock' : Nat} (h:J6 H b β q E l f) (hst:St N c D F H a w) (he:w.heap[b]? = some (.map es clock)) (hok:nD q E es' clock' l') :
    bw c.bs c.w0 (w.putObj b (.map es' clock'))∧cy c.bs c.w0.heap.size (f (Mp b q E l')) (w.putObj b (.map es' clock')):=by
  obtain ⟨k,h1,h2⟩:=h.ok
  have hlt:=(Array.getElem?_eq_some_iff.1 he).1
  have nN:bw [b] w (w.putObj b (.map es' clock')):=⟨rfl,rfl,rfl,by simp [World.putObj],fun k _ hk=>World.putObj_heap_other (by simpa using hk)⟩
  refine ⟨hst.si.store hst.hp (List.mem_of_getElem? h1) (by simp [aZ.gN]) nN,?_⟩
  rw [h2]
  refine hst.hp.set h1 nN.size (fun j hj hne=>nN.block j hj (by simpa [aZ.gN] using hne)) (Bs ⟨es',clock',World.putObj_heap_same hlt,hok⟩) hst.si.size (fun b' hb=>?_)
  have e:b' = b:=by simpa [aZ.gN] using hb
  subst e
  exact ⟨.inl (by simp [aZ.gN]),by rw [World.putObj]; simpa using hlt⟩
class OQ (P:Program) (e:TypeId) (z:outParam Value):Prop where
  ok:(P.info? e).bind (·.zero) = some z
theorem Ec {e:TypeId} {z:Value} (h:OQ P e z) (w:World):(zeroValue e).run P w = .ok z w:=by
  have:=h.ok
  cases hi:P.info? e with
  | none=>simp [hi] at this
  | some i =>
    simp [hi] at this
    simp [zeroValue,typeInfo,hi,this,Sem.run_bind,Sem.run,Result.andThen]
end rules
end Go.Bw
namespace Go.Bw
open Go Go.RowKit Go.ChangeMaps
section
variable {α1 β ρ:Type}
end
section
variable {α1 α2 β ρ:Type}
end
section
variable {α1 α2 α3 β ρ:Type}
end
section
variable {α1 α2 α3 α4 β ρ:Type}
end
section
variable {α1 α2 α3 α4 α5 β ρ:Type}
end
section
variable {α1 α2 α3 α4 α5 α6 β ρ:Type}
end
def Ra {β:Type} (r b:Nat) (q:IntKind) (E:β→Value) (l rem:List (Int × β)) (last:Option (Int × β)) (w:World):Prop:=
  ∃es clock seen since c0,w.heap[b]? = some (.map es clock)∧w.heap[r]? = some (.mapIter (some b) since seen c0)∧nD q E es clock l∧(∀x ∈ es.toList,x.born < since)∧(since ≤ c0∧since ≤ clock) ∧
    (leftOf es seen).toList.map (fun e=>(e.key,e.val)) = rem.map (fun p=>(Value.int q p.1,E p.2)) ∧
    ∀p,last = some p→c0 = clock∧∃(s' : Array Nat) (e:MapEntry),seen = s'.push e.born∧e ∈ es.toList∧e.key = .int q p.1∧e.val = E p.2
abbrev Q9 {β:Type} (r b:Nat) (q:IntKind) (E:β→Value) (l rem:List (Int × β)) (last:Option (Int × β)):aZ:=.ext [r,b] (Ra r b q E l rem last)
class Rb (H:List aZ) (r:Nat) (b:outParam Nat) (β:outParam Type) (q:outParam IntKind) (E:outParam (β→Value)) (l rem:outParam (List (Int × β))) (last:outParam (Option (Int × β))) (f:outParam (aZ→List aZ)):Prop where
  ok:∃k:Nat,H[k]? = some (Q9 r b q E l rem last)∧∀r',f r' = H.set k r'
section rules
variable {P:Program} {N:Nat} {c:Cx} {F:dB} {H:List aZ} {d:Option Tmp} {ty:TypeId} {ps:String} {af:Array Edge} {g:Option (Nat × Bool)} {β:Type} {q:IntKind} {E:β→Value} {l rem:List (Int × β)} {last:Option (Int × β)} {f:aZ→List aZ} {b r:Nat}
end rules
end Go.Bw
namespace Go.Bw
open Go Go.RowKit Go.ChangeShapes Go.WideShapes Go.Deep
theorem Below.z8 {w w' : World} (h:bw [] w w'):Below w.heap.size w w':=⟨h.os,h.tape,h.output,h.size,fun k hk=>h.block k hk (by simp)⟩
theorem CP {w:World} {a:Addr} {v:Value} (h:w.cell? a = some v):a.block < w.heap.size:=by
  rcases Nat.lt_or_ge a.block w.heap.size with h1 | h1
  · exact h1
  · have:w.heap[a.block]? = none:=Array.getElem?_eq_none h1
    simp [World.cell?,this] at h
section
variable {H:Type} {enc:TypeId × Value→H} {P:Program} {w:World} {base:Nat} {spare:Nat→Bool} {held:Bool}
theorem wA {t fuel:Nat} {fs:Array Field} {cs:List Value} {x:DataW H × List MemPlace} (ht:P.underlying t = some (.struct fs)) (h:DataW.trod enc P w base spare held fuel t cs = some x) :
    cs.length = P.cellsOf t∧∀(i:Nat) (f:Field),fs[i]? = some f→∃n y,DataW.trod enc P w base spare held n f.type ((cs.drop f.offset).take (P.cellsOf f.type)) = some y:=by
  obtain ⟨ys,n,_,_,hl,hy,hf⟩:=DataW.trod_struct ht h
  refine ⟨hl,fun i f hi=>?_⟩
  have hlt:i < ys.length:=by rw [hy]; exact (Array.getElem?_eq_some_iff.1 hi).1
  exact ⟨n,ys[i],(hf i f hi).trans (List.getElem?_eq_getElem hlt)⟩
theorem B5 {α:Type} [Inhabited α] {t e sz fuel len cap:Nat} {a:Option Addr} {x:DataW H × List MemPlace} (E:α→List Value) (R:α→Prop) (ht:P.underlying t = some (.slice e)) (hC:P.cellsOf e = sz) (h0:0 < sz)
    (hE:∀z,(E z).length = sz) (hQ:∀(n:Nat) (cs:List Value) y,DataW.trod enc P w base spare held n e cs = some y→∃z,cs = E z∧R z) (h:DataW.trod enc P w base spare held fuel t [.slice a len cap] = some x) :
    ∃g:Nat→α,Ro w (.slice a len cap) sz len (flat (fun i=>E (g i)) len)∧(∀i,i < len→R (g i))∧len ≤ maxLen:=by
  rcases open_slice ht h with ⟨hcs,_⟩ | ⟨a',len',cap',m,n,D,Pl,hcs,_,hl,hm,CA,_,hi⟩
  · simp at hcs
    obtain ⟨rfl,rfl,rfl⟩:=hcs
    exact ⟨fun _=>default,⟨by simp [flat], .inl ⟨⟨_,_,rfl⟩,rfl⟩⟩,fun i hi=>by omega,Nat.zero_le _⟩
  · simp at hcs
    obtain ⟨rfl,rfl,rfl⟩:=hcs
    have RJ:len ≤ m:=by rw [CA]; split <;> omega
    have hex:∀i,i < len→∃z,R z∧∀j,j < sz→w.cell? (a'.add (i * sz + j)) = (E z)[j]?:=fun i rB=>by
      obtain ⟨cs',hc,ht'⟩:=hi i (by omega)
      obtain ⟨z,rfl,hz⟩:=hQ _ _ _ ht'
      rw [hC] at hc
      obtain ⟨_,_,OC⟩:=World.cells?_some hc
      refine ⟨z,hz,fun j hj=>?_⟩
      rw [← OC j hj,← Go.Deep.add_add]
    let g:Nat→α:=fun i=>if hh:i < len then Classical.choose (hex i hh) else default
    have hg:∀i,i < len→R (g i)∧∀j,j < sz→w.cell? (a'.add (i * sz + j)) = (E (g i))[j]?:=fun i rB=>by
      have:=Classical.choose_spec (hex i rB)
      simp only [g,rB,dif_pos]
      exact this
    refine ⟨g,⟨jS fun i _=>hE _,?_⟩,fun i rB=>(hg i rB).1,by omega⟩
    have AS:∀(j:Nat) u,(flat (fun i=>E (g i)) len)[j]? = some u→w.cell? (a'.add j) = some u:=fun j u hu=>by
      have hlen:(flat (fun i=>E (g i)) len).length = len * sz:=jS fun i _=>hE _
      have hj:j < len * sz:=by rw [← hlen]; exact (List.getElem?_eq_some_iff.1 hu).1
      have hd:j = (j / sz) * sz + j % sz:=by rw [Nat.mul_comm]; exact (Nat.div_add_mod j sz).symm
      have hq:j / sz < len:=(Nat.div_lt_iff_lt_mul h0).2 hj
      have hr:j % sz < sz:=Nat.mod_lt _ h0
      rw [hd,flat_get (g:=fun i=>E (g i)) (fun i _=>hE _) hq hr] at hu
      rw [hd,(hg _ hq).2 _ hr,hu]
    rcases Nat.eq_zero_or_pos len with e0 | e0
    · subst e0; exact .inl ⟨⟨_,_,rfl⟩,rfl⟩
    · obtain ⟨b,off,spot⟩:=a'
      have hz:(flat (fun i=>E (g i)) len)[0]? = some ((flat (fun i=>E (g i)) len)[0]'(by rw [jS (k:=sz) (fun i _=>hE _)]; exact Nat.mul_pos e0 h0)):=List.getElem?_eq_getElem _
      have h1:=AS 0 _ hz
      have Ig:spot = none:=by simpa [Addr.add] using World.cell?_spot h1
      subst Ig
      refine .inr ⟨b,off,cap,rfl,?_,by omega,fun j u hu=>?_⟩
      · simpa [Addr.add] using CP h1
      · have:=AS j u hu
        rwa [Addr.add_lit] at this
end
end Go.Bw
namespace Go.Bw
open Go Go.RowKit Go.ChangeShapes Go.WideShapes Go.Deep
def GD {α:Type} (P:Program) (W:World) (t:TypeId) (L:aJ α) (R:α→Prop):Prop:=
  ∀(H:Type) (enc:TypeId × Value→H) (base:Nat) (spare:Nat→Bool) (held:Bool) (n:Nat) (cs:List Value) (y:DataW H × List MemPlace),DataW.trod enc P W base spare held n t cs = some y→∃z,L.rep (fun w=>bw [] W w) cs z∧R z
section
variable {P:Program} {W:World} {t e:TypeId} {α β:Type}
theorem Db (hu:P.underlying t = some (.int .i64)):GD P W t (LI .i64) (fun z=>-9223372036854775808 ≤ z∧z ≤ 9223372036854775807):=fun _ _ _ _ _ _ _ _ h=>by obtain ⟨a,e,_,b⟩:=DataW.trod_int hu h; exact ⟨a,e,bounds_i64 b⟩
theorem Gb (hu:P.underlying t = some (.int .u8)):GD P W t (LI .u8) (fun z=>0 ≤ z∧z ≤ 255):=fun _ _ _ _ _ _ _ _ h=>by obtain ⟨a,e,_,b⟩:=DataW.trod_int hu h; exact ⟨a,e,bounds_u8 b⟩
theorem uN (hu:P.underlying t = some (.int .u32)):GD P W t (LI .u32) (fun z=>0 ≤ z∧z ≤ 4294967295):=fun _ _ _ _ _ _ _ _ h=>by obtain ⟨a,e,_,b⟩:=DataW.trod_int hu h; exact ⟨a,e,bounds_u32 b⟩
theorem Gc [Inhabited α] {L:aJ α} [bg L] {R:α→Prop} {sz:Nat} (hu:P.underlying t = some (.slice e)) (hc:P.cellsOf e = sz) (hn:L.n = sz) (h0:0 < sz) (h:GD P W e L R):GD P W t (qo L) (fun z=>∀x ∈ z,R x):=by
  intro H enc base spare held n cs y hy
  have hcs:∃a len cap,cs = [.slice a len cap]:=by
    rcases open_slice hu hy with ⟨hcs,_⟩ | ⟨a',len',cap',m,n,D,Pl,hcs,_⟩
    · exact ⟨_,_,_,hcs⟩
    · exact ⟨_,_,_,hcs⟩
  obtain ⟨a,len,cap,rfl⟩:=hcs
  obtain ⟨g,w,q,_⟩:=B5 (α:=α) (sz:=sz) L.enc R hu hc h0 (fun z=>(bx L z).trans hn) (fun n cs y hy=>by
    obtain ⟨z,hz,hr⟩:=h H enc base spare held n cs y hy
    exact ⟨z,bg.iff.1 hz,hr⟩) hy
  refine ⟨_,⟨_,rfl,Fz.Hq (L:=L) hn.symm ⟨_,_,rfl⟩ w⟩,fun x hx=>?_⟩
  obtain ⟨i,hi,rfl⟩:=List.mem_map.1 hx
  exact q i (List.mem_range.1 hi)
theorem qL {A:aJ α} {B:aJ β} {J:World→Prop} {cs:List Value} {o na:Nat} {x:α} {y:β} (hn:A.n = na) (h1:A.rep J ((cs.drop o).take na) x) (h2:B.rep J (cs.drop (o + na)) y):(LP A B).rep J (cs.drop o) (x,y):=
  ⟨_,_,(List.take_append_drop na _).symm,h1,by rw [List.drop_drop]; exact h2⟩
theorem Ge {A:aJ α} {J:World→Prop} {cs:List Value} {o na:Nat} {x:α} (hl:cs.length = o + na) (h1:A.rep J ((cs.drop o).take na) x):A.rep J (cs.drop o) x:=by
  rwa [List.take_of_length_le (by rw [List.length_drop]; omega)] at h1
theorem G4 {L:aJ α} [bg L] {A:World→Prop} {a:Option Addr} {len cap:Nat} {z:List α} (h:(qo L).rep A (Value.slice a len cap).cells.toList z):Fz A (.slice a len cap) L z:=by
  obtain ⟨v,e,f⟩:=h
  have e:[Value.slice a len cap] = [v]:=e
  cases e
  exact f
end
end Go.Bw
namespace Go.Bw
open Go Go.RowKit Go.ChangeShapes Go.WideShapes Go.Deep
section
variable {α β:Type}
structure Gk [Inhabited α] (A:World→Prop) (v:Value) (L:aJ α) (ws:List Value) (xs:List α):Prop where
  sl:kf v xs.length
  rep:(LA L xs.length).rep A ws (fun i=>xs.getD i default)
  ro:∀w,A w→Ro w v L.n xs.length ws
theorem Gk.mono [Inhabited α] {A B:World→Prop} {v:Value} {L:aJ α} {ws:List Value} {xs:List α} (h:Gk A v L ws xs) (m:∀w,B w→A w):Gk B v L ws xs:=⟨h.sl,aJ.mono _ m h.rep,fun w hw=>h.ro w (m w hw)⟩
theorem Gk.at [Inhabited α] {c:Cx} {H:List aZ} {A:World→Prop} {v:Value} {L:aJ α} {ws:List Value} {xs:List α} (h:Gk A v L ws xs) [k:Kn c H A]:oc c H v L.n xs.length ws:=⟨fun w h1 h2=>h.ro w (k.ok w h1 h2)⟩
theorem Gk.nil [Inhabited α] {A:World→Prop} {L:aJ α}:Gk A (.slice none 0 0) L [] ([]:List α):=⟨⟨_,_,rfl⟩,⟨fun _=>[],rfl,fun i hi=>absurd hi (Nat.not_lt_zero _)⟩,fun _ _=>⟨by simp, .inl ⟨⟨_,_,rfl⟩,rfl⟩⟩⟩
end
theorem pJ {β:Type} {M:aJ β} {A:World→Prop} {cs:List Value} {x:β} (h:M.rep A cs x):∃c,cs = c∧M.rep A c x:=⟨cs,rfl,h⟩
section rules
variable {P:Program} {N:Nat} {c:Cx} {D:List Deferred} {Q:Exit→Act→World→Prop} {F:dB} {H:List aZ} {d:Option Tmp} {ty:TypeId} {ps:String} {af:Array Edge} {g:Option (Nat × Bool)} {α β γ:Type}
  {A:World→Prop} {v:Value} {L:aJ α} [Inhabited α] {ws:List Value} {xs:List α}
end rules
section
variable {P:Program} {W:World} {t e:TypeId} {α:Type}
end
def xh (P:Program) (T n:Nat) (k:IntKind):Bool:=match P.underlying T with
  | some (.array m e)=>Nat.beq m n && (match P.underlying e with | some (.int q)=>decide (q = k) | _=>false) && (P.info? e).isSome && Nat.beq (P.cellsOf e) 1 && !P.eqGuardType P.depth T
  | _=>false
class NY (P:Program) (T:TypeId) (n:outParam Nat) (k:outParam IntKind):Prop where
  ok:xh P T n k = true
theorem NY.get {P:Program} {T n:Nat} {k:IntKind} (h:xh P T n k = true):∃e i,P.underlying T = some (.array n e)∧P.underlying e = some (.int k)∧P.info? e = some i∧P.cellsOf e = 1∧P.eqGuardType P.depth T = false:=by
  unfold xh at h
  split at h
  · rename_i m e hu
    simp only [Bool.and_eq_true,Bool.not_eq_true'] at h
    obtain ⟨⟨⟨⟨h1,h2⟩,h3⟩,h4⟩,h5⟩:=h
    have h1:=Nat.eq_of_beq_eq_true h1
    subst h1
    obtain ⟨i,hi⟩:=Option.isSome_iff_exists.1 h3
    split at h2
    · rename_i q hq
      have:q = k:=by simpa using h2
      subst this
      exact ⟨e,i,hu,hq,hi,Nat.eq_of_beq_eq_true h4,h5⟩
    · cases h2
  · cases h
section
variable {P:Program} {N:Nat} {c:Cx} {F:dB} {H:List aZ} {d:Option Tmp} {ty:TypeId} {ps:String} {af:Array Edge} {g:Option (Nat × Bool)}
end
end Go.Bw
namespace Go.Bw
open Go Go.RowKit
section rules
variable {P:Program} {N:Nat} {c:Cx} {D:List Deferred} {Q:Exit→Act→World→Prop} {F:dB} {H:List aZ} {d:Option Tmp} {ty:TypeId} {ps:String} {af:Array Edge} {g:Option (Nat × Bool)} {α β γ:Type}
theorem rW {z:Value} (hz:z.cells = #[z]) (n:Nat):(Builtin.zeroCells z.cells n).toList = List.replicate n z:=by
  rw [hz]
  simp [Builtin.zeroCells]
  apply List.ext_getElem
  · simp
  · intro i h1 h2
    simp [Nat.mod_one]
abbrev Ga:=Option (Nat × List Value × List Nat × (World→Prop))
def Hh:Ga→Value
  | none=>.pointer none
  | some y=>Ptr y.1 0
def Hj (T:Nat):Ga→List aZ
  | none=>[]
  | some y=>[.cells y.1 T y.2.1, .ext y.2.2.1 y.2.2.2]
def Hi (L:aJ α) (o:Option α):Ga→Prop
  | none=>o = none
  | some y=>∃p,o = some p∧L.rep (Hs [.ext y.2.2.1 y.2.2.2]) y.2.1 p
theorem Fn.map {P:Program} {f:Nat} {args:List Value} {pre:World→Prop} {oh:List aZ} {p:α→Prop} {fv:α→Value} {fH:α→List aZ} {q:β→Prop} {gv:β→Value} {gH:β→List aZ}
    (h:Fn P f args pre oh p fv fH) (m:∀x,p x→∃y,q y∧fv x = gv y∧fH x = gH y):Fn P f args pre oh q gv gH:=by
  refine ⟨h.enter,fun w hw hp cs=>?_⟩
  obtain ⟨e,w',fr,⟨x,px,he,hs,hh⟩,more⟩:=h.calls w hw hp cs
  obtain ⟨y,qy,e1,e2⟩:=m x px
  exact ⟨e,w',fr,⟨y,qy,he.trans (by rw [e1]),hs,by rw [← e2]; exact hh⟩,more⟩
theorem GN.nil {P:Program} {f:Nat} {args:List Value} {pre:World→Prop} {L:aJ α} {o:Option α} {T:Nat} {g:Value→Value} (h:Fn P f args pre [] (Hi L o) (fun x=>g (Hh x)) (Hj T)) (ho:o = none) :
    Fn (α:=Unit) P f args pre [] (fun _=>True) (fun _=>g (.pointer none)) (fun _=>[]):=
  h.map fun x hx=>by
    match x,hx with
    | Option.none,_=>exact ⟨(),trivial,rfl,rfl⟩
    | Option.some y,⟨p,hp,_⟩=>rw [ho] at hp; cases hp
theorem GN.some {P:Program} {f:Nat} {args:List Value} {pre:World→Prop} {L:aJ α} {o:Option α} {a:α} {T:Nat} {g:Value→Value} (h:Fn P f args pre [] (Hi L o) (fun x=>g (Hh x)) (Hj T)) (ho:o = Option.some a) :
    Fn (α:=Nat × List Value × List Nat × (World→Prop)) P f args pre [] (fun y=>L.rep (Hs [.ext y.2.2.1 y.2.2.2]) y.2.1 a) (fun y=>g (Ptr y.1 0)) (fun y=>[.cells y.1 T y.2.1, .ext y.2.2.1 y.2.2.2]):=
  h.map fun x hx=>by
    match x,hx with
    | Option.none,hx=>have:o = none:=hx; rw [ho] at this; cases this
    | Option.some y,⟨p,hp,hr⟩=>rw [ho] at hp; cases hp; exact ⟨y,hr,rfl,rfl⟩
end rules
end Go.Bw
namespace Go.Bw
open Go
universe u
theorem rf {α:Sort u} {a:α}:a = a:=rfl
abbrev A (c:List Value):Value:=.agg c.toArray
abbrev Vs:=List Value
class QZ (P:Program) (t:TypeId):Prop where
  ok:P.underlying t = some .string
def look {α:Type}:List (Nat × α)→Nat→Option α
  | [],_=>none
  | (k,v)::r,d=>bif Nat.beq k d then some v else look r d
def Og:IntKind→Nat
  | .i8=>0 | .i16=>1 | .i32=>2 | .i64=>3 | .u8=>4 | .u16=>5 | .u32=>6 | .u64=>7
def Gr (k l:IntKind):Bool:=Nat.beq (Og k) (Og l)
theorem Ak {k l:IntKind} (h:Gr k l = true):k = l:=by cases k <;> cases l <;> first | rfl | (exact absurd h (by decide))
structure Tb where
  fl:List (Nat × List (Nat × Nat))
  ik:List (Nat × IntKind)
def A7 (P:Program) (T:Tb):Bool:=
  (T.fl.all fun p=>p.2.all fun q=>uu P p.1 q.1 q.2) && T.ik.all fun p=>match P.underlying p.1 with | some (.int k)=>Gr k p.2 | _=>false
class v5 (P:Program) (T:outParam Tb):Prop where
  ok:A7 P T = true
theorem qZ {α:Type}:∀{l:List (Nat × α)} {d:Nat} {v:α},look l d = some v→(d,v) ∈ l:=by
  intro l
  induction l with
  | nil=>intro d v h; cases h
  | cons p r ih =>
    intro d v h
    obtain ⟨k,u⟩:=p
    simp only [look] at h
    by_cases e:k = d
    · subst e; rw [Nat.beq_refl] at h; simp at h; subst h; simp
    · rw [kU e] at h; simp at h; exact List.mem_cons_of_mem _ (ih h)
def Tb.off (T:Tb) (s f:Nat):Option Nat:=match look T.fl s with
  | some l=>look l f
  | none=>none
def Tb.int (T:Tb) (t:Nat):Option IntKind:=look T.ik t
theorem v5.Qv {P:Program} {T:Tb} (h:v5 P T) {s f o:Nat} (e:T.off s f = some o):gU P s f o:=by
  have h:=h.ok
  unfold A7 at h
  rw [Bool.and_eq_true] at h
  unfold Tb.off at e
  split at e
  · rename_i l h1
    exact ⟨List.all_eq_true.1 (List.all_eq_true.1 h.1 _ (qZ h1)) _ (qZ e)⟩
  · cases e
theorem v5.ty {P:Program} {T:Tb} (h:v5 P T) {t:Nat} {k:IntKind} (e:T.int t = some k):v7 P t k:=by
  have h:=h.ok
  unfold A7 at h
  rw [Bool.and_eq_true] at h
  have h2:=List.all_eq_true.1 h.2 _ (qZ e)
  dsimp only at h2
  split at h2
  · rename_i k' e2
    rw [Ak h2] at e2; exact ⟨e2⟩
  · cases h2
def sint (o:BinOp) (k:IntKind) (a b:Int):Option Value:=match o with
  | .add=>some (.int k (k.wrap (a + b)))
  | .sub=>some (.int k (k.wrap (a - b)))
  | .mul=>some (.int k (k.wrap (a * b)))
  | .eql=>some (.bool (a == b))
  | .neq=>some (.bool (a != b))
  | .lss=>some (.bool (decide (a < b)))
  | .leq=>some (.bool (decide (a ≤ b)))
  | .gtr=>some (.bool (decide (b < a)))
  | .geq=>some (.bool (decide (b ≤ a)))
  | _=>none
def sv (T:Tb) (F:dB):Op→Option Value
  | .move x=>ev F x
  | .assign x=>ev F x
  | .nilCheck x=>match ev F x with
    | some (.pointer (some a))=>some (.pointer (some a))
    | _=>none
  | .unOp .not _ x=>match ev F x with
    | some (.bool b)=>some (.bool (!b))
    | _=>none
  | .unOp .neg _ x=>match ev F x with
    | some (.int k a)=>some (.int k (k.wrap (0 - a)))
    | _=>none
  | .binOp o _ x y _=>match ev F x with
    | some (.int k a)=>match ev F y with
      | some (.int l b)=>bif Gr k l then sint o k a b else none
      | _=>none
    | _=>none
  | .convert S t x=>match ev F x with
    | some (.int k a)=>match T.int S with
      | some l=>bif Gr l k then (match T.int t with
        | some k'=>some (.int k' (k'.wrap a))
        | none=>none) else none
      | none=>none
    | _=>none
  | .extract x i=>match ev F x with
    | some (.tuple vs)=>vs.toList[i]?
    | _=>none
  | .fieldAddr s x f=>match ev F x with
    | some (.pointer (some ⟨b,off,none⟩))=>match T.off s f with
      | some fo=>some (Ptr b (off + fo))
      | none=>none
    | _=>none
  | .makeFunc fn first cap=>match first.toList with
    | []=>match qw F cap.toList with
      | some vs=>some (.func fn #[] vs.toArray)
      | none=>none
    | _=>none
  | _=>none
theorem zL {P:Program} {T:Tb} [hT:v5 P T] {N:Nat} {c:Cx} {F:dB} {H:List aZ} {op:Op} {v:Value} {d:Option Tmp} {ty:TypeId} {ps:String} {af:Array Edge} {g:Option (Nat × Bool)}
    (h:sv T F op = some v):VS P N c ⟨d,op,ty,ps,af,g⟩ F H v:=by
  unfold sv at h
  split at h
  · exact ah h
  · exact aC h
  · split at h
    · rename_i a e; obtain rfl:=Option.some.inj h; exact qm e
    · cases h
  · split at h
    · rename_i b e; obtain rfl:=Option.some.inj h; exact eW e
    · cases h
  · split at h
    · rename_i e; obtain rfl:=Option.some.inj h; exact FX e rfl
    · cases h
  · split at h
    · rename_i o _ x y _ k a e
      split at h
      · rename_i l b e2
        cases hb:Gr k l with
        | false=>rw [hb] at h; cases h
        | true =>
          rw [hb] at h
          obtain rfl:=Ak hb
          simp only [cond_true] at h
          unfold sint at h
          split at h
          · obtain rfl:=Option.some.inj h; exact p5 e e2 rfl
          · obtain rfl:=Option.some.inj h; exact oR e e2 rfl
          · obtain rfl:=Option.some.inj h; exact xw e e2 rfl
          · obtain rfl:=Option.some.inj h; exact dM e e2
          · obtain rfl:=Option.some.inj h; exact j5 e e2
          · obtain rfl:=Option.some.inj h; exact nv e e2
          · obtain rfl:=Option.some.inj h; exact nw e e2
          · obtain rfl:=Option.some.inj h; exact kW e e2
          · obtain rfl:=Option.some.inj h; exact lF e e2
          · cases h
      · cases h
    · cases h
  · split at h
    · rename_i S t x k a e
      split at h
      · rename_i l e1
        cases hb:Gr l k with
        | false=>rw [hb] at h; cases h
        | true =>
          rw [hb] at h
          obtain rfl:=Ak hb
          simp only [cond_true] at h
          split at h
          · rename_i k' e2
            obtain rfl:=Option.some.inj h
            haveI:=hT.ty e1
            haveI:=hT.ty e2
            exact lq e rfl
          · cases h
      · cases h
    · cases h
  · split at h
    · rename_i vs e
      exact bt (vs:=vs.toList) e h
    · cases h
  · split at h
    · rename_i e
      split at h
      · rename_i fo e1
        obtain rfl:=Option.some.inj h
        haveI:=hT.Qv e1
        exact eX e
      · cases h
    · cases h
  · rename_i fn first cap
    split at h
    · rename_i e
      split at h
      · rename_i e1
        obtain rfl:=Option.some.inj h
        obtain ⟨l⟩:=first
        obtain rfl:l = []:=e
        exact qn (cap:=cap.toList) e1
      · cases h
    · cases h
  · cases h
inductive Kf where
  | th (y:Code)
  | tk (K:Act→World→Prop)
  | bl (id:Nat)
def dq (P:Program) (ro:Option Nat) (Q:Exit→Act→World→Prop):List Kf→Exit→Act→World→Prop
  | []=>Q
  | .th y::ks=>Exit.then (y.wpIn (FA ro) 0 P (dq P ro Q ks)) (dq P ro Q ks)
  | .tk K::ks=>Exit.then K (dq P ro Q ks)
  | .bl id::ks=>Exit.inBlock id (dq P ro Q ks)
inductive Cf where
  | C (x:Code)
  | L (ops:Array Oper) (l:List Oper)
  | X (e:Exit)
def GG (P:Program) (N:Nat) (c:Cx) (D:List Deferred) (Q:Exit→Act→World→Prop) (ks:List Kf) (F:dB) (H:List aZ):Cf→Prop
  | .C x=>WP P N c D x (dq P c.ro Q ks) F H
  | .L ops l=>WL P N c D ops (dq P c.ro Q ks) l F H
  | .X e=>WQ N c D (dq P c.ro Q ks) e F H
def s1 (T:Tb) (N:Nat):Cf→List Kf→dB→Option (Cf × List Kf × dB)
  | .C x,ks,F=>match x with
    | .seq x y=>some (.C x, .th y::ks,F)
    | .block id x=>some (.C x, .bl id::ks,F)
    | .region _ ops false=>some (.L ops ops.toList,ks,F)
    | .skip=>some (.X .normal,ks,F)
    | .label _=>some (.X .normal,ks,F)
    | .ret=>some (.X .ret,ks,F)
    | .exit id=>some (.X (.exit id),ks,F)
    | _=>none
  | .L ops l,ks,F=>match l with
    | []=>some (.X .normal,ks,F)
    | ⟨some d,op,_,_,_,none⟩::r=>match sv T F op with
      | some v=>bif Nat.blt d N then some (.L ops r,ks,(d,v)::F) else none
      | none=>none
    | _=>none
  | .X e,ks,F=>match e,ks with
    | .normal, .th y::ks=>some (.C y,ks,F)
    | .normal, .bl _::ks=>some (.X .normal,ks,F)
    | .ret, .th _::ks=>some (.X .ret,ks,F)
    | .ret, .tk _::ks=>some (.X .ret,ks,F)
    | .ret, .bl _::ks=>some (.X .ret,ks,F)
    | .exit i, .th _::ks=>some (.X (.exit i),ks,F)
    | .exit i, .tk _::ks=>some (.X (.exit i),ks,F)
    | .exit i, .bl k::ks=>bif Nat.beq i k then some (.X .normal,ks,F) else some (.X (.exit i),ks,F)
    | _,_=>none
def sp (T:Tb) (N:Nat):Nat→Cf→List Kf→dB→Option (Cf × List Kf × dB)
  | 0,cf,ks,F=>some (cf,ks,F)
  | n + 1,cf,ks,F=>match s1 T N cf ks F with
    | some (cf,ks,F)=>sp T N n cf ks F
    | none=>none
section
variable {P:Program} {T:Tb} [hT:v5 P T] {N:Nat} {c:Cx} {D:List Deferred} {Q:Exit→Act→World→Prop} {ks ks' : List Kf} {F F' : dB} {H:List aZ} {cf BG:Cf}
theorem G8 (h:s1 T N cf ks F = some (BG,ks',F')) (g:GG P N c D Q ks' F' H BG):GG P N c D Q ks F H cf:=by
  unfold s1 at h
  split at h
  · split at h
    all_goals first
      | (cases h; done)
      | skip
    · cases h; exact aS g
    · cases h; exact nt g
    · cases h; exact fun a w hst=>wpIn_region_lit (l:=Array.toList _) (g a w hst)
    · cases h; exact fV g
    · cases h; exact Bl g
    · cases h; exact fJ g
    · cases h; exact ya g
  · split at h
    · cases h; exact bh g
    · split at h
      · rename_i d op _ _ _ _ _ v hv
        cases hd:Nat.blt d N with
        | false=>rw [hd] at h; cases h
        | true =>
          rw [hd] at h
          cases h
          exact ag hd (zL hv) g
      · cases h
    · cases h
  · split at h
    · cases h; exact aI g
    · cases h; exact rO g
    · cases h; exact dK g
    · cases h; exact dK g
    · cases h; exact mI g
    · cases h; exact kz g
    · cases h; exact kz g
    · rename_i i k ks
      cases hb:Nat.beq i k with
      | true =>
        rw [hb] at h; cases h
        obtain rfl:=Nat.eq_of_beq_eq_true hb
        exact ob g
      | false=>rw [hb] at h; cases h; exact sG hb g
    · cases h
theorem xL:∀{n:Nat} {cf:Cf} {ks:List Kf} {F:dB},sp T N n cf ks F = some (BG,ks',F')→GG P N c D Q ks' F' H BG→GG P N c D Q ks F H cf
  | 0,_,_,_,h,g=>by cases h; exact g
  | n + 1,_,_,_,h,g=>by
    simp only [sp] at h
    split at h
    · rename_i e; exact G8 e (xL h g)
    · cases h
class QF (P:Program) (ro:Option Nat) (Q:Exit→Act→World→Prop) (ks:outParam (List Kf)) (Q0:outParam (Exit→Act→World→Prop)):Prop where
  ok:Q = dq P ro Q0 ks
instance (priority:=100) OX (P ro Q ks):QF P ro (dq P ro Q ks) ks Q:=⟨rfl⟩
instance (priority:=60) OY (P ro id Q ks Q0) [h:QF P ro Q ks Q0]:QF P ro (Exit.inBlock id Q) (.bl id::ks) Q0:=⟨by rw [h.ok]; rfl⟩
instance (priority:=50) OV (P ro K Q ks Q0) [h:QF P ro Q ks Q0]:QF P ro (Exit.then K Q) (.tk K::ks) Q0:=⟨by rw [h.ok]; rfl⟩
instance (priority:=10) NZ (P ro Q):QF P ro Q [] Q:=⟨rfl⟩
theorem SC {x:Code} {Q0:Exit→Act→World→Prop} [q:QF P c.ro Q ks Q0] (n:Nat) (h:sp T N n (.C x) ks F = some (BG,ks',F')) (g:GG P N c D Q0 ks' F' H BG):WP P N c D x Q F H:=by
  have:=xL (H:=H) (D:=D) h g
  rw [q.ok]; exact this
theorem SL {ops:Array Oper} {l:List Oper} {Q0:Exit→Act→World→Prop} [q:QF P c.ro Q ks Q0] (n:Nat) (h:sp T N n (.L ops l) ks F = some (BG,ks',F')) (g:GG P N c D Q0 ks' F' H BG):WL P N c D ops Q l F H:=by
  have:=xL (H:=H) (D:=D) h g
  rw [q.ok]; exact this
class QX (Q:Exit→Act→World→Prop) (ro:Option Nat) (P:outParam Program) (ks:outParam (List Kf)) (Q0:outParam (Exit→Act→World→Prop)):Prop where
  ok:Q = dq P ro Q0 ks
instance (priority:=100) OU (P ro Q ks):QX (dq P ro Q ks) ro P ks Q:=⟨rfl⟩
instance (priority:=60) OT (P ro y Q ks Q0) [h:QX Q ro P ks Q0]:QX (Exit.then (Code.wpIn (FA ro) 0 P y Q) Q) ro P (.th y::ks) Q0:=⟨by rw [h.ok]; rfl⟩
theorem SX {e:Exit} {Q0:Exit→Act→World→Prop} [q:QX Q c.ro P ks Q0] (n:Nat) (h:sp T N n (.X e) ks F = some (BG,ks',F')) (g:GG P N c D Q0 ks' F' H BG):WQ N c D Q e F H:=by
  have:=xL (P:=P) (H:=H) (D:=D) h g
  rw [q.ok]; exact this
end
theorem sj {α:Type} {a b:α} (h:some a = some b):a = b:=Option.some.inj h
theorem mo {α:Type} {L:aJ α} {A B:World→Prop} {cs:Vs} {x:α} [zm B A] (h:L.rep A cs x):L.rep B cs x:=aJ.mono _ dk h
theorem fl {α:Type} {L:aJ α} [bg L] {J:World→Prop} {x:α}:L.rep J (L.enc x) x:=bg.iff.2 rfl
def qW:List Nat→Bool
  | []=>true
  | k::r=>!(r.any (Nat.beq k)) && qW r
theorem sY:∀{l:List Nat},qW l = true→l.Nodup
  | [],_=>.nil
  | k::r,h=>by
    simp only [qW,Bool.and_eq_true,Bool.not_eq_true'] at h
    refine List.nodup_cons.2 ⟨fun hm=>?_,sY h.2⟩
    have:=List.any_eq_false.1 h.1 k hm
    rw [Nat.beq_refl] at this; exact this rfl
def sW (H:List aZ) (ks:List Nat):Option (List aZ):=bif qW ks then pick H ks else none
theorem kN {H R:List aZ} {ks:List Nat} (h:sW H ks = some R):pick H ks = some R∧ks.Nodup:=by
  unfold sW at h
  cases hb:qW ks with
  | true=>rw [hb] at h; exact ⟨h,sY hb⟩
  | false=>rw [hb] at h; cases h
def yz (F:dB):dB→Option dB
  | []=>some []
  | (k,_)::r=>match lk F k with
    | some v=>match yz F r with
      | some l=>some ((k,v)::l)
      | none=>none
    | none=>none
theorem qC {F:dB}:∀{I:dB},yz F I = some I→Sub I F
  | [],_=>trivial
  | (k,u)::r,h=>by
    simp only [yz] at h
    split at h
    · rename_i v hv
      split at h
      · rename_i l hl
        simp only [Option.some.injEq,List.cons.injEq,Prod.mk.injEq,true_and] at h
        obtain ⟨h1,h2⟩:=h
        subst h1; subst h2
        exact ⟨hv,qC hl⟩
      · cases h
    · cases h
def q9 (F:dB):List Nat→Option dB
  | []=>some []
  | k::r=>match lk F k with
    | some v=>match q9 F r with
      | some l=>some ((k,v)::l)
      | none=>none
    | none=>none
theorem m9 {F:dB}:∀{sl:List Nat} {K:dB},q9 F sl = some K→sJ F sl K
  | [],K,h=>by obtain rfl:=Option.some.inj h; exact .nil
  | k::r,K,h=>by
    simp only [q9] at h
    split at h
    · rename_i v hv
      split at h
      · rename_i l hl
        obtain rfl:=Option.some.inj h
        exact .cons hv (m9 hl)
      · cases h
    · cases h
section
variable {P:Program} {N:Nat} {c:Cx} {D:List Deferred} {Q:Exit→Act→World→Prop} {F:dB} {H:List aZ} {d:Tmp} {op:Op} {ty:TypeId} {ps:String} {af:Array Edge} {g:Option (Nat × Bool)} {ops:Array Oper} {rest:List Oper} {α β:Type}
theorem W0 {H' : List aZ} (h:RX (α:=Unit) P N c ⟨none,op,ty,ps,af,none⟩ F H (fun _=>True) (fun _=>undef) (fun _=>H')) (k:WL P N c D ops Q rest F H'):WL P N c D ops Q (⟨none,op,ty,ps,af,none⟩::rest) F H:=fq h fun _ _=>k
theorem W1 {fv:α→Value} {fH:α→List aZ} (hd:Nat.blt d N = true) (h:RX P N c ⟨some d,op,ty,ps,af,none⟩ F H (fun _=>True) fv fH) (k:∀x,WL P N c D ops Q rest ((d,fv x)::F) (fH x)):WL P N c D ops Q (⟨some d,op,ty,ps,af,none⟩::rest) F H:=cG hd h fun x _=>k x
theorem CV {args:List Operand} {ats:Array TypeId} {f:Nat} {vs:List Value} {v:Value} {pre:World→Prop} (hc:qM P f vs pre v) (hd:Nat.blt d N = true) (ha:qw F args = some vs) [q:Kn c H pre] (k:WL P N c D ops Q rest ((d,v)::F) H) :
    WL P N c D ops Q (⟨some d, .call ⟨.value (.func f),args.toArray,ats⟩,ty,ps,af,none⟩::rest) F H:=ag hd (bD hc ha q.ok) k
theorem CB {args:List Operand} {ats:Array TypeId} {f:Nat} {vs:List Value} {K:World→Prop} {p:(World→Prop)→Value→Prop} (hc:p9 P f vs K p) (hd:Nat.blt d N = true) (ha:qw F args = some vs) [q:Kn c H K]
    (k:∀v bs J,p (Hs [.ext bs J]) v→WL P N c D ops Q rest ((d,v)::F) (.ext bs J::H)) :
    WL P N c D ops Q (⟨some d, .call ⟨.value (.func f),args.toArray,ats⟩,ty,ps,af,none⟩::rest) F H:=cG hd (dW hc ha) fun x hp=>k x.1 x.2.1 x.2.2 hp
theorem eS {ρ:Type} {m1 m2:Option ρ} {r:ρ} {x:Operand} {y z:Code} {t:Bool} (h:cn t m1 m2 = some r) (hc:ev F x = some (.bool t)) (h1:t = true→m1 = some r→WP P N c D y Q F H) (h0:t = false→m2 = some r→WP P N c D z Q F H):WP P N c D (.cond x y z) Q F H:=
  iq hc (fun e=>h1 e (oH e h)) (fun e=>h0 e (oI e h))
structure J3 (n o:Nat) (cs vs cc:Vs):Prop where
  eq:bP cs o vs = cc
  lv:vs.length = n
  le:o + n ≤ cs.length
  one:ju vs
theorem zu {L:aJ α} {M:aJ β} {o:Nat} {gg:α→β} {s:α→β→α} {cs vs:Vs} {x x' : α} {v:β} {C:World→Prop} (p:aN L M o gg s) (r:L.rep C cs x) (rv:M.rep C vs v) (e:x' = s x v):∃cc,J3 M.n o cs vs cc∧L.rep C cc x':=by
  subst e; exact ⟨_,⟨rfl,M.len rv,by rw [L.len r]; exact p.le,M.one rv⟩,p.set r rv⟩
theorem zD {o n m b t T:Nat} {y z:Operand} {val:Value} {cs cs' vs:Vs} {H' : List aZ} {d:Option Tmp} (q:J3 n o cs vs cs') (hx:ev F y = some (Ptr b o)) (hz:ev F z = some val) (hv:val.cells.toList = vs) [lG H b T cs] [BL P t m] (hn:n = m) [sH H b cs' H'] :
    RX (α:=Unit) P N c ⟨d, .store t y z,ty,ps,af,g⟩ F H (fun _=>True) (fun _=>undef) (fun _=>H'):=by subst hn; exact nB hx hz hv q.lv q.le q.one q.eq
theorem ST {L:aJ α} {M:aJ β} {o m b t T:Nat} {gg:α→β} {s:α→β→α} {cs vs:Vs} {x:α} (x' : α) {v:β} {C:World→Prop} {y z:Operand} {val:Value} {H' : Vs→List aZ} (p:aN L M o gg s) (r:L.rep C cs x) (rv:M.rep C vs v) (e:x' = s x v)
    (hx:ev F y = some (Ptr b o)) (hz:ev F z = some val) (hv:val.cells.toList = vs) [lG H b T cs] [BL P t m] (hn:M.n = m) [S:∀cc,sH H b cc (H' cc)] (k:∀cc,L.rep C cc x'→WL P N c D ops Q rest F (H' cc)) :
    WL P N c D ops Q (⟨none, .store t y z,ty,ps,af,none⟩::rest) F H:=by
  obtain ⟨cc,q,f⟩:=zu p r rv e
  exact fq (zD q hx hz hv hn) fun _ _=>k cc f
theorem rn:k6 P F H [] []:=.nil
theorem rt {t:Nat} {v:Value} {rs:List ResultVar} {vs:Vs} (hv:lk F t = some v) (h:k6 P F H rs vs):k6 P F H (.tmp t::rs) (v::vs):=.tmp hv h
theorem ra {t ty b T n:Nat} {cs:Vs} {rs:List ResultVar} {vs:Vs} (hv:lk F t = some (Ptr b 0)) [hr:lG H b T cs] [ht:ja P ty n] (hl:cs.length = n) (h:k6 P F H rs vs):k6 P F H (.cell t ty::rs) (.agg cs.toArray::vs):=.agg hv hr ht hl h
theorem ro {t ty b T:Nat} {v:Value} {cs:Vs} {rs:List ResultVar} {vs:Vs} (hv:lk F t = some (Ptr b 0)) [hr:lG H b T cs] [ht:kB P ty] (hl:cs = [v]) (h:k6 P F H rs vs):k6 P F H (.cell t ty::rs) (v::vs):=.one hv hr ht hl h
theorem RV {fn:Func} {rs:List ResultVar} {vs:Vs} {v:Value} (hf:fn.results.toList = rs) (hr:k6 P F H rs vs) (hv:qS vs = v):WQ N c [] (Post P c fn (fun _:Unit=>True) (fun _=>v) (fun _=>[])) .ret F H:=bW () hf hr trivial hv (ks:=[]) rfl .nil
theorem k7 {fn:Func} {rs:List ResultVar} {vs:Vs} {R:List aZ} {p:Value × List Nat × (World→Prop)→Prop} (ks:List Nat) (hk:sW H ks = some R) (hf:fn.results.toList = rs) (hr:k6 P F H rs vs) (hp:p (qS vs,bI R,Hs R)) :
    WQ N c [] (Post P c fn p (fun x=>x.1) (fun x=>[.ext x.2.1 x.2.2])) .ret F H:=fun a w hst=>by
  show LeavesInM (FA none) 0 P fn a.tmps _ a.defers .returning w
  rw [hst.df]
  obtain ⟨h1,h2⟩:=kN hk
  exact ⟨_,qc hf hst.fr hst.hp hr,(qS vs,bI R,Hs R),hp,rfl,hst.si,Bb (H':=[]) (by rw [List.append_nil]; exact hst.hp.pick h1 h2)⟩
theorem LO {x:Code} (sl ks:List Nat) (I:Nat × β→dB) (J:Nat × β→List aZ) (p:Nat × β→Prop) (i0:Nat × β) (Cz:p i0) {K:dB} (hK:q9 F sl = some K) (hs:yz F (I i0) = some (I i0)) (hk:sW H ks = some (J i0))
    (hb:∀m y,p (m,y)→WP P N c D x (ym N c D Q sl K I J p (fun z=>z.1) (m,y)) (I (m,y)++K) (J (m,y))):WP P N c D (.loop x) Q F H:=
  vX sl (m9 hK) I J p (fun z=>z.1) i0 Cz (qC hs) (kN hk).1 (kN hk).2 fun i hi=>hb i.1 i.2 hi
theorem LN {K:dB} {sl:List Nat} {I:Nat × β→dB} {J:Nat × β→List aZ} {p:Nat × β→Prop} {m:Nat} {y0:β} (ks:List Nat) (y:β) (hp:p (m,y)) (hs:yz F (I (m,y)) = some (I (m,y))) (hl:q9 F sl = some K) (hk:sW H ks = some (J (m,y))) :
    WQ N c D (ym N c D Q sl K I J p (fun z=>z.1) (m + 1,y0)) .normal F H:=vV (m,y) (Nat.lt_succ_self _) hp (qC hs) (m9 hl) (kN hk).1 (kN hk).2
theorem CU {x y:Code} (sl:List Nat) {K:dB} (hK:q9 F sl = some K) (I:α→dB) (J:α→List aZ) (p:α→Prop) (h1:WP P N c D x (De N c D Q sl K I J p) F H) (h2:∀i,p i→WP P N c D y Q (I i++K) (J i)):WP P N c D (.seq x y) Q F H:=yb sl (m9 hK) I J p h1 h2
theorem CE {K:dB} {sl:List Nat} {I:α→dB} {J:α→List aZ} {p:α→Prop} (ks:List Nat) (i:α) (hp:p i) (hs:yz F (I i) = some (I i)) (hl:q9 F sl = some K) (hk:sW H ks = some (J i)):WQ N c D (De N c D Q sl K I J p) .normal F H:=uF i hp (qC hs) (m9 hl) (kN hk).1 (kN hk).2
end
def sn (T:Tb) (N:Nat) (ops:Array Oper):Nat→List Fl→dB→Option (List Fl × dB)
  | 0,l,F=>some (l,F)
  | n + 1,l,F=>match l with
    | (i,ks)::r=>match ops[i]? with
      | some ⟨some d,op,_,_,_,none⟩=>match sv T (jf F ks) op with
        | some v=>bif Nat.blt d N then sn T N ops n r ((d,v)::F) else none
        | none=>none
      | _=>none
    | []=>none
def sr (T:Tb) (ops:Array Oper) (F:dB):Nat→List Fl→Option (List Value × List Fl)
  | 0,l=>some ([],l)
  | n + 1,l=>match l with
    | (i,ks)::r=>match ops[i]? with
      | some ⟨some _,op,_,_,_,none⟩=>match sv T (jf F ks) op with
        | some v=>match sr T ops F n r with
          | some (vs,l')=>some (v::vs,l')
          | none=>none
        | none=>none
      | _=>none
    | []=>none
def sk (ops:Array Oper) (F:dB):Nat→List Fl→Option (List Value)
  | 0,_=>some []
  | n + 1,l=>match l with
    | (i,_)::r=>match ops[i]? with
      | some ⟨some d,_,_,_,_,none⟩=>match lk F d with
        | some v=>match sk ops F n r with
          | some vs=>some (v::vs)
          | none=>none
        | none=>none
      | _=>none
    | []=>none
section
variable {P:Program} {T:Tb} [hT:v5 P T] {N:Nat} {c:Cx} {D:List Deferred} {ops:Array Oper} {Q:Exit→Act→World→Prop} {F F' : dB} {H:List aZ} {l l' : List Fl}
theorem NS {K:dB→Prop} (n:Nat) (h:sn T N ops n l F = some (l',F')) (k:iN P N c ops H l' F' K):iN P N c ops H l F K:=by
  induction n generalizing l F with
  | zero=>cases h; exact k
  | succ n ih =>
    simp only [sn] at h
    split at h
    · rename_i i ks r
      split at h
      · rename_i d op _ _ _ ho
        split at h
        · rename_i v hv
          cases hd:Nat.blt d N with
          | false=>rw [hd] at h; cases h
          | true =>
            rw [hd] at h
            exact eF ho hd (nT rfl (zL hv)) (ih h)
        · cases h
      · cases h
    · cases h
theorem NE {K:dB→Prop} (n:Nat) (h:sn T N ops n l F = some ([],F')) (k:K F'):iN P N c ops H l F K:=NS n h k
theorem J4 {vs:List Value} (n:Nat) (h:sr T ops F n l = some (vs,l')) (h2:sk ops F n l = some vs) (k:oS P N c ops F H l'):oS P N c ops F H l:=by
  induction n generalizing l vs with
  | zero=>simp only [sr,Option.some.injEq,Prod.mk.injEq] at h; rw [h.2]; exact k
  | succ n ih =>
    simp only [sr] at h
    simp only [sk] at h2
    split at h
    · rename_i i ks r
      split at h
      · rename_i d op _ _ _ ho
        dsimp only at h2
        rw [ho] at h2
        dsimp only at h2
        split at h
        · rename_i v hv
          split at h
          · rename_i us l2 h3
            simp only [Option.some.injEq,Prod.mk.injEq] at h
            obtain ⟨rfl,rfl⟩:=h
            split at h2
            · rename_i u hu
              split at h2
              · rename_i ws h4
                simp only [Option.some.injEq,List.cons.injEq] at h2
                obtain ⟨rfl,rfl⟩:=h2
                exact iE ho hu (nT rfl (zL hv)) (ih h3 h4)
              · cases h2
            · cases h2
          · cases h
        · cases h
      · cases h
    · cases h
theorem RE {vs:List Value} (n:Nat) (h:sr T ops F n l = some (vs,[])) (h2:sk ops F n l = some vs):oS P N c ops F H l:=J4 n h h2 trivial
end
section
variable {P:Program} {N:Nat} {c:Cx} {D:List Deferred} {ops:Array Oper} {Q:Exit→Act→World→Prop} {F:dB} {H:List aZ} {i:Nat} {ks:List Nat} {q:List Fl} {d:Nat} {v v' : Value} {op:Op} {ty:TypeId} {ps:String} {af:Array Edge} {g:Option (Nat × Bool)} {α:Type}
theorem NV {K:dB→Prop} (ho:ops[i]? = some ⟨some d,op,ty,ps,af,none⟩) (hN:Nat.blt d N = true) (hv:VS P N c ⟨some d,op,ty,ps,af,none⟩ (jf F ks) H v) (hr:iN P N c ops H q ((d,v)::F) K):iN P N c ops H ((i,ks)::q) F K:=eF ho hN (nT rfl hv) hr
theorem NC {K:dB→Prop} {args:List Operand} {ats:Array TypeId} {f:Nat} {vs:List Value} {pre:World→Prop} (ho:ops[i]? = some ⟨some d, .call ⟨.value (.func f),args.toArray,ats⟩,ty,ps,af,none⟩) (hN:Nat.blt d N = true) (hc:qM P f vs pre v) (ha:qw (jf F ks) args = some vs) [k:Kn c H pre] (hr:iN P N c ops H q ((d,v)::F) K):iN P N c ops H ((i,ks)::q) F K:=eF ho hN (nT rfl (bD hc ha k.ok)) hr
theorem NG {K:dB→Prop} {b:Bool} (ho:ops[i]? = some ⟨some d,op,ty,ps,af,g⟩) (hN:Nat.blt d N = true) (hg:Gd ops (jf F ks) g b) (hv:b = true→VS P N c ⟨some d,op,ty,ps,af,g⟩ (jf F ks) H v) (hr:iN P N c ops H q ((d,bif b then v else undef)::F) K):iN P N c ops H ((i,ks)::q) F K:=eF ho hN (xx hg hv) hr
theorem RO (ho:ops[i]? = some ⟨some d,op,ty,ps,af,none⟩) (hl:lk F d = some v) (hv:VS P N c ⟨some d,op,ty,ps,af,none⟩ (jf F ks) H v') (e:v' = v) (hr:oS P N c ops F H q):oS P N c ops F H ((i,ks)::q):=iE ho hl (nT rfl (rP hv e)) hr
theorem T0 {new:List Fl} {t:Tr} (h:iN P N c ops H new F fun F'=>nU P N c D ops Q t F' H):nU P N c D ops Q (.iH [] new t) F H:=⟨trivial,h⟩
theorem DJ {t:Tr} (h:nU P N c D ops Q t F H):nU P N c D ops Q (.iH [] [] t) F H:=⟨trivial,h⟩
theorem F0 {new:List Fl} (h:iN P N c ops H new F fun F'=>WQ N c D Q .normal F' H):nU P N c D ops Q (.fin [] new) F H:=⟨trivial,h⟩
theorem rT (h:WQ N c D Q .normal F H):nU P N c D ops Q (.fin [] []) F H:=⟨trivial,h⟩
theorem X1 {s:Nat} {here:Tr} {p:α→Prop} {fv:α→Value} {fH:α→List aZ} (ho:ops[s]? = some ⟨some d,op,ty,ps,af,none⟩) (hN:Nat.blt d N = true) (hv:RX P N c ⟨some d,op,ty,ps,af,none⟩ (jf F ks) H p fv fH) (h:∀x,p x→nU P N c D ops Q here ((d,fv x)::F) (fH x)):nU P N c D ops Q (.alt s ks here .no) F H:=ny ho hN (v8 rfl hv) h trivial
theorem X2 {s:Nat} {here more:Tr} {p:α→Prop} {fv:α→Value} {fH:α→List aZ} (ho:ops[s]? = some ⟨some d,op,ty,ps,af,none⟩) (hN:Nat.blt d N = true) (hv:RX P N c ⟨some d,op,ty,ps,af,none⟩ (jf F ks) H p fv fH) (h:∀x,p x→nU P N c D ops Q here ((d,fv x)::F) (fH x)) (hm:nU P N c D ops Q more F H):nU P N c D ops Q (.alt s ks here more) F H:=ny ho hN (v8 rfl hv) h hm
theorem X0 {s:Nat} {here:Tr} {fH:List aZ} (ho:ops[s]? = some ⟨none,op,ty,ps,af,none⟩) (hv:RX (α:=Unit) P N c ⟨none,op,ty,ps,af,none⟩ (jf F ks) H (fun _=>True) (fun _=>undef) (fun _=>fH)) (h:nU P N c D ops Q here F fH):nU P N c D ops Q (.alt s ks here .no) F H:=rR ho (v8 rfl hv) (fun _ _=>h) trivial
theorem XV {s:Nat} {here:Tr} (ho:ops[s]? = some ⟨some d,op,ty,ps,af,none⟩) (hN:Nat.blt d N = true) (hv:VS P N c ⟨some d,op,ty,ps,af,none⟩ (jf F ks) H v) (h:nU P N c D ops Q here ((d,v)::F) H):nU P N c D ops Q (.alt s ks here .no) F H:=ny ho hN (v8 rfl hv.rx) (fun _ _=>h) trivial
theorem GB {rest:List Oper} {j k:Nat} {want b:Bool} (hd:(ops[j]?).bind (·.dst) = some k) (hl:lk F k = some (.bool b)) (hN:Nat.blt d N = true) (hv:(b == want) = true→VS P N c ⟨some d,op,ty,ps,af,some (j,want)⟩ F H v)
    (h:WL P N c D ops Q rest ((d,bif (b == want) then v else undef)::F) H):WL P N c D ops Q (⟨some d,op,ty,ps,af,some (j,want)⟩::rest) F H:=cC (cg hd hl) hN hv h
end
theorem fo {α:Type} {P:Program} {f:Nat} {fn:Func} {code:Code} {N:Nat} {args:Vs} {K:World→Prop} [S:bF K] {p:α→Prop} {fv:α→Value} {fH:α→List aZ} (hf:P.funcs[f]? = some fn) (hname:(fn.name == "runtime.NumGoroutine") = false) (hb:fn.body = some code) (hN:fn.ntmps = N) (ha:Nat.ble args.length N = true)
    (h:∀c:Cx,(∀R,yn c R K)→c.ro = none→c.bs = []→K c.w0→WP P N c [] code (Post P c fn p fv fH) (w6 0 args) []):Fn P f args K [] p fv fH:=
  eR hf hname hb hN ha fun c dc hpre hro=>h c (jH dc hpre) hro dc hpre
end Go.Bw
namespace Go.Proofs.Ytbalnnoofdkbaaa
open Go Go.Bw
def tb:Tb:=⟨[(7,[(0,0),(1,1),(2,2),(3,3)]),(8,[(0,0),(1,1),(2,2),(3,3)]),(13,[(0,0),(1,1)]),(14,[(0,0),(1,1)]),(18,[(0,0)]),(19,[(0,0)]),(25,[(0,0),(1,1),(2,2)]),(26,[(0,0),(1,1),(2,2)]),(28,[(0,0)]),(29,[(0,0)]),(30,[(0,0)]),(31,[(0,0)]),(34,[(0,0),(1,1)]),(35,[(0,0),(1,1)]),(37,[(0,0),(1,1),(2,2),(3,4)]),(38,[(0,0),(1,1),(2,2),(3,4)]),(40,[(0,0),(1,96)]),(41,[(0,0),(1,96)]),(43,[(0,0),(1,32)]),(44,[(0,0),(1,32)]),(46,[(0,0),(1,1)]),(47,[(0,0),(1,1)]),(49,[(0,0),(1,1),(2,2),(3,4)]),(50,[(0,0),(1,1),(2,2),(3,4)]),(52,[(0,0),(1,64)]),(53,[(0,0),(1,64)]),(54,[(0,0),(1,1),(2,2),(3,3),(4,4)]),(55,[(0,0),(1,1),(2,2),(3,3),(4,4)]),(123,[(0,0),(1,1)]),(124,[(0,0),(1,1)]),(137,[(0,0)]),(138,[(0,0)]),(156,[(0,0),(1,1),(2,2),(3,3)]),(157,[(0,0),(1,1),(2,2),(3,3)]),(167,[(0,0),(1,1),(2,2),(3,3),(4,4),(5,5),(6,6),(7,7),(8,8),(9,9),(10,10)]),(168,[(0,0),(1,1),(2,2),(3,3),(4,4),(5,5),(6,6),(7,7),(8,8),(9,9),(10,10)])],[(2, .i64),(3, .i64),(5, .u8),(6, .u8),(12, .u64),(21, .i32),(23, .u32),(32, .u32),(57, .i64),(122, .u64),(161, .u8),(162, .u8),(165, .i32),(166, .i32)]⟩
instance:v5 Try.prog tb:=⟨by kernel_rfl⟩
end Go.Proofs.Ytbalnnoofdkbaaa
