/- Part 1 of what a proof leans on; pruned and shortened by a program out of longer texts. -/
import Derived.RangeFuncNested
import Derived.RangeFuncBound
import Derived.RangeFuncCalls
import Derived.RangeFuncLeaves
import Derived.WalkKit
import Derived.TacticsIn
import Derived.KernelRfl
import Derived.OrdersIn
import Derived.Laws.AppendOwn
import Derived.Laws.StructEq
import Derived.Deep.Upon
import Derived.Test.YtbalnnoofdkbaaaProg
import Derived.Laws.CopyRow
import Derived.Laws.Cover3
import Derived.LoopNIn
import Derived.Great.BuildSlice
import Derived.ArgAppend
import Derived.Maps.RangeRun
import Derived.MapKept
import Derived.Carry
import Derived.ProofKit
import Derived.OpenShut
import Derived.ShutString
import Derived.ChangeOld
import Derived.Below
import Derived.Deep.Slices
import Derived.ChangeKeysEq
import Derived.Laws.Pointers
import Derived.Lib.Tables
import Derived.RecoverIn
import Derived.WideLaws
namespace Go.Bw
open Go Go.RowKit
abbrev FA (ro:Option Nat):Fence:={ fn:=fun _=>True,depth:=none,alive:=false,round:=ro }
abbrev cC:=List (Nat × Value)
def lk:cC→Nat→Option Value
  | [],_=>none
  | (k,v)::r,d=>bif Nat.beq k d then some v else lk r d
def ev (F:cC):Operand→Option Value
  | .tmp t=>lk F t
  | .const v=>some v
  | .global g=>some (.pointer (some ⟨g,0,none⟩))
  | .func f=>some (.func (.func f) #[] #[])
def lJ (F:cC) (t:Array Value):Prop:=∀d v,lk F d = some v→t[d]? = some v
theorem bp {F:cC} {a:Act} (h:lJ F a.tmps) {x:Operand} {v:Value} (hx:ev F x = some v):a.eval x = v:=by
  cases x with
  | tmp t=>have:=h t v hx; simp [Act.eval,this]
  | const u=>exact Option.some.inj hx
  | global g=>exact Option.some.inj hx
  | func f=>exact Option.some.inj hx
def og (F:cC):List Operand→Option (List Value)
  | []=>some []
  | x::r=>match ev F x,og F r with
    | some v,some vs=>some (v::vs)
    | _,_=>none
theorem nA {F:cC} {a:Act} (h:lJ F a.tmps):∀{l:List Operand} {vs:List Value},og F l = some vs→l.map a.eval = vs:=by
  intro l
  induction l with
  | nil=>intro vs hl; exact (Option.some.inj hl)
  | cons x l ih =>
    intro vs hl
    simp only [og] at hl
    split at hl
    · rename_i v us h1 h2
      rw [← Option.some.inj hl]
      simp [bp h h1,ih h2]
    · cases hl
theorem jE {d k:Nat} (e:¬ d = k):Nat.beq d k = false:=by
  cases hb:Nat.beq d k with
  | false=>rfl
  | true=>exact absurd (Nat.eq_of_beq_eq_true hb) e
def pt (d:Option Tmp) (v:Value) (F:cC):cC:=match d with
  | some d=>(d,v)::F
  | none=>F
def DY (N:Nat) (d:Option Tmp):Bool:=match d with
  | some d=>Nat.blt d N
  | none=>true
theorem lJ.put {F:cC} {a:Act} {d:Option Tmp} {v:Value} {N:Nat} (h:lJ F a.tmps) (hs:a.tmps.size = N) (hd:DY N d = true) :
    lJ (pt d v F) (a.put d v).tmps:=by
  cases d with
  | none=>exact h
  | some d =>
    intro k u hk
    simp only [pt,lk] at hk
    have hd' : d < a.tmps.size:=by simpa [DY,hs,Nat.blt_eq] using hd
    by_cases e:d = k
    · subst e
      simp at hk; subst hk
      simp [Act.put,hd']
    · have:Nat.beq d k = false:=jE e
      rw [this] at hk
      simp only [cond_false] at hk
      simp only [Act.put,Array.getElem?_setIfInBounds,if_neg e]
      exact h k u hk
theorem lJ.sub {F F' : cC} {t:Array Value} (h:lJ F t) (hs:∀d v,lk F' d = some v→lk F d = some v):lJ F' t:=fun d v hk=>h d v (hs d v hk)
def Sub:cC→cC→Prop
  | [],_=>True
  | p::r,F=>lk F p.1 = some p.2∧Sub r F
theorem Sub.lk {F' F:cC} (h:Sub F' F):∀d v,lk F' d = some v→lk F d = some v:=by
  induction F' with
  | nil=>intro d v hk; simp [Bw.lk] at hk
  | cons p r ih =>
    intro d v hk
    obtain ⟨h1,h2⟩:=h
    simp only [Bw.lk] at hk
    by_cases e:p.1 = d
    · subst e; simp at hk; subst hk; exact h1
    · have:Nat.beq p.1 d = false:=jE e
      rw [this] at hk
      exact ih h2 d v hk
structure aY (bs:List Nat) (w0 w:World):Prop where
  os:w.os = w0.os
  tape:w.tape = w0.tape
  output:w.output = w0.output
  size:w0.heap.size ≤ w.heap.size
  block:∀k,k < w0.heap.size→k ∉ bs→w.heap[k]? = w0.heap[k]?
theorem aY.refl (bs:List Nat) (w:World):aY bs w w:=⟨rfl,rfl,rfl,Nat.le_refl _,fun _ _ _=>rfl⟩
theorem aY.trans {bs bs' : List Nat} {w0 w w' : World} (h:aY bs w0 w) (k:aY bs' w w') (hb:∀b ∈ bs',b ∈ bs∨w0.heap.size ≤ b):aY bs w0 w':=
  ⟨k.os.trans h.os,k.tape.trans h.tape,k.output.trans h.output,Nat.le_trans h.size k.size,
   fun i hi hn=>(k.block i (Nat.lt_of_lt_of_le hi h.size) (fun hm=>by
     rcases hb i hm with h1 | h1
     · exact hn h1
     · omega)).trans (h.block i hi hn)⟩
theorem aY.ext {bs:List Nat} {w0 w w' : World} (h:aY bs w0 w) (k:aY [] w w'):aY bs w0 w':=h.trans k (fun _ hb=>by cases hb)
theorem aY.below {w0 w:World} (h:aY [] w0 w):Below w0.heap.size w0 w:=⟨h.os,h.tape,h.output,h.size,fun k hk=>h.block k hk (by simp)⟩
theorem aY.xw {w w' : World} {row:Option Nat} (h:w.grownBy w' row):aY row.toList w w':=
  ⟨h.os,h.tape,h.output,h.size,fun k hk hn=>h.block k hk (fun e=>hn (by rw [← e]; simp))⟩
theorem aY.alloc (w:World) (o:Obj):aY [] w (w.alloc o):=⟨rfl,rfl,rfl,by simp,fun k hk _=>Below.heap_alloc w o k hk⟩
theorem aY.drawn {w0 w:World} {bs:List Nat} (h:aY bs w0 w) (n:Nat):aY bs w0 { w with drawn:=n }:=⟨h.os,h.tape,h.output,h.size,h.block⟩
def Ro (w:World) (v:Value) (sz n:Nat) (xs:List Value):Prop:=
  xs.length = n * sz∧(((∃a cp,v = .slice a 0 cp)∧n = 0)∨∃g off cap,v = .slice (some ⟨g,off,none⟩) n cap∧g < w.heap.size∧n ≤ cap∧∀(j:Nat) u,xs[j]? = some u→w.cell? ⟨g,off + j,none⟩ = some u)
inductive aL where
  | cells (b:Nat) (t:TypeId) (cs:List Value)
  | row (v:Value) (e:TypeId) (sz:Nat) (n:Nat) (xs:List Value)
  | obj (b:Nat) (o:Obj)
  | sl (v:Value) (sz n:Nat) (xs:List Value)
  | ext (bs:List Nat) (J:World→Prop)
def aL.fA:aL→List Nat
  | .cells b _ _=>[b]
  | .row v _ _ _ _=>v.ownBlock.toList
  | .obj b _=>[b]
  | .sl v _ _ _=>v.ownBlock.toList
  | .ext bs _=>bs
def aL.holds (w:World):aL→Prop
  | .cells b t cs=>w.heap[b]? = some (.cells cs.toArray t (0,0))
  | .row v e sz n xs=>w.ownsRow 0 e sz v n xs
  | .obj b o=>w.heap[b]? = some o
  | .sl v sz n xs=>Ro w v sz n xs
  | .ext bs J=>∀w' : World,w.heap.size ≤ w'.heap.size→(∀b ∈ bs,w'.heap[b]? = w.heap[b]?)→J w'
def aL.apart (r s:aL):Prop:=∀b,b ∈ r.fA→b ∉ s.fA
theorem aL.iq {r s:aL} (h:r.apart s):s.apart r:=fun b hs hr=>h b hr hs
theorem rj {w w' : World} {base:Nat} {e:TypeId} {sz:Nat} {v:Value} {n:Nat} {xs:List Value} (h:w.ownsRow base e sz v n xs)
    (hb:∀b,v.ownBlock = some b→w'.heap[b]? = w.heap[b]?):w'.ownsRow base e sz v n xs:=by
  refine ⟨h.1,?_⟩
  rcases h.2 with hn | ⟨g,cap,cur,rfl,Me,xZ,rest⟩
  · exact .inl hn
  · exact .inr ⟨g,cap,cur,rfl,Me,(hb g rfl).trans xZ,rest⟩
theorem Ro.same {w w' : World} {v:Value} {sz n:Nat} {xs:List Value} (h:Ro w v sz n xs) (hs:w.heap.size ≤ w'.heap.size) (hb:∀b,v.ownBlock = some b→w'.heap[b]? = w.heap[b]?):Ro w' v sz n xs:=by
  refine ⟨h.1,?_⟩
  rcases h.2 with h0 | ⟨g,off,cap,rfl,h2,h3,h4⟩
  · exact .inl h0
  · exact .inr ⟨g,off,cap,rfl,Nat.lt_of_lt_of_le h2 hs,h3,fun j u hu=>(World.cell?_of_block (hb g rfl)).trans (h4 j u hu)⟩
theorem aL.jA {w w' : World} {r:aL} (h:r.holds w) (hs:w.heap.size ≤ w'.heap.size) (hb:∀b,b ∈ r.fA→w'.heap[b]? = w.heap[b]?):r.holds w':=by
  cases r with
  | cells b t cs=>exact (hb b (by simp [aL.fA])).trans h
  | row v e sz n xs=>exact rj h fun b hv=>hb b (by simp [aL.fA,hv])
  | obj b o=>exact (hb b (by simp [aL.fA])).trans h
  | sl v sz n xs=>exact Ro.same h hs fun b hv=>hb b (by simp [aL.fA,hv])
  | ext bs J=>exact fun w2 h1 h2=>h w2 (Nat.le_trans hs h1) fun b hm=>(h2 b hm).trans (hb b hm)
structure bN (bs:List Nat) (n0:Nat) (H:List aL) (w:World):Prop where
  holds:∀r ∈ H,r.holds w
  own:∀r ∈ H,∀b,b ∈ r.fA→(b ∈ bs∨n0 ≤ b)∧b < w.heap.size
  apart:H.Pairwise aL.apart
theorem bN.nil (bs:List Nat) (n0:Nat) (w:World):bN bs n0 [] w:=⟨by simp,by simp, .nil⟩
theorem bN.same {bs bs' : List Nat} {n0 Ki:Nat} {H:List aL} {w w' : World} (h:bN bs n0 H w) (hs:w.heap.size ≤ w'.heap.size)
    (hb:∀r ∈ H,∀b,b ∈ r.fA→w'.heap[b]? = w.heap[b]?) (hw:∀b,(b ∈ bs∨n0 ≤ b)→b < w.heap.size→(b ∈ bs'∨Ki ≤ b)):bN bs' Ki H w':=
  ⟨fun r hr=>aL.jA (h.holds r hr) hs (hb r hr),fun r hr b hb'=>let ⟨o,l⟩:=h.own r hr b hb'; ⟨hw b o l,Nat.lt_of_lt_of_le l hs⟩,h.apart⟩
theorem bN.ext {bs:List Nat} {n0:Nat} {H:List aL} {w w' : World} (h:bN bs n0 H w) (hs:aY [] w w'):bN bs n0 H w':=
  h.same hs.size (fun r hr b hb=>hs.block b (h.own r hr b hb).2 (by simp)) (fun _ o _=>o)
theorem bN.cons {bs:List Nat} {n0:Nat} {H:List aL} {w:World} {r:aL} (h:bN bs n0 H w) (hr:r.holds w)
    (ho:∀b,b ∈ r.fA→(b ∈ bs∨n0 ≤ b)∧b < w.heap.size) (ha:∀s ∈ H,r.apart s):bN bs n0 (r::H) w:=
  ⟨fun s hs=>by cases hs with | head=>exact hr | tail _ hm=>exact h.holds s hm,
   fun s hs=>by cases hs with | head=>exact ho | tail _ hm=>exact h.own s hm,
   .cons ha h.apart⟩
theorem bN.fresh {bs:List Nat} {n0:Nat} {H:List aL} {w w' : World} {r:aL} (h:bN bs n0 H w) (hs:aY [] w w') (hr:r.holds w')
    (hn:n0 ≤ w.heap.size) (ho:∀b,b ∈ r.fA→w.heap.size ≤ b∧b < w'.heap.size):bN bs n0 (r::H) w':=
  (h.ext hs).cons hr (fun b hb=>⟨.inr (Nat.le_trans hn (ho b hb).1),(ho b hb).2⟩)
    (fun s hm b hb zS=>by have:=(h.own s hm b zS).2; have:=(ho b hb).1; omega)
theorem bN.sub {bs:List Nat} {n0:Nat} {H H' : List aL} {w:World} (h:bN bs n0 H w) (hs:H'.Sublist H):bN bs n0 H' w:=
  ⟨fun r hr=>h.holds r (hs.subset hr),fun r hr=>h.own r (hs.subset hr),h.apart.sublist hs⟩
theorem g6 {H:List aL} (h:H.Pairwise aL.apart) {j k:Nat} {r s:aL} (hj:H[j]? = some r) (hk:H[k]? = some s) (hne:j ≠ k):r.apart s:=by
  obtain ⟨lj,rfl⟩:=List.getElem?_eq_some_iff.1 hj
  obtain ⟨lk,rfl⟩:=List.getElem?_eq_some_iff.1 hk
  rcases Nat.lt_or_ge j k with hlt | hge
  · exact List.pairwise_iff_getElem.1 h j k lj lk hlt
  · exact aL.iq (List.pairwise_iff_getElem.1 h k j lk lj (by omega))
theorem bN.set {bs:List Nat} {n0:Nat} {H:List aL} {w w' : World} (h:bN bs n0 H w) {k:Nat} {r r' : aL} (hk:H[k]? = some r)
    (hs:w.heap.size ≤ w'.heap.size) (hb:∀j,j < w.heap.size→j ∉ r.fA→w'.heap[j]? = w.heap[j]?) (hr:r'.holds w') (hn:n0 ≤ w.heap.size)
    (ho:∀b,b ∈ r'.fA→(b ∈ r.fA∨w.heap.size ≤ b)∧b < w'.heap.size):bN bs n0 (H.set k r') w':=by
  have hmem:r ∈ H:=List.mem_of_getElem? hk
  refine ⟨fun s hm=>?_,fun s hm b cU=>?_,?_⟩
  · obtain ⟨j,hj⟩:=List.mem_iff_getElem?.1 hm
    rw [List.getElem?_set] at hj
    by_cases e:k = j
    · subst e
      have hl:=(List.getElem?_eq_some_iff.1 hk).1
      simp [hl] at hj; subst hj; exact hr
    · simp [e] at hj
      refine aL.jA (h.holds s (List.mem_of_getElem? hj)) hs (fun b KB=>hb b (h.own s (List.mem_of_getElem? hj) b KB).2 (fun hrb=>?_))
      exact g6 h.apart hk hj e b hrb KB
  · obtain ⟨j,hj⟩:=List.mem_iff_getElem?.1 hm
    rw [List.getElem?_set] at hj
    by_cases e:k = j
    · subst e
      have hl:=(List.getElem?_eq_some_iff.1 hk).1
      simp [hl] at hj; subst hj
      obtain ⟨h1,h2⟩:=ho b cU
      refine ⟨?_,h2⟩
      rcases h1 with h1 | h1
      · exact (h.own r hmem b h1).1
      · exact .inr (Nat.le_trans hn h1)
    · simp [e] at hj
      obtain ⟨h1,h2⟩:=h.own s (List.mem_of_getElem? hj) b cU
      exact ⟨h1,Nat.lt_of_lt_of_le h2 hs⟩
  · rw [List.pairwise_iff_getElem]
    intro i j hi hj hij
    have hl:=(List.getElem?_eq_some_iff.1 hk).1
    have key:∀j s,H[j]? = some s→k ≠ j→r'.apart s:=fun j s Kw hne b hrb zS=>by
      have h2:=(h.own s (List.mem_of_getElem? Kw) b zS).2
      rcases (ho b hrb).1 with h1 | h1
      · exact g6 h.apart hk Kw hne b h1 zS
      · omega
    rw [List.length_set] at hi hj
    rw [List.getElem_set,List.getElem_set]
    by_cases e1:k = i
    · rw [if_pos e1,if_neg (by omega)]
      exact key j _ (List.getElem?_eq_getElem hj) (by omega)
    · rw [if_neg e1]
      by_cases e2:k = j
      · rw [if_pos e2]
        exact aL.iq (key i _ (List.getElem?_eq_getElem hi) (by omega))
      · rw [if_neg e2]
        exact List.pairwise_iff_getElem.1 h.apart i j hi hj hij
theorem bN.wZ {bs:List Nat} {n0:Nat} {H:List aL} {w:World} (h:bN bs n0 H w) {k:Nat} {r r' : aL} (hk:H[k]? = some r) (hr:∀w:World,r.holds w→r'.holds w) (hb:∀b,b ∈ r'.fA→b ∈ r.fA):bN bs n0 (H.set k r') w:=by
  have hmem:r ∈ H:=List.mem_of_getElem? hk
  have hl:=(List.getElem?_eq_some_iff.1 hk).1
  have get:∀s ∈ H.set k r',(s = r'∨∃j,j ≠ k∧H[j]? = some s):=fun s hs=>by
    obtain ⟨j,hj⟩:=List.mem_iff_getElem?.1 hs
    rw [List.getElem?_set] at hj
    by_cases e:k = j
    · subst e; simp [hl] at hj; exact .inl hj.symm
    · simp [e] at hj; exact .inr ⟨j,Ne.symm e,hj⟩
  refine ⟨fun s hs=>?_,fun s hs b cU=>?_,?_⟩
  · rcases get s hs with rfl | ⟨j,_,hj⟩
    · exact hr w (h.holds r hmem)
    · exact h.holds s (List.mem_of_getElem? hj)
  · rcases get s hs with rfl | ⟨j,_,hj⟩
    · exact h.own r hmem b (hb b cU)
    · exact h.own s (List.mem_of_getElem? hj) b cU
  · rw [List.pairwise_iff_getElem]
    intro i j hi hj hij
    rw [List.length_set] at hi hj
    rw [List.getElem_set,List.getElem_set]
    by_cases e1:k = i
    · rw [if_pos e1,if_neg (by omega)]
      exact fun b Jz z5=>g6 h.apart hk (List.getElem?_eq_getElem hj) (by omega) b (hb b Jz) z5
    · rw [if_neg e1]
      by_cases e2:k = j
      · rw [if_pos e2]
        exact fun b Jz z5=>g6 h.apart (List.getElem?_eq_getElem hi) hk (by omega) b Jz (hb b z5)
      · rw [if_neg e2]
        exact List.pairwise_iff_getElem.1 h.apart i j hi hj hij
def pick (H:List aL):List Nat→Option (List aL)
  | []=>some []
  | k::ks=>match H[k]?,pick H ks with
    | some r,some l=>some (r::l)
    | _,_=>none
theorem j5 {H:List aL}:∀{ks:List Nat} {l:List aL},pick H ks = some l→∀(j:Nat) (r:aL),l[j]? = some r→∃k:Nat,ks[j]? = some k∧H[k]? = some r:=by
  intro ks
  induction ks with
  | nil=>intro l h j r hj; simp [pick] at h; subst h; simp at hj
  | cons k ks ih =>
    intro l h j r hj
    simp only [pick] at h
    split at h
    · rename_i r0 l0 h1 h2
      simp at h; subst h
      cases j with
      | zero=>simp at hj; subst hj; exact ⟨k,rfl,h1⟩
      | succ j=>obtain ⟨k',e1,e2⟩:=ih h2 j r (by simpa using hj); exact ⟨k',by simpa using e1,e2⟩
    · cases h
theorem bN.pick {bs:List Nat} {n0:Nat} {H l:List aL} {w:World} (h:bN bs n0 H w) {ks:List Nat} (hp:pick H ks = some l) (hn:ks.Nodup):bN bs n0 l w:=by
  refine ⟨fun r hr=>?_,fun r hr=>?_,?_⟩
  · obtain ⟨j,hj⟩:=List.mem_iff_getElem?.1 hr
    obtain ⟨k,_,e⟩:=j5 hp j r hj
    exact h.holds r (List.mem_of_getElem? e)
  · obtain ⟨j,hj⟩:=List.mem_iff_getElem?.1 hr
    obtain ⟨k,_,e⟩:=j5 hp j r hj
    exact h.own r (List.mem_of_getElem? e)
  · rw [List.pairwise_iff_getElem]
    intro i j hi hj hij
    obtain ⟨k1,e1,f1⟩:=j5 hp i _ (List.getElem?_eq_getElem hi)
    obtain ⟨k2,e2,f2⟩:=j5 hp j _ (List.getElem?_eq_getElem hj)
    refine g6 h.apart f1 f2 (fun e=>?_)
    subst e
    obtain ⟨l1,q1⟩:=List.getElem?_eq_some_iff.1 e1
    obtain ⟨l2,q2⟩:=List.getElem?_eq_some_iff.1 e2
    exact absurd (q1.trans q2.symm) (by
      intro hq
      exact (List.pairwise_iff_getElem.1 hn i j l1 l2 hij) hq)
structure Cx where
  ro:Option Nat
  w0:World
  bs:List Nat
structure St (N:Nat) (c:Cx) (D:List Deferred) (F:cC) (H:List aL) (a:Act) (w:World):Prop where
  tm:a.tmps.size = N
  fr:lJ F a.tmps
  df:a.defers = D
  si:aY c.bs c.w0 w
  hp:bN c.bs c.w0.heap.size H w
theorem St.sub {N:Nat} {c:Cx} {D:List Deferred} {F F' : cC} {H:List aL} {a:Act} {w:World} (h:St N c D F H a w) (hs:∀d v,lk F' d = some v→lk F d = some v):St N c D F' H a w:=
  ⟨h.tm,h.fr.sub hs,h.df,h.si,h.hp⟩
theorem St.put {N:Nat} {c:Cx} {D:List Deferred} {F:cC} {H H' : List aL} {a:Act} {w w' : World} {d:Option Tmp} {v:Value} (h:St N c D F H a w) (hd:DY N d = true)
    (hs:aY c.bs c.w0 w') (hp:bN c.bs c.w0.heap.size H' w'):St N c D (pt d v F) H' (a.put d v) w':=by
  refine ⟨?_,h.fr.put h.tm hd,?_,hs,hp⟩
  · cases d <;> simp [Act.put,h.tm]
  · cases d <;> simp [Act.put,h.df]
def WP (P:Program) (N:Nat) (c:Cx) (D:List Deferred) (code:Code) (Q:Exit→Act→World→Prop) (F:cC) (H:List aL):Prop:=
  ∀a w,St N c D F H a w→code.wpIn (FA c.ro) 0 P Q a w
def WQ (N:Nat) (c:Cx) (D:List Deferred) (Q:Exit→Act→World→Prop) (e:Exit) (F:cC) (H:List aL):Prop:=
  ∀a w,St N c D F H a w→Q e a w
def WL (P:Program) (N:Nat) (c:Cx) (D:List Deferred) (ops:Array Oper) (Q:Exit→Act→World→Prop) (l:List Oper) (F:cC) (H:List aL):Prop:=
  ∀a w,St N c D F H a w→wpListIn (FA c.ro) 0 P ops Q l a w
def VS (P:Program) (N:Nat) (c:Cx) (o:Oper) (F:cC) (H:List aL) (v:Value):Prop:=
  ∀D a w next Q,St N c D F H a w→(∀w',aY [] w w'→next (a.put o.dst v) w')→o.wpIn (FA c.ro) 0 P a w next Q
def RX {α:Type} (P:Program) (N:Nat) (c:Cx) (o:Oper) (F:cC) (H:List aL) (p:α→Prop) (fv:α→Value) (fH:α→List aL):Prop:=
  ∀D a w next Q,St N c D F H a w→(∀x w',p x→aY c.bs c.w0 w'→bN c.bs c.w0.heap.size (fH x) w'→next (a.put o.dst (fv x)) w')→o.wpIn (FA c.ro) 0 P a w next Q
theorem VS.rx {P:Program} {N:Nat} {c:Cx} {o:Oper} {F:cC} {H:List aL} {v:Value} (h:VS P N c o F H v):RX (α:=Unit) P N c o F H (fun _=>True) (fun _=>v) (fun _=>H):=
  fun D a w next Q hst hk=>h D a w next Q hst fun w' hw=>hk () w' trivial (hst.si.ext hw) (hst.hp.ext hw)
theorem fS {P:Program} {c:Cx} {o:Oper} {a:Act} {w w' : World} {v:Value} {next:Act→World→Prop} {Q:Exit→Act→World→Prop} (hd:∀cc,o.op ≠ .defer cc)
    (hr:(execOp a.eval o).run P w = .ok (.value v) w') (hk:next (a.put o.dst v) w'):o.wpIn (FA c.ro) 0 P a w next Q:=by
  refine ⟨fun _ _=>trivial,?_⟩
  have:Oper.semAt (FA c.ro).round a.eval o = execOp a.eval o:=Oper.semAt_eq _ _ _ hd
  rw [this,hr]
  exact hk
theorem qB {P:Program} {c:Cx} {o:Oper} {a:Act} {w w' : World} {next:Act→World→Prop} {Q:Exit→Act→World→Prop} (hd:∀cc,o.op ≠ .defer cc)
    (hr:(execOp a.eval o).run P w = .ok .skip w') (hk:next (a.put o.dst undef) w'):o.wpIn (FA c.ro) 0 P a w next Q:=by
  refine ⟨fun _ _=>trivial,?_⟩
  have:Oper.semAt (FA c.ro).round a.eval o = execOp a.eval o:=Oper.semAt_eq _ _ _ hd
  rw [this,hr]
  exact hk
theorem bh {P:Program} {N:Nat} {c:Cx} {o:Oper} {F:cC} {H:List aL} {v:Value} (hd:∀cc,o.op ≠ .defer cc)
    (h:∀(a:Act) (w:World),lJ F a.tmps→aY c.bs c.w0 w→bN c.bs c.w0.heap.size H w→(execOp a.eval o).run P w = .ok (.value v) w):VS P N c o F H v:=
  fun _ a w _ _ hst hk=>fS hd (h a w hst.fr hst.si hst.hp) (hk w (aY.refl _ _))
section lists
variable {P:Program} {N:Nat} {c:Cx} {D:List Deferred} {ops:Array Oper} {Q:Exit→Act→World→Prop} {o:Oper} {rest:List Oper} {F:cC} {H:List aL}
  {d:Tmp} {op:Op} {ty:TypeId} {ps:String} {af:Array Edge} {g:Option (Nat × Bool)}
theorem aW (h:WQ N c D Q .normal F H):WL P N c D ops Q [] F H:=fun a w hst=>h a w hst
theorem ah {v:Value} (hd:Nat.blt d N = true) (hv:VS P N c ⟨some d,op,ty,ps,af,none⟩ F H v) (h:WL P N c D ops Q rest ((d,v)::F) H):WL P N c D ops Q (⟨some d,op,ty,ps,af,none⟩::rest) F H:=
  fun a w hst=>wpListIn_plain rfl fun K hK=>hv D a w K Q hst fun _ hw=>hK _ _ (h _ _ (hst.put (d:=some d) hd (hst.si.ext hw) (hst.hp.ext hw)))
theorem cu {α:Type} {p:α→Prop} {fv:α→Value} {fH:α→List aL} (hd:Nat.blt d N = true) (hv:RX P N c ⟨some d,op,ty,ps,af,none⟩ F H p fv fH)
    (h:∀x,p x→WL P N c D ops Q rest ((d,fv x)::F) (fH x)):WL P N c D ops Q (⟨some d,op,ty,ps,af,none⟩::rest) F H:=
  fun a w hst=>wpListIn_plain rfl fun K hK=>hv D a w K Q hst fun x _ hp hs hh=>hK _ _ (h x hp _ _ (hst.put (d:=some d) hd hs hh))
theorem eU {α:Type} {p:α→Prop} {fv:α→Value} {fH:α→List aL} (hv:RX P N c ⟨none,op,ty,ps,af,none⟩ F H p fv fH)
    (h:∀x,p x→WL P N c D ops Q rest F (fH x)):WL P N c D ops Q (⟨none,op,ty,ps,af,none⟩::rest) F H:=
  fun a w hst=>wpListIn_plain rfl fun K hK=>hv D a w K Q hst fun x _ hp hs hh=>hK _ _ (h x hp _ _ (hst.put (d:=none) rfl hs hh))
def gd (ops:Array Oper) (F:cC):Option (Nat × Bool)→Option Bool
  | none=>none
  | some (j,want)=>match ((ops[j]?).bind (·.dst)).bind (lk F) with
    | some (.bool b)=>some (b == want)
    | _=>none
def Gd (ops:Array Oper) (F:cC) (g:Option (Nat × Bool)) (B:Bool):Prop:=∀(o:Oper) (a:Act),o.guard = g→lJ F a.tmps→Region.wanted o (yielded ops a.tmps) = B
theorem oL {a:Act} {j:Nat} {k:Tmp} {v:Value} (hf:lJ F a.tmps) (hd:(ops[j]?).bind (·.dst) = some k) (hl:lk F k = some v):yielded ops a.tmps j = match v with | .bool b=>some b | _=>none:=by
  have h1:=hf _ _ hl
  cases ho:ops[j]? with
  | none=>simp [ho] at hd
  | some oj =>
    simp [ho] at hd
    cases v <;> simp [yielded,ho,hd,h1]
theorem di {j:Nat} {want b:Bool} {k:Tmp} (hd:(ops[j]?).bind (·.dst) = some k) (hl:lk F k = some (.bool b)):Gd ops F (some (j,want)) (b == want):=fun o a hg hf=>by
  simp only [Region.wanted,hg,oL hf hd hl]
  cases b <;> cases want <;> rfl
theorem gp {j:Nat} {want b t:Bool} {k:Tmp} (hd:(ops[j]?).bind (·.dst) = some k) (hl:lk F k = some (bif t then .bool b else undef)):Gd ops F (some (j,want)) (t && (b == want)):=fun o a hg hf=>by
  simp only [Region.wanted,hg,oL hf hd hl]
  cases b <;> cases want <;> cases t <;> rfl
theorem rZ (hg:Gd ops F g false) (hd:Nat.blt d N = true) (h:WL P N c D ops Q rest ((d,undef)::F) H):WL P N c D ops Q (⟨some d,op,ty,ps,af,g⟩::rest) F H:=by
  intro a w hst
  simp only [wpListIn,hg ⟨some d,op,ty,ps,af,g⟩ a rfl hst.fr]
  exact ⟨fun _ _=>trivial,h _ _ (hst.put (d:=some d) hd hst.si hst.hp)⟩
theorem cI {b:Bool} {v:Value} (hg:Gd ops F g b) (hd:Nat.blt d N = true) (hv:b = true→VS P N c ⟨some d,op,ty,ps,af,g⟩ F H v)
    (h:WL P N c D ops Q rest ((d,bif b then v else undef)::F) H):WL P N c D ops Q (⟨some d,op,ty,ps,af,g⟩::rest) F H:=by
  cases b with
  | false=>exact rZ hg hd h
  | true =>
    intro a w hst
    simp only [wpListIn,hg ⟨some d,op,ty,ps,af,g⟩ a rfl hst.fr,if_true]
    exact hv rfl D a w _ Q hst fun w' hw=>h _ _ (hst.put (d:=some d) hd (hst.si.ext hw) (hst.hp.ext hw))
theorem Gt {α:Type} {b:Bool} {p:α→Prop} {fv:α→Value} {fH:α→List aL} (hg:Gd ops F g b) (hd:Nat.blt d N = true) (hv:b = true→RX P N c ⟨some d,op,ty,ps,af,g⟩ F H p fv fH)
    (h1:b = true→∀x,p x→WL P N c D ops Q rest ((d,fv x)::F) (fH x)) (h0:b = false→WL P N c D ops Q rest ((d,undef)::F) H):WL P N c D ops Q (⟨some d,op,ty,ps,af,g⟩::rest) F H:=by
  cases b with
  | false=>exact rZ hg hd (h0 rfl)
  | true =>
    intro a w hst
    simp only [wpListIn,hg ⟨some d,op,ty,ps,af,g⟩ a rfl hst.fr,if_true]
    exact hv rfl D a w _ Q hst fun x w' hp hs hh=>h1 rfl x hp _ _ (hst.put (d:=some d) hd hs hh)
theorem cT {x:Operand} {t:Bool} {v:Value} (h:ev F x = some (bif t then v else undef)) (ht:t = true):ev F x = some v:=by subst ht; exact h
theorem uz {x:Operand} {s t:Bool} {v:Value} (h:ev F x = some (bif s && t then v else undef)) (ht:s = true):ev F x = some (bif t then v else undef):=by subst ht; exact h
end lists
section code
variable {P:Program} {N:Nat} {c:Cx} {D:List Deferred} {Q:Exit→Act→World→Prop} {F:cC} {H:List aL}
theorem aU {x y:Code} (h:WP P N c D x (Exit.then (y.wpIn (FA c.ro) 0 P Q) Q) F H):WP P N c D (.seq x y) Q F H:=fun a w hst=>wpIn_seq (h a w hst)
theorem gC {id:Nat} {x:Code} (h:WP P N c D x (Exit.inBlock id Q) F H):WP P N c D (.block id x) Q F H:=fun a w hst=>wpIn_block (h a w hst)
theorem gG (h:WQ N c D Q .normal F H):WP P N c D .skip Q F H:=fun a w hst=>wpIn_skip (h a w hst)
theorem yH {l:Nat} (h:WQ N c D Q .normal F H):WP P N c D (.label l) Q F H:=fun a w hst=>wpIn_label (h a w hst)
theorem jb (h:WQ N c D Q .ret F H):WP P N c D .ret Q F H:=fun a w hst=>wpIn_ret (h a w hst)
theorem oF {id:Nat} (h:WQ N c D Q (.exit id) F H):WP P N c D (.exit id) Q F H:=fun a w hst=>wpIn_exit (h a w hst)
theorem az {id:Nat} {l:List Oper} (h:WL P N c D l.toArray Q l F H):WP P N c D (.region id l.toArray false) Q F H:=fun a w hst=>wpIn_region_lit (h a w hst)
theorem As {x:Operand} {y z:Code} (hc:ev F x = some (.bool true)) (h:WP P N c D y Q F H):WP P N c D (.cond x y z) Q F H:=
  fun a w hst=>wpIn_cond_true (bp hst.fr hc) (h a w hst)
theorem yI {x:Operand} {y z:Code} (hc:ev F x = some (.bool false)) (h:WP P N c D z Q F H):WP P N c D (.cond x y z) Q F H:=
  fun a w hst=>wpIn_cond_false (bp hst.fr hc) (h a w hst)
theorem yE {x:Code} {H' : List aL} (hH:∀bs n0 w,bN bs n0 H w→bN bs n0 H' w) (h:WP P N c D x Q F H'):WP P N c D x Q F H:=fun a w hst=>h a w ⟨hst.tm,hst.fr,hst.df,hst.si,hH _ _ _ hst.hp⟩
theorem uS {e:Exit} {H' : List aL} (hH:∀bs n0 w,bN bs n0 H w→bN bs n0 H' w) (h:WQ N c D Q e F H'):WQ N c D Q e F H:=fun a w hst=>h a w ⟨hst.tm,hst.fr,hst.df,hst.si,hH _ _ _ hst.hp⟩
class BP (t:Bool) (p:outParam Prop):Prop where
  iff:t = true↔p
theorem aE {y:Code} (h:WP P N c D y Q F H):WQ N c D (Exit.then (y.wpIn (FA c.ro) 0 P Q) Q) .normal F H:=h
theorem cE {K:Act→World→Prop} (h:WQ N c D Q .ret F H):WQ N c D (Exit.then K Q) .ret F H:=h
theorem eT {K:Act→World→Prop} {id:Nat} (h:WQ N c D Q (.exit id) F H):WQ N c D (Exit.then K Q) (.exit id) F H:=h
theorem gA {id:Nat} (h:WQ N c D Q .normal F H):WQ N c D (Exit.inBlock id Q) .normal F H:=h
theorem dN {id:Nat} (h:WQ N c D Q .ret F H):WQ N c D (Exit.inBlock id Q) .ret F H:=h
theorem iB {id:Nat} (h:WQ N c D Q .normal F H):WQ N c D (Exit.inBlock id Q) (.exit id) F H:=fun a w hst=>by simpa [Exit.inBlock] using h a w hst
theorem qc {id k:Nat} (hne:Nat.beq k id = false) (h:WQ N c D Q (.exit k) F H):WQ N c D (Exit.inBlock id Q) (.exit k) F H:=fun a w hst=>by
  have:¬ k = id:=fun e=>by rw [e,Nat.beq_refl] at hne; cases hne
  simpa [Exit.inBlock,this] using h a w hst
theorem Dr {α:Type} {x y:Code} (I:α→cC) (J:α→List aL) (p:α→Prop)
    (h1:WP P N c D x (Exit.then (fun a w=>∃i,p i∧St N c D (I i) (J i) a w) Q) F H) (h2:∀i,p i→WP P N c D y Q (I i) (J i)):WP P N c D (.seq x y) Q F H:=
  fun _ _ hst=>wpIn_seq (wpIn_mono (h1 _ _ hst) fun e a' w' hq=>by
    cases e with
    | normal=>obtain ⟨i,hp,hs⟩:=hq; exact h2 i hp a' w' hs
    | _=>exact hq)
theorem yF {α:Type} {x:Code} (I:α→cC) (J:α→List aL) (p:α→Prop) (μ:α→Nat) (i0:α) (zY:p i0)
    (hbody:∀i,p i→WP P N c D x (Exit.then (fun a w=>∃i',μ i' < μ i∧p i'∧St N c D (I i') (J i') a w) Q) (I i) (J i)):WP P N c D (.loop x) Q (I i0) (J i0):=by
  intro a w hst b k cs hro hb hr
  have key:∀j i,μ i = j→p i→∀a w,St N c D (I i) (J i) a w →
      ∃e a' w',Q e a' w'∧ArrivesIn (Machine.fenced P (FA c.ro)) P (lone (b.atR a (.code x::.inLoop x::k)) cs w) b k cs e a' w':=by
    intro j
    induction j using Nat.strongRecOn with
    | _ j ih =>
      intro i hi hp a w hst
      obtain ⟨e,a₁,w₁,hq,s8⟩:=hbody i hp a w hst b (.inLoop x::k) cs hro hb hr
      cases e with
      | normal =>
        obtain ⟨i',hlt,IY,rD⟩:=hq
        obtain ⟨e₂,a₂,w₂,LY,FZ⟩:=ih (μ i') (hi ▸ hlt) i' rfl IY a₁ w₁ rD
        exact ⟨e₂,a₂,w₂,LY, .of_steps (StepsIn.trans s8 (.one (fenced_calm hb hr rfl) stepR_inLoop)) FZ⟩
      | exit id=>exact ⟨_,a₁,w₁,hq, .pass (x:=.inLoop x) rfl (fun _ _=>.inl (by simp)) s8⟩
      | goto l=>exact ⟨_,a₁,w₁,hq, .pass (x:=.inLoop x) rfl (fun _ _=>.inl (by simp)) s8⟩
      | ret=>exact ⟨_,a₁,w₁,hq, .pass (x:=.inLoop x) rfl (fun _ _=>.inl (by simp)) s8⟩
      | panic ch=>exact ⟨_,a₁,w₁,hq, .pass (x:=.inLoop x) rfl (fun _ _=>.inl (by simp)) s8⟩
      | outgrown=>exact ⟨_,a₁,w₁,hq, .pass (x:=.inLoop x) rfl (fun _ _=>.inl (by simp)) s8⟩
  obtain ⟨e,a',w',hq,s8⟩:=key _ i0 rfl zY a w hst
  exact ⟨e,a',w',hq, .of_steps (.one (fenced_calm hb hr rfl) stepR_loop) s8⟩
theorem hJ {G:cC}:Sub [] G:=trivial
theorem ko {d:Nat} {v:Value} {r G:cC} (h:lk G d = some v) (hr:Sub r G):Sub ((d,v)::r) G:=⟨h,hr⟩
def iF (F:cC):List Nat→cC
  | []=>[]
  | k::r=>match lk F k with
    | some v=>(k,v)::iF F r
    | none=>iF F r
theorem ry {F:cC}:∀{ks:List Nat} {d:Nat} {v:Value},lk (iF F ks) d = some v→d ∈ ks∧lk F d = some v:=by
  intro ks
  induction ks with
  | nil=>intro d v h; simp [iF,lk] at h
  | cons k r ih =>
    intro d v h
    simp only [iF] at h
    split at h
    · rename_i u hu
      simp only [lk] at h
      by_cases e:k = d
      · subst e; simp at h; subst h; exact ⟨by simp,hu⟩
      · rw [jE e] at h; obtain ⟨h1,h2⟩:=ih h; exact ⟨by simp [h1],h2⟩
    · obtain ⟨h1,h2⟩:=ih h; exact ⟨by simp [h1],h2⟩
def yX (G F:cC):List Nat→Prop
  | []=>True
  | k::r=>lk G k = lk F k∧yX G F r
theorem yX.get {G F:cC}:∀{ks:List Nat},yX G F ks→∀k ∈ ks,lk G k = lk F k:=by
  intro ks
  induction ks with
  | nil=>intro _ k h; simp at h
  | cons k r ih =>
    intro h j hj
    rcases List.mem_cons.1 hj with e | hj
    · rw [e]; exact h.1
    · exact ih h.2 j hj
inductive qh (F:cC):List Nat→cC→Prop where
  | nil:qh F [] []
  | cons {k:Nat} {v:Value} {ks:List Nat} {K:cC} (h:lk F k = some v) (r:qh F ks K):qh F (k::ks) ((k,v)::K)
theorem qh.lk {F:cC} {ks:List Nat} {K:cC} (h:qh F ks K):∀d v,lk K d = some v→Bw.lk F d = some v:=by
  induction h with
  | nil=>intro d v hd; simp [Bw.lk] at hd
  | @cons k u ks K h r ih =>
    intro d v hd
    by_cases e:k = d
    · subst e; simp [Bw.lk] at hd; subst hd; exact h
    · simp only [Bw.lk,jE e,cond_false] at hd; exact ih d v hd
theorem rz {I K G:cC} (h1:Sub I G) (h2:∀d v,lk K d = some v→lk G d = some v):∀d v,lk (I++K) d = some v→lk G d = some v:=by
  induction I with
  | nil=>exact h2
  | cons q I ih =>
    obtain ⟨k,u⟩:=q
    obtain ⟨hq,hr⟩:=h1
    intro d v hd
    by_cases e:k = d
    · subst e; simp [lk] at hd; subst hd; exact hq
    · simp only [List.cons_append,lk,jE e,cond_false] at hd; exact ih hr d v hd
def GC {α:Type} (N:Nat) (c:Cx) (D:List Deferred) (sl:List Nat) (K:cC) (I:α→cC) (J:α→List aL) (p:α→Prop) (μ:α→Nat) (i0:α):Act→World→Prop:=
  fun a w=>match sl with | _=>∃i',μ i' < μ i0∧p i'∧St N c D (I i'++K) (J i') a w
abbrev vE {α:Type} (N:Nat) (c:Cx) (D:List Deferred) (Q:Exit→Act→World→Prop) (sl:List Nat) (K:cC) (I:α→cC) (J:α→List aL) (p:α→Prop) (μ:α→Nat) (i0:α):Exit→Act→World→Prop:=
  Exit.then (GC N c D sl K I J p μ i0) Q
def Kb {α:Type} (N:Nat) (c:Cx) (D:List Deferred) (sl:List Nat) (K:cC) (I:α→cC) (J:α→List aL) (p:α→Prop):Act→World→Prop:=
  fun a w=>match sl with | _=>∃i,p i∧St N c D (I i++K) (J i) a w
abbrev AP {α:Type} (N:Nat) (c:Cx) (D:List Deferred) (Q:Exit→Act→World→Prop) (sl:List Nat) (K:cC) (I:α→cC) (J:α→List aL) (p:α→Prop):Exit→Act→World→Prop:=
  Exit.then (Kb N c D sl K I J p) Q
theorem mY {α:Type} {x:Code} (sl:List Nat) {K:cC} (hK:qh F sl K) (I:α→cC) (J:α→List aL) (p:α→Prop) (μ:α→Nat) (i0:α) (zY:p i0) (hs:Sub (I i0) F) {ks:List Nat} (hk:pick H ks = some (J i0)) (hn:ks.Nodup)
    (hbody:∀i,p i→WP P N c D x (vE N c D Q sl K I J p μ i) (I i++K) (J i)):WP P N c D (.loop x) Q F H:=by
  have h0:WP P N c D (.loop x) Q (I i0++K) (J i0):=by
    exact yF (fun i=>I i++K) J p μ i0 zY hbody
  intro a w hst
  exact h0 a w ⟨hst.tm,hst.fr.sub (rz hs hK.lk),hst.df,hst.si,hst.hp.pick hk hn⟩
theorem mX {α:Type} {K:cC} {sl:List Nat} {I:α→cC} {J:α→List aL} {p:α→Prop} {μ:α→Nat} {i0:α} (i:α) (hμ:μ i < μ i0) (hp:p i) (hs:Sub (I i) F) (hl:qh F sl K) {ks:List Nat} (hk:pick H ks = some (J i)) (hn:ks.Nodup) :
    WQ N c D (vE N c D Q sl K I J p μ i0) .normal F H:=
  fun _ _ hst=>⟨i,hμ,hp,hst.tm,hst.fr.sub (rz hs hl.lk),hst.df,hst.si,hst.hp.pick hk hn⟩
theorem vy {α:Type} {x y:Code} (sl:List Nat) {K:cC} (_:qh F sl K) (I:α→cC) (J:α→List aL) (p:α→Prop)
    (h1:WP P N c D x (AP N c D Q sl K I J p) F H) (h2:∀i,p i→WP P N c D y Q (I i++K) (J i)):WP P N c D (.seq x y) Q F H:=
  Dr (fun i=>I i++K) J p h1 h2
theorem lP {α:Type} {K:cC} {sl:List Nat} {I:α→cC} {J:α→List aL} {p:α→Prop} (i:α) (hp:p i) (hs:Sub (I i) F) (hl:qh F sl K) {ks:List Nat} (hk:pick H ks = some (J i)) (hn:ks.Nodup) :
    WQ N c D (AP N c D Q sl K I J p) .normal F H:=
  fun _ _ hst=>⟨i,hp,hst.tm,hst.fr.sub (rz hs hl.lk),hst.df,hst.si,hst.hp.pick hk hn⟩
end code
end Go.Bw
namespace Go.Bw
open Go Go.RowKit
def nm:TypeDesc→Bool
  | .struct _=>true
  | .array _ _=>true
  | _=>false
def rS (P:Program) (t n:Nat):Bool:=match P.underlying t,P.info? t with
  | some d,some i=>nm d && Nat.beq i.size n
  | _,_=>false
def uJ (P:Program) (t:Nat):Bool:=match P.underlying t,P.info? t with
  | some d,some i=>!nm d && Nat.beq i.size 1
  | _,_=>false
class iw (P:Program) (t:TypeId) (n:outParam Nat):Prop where
  ok:rS P t n = true
class jI (P:Program) (t:TypeId):Prop where
  ok:uJ P t = true
class y6 (P:Program) (t:TypeId) (n:outParam Nat):Prop where
  ok:(P.info? t).map (·.size) = some n
section types
variable {P:Program} {t n:Nat}
theorem iw.get (h:rS P t n = true):∃d i,P.underlying t = some d∧nm d = true∧P.info? t = some i∧i.size = n:=by
  unfold rS at h
  split at h
  · rename_i d i h1 h2
    simp only [Bool.and_eq_true] at h
    exact ⟨d,i,h1,h.1,h2,Nat.eq_of_beq_eq_true h.2⟩
  · cases h
theorem jI.get (h:uJ P t = true):∃d i,P.underlying t = some d∧nm d = false∧P.info? t = some i∧i.size = 1:=by
  unfold uJ at h
  split at h
  · rename_i d i h1 h2
    simp only [Bool.and_eq_true,Bool.not_eq_true'] at h
    exact ⟨d,i,h1,h.1,h2,Nat.eq_of_beq_eq_true h.2⟩
  · cases h
instance (priority:=50) Hi [h:iw P t n]:y6 P t n:=⟨by obtain ⟨d,i,_,_,h3,h4⟩:=iw.get h.ok; simp [h3,h4]⟩
instance (priority:=40) Hh [h:jI P t]:y6 P t 1:=⟨by obtain ⟨d,i,_,_,h3,h4⟩:=jI.get h.ok; simp [h3,h4]⟩
theorem jw (w:World) [h:iw P t n]:(isAgg t).run P w = .ok true w:=by
  obtain ⟨d,i,h1,h2,_,_⟩:=iw.get h.ok
  unfold isAgg
  rw [Sem.run_bind,run_underlying h1 w]
  cases d <;> simp_all [nm]
theorem kK (w:World) [h:jI P t]:(isAgg t).run P w = .ok false w:=by
  obtain ⟨d,i,h1,h2,_,_⟩:=jI.get h.ok
  unfold isAgg
  rw [Sem.run_bind,run_underlying h1 w]
  cases d <;> simp_all [nm]
theorem run_sizeOf (w:World) [h:y6 P t n]:(sizeOf t).run P w = .ok n w:=by
  have:=h.ok
  cases hi:P.info? t with
  | none=>simp [hi] at this
  | some i=>simp [hi] at this; simp [sizeOf,typeInfo,hi,this]
end types
class jZ (H:List aL) (b:Nat) (T:outParam TypeId) (cs:outParam (List Value)):Prop where
  mem:aL.cells b T cs ∈ H
instance (priority:=100) Ed (b T cs) (H:List aL):jZ (.cells b T cs::H) b T cs:=⟨by simp⟩
instance (priority:=50) DN (r:aL) (H:List aL) (b T cs) [h:jZ H b T cs]:jZ (r::H) b T cs:=⟨by simp [h.mem]⟩
class qd (H:List aL) (b:Nat) (cs' : List Value) (H' : outParam (List aL)):Prop where
  ok:∃k T cs,H[k]? = some (.cells b T cs)∧H' = H.set k (.cells b T cs')
instance (priority:=100) D5 (b T cs cs') (H:List aL):qd (.cells b T cs::H) b cs' (.cells b T cs'::H):=⟨0,T,cs,rfl,rfl⟩
instance (priority:=50) DD (r:aL) (H H' : List aL) (b cs') [h:qd H b cs' H']:qd (r::H) b cs' (r::H'):=
  ⟨by obtain ⟨k,T,cs,h1,h2⟩:=h.ok; exact ⟨k + 1,T,cs,by simpa using h1,by simp [h2]⟩⟩
class MR (H:List aL) (v:Value) (e sz n:outParam Nat) (xs:outParam (List Value)):Prop where
  mem:aL.row v e sz n xs ∈ H
class MF (H:List aL) (v:Value) (r' : aL) (H' : outParam (List aL)):Prop where
  ok:∃k e sz n xs,H[k]? = some (.row v e sz n xs)∧H' = H.set k r'
class nO (H:List aL) (b:Nat) (o:outParam Obj):Prop where
  mem:aL.obj b o ∈ H
instance (priority:=100) Eb (b o) (H:List aL):nO (.obj b o::H) b o:=⟨by simp⟩
instance (priority:=50) DL (r:aL) (H:List aL) (b o) [h:nO H b o]:nO (r::H) b o:=⟨by simp [h.mem]⟩
class oq (H:List aL) (b:Nat) (o' : Obj) (H' : outParam (List aL)):Prop where
  ok:∃k o,H[k]? = some (.obj b o)∧H' = H.set k (.obj b o')
instance (priority:=100) D4 (b o o') (H:List aL):oq (.obj b o::H) b o' (.obj b o'::H):=⟨0,o,rfl,rfl⟩
instance (priority:=50) DC (r:aL) (H H' : List aL) (b o') [h:oq H b o' H']:oq (r::H) b o' (r::H'):=
  ⟨by obtain ⟨k,o,h1,h2⟩:=h.ok; exact ⟨k + 1,o,by simpa using h1,by simp [h2]⟩⟩
def Ptr (b off:Nat):Value:=.pointer (some ⟨b,off,none⟩)
attribute [reducible] Ptr
section ops
variable {P:Program} {N:Nat} {c:Cx} {F:cC} {H:List aL} {d:Option Tmp} {ty:TypeId} {p:String} {af:Array Edge} {g:Option (Nat × Bool)}
theorem ak {x:Operand} {v:Value} (hx:ev F x = some v):VS P N c ⟨d, .move x,ty,p,af,g⟩ F H v:=
  bh (by simp) fun a w hf _ _=>by simp [execOp,bp hf hx]
theorem aP {x:Operand} {v:Value} (hx:ev F x = some v):VS P N c ⟨d, .assign x,ty,p,af,g⟩ F H v:=
  bh (by simp) fun a w hf _ _=>by simp [execOp,bp hf hx]
theorem ec {x y:Operand} {b u:Bool} (hx:ev F x = some (.bool b)) (hy:ev F y = some (bif b == true then .bool u else undef)) :
    VS P N c ⟨d, .pick x y (.const (.bool false)),ty,p,af,g⟩ F H (.bool (b && u)):=
  bh (by simp) fun a w hf _ _=>by
    have e1:=bp hf hx
    have e2:=bp hf hy
    have e3:∀v,a.eval (.const v) = v:=fun _=>rfl
    cases b <;> (try simp at e2) <;> simp [execOp,e1,e2,e3,asBool]
theorem fC {x y:Operand} {b u:Bool} (hx:ev F x = some (.bool b)) (hy:ev F y = some (bif b == false then .bool u else undef)) :
    VS P N c ⟨d, .pick x (.const (.bool true)) y,ty,p,af,g⟩ F H (.bool (b || u)):=
  bh (by simp) fun a w hf _ _=>by
    have e1:=bp hf hx
    have e2:=bp hf hy
    have e3:∀v,a.eval (.const v) = v:=fun _=>rfl
    cases b <;> (try simp at e2) <;> simp [execOp,e1,e2,e3,asBool]
theorem iu {x:Operand} {b:Bool} (hx:ev F x = some (.bool b)) {T:TypeId}:VS P N c ⟨d, .unOp .not T x,ty,p,af,g⟩ F H (.bool (!b)):=
  bh (by simp) fun a w hf _ _=>by simp [execOp,bp hf hx,Op.unary]
section ints
variable {x y:Operand} {k:IntKind} {a b r:Int} {T U:TypeId}
theorem mD (hx:ev F x = some (.int k a)) (hy:ev F y = some (.int k b)) (h:k.wrap (a + b) = r):VS P N c ⟨d, .binOp .add T x y U,ty,p,af,g⟩ F H (.int k r):=
  bh (by simp) fun a' w hf _ _=>by simp [execOp,bp hf hx,bp hf hy,eqGuard,binOp,Op.intArith,h]
theorem r5 (hx:ev F x = some (.int k a)) (hy:ev F y = some (.int k b)) (h:k.wrap (a - b) = r):VS P N c ⟨d, .binOp .sub T x y U,ty,p,af,g⟩ F H (.int k r):=
  bh (by simp) fun a' w hf _ _=>by simp [execOp,bp hf hx,bp hf hy,eqGuard,binOp,Op.intArith,h]
theorem yL (hx:ev F x = some (.int k a)) (hy:ev F y = some (.int k b)) (h:k.wrap (a * b) = r):VS P N c ⟨d, .binOp .mul T x y U,ty,p,af,g⟩ F H (.int k r):=
  bh (by simp) fun a' w hf _ _=>by simp [execOp,bp hf hx,bp hf hy,eqGuard,binOp,Op.intArith,h]
theorem Az {op:BinOp} {v:Value} (hx:ev F x = some (.int k a)) (hy:ev F y = some (.int k b)) (ho:(op matches .and | .or | .xor | .andNot) = true)
    (h:∀P w,(Op.intBits op k a b).run P w = .ok v w):VS P N c ⟨d, .binOp op T x y U,ty,p,af,g⟩ F H v:=
  bh (by simp) fun a' w hf _ _=>by cases op <;> simp at ho <;> simp [execOp,bp hf hx,bp hf hy,eqGuard,binOp,h]
theorem Dt {k' : IntKind} (hx:ev F x = some (.int k a)) (hy:ev F y = some (.int k' b)) (h0:0 ≤ b) (h:k.wrap (a * 2 ^ (min b.toNat k.bits)) = r):VS P N c ⟨d, .binOp .shl T x y U,ty,p,af,g⟩ F H (.int k r):=
  bh (by simp) fun a' w hf _ _=>by simp [execOp,bp hf hx,bp hf hy,eqGuard,binOp,Op.shift,h,Int.not_lt.2 h0]
theorem Ds {k' : IntKind} (hx:ev F x = some (.int k a)) (hy:ev F y = some (.int k' b)) (h0:0 ≤ b) (h:a.fdiv (2 ^ (min b.toNat k.bits)) = r):VS P N c ⟨d, .binOp .shr T x y U,ty,p,af,g⟩ F H (.int k r):=
  bh (by simp) fun a' w hf _ _=>by simp [execOp,bp hf hx,bp hf hy,eqGuard,binOp,Op.shift,h,Int.not_lt.2 h0]
theorem dV (hx:ev F x = some (.int k a)) (hy:ev F y = some (.int k b)):VS P N c ⟨d, .binOp .eql T x y U,ty,p,af,g⟩ F H (.bool (a == b)):=
  bh (by simp) fun a' w hf _ _=>by simp [execOp,bp hf hx,bp hf hy,eqGuard,binOp,Op.intCmp]
theorem jG (hx:ev F x = some (.int k a)) (hy:ev F y = some (.int k b)):VS P N c ⟨d, .binOp .neq T x y U,ty,p,af,g⟩ F H (.bool (a != b)):=
  bh (by simp) fun a' w hf _ _=>by simp [execOp,bp hf hx,bp hf hy,eqGuard,binOp,Op.intCmp]
theorem mB (hx:ev F x = some (.int k a)) (hy:ev F y = some (.int k b)):VS P N c ⟨d, .binOp .lss T x y U,ty,p,af,g⟩ F H (.bool (decide (a < b))):=
  bh (by simp) fun a' w hf _ _=>by simp [execOp,bp hf hx,bp hf hy,eqGuard,binOp,Op.intCmp]
theorem r7 (hx:ev F x = some (.int k a)) (hy:ev F y = some (.int k b)):VS P N c ⟨d, .binOp .leq T x y U,ty,p,af,g⟩ F H (.bool (decide (a ≤ b))):=
  bh (by simp) fun a' w hf _ _=>by simp [execOp,bp hf hx,bp hf hy,eqGuard,binOp,Op.intCmp]
theorem uT (hx:ev F x = some (.int k a)) (hy:ev F y = some (.int k b)):VS P N c ⟨d, .binOp .gtr T x y U,ty,p,af,g⟩ F H (.bool (decide (b < a))):=
  bh (by simp) fun a' w hf _ _=>by simp [execOp,bp hf hx,bp hf hy,eqGuard,binOp,Op.intCmp]
theorem lE (hx:ev F x = some (.int k a)) (hy:ev F y = some (.int k b)):VS P N c ⟨d, .binOp .geq T x y U,ty,p,af,g⟩ F H (.bool (decide (b ≤ a))):=
  bh (by simp) fun a' w hf _ _=>by simp [execOp,bp hf hx,bp hf hy,eqGuard,binOp,Op.intCmp]
theorem Du (hx:ev F x = some (.int k a)) (h:k.wrap (0 - a) = r):VS P N c ⟨d, .unOp .neg T x,ty,p,af,g⟩ F H (.int k r):=
  bh (by simp) fun a' w hf _ _=>by simp at h; simp [execOp,bp hf hx,Op.unary,Op.intArith,h]
end ints
class yM (P:Program) (t:TypeId) (k:outParam IntKind):Prop where
  ok:P.underlying t = some (.int k)
class KQ (P:Program) (t:TypeId):Prop where
  ok:P.underlying t = some .bool
theorem Ay {x:Operand} {k k' : IntKind} {a r:Int} {S T:TypeId} (hx:ev F x = some (.int k a)) [hT:yM P T k'] [hS:yM P S k] (h:k'.wrap a = r) :
    VS P N c ⟨d, .convert S T x,ty,p,af,g⟩ F H (.int k' r):=
  bh (by simp) fun a' w hf _ _=>by
    have h1:=run_underlying hT.ok w
    have h2:=run_underlying hS.ok w
    simp [execOp,bp hf hx,convert,h1,h2,Conv.intToInt,h]
theorem aM {x:Operand} {vs:List Value} {i:Nat} {v:Value} (hx:ev F x = some (.tuple vs.toArray)) (hv:vs[i]? = some v):VS P N c ⟨d, .extract x i,ty,p,af,g⟩ F H v:=
  bh (by simp) fun a w hf _ _=>by simp [execOp,bp hf hx,Instr.extract,hv]
def rR (P:Program) (s f off:Nat):Bool:=match P.underlying s with
  | some (.struct fs)=>match fs[f]? with
    | some fl=>Nat.beq fl.offset off && (match P.info? fl.type with | some i=>!Nat.beq i.size 0 | none=>false)
    | none=>false
  | _=>false
class jo (P:Program) (s:TypeId) (f:Nat) (off:outParam Nat):Prop where
  ok:rR P s f off = true
theorem jo.get {s f off:Nat} (h:rR P s f off = true):∃fs fl i,P.underlying s = some (.struct fs)∧fs[f]? = some fl∧fl.offset = off∧P.info? fl.type = some i∧i.size ≠ 0:=by
  unfold rR at h
  split at h
  · rename_i fs h1
    split at h
    · rename_i fl h2
      split at h
      · rename_i i h3
        simp only [Bool.and_eq_true,Bool.not_eq_true'] at h
        exact ⟨fs,fl,i,h1,h2,Nat.eq_of_beq_eq_true h.1,h3,fun e=>by rw [e] at h; exact absurd h.2 (by decide)⟩
      · simp at h
    · cases h
  · cases h
theorem nR {s f fo b off:Nat} [h:jo P s f fo] (w:World):(Instr.fieldAt s (Ptr b off) f).run P w = .ok (Ptr b (off + fo)) w:=by
  obtain ⟨fs,fl,i,h1,h2,h3,h4,h5⟩:=jo.get h.ok
  simp [Instr.fieldAt,run_underlying h1,h2,Instr.sureAddr,fieldPlace,sizeOf,typeInfo,h4,h5,Addr.add_lit,h3]
theorem aK {x:Operand} {s f fo b:Nat} [jo P s f fo] (hx:ev F x = some (Ptr b 0)):VS P N c ⟨d, .fieldAddr s x f,ty,p,af,g⟩ F H (Ptr b fo):=
  bh (by simp) fun a w hf _ _=>by
    have:=nR (P:=P) (s:=s) (f:=f) (b:=b) (off:=0) w
    rw [Nat.zero_add] at this
    simp only [execOp,bp hf hx]
    simp [this]
theorem jH {x:Operand} {s f fo b off:Nat} [jo P s f fo] (hx:ev F x = some (Ptr b off)):VS P N c ⟨d, .fieldAddr s x f,ty,p,af,g⟩ F H (Ptr b (off + fo)):=
  bh (by simp) fun a w hf _ _=>by
    have:=nR (P:=P) (s:=s) (f:=f) (b:=b) (off:=off) w
    simp only [execOp,bp hf hx]
    simp [this]
def uM (P:Program) (t len e sz:Nat):Bool:=match P.underlying t with
  | some (.array l e')=>Nat.beq l len && Nat.beq e' e && (match P.info? e with | some i=>Nat.beq i.size sz | none=>false)
  | _=>false
class nK (P:Program) (t:TypeId) (len e sz:outParam Nat):Prop where
  ok:uM P t len e sz = true
theorem nK.get {t len e sz:Nat} (h:uM P t len e sz = true):∃i,P.underlying t = some (.array len e)∧P.info? e = some i∧i.size = sz:=by
  unfold uM at h
  split at h
  · rename_i l e' h1
    split at h
    · rename_i i h3
      simp only [Bool.and_eq_true] at h
      obtain ⟨⟨h4,h5⟩,h6⟩:=h
      rw [Nat.eq_of_beq_eq_true h4,Nat.eq_of_beq_eq_true h5] at h1
      exact ⟨i,h1,h3,Nat.eq_of_beq_eq_true h6⟩
    · simp at h
  · cases h
def vu (P:Program) (t e sz:Nat):Bool:=match P.underlying t with
  | some (.slice e')=>Nat.beq e' e && (match P.info? e with | some i=>Nat.beq i.size sz | none=>false)
  | _=>false
class pP (P:Program) (t:TypeId) (e sz:outParam Nat):Prop where
  ok:vu P t e sz = true
theorem pP.get {t e sz:Nat} (h:vu P t e sz = true):∃i,P.underlying t = some (.slice e)∧P.info? e = some i∧i.size = sz:=by
  unfold vu at h
  split at h
  · rename_i e' h1
    split at h
    · rename_i i h3
      simp only [Bool.and_eq_true] at h
      obtain ⟨h4,h6⟩:=h
      rw [Nat.eq_of_beq_eq_true h4] at h1
      exact ⟨i,h1,h3,Nat.eq_of_beq_eq_true h6⟩
    · simp at h
  · cases h
theorem kj {x y:Operand} {t len e sz b:Nat} {k:IntKind} {i:Int} {m:Nat} [h:nK P t len e sz] (hx:ev F x = some (Ptr b 0)) (hy:ev F y = some (.int k i)) (hi:i = (m:Int)) (hm:m < len) :
    VS P N c ⟨d, .indexAddr t x y,ty,p,af,g⟩ F H (Ptr b (m * sz)):=
  bh (by simp) fun a w hf _ _=>by
    obtain ⟨inf,h1,h2,h3⟩:=nK.get h.ok
    subst hi
    simp [execOp,bp hf hx,bp hf hy,Instr.indexAt,asIntOf,run_underlying h1,Instr.sureAddr,sizeOf,typeInfo,h2,h3,Addr.add_lit]
    intro hle
    omega
theorem g9 {x y:Operand} {t len e sz b off:Nat} {k:IntKind} {i:Int} {m:Nat} [h:nK P t len e sz] (hx:ev F x = some (Ptr b off)) (hy:ev F y = some (.int k i)) (hi:i = (m:Int)) (hm:m < len) :
    VS P N c ⟨d, .indexAddr t x y,ty,p,af,g⟩ F H (Ptr b (off + m * sz)):=
  bh (by simp) fun a w hf _ _=>by
    obtain ⟨inf,h1,h2,h3⟩:=nK.get h.ok
    subst hi
    simp [execOp,bp hf hx,bp hf hy,Instr.indexAt,asIntOf,run_underlying h1,Instr.sureAddr,sizeOf,typeInfo,h2,h3,Addr.add_lit]
    intro hle
    omega
theorem n8 {x:Operand} {a:Addr} (hx:ev F x = some (.pointer (some a))):VS P N c ⟨d, .nilCheck x,ty,p,af,g⟩ F H (.pointer (some a)):=
  bh (by simp) fun a w hf _ _=>by simp [execOp,bp hf hx]
theorem cell_of {w:World} {b T:Nat} {cs:List Value} (h:(aL.cells b T cs).holds w) (j:Nat):w.cell? ⟨b,j,none⟩ = cs[j]?:=by
  have:w.heap[b]? = some (.cells cs.toArray T (0,0)):=h
  simp [World.cell?,this]
theorem iY {t:TypeId} {a:Addr} {v:Value} {w:World} [jI P t] (h:w.cell? a = some v):(loadVar t a).run P w = .ok v w:=by
  simp [loadVar,kK,load,Sem.run,h]
theorem gE {t:TypeId} {b off n:Nat} {vs:List Value} {w:World} [iw P t n] (hl:vs.length = n) (h:∀(j:Nat) v,vs[j]? = some v→w.cell? ⟨b,off + j,none⟩ = some v) :
    (loadVar t ⟨b,off,none⟩).run P w = .ok (.agg vs.toArray) w:=by
  have hl' : (loadCells ⟨b,off,none⟩ vs.length).run P w = .ok vs.toArray w:=
    run_loadCells_list (P:=P) w ⟨b,off,none⟩ vs (fun j v hv=>by rw [Addr.add_lit]; exact h j v hv)
  have hs:(sizeOf t).run P w = .ok n w:=run_sizeOf w
  simp [loadVar,Sem.run_bind,jw,hs,← hl,hl']
theorem cQ {x:Operand} {t b off T:Nat} {cs:List Value} {v:Value} (hx:ev F x = some (Ptr b off)) [hr:jZ H b T cs] [jI P t] (hv:cs[off]? = some v):VS P N c ⟨d, .load t x,ty,p,af,g⟩ F H v:=
  bh (by simp) fun a w hf _ hp=>by
    have:=iY (P:=P) (t:=t) (a:=⟨b,off,none⟩) ((cell_of (hp.holds _ hr.mem) off).trans hv)
    simp [execOp,bp hf hx,Instr.loadAt,Instr.sureAddr,this]
theorem ay {x:Operand} {t b T n:Nat} {cs:List Value} (hx:ev F x = some (Ptr b 0)) [hr:jZ H b T cs] [iw P t n] (hl:cs.length = n):VS P N c ⟨d, .load t x,ty,p,af,g⟩ F H (.agg cs.toArray):=
  bh (by simp) fun a w hf _ hp=>by
    have:=gE (P:=P) (t:=t) (b:=b) (off:=0) (w:=w) hl (fun j v hv=>by rw [Nat.zero_add,cell_of (hp.holds _ hr.mem)]; exact hv)
    simp [execOp,bp hf hx,Instr.loadAt,Instr.sureAddr,this]
theorem bn {x:Operand} {t b off T n:Nat} {cs vs:List Value} (hx:ev F x = some (Ptr b off)) [hr:jZ H b T cs] [iw P t n] (hv:(cs.drop off).take n = vs) (hl:vs.length = n):VS P N c ⟨d, .load t x,ty,p,af,g⟩ F H (.agg vs.toArray):=
  bh (by simp) fun a w hf _ hp=>by
    have:=gE (P:=P) (t:=t) (b:=b) (off:=off) (w:=w) hl (fun j v hj=>by
      rw [cell_of (hp.holds _ hr.mem)]
      rw [← hv,List.getElem?_take] at hj
      split at hj
      · rwa [List.getElem?_drop] at hj
      · cases hj)
    simp [execOp,bp hf hx,Instr.loadAt,Instr.sureAddr,this]
def bw (cs:List Value) (off:Nat) (vs:List Value):List Value:=cs.take off++vs++cs.drop (off + vs.length)
def hO (vs:List Value):Prop:=∀v ∈ vs,v.oneCell' = true
theorem kJ {t b off T n:Nat} {cs vs:List Value} {v:Value} {w:World} [y6 P t n] (h:(aL.cells b T cs).holds w) (hv:v.cells.toList = vs) (hl:vs.length = n) (ho:off + n ≤ cs.length) (h1:hO vs) :
    ∃w',(storeVar t ⟨b,off,none⟩ v).run P w = .ok () w'∧(aL.cells b T (bw cs off vs)).holds w'∧aY [b] w w':=by
  have hb:w.heap[b]? = some (.cells cs.toArray T (0,0)):=h
  have hst:=run_storeCells_at P b off T vs 0 cs.toArray w hb (by simp; omega) h1
  simp only [Nat.add_zero] at hst
  have hs:(sizeOf t).run P w = .ok n w:=run_sizeOf w
  have hsz:v.cells.size = n:=by rw [← hl,← hv]; simp
  refine ⟨w.setRow b (bw cs off vs).toArray,?_,?_,?_⟩
  · simp only [storeVar,Sem.run_bind,hs,Result.andThen_ok,hsz,hv,ne_eq,not_true_eq_false,if_false]
    exact hst
  · have:=setRow_heap w b cs.toArray (bw cs off vs).toArray T (0,0) hb
    simpa [aL.holds,bw] using this
  · exact ⟨rfl,rfl,rfl,by simp,fun k _ hk=>setRow_other w b k _ (by simpa using hk)⟩
theorem bN.HB {bs:List Nat} {n0 b:Nat} {H H' : List aL} {cs' : List Value} {w w' : World} (h:bN bs n0 H w) (hs:qd H b cs' H') (hw:aY [b] w w') (hn:n0 ≤ w.heap.size)
    (hc:∀T cs,(aL.cells b T cs).holds w→(aL.cells b T cs').holds w'):bN bs n0 H' w':=by
  obtain ⟨k,T,cs,hk,rfl⟩:=hs.ok
  have hm:aL.cells b T cs ∈ H:=List.mem_of_getElem? hk
  refine h.set hk hw.size (fun j hj hne=>hw.block j hj hne) (hc T cs (h.holds _ hm)) hn (fun b' hb'=>?_)
  have e:b' = b:=by simpa [aL.fA] using hb'
  subst e
  exact ⟨.inl (by simp [aL.fA]),Nat.lt_of_lt_of_le (h.own _ hm b' (by simp [aL.fA])).2 hw.size⟩
theorem aY.store {bs:List Nat} {w0 w w' : World} {H:List aL} {r:aL} {b:Nat} (h:aY bs w0 w) (hp:bN bs w0.heap.size H w) (hm:r ∈ H) (hb:b ∈ r.fA) (hw:aY [b] w w'):aY bs w0 w':=
  h.trans hw (fun x hx=>by simp at hx; subst hx; exact (hp.own r hm _ hb).1)
theorem tj {w:World} {b T T' : Nat} {cs cs' : List Value} (h:(aL.cells b T cs).holds w) (h' : (aL.cells b T' cs').holds w):T = T'∧cs = cs':=by
  have h1:w.heap[b]? = some (.cells cs.toArray T (0,0)):=h
  have h2:w.heap[b]? = some (.cells cs'.toArray T' (0,0)):=h'
  rw [h1] at h2
  simp at h2
  exact ⟨h2.2,h2.1⟩
variable {D:List Deferred} {ops:Array Oper} {Q:Exit→Act→World→Prop} {rest:List Oper}
theorem lG {x y:Operand} {t b off T n:Nat} {cs vs cs' : List Value} {v:Value} {H' : List aL} (hx:ev F x = some (Ptr b off)) (hy:ev F y = some v) [hr:jZ H b T cs] [y6 P t n]
    (hv:v.cells.toList = vs) (hl:vs.length = n) (ho:off + n ≤ cs.length) (h1:hO vs) (hc:bw cs off vs = cs') [hs:qd H b cs' H'] :
    RX (α:=Unit) P N c ⟨d, .store t x y,ty,p,af,g⟩ F H (fun _=>True) (fun _=>undef) (fun _=>H'):=fun D a w next Q hst hk=>by
  obtain ⟨w',e1,e2,e3⟩:=kJ (P:=P) (t:=t) (off:=off) (hst.hp.holds _ hr.mem) hv hl ho h1
  refine qB (by simp) (w':=w') ?_ (hk () w' trivial (hst.si.store hst.hp hr.mem (by simp [aL.fA]) e3) (hst.hp.HB hs e3 hst.si.size ?_))
  · simp [execOp,bp hst.fr hx,bp hst.fr hy,Instr.storeAt,Instr.sureAddr,e1]
  · intro T' Mq hT
    have:=tj (hst.hp.holds _ hr.mem) hT
    obtain ⟨rfl,rfl⟩:=this
    rw [← hc]; exact e2
def rQ (P:Program) (t:Nat):Option (List Value):=(P.info? t).bind fun i=>i.zero.map fun z=>z.cells.toList
class cK (P:Program) (t:TypeId) (cs:outParam (List Value)):Prop where
  ok:rQ P t = some cs
theorem cK.get {t:Nat} {cs:List Value} (h:rQ P t = some cs):∃i z,P.info? t = some i∧i.zero = some z∧z.cells.toList = cs:=by
  unfold rQ at h
  cases hi:P.info? t with
  | none=>simp [hi] at h
  | some i =>
    cases hz:i.zero with
    | none=>simp [hi,hz] at h
    | some z=>simp [hi,hz] at h; exact ⟨i,z,rfl,hz,h⟩
theorem bN.box {bs:List Nat} {n0:Nat} {H:List aL} {w:World} (h:bN bs n0 H w) (t:TypeId) (cs:List Value) (hn:n0 ≤ w.heap.size):bN bs n0 (.cells w.heap.size t cs::H) (w.alloc (.cells cs.toArray t)):=
  h.fresh (aY.alloc _ _) (by show (w.heap.push _)[w.heap.size]? = _; simp) hn (fun b hb=>by
    have e:b = w.heap.size:=by simpa [aL.fA] using hb
    subst e
    exact ⟨Nat.le_refl _,by simp⟩)
theorem uX {x:Operand} {t:Nat} {v:Value} {cs:List Value} (hx:ev F x = some v) (hc:v.cells.toList = cs) :
    RX P N c ⟨d, .box t x,ty,p,af,g⟩ F H (fun _=>True) (fun b=>Ptr b 0) (fun b=>.cells b t cs::H):=fun D a w next Q hst hk=>by
  refine fS (by simp) (w':=w.alloc (.cells cs.toArray t)) ?_ (hk w.heap.size _ trivial (hst.si.ext (aY.alloc _ _)) (hst.hp.box t cs hst.si.size))
  subst hc
  simp [execOp,bp hst.fr hx,Instr.box,newVar,newRow,newObj,Sem.run]
theorem cH {x:Operand} {t:Nat} {cs:List Value} (hx:ev F x = some (.agg cs.toArray)) :
    RX P N c ⟨d, .box t x,ty,p,af,g⟩ F H (fun _=>True) (fun b=>Ptr b 0) (fun b=>.cells b t cs::H):=uX hx rfl
theorem vC {x:Operand} {t:Nat} {v:Value} (hx:ev F x = some v) (hc:v.cells.toList = [v]) :
    RX P N c ⟨d, .box t x,ty,p,af,g⟩ F H (fun _=>True) (fun b=>Ptr b 0) (fun b=>.cells b t [v]::H):=uX hx hc
theorem bK {t:Nat} {cs:List Value} [hz:cK P t cs] :
    RX P N c ⟨d, .alloc t,ty,p,af,g⟩ F H (fun _=>True) (fun b=>Ptr b 0) (fun b=>.cells b t cs::H):=fun D a w next Q hst hk=>by
  refine fS (by simp) (w':=w.alloc (.cells cs.toArray t)) ?_ (hk w.heap.size _ trivial (hst.si.ext (aY.alloc _ _)) (hst.hp.box t cs hst.si.size))
  obtain ⟨i,z,h1,h2,rfl⟩:=cK.get hz.ok
  simp [execOp,Instr.alloc,zeroValue,typeInfo,h1,h2,newVar,newRow,newObj,Sem.run]
theorem n9 {fn:Fn} {cap:List Operand} {vs:List Value} (hc:og F cap = some vs):VS P N c ⟨d, .makeFunc fn #[] cap.toArray,ty,p,af,g⟩ F H (.func fn #[] vs.toArray):=
  bh (by simp) fun a w hf _ _=>by simp [execOp,Instr.makeFunc,nA hf hc]
end ops
end Go.Bw
namespace Go.Bw
open Go Go.RowKit
def bz (H:List aL):List Nat:=H.flatMap aL.fA
structure Fn {α:Type} (P:Program) (f:Nat) (args:List Value) (pre:World→Prop) (l9:List aL) (p:α→Prop) (fv:α→Value) (fH:α→List aL):Prop where
  enter:∀args w,(callFunc f args).run P w = .ok (.enter f args) w
  calls:∀w,pre w→bN (bz l9) w.heap.size l9 w→Calls P f args.toArray w fun e w'=>∃x,p x∧e = .returned (fv x)∧aY (bz l9) w w'∧bN (bz l9) w.heap.size (fH x) w'
abbrev yW (P:Program) (f:Nat) (args:List Value) (v:Value):Prop:=Fn (α:=Unit) P f args (fun _=>True) [] (fun _=>True) (fun _=>v) (fun _=>[])
abbrev wU (P:Program) (f:Nat) (args:List Value) (pre:World→Prop) (v:Value):Prop:=Fn (α:=Unit) P f args pre [] (fun _=>True) (fun _=>v) (fun _=>[])
inductive jN (P:Program) (F:cC) (H:List aL):List ResultVar→List Value→Prop where
  | nil:jN P F H [] []
  | tmp {t:Nat} {v:Value} {rs:List ResultVar} {vs:List Value} (hv:lk F t = some v) (h:jN P F H rs vs):jN P F H (.tmp t::rs) (v::vs)
  | agg {t ty b T n:Nat} {cs:List Value} {rs:List ResultVar} {vs:List Value} (hv:lk F t = some (Ptr b 0)) (hr:jZ H b T cs) (ht:iw P ty n) (hl:cs.length = n) (h:jN P F H rs vs):jN P F H (.cell t ty::rs) (.agg cs.toArray::vs)
  | one {t ty b T:Nat} {v:Value} {cs:List Value} {rs:List ResultVar} {vs:List Value} (hv:lk F t = some (Ptr b 0)) (hr:jZ H b T cs) (ht:jI P ty) (hl:cs = [v]) (h:jN P F H rs vs):jN P F H (.cell t ty::rs) (v::vs)
def oR:List Value→Value
  | [v]=>v
  | vs=>.tuple vs.toArray
def oS (t:Array Value):ResultVar→Sem Value
  | .tmp k=>pure (t.getD k undef)
  | .cell a ty=>do loadVar ty (← asAddr (t.getD a undef))
theorem nQ {P:Program} {fn:Func} {F:cC} {H:List aL} {rs:List ResultVar} {vs:List Value} {t:Array Value} {bs:List Nat} {n0:Nat} {w:World} (hf:fn.results.toList = rs) (hF:lJ F t) (hp:bN bs n0 H w) (h:jN P F H rs vs) :
    (results fn t).run P w = .ok (oR vs) w:=by
  have get:∀{k:Nat} {v:Value},t[k]? = some v→t.getD k undef = v:=fun h=>by simp [h]
  have key:∀{rs vs},jN P F H rs vs→(rs.mapM (oS t)).run P w = .ok vs w:=by
    intro rs vs h
    induction h with
    | nil=>simp
    | tmp hv h ih =>
      have h1:oS t (.tmp _) = pure _:=congrArg pure (get (hF _ _ hv))
      simp only [List.mapM_cons,Sem.run_bind,h1,Sem.run_pure,Result.andThen_ok,ih]
    | @agg t' ty b T n cs Lg vs' hv hr ht hl h ih =>
      have h1:=get (hF _ _ hv)
      have h2:=gE (P:=P) (t:=ty) (off:=0) (w:=w) hl (fun j v hv=>by rw [Nat.zero_add,cell_of (hp.holds _ hr.mem)]; exact hv)
      simp only [List.mapM_cons,Sem.run_bind,oS,h1,asAddr,Sem.run_pure,h2,Result.andThen_ok,ih]
    | @one t' ty b T v cs Lg vs' hv hr ht hl h ih =>
      have h1:=get (hF _ _ hv)
      subst hl
      have h2:=iY (P:=P) (t:=ty) (a:=⟨b,0,none⟩) (v:=v) ((cell_of (hp.holds _ hr.mem) 0).trans rfl)
      simp only [List.mapM_cons,Sem.run_bind,oS,h1,asAddr,Sem.run_pure,h2,Result.andThen_ok,ih]
  have hr:fn.results = rs.toArray:=by rw [← hf]
  have hk:=key h
  show (do let vs ← fn.results.mapM (oS t); pure (if h:vs.size = 1 then vs[0] else .tuple vs):Sem Value).run P w = _
  rw [hr,List.mapM_toArray]
  simp only [Sem.run_bind,Sem.run_map,hk,Result.andThen_ok]
  match vs with
  | []=>simp [oR]
  | [v]=>simp [oR]
  | u::v::r=>simp [oR]
def Bs {α:Type} (c:Cx) (p:α→Prop) (fv:α→Value) (fH:α→List aL):Ending→World→Prop:=
  fun e w'=>∃x,p x∧e = .returned (fv x)∧aY c.bs c.w0 w'∧bN c.bs c.w0.heap.size (fH x) w'
def Post {α:Type} (P:Program) (c:Cx) (fn:Func) (p:α→Prop) (fv:α→Value) (fH:α→List aL):Exit→Act→World→Prop:=
  bodyPostM (FA none) 0 P fn (Bs c p fv fH)
section
variable {α:Type} {P:Program} {N:Nat} {c:Cx} {fn:Func} {p:α→Prop} {fv:α→Value} {fH:α→List aL} {F:cC} {H:List aL}
theorem nk {a:Act} {w:World} {vs:List Value} {rs:List ResultVar} (hst:St N c [] F H a w) (x:α) (hf:fn.results.toList = rs) (hr:jN P F H rs vs) (hp:p x) (hv:oR vs = fv x) {ks:List Nat}
    (hk:pick H ks = some (fH x)) (hn:ks.Nodup):LeavesInM (FA none) 0 P fn a.tmps (Bs c p fv fH) [] .returning w:=
  ⟨_,nQ hf hst.fr hst.hp hr,x,hp,by rw [hv],hst.si,hst.hp.pick hk hn⟩
theorem cg (x:α) {vs:List Value} {rs:List ResultVar} (hf:fn.results.toList = rs) (hr:jN P F H rs vs) (hp:p x) (hv:oR vs = fv x) {ks:List Nat} (hk:pick H ks = some (fH x)) (hn:ks.Nodup) :
    WQ N c [] (Post P c fn p fv fH) .ret F H:=fun a w hst=>by
  show LeavesInM (FA none) 0 P fn a.tmps _ a.defers .returning w
  rw [hst.df]
  exact nk hst x hf hr hp hv hk hn
theorem pJ (x:α) {vs:List Value} {rs:List ResultVar} (hf:fn.results.toList = rs) (hr:jN P F H rs vs) (hp:p x) (hv:oR vs = fv x) {ks:List Nat} (hk:pick H ks = some (fH x)) (hn:ks.Nodup) :
    WQ N c [] (Post P c fn p fv fH) .normal F H:=fun a w hst=>by
  show LeavesInM (FA none) 0 P fn a.tmps _ a.defers .returning w
  rw [hst.df]
  exact nk hst x hf hr hp hv hk hn
def mark (d:Nat):Deferred:={ target:=.collected d,args:=#[] }
theorem St.BI {D:List Deferred} {a:Act} {w:World} {d:Nat} {o' : Obj} {H' : List aL} (hst:St N c D F H a w) [ho:nO H d (.deferred (some []))] (hs:oq H d o' H') :
    St N c D F H' a (w.putObj d o'):=by
  have hm:=hst.hp.holds _ ho.mem
  have hd:w.heap[d]? = some (.deferred (some [])):=hm
  have hlt:=(Array.getElem?_eq_some_iff.1 hd).1
  have lT:aY [d] w (w.putObj d o'):=⟨rfl,rfl,rfl,by simp [World.putObj],fun k _ hk=>World.putObj_heap_other (by simpa using hk)⟩
  refine ⟨hst.tm,hst.fr,hst.df,hst.si.store hst.hp ho.mem (by simp [aL.fA]) lT,?_⟩
  obtain ⟨k,o,hk,rfl⟩:=hs.ok
  refine hst.hp.set hk lT.size (fun j hj hne=>lT.block j hj hne) (World.putObj_heap_same hlt) hst.si.size (fun b hb=>?_)
  have e:b = d:=by simpa [aL.fA] using hb
  subst e
  exact ⟨.inl (by simp [aL.fA]),by rw [World.putObj]; simpa using hlt⟩
theorem uc {D:List Deferred} {a:Act} {w:World} {d:Nat} {H' : List aL} (hst:St N c (mark d::D) F H a w) [nO H d (.deferred (some []))] [hs:oq H d (.deferred none) H'] {R:Ending→World→Prop}
    (h:St N c (mark d::D) F H' a (w.putObj d (.deferred none))→LeavesInM (FA none) 0 P fn a.tmps R D .returning (w.putObj d (.deferred none))) :
    LeavesInM (FA none) 0 P fn a.tmps R (mark d::D) .returning w:=by
  have ho:nO H d (.deferred (some [])):=inferInstance
  have hd:w.heap[d]? = some (.deferred (some [])):=hst.hp.holds _ ho.mem
  exact ⟨by simp, .inl ⟨d,_,rfl,run_takeDeferred hd,h (hst.BI hs)⟩⟩
theorem iA (x:α) {d:Nat} {H' : List aL} [nO H d (.deferred (some []))] [hs:oq H d (.deferred none) H'] {vs:List Value} {rs:List ResultVar} (hf:fn.results.toList = rs) (hr:jN P F H' rs vs) (hp:p x) (hv:oR vs = fv x) {ks:List Nat} (hk:pick H' ks = some (fH x)) (hn:ks.Nodup) :
    WQ N c [mark d] (Post P c fn p fv fH) .ret F H:=fun a w hst=>by
  show LeavesInM (FA none) 0 P fn a.tmps _ a.defers .returning w
  rw [hst.df]
  exact uc (hs:=hs) hst fun h=>nk (a:={ a with defers:=[] }) ⟨h.tm,h.fr,rfl,h.si,h.hp⟩ x hf hr hp hv hk hn
end
def uA:Nat→List Value→cC
  | _,[]=>[]
  | i,v::r=>(i,v)::uA (i + 1) r
theorem vn:∀(args:List Value) (i d:Nat) (v:Value),lk (uA i args) d = some v→i ≤ d∧args[d - i]? = some v:=by
  intro args
  induction args with
  | nil=>intro i d v h; simp [uA,lk] at h
  | cons u r ih =>
    intro i d v h
    simp only [uA,lk] at h
    by_cases e:i = d
    · subst e; simp at h; subst h; simp
    · rw [jE e] at h
      obtain ⟨h1,h2⟩:=ih (i + 1) d v h
      exact ⟨by omega,by rw [show d - i = (d - (i + 1)) + 1 from by omega]; simpa using h2⟩
theorem eF {α:Type} {P:Program} {f:Nat} {fn:Func} {code:Code} {N:Nat} {args:List Value} {pre:World→Prop} {l9:List aL} {p:α→Prop} {fv:α→Value} {fH:α→List aL}
    (hf:P.funcs[f]? = some fn) (hname:(fn.name == "runtime.NumGoroutine") = false) (hb:fn.body = some code) (hN:fn.ntmps = N) (ha:Nat.ble args.length N = true)
    (h:∀c:Cx,c.bs = bz l9→pre c.w0→c.ro = none→WP P N c [] code (Post P c fn p fv fH) (uA 0 args) l9):Fn P f args pre l9 p fv fH:=by
  refine ⟨fun args w=>?_,fun w hw hH=>?_⟩
  · have h1:fn.name ≠ "runtime.NumGoroutine":=by simpa using hname
    simp [callFunc,hf,h1,hb,Go.mark]
  · refine (callsIn_wide (n:=0)).1 (callsIn_of_wp_marks (F:=Fence.wide) hf hb trivial ?_)
    refine h ⟨none,w,bz l9⟩ rfl hw rfl _ w ⟨?_,?_,rfl,aY.refl _ _,hH⟩
    · have:=Nat.le_of_ble_eq_true ha
      simp; omega
    · intro d v hd
      obtain ⟨_,h2⟩:=vn args 0 d v hd
      simp only [Nat.sub_zero] at h2
      have hlt:=(List.getElem?_eq_some_iff.1 h2).1
      rw [Array.getElem?_append_left (by simpa using hlt)]
      simpa using h2
section
variable {α:Type} {P:Program} {N:Nat} {c:Cx} {F:cC} {H:List aL} {d:Option Tmp} {ty:TypeId} {ps:String} {af:Array Edge} {g:Option (Nat × Bool)}
theorem ij {P:Program} {f:Nat} {args:Array Value} {w:World} {R:Ending→World→Prop} (ro:Option Nat) (h:Calls P f args w R):CallsIn (FA ro) 0 P f args w R:=
  ⟨trivial,fun cs _=>by
    obtain ⟨e,w',fr,r,s,x⟩:=((callsIn_wide (n:=0)).2 h).2 cs (room_wide _)
    exact ⟨e,w',fr,r,s,x⟩⟩
theorem yS {x:Operand} {args:List Operand} {ats:Array TypeId} {f:Nat} {fst cap:Array Value} {us vs:List Value} {pre:World→Prop} {p:α→Prop} {fv:α→Value} {fH:α→List aL}
    (hc:Fn P f vs pre [] p fv fH) (hx:ev F x = some (.func (.func f) fst cap)) (ha:og F args = some us) (hv:fst.toList++us++cap.toList = vs)
    (hpre:∀w,aY c.bs c.w0 w→bN c.bs c.w0.heap.size H w→pre w) :
    RX P N c ⟨d, .call ⟨.value x,args.toArray,ats⟩,ty,ps,af,g⟩ F H p fv (fun i=>fH i++H):=fun D a w next Q hst hk=>by
  refine ⟨fun _ _=>trivial,?_⟩
  have hs:Oper.semAt (FA c.ro).round a.eval (⟨d, .call ⟨.value x,args.toArray,ats⟩,ty,ps,af,g⟩ : Oper) = execOp a.eval ⟨d, .call ⟨.value x,args.toArray,ats⟩,ty,ps,af,g⟩:=Oper.semAt_eq _ _ _ (by simp)
  have hr:(execOp a.eval ⟨d, .call ⟨.value x,args.toArray,ats⟩,ty,ps,af,g⟩).run P w = .ok (.enter f vs.toArray) w:=by
    have e1:=bp hst.fr hx
    have e2:=nA hst.fr ha
    have e3:fst++(args.toArray.map a.eval)++cap = vs.toArray:=by
      rw [← hv,← e2]
      simp
    simp only [execOp,resolve,e1,Deferred.ofValue,Sem.run_bind,Sem.run_pure,Result.andThen_ok,invoke,e3]
    exact hc.enter _ _
  rw [hs,hr]
  refine ⟨fun h=>by simp at h,ij c.ro ?_⟩
  have s7:=hc.calls w (hpre w hst.si hst.hp) (bN.nil _ _ _)
  intro cs
  obtain ⟨e,w',fr,⟨i,hp,he,hsi,hh⟩,rest⟩:=s7 cs
  refine ⟨e,w',fr,?_,rest⟩
  subst he
  refine hk i w' hp (hst.si.ext hsi) ?_
  have hH:=hst.hp.ext hsi
  refine ⟨fun r hm=>?_,fun r hm b hb=>?_,?_⟩
  · rcases List.mem_append.1 hm with h1 | h1
    · exact hh.holds r h1
    · exact hH.holds r h1
  · rcases List.mem_append.1 hm with h1 | h1
    · obtain ⟨o,l⟩:=hh.own r h1 b hb
      simp [bz] at o
      exact ⟨.inr (Nat.le_trans hst.si.size o),l⟩
    · exact hH.own r h1 b hb
  · refine List.pairwise_append.2 ⟨hh.apart,hH.apart,fun r h1 s h2 b hb zS=>?_⟩
    have l:=(hst.hp.own s h2 b zS).2
    obtain ⟨o,_⟩:=hh.own r h1 b hb
    simp [bz] at o
    omega
theorem fK {args:List Operand} {ats:Array TypeId} {f:Nat} {vs:List Value} {pre:World→Prop} {p:α→Prop} {fv:α→Value} {fH:α→List aL}
    (hc:Fn P f vs pre [] p fv fH) (ha:og F args = some vs) (hpre:∀w,aY c.bs c.w0 w→bN c.bs c.w0.heap.size H w→pre w) :
    RX P N c ⟨d, .call ⟨.value (.func f),args.toArray,ats⟩,ty,ps,af,g⟩ F H p fv (fun i=>fH i++H):=
  yS (fst:=#[]) (cap:=#[]) (us:=vs) hc rfl ha (by simp) hpre
theorem bZ {args:List Operand} {ats:Array TypeId} {f:Nat} {vs:List Value} {v:Value} {pre:World→Prop} (hc:wU P f vs pre v) (ha:og F args = some vs) (hpre:∀w,aY c.bs c.w0 w→bN c.bs c.w0.heap.size H w→pre w) :
    VS P N c ⟨d, .call ⟨.value (.func f),args.toArray,ats⟩,ty,ps,af,g⟩ F H v:=fun D a w next Q hst hk=>by
  refine ⟨fun _ _=>trivial,?_⟩
  have hs:Oper.semAt (FA c.ro).round a.eval (⟨d, .call ⟨.value (.func f),args.toArray,ats⟩,ty,ps,af,g⟩ : Oper) = execOp a.eval ⟨d, .call ⟨.value (.func f),args.toArray,ats⟩,ty,ps,af,g⟩:=Oper.semAt_eq _ _ _ (by simp)
  have hr:(execOp a.eval ⟨d, .call ⟨.value (.func f),args.toArray,ats⟩,ty,ps,af,g⟩).run P w = .ok (.enter f vs.toArray) w:=by
    have e2:=nA hst.fr ha
    have e1:a.eval (.func f) = .func (.func f) #[] #[]:=rfl
    have e3:#[]++(args.toArray.map a.eval)++#[] = vs.toArray:=by rw [← e2]; simp
    simp only [execOp,resolve,e1,Deferred.ofValue,Sem.run_bind,Sem.run_pure,Result.andThen_ok,invoke,e3]
    exact hc.enter _ _
  rw [hs,hr]
  refine ⟨fun h=>by simp at h,ij c.ro ?_⟩
  have s7:=hc.calls w (hpre w hst.si hst.hp) (bN.nil _ _ _)
  intro cs
  obtain ⟨e,w',fr,⟨i,hp,he,hsi,hh⟩,rest⟩:=s7 cs
  refine ⟨e,w',fr,?_,rest⟩
  subst he
  exact hk w' hsi
end
end Go.Bw
namespace Go.Bw
open Go Go.RowKit
theorem qJ {F:cC}:∀{ks:List Nat} {d:Nat} {v:Value},d ∈ ks→lk F d = some v→lk (iF F ks) d = some v:=by
  intro ks
  induction ks with
  | nil=>intro d v h; simp at h
  | cons k r ih =>
    intro d v h hl
    simp only [iF]
    by_cases e:k = d
    · subst e; rw [hl]; simp [lk]
    · have hm:d ∈ r:=by simpa [Ne.symm e] using h
      split
      · simp only [lk,jE e,cond_false]; exact ih hm hl
      · exact ih hm hl
section
variable (ops:Array Oper)
def rV (i:Nat):List Nat:=match ops[i]? with
  | some o=>(o.after.toList.filter fun e=>Region.binds .any e).map (·.on)
  | none=>[]
def ia (i:Nat):Option Nat:=(ops[i]?).bind (·.dst)
end
variable {P:Program} {N:Nat} {c:Cx} {D:List Deferred} {ops:Array Oper} {Q:Exit→Act→World→Prop}
def VG (P:Program) (N:Nat) (c:Cx) (ops:Array Oper) (o:Oper) (F:cC) (H:List aL) (v:Value):Prop:=
  ∀D a w next Q,St N c D F H a w→(∀w',aY [] w w'→next (a.put o.dst v) w')→if Region.wanted o (yielded ops a.tmps) then o.wpIn (FA c.ro) 0 P a w next Q else next (a.put o.dst undef) w
theorem kH {o:Oper} {F:cC} {H:List aL} {v:Value} (hg:o.guard = none) (h:VS P N c o F H v):VG P N c ops o F H v:=fun D a w next Q hst hk=>by
  simp only [Region.wanted,hg,if_true]
  exact h D a w next Q hst hk
theorem nJ {o:Oper} {F:cC} {H:List aL} {v:Value} {b:Bool} (hg:Gd ops F o.guard b) (h:b = true→VS P N c o F H v):VG P N c ops o F H (bif b then v else undef):=fun D a w next Q hst hk=>by
  rw [hg o a rfl hst.fr]
  cases b with
  | false=>exact hk w (aY.refl _ _)
  | true=>exact h rfl D a w next Q hst hk
def RG {α:Type} (P:Program) (N:Nat) (c:Cx) (ops:Array Oper) (o:Oper) (F:cC) (H:List aL) (p:α→Prop) (fv:α→Value) (fH:α→List aL):Prop:=
  ∀D a w next Q,St N c D F H a w→(∀x w',p x→aY c.bs c.w0 w'→bN c.bs c.w0.heap.size (fH x) w'→next (a.put o.dst (fv x)) w')→if Region.wanted o (yielded ops a.tmps) then o.wpIn (FA c.ro) 0 P a w next Q else next (a.put o.dst undef) w
theorem AI {α:Type} {o:Oper} {F:cC} {H:List aL} {p:α→Prop} {fv:α→Value} {fH:α→List aL} (hg:o.guard = none) (h:RX P N c o F H p fv fH):RG P N c ops o F H p fv fH:=fun D a w next Q hst hk=>by
  simp only [Region.wanted,hg,if_true]
  exact h D a w next Q hst hk
abbrev Fl:=Nat × List Nat
def nM (P:Program) (N:Nat) (c:Cx) (ops:Array Oper) (F:cC) (H:List aL):List Fl→Prop
  | []=>True
  | (i,ks)::r=>(∃o d v,ops[i]? = some o∧o.dst = some d∧lk F d = some v∧VG P N c ops o (iF F ks) H v)∧nM P N c ops F H r
def gQ (P:Program) (N:Nat) (c:Cx) (ops:Array Oper) (H:List aL):List Fl→cC→(cC→Prop)→Prop
  | [],F,K=>K F
  | (i,ks)::r,F,K=>∃o d v,ops[i]? = some o∧o.dst = some d∧Nat.blt d N = true∧VG P N c ops o (iF F ks) H v∧gQ P N c ops H r ((d,v)::F) K
inductive Tr where
  | fin (re new:List Fl)
  | oQ (re new:List Fl) (t:Tr)
  | alt (s:Nat) (ks:List Nat) (here more:Tr)
  | no
def Tr.alts:Tr→List Nat
  | .alt s _ _ more=>s::more.alts
  | _=>[]
def Tr.qn:Tr→Bool
  | .fin _ _=>true
  | .oQ _ _ _=>true
  | _=>false
def nL (P:Program) (N:Nat) (c:Cx) (D:List Deferred) (ops:Array Oper) (Q:Exit→Act→World→Prop):Tr→cC→List aL→Prop
  | .fin re new,F,H=>nM P N c ops F H re∧gQ P N c ops H new F fun F'=>WQ N c D Q .normal F' H
  | .oQ re new t,F,H=>nM P N c ops F H re∧gQ P N c ops H new F fun F'=>nL P N c D ops Q t F' H
  | .alt s ks here more,F,H=>(∃(o:Oper) (α:Type) (p:α→Prop) (fv:α→Value) (fH:α→List aL),ops[s]? = some o∧DY N o.dst = true∧RG P N c ops o (iF F ks) H p fv fH∧∀x,p x→nL P N c D ops Q here (pt o.dst (fv x) F) (fH x))∧nL P N c D ops Q more F H
  | .no,_,_=>True
def Hg (ops:Array Oper) (s:Nat):List Nat:=(List.range s).reverse.foldl (fun acc j=>if (rV ops s).contains j || acc.any (fun k=>(rV ops k).contains j) then j::acc else acc) []
def j8 (ops:Array Oper) (pu:List Nat) (i d:Nat):Bool:=pu.all fun j=>!(ia ops j == some d) || (rV ops i).contains j
def ng (ops:Array Oper) (pu:List Nat):(seen:List Nat)→List Fl→Bool
  | _,[]=>true
  | seen,(i,ks)::r=>(rV ops i).all seen.contains && !seen.contains i && pu.contains i && ks.all (j8 ops pu i) && ng ops pu (i::seen) r
def xp (ops:Array Oper) (pu:List Nat):Tr→(en kP jg:List Nat)→Bool
  | .fin re new,en,kP,jg=>kP.all (re.map (·.1)).contains && re.all (fun q=>q.2.all (j8 ops pu q.1)) && ng ops pu (en++jg) new &&
      (List.range ops.size).all fun i=>en.contains i || (new.map (·.1)).contains i || jg.contains i
  | .oQ re new t,en,kP,jg =>
    kP.all (re.map (·.1)).contains && re.all (fun q=>q.2.all (j8 ops pu q.1)) && ng ops pu (en++jg) new &&
    (List.range ops.size).all (fun i=>t.alts.contains i || (new.map (·.1)).contains i || en.contains i || jg.contains i || (rV ops i).any fun j=>!((new.map (·.1)).contains j || en.contains j || jg.contains j)) &&
    !t.alts.isEmpty && xp ops pu t (en++new.map (·.1)) (kP++new.map (·.1)) jg
  | .alt s ks here more,en,kP,jg=>ks.all (j8 ops pu s) && !pu.contains s && !jg.contains s && here.qn && xp ops pu here en (kP.filter fun i=>!(Hg ops s).contains i) (s::jg) && xp ops pu more en kP jg
  | .no,_,_,_=>true
def zA (ops:Array Oper) (pu:List Nat):Bool:=
  (List.range ops.size).all (fun i=>(rV ops i).all fun j=>Nat.blt j i) &&
  pu.all fun j=>(List.range ops.size).all fun i=>i == j || !(ia ops i == ia ops j) || (ia ops j).isNone
def qz:Tr→List Nat
  | .fin _ new=>new.map (·.1)
  | .oQ _ new t=>new.map (·.1)++qz t
  | .alt _ _ here more=>qz here++qz more
  | .no=>[]
def AZ (ops:Array Oper) (t:Tr):Bool:=t.qn && zA ops (qz t) && xp ops (qz t) t [] [] []
def dn (l:Array Bool) (j:Nat):Prop:=l.getD j false = true
theorem gK {l:Array Bool} {i j:Nat} (hi:i < l.size):dn (l.setIfInBounds i true) j↔dn l j∨j = i:=by
  unfold dn
  simp only [Array.getD_eq_getD_getElem?,Array.getElem?_setIfInBounds]
  by_cases e:i = j
  · subst e; simp [hi]
  · simp [e,Ne.symm e]
theorem mem_ready {l:Array Bool} {i:Nat} (hs:l.size = ops.size):i ∈ Region.ready .any ops l↔i < ops.size∧¬ dn l i∧∀j ∈ rV ops i,dn l j:=by
  unfold Region.ready dn rV
  simp only [List.mem_filter,List.mem_range,Bool.and_eq_true,Bool.not_eq_true']
  constructor
  · rintro ⟨h1,h2,h3⟩
    have hi:i < l.size:=by omega
    refine ⟨h1,?_,?_⟩
    · simp [Array.getD_eq_getD_getElem?,hi] at h2 ⊢; exact h2
    · cases ho:ops[i]? with
      | none=>simp
      | some o =>
        simp only [ho,Option.map_some,Option.getD_some,Array.all_eq_true'] at h3
        simp only [List.mem_map,List.mem_filter]
        rintro j ⟨e,⟨he,hb⟩,rfl⟩
        have:=h3 e (by simpa using he)
        simpa [hb] using this
  · rintro ⟨h1,h2,h3⟩
    have hi:i < l.size:=by omega
    have ho:ops[i]? = some ops[i]:=Array.getElem?_eq_getElem h1
    refine ⟨h1,?_,?_⟩
    · simp [Array.getD_eq_getD_getElem?,hi] at h2 ⊢; exact h2
    · simp only [ho,Option.map_some,Option.getD_some,Array.all_eq_true']
      simp only [ho,List.mem_map,List.mem_filter] at h3
      intro e he
      cases hb:Region.binds .any e with
      | false=>simp
      | true=>simp only [Bool.not_true,Bool.false_or]; exact h3 e.on ⟨e,⟨by simpa using he,hb⟩,rfl⟩
theorem yC {l:Array Bool} {s:Nat} (Jk:∀j,dn l j→∀k ∈ rV ops j,dn l k) (hs:∀j ∈ rV ops s,dn l j):∀j ∈ Hg ops s,dn l j:=by
  have key:∀(L:List Nat) (acc:List Nat),(∀j ∈ acc,dn l j)→∀j ∈ L.foldl (fun acc j=>if (rV ops s).contains j || acc.any (fun k=>(rV ops k).contains j) then j::acc else acc) acc,dn l j:=by
    intro L
    induction L with
    | nil=>intro acc h; exact h
    | cons x L ih =>
      intro acc h
      simp only [List.foldl_cons]
      refine ih _ ?_
      split
      · rename_i hc
        intro j hj
        rcases List.mem_cons.1 hj with rfl | hj
        · simp only [Bool.or_eq_true,List.contains_eq_mem,decide_eq_true_eq,List.any_eq_true] at hc
          rcases hc with hc | ⟨k,hk,hc⟩
          · exact hs _ hc
          · exact Jk k (h k hk) _ hc
        · exact h j hj
      · exact h
  exact key _ [] (by simp)
structure Inv (P:Program) (N:Nat) (c:Cx) (D:List Deferred) (ops:Array Oper) (pu en pn jg:List Nat) (l:Array Bool) (F:cC) (H:List aL) (a:Act) (w:World):Prop where
  size:l.size = ops.size
  seen:∀j,dn l j→j ∈ en∨j ∈ jg
  sp:∀j ∈ jg,dn l j
  kP:∀j ∈ en,¬ dn l j→j ∈ pn
  wo:∀j ∈ en,j ∈ pu
  back:∀j ∈ en,∀k ∈ rV ops j,k ∈ en∨k ∈ jg
  tm:a.tmps.size = N
  df:a.defers = D
  si:aY c.bs c.w0 w
  hp:bN c.bs c.w0.heap.size H w
  cl:∀j,dn l j→∀k ∈ rV ops j,dn l k
  fr:∀d v,lk F d = some v→(∀j ∈ en,ia ops j = some d→dn l j)→a.tmps[d]? = some v
def AB (P:Program) (N:Nat) (c:Cx) (ops:Array Oper) (pu:List Nat) (F:cC) (H:List aL) (j:Nat):Prop:=
  ∃ks o d v,ops[j]? = some o∧o.dst = some d∧Nat.blt d N = true∧lk F d = some v∧VG P N c ops o (iF F ks) H v∧∀k ∈ ks,j8 ops pu j k = true
theorem Inv.st {pu en pn jg:List Nat} {l:Array Bool} {F:cC} {H:List aL} {a:Act} {w:World} (h:Inv P N c D ops pu en pn jg l F H a w) {i:Nat} {ks:List Nat} (hk:∀k ∈ ks,j8 ops pu i k = true)
    (hr:∀j ∈ rV ops i,dn l j):St N c D (iF F ks) H a w:=by
  refine ⟨h.tm,fun d v hd=>?_,h.df,h.si,h.hp⟩
  obtain ⟨h1,h2⟩:=ry hd
  refine h.fr d v h2 fun j hj oe=>?_
  have:=hk d h1
  simp only [j8,List.all_eq_true,Bool.or_eq_true,Bool.not_eq_true',List.contains_eq_mem,decide_eq_true_eq] at this
  rcases this j (h.wo j hj) with h3 | h3
  · rw [oe] at h3; simp at h3
  · exact hr j h3
theorem sM {pu:List Nat} (h:zA ops pu = true) {i j:Nat} (hi:i < ops.size) (hj:j ∈ rV ops i):j < i:=by
  simp only [zA,Bool.and_eq_true,List.all_eq_true,List.mem_range] at h
  have:=h.1 i hi j hj
  simpa [Nat.blt_eq] using this
theorem vl {pu:List Nat} (h:zA ops pu = true) {i j d:Nat} (hj:j ∈ pu) (hi:ia ops i = some d) (hd:ia ops j = some d):i = j:=by
  simp only [zA,Bool.and_eq_true,List.all_eq_true,List.mem_range] at h
  have hlt:i < ops.size:=by
    unfold ia at hi
    cases ho:ops[i]? with
    | none=>simp [ho] at hi
    | some o=>exact (Array.getElem?_eq_some_iff.1 ho).1
  have:=h.2 j hj i hlt
  rw [hi,hd] at this
  simpa using this
theorem mQ {i:Nat} {o:Oper} {d:Nat} (ho:ops[i]? = some o) (hd:o.dst = some d):ia ops i = some d:=by simp [ia,ho,hd]
theorem vZ {pu:List Nat} (hD:zA ops pu = true) {H:List aL} {K:cC→Prop}:∀{new:List Fl} {seen:List Nat} {F:cC},gQ P N c ops H new F K→ng ops pu seen new = true →
    ∃F2,K F2∧(∀i ∈ new.map (·.1),i ∈ pu∧i ∉ seen) ∧
      (∀d,(∀j ∈ new.map (·.1),ia ops j ≠ some d)→lk F2 d = lk F d) ∧
      (∀i ∈ new.map (·.1),AB P N c ops pu F2 H i)∧(∀i ∈ new.map (·.1),∀k ∈ rV ops i,k ∈ seen∨k ∈ new.map (·.1)):=by
  intro new
  induction new with
  | nil=>intro seen F h _; exact ⟨F,h,by simp,by simp,by simp,by simp⟩
  | cons q r ih =>
    obtain ⟨i,ks⟩:=q
    intro seen F h hc
    obtain ⟨o,d,v,ho,hd,hN,hv,hn⟩:=h
    simp only [ng,Bool.and_eq_true,Bool.not_eq_true',List.all_eq_true,List.contains_eq_mem,decide_eq_true_eq,decide_eq_false_iff_not] at hc
    obtain ⟨⟨⟨⟨h1,h2⟩,h3⟩,h4⟩,h5⟩:=hc
    obtain ⟨F2,k1,k2,k3,k4,k5⟩:=ih hn h5
    have FR:=mQ ho hd
    refine ⟨F2,k1,?_,?_,?_,?_⟩
    · intro j hj
      rcases List.mem_cons.1 hj with rfl | hj
      · exact ⟨h3,h2⟩
      · obtain ⟨e1,e2⟩:=k2 j hj
        exact ⟨e1,fun hm=>e2 (by simp [hm])⟩
    · intro d' hd'
      rw [k3 d' (fun j hj=>hd' j (by simp only [List.map_cons]; exact List.mem_cons_of_mem _ hj))]
      have:¬ d = d':=fun e=>hd' i (by simp) (by rw [FR,e])
      simp [lk,jE this]
    · intro j hj
      rcases List.mem_cons.1 hj with rfl | hj
      · refine ⟨ks,o,d,v,ho,hd,hN,?_,?_,h4⟩
        · rw [k3 d (fun j hj oe=>by
            have:=vl hD (k2 j hj).1 FR oe
            exact (k2 j hj).2 (by simp [← this]))]
          simp [lk]
        · intro D' a w next Q' hst hk
          refine hv D' a w next Q' (hst.sub fun d' v' hl=>?_) hk
          obtain ⟨e1,e2⟩:=ry hl
          refine qJ e1 ?_
          rw [k3 d' (fun j hj oe=>by
            have hkk:=h4 d' e1
            simp only [j8,List.all_eq_true,Bool.or_eq_true,Bool.not_eq_true',List.contains_eq_mem,decide_eq_true_eq] at hkk
            rcases hkk j (k2 j hj).1 with h6 | h6
            · rw [oe] at h6; simp at h6
            · exact (k2 j hj).2 (by simp [h1 j h6]))]
          have:¬ d = d':=fun e=>by
            have hkk:=h4 d' e1
            simp only [j8,List.all_eq_true,Bool.or_eq_true,Bool.not_eq_true',List.contains_eq_mem,decide_eq_true_eq] at hkk
            rcases hkk j h3 with h6 | h6
            · rw [FR,e] at h6; simp at h6
            · exact h2 (h1 j h6)
          simp only [lk,jE this,cond_false]
          exact e2
      · exact k4 j hj
    · intro j hj k hk
      rcases List.mem_cons.1 hj with rfl | hj
      · exact .inl (h1 k hk)
      · rcases k5 j hj k hk with h6 | h6
        · rcases List.mem_cons.1 h6 with rfl | h6
          · exact .inr (by simp)
          · exact .inl h6
        · exact .inr (by simp only [List.map_cons]; exact List.mem_cons_of_mem _ h6)
theorem xl {F:cC} {H:List aL}:∀{re:List Fl} {i:Nat},nM P N c ops F H re→i ∈ re.map (·.1)→∃ks o d v,(i,ks) ∈ re∧ops[i]? = some o∧o.dst = some d∧lk F d = some v∧VG P N c ops o (iF F ks) H v:=by
  intro re
  induction re with
  | nil=>intro i _ hi; simp at hi
  | cons q r ih =>
    obtain ⟨j,ks⟩:=q
    intro i h hi
    obtain ⟨⟨o,d,v,h1,h2,h3,h4⟩,h5⟩:=h
    rcases List.mem_cons.1 hi with rfl | hi
    · exact ⟨ks,o,d,v,by simp,h1,h2,h3,h4⟩
    · obtain ⟨ks',o',d',v',e1,e2⟩:=ih h5 hi
      exact ⟨ks',o',d',v',by simp [e1],e2⟩
def Cont (P:Program) (N:Nat) (c:Cx) (D:List Deferred) (ops:Array Oper) (Q:Exit→Act→World→Prop) (pu:List Nat) (en pn jg:List Nat) (F:cC) (H:List aL):Prop:=
  ((∀i,i < ops.size→i ∈ en∨i ∈ jg)∧WQ N c D Q .normal F H) ∨
  ∃t:Tr,nL P N c D ops Q t F H∧xp ops pu t en pn jg = true∧t.alts ≠ []∧(∀i,i < ops.size→i ∈ t.alts∨i ∈ en∨i ∈ jg∨∃j ∈ rV ops i,j ∉ en∧j ∉ jg)
theorem vx {pu en pn jg:List Nat} {F:cC} {H:List aL} {i:Nat}:∀{t:Tr},i ∈ t.alts→nL P N c D ops Q t F H→xp ops pu t en pn jg = true →
    ∃(ks:List Nat) (o:Oper) (α:Type) (p:α→Prop) (fv:α→Value) (fH:α→List aL) (r:Tr),ops[i]? = some o∧DY N o.dst = true∧RG P N c ops o (iF F ks) H p fv fH∧(∀x,p x→nL P N c D ops Q r (pt o.dst (fv x) F) (fH x)) ∧
      (∀k ∈ ks,j8 ops pu i k = true)∧i ∉ pu∧i ∉ jg∧r.qn = true∧xp ops pu r en (pn.filter fun j=>!(Hg ops i).contains j) (i::jg) = true:=by
  intro t
  induction t with
  | fin re new=>intro h; simp [Tr.alts] at h
  | oQ re new t _=>intro h; simp [Tr.alts] at h
  | no=>intro h; simp [Tr.alts] at h
  | alt s ks here more _ ih =>
    intro h hs hc
    obtain ⟨h1,h2⟩:=hs
    simp only [xp,Bool.and_eq_true,Bool.not_eq_true',List.all_eq_true] at hc
    obtain ⟨⟨⟨⟨⟨c1,c2⟩,c3⟩,c4⟩,c5⟩,c6⟩:=hc
    rcases List.mem_cons.1 h with rfl | h
    · obtain ⟨o,α,p,fv,fH,e1,e2,e3,e4⟩:=h1
      exact ⟨ks,o,α,p,fv,fH,here,e1,e2,e3,e4,c1,by simpa using c2,by simpa using c3,c4,c5⟩
    · exact ih h h2 c6
theorem BW {i:Nat} {d:Nat} (h:ia ops i = some d):i < ops.size:=by
  unfold ia at h
  cases ho:ops[i]? with
  | none=>simp [ho] at h
  | some o=>exact (Array.getElem?_eq_some_iff.1 ho).1
theorem enter {pu:List Nat} (hD:zA ops pu = true) {en kP jg:List Nat} {l:Array Bool} {F:cC} {H:List aL} {a:Act} {w:World} {st:Tr} (hst:st.qn = true)
    (hI:Inv P N c D ops pu en kP jg l F H a w) (hN:∀j ∈ en,∀d,ia ops j = some d→Nat.blt d N = true) (hs:nL P N c D ops Q st F H) (hc:xp ops pu st en kP jg = true) :
    ∃Bl DS F2,Inv P N c D ops pu Bl DS jg l F2 H a w∧(∀j ∈ Bl,∀d,ia ops j = some d→Nat.blt d N = true)∧(∀j ∈ Bl,¬ dn l j→AB P N c ops pu F2 H j)∧Cont P N c D ops Q pu Bl DS jg F2 H:=by
  have key:∀{re new:List Fl} {K:cC→Prop},nM P N c ops F H re→gQ P N c ops H new F K→(∀j ∈ kP,j ∈ re.map (·.1))→(∀q ∈ re,∀k ∈ q.2,j8 ops pu q.1 k = true)→ng ops pu (en++jg) new = true →
      ∃F2,K F2∧Inv P N c D ops pu (en++new.map (·.1)) (kP++new.map (·.1)) jg l F2 H a w∧(∀j ∈ en++new.map (·.1),∀d,ia ops j = some d→Nat.blt d N = true)∧(∀j ∈ en++new.map (·.1),¬ dn l j→AB P N c ops pu F2 H j):=by
    intro re new K Fh hnew hp hk Mc
    obtain ⟨F2,k1,k2,k3,k4,k5⟩:=vZ hD hnew Mc
    refine ⟨F2,k1,⟨hI.size,?_,hI.sp,?_,?_,?_,hI.tm,hI.df,hI.si,hI.hp,hI.cl,?_⟩,?_,?_⟩
    · intro j hj; rcases hI.seen j hj with h | h
      · exact .inl (by simp [h])
      · exact .inr h
    · intro j hj wh
      rcases List.mem_append.1 hj with h | h
      · exact List.mem_append_left _ (hI.kP j h wh)
      · exact List.mem_append_right _ h
    · intro j hj
      rcases List.mem_append.1 hj with h | h
      · exact hI.wo j h
      · exact (k2 j h).1
    · intro j hj k hk'
      rcases List.mem_append.1 hj with h | h
      · rcases hI.back j h k hk' with h1 | h1
        · exact .inl (by simp [h1])
        · exact .inr h1
      · rcases k5 j h k hk' with h1 | h1
        · rcases List.mem_append.1 h1 with h2 | h2
          · exact .inl (by simp [h2])
          · exact .inr h2
        · exact .inl (List.mem_append_right _ h1)
    · intro d v hl hdn
      by_cases hex:∃j ∈ new.map (·.1),ia ops j = some d
      · obtain ⟨j,hj,oe⟩:=hex
        have h1:=hdn j (List.mem_append_right _ hj) oe
        exact absurd (hI.seen j h1) (fun h2=>(k2 j hj).2 (by rcases h2 with h2 | h2 <;> simp [h2]))
      · rw [k3 d (fun j hj oe=>hex ⟨j,hj,oe⟩)] at hl
        exact hI.fr d v hl (fun j hj oe=>hdn j (List.mem_append_left _ hj) oe)
    · intro j hj d oe
      rcases List.mem_append.1 hj with h | h
      · exact hN j h d oe
      · obtain ⟨ks,o,d',v,e1,e2,e3,_⟩:=k4 j h
        have:=mQ e1 e2
        rw [oe] at this; cases this; exact e3
    · intro j hj wh
      rcases List.mem_append.1 hj with h | h
      · obtain ⟨ks,o,d,v,e0,e1,e2,e3,e4⟩:=xl Fh (hp j (hI.kP j h wh))
        have oe:=mQ e1 e2
        have hkk:∀k ∈ ks,j8 ops pu j k = true:=fun k hk'=>hk _ e0 k hk'
        refine ⟨ks,o,d,v,e1,e2,hN j h d oe,?_,?_,hkk⟩
        · rw [k3 d (fun j' hj' CO=>by
            have:=vl hD (k2 j' hj').1 oe CO
            subst this
            exact (k2 _ hj').2 (by simp [h]))]
          exact e3
        · intro D' a' w' next Q' hst hk'
          refine e4 D' a' w' next Q' (hst.sub fun d' v' hl=>?_) hk'
          obtain ⟨f1,f2⟩:=ry hl
          refine qJ f1 ?_
          rw [k3 d' (fun j' hj' CO=>by
            have hq:=hkk d' f1
            simp only [j8,List.all_eq_true,Bool.or_eq_true,Bool.not_eq_true',List.contains_eq_mem,decide_eq_true_eq] at hq
            rcases hq j' (k2 j' hj').1 with h6 | h6
            · rw [CO] at h6; simp at h6
            · refine (k2 j' hj').2 ?_
              rcases hI.back j h j' h6 with h7 | h7 <;> simp [h7])]
          exact f2
      · exact k4 j h
  cases st with
  | no=>simp [Tr.qn] at hst
  | alt _ _ _ _=>simp [Tr.qn] at hst
  | fin re new =>
    obtain ⟨Fh,hnew⟩:=hs
    simp only [xp,Bool.and_eq_true,List.all_eq_true,List.contains_eq_mem,decide_eq_true_eq,List.mem_range,Bool.or_eq_true] at hc
    obtain ⟨⟨⟨c1,c2⟩,c3⟩,c4⟩:=hc
    obtain ⟨F2,k1,k2,k3,k4⟩:=key Fh hnew c1 c2 c3
    exact ⟨_,_,F2,k2,k3,k4, .inl ⟨fun i hi=>by
      rcases c4 i hi with (h | h) | h
      · exact .inl (by simp [h])
      · exact .inl (List.mem_append_right _ h)
      · exact .inr h,k1⟩⟩
  | oQ re new t =>
    obtain ⟨Fh,hnew⟩:=hs
    simp only [xp,Bool.and_eq_true,List.all_eq_true,List.contains_eq_mem,decide_eq_true_eq,List.mem_range,Bool.or_eq_true,Bool.not_eq_true',List.any_eq_true] at hc
    obtain ⟨⟨⟨⟨⟨c1,c2⟩,c3⟩,c7⟩,c6⟩,c8⟩:=hc
    obtain ⟨F2,k1,k2,k3,k4⟩:=key Fh hnew c1 c2 c3
    refine ⟨_,_,F2,k2,k3,k4, .inr ⟨t,k1,c8,fun e=>by simp [e] at c6,fun i hi=>?_⟩⟩
    rcases c7 i hi with (((h | h) | h) | h) | h
    · exact .inl h
    · exact .inr (.inl (List.mem_append_right _ h))
    · exact .inr (.inl (by simp [h]))
    · exact .inr (.inr (.inl h))
    · obtain ⟨j,hj,hn⟩:=h
      refine .inr (.inr (.inr ⟨j,hj,fun hm=>?_,fun hm=>?_⟩))
      · rcases List.mem_append.1 hm with h1 | h1
        · simp [h1] at hn
        · have Mi:decide (j ∈ new.map (·.1)) = true:=decide_eq_true h1
          rw [Mi] at hn; simp at hn
      · simp [hm] at hn
theorem yD {pu:List Nat} (hD:zA ops pu = true) {l:Array Bool} (hs:l.size = ops.size) (hr:Region.ready .any ops l = []):∀i,i < ops.size→dn l i:=by
  intro i
  induction i using Nat.strongRecOn with
  | _ i ih =>
    intro hi
    by_cases hd:dn l i
    · exact hd
    · have:i ∈ Region.ready .any ops l:=(mem_ready hs).2 ⟨hi,hd,fun j hj=>ih j (sM hD hi hj) (Nat.lt_trans (sM hD hi hj) hi)⟩
      rw [hr] at this; simp at this
def me (ops:Array Oper) (l:Array Bool):Nat:=((List.range ops.size).filter fun i=>!l.getD i false).length
theorem filter_le {p q:Nat→Bool} (h:∀x,q x = true→p x = true):∀(L:List Nat),(L.filter q).length ≤ (L.filter p).length:=by
  intro L
  induction L with
  | nil=>simp
  | cons x L ih =>
    by_cases hq:q x = true
    · simp [hq,h x hq,ih]
    · by_cases hp:p x = true
      · simp [hq,hp]; omega
      · simp [hq,hp,ih]
theorem filter_lt {p q:Nat→Bool} (h:∀x,q x = true→p x = true) {i:Nat} (hp:p i = true) (hq:q i = false):∀(L:List Nat),i ∈ L→(L.filter q).length < (L.filter p).length:=by
  intro L
  induction L with
  | nil=>intro hi; simp at hi
  | cons x L ih =>
    intro hi
    by_cases e:i = x
    · subst e
      have:=filter_le h L
      simp [hp,hq]; omega
    · have hi' : i ∈ L:=by simpa [e] using hi
      have:=ih hi'
      by_cases GX:q x = true
      · simp [GX,h x GX]; omega
      · by_cases Kr:p x = true
        · simp [GX,Kr]; omega
        · simp [GX,Kr]; omega
theorem tN {l:Array Bool} {i:Nat} (hs:l.size = ops.size) (hi:i < ops.size) (hd:¬ dn l i):me ops (l.setIfInBounds i true) < me ops l:=by
  unfold me
  have pg:i < l.size:=by omega
  refine filter_lt (i:=i) (fun x hx=>?_) ?_ ?_ _ (by simpa using hi)
  · have h1:¬ dn (l.setIfInBounds i true) x:=by simpa [dn] using hx
    have h2:¬ dn l x:=fun h=>h1 ((gK pg).2 (.inl h))
    simpa [dn] using h2
  · simpa [dn] using hd
  · have:dn (l.setIfInBounds i true) i:=(gK pg).2 (.inr rfl)
    simpa [dn] using this
theorem vO {pu:List Nat} (hD:zA ops pu = true):∀(fuel:Nat) (l:Array Bool) (a:Act) (w:World) (en pn jg:List Nat) (F:cC) (H:List aL),me ops l ≤ fuel →
    Inv P N c D ops pu en pn jg l F H a w→(∀j ∈ en,∀d,ia ops j = some d→Nat.blt d N = true)→(∀j ∈ en,¬ dn l j→AB P N c ops pu F H j)→Cont P N c D ops Q pu en pn jg F H →
    wpAnyIn (FA c.ro) 0 P .any ops Q fuel l a w:=by
  intro fuel
  have yh:∀(l:Array Bool) (a:Act) (w:World) (en pn jg:List Nat) (F:cC) (H:List aL),Inv P N c D ops pu en pn jg l F H a w→Cont P N c D ops Q pu en pn jg F H→(∀i,i < ops.size→dn l i)→Q .normal a w:=by
    intro l a w en pn jg F H hI hC j9
    rcases hC with ⟨_,hq⟩ | ⟨t,hst,hok,hne,_⟩
    · refine hq a w ⟨hI.tm,fun d v hl=>hI.fr d v hl fun j _ oe=>j9 j (BW oe),hI.df,hI.si,hI.hp⟩
    · obtain ⟨s,hs⟩:=List.exists_mem_of_ne_nil _ hne
      obtain ⟨ks,o,α,p,fv,fH,r,e1,_,_,_,_,e5,e6,_,_⟩:=vx hs hst hok
      have hlt:=(Array.getElem?_eq_some_iff.1 e1).1
      rcases hI.seen s (j9 s hlt) with h | h
      · exact absurd (hI.wo s h) e5
      · exact absurd h e6
  induction fuel with
  | zero =>
    intro l a w en pn jg F H hu hI hN hV hC
    have j9:∀i,i < ops.size→dn l i:=fun i hi=>by
      unfold me at hu
      have h0:(List.range ops.size).filter (fun i=>!l.getD i false) = []:=List.length_eq_zero_iff.1 (by omega)
      rw [List.filter_eq_nil_iff] at h0
      have:=h0 i (by simpa using hi)
      simpa [dn] using this
    refine ⟨?_,yh l a w en pn jg F H hI hC j9⟩
    cases hr:Region.ready .any ops l with
    | nil=>rfl
    | cons i r =>
      have:i ∈ Region.ready .any ops l:=by rw [hr]; simp
      obtain ⟨h1,h2,_⟩:=(mem_ready hI.size).1 this
      exact absurd (j9 i h1) h2
  | succ fuel ih =>
    intro l a w en pn jg F H hu hI hN hV hC
    refine ⟨fun hr=>yh l a w en pn jg F H hI hC (yD hD hI.size hr),fun i hi=>?_⟩
    obtain ⟨h1,h2,h3⟩:=(mem_ready hI.size).1 hi
    have pg:i < l.size:=by rw [hI.size]; exact h1
    have Kq:me ops (l.setIfInBounds i true) ≤ fuel:=by have:=tN hI.size h1 h2; omega
    have FX:∀j,dn (l.setIfInBounds i true) j→∀k ∈ rV ops j,dn (l.setIfInBounds i true) k:=fun j hj k hk=>by
      rcases (gK pg).1 hj with h | rfl
      · exact (gK pg).2 (.inl (hI.cl j h k hk))
      · exact (gK pg).2 (.inl (h3 k hk))
    by_cases G0:i ∈ en
    ·
      obtain ⟨ks,o,d,v,e1,e2,e3,e4,e5,e6⟩:=hV i G0 h2
      have hst:=hI.st (i:=i) e6 h3
      have FR:=mQ e1 e2
      have step:=e5 D a w (wpAnyIn (FA c.ro) 0 P .any ops Q fuel (l.setIfInBounds i true)) Q hst
      have HL:∀w',aY [] w w'→wpAnyIn (FA c.ro) 0 P .any ops Q fuel (l.setIfInBounds i true) (a.put o.dst v) w':=by
        intro w' hw
        refine ih _ _ _ en pn jg F H Kq ⟨by simp [hI.size],?_,?_,?_,hI.wo,hI.back,?_,?_,hI.si.ext hw,hI.hp.ext hw,FX,?_⟩ hN ?_ hC
        · intro j hj
          rcases (gK pg).1 hj with h | rfl
          · exact hI.seen j h
          · exact .inl G0
        · intro j hj; exact (gK pg).2 (.inl (hI.sp j hj))
        · intro j hj wh; exact hI.kP j hj fun h=>wh ((gK pg).2 (.inl h))
        · rw [e2]; simp [Act.put,hI.tm]
        · rw [e2]; simp [Act.put,hI.df]
        · intro d' v' hl hdn
          rw [e2]
          have L9:d < a.tmps.size:=by rw [hI.tm]; simpa [Nat.blt_eq] using e3
          by_cases e:d = d'
          · subst e
            rw [e4] at hl; cases hl
            simp [Act.put,L9]
          · simp only [Act.put,Array.getElem?_setIfInBounds,if_neg e]
            refine hI.fr d' v' hl fun j hj oe=>?_
            rcases (gK pg).1 (hdn j hj oe) with h | rfl
            · exact h
            · rw [FR] at oe; cases oe; exact absurd rfl e
        · intro j hj wh
          exact hV j hj fun h=>wh ((gK pg).2 (.inl h))
      have step:=step HL
      unfold wpOpIn
      simp only [e1]
      split
      · rename_i hw; simp only [hw,if_true] at step; exact step
      · rename_i hw; simp only [hw] at step; exact ⟨fun _ _=>trivial,step⟩
    ·
      have hsp:i ∉ jg:=fun h=>h2 (hI.sp i h)
      rcases hC with ⟨j9,_⟩ | ⟨t,Iw,hok,_,e8⟩
      · rcases j9 i h1 with h | h
        · exact absurd h G0
        · exact absurd h hsp
      · have L5:i ∈ t.alts:=by
          rcases e8 i h1 with h | h | h | ⟨j,hj,h4,h5⟩
          · exact h
          · exact absurd h G0
          · exact absurd h hsp
          · rcases hI.seen j (h3 j hj) with h | h
            · exact absurd h h4
            · exact absurd h h5
        obtain ⟨ks,o,α,p,fv,fH,r,e1,e2,e3,e4,e5,e6,e7,Ml,e9⟩:=vx L5 Iw hok
        have hst:=hI.st (i:=i) e5 h3
        have step:=e3 D a w (wpAnyIn (FA c.ro) 0 P .any ops Q fuel (l.setIfInBounds i true)) Q hst
        have HL:∀x w',p x→aY c.bs c.w0 w'→bN c.bs c.w0.heap.size (fH x) w'→wpAnyIn (FA c.ro) 0 P .any ops Q fuel (l.setIfInBounds i true) (a.put o.dst (fv x)) w':=by
          intro x w' hp hsi Jd
          have F0:Inv P N c D ops pu en (pn.filter fun j=>!(Hg ops i).contains j) (i::jg) (l.setIfInBounds i true) (pt o.dst (fv x) F) (fH x) (a.put o.dst (fv x)) w':=by
            refine ⟨by simp [hI.size],?_,?_,?_,hI.wo,?_,?_,?_,hsi,Jd,FX,?_⟩
            · intro j hj
              rcases (gK pg).1 hj with h | rfl
              · rcases hI.seen j h with h | h
                · exact .inl h
                · exact .inr (by simp [h])
              · exact .inr (by simp)
            · intro j hj
              rcases List.mem_cons.1 hj with rfl | h
              · exact (gK pg).2 (.inr rfl)
              · exact (gK pg).2 (.inl (hI.sp j h))
            · intro j hj wh
              have Fk:¬ dn l j:=fun h=>wh ((gK pg).2 (.inl h))
              simp only [List.mem_filter,Bool.not_eq_true',List.contains_eq_mem,decide_eq_false_iff_not]
              exact ⟨hI.kP j hj Fk,fun hm=>Fk (yC hI.cl h3 j hm)⟩
            · intro j hj k hk
              rcases hI.back j hj k hk with h | h
              · exact .inl h
              · exact .inr (by simp [h])
            · cases o.dst <;> simp [Act.put,hI.tm]
            · cases o.dst <;> simp [Act.put,hI.df]
            · intro d v hl hdn
              have old:lk F d = some v→a.tmps[d]? = some v:=fun hl'=>hI.fr d v hl' fun j hj oe=>by
                rcases (gK pg).1 (hdn j hj oe) with h | rfl
                · exact h
                · exact absurd (hI.wo _ hj) e6
              cases ho:o.dst with
              | none=>rw [ho] at hl; exact old hl
              | some k =>
                rw [ho] at hl e2
                have L4:k < a.tmps.size:=by rw [hI.tm]; simpa [DY,Nat.blt_eq] using e2
                simp only [pt,lk] at hl
                by_cases e:k = d
                · subst e; simp at hl; subst hl; simp [Act.put,L4]
                · rw [jE e] at hl
                  simp only [Act.put,Array.getElem?_setIfInBounds,if_neg e]
                  exact old hl
          obtain ⟨Bl,DS,F2,k1,k2,k3,k4⟩:=enter hD Ml F0 hN (e4 x hp) e9
          exact ih _ _ _ Bl DS (i::jg) F2 (fH x) Kq k1 k2 k3 k4
        have step:=step HL
        unfold wpOpIn
        simp only [e1]
        split
        · rename_i hw; simp only [hw,if_true] at step; exact step
        · rename_i hw; simp only [hw] at step; exact ⟨fun _ _=>trivial,step⟩
section
variable {F:cC} {H:List aL}
theorem m6:nM P N c ops F H []:=trivial
theorem qT {i:Nat} {ks:List Nat} {r:List Fl} {d:Nat} {v:Value} {op:Op} {ty:TypeId} {ps:String} {af:Array Edge} {g:Option (Nat × Bool)} (ho:ops[i]? = some ⟨some d,op,ty,ps,af,g⟩) (hl:lk F d = some v) (hv:VG P N c ops ⟨some d,op,ty,ps,af,g⟩ (iF F ks) H v) (hr:nM P N c ops F H r) :
    nM P N c ops F H ((i,ks)::r):=⟨⟨_,d,v,ho,rfl,hl,hv⟩,hr⟩
theorem gl {K:cC→Prop} (h:K F):gQ P N c ops H [] F K:=h
theorem bx {i:Nat} {ks:List Nat} {r:List Fl} {K:cC→Prop} {d:Nat} {v:Value} {op:Op} {ty:TypeId} {ps:String} {af:Array Edge} {g:Option (Nat × Bool)} (ho:ops[i]? = some ⟨some d,op,ty,ps,af,g⟩) (hN:Nat.blt d N = true)
    (hv:VG P N c ops ⟨some d,op,ty,ps,af,g⟩ (iF F ks) H v) (hr:gQ P N c ops H r ((d,v)::F) K):gQ P N c ops H ((i,ks)::r) F K:=⟨_,d,v,ho,rfl,hN,hv,hr⟩
theorem vA {re new:List Fl} (h1:nM P N c ops F H re) (h2:gQ P N c ops H new F fun F'=>WQ N c D Q .normal F' H):nL P N c D ops Q (.fin re new) F H:=⟨h1,h2⟩
theorem r9 {re new:List Fl} {t:Tr} (h1:nM P N c ops F H re) (h2:gQ P N c ops H new F fun F'=>nL P N c D ops Q t F' H):nL P N c D ops Q (.oQ re new t) F H:=⟨h1,h2⟩
theorem yP:nL P N c D ops Q .no F H:=trivial
theorem pK {s:Nat} {ks:List Nat} {here more:Tr} {d:Nat} {op:Op} {ty:TypeId} {ps:String} {af:Array Edge} {g:Option (Nat × Bool)} {α:Type} {p:α→Prop} {fv:α→Value} {fH:α→List aL}
    (ho:ops[s]? = some ⟨some d,op,ty,ps,af,g⟩) (hN:Nat.blt d N = true) (hv:RG P N c ops ⟨some d,op,ty,ps,af,g⟩ (iF F ks) H p fv fH) (h:∀x,p x→nL P N c D ops Q here ((d,fv x)::F) (fH x)) (hm:nL P N c D ops Q more F H):nL P N c D ops Q (.alt s ks here more) F H:=
  ⟨⟨_,α,p,fv,fH,ho,hN,hv,h⟩,hm⟩
theorem yO {s:Nat} {ks:List Nat} {here more:Tr} {op:Op} {ty:TypeId} {ps:String} {af:Array Edge} {g:Option (Nat × Bool)} {α:Type} {p:α→Prop} {fv:α→Value} {fH:α→List aL}
    (ho:ops[s]? = some ⟨none,op,ty,ps,af,g⟩) (hv:RG P N c ops ⟨none,op,ty,ps,af,g⟩ (iF F ks) H p fv fH) (h:∀x,p x→nL P N c D ops Q here F (fH x)) (hm:nL P N c D ops Q more F H):nL P N c D ops Q (.alt s ks here more) F H:=
  ⟨⟨_,α,p,fv,fH,ho,rfl,hv,h⟩,hm⟩
end
theorem g8 {id:Nat} {l:List Oper} {F:cC} {H:List aL} (hm:P.follows .mixedOrders = true) (st:Tr) (hok:AZ l.toArray st = true)
    (h:nL P N c D l.toArray Q st F H):WP P N c D (.region id l.toArray true) Q F H:=fun a w hst=>by
  simp only [AZ,Bool.and_eq_true] at hok
  refine wpIn_region_any hm ?_
  have hdn:∀j,¬ dn (Array.replicate l.toArray.size false) j:=fun j h=>by
    unfold dn at h
    simp only [Array.getD_eq_getD_getElem?,Array.getElem?_replicate] at h
    split at h <;> simp at h
  have hI:Inv P N c D l.toArray (qz st) [] [] [] (Array.replicate l.toArray.size false) F H a { w with drawn:=w.drawn + 1 }:=
    ⟨by simp,fun j hj=>absurd hj (hdn j),by simp,by simp,by simp,by simp,hst.tm,hst.df,hst.si.drawn _,⟨fun r hr=>hst.hp.holds r hr,hst.hp.own,hst.hp.apart⟩,fun j hj=>absurd hj (hdn j),fun d v hl _=>hst.fr d v hl⟩
  obtain ⟨Bl,DS,F2,k1,k2,k3,k4⟩:=enter hok.1.2 hok.1.1 hI (by simp) h hok.2
  refine vO hok.1.2 _ _ _ _ Bl DS [] F2 H ?_ k1 k2 k3 k4
  unfold me
  exact Nat.le_trans (List.length_filter_le _ _) (by simp)
end Go.Bw
namespace Go.Bw
open Go Go.RowKit
theorem bJ {F:cC} {x:Operand} {r:List Operand} {v:Value} {vs:List Value} (h:ev F x = some v) (hr:og F r = some vs):og F (x::r) = some (v::vs):=by simp [og,h,hr]
def jx (v:Value) (k:Nat):Value:=match v with
  | .slice (some a) _ _=>.pointer (some ⟨a.block,a.off + k,none⟩)
  | _=>undef
theorem Ro.since {w w' : World} {v:Value} {sz n:Nat} {xs:List Value} (h:Ro w v sz n xs) (hs:aY [] w w'):Ro w' v sz n xs:=by
  refine ⟨h.1,?_⟩
  rcases h.2 with h0 | ⟨g,off,cap,h1,h2,h3,h4⟩
  · exact .inl h0
  · exact .inr ⟨g,off,cap,h1,Nat.lt_of_lt_of_le h2 hs.size,h3,fun j u hu=>(World.cell?_of_block (hs.block g h2 (by simp))).trans (h4 j u hu)⟩
theorem Ro.oV {w:World} {v:Value} {e sz n:Nat} {xs:List Value} (h:(aL.row v e sz n xs).holds w):Ro w v sz n xs:=by
  have h' : w.ownsRow 0 e sz v n xs:=h
  refine ⟨h'.1,?_⟩
  rcases h'.2 with h0 | ⟨g,cap,cur,h1,_,h3,h4,_,h5,h6⟩
  · exact .inl ⟨⟨_,_,h0.1⟩,h0.2⟩
  · refine .inr ⟨g,0,cap,h1,(Array.getElem?_eq_some_iff.1 h3).1,h4,fun j u hu=>?_⟩
    have:=World.ownsRow.cells (g:=g) h' (by rw [h1]; rfl) j u hu
    rwa [Addr.add_lit] at this
theorem Ro.at {w:World} {v:Value} {sz n m:Nat} {xs:List Value} (h:Ro w v sz n xs) (hm:m < n):∃g off cap,v = .slice (some ⟨g,off,none⟩) n cap∧g < w.heap.size∧n ≤ cap∧∀(j:Nat) u,xs[j]? = some u→w.cell? ⟨g,off + j,none⟩ = some u:=by
  rcases h.2 with ⟨_,h0⟩ | h1
  · omega
  · exact h1
section
variable {P:Program} {N:Nat} {c:Cx} {F:cC} {H:List aL} {d:Option Tmp} {ty:TypeId} {p:String} {af:Array Edge} {g:Option (Nat × Bool)}
class m5 (c:Cx) (H:List aL) (v:Value) (sz n:outParam Nat) (xs:outParam (List Value)):Prop where
  ro:∀w,aY c.bs c.w0 w→bN c.bs c.w0.heap.size H w→Ro w v sz n xs
class MQ (H:List aL) (v:Value) (sz n:outParam Nat) (xs:outParam (List Value)):Prop where
  mem:aL.sl v sz n xs ∈ H
theorem Dx {x:Operand} {v:Value} {t e q sz n:Nat} {xs:List Value} [ht:pP P t e q] (hx:ev F x = some v) [h:m5 c H v sz n xs]:VS P N c ⟨d, .call ⟨.builtin .len,#[x],#[t]⟩,ty,p,af,g⟩ F H (.int .i64 n):=
  bh (by simp) fun a w hf hs hp=>by
    have hr:=h.ro w hs hp
    obtain ⟨inf,h1,_,_⟩:=pP.get ht.ok
    rcases hr.2 with ⟨⟨a0,cp,rfl⟩,rfl⟩ | ⟨g,off,cap,rfl,_⟩ <;> simp [execOp,resolve,invoke,builtin,bp hf hx,Builtin.len_,goInt,run_underlying h1]
theorem r8 {x y:Operand} {t e sz n:Nat} {v:Value} {xs:List Value} {k:IntKind} {i:Int} {m:Nat} [ht:pP P t e sz] (hx:ev F x = some v) (hy:ev F y = some (.int k i)) [h:m5 c H v sz n xs] (hi:i = (m:Int)) (hm:m < n) :
    VS P N c ⟨d, .indexAddr t x y,ty,p,af,g⟩ F H (jx v (m * sz)):=
  bh (by simp) fun a w hf hs hp=>by
    obtain ⟨g,off,cap,rfl,_,_,_⟩:=(h.ro w hs hp).at hm
    obtain ⟨inf,h1,h2,h3⟩:=pP.get ht.ok
    subst hi
    simp [execOp,bp hf hx,bp hf hy,Instr.indexAt,asIntOf,run_underlying h1,sizeOf,typeInfo,h2,h3,Addr.add_lit,jx]
    intro hle
    omega
theorem tD {x:Operand} {t k sz n:Nat} {v u:Value} {xs:List Value} (hx:ev F x = some (jx v k)) [h:m5 c H v sz n xs] [jI P t] (hv:xs[k]? = some u):VS P N c ⟨d, .load t x,ty,p,af,g⟩ F H u:=
  bh (by simp) fun a w hf hs hp=>by
    have hr:=h.ro w hs hp
    have hl:=(List.getElem?_eq_some_iff.1 hv).1
    have hn:0 < n:=by
      rcases Nat.eq_zero_or_pos n with h0 | h0
      · subst h0; have:=hr.1; omega
      · exact h0
    obtain ⟨g,off,cap,rfl,_,_,h4⟩:=hr.at hn
    have:=iY (P:=P) (t:=t) (a:=⟨g,off + k,none⟩) (h4 k u hv)
    simp [execOp,bp hf hx,jx,Instr.loadAt,Instr.sureAddr,this]
theorem r6 {x:Operand} {t k sz n q:Nat} {v:Value} {xs us:List Value} (hx:ev F x = some (jx v k)) [h:m5 c H v sz n xs] [iw P t q] (hv:(xs.drop k).take q = us) (hq:us.length = q) (h0:0 < q):VS P N c ⟨d, .load t x,ty,p,af,g⟩ F H (.agg us.toArray):=
  bh (by simp) fun a w hf hs hp=>by
    have hr:=h.ro w hs hp
    have hl:0 < xs.length:=by
      have:us.length ≤ xs.length:=by rw [← hv]; simp; omega
      omega
    have hn:0 < n:=by
      rcases Nat.eq_zero_or_pos n with h0 | h0
      · subst h0; have:=hr.1; omega
      · exact h0
    obtain ⟨g,off,cap,rfl,_,_,h4⟩:=hr.at hn
    have:=gE (P:=P) (t:=t) (b:=g) (off:=off + k) (w:=w) hq (fun j u hj=>by
      rw [← hv,List.getElem?_take] at hj
      split at hj
      · rw [List.getElem?_drop] at hj; rw [Nat.add_assoc]; exact h4 _ u hj
      · cases hj)
    simp [execOp,bp hf hx,jx,Instr.loadAt,Instr.sureAddr,this]
theorem Dw {x y:Operand} {k:IntKind} {a b:Int} {ats:Array TypeId} (hx:ev F x = some (.int k a)) (hy:ev F y = some (.int k b)):VS P N c ⟨d, .call ⟨.builtin .max,#[x,y],ats⟩,ty,p,af,g⟩ F H (.int k (if a < b then b else a)):=
  bh (by simp) fun a' w hf _ _=>by simp [execOp,resolve,invoke,builtin,bp hf hx,bp hf hy,Builtin.max_,Builtin.max2]
def placesOf (P:Program) (t:Nat):Option (List (Nat × Nat)):=match P.underlying t with
  | some (.struct fs)=>fs.toList.mapM fun f=>(P.info? f.type).map fun i=>(f.offset,i.size)
  | _=>none
def n3 (pl:List (Nat × Nat)):List Value→List (Nat × Value)→Option (List Value)
  | cs,[]=>some cs
  | cs,(i,v)::r=>match pl[i]? with
    | none=>none
    | some (off,sz)=>if v.cells.size ≠ sz || decide (off + v.cells.size > cs.length) then none else n3 pl (bw cs off v.cells.toList) r
class D2 (P:Program) (t:TypeId) (pl:outParam (List (Nat × Nat))):Prop where
  ok:placesOf P t = some pl
theorem foldl_set (vs:List Value):∀(cs:Array Value) (off j:Nat),off + j + vs.length ≤ cs.size→((vs.zipIdx j).foldl (fun (cs:Array Value) (q:Value × Nat)=>cs.setIfInBounds (off + q.2) q.1) cs).toList = bw cs.toList (off + j) vs:=by
  induction vs with
  | nil=>intro cs off j h; simp [bw]
  | cons v r ih =>
    intro cs off j h
    simp only [List.zipIdx_cons,List.foldl_cons]
    have hl:off + j + (r.length + 1) ≤ cs.size:=h
    rw [ih (cs.setIfInBounds (off + j) v) off (j + 1) (by simp; omega)]
    refine List.ext_getElem? fun m=>?_
    have g:∀(GM:List Value) (o:Nat) (us:List Value),o + us.length ≤ GM.length→∀m:Nat,(bw GM o us)[m]? = if o ≤ m∧m < o + us.length then us[m - o]? else GM[m]?:=by
      intro GM o us h m
      unfold bw
      by_cases h1:m < o
      · rw [if_neg (by omega),List.append_assoc,List.getElem?_append_left (by simp; omega),List.getElem?_take,if_pos h1]
      · by_cases h2:m < o + us.length
        · rw [if_pos (by omega),List.append_assoc,List.getElem?_append_right (by simp; omega),List.getElem?_append_left (by simp; omega)]
          congr 1; simp; omega
        · rw [if_neg (by omega),List.getElem?_append_right (by simp; omega),List.getElem?_drop]
          congr 1; simp; omega
    rw [g _ _ _ (by simp; omega),g _ _ _ (by simp; omega)]
    simp only [Array.toList_setIfInBounds,List.length_cons]
    by_cases e:m = off + j
    · subst e
      rw [if_neg (by omega),if_pos (by omega)]
      have hc:off + j < cs.size:=by omega
      simp [hc]
    · by_cases h1:off + (j + 1) ≤ m∧m < off + (j + 1) + r.length
      · rw [if_pos h1,if_pos (by omega)]
        have:m - (off + j) = (m - (off + (j + 1))) + 1:=by omega
        rw [this,List.getElem?_cons_succ]
      · rw [if_neg h1,if_neg (by omega)]
        rw [List.getElem?_set_ne (by omega)]
theorem pq {place:Nat→Option (Nat × Nat)} {pl:List (Nat × Nat)} (hp:∀i,place i = pl[i]?):∀(parts:List (Nat × Value)) (cs:Array Value) (out:List Value),n3 pl cs.toList parts = some out→Instr.fill place cs parts = some out.toArray:=by
  intro parts
  induction parts with
  | nil=>intro cs out h; simp [n3] at h; simp [Instr.fill,← h]
  | cons q r ih =>
    obtain ⟨i,v⟩:=q
    intro cs out h
    simp only [n3] at h
    simp only [Instr.fill,hp i]
    split at h
    · cases h
    · rename_i off sz Ks
      rw [Ks]
      simp only
      split at h
      · cases h
      · rename_i hc
        simp only [Array.length_toList] at hc
        rw [if_neg (by simpa using hc)]
        refine ih _ out ?_
        have hle:off + v.cells.size ≤ cs.size:=by
          simp only [Bool.or_eq_true,decide_eq_true_eq,not_or] at hc
          omega
        have:=foldl_set v.cells.toList cs off 0 (by simpa using hle)
        rw [← h]
        congr 1
        rw [Nat.add_zero] at this
        rw [← this,← Array.foldl_toList]
        simp only [Array.toList_zipIdx]
theorem run_places {P:Program} {t:Nat} {pl:List (Nat × Nat)} [h:D2 P t pl] (w:World):∃fs,P.underlying t = some (.struct fs)∧((fs.mapM (m:=Sem) fun f=>do pure (f.offset,← sizeOf f.type)).run P w = .ok pl.toArray w):=by
  have:=h.ok
  unfold placesOf at this
  split at this
  · rename_i fs hu
    refine ⟨fs,hu,?_⟩
    have key:∀(l:List Field) (pl:List (Nat × Nat)),(l.mapM fun f=>(P.info? f.type).map fun i=>(f.offset,i.size)) = some pl→(l.mapM (m:=Sem) fun f=>do pure (f.offset,← sizeOf f.type)).run P w = .ok pl w:=by
      intro l
      induction l with
      | nil=>intro pl h; simp at h; subst h; simp
      | cons f r ih =>
        intro pl h
        cases hi:P.info? f.type with
        | none=>simp [hi] at h
        | some i =>
          simp only [List.mapM_cons,hi,Option.map_some,Option.pure_def,Option.bind_eq_bind,Option.bind_some] at h
          cases hr:(r.mapM fun f=>(P.info? f.type).map fun i=>(f.offset,i.size)) with
          | none=>simp [hr] at h
          | some q =>
            simp only [hr,Option.bind_some,Option.some.injEq] at h
            subst h
            have hs:(sizeOf f.type).run P w = .ok i.size w:=by simp [sizeOf,typeInfo,hi]
            simp only [List.mapM_cons,Sem.run_bind,hs,Result.andThen_ok,Sem.run_pure,ih q hr]
    have hk:=key _ _ this
    have e:fs = fs.toList.toArray:=by simp
    rw [e,List.mapM_toArray]
    simp only [Sem.run_map,hk,Result.andThen_ok]
  · cases this
theorem Mk {F:cC} {a:Act} (hf:lJ F a.tmps):∀{parts:List (Nat × Operand)} {vs:List Value},og F (parts.map (·.2)) = some vs→parts.map (fun q=>(q.1,a.eval q.2)) = (parts.map (·.1)).zip vs:=by
  intro parts
  induction parts with
  | nil=>intro vs _; simp
  | cons q r ih =>
    intro vs h
    simp only [List.map_cons,og] at h
    split at h
    · rename_i v us h1 h2
      rw [← Option.some.inj h]
      simp [bp hf h1,ih h2]
    · cases h
theorem iS {t:Nat} {parts:List (Nat × Operand)} {vs zs cs:List Value} {pl:List (Nat × Nat)} [hz:cK P t zs] [Ks:D2 P t pl] (hv:og F (parts.map (·.2)) = some vs) (hc:n3 pl zs ((parts.map (·.1)).zip vs) = some cs) :
    VS P N c ⟨d, .build t parts.toArray,ty,p,af,g⟩ F H (.agg cs.toArray):=
  bh (by simp) fun a w hf _ _=>by
    obtain ⟨i,z,h1,h2,h3⟩:=cK.get hz.ok
    obtain ⟨fs,h4,h5⟩:=run_places (P:=P) (t:=t) w
    have h6:(zeroValue t).run P w = .ok z w:=by simp [zeroValue,typeInfo,h1,h2]
    have h7:=pq (place:=fun i=>(pl.toArray)[i]?) (pl:=pl) (by simp) ((parts.map (·.1)).zip vs) z.cells cs (by rw [h3]; exact hc)
    have h8:=Mk hf hv
    simp only [execOp,Instr.build,Sem.run_bind,h6,Result.andThen_ok,run_underlying h4,h5]
    have h9:(Array.map (fun x=>(x.fst,a.eval x.snd)) parts.toArray).toList = (parts.map (·.1)).zip vs:=by simpa using h8
    simp only [h9,h7]
    rfl
class lF (H:List aL) (v:Value) (e sz n:outParam Nat) (xs:outParam (List Value)) (f:outParam (aL→List aL)):Prop where
  ok:∃k,H[k]? = some (.row v e sz n xs)∧∀r,f r = H.set k r
instance (priority:=100) DB (v e sz n xs) (H:List aL):lF (.row v e sz n xs::H) v e sz n xs (fun r=>r::H):=⟨⟨0,rfl,fun _=>rfl⟩⟩
instance (priority:=50) Bq (r:aL) (H:List aL) (v e sz n xs f) [h:lF H v e sz n xs f]:lF (r::H) v e sz n xs (fun q=>r::f q):=
  ⟨by obtain ⟨k,h1,h2⟩:=h.ok; exact ⟨k + 1,by simpa using h1,fun q=>by simp [h2]⟩⟩
def yw (P:Program) (t e sz bytes:Nat):Bool:=match P.underlying t,P.info? e with
  | some (.slice e'),some i=>Nat.beq e' e && Nat.beq i.size sz && Nat.beq i.bytes bytes && (match i.zero with | some z=>Nat.beq z.cells.size sz | none=>false) && !Nat.beq sz 0
  | _,_=>false
class yN (P:Program) (t:TypeId) (e sz bytes:outParam Nat):Prop where
  ok:yw P t e sz bytes = true
theorem yN.get {P:Program} {t e sz bytes:Nat} (h:yw P t e sz bytes = true):∃i z,P.underlying t = some (.slice e)∧P.info? e = some i∧i.zero = some z∧i.size = sz∧i.bytes = bytes∧z.cells.size = sz∧0 < sz:=by
  unfold yw at h
  split at h
  · rename_i e' i h1 h2
    simp only [Bool.and_eq_true,Bool.not_eq_true'] at h
    obtain ⟨⟨⟨⟨a1,a2⟩,a3⟩,a4⟩,a5⟩:=h
    cases hz:i.zero with
    | none=>simp [hz] at a4
    | some z =>
      simp only [hz] at a4
      rw [Nat.eq_of_beq_eq_true a1] at h1
      refine ⟨i,z,h1,h2,hz,Nat.eq_of_beq_eq_true a2,Nat.eq_of_beq_eq_true a3,Nat.eq_of_beq_eq_true a4,Nat.pos_of_ne_zero fun e0=>?_⟩
      rw [e0] at a5; exact absurd a5 (by decide)
  · cases h
theorem k6 {P:Program} {t ty e sz bytes n m cp:Nat} {v:Value} {xs news:List Value} {w:World} {b off:Nat} [ht:yN P t e sz bytes] (hown:w.ownsRow 0 e sz v n xs) (hl:news.length = m * sz)
    (hn:∀(j:Nat) u,news[j]? = some u→w.cell? ⟨b,off + j,none⟩ = some u) (h1:hO news) (v9:(n + m) * bytes ≤ 140737488355328) (h63:n + m ≤ 9223372036854775807) :
    ∃v' w',(Builtin.append_ #[t,t] ty #[v, .slice (some ⟨b,off,none⟩) m cp]).run P w = .ok v' w'∧w'.ownsRow 0 e sz v' (n + m) (xs++news)∧aY v.ownBlock.toList w w' ∧
      (∀k,v'.ownBlock = some k→(v.ownBlock = some k∨w.heap.size ≤ k)∧k < w'.heap.size):=by
  obtain ⟨i,z,e1,e2,e3,e4,e5,e6,e7⟩:=yN.get ht.ok
  have hn' : ∀(j:Nat) u,news[j]? = some u→w.cell? ((⟨b,off,none⟩ : Addr).add j) = some u:=fun j u hj=>by rw [Addr.add_lit]; exact hn j u hj
  have Kv:n + m ≤ maxLen:=by simp only [maxLen]; omega
  obtain ⟨v',w',hr,hown',hg,_⟩:=run_append_own w 0 t ty e i z sz bytes e1 e2 e3 e4 e5 e6 e7 v n xs hown ⟨b,off,none⟩ m cp news hl hn' h1 Kv v9 (Nat.zero_le _)
  refine ⟨v',w',hr,hown',aY.xw hg,fun k hk=>⟨?_,(hown'.lt k hk).2⟩⟩
  subst e4; subst e5
  rcases hown.2 with ⟨rfl,rfl⟩ | ⟨gb,cap,cur,rfl,_,Bg,hnc,G1,hcs,vo⟩
  · obtain ⟨v2,w2,Bf,Fj,_,_⟩:=run_append_own w w.heap.size t ty e i z i.size i.bytes e1 e2 e3 rfl rfl e6 e7 (.slice none 0 0) 0 xs ⟨hown.1, .inl ⟨rfl,rfl⟩⟩ ⟨b,off,none⟩ m cp news hl hn' h1 Kv v9 (Nat.le_refl _)
    rw [hr] at Bf
    cases Bf
    exact .inr (Fj.lt k hk).1
  · by_cases hroom:n + m ≤ cap
    · have hfit:n * i.size + news.length ≤ cur.size:=by rw [hl,hcs,← Nat.add_mul]; exact Nat.mul_le_mul_right _ hroom
      have Bf:=run_append_room (P:=P) w t ty e i e1 e2 gb n cap cur Bg ⟨b,off,none⟩ m cp news hl hn' h1 hroom hfit
      rw [hr] at Bf
      cases Bf
      exact .inl hk
    · have Bf:=run_append_grow (P:=P) w t ty e i z e1 e2 e3 ⟨gb,0,none⟩ n cap xs hown.1 (hown.cells (g:=gb) rfl) ⟨b,off,none⟩ m cp news hl hn' (by omega) (by omega) (growslice_fits (by omega) v9)
      rw [hr] at Bf
      cases Bf
      simp [Value.ownBlock] at hk
      exact .inr (by omega)
def y7 (v:Value):Prop:=∃a n cp,v = .slice a n cp
theorem y7.cells {v:Value} (h:y7 v):v.cells.toList = [v]:=by obtain ⟨a,n,cp,rfl⟩:=h; rfl
theorem y7.one {v:Value} (h:y7 v):v.oneCell' = true:=by obtain ⟨a,n,cp,rfl⟩:=h; cases a <;> rfl
def jU (v:Value) (n:Nat):Prop:=∃a cp,v = .slice a n cp
theorem jU.Kh {v:Value} {n:Nat} (h:jU v n):y7 v:=by obtain ⟨a,cp,rfl⟩:=h; exact ⟨_,_,_,rfl⟩
theorem jU.cells {v:Value} {n:Nat} (h:jU v n):v.cells.toList = [v]:=h.Kh.cells
theorem jU.one {v:Value} {n:Nat} (h:jU v n):v.oneCell' = true:=h.Kh.one
theorem jU.oV {w:World} {v:Value} {e sz n:Nat} {xs:List Value} (h:w.ownsRow 0 e sz v n xs):jU v n:=by
  rcases h.2 with ⟨rfl,rfl⟩ | ⟨_,_,_,rfl,_⟩
  · exact ⟨_,_,rfl⟩
  · exact ⟨_,_,rfl⟩
theorem y7.oV {w:World} {v:Value} {e sz n:Nat} {xs:List Value} (h:w.ownsRow 0 e sz v n xs):y7 v:=by
  rcases h.2 with ⟨rfl,_⟩ | ⟨_,_,_,rfl,_⟩
  · exact ⟨_,_,_,rfl⟩
  · exact ⟨_,_,_,rfl⟩
theorem wH {s x:Operand} {t e sz bytes n m b T cp:Nat} {v:Value} {xs news:List Value} {f:aL→List aL} [yN P t e sz bytes] (hs:ev F s = some v) [hr:lF H v e sz n xs f] (hx:ev F x = some (.slice (some ⟨b,0,none⟩) m cp)) [hc:jZ H b T news]
    (hl:news.length = m * sz) (h1:hO news) (v9:(n + m) * bytes ≤ 140737488355328) (h63:n + m ≤ 9223372036854775807) :
    RX P N c ⟨d, .call ⟨.builtin .append,#[s,x],#[t,t]⟩,ty,p,af,g⟩ F H (fun v'=>jU v' (n + m)) (fun v'=>v') (fun v'=>f (.row v' e sz (n + m) (xs++news))):=fun D a w next Q hst hk=>by
  obtain ⟨k,k1,k2⟩:=hr.ok
  have hm:aL.row v e sz n xs ∈ H:=List.mem_of_getElem? k1
  obtain ⟨v',w',q1,q2,q3,q4⟩:=k6 (P:=P) (t:=t) (ty:=ty) (cp:=cp) (b:=b) (off:=0) (hst.hp.holds _ hm) hl (fun j u hj=>by rw [Nat.zero_add,cell_of (hst.hp.holds _ hc.mem)]; exact hj) h1 v9 h63
  refine fS (by simp) (v:=v') (w':=w') ?_ (hk v' w' (jU.oV q2) (hst.si.trans q3 fun b' hb'=>(hst.hp.own _ hm b' hb').1) ?_)
  · simp [execOp,resolve,invoke,builtin,bp hst.fr hs,bp hst.fr hx,q1]
  · show bN c.bs c.w0.heap.size (f (.row v' e sz (n + m) (xs++news))) w'
    rw [k2]
    refine hst.hp.set k1 q3.size (fun j hj hn=>q3.block j hj hn) q2 hst.si.size (fun b' hb'=>?_)
    have:=q4 b' (by simpa [aL.fA] using hb')
    exact ⟨this.1.imp (fun h=>by simpa [aL.fA] using h) id,this.2⟩
theorem pL {x:Operand} {t e sz:Nat} {v:Value} {cs zs:List Value} [ht:pP P t e sz] [hz:cK P e zs] (hx:ev F x = some v) (hc:v.cells.toList = cs) (hl:cs.length = sz) (GU:zs.length = sz) (h0:0 < sz) (hs:sz ≤ 16777216) :
    RX P N c ⟨d, .buildSlice t 1 #[(0,x)],ty,p,af,g⟩ F H (fun _=>True) (fun b=>.slice (some ⟨b,0,none⟩) 1 1) (fun b=>.cells b e cs::H):=fun D a w next Q hst hk=>by
  obtain ⟨i,h1,h2,h3⟩:=pP.get ht.ok
  obtain ⟨i',z,h4,h5,h6⟩:=cK.get hz.ok
  rw [h2] at h4; cases h4
  have hsz:v.cells.size = sz:=by rw [← hl,← hc]; simp
  refine fS (by simp) (w':=w.alloc (.cells cs.toArray e)) ?_ (hk w.heap.size _ trivial (hst.si.ext (aY.alloc _ _)) (hst.hp.box e cs hst.si.size))
  have FK:Instr.fill (fun i=>some (i * sz,sz)) ((Array.range sz).map (z.cells[· % z.cells.size]!)) [(0,v)] = some cs.toArray:=by
    have:=pq (place:=fun i=>if i = 0 then some (0,sz) else none) (pl:=[(0,sz)]) (by intro i; cases i <;> simp) [(0,v)] ((Array.range sz).map (z.cells[· % z.cells.size]!)) cs (by
      simp only [n3,List.getElem?_cons_zero,hsz,hc,Array.length_toList,Array.size_map,Array.size_range,Nat.zero_add,ne_eq,not_true_eq_false,decide_false,Bool.false_or,gt_iff_lt,Nat.lt_irrefl,Bool.false_eq_true,if_false]
      simp [bw,hl])
    have e:∀cells:Array Value,Instr.fill (fun i=>some (i * sz,sz)) cells [(0,v)] = Instr.fill (fun i=>if i = 0 then some (0,sz) else none) cells [(0,v)]:=fun cells=>by simp [Instr.fill]
    rw [e]; exact this
  have L2:¬ sz = 0:=by omega
  have Jy:¬ 16777216 < sz:=by omega
  simp only [execOp,Instr.buildSlice,Sem.run_bind,run_underlying h1,Result.andThen_ok,sizeOf,typeInfo]
  simp [h2,h3,L2,Jy,bp hst.fr hx,FK,zeroValue,typeInfo,h5,newRow,newObj,Sem.run]
theorem vp {bs:List Nat} {n0 e sz:Nat} {w:World} (h:bN bs n0 H w):bN bs n0 (.row (.slice none 0 0) e sz 0 []::H) w:=
  h.cons ⟨by simp, .inl ⟨rfl,rfl⟩⟩ (fun b hb=>by simp [aL.fA,Value.ownBlock] at hb) (fun s _ b hb=>by simp [aL.fA,Value.ownBlock] at hb)
theorem Au {D:List Deferred} {Q:Exit→Act→World→Prop} {x:Code} (e sz:Nat) (h:WP P N c D x Q F (.row (.slice none 0 0) e sz 0 []::H)):WP P N c D x Q F H:=yE (fun _ _ _ hp=>vp hp) h
theorem Ar {D:List Deferred} {Q:Exit→Act→World→Prop} {x:Exit} (e sz:Nat) (h:WQ N c D Q x F (.row (.slice none 0 0) e sz 0 []::H)):WQ N c D Q x F H:=uS (fun _ _ _ hp=>vp hp) h
end
end Go.Bw
namespace Go.Bw
open Go Go.RowKit
def uN:Option Value→Option Value→Bool
  | some (.int _ a),some (.int _ b)=>a == b
  | some (.bool a),some (.bool b)=>a == b
  | _,_=>false
def mh (k:Option IntKind):Option Value→Bool
  | some (.int k' _)=>match k with | some k=>decide (k = k') | none=>false
  | some (.bool _)=>k.isNone
  | _=>false
def uF:List (Nat × Option IntKind)→List Value→List Value→Bool
  | [],_,_=>true
  | (o,_)::r,cs,ds=>uN cs[o]? ds[o]? && uF r cs ds
def vY:List (Nat × Option IntKind)→List Value→Bool
  | [],_=>true
  | (o,k)::r,cs=>mh k cs[o]? && vY r cs
def Bk (P:Program) (f:Field) (q:Nat × Option IntKind):Bool:=
  f.name != "_" && Nat.beq f.offset q.1 && (match P.underlying f.type,q.2 with | some (.int k),some k'=>decide (k = k') | some .bool,none=>true | _,_=>false)
def mq (P:Program):List Field→List (Nat × Option IntKind)→Bool
  | [],[]=>true
  | f::fs,q::qs=>Bk P f q && mq P fs qs
  | _,_=>false
def uK (P:Program) (t:Nat) (ks:List (Nat × Option IntKind)):Bool:=match P.underlying t with
  | some (.struct fs)=>!P.stoodInHeld t && !P.eqGuardType P.depth t && mq P fs.toList ks
  | _=>false
class AE (P:Program) (t:TypeId) (ks:outParam (List (Nat × Option IntKind))):Prop where
  ok:uK P t ks = true
theorem ji {P:Program} {t off:Nat} {cs:Array Value} {v:Value} {w:World} (ht:(∃k,P.underlying t = some (.int k))∨P.underlying t = some .bool) (h:cs[off]? = some v):(part t cs off).run P w = .ok v w:=by
  rcases ht with ⟨k,hk⟩ | hk <;> simp [part,isAgg,run_underlying hk,h]
theorem mJ {P:Program} {w:World} (n:Nat) {cs ds:List Value}:∀{fs:List Field} {ks:List (Nat × Option IntKind)},mq P fs ks = true→vY ks cs = true→vY ks ds = true →
    (Op.eqFields (n + 1) cs.toArray ds.toArray fs).run P w = .ok (uF ks cs ds) w:=by
  intro fs
  induction fs with
  | nil=>intro ks h _ _; cases ks with
    | nil=>simp [Op.eqFields,uF]
    | cons _ _=>simp [mq] at h
  | cons f fs ih =>
    intro ks h h1 h2
    cases ks with
    | nil=>simp [mq] at h
    | cons q qs =>
      obtain ⟨o,k⟩:=q
      simp only [mq,Bk,Bool.and_eq_true,bne_iff_ne,ne_eq] at h
      obtain ⟨⟨⟨hn,ho⟩,hk⟩,hr⟩:=h
      have ho:f.offset = o:=Nat.eq_of_beq_eq_true ho
      simp only [vY,Bool.and_eq_true] at h1 h2
      have kR:=ih hr h1.2 h2.2
      subst ho
      have k1:=h1.1
      have k2:=h2.1
      match hu:P.underlying f.type,k,hk with
      | some (.int kk),some k',hk =>
        have e:kk = k':=by simpa using hk
        subst e
        match hc:cs[f.offset]?,k1 with
        | some (.int ka a),k1 =>
          have e1:kk = ka:=by simpa [mh] using k1
          subst e1
          match hd:ds[f.offset]?,k2 with
          | some (.int kb b),k2 =>
            have e2:kk = kb:=by simpa [mh] using k2
            subst e2
            have p1:=ji (w:=w) (.inl ⟨_,hu⟩) (show cs.toArray[f.offset]? = some (.int kk a) by simpa using hc)
            have p2:=ji (w:=w) (.inl ⟨_,hu⟩) (show ds.toArray[f.offset]? = some (.int kk b) by simpa using hd)
            have p3:=run_equalIn_int (P:=P) w n f.type kk kk a b hu
            simp only [Op.eqFields,hn,ne_eq,not_false_eq_true,if_true,Sem.run_bind,p1,p2,p3,Result.andThen_ok]
            simp only [uF,hc,hd,uN]
            cases a == b <;> simp [kR]
          | some (.bool _),k2=>simp [mh] at k2
        | some (.bool _),k1=>simp [mh] at k1
      | some .bool,none,_ =>
        match hc:cs[f.offset]?,k1 with
        | some (.bool a),_ =>
          match hd:ds[f.offset]?,k2 with
          | some (.bool b),_ =>
            have p1:=ji (w:=w) (.inr hu) (show cs.toArray[f.offset]? = some (.bool a) by simpa using hc)
            have p2:=ji (w:=w) (.inr hu) (show ds.toArray[f.offset]? = some (.bool b) by simpa using hd)
            have p3:=run_equalIn_bool' (P:=P) w n f.type a b hu
            simp only [Op.eqFields,hn,ne_eq,not_false_eq_true,if_true,Sem.run_bind,p1,p2,p3,Result.andThen_ok]
            simp only [uF,hc,hd,uN]
            cases a == b <;> simp [kR]
          | some (.int _ _),k2=>simp [mh] at k2
        | some (.int _ _),k1=>simp [mh] at k1
section
variable {P:Program} {N:Nat} {c:Cx} {F:cC} {H:List aL} {d:Option Tmp} {ty:TypeId} {p:String} {af:Array Edge} {g:Option (Nat × Bool)}
theorem AE.get {t:Nat} {ks:List (Nat × Option IntKind)} (h:uK P t ks = true):P.underlying t = some (.struct (P.fieldsOf t))∧P.stoodInHeld t = false∧P.eqGuardType P.depth t = false∧mq P (P.fieldsOf t).toList ks = true:=by
  unfold uK at h
  split at h
  · rename_i fs hu
    simp only [Bool.and_eq_true,Bool.not_eq_true'] at h
    have e:P.fieldsOf t = fs:=by simp [Program.fieldsOf,hu]
    rw [e]
    exact ⟨hu,h.1.1,h.1.2,h.2⟩
  · cases h
theorem Aw {x y:Operand} {cs ds:List Value} {T U:TypeId} {ks:List (Nat × Option IntKind)} [hT:AE P T ks] (hx:ev F x = some (.agg cs.toArray)) (hy:ev F y = some (.agg ds.toArray)) (h1:vY ks cs = true) (h2:vY ks ds = true) :
    VS P N c ⟨d, .binOp .eql T x y U,ty,p,af,g⟩ F H (.bool (uF ks cs ds)):=
  bh (by simp) fun a' w hf _ _=>by
    obtain ⟨e1,e2,e3,e4⟩:=AE.get hT.ok
    have q1:=run_eqGuard_agg (P:=P) w .eql T x y cs.toArray ds.toArray e3
    have q2:=run_eql_struct (P:=P) w T cs.toArray ds.toArray
    rw [run_equalIn_struct w 9999 T _ _ e1 e2,mJ 9998 e4 h1 h2] at q2
    simp only [Result.andThen_ok] at q2
    simp [execOp,bp hf hx,bp hf hy,q1,q2]
def ig (l h sz:Nat):Value→Value
  | .slice a _ cap=>.slice (if cap = l then a else a.map (·.add (l * sz))) (h - l) (cap - l)
  | v=>v
theorem Ro.cut {w:World} {v:Value} {sz n l h:Nat} {xs:List Value} (hr:Ro w v sz n xs) (hl:l ≤ h) (hh:h ≤ n):Ro w (ig l h sz v) sz (h - l) ((xs.drop (l * sz)).take ((h - l) * sz)):=by
  have hlen:((xs.drop (l * sz)).take ((h - l) * sz)).length = (h - l) * sz:=by
    have:(h - l) * sz + l * sz ≤ n * sz:=by rw [← Nat.add_mul]; exact Nat.mul_le_mul_right _ (by omega)
    simp [hr.1]; omega
  refine ⟨hlen,?_⟩
  rcases hr.2 with ⟨⟨a,cp,rfl⟩,rfl⟩ | ⟨gb,off,cap,rfl,h2,h3,h4⟩
  · have e1:l = 0:=by omega
    have e2:h = 0:=by omega
    subst e1; subst e2
    exact .inl ⟨⟨_,_,rfl⟩,rfl⟩
  · by_cases e:cap = l
    · have e2:h = l:=by omega
      subst e2
      exact .inl ⟨⟨some ⟨gb,off,none⟩,cap - h,by simp [ig,e]⟩,by omega⟩
    · refine .inr ⟨gb,off + l * sz,cap - l,by simp [ig,e,Addr.add_lit],h2,by omega,fun j u hu=>?_⟩
      rw [List.getElem?_take] at hu
      split at hu
      · rw [List.getElem?_drop] at hu
        rw [Nat.add_assoc]
        exact h4 _ u hu
      · cases hu
theorem yp (l h sz:Nat) (v:Value):(ig l h sz v).ownBlock = v.ownBlock:=by
  cases v with
  | slice a n cap=>cases a <;> simp only [ig] <;> split <;> simp [Value.ownBlock,Addr.add] <;> split <;> rfl
  | _=>rfl
theorem y7.cut {l h sz:Nat} {v:Value} (hv:y7 v):y7 (ig l h sz v):=by obtain ⟨a,n,cp,rfl⟩:=hv; exact ⟨_,_,_,rfl⟩
theorem qR {k:IntKind} {l n:Nat} {code:BoundsCode} {w:World} (h:l ≤ n):(Instr.sliceBound (.int k l) n code).run P w = .ok l w:=by
  have h2:(l:Int) ≤ (n:Int):=by omega
  simp [Instr.sliceBound,asIntOf,h2]
theorem wE {x lo:Operand} {t e q sz n:Nat} (l:Nat) {v:Value} {xs:List Value} {k:IntKind} [ht:pP P t e q] (hx:ev F x = some v) (hlo:ev F lo = some (.int k l)) [h:m5 c H v sz n xs] (hl:l ≤ n) :
    VS P N c ⟨d, .slice t x (some lo) none none,ty,p,af,g⟩ F H (ig l n q v):=
  bh (by simp) fun a w hf hs hp=>by
    obtain ⟨i,h1,h2,h3⟩:=pP.get ht.ok
    obtain ⟨a0,cp,rfl⟩ : ∃a0 cp,v = .slice a0 n cp:=by
      rcases (h.ro w hs hp).2 with ⟨⟨a0,cp,rfl⟩,rfl⟩ | ⟨gb,off,cap,rfl,_⟩ <;> exact ⟨_,_,rfl⟩
    have b1:=qR (P:=P) (k:=k) (w:=w) (code:=.sliceB) hl
    simp [execOp,bp hf hx,bp hf hlo,Instr.sliceAt,run_underlying h1,Instr.slice,Instr.sliceBounds,b1,sizeOf,typeInfo,h2,h3,ig]
theorem wF {x hi:Operand} {t e q sz n:Nat} (m:Nat) {v:Value} {xs:List Value} {k:IntKind} [ht:pP P t e q] (hx:ev F x = some v) (hhi:ev F hi = some (.int k m)) [h:m5 c H v sz n xs] (hm:m ≤ n) :
    VS P N c ⟨d, .slice t x none (some hi) none,ty,p,af,g⟩ F H (ig 0 m q v):=
  bh (by simp) fun a w hf hs hp=>by
    obtain ⟨i,h1,h2,h3⟩:=pP.get ht.ok
    obtain ⟨a0,cp,rfl,Ma⟩ : ∃a0 cp,v = .slice a0 n cp∧m ≤ cp:=by
      rcases (h.ro w hs hp).2 with ⟨⟨a0,cp,rfl⟩,rfl⟩ | ⟨gb,off,cap,rfl,_,hle,_⟩
      · exact ⟨_,_,rfl,by omega⟩
      · exact ⟨_,_,rfl,by omega⟩
    have b1:=qR (P:=P) (k:=k) (w:=w) (code:=.sliceAcap) Ma
    simp [execOp,bp hf hx,bp hf hhi,Instr.sliceAt,run_underlying h1,Instr.slice,Instr.sliceBounds,b1,sizeOf,typeInfo,h2,ig]
theorem pT {t ty e sz bytes n m:Nat} {v x:Value} {xs news:List Value} {w:World} [ht:yN P t e sz bytes] (hown:w.ownsRow 0 e sz v n xs) (hx:Ro w x sz m news) (h1:hO news) (v9:(n + m) * bytes ≤ 140737488355328) (h63:n + m ≤ 9223372036854775807) :
    ∃v' w',(Builtin.append_ #[t,t] ty #[v,x]).run P w = .ok v' w'∧w'.ownsRow 0 e sz v' (n + m) (xs++news)∧aY v.ownBlock.toList w w' ∧
      (∀k,v'.ownBlock = some k→(v.ownBlock = some k∨w.heap.size ≤ k)∧k < w'.heap.size):=by
  rcases hx.2 with ⟨⟨a,cp,rfl⟩,rfl⟩ | ⟨gb,off,cap,rfl,_,_,h4⟩
  · obtain ⟨i,z,e1,e2,e3,e4,e5,e6,e7⟩:=yN.get ht.ok
    have IZ:news = []:=List.length_eq_zero_iff.1 (by rw [hx.1]; simp)
    subst IZ
    have hsrc:Src P i.size t (.slice a 0 cp) 0 [] w:=by
      cases a with
      | none=>exact Src.ofNil w e1 cp
      | some a=>exact Src.ofSlice w e1 a 0 cp [] (by simp) (by simp) (by simp)
    obtain ⟨base,sCap,hv,hle⟩ : ∃base sCap,v = .slice base n sCap∧n ≤ sCap:=by
      rcases hown.2 with ⟨rfl,rfl⟩ | ⟨g,cap,cur,rfl,_,_,hc,_⟩
      · exact ⟨_,_,rfl,Nat.le_refl _⟩
      · exact ⟨_,_,rfl,hc⟩
    have hrun:=run_append_nothing (P:=P) w t t ty e i e1 e2 base n sCap hle _ hsrc
    rw [← hv] at hrun
    refine ⟨v,w,hrun,by simpa using hown,aY.refl _ _,fun k hk=>⟨.inl hk,?_⟩⟩
    rcases hown.2 with ⟨rfl,_⟩ | ⟨g,cap,cur,rfl,_,hg,_⟩
    · cases hk
    · cases hk; exact (Array.getElem?_eq_some_iff.1 hg).1
  · exact k6 hown hx.1 h4 h1 v9 h63
theorem se {s x:Operand} {t e sz bytes n m:Nat} {v u:Value} {xs news:List Value} {f:aL→List aL} [yN P t e sz bytes] (hs:ev F s = some v) [hr:lF H v e sz n xs f] (hx:ev F x = some u) [hu:m5 c H u sz m news]
    (h1:hO news) (v9:(n + m) * bytes ≤ 140737488355328) (h63:n + m ≤ 9223372036854775807) :
    RX P N c ⟨d, .call ⟨.builtin .append,#[s,x],#[t,t]⟩,ty,p,af,g⟩ F H (fun v'=>jU v' (n + m)) (fun v'=>v') (fun v'=>f (.row v' e sz (n + m) (xs++news))):=fun D a w next Q hst hk=>by
  obtain ⟨k,k1,k2⟩:=hr.ok
  have hm:aL.row v e sz n xs ∈ H:=List.mem_of_getElem? k1
  obtain ⟨v',w',q1,q2,q3,q4⟩:=pT (P:=P) (t:=t) (ty:=ty) (hst.hp.holds _ hm) (hu.ro w hst.si hst.hp) h1 v9 h63
  refine fS (by simp) (v:=v') (w':=w') ?_ (hk v' w' (jU.oV q2) (hst.si.trans q3 fun b' hb'=>(hst.hp.own _ hm b' hb').1) ?_)
  · simp [execOp,resolve,invoke,builtin,bp hst.fr hs,bp hst.fr hx,q1]
  · show bN c.bs c.w0.heap.size (f (.row v' e sz (n + m) (xs++news))) w'
    rw [k2]
    refine hst.hp.set k1 q3.size (fun j hj hn=>q3.block j hj hn) q2 hst.si.size (fun b' hb'=>?_)
    have:=q4 b' (by simpa [aL.fA] using hb')
    exact ⟨this.1.imp (fun h=>by simpa [aL.fA] using h) id,this.2⟩
structure Sl where
  v:Value
  sz:Nat
  n:Nat
  xs:List Value
def Sl.ok (w:World) (q:Sl):Prop:=Ro w q.v q.sz q.n q.xs
def BU (l:List Sl):List Nat:=l.flatMap fun q=>q.v.ownBlock.toList
def EC (l:List Sl):aL:=.ext (BU l) fun w=>∀q ∈ l,q.ok w
class MS (H:List aL) (v:Value) (sz n:outParam Nat) (xs:outParam (List Value)):Prop where
  ok:∃l,EC l ∈ H∧(⟨v,sz,n,xs⟩ : Sl) ∈ l
class MK (l:List Sl) (v:Value) (sz n:outParam Nat) (xs:outParam (List Value)):Prop where
  ok:(⟨v,sz,n,xs⟩ : Sl) ∈ l
class MG (H:List aL) (l:outParam (List Sl)) (f:outParam (aL→List aL)):Prop where
  ok:∃k,H[k]? = some (EC l)∧∀r,f r = H.set k r
end
end Go.Bw
namespace Go.Bw
open Go Go.RowKit
def IntKind.up (k:IntKind):Nat:=if k.signed then k.bits - 1 else k.bits
theorem zf {k:IntKind} {r:Nat} (h:r < 2 ^ IntKind.up k):k.wrap (r:Int) = r:=by
  cases k <;> simp only [IntKind.up,IntKind.signed,IntKind.bits,if_true,Bool.false_eq_true,if_false] at h <;>
    simp [IntKind.wrap,IntKind.signed,IntKind.bits] at h ⊢ <;> omega
theorem Am (k:IntKind):IntKind.up k ≤ k.bits:=by cases k <;> simp [IntKind.up,IntKind.signed,IntKind.bits]
section
variable {P:Program} {N:Nat} {c:Cx} {F:cC} {H:List aL} {d:Option Tmp} {ty:TypeId} {p:String} {af:Array Edge} {g:Option (Nat × Bool)} {x y:Operand} {k:IntKind} {T U:TypeId}
theorem wA {x y:Operand} {T len e sz q m:Nat} {i:Int} {k:IntKind} {cs us:List Value} [hT:nK P T len e sz] [hA:iw P e q] (hx:ev F x = some (.agg cs.toArray)) (hy:ev F y = some (.int k i)) (hi:i = (m:Int)) (hm:m < len)
    (hv:(cs.drop (m * sz)).take sz = us):VS P N c ⟨d, .index T x y,ty,p,af,g⟩ F H (.agg us.toArray):=
  bh (by simp) fun a w hf _ _=>by
    obtain ⟨inf,h1,h2,h3⟩:=nK.get hT.ok
    subst hi
    have hs:(sizeOf e).run P w = .ok sz w:=by simp [sizeOf,typeInfo,h2,h3]
    have C5:(isAgg e).run P w = .ok true w:=jw w
    have he:cs.toArray.extract (m * sz) (m * sz + sz) = us.toArray:=by
      apply Array.ext'
      rw [← hv]
      simp [List.extract_eq_take_drop,Nat.add_sub_cancel_left]
    have hp:(part e cs.toArray (m * sz)).run P w = .ok (.agg us.toArray) w:=by
      unfold part
      rw [Sem.run_bind,C5]
      simp only [Result.andThen_ok,if_true,Sem.run_bind,hs,Sem.run_pure,he]
    simp [execOp,bp hf hx,bp hf hy,Instr.index,asIntOf,run_underlying h1,hm,hs,hp]
theorem qS {x y:Operand} {T len e sz m:Nat} {i:Int} {k:IntKind} {cs:List Value} {u:Value} [hT:nK P T len e sz] [hA:jI P e] (hx:ev F x = some (.agg cs.toArray)) (hy:ev F y = some (.int k i)) (hi:i = (m:Int)) (hm:m < len)
    (hv:cs[m * sz]? = some u):VS P N c ⟨d, .index T x y,ty,p,af,g⟩ F H u:=
  bh (by simp) fun a w hf _ _=>by
    obtain ⟨inf,h1,h2,h3⟩:=nK.get hT.ok
    subst hi
    have hs:(sizeOf e).run P w = .ok sz w:=by simp [sizeOf,typeInfo,h2,h3]
    have C5:(isAgg e).run P w = .ok false w:=kK w
    have hp:(part e cs.toArray (m * sz)).run P w = .ok u w:=by simp [part,C5,hv]
    simp [execOp,bp hf hx,bp hf hy,Instr.index,asIntOf,run_underlying h1,hm,hs,hp]
end
end Go.Bw
namespace Go.Bw
open Go
def dI {α:Type} (g:Nat→α) (i:Nat) (v:α):Nat→α:=fun j=>if j = i then v else g j
@[simp] theorem wW {α:Type} (g:Nat→α) (i:Nat) (v:α):dI g i v i = v:=by simp [dI]
theorem vK {α:Type} (g:Nat→α) {i j:Nat} (v:α) (h:j ≠ i):dI g i v j = g j:=by simp [dI,h]
def flat (g:Nat→List Value):Nat→List Value
  | 0=>[]
  | n + 1=>flat g n++g n
theorem iM {g:Nat→List Value} {k:Nat}:∀{n:Nat},(∀i,i < n→(g i).length = k)→(flat g n).length = n * k:=by
  intro n
  induction n with
  | zero=>intro _; simp [flat]
  | succ n ih=>intro h; simp [flat,ih (fun i hi=>h i (by omega)),h n (by omega),Nat.add_mul]
theorem mu {g g' : Nat→List Value}:∀{n:Nat},(∀i,i < n→g i = g' i)→flat g n = flat g' n:=by
  intro n
  induction n with
  | zero=>intro _; rfl
  | succ n ih=>intro h; simp [flat,ih (fun i hi=>h i (by omega)),h n (by omega)]
theorem flat_get {g:Nat→List Value} {k:Nat}:∀{n i j:Nat},(∀i,i < n→(g i).length = k)→i < n→j < k→(flat g n)[i * k + j]? = (g i)[j]?:=by
  intro n
  induction n with
  | zero=>intro i j _ hi; omega
  | succ n ih =>
    intro i j h hi hj
    have hl:=iM (n:=n) (fun i hi=>h i (by omega))
    by_cases e:i = n
    · subst e
      rw [flat,List.getElem?_append_right (by omega),hl]
      congr 1; omega
    · have:i * k + j < n * k:=by
        have h1:(i + 1) * k ≤ n * k:=Nat.mul_le_mul_right k (by omega)
        rw [Nat.add_mul] at h1; omega
      rw [flat,List.getElem?_append_left (by omega)]
      exact ih (fun i hi=>h i (by omega)) (by omega) hj
theorem oZ {l m:List Value} (h:∀j:Nat,l[j]? = m[j]?):l = m:=List.ext_getElem? h
theorem tR {cs vs:List Value} {off:Nat} (h:off + vs.length ≤ cs.length):(bw cs off vs).length = cs.length:=by
  simp [bw]; omega
theorem kz {cs vs:List Value} {off:Nat} (h:off + vs.length ≤ cs.length) (j:Nat):(bw cs off vs)[j]? = if off ≤ j∧j < off + vs.length then vs[j - off]? else cs[j]?:=by
  unfold bw
  by_cases h1:j < off
  · rw [if_neg (by omega),List.append_assoc,List.getElem?_append_left (by simp; omega),List.getElem?_take,if_pos h1]
  · by_cases h2:j < off + vs.length
    · rw [if_pos (by omega),List.append_assoc,List.getElem?_append_right (by simp; omega),List.getElem?_append_left (by simp; omega)]
      congr 1; simp; omega
    · rw [if_neg (by omega),List.getElem?_append_right (by simp; omega),List.getElem?_drop]
      congr 1; simp; omega
theorem q9 {p q vs:List Value} {off:Nat}:bw (p++q) (p.length + off) vs = p++bw q off vs:=by
  unfold bw
  have h1:(p++q).take (p.length + off) = p++q.take off:=by simp [List.take_append,List.take_of_length_le (show p.length ≤ p.length + off by omega)]
  have h2:(p++q).drop (p.length + off + vs.length) = q.drop (off + vs.length):=by
    rw [Nat.add_assoc,List.drop_append,List.drop_eq_nil_of_le (by omega)]
    simp
  rw [h1,h2]; simp
theorem sG {p q vs:List Value} {off:Nat} (h:off + vs.length ≤ p.length):bw (p++q) off vs = bw p off vs++q:=by
  unfold bw
  rw [List.take_append_of_le_length (by omega),List.drop_append_of_le_length h]
  simp
theorem s9 {g:Nat→List Value} {k n i:Nat} {vs:List Value} (h:∀i,i < n→(g i).length = k) (hi:i < n) (hv:vs.length = k):bw (flat g n) (i * k) vs = flat (dI g i vs) n:=by
  have hl:=iM (n:=n) h
  have h' : ∀j,j < n→(dI g i vs j).length = k:=fun j hj=>by by_cases e:j = i <;> simp [dI,e,hv,h j hj]
  have hl':=iM (n:=n) h'
  have hb:(i + 1) * k ≤ n * k:=Nat.mul_le_mul_right k (by omega)
  rw [Nat.add_mul] at hb
  refine oZ fun j=>?_
  rw [kz (by omega)]
  by_cases hj:j < n * k
  · have hk:0 < k:=by
      rcases Nat.eq_zero_or_pos k with h0 | h0
      · subst h0; omega
      · exact h0
    have hd:j = j / k * k + j % k:=by rw [Nat.mul_comm]; exact (Nat.div_add_mod j k).symm
    have hm:=Nat.mod_lt j hk
    have hq:j / k < n:=Nat.div_lt_of_lt_mul (by rw [Nat.mul_comm]; exact hj)
    by_cases e:j / k = i
    · rw [if_pos (by subst e; omega)]
      rw [hd,flat_get h' hq hm,e,wW]
      congr 1; subst e; omega
    · rw [if_neg]
      · rw [hd,flat_get h' hq hm,flat_get h hq hm,vK _ _ e]
      · rintro ⟨h1,h2⟩
        apply e
        have:i ≤ j / k:=(Nat.le_div_iff_mul_le hk).2 h1
        have:j / k < i + 1:=(Nat.div_lt_iff_lt_mul hk).2 (by rw [Nat.add_mul]; omega)
        omega
  · rw [if_neg (by omega),List.getElem?_eq_none (by omega),List.getElem?_eq_none (by omega)]
theorem wm {g:Nat→List Value} {k n i:Nat} {t:List Value} (h:∀i,i < n→(g i).length = k) (hi:i < n):((flat g n++t).drop (i * k)).take k = g i:=by
  have hl:=iM (n:=n) h
  have hb:(i + 1) * k ≤ n * k:=Nat.mul_le_mul_right k (by omega)
  rw [Nat.add_mul] at hb
  refine oZ fun j=>?_
  rw [List.getElem?_take,List.getElem?_drop]
  by_cases hj:j < k
  · rw [if_pos hj,List.getElem?_append_left (by omega),flat_get h hi hj]
  · rw [if_neg hj,List.getElem?_eq_none (by rw [h i hi]; omega)]
theorem hO.app {a b:List Value} (ha:hO a) (hb:hO b):hO (a++b):=fun v hv=>(List.mem_append.1 hv).elim (ha v) (hb v)
@[simp] theorem hO.set {cs:List Value} {i:Nat} {v:Value} (h:hO cs) (hv:v.oneCell' = true):hO (cs.set i v):=fun u hu=>by
  rcases List.mem_or_eq_of_mem_set hu with h1 | h1
  · exact h u h1
  · rw [h1]; exact hv
@[simp] theorem hO.nil:hO []:=fun _ h=>by cases h
@[simp] theorem hO.cons {v:Value} {r:List Value} (hv:v.oneCell' = true) (h:hO r):hO (v::r):=fun u hu=>by
  rcases List.mem_cons.1 hu with h1 | h1
  · rw [h1]; exact hv
  · exact h u h1
theorem oH {vs:List Value} (h:vs.all (·.oneCell') = true):hO vs:=fun v hv=>List.all_eq_true.1 h v hv
theorem hO.flat {g:Nat→List Value}:∀{n:Nat},(∀i,i < n→hO (g i))→hO (flat g n):=by
  intro n
  induction n with
  | zero=>intro _ v hv; simp [Bw.flat] at hv
  | succ n ih=>intro h; exact (ih fun i hi=>h i (by omega)).app (h n (by omega))
end Go.Bw
namespace Go.Bw
open Go Go.RowKit
def Br (P:Program) (l:Nat) (KL:List Nat) (w1:World) (J:Nat→List Nat→World→Prop) (Jx:List Nat→World→Prop) (encs:Nat→List Value) (n:Nat):Prop:=
  ∀k,k < n→∀W bs,aY KL w1 W→(∀b ∈ bs,(b ∈ KL∨w1.heap.size ≤ b)∧b < W.heap.size)→(aL.ext bs (J k bs)).holds W →
    YieldAt (FA none) 0 P l (encs k).toArray W fun e W'=>∃bs',(∀b ∈ bs',(b ∈ bs∨W.heap.size ≤ b)∧b < W'.heap.size)∧aY bs W W' ∧
      ((e = .returned (.bool true)∧(aL.ext bs' (J (k + 1) bs')).holds W')∨(e = .returned (.bool false)∧(aL.ext bs' (Jx bs')).holds W'))
structure Ka (P:Program) (gf:Nat) (caps:List Value) (Hc:List aL) (pre:World→Prop) (encs:Nat→List Value) (n:Nat):Prop where
  fn:∀(l:Nat) (J:Nat→List Nat→World→Prop) (Jx:List Nat→World→Prop) (bs:List Nat),
    Fn (α:=Bool × List Nat) P gf (.func (.yield l) #[] #[]::caps) (fun w=>pre w∧Br P l (bs++bz Hc) w J Jx encs n) (.ext bs (J 0 bs)::Hc)
      (fun _=>True) (fun _=>.tuple #[]) (fun x=>.ext x.2 (bif x.1 then J n x.2 else Jx x.2)::Hc)
class AN (H:List aL) (bs:List Nat) (J:World→Prop) (f:outParam (aL→List aL)):Prop where
  ok:∃k,H[k]? = some (.ext bs J)∧∀r,f r = H.set k r
instance (priority:=100) Ec (bs J) (H:List aL):AN (.ext bs J::H) bs J (fun r=>r::H):=⟨⟨0,rfl,fun _=>rfl⟩⟩
instance (priority:=50) DM (r:aL) (H:List aL) (bs J f) [h:AN H bs J f]:AN (r::H) bs J (fun q=>r::f q):=
  ⟨by obtain ⟨k,h1,h2⟩:=h.ok; exact ⟨k + 1,by simpa using h1,fun q=>by simp [h2]⟩⟩
section
variable {P:Program} {N:Nat} {c:Cx} {F:cC} {H:List aL} {d:Option Tmp} {ty:TypeId} {p:String} {af:Array Edge} {g:Option (Nat × Bool)}
theorem m7 {x:Operand} {args:List Operand} {ats:Array TypeId} {l n k:Nat} {encs:Nat→List Value} {J:Nat→List Nat→World→Prop} {Jx:List Nat→World→Prop} {bs:List Nat} {f:aL→List aL}
    (hR:Br P l c.bs c.w0 J Jx encs n) (hk:k < n) (hro:c.ro = none) (hx:ev F x = some (.func (.yield l) #[] #[])) (ha:og F args = some (encs k)) [he:AN H bs (J k bs) f] :
    RX (α:=Bool × List Nat) P N c ⟨d, .call ⟨.value x,args.toArray,ats⟩,ty,p,af,g⟩ F H (fun _=>True) (fun x=>.bool x.1) (fun x=>f (.ext x.2 (bif x.1 then J (k + 1) x.2 else Jx x.2))):=fun D a w next Q hst hkk=>by
  obtain ⟨kk,h1,h2⟩:=he.ok
  have hm:aL.ext bs (J k bs) ∈ H:=List.mem_of_getElem? h1
  have cU:∀b ∈ bs,(b ∈ c.bs∨c.w0.heap.size ≤ b)∧b < w.heap.size:=fun b hb=>hst.hp.own _ hm b hb
  obtain ⟨fn,tmps,assign,body,hy,hF,hr⟩:=hR k hk w bs hst.si cU (hst.hp.holds _ hm)
  refine ⟨fun _ _=>trivial,?_⟩
  have hs:Oper.semAt (FA c.ro).round a.eval (⟨d, .call ⟨.value x,args.toArray,ats⟩,ty,p,af,g⟩ : Oper) = execOp a.eval ⟨d, .call ⟨.value x,args.toArray,ats⟩,ty,p,af,g⟩:=Oper.semAt_eq _ _ _ (by simp)
  have hrun:(execOp a.eval ⟨d, .call ⟨.value x,args.toArray,ats⟩,ty,p,af,g⟩).run P w = .ok (.round l fn tmps assign body) w:=by
    have e1:=bp hst.fr hx
    have e2:=nA hst.fr ha
    have e3:#[]++(args.toArray.map a.eval) = (encs k).toArray:=by rw [← e2]; simp
    simp only [execOp,resolve,e1,Deferred.ofValue,Sem.run_bind,Sem.run_pure,Result.andThen_ok,invoke,e3]
    exact hy
  rw [hs,hrun]
  refine ⟨fun h=>by simp at h,⟨trivial,fun cf cs hroom=>?_⟩⟩
  have Kz:FA c.ro = FA none:=by rw [hro]
  rw [Kz]
  obtain ⟨e,W',hpost,CT⟩:=hr cf cs (by rw [← Kz]; exact hroom)
  refine ⟨e,W',?_,CT⟩
  obtain ⟨bs',hb',hsi,qK⟩:=hpost
  have fin:∀b:Bool,(aL.ext bs' (bif b then J (k + 1) bs' else Jx bs')).holds W'→next (a.put d (.bool b)) W':=fun b hh=>by
    refine hkk (b,bs') W' trivial (hst.si.trans hsi fun b hb=>(cU b hb).1) ?_
    show bN c.bs c.w0.heap.size (f (aL.ext bs' (bif b then J (k + 1) bs' else Jx bs'))) W'
    rw [h2]
    exact hst.hp.set h1 hsi.size (fun j hj hn=>hsi.block j hj hn) hh hst.si.size (fun b hb=>hb' b hb)
  rcases qK with ⟨rfl,hh⟩ | ⟨rfl,hh⟩
  · exact fin true hh
  · exact fin false hh
end
def oa:List Nat→List Value→cC→cC
  | p::ps,v::vs,F=>oa ps vs ((p,v)::F)
  | _,_,F=>F
theorem vk:∀{ps:List Nat} {vs:List Value} {F:cC} {t:Array Value} {N:Nat},lJ F t→t.size = N→ps.all (Nat.blt · N) = true→lJ (oa ps vs F) ((ps.zip vs).foldl (fun t q=>t.setIfInBounds q.1 q.2) t)∧((ps.zip vs).foldl (fun t q=>t.setIfInBounds q.1 q.2) t).size = N:=by
  intro ps
  induction ps with
  | nil=>intro vs F t N h hs _; cases vs <;> exact ⟨h,hs⟩
  | cons p ps ih =>
    intro vs F t N h hs ha
    cases vs with
    | nil=>exact ⟨h,hs⟩
    | cons v vs =>
      simp only [List.all_cons,Bool.and_eq_true] at ha
      have h1:=lJ.put (a:=⟨t,[]⟩) (d:=some p) (v:=v) (N:=N) h hs ha.1
      exact ih h1 (by simpa using hs) ha.2
def uV (P:Program) (l:Nat) (body:Code) (R:Ending→World→Prop):Exit→Act→World→Prop:=
  Exit.then (fun a₁ w₁=>∃w₂,(Instr.beginRound l).run P w₁ = .ok () w₂∧body.wpIn (FA (some l)) 0 P (roundPost P l R) a₁ w₂) (fun _ _ _=>False)
def uU (c' : Cx) (JT JX:List Nat→World→Prop):Ending→World→Prop:=fun e W' =>
  ∃bs',(∀b ∈ bs',(b ∈ c'.bs∨c'.w0.heap.size ≤ b)∧b < W'.heap.size)∧aY c'.bs c'.w0 W'∧((e = .returned (.bool true)∧(aL.ext bs' (JT bs')).holds W')∨(e = .returned (.bool false)∧(aL.ext bs' (JX bs')).holds W'))
def JW {α:Type} (n0:Nat) (cb:List Nat) (p:α→Prop) (I:α→List aL):List Nat→World→Prop:=fun bs W=>∃i,p i∧bN cb n0 (I i) W∧bs = bz (I i)
theorem cy {H:List aL} {b:Nat}:b ∈ bz H↔∃r ∈ H,b ∈ r.fA:=by simp [bz]
theorem so {α:Type} {n0:Nat} {cb:List Nat} {p:α→Prop} {I:α→List aL} {W:World} (i:α) (hp:p i) (h:bN cb n0 (I i) W):(aL.ext (bz (I i)) (JW n0 cb p I (bz (I i)))).holds W:=
  fun _ hs hb=>⟨i,hp,h.same hs (fun r hr b rF=>hb b (cy.2 ⟨r,hr,rF⟩)) (fun _ o _=>o),rfl⟩
theorem ext_get {bs:List Nat} {J:World→Prop} {W:World} (h:(aL.ext bs J).holds W):J W:=h W (Nat.le_refl _) fun _ _=>rfl
section rules
variable {P:Program} {N:Nat} {c:Cx} {F:cC} {H H' : List aL} {l:Nat} {body:Code} {R:Ending→World→Prop}
theorem St.xb {N:Nat} {D:List Deferred} {a:Act} {w:World} {b:Nat} {o o' : Obj} (hst:St N c D F H a w) (ho:nO H b o) (hs:oq H b o' H'):St N c D F H' a (w.putObj b o')∧w.heap[b]? = some o:=by
  have hm:=hst.hp.holds _ ho.mem
  have hd:w.heap[b]? = some o:=hm
  have hlt:=(Array.getElem?_eq_some_iff.1 hd).1
  have lT:aY [b] w (w.putObj b o'):=⟨rfl,rfl,rfl,by simp [World.putObj],fun k _ hk=>World.putObj_heap_other (by simpa using hk)⟩
  refine ⟨⟨hst.tm,hst.fr,hst.df,hst.si.store hst.hp ho.mem (by simp [aL.fA]) lT,?_⟩,hd⟩
  obtain ⟨k,o,hk,rfl⟩:=hs.ok
  refine hst.hp.set hk lT.size (fun j hj hne=>lT.block j hj hne) (World.putObj_heap_same hlt) hst.si.size (fun b' hb=>?_)
  have e:b' = b:=by simpa [aL.fA] using hb
  subst e
  exact ⟨.inl (by simp [aL.fA]),by rw [World.putObj]; simpa using hlt⟩
theorem iR {rec:Loop} (hr:rec.state = .ready) (hro:c.ro = some l) [ho:nO H l (.loop rec)] [hs:oq H l (.loop { rec with state:=.busy }) H'] (h:WP P N c [] body (roundPost P l R) F H') :
    WQ N c [] (uV P l body R) .normal F H:=fun a w hst=>by
  obtain ⟨h1,h2⟩:=hst.xb ho hs
  refine ⟨_,run_beginRound h2 hr,?_⟩
  have:=h _ _ h1
  rw [hro] at this
  exact this
variable {α β:Type} {n0:Nat} {cb:List Nat} {p:α→Prop} {I:α→List aL} {px:β→Prop} {X:β→List aL}
theorem aY.owned {c' : Cx} {H:List aL} {w:World} (hp:bN c'.bs c'.w0.heap.size H w) {b:Nat} (hb:b ∈ bz H):(b ∈ c'.bs∨c'.w0.heap.size ≤ b)∧b < w.heap.size:=by
  obtain ⟨r,hr,rF⟩:=cy.1 hb
  exact hp.own r hr b rF
theorem g7 {rec:Loop} (hr:rec.state = .ready) (rE:rec.pending = none) (hT:∀b,(b ∈ c.bs∨c.w0.heap.size ≤ b)→(b ∈ cb∨n0 ≤ b)) {JX:List Nat→World→Prop} [ho:nO H l (.loop { rec with state:=.busy })] [hs:oq H l (.loop rec) H']
    (i:α) (hp:p i) {ks:List Nat} (hk:pick H' ks = some (I i)) (hn:ks.Nodup):WQ N c [] (roundPost P l (uU c (JW n0 cb p I) JX)) .normal F H:=fun a w hst=>by
  obtain ⟨h1,h2⟩:=hst.xb ho hs
  have e:({ { rec with state:=LoopState.busy } with state:=if (none:Option Code).isNone then LoopState.ready else .done,pending:=none }:Loop) = rec:=by cases rec; simp_all
  have hrun:=run_endRound (P:=P) none h2
  rw [e] at hrun
  refine ⟨_,_,hrun,bz (I i),?_,h1.si, .inl ⟨rfl,?_⟩⟩
  · intro b hb; exact aY.owned (h1.hp.pick hk hn) hb
  · refine so i hp ?_
    have:=h1.hp.pick hk hn
    exact ⟨this.holds,fun r hr b hb=>⟨hT b (this.own r hr b hb).1,(this.own r hr b hb).2⟩,this.apart⟩
theorem Ap {rec:Loop} (hT:∀b,(b ∈ c.bs∨c.w0.heap.size ≤ b)→(b ∈ cb∨n0 ≤ b)) {JT:List Nat→World→Prop} [ho:nO H l (.loop { rec with state:=.busy })] {e:Exit} {j:Code}
    (hj:(e = .ret∧j = .ret)∨(∃id,e = .exit id∧j = .exit id)) [hs:oq H l (.loop { rec with state:=.done,pending:=some j }) H']
    (i:β) (hp:px i) {ks:List Nat} (hk:pick H' ks = some (X i)) (hn:ks.Nodup):WQ N c [] (roundPost P l (uU c JT (JW n0 cb px X))) e F H:=fun a w hst=>by
  obtain ⟨h1,h2⟩:=hst.xb ho hs
  have hrun:=run_endRound (P:=P) (some j) h2
  have fin:∃v w',(Instr.endRound l (some j)).run P w = .ok v w'∧uU c JT (JW n0 cb px X) (.returned v) w':=by
    refine ⟨_,_,hrun,bz (X i),?_,h1.si, .inr ⟨rfl,?_⟩⟩
    · intro b hb; exact aY.owned (h1.hp.pick hk hn) hb
    · refine so i hp ?_
      have:=h1.hp.pick hk hn
      exact ⟨this.holds,fun r hr b hb=>⟨hT b (this.own r hr b hb).1,(this.own r hr b hb).2⟩,this.apart⟩
  rcases hj with ⟨rfl,rfl⟩ | ⟨id,rfl,rfl⟩
  · exact fin
  · exact fin
end rules
end Go.Bw
namespace Go.Proofs.Ytbalnnoofdkbaaa
open Go Go.Bw
instance:jI Try.prog 3:=⟨by kernel_rfl⟩
instance:jI Try.prog 4:=⟨by kernel_rfl⟩
instance:jI Try.prog 5:=⟨by kernel_rfl⟩
instance:pP Try.prog 22 55 5:=⟨by kernel_rfl⟩
instance:jI Try.prog 23:=⟨by kernel_rfl⟩
instance:iw Try.prog 26 3:=⟨by kernel_rfl⟩
instance:jo Try.prog 26 0 0:=⟨by kernel_rfl⟩
instance:jo Try.prog 26 1 1:=⟨by kernel_rfl⟩
instance:jo Try.prog 26 2 2:=⟨by kernel_rfl⟩
instance:D2 Try.prog 26 [(0,1),(1,1),(2,1)]:=⟨by kernel_rfl⟩
instance:AE Try.prog 26 [(0,some .u32),(1,none),(2,none)]:=⟨by kernel_rfl⟩
instance:cK Try.prog 26 ([.int .u32 0, .bool false, .bool false]):=⟨by kernel_rfl⟩
instance:iw Try.prog 27 96:=⟨by kernel_rfl⟩
instance:nK Try.prog 27 32 26 3:=⟨by kernel_rfl⟩
instance:iw Try.prog 29 96:=⟨by kernel_rfl⟩
instance:jo Try.prog 29 0 0:=⟨by kernel_rfl⟩
instance:iw Try.prog 31 96:=⟨by kernel_rfl⟩
instance:jo Try.prog 31 0 0:=⟨by kernel_rfl⟩
instance:jI Try.prog 32:=⟨by kernel_rfl⟩
instance:cK Try.prog 32 ([.int .u32 0]):=⟨by kernel_rfl⟩
instance:jI Try.prog 33:=⟨by kernel_rfl⟩
instance:pP Try.prog 33 124 2:=⟨by kernel_rfl⟩
instance:yN Try.prog 33 124 2 16:=⟨by kernel_rfl⟩
instance:iw Try.prog 35 2:=⟨by kernel_rfl⟩
instance:jo Try.prog 35 1 1:=⟨by kernel_rfl⟩
instance:iw Try.prog 36 8:=⟨by kernel_rfl⟩
instance:nK Try.prog 36 8 32 1:=⟨by kernel_rfl⟩
instance:iw Try.prog 38 12:=⟨by kernel_rfl⟩
instance:jo Try.prog 38 0 0:=⟨by kernel_rfl⟩
instance:jo Try.prog 38 2 2:=⟨by kernel_rfl⟩
instance:jo Try.prog 38 3 4:=⟨by kernel_rfl⟩
instance:D2 Try.prog 38 [(0,1),(1,1),(2,2),(4,8)]:=⟨by kernel_rfl⟩
instance:cK Try.prog 38 ([.int .u32 0, .int .i64 0, .slice none 0 0, .int .i64 0, .int .u32 0, .int .u32 0, .int .u32 0, .int .u32 0, .int .u32 0, .int .u32 0, .int .u32 0, .int .u32 0]):=⟨by kernel_rfl⟩
instance:nK Try.prog 39 32 38 12:=⟨by kernel_rfl⟩
instance:iw Try.prog 41 480:=⟨by kernel_rfl⟩
instance:jo Try.prog 41 0 0:=⟨by kernel_rfl⟩
instance:jo Try.prog 41 1 96:=⟨by kernel_rfl⟩
instance:iw Try.prog 55 5:=⟨by kernel_rfl⟩
instance:jo Try.prog 55 0 0:=⟨by kernel_rfl⟩
instance:jo Try.prog 55 1 1:=⟨by kernel_rfl⟩
instance:jo Try.prog 55 2 2:=⟨by kernel_rfl⟩
instance:jo Try.prog 55 3 3:=⟨by kernel_rfl⟩
instance:jo Try.prog 55 4 4:=⟨by kernel_rfl⟩
instance:jI Try.prog 57:=⟨by kernel_rfl⟩
instance:yM Try.prog 57 .i64:=⟨by kernel_rfl⟩
instance:jI Try.prog 70:=⟨by kernel_rfl⟩
instance:pP Try.prog 70 32 1:=⟨by kernel_rfl⟩
instance:yN Try.prog 70 32 1 4:=⟨by kernel_rfl⟩
instance:jI Try.prog 98:=⟨by kernel_rfl⟩
instance:iw Try.prog 124 2:=⟨by kernel_rfl⟩
instance:jo Try.prog 124 0 0:=⟨by kernel_rfl⟩
instance:jo Try.prog 124 1 1:=⟨by kernel_rfl⟩
instance:D2 Try.prog 124 [(0,1),(1,1)]:=⟨by kernel_rfl⟩
instance:cK Try.prog 124 ([.int .i64 0, .int .i64 0]):=⟨by kernel_rfl⟩
instance:iw Try.prog 138 1:=⟨by kernel_rfl⟩
instance:D2 Try.prog 138 [(0,1)]:=⟨by kernel_rfl⟩
instance:cK Try.prog 138 ([.slice none 0 0]):=⟨by kernel_rfl⟩
theorem mixed:Try.prog.follows .mixedOrders = true:=by kernel_rfl
end Go.Proofs.Ytbalnnoofdkbaaa
namespace Go.Bw
open Go Go.RowKit
structure aQ (α:Type) where
  n:Nat
  rep:(World→Prop)→List Value→α→Prop
  len:∀{J cs x},rep J cs x→cs.length = n
  one:∀{J cs x},rep J cs x→hO cs
  mono:∀{J J' : World→Prop} {cs x},(∀w,J' w→J w)→rep J cs x→rep J' cs x
class aZ {α:Type} (L:aQ α) where
  enc:α→List Value
  iff:∀{J cs x},L.rep J cs x↔cs = enc x
def aQ.enc {α:Type} (L:aQ α) [aZ L] (x:α):List Value:=aZ.enc L x
section
variable {α β γ S:Type}
theorem rp (L:aQ α) [aZ L] (x:α):L.rep (fun _=>True) (L.enc x) x:=aZ.iff.2 rfl
theorem bF (L:aQ α) [aZ L] (x:α):(L.enc x).length = L.n:=L.len (rp L x)
theorem oA (L:aQ α) [aZ L] (x:α):hO (L.enc x):=L.one (rp L x)
def LI (k:IntKind):aQ Int where
  n:=1
  rep _ cs x:=cs = [.int k x]
  len h:=by subst h; rfl
  one h:=by subst h; exact oH rfl
  mono _ h:=h
instance (k:IntKind):aZ (LI k):=⟨fun x=>[.int k x],Iff.rfl⟩
def LB:aQ Bool where
  n:=1
  rep _ cs x:=cs = [.bool x]
  len h:=by subst h; rfl
  one h:=by subst h; exact oH rfl
  mono _ h:=h
instance:aZ LB:=⟨fun x=>[.bool x],Iff.rfl⟩
def LP (A:aQ α) (B:aQ β):aQ (α × β) where
  n:=A.n + B.n
  rep J cs x:=∃c1 c2,cs = c1++c2∧A.rep J c1 x.1∧B.rep J c2 x.2
  len:=fun ⟨c1,c2,h,h1,h2⟩=>by subst h; simp [A.len h1,B.len h2]
  one:=fun ⟨c1,c2,h,h1,h2⟩=>by subst h; exact (A.one h1).app (B.one h2)
  mono m:=fun ⟨c1,c2,h,h1,h2⟩=>⟨c1,c2,h,A.mono m h1,B.mono m h2⟩
instance (A:aQ α) (B:aQ β) [aZ A] [aZ B]:aZ (LP A B):=⟨fun x=>A.enc x.1++B.enc x.2,by
  intro J cs x
  constructor
  · rintro ⟨c1,c2,rfl,h1,h2⟩
    rw [aZ.iff] at h1 h2; subst h1 h2; rfl
  · intro h; exact ⟨_,_,h,aZ.iff.2 rfl,aZ.iff.2 rfl⟩⟩
def aQ.via (A:aQ α) (f:S→α):aQ S where
  n:=A.n
  rep J cs s:=A.rep J cs (f s)
  len h:=A.len h
  one h:=A.one h
  mono m h:=A.mono m h
instance (A:aQ α) (f:S→α) [aZ A]:aZ (A.via f):=⟨fun s=>A.enc (f s),aZ.iff (L:=A)⟩
def LA (L:aQ α) (m:Nat):aQ (Nat→α) where
  n:=m * L.n
  rep J cs a:=∃cc:Nat→List Value,cs = flat cc m∧∀i,i < m→L.rep J (cc i) (a i)
  len:=fun ⟨cc,h,h1⟩=>by subst h; exact iM fun i hi=>L.len (h1 i hi)
  one:=fun ⟨cc,h,h1⟩=>by subst h; exact hO.flat fun i hi=>L.one (h1 i hi)
  mono m':=fun ⟨cc,h,h1⟩=>⟨cc,h,fun i hi=>L.mono m' (h1 i hi)⟩
instance (L:aQ α) (m:Nat) [aZ L]:aZ (LA L m):=⟨fun a=>flat (fun i=>L.enc (a i)) m,by
  intro J cs a
  constructor
  · rintro ⟨cc,rfl,h⟩
    exact mu fun i hi=>aZ.iff.1 (h i hi)
  · intro h; exact ⟨_,h,fun i _=>aZ.iff.2 rfl⟩⟩
structure bf (L:aQ α) (M:aQ β) (o:Nat) (g:α→β) (s:α→β→α):Prop where
  get:∀{J cs x},L.rep J cs x→M.rep J ((cs.drop o).take M.n) (g x)
  set:∀{J cs x vs v},L.rep J cs x→M.rep J vs v→L.rep J (bw cs o vs) (s x v)
  le:o + M.n ≤ L.n
theorem bf.id {L:aQ α}:bf L L 0 (fun x=>x) (fun _ v=>v) where
  get h:=by rw [List.drop_zero,List.take_of_length_le (by rw [L.len h]; exact Nat.le_refl _)]; exact h
  set:=@fun J cs x vs v h hv=>by
    have:bw cs 0 vs = vs:=tS (by rw [L.len h,L.len hv])
    rw [this]; exact hv
  le:=by omega
where tS {cs vs:List Value} (h:cs.length = vs.length):bw cs 0 vs = vs:=by simp [bw,← h]
theorem bf.fst {A:aQ α} {B:aQ β} {M:aQ γ} {o:Nat} {g:α→γ} {s:α→γ→α} (p:bf A M o g s):bf (LP A B) M o (fun x=>g x.1) (fun x v=>(s x.1 v,x.2)) where
  get:=fun ⟨c1,c2,h,h1,h2⟩=>by
    subst h
    have hl:=A.len h1
    have:=p.le
    rw [List.drop_append_of_le_length (by omega),List.take_append_of_le_length (by simp; omega)]
    exact p.get h1
  set:=fun ⟨c1,c2,h,h1,h2⟩ hv=>by
    subst h
    have hl:=A.len h1
    have:=p.le
    exact ⟨_,_,sG (by rw [M.len hv]; omega),p.set h1 hv,h2⟩
  le:=by have:=p.le; show o + M.n ≤ A.n + B.n; omega
theorem bf.snd {A:aQ α} {B:aQ β} {M:aQ γ} {o:Nat} {g:β→γ} {s:β→γ→β} (p:bf B M o g s):bf (LP A B) M (A.n + o) (fun x=>g x.2) (fun x v=>(x.1,s x.2 v)) where
  get:=fun ⟨c1,c2,h,h1,h2⟩=>by
    subst h
    have hl:=A.len h1
    rw [← hl,← List.drop_drop,List.drop_left]
    exact p.get h2
  set:=fun ⟨c1,c2,h,h1,h2⟩ hv=>by
    subst h
    have hl:=A.len h1
    exact ⟨c1,_,by rw [← hl]; exact q9,h1,p.set h2 hv⟩
  le:=by have:=p.le; show A.n + o + M.n ≤ A.n + B.n; omega
theorem bf.via {A:aQ α} {M:aQ γ} {o:Nat} {g:α→γ} {s:α→γ→α} (p:bf A M o g s) (f:S→α) (g' : S→γ) (s' : S→γ→S) (o' : Nat) (ho:o' = o) (hg:∀x,g' x = g (f x)) (hs:∀x v,f (s' x v) = s (f x) v):bf (A.via f) M o' g' s' where
  get h:=by subst ho; rw [hg]; exact p.get h
  set h hv:=by
    subst ho
    show A.rep _ _ (f (s' _ _))
    rw [hs]; exact p.set h hv
  le:=by subst ho; exact p.le
theorem bf.idx {L:aQ α} {m:Nat} (i:Nat) (h:i < m) {k:Nat} (hk:k = L.n):bf (LA L m) L (i * k) (fun a=>a i) (fun a v=>dI a i v) where
  get:=fun ⟨cc,hc,h1⟩=>by
    subst hc hk
    have:=wm (g:=cc) (t:=[]) (fun j hj=>L.len (h1 j hj)) h
    rw [List.append_nil] at this
    rw [this]; exact h1 i h
  set:=@fun J cs x vs v hh hv=>by
    obtain ⟨cc,hc,h1⟩:=hh
    subst hc hk
    refine ⟨dI cc i vs,s9 (fun j hj=>L.len (h1 j hj)) h (L.len hv),fun j hj=>?_⟩
    unfold dI
    split
    · exact hv
    · exact h1 j hj
  le:=by
    subst hk
    show i * L.n + L.n ≤ m * L.n
    rw [← Nat.succ_mul]; exact Nat.mul_le_mul_right _ h
theorem bf.comp {L:aQ α} {M:aQ β} {K:aQ γ} {o1 o2:Nat} {g1:α→β} {s1:α→β→α} {g2:β→γ} {s2:β→γ→β} (p:bf L M o1 g1 s1) (q:bf M K o2 g2 s2):bf L K (o1 + o2) (fun x=>g2 (g1 x)) (fun x v=>s1 x (s2 (g1 x) v)) where
  get h:=by
    have h2:=q.get (p.get h)
    have:=q.le
    rw [List.drop_take,List.take_take,List.drop_drop,Nat.min_eq_left (by omega)] at h2
    exact h2
  set:=@fun J cs x vs v h hv=>by
    have hl:=L.len h
    have h2:=p.set h (q.set (p.get h) hv)
    have Ko:=K.len hv
    have:=q.le; have:=p.le
    have e:bw cs o1 (bw ((cs.drop o1).take M.n) o2 vs) = bw cs (o1 + o2) vs:=by
      refine oZ fun j=>?_
      have hm:=M.len (p.get h)
      have hlen:(bw ((cs.drop o1).take M.n) o2 vs).length = M.n:=by
        rw [tR (by omega)]; exact hm
      rw [kz (by omega),kz (cs:=cs) (vs:=vs) (by omega),hlen,Ko]
      by_cases h1:o1 ≤ j∧j < o1 + M.n
      · rw [if_pos h1,kz (by omega),Ko]
        by_cases h3:o1 + o2 ≤ j∧j < o1 + o2 + K.n
        · rw [if_pos h3,if_pos (by omega),show j - o1 - o2 = j - (o1 + o2) by omega]
        · rw [if_neg h3,if_neg (by omega),List.getElem?_take,if_pos (by omega),List.getElem?_drop,show o1 + (j - o1) = j by omega]
      · rw [if_neg h1,if_neg (by omega)]
    rw [e] at h2; exact h2
  le:=by have:=q.le; have:=p.le; omega
theorem bf.c0 {L:aQ α} {M:aQ β} {K:aQ γ} {o2:Nat} {g1:α→β} {s1:α→β→α} {g2:β→γ} {s2:β→γ→β} (p:bf L M 0 g1 s1) (q:bf M K o2 g2 s2):bf L K o2 (fun x=>g2 (g1 x)) (fun x v=>s1 x (s2 (g1 x) v)):=by
  have:=p.comp q
  rwa [Nat.zero_add] at this
theorem bf.int {L:aQ α} {k:IntKind} {o:Nat} {g:α→Int} {s:α→Int→α} (p:bf L (LI k) o g s) {J cs x} (r:L.rep J cs x):cs[o]? = some (.int k (g x)):=by
  have h:(cs.drop o).take 1 = [.int k (g x)]:=p.get r
  have h2:((cs.drop o).take 1)[0]? = some (.int k (g x)):=by rw [h]; rfl
  rw [List.getElem?_take,if_pos (by decide),List.getElem?_drop] at h2
  exact h2
theorem bf.bool {L:aQ α} {o:Nat} {g:α→Bool} {s:α→Bool→α} (p:bf L LB o g s) {J cs x} (r:L.rep J cs x):cs[o]? = some (.bool (g x)):=by
  have h:(cs.drop o).take 1 = [.bool (g x)]:=p.get r
  have h2:((cs.drop o).take 1)[0]? = some (.bool (g x)):=by rw [h]; rfl
  rw [List.getElem?_take,if_pos (by decide),List.getElem?_drop] at h2
  exact h2
theorem bf.agg {L:aQ α} {M:aQ β} [aZ L] [aZ M] {o:Nat} {g:α→β} {s:α→β→α} (p:bf L M o g s) (x:α):((L.enc x).drop o).take M.n = M.enc (g x):=aZ.iff.1 (p.get (rp L x))
theorem bf.put {L:aQ α} {M:aQ β} [aZ L] [aZ M] {o:Nat} {g:α→β} {s:α→β→α} (p:bf L M o g s) (x:α) (v:β):bw (L.enc x) o (M.enc v) = L.enc (s x v):=aZ.iff.1 (p.set (rp L x) (rp M v))
end
section words
variable {α ρ:Type}
def lt (a:α) (f:α→Option ρ):Option ρ:=f a
def gu (b:Bool) (k:Option ρ):Option ρ:=bif b then k else none
def bd (m:Option α) (f:α→Option ρ):Option ρ:=m.bind f
def cn (b:Bool) (x y:Option ρ):Option ρ:=bif b then x else y
def cl (g:Bool) (m:Option α) (z:α) (f:α→Option ρ):Option ρ:=bif g then m.bind f else f z
def dB (i:Int) (n:Nat):Bool:=decide (0 ≤ i) && decide (i < (n:Int))
abbrev wr (k:IntKind) (n:Int):Int:=k.wrap n
def zn (k:IntKind) (a b:Int):Int:=k.wrap (a * 2 ^ (min b.toNat k.bits))
def tT (k:IntKind) (a b:Int):Int:=a.fdiv (2 ^ (min b.toNat k.bits))
def tu (k:IntKind) (a b:Int):Int:=k.wrap ((BitVec.ofInt k.bits a &&& BitVec.ofInt k.bits b).toNat:Int)
theorem dj {a:α} {f:α→Option ρ} {r:ρ} (h:lt a f = some r):∃x,x = a∧f x = some r:=⟨a,rfl,h⟩
theorem eX {b:Bool} {k:Option ρ} {r:ρ} (h:gu b k = some r):b = true∧k = some r:=by cases b with | true=>exact ⟨rfl,h⟩ | false=>cases h
theorem bM {m:Option α} {f:α→Option ρ} {r:ρ} (h:bd m f = some r):∃x,m = some x∧f x = some r:=by cases m with | none=>cases h | some x=>exact ⟨x,rfl,h⟩
theorem nC {b:Bool} {x y:Option ρ} {r:ρ} (hb:b = true) (h:cn b x y = some r):x = some r:=by subst hb; exact h
theorem nD {b:Bool} {x y:Option ρ} {r:ρ} (hb:b = false) (h:cn b x y = some r):y = some r:=by subst hb; exact h
theorem oh {g:Bool} {m:Option α} {z:α} {f:α→Option ρ} {r:ρ} (h:cl g m z f = some r):∃x,(g = true→m = some x)∧(g = false→x = z)∧f x = some r:=by
  cases g with
  | true=>obtain ⟨x,h1,h2⟩:=bM h; exact ⟨x,fun _=>h1,nofun,h2⟩
  | false=>exact ⟨z,nofun,fun _=>rfl,h⟩
theorem aV {i:Int} {n:Nat} (h:dB i n = true):i = (i.toNat:Int)∧i.toNat < n:=by
  simp [dB] at h; omega
theorem mL {g p:Bool} (h:(!g || p) = true) (hg:g = true):p = true:=by subst hg; simpa using h
end words
section
variable {α1 ρ:Type}
def dk (B:(α1→Option ρ)→α1→Option ρ):Nat→α1→Option ρ
  | 0,_=>none
  | n + 1,a1=>B (dk B n) a1
theorem nW {B:(α1→Option ρ)→α1→Option ρ} {n:Nat} {a1:α1} {r:ρ} (h:dk B n a1 = some r):∃lb,lb = B∧dk lb n a1 = some r:=⟨B,rfl,h⟩
theorem nV {lb B:(α1→Option ρ)→α1→Option ρ} (e:lb = B) {m:Nat} {a1:α1} {r:ρ} (h:dk lb m a1 = some r):∃m',m = m' + 1∧B (dk lb m') a1 = some r:=by
  subst e
  cases m with
  | zero=>cases h
  | succ m=>exact ⟨m,rfl,h⟩
theorem EV {j B:α1→Option ρ} (e:j = B) {a1:α1} {r:ρ} (h:j a1 = some r):B a1 = some r:=e ▸ h
theorem gi {B:(α1→Option ρ)→α1→Option ρ} (I:α1→Prop) (μ:α1→Nat) (Q:Option ρ→Prop) (hB:∀k a1,I a1→(∀b1,I b1→μ b1 < μ a1→Q (k b1))→Q (B k a1)):∀n a1,I a1→μ a1 < n→Q (dk B n a1):=by
  intro n
  induction n with
  | zero=>intro a1 _ h; exact absurd h (Nat.not_lt_zero _)
  | succ n ih=>intro a1 hi hm; exact hB _ a1 hi fun b1 hj hl=>ih b1 hj (by omega)
end
section
variable {α1 α2 ρ:Type}
def dF (B:(α1→α2→Option ρ)→α1→α2→Option ρ):Nat→α1→α2→Option ρ
  | 0,_,_=>none
  | n + 1,a1,a2=>B (dF B n) a1 a2
theorem qI {B:(α1→α2→Option ρ)→α1→α2→Option ρ} {n:Nat} {a1:α1} {a2:α2} {r:ρ} (h:dF B n a1 a2 = some r):∃lb,lb = B∧dF lb n a1 a2 = some r:=⟨B,rfl,h⟩
theorem qH {lb B:(α1→α2→Option ρ)→α1→α2→Option ρ} (e:lb = B) {m:Nat} {a1:α1} {a2:α2} {r:ρ} (h:dF lb m a1 a2 = some r):∃m',m = m' + 1∧B (dF lb m') a1 a2 = some r:=by
  subst e
  cases m with
  | zero=>cases h
  | succ m=>exact ⟨m,rfl,h⟩
theorem EU {j B:α1→α2→Option ρ} (e:j = B) {a1:α1} {a2:α2} {r:ρ} (h:j a1 a2 = some r):B a1 a2 = some r:=e ▸ h
theorem dR {B:(α1→α2→Option ρ)→α1→α2→Option ρ} (I:α1→α2→Prop) (μ:α1→α2→Nat) (Q:Option ρ→Prop) (hB:∀k a1 a2,I a1 a2→(∀b1 b2,I b1 b2→μ b1 b2 < μ a1 a2→Q (k b1 b2))→Q (B k a1 a2)):∀n a1 a2,I a1 a2→μ a1 a2 < n→Q (dF B n a1 a2):=by
  intro n
  induction n with
  | zero=>intro a1 a2 _ h; exact absurd h (Nat.not_lt_zero _)
  | succ n ih=>intro a1 a2 hi hm; exact hB _ a1 a2 hi fun b1 b2 hj hl=>ih b1 b2 hj (by omega)
end
section
variable {α1 α2 α3 ρ:Type}
def kL (B:(α1→α2→α3→Option ρ)→α1→α2→α3→Option ρ):Nat→α1→α2→α3→Option ρ
  | 0,_,_,_=>none
  | n + 1,a1,a2,a3=>B (kL B n) a1 a2 a3
theorem A1 {B:(α1→α2→α3→Option ρ)→α1→α2→α3→Option ρ} {n:Nat} {a1:α1} {a2:α2} {a3:α3} {r:ρ} (h:kL B n a1 a2 a3 = some r):∃lb,lb = B∧kL lb n a1 a2 a3 = some r:=⟨B,rfl,h⟩
theorem A0 {lb B:(α1→α2→α3→Option ρ)→α1→α2→α3→Option ρ} (e:lb = B) {m:Nat} {a1:α1} {a2:α2} {a3:α3} {r:ρ} (h:kL lb m a1 a2 a3 = some r):∃m',m = m' + 1∧B (kL lb m') a1 a2 a3 = some r:=by
  subst e
  cases m with
  | zero=>cases h
  | succ m=>exact ⟨m,rfl,h⟩
theorem ni {B:(α1→α2→α3→Option ρ)→α1→α2→α3→Option ρ} (I:α1→α2→α3→Prop) (μ:α1→α2→α3→Nat) (Q:Option ρ→Prop) (hB:∀k a1 a2 a3,I a1 a2 a3→(∀b1 b2 b3,I b1 b2 b3→μ b1 b2 b3 < μ a1 a2 a3→Q (k b1 b2 b3))→Q (B k a1 a2 a3)):∀n a1 a2 a3,I a1 a2 a3→μ a1 a2 a3 < n→Q (kL B n a1 a2 a3):=by
  intro n
  induction n with
  | zero=>intro a1 a2 a3 _ h; exact absurd h (Nat.not_lt_zero _)
  | succ n ih=>intro a1 a2 a3 hi hm; exact hB _ a1 a2 a3 hi fun b1 b2 b3 hj hl=>ih b1 b2 b3 hj (by omega)
end
section
variable {α1 α2 α3 α4 ρ:Type}
end
section
variable {α1 α2 α3 α4 α5 ρ:Type}
end
section
variable {α1 α2 α3 α4 α5 α6 ρ:Type}
end
section
variable {α1 α2 α3 α4 α5 α6 α7 ρ:Type}
end
section
variable {α1 α2 α3 α4 α5 α6 α7 α8 ρ:Type}
end
section
variable {α1 α2 α3 α4 α5 α6 α7 α8 α9 ρ:Type}
end
section
variable {α1 α2 α3 α4 α5 α6 α7 α8 α9 Hu ρ:Type}
end
section
variable {α1 α2 α3 α4 α5 α6 α7 α8 α9 Hu K5 ρ:Type}
end
section
variable {α1 α2 α3 α4 α5 α6 α7 α8 α9 Hu K5 MT ρ:Type}
end
section rules
variable {P:Program} {N:Nat} {c:Cx} {D:List Deferred} {Q:Exit→Act→World→Prop} {F:cC} {H:List aL} {d:Option Tmp} {ty:TypeId} {ps:String} {af:Array Edge} {g:Option (Nat × Bool)} {α β γ:Type}
theorem gB {x:Operand} {y z:Code} {t:Bool} (hc:ev F x = some (.bool t)) (h1:t = true→WP P N c D y Q F H) (h0:t = false→WP P N c D z Q F H):WP P N c D (.cond x y z) Q F H:=by
  cases t with
  | true=>exact As hc (h1 rfl)
  | false=>exact yI hc (h0 rfl)
theorem yK {o:Oper} {v v' : Value} (h:VS P N c o F H v) (e:v = v'):VS P N c o F H v':=e ▸ h
theorem AA {T U:TypeId} {x y:Operand} {k:IntKind} {a b:Int} (hx:ev F x = some (.int k a)) (hy:ev F y = some (.int k b)):VS P N c ⟨d, .binOp .and T x y U,ty,ps,af,g⟩ F H (.int k (tu k a b)):=Az hx hy rfl fun _ _=>rfl
theorem Av {T U:TypeId} {x y:Operand} {k k' : IntKind} {a b:Int} (hx:ev F x = some (.int k a)) (hy:ev F y = some (.int k' b)) (h0:0 ≤ b):VS P N c ⟨d, .binOp .shl T x y U,ty,ps,af,g⟩ F H (.int k (zn k a b)):=Dt hx hy h0 rfl
theorem vz {T U:TypeId} {x y:Operand} {k k' : IntKind} {a b:Int} (hx:ev F x = some (.int k a)) (hy:ev F y = some (.int k' b)) (h0:0 ≤ b):VS P N c ⟨d, .binOp .shr T x y U,ty,ps,af,g⟩ F H (.int k (tT k a b)):=Ds hx hy h0 rfl
theorem bD {L:aQ α} [aZ L] {x:α} {k:IntKind} {o b t T:Nat} {y:Operand} {gg:α→Int} {s:α→Int→α} (p:bf L (LI k) o gg s) (hx:ev F y = some (Ptr b o)) [jZ H b T (L.enc x)] [jI P t]:VS P N c ⟨d, .load t y,ty,ps,af,g⟩ F H (.int k (gg x)):=cQ hx (p.int (rp L x))
theorem mC {L:aQ α} [aZ L] {x:α} {o b t T:Nat} {y:Operand} {gg:α→Bool} {s:α→Bool→α} (p:bf L LB o gg s) (hx:ev F y = some (Ptr b o)) [jZ H b T (L.enc x)] [jI P t]:VS P N c ⟨d, .load t y,ty,ps,af,g⟩ F H (.bool (gg x)):=cQ hx (p.bool (rp L x))
theorem eC {L:aQ α} {M:aQ β} [aZ L] [aZ M] {x:α} {o b t T q:Nat} {y:Operand} {gg:α→β} {s:α→β→α} (p:bf L M o gg s) (hx:ev F y = some (Ptr b o)) [jZ H b T (L.enc x)] [ht:iw P t q] (hn:M.n = q):VS P N c ⟨d, .load t y,ty,ps,af,g⟩ F H (.agg (M.enc (gg x)).toArray):=by
  subst hn; exact bn hx (p.agg x) (bF _ _)
theorem dx {L:aQ α} {M:aQ β} [aZ L] [aZ M] {x:α} {o b t T q:Nat} {y z:Operand} {gg:α→β} {s:α→β→α} {val:Value} {H' : List aL} (p:bf L M o gg s) (v:β) (x' : α) (e:x' = s x v) (hx:ev F y = some (Ptr b o)) (hz:ev F z = some val) (hv:val.cells.toList = M.enc v)
    [jZ H b T (L.enc x)] [ht:y6 P t q] (hn:M.n = q) [qd H b (L.enc x') H']:RX (α:=Unit) P N c ⟨d, .store t y z,ty,ps,af,g⟩ F H (fun _=>True) (fun _=>undef) (fun _=>H'):=by
  subst hn; subst e
  exact lG hx hz hv (bF _ _) (by rw [bF]; exact p.le) (oA _ _) (p.put x v)
theorem fz (L:aQ α) [aZ L] (x:α) {y:Operand} {t:Nat} {val:Value} (hx:ev F y = some val) (hv:val.cells.toList = L.enc x) :
    RX P N c ⟨d, .box t y,ty,ps,af,g⟩ F H (fun _=>True) (fun b=>Ptr b 0) (fun b=>.cells b t (L.enc x)::H):=uX hx hv
theorem cL {L:aQ α} [aZ L] {z:α} {t:Nat} (hz:cK P t (L.enc z)) :
    RX P N c ⟨d, .alloc t,ty,ps,af,g⟩ F H (fun _=>True) (fun b=>Ptr b 0) (fun b=>.cells b t (L.enc z)::H):=bK (hz:=hz)
theorem Dy {L:aQ α} [aZ L] {A:Nat→α} {x y:Operand} {T len e sz q m:Nat} {i:Int} {k:IntKind} [hT:nK P T len e sz] [hA:iw P e q] (hx:ev F x = some (.agg ((LA L len).enc A).toArray)) (hy:ev F y = some (.int k i)) (hi:i = (m:Int)) (hm:m < len) (h1:L.n = sz) (h2:L.n = q) :
    VS P N c ⟨d, .index T x y,ty,ps,af,g⟩ F H (.agg (L.enc (A m)).toArray):=by
  subst h2
  have:=(bf.idx (L:=L) (m:=len) m hm (k:=sz) h1.symm).agg A
  rw [h1] at this
  exact wA hx hy hi hm this
end rules
end Go.Bw
namespace Go.Bw
open Go Go.RowKit
def Hs (R:List aL) (w:World):Prop:=∀r ∈ R,r.holds w∧∀b ∈ r.fA,b < w.heap.size
class bT (K:World→Prop):Prop where
  ok:∀w w',K w→aY [] w w'→K w'
instance D3 (R:List aL):bT (Hs R):=⟨fun w w' h hs r hr=>⟨aL.jA (h r hr).1 hs.size fun b hb=>hs.block b ((h r hr).2 b hb) (by simp),fun b hb=>Nat.lt_of_lt_of_le ((h r hr).2 b hb) hs.size⟩⟩
instance Dz (A B:World→Prop) [bT A] [bT B]:bT (fun w=>A w∧B w):=⟨fun w w' h hs=>⟨bT.ok w w' h.1 hs,bT.ok w w' h.2 hs⟩⟩
class Bv (A:World→Prop) (r:aL):Prop where
  ok:∀w,A w→r.holds w∧∀b ∈ r.fA,b < w.heap.size
instance (priority:=100) GJ (r:aL) (R:List aL):Bv (Hs (r::R)) r:=⟨fun _ h=>h r (by simp)⟩
instance (priority:=50) Ee (r s:aL) (R:List aL) [h:Bv (Hs R) r]:Bv (Hs (s::R)) r:=⟨fun w hw=>h.ok w fun q hq=>hw q (by simp [hq])⟩
instance (priority:=30) K1 (A B:World→Prop) (r:aL) [h:Bv B r]:Bv (fun w=>A w∧B w) r:=⟨fun w hw=>h.ok w hw.2⟩
class wJ (A B:World→Prop):Prop where
  ok:∀w,A w→B w
theorem dg {A B:World→Prop} [h:wJ A B]:∀w,A w→B w:=h.ok
instance (priority:=100) GK (A:World→Prop):wJ A A:=⟨fun _ h=>h⟩
instance (priority:=90) Ht (A B C:World→Prop) [h:wJ A B] [k:wJ A C]:wJ A (fun w=>B w∧C w):=⟨fun w hw=>⟨h.ok w hw,k.ok w hw⟩⟩
instance (priority:=80) Hr (A:World→Prop):wJ A (Hs []):=⟨fun _ _ _ h=>by simp at h⟩
instance (priority:=70) GL (A:World→Prop) (r:aL) (R:List aL) [h:Bv A r] [k:wJ A (Hs R)]:wJ A (Hs (r::R)):=⟨fun w hw q hq=>by
  rcases List.mem_cons.1 hq with rfl | hq
  · exact h.ok w hw
  · exact k.ok w hw q hq⟩
instance (priority:=40) K4 (A B C:World→Prop) [h:wJ A C]:wJ (fun w=>A w∧B w) C:=⟨fun w hw=>h.ok w hw.1⟩
class Kn (c:Cx) (H:List aL) (A:World→Prop):Prop where
  ok:∀w,aY c.bs c.w0 w→bN c.bs c.w0.heap.size H w→A w
theorem kn {c:Cx} {H:List aL} {A:World→Prop} [h:Kn c H A]:∀w,aY c.bs c.w0 w→bN c.bs c.w0.heap.size H w→A w:=h.ok
theorem Be {c:Cx} {H:List aL} {w:World} (h:bN c.bs c.w0.heap.size H w):Hs H w:=fun r hr=>⟨h.holds r hr,fun b hb=>(h.own r hr b hb).2⟩
instance (priority:=90) J8 (c:Cx) (H:List aL) (A B:World→Prop) [h:Kn c H A] [k:Kn c H B]:Kn c H (fun w=>A w∧B w):=⟨fun w h1 h2=>⟨h.ok w h1 h2,k.ok w h1 h2⟩⟩
instance (priority:=80) KZ (c:Cx) (H R:List aL) [h:wJ (Hs H) (Hs R)]:Kn c H (Hs R):=⟨fun w _ h2=>h.ok w (Be h2)⟩
instance (priority:=80) Hl (c:Cx) (H:List aL):Kn c H (fun _=>True):=⟨fun _ _ _=>trivial⟩
section
variable {α β:Type}
def ep (L:aQ α) [aZ L] (xs:List α):List Value:=(xs.map L.enc).flatten
theorem k7 (L:aQ α) [aZ L] (xs:List α):(ep L xs).length = xs.length * L.n:=by
  induction xs with
  | nil=>simp [ep]
  | cons x xs ih=>simp only [ep,List.map_cons,List.flatten_cons,List.length_append,List.length_cons,bF] at *; rw [ih,Nat.succ_mul]; omega
theorem xh (L:aQ α) [aZ L] (xs:List α):hO (ep L xs):=by
  intro v hv
  simp only [ep,List.mem_flatten,List.mem_map] at hv
  obtain ⟨l,⟨x,_,rfl⟩,h⟩:=hv
  exact oA L x v h
theorem k8 (L:aQ α) [aZ L] (xs ys:List α):ep L (xs++ys) = ep L xs++ep L ys:=by simp [ep]
theorem qq (L:aQ α) [aZ L] (x:α):ep L [x] = L.enc x:=by simp [ep]
theorem uB (g:Nat→List Value):∀n,flat g (n + 1) = g 0++flat (fun i=>g (i + 1)) n:=by
  intro n
  induction n with
  | zero=>simp [flat]
  | succ n ih=>rw [flat,ih,flat,List.append_assoc]
theorem j2 (L:aQ α) [aZ L] [Inhabited α] (xs:List α):ep L xs = (LA L xs.length).enc (fun i=>xs.getD i default):=by
  show _ = flat (fun i=>L.enc (xs.getD i default)) xs.length
  induction xs with
  | nil=>rfl
  | cons x xs ih=>rw [List.length_cons,uB]; simp only [ep,List.map_cons,List.flatten_cons] at *; rw [ih]; rfl
theorem sJ (L:aQ α) [aZ L] (xs:List α) (l h:Nat) (hl:l ≤ h) (hh:h ≤ xs.length):((ep L xs).drop (l * L.n)).take ((h - l) * L.n) = ep L ((xs.drop l).take (h - l)):=by
  have e1:xs = xs.take l++((xs.drop l).take (h - l)++(xs.drop l).drop (h - l)):=by rw [List.take_append_drop,List.take_append_drop]
  have l1:(ep L (xs.take l)).length = l * L.n:=by rw [k7,List.length_take,Nat.min_eq_left (by omega)]
  have l2:(ep L ((xs.drop l).take (h - l))).length = (h - l) * L.n:=by rw [k7]; congr 1; simp; omega
  conv=>lhs; rw [e1,k8,k8]
  rw [← l1,List.drop_left,← l2,List.take_left]
theorem xg (L:aQ α) [aZ L] [Inhabited α] (xs:List α) (m:Nat) (y:α) (hm:m < xs.length):(LA L xs.length).enc (dI (fun i=>xs.getD i default) m y) = ep L (xs.set m y):=by
  rw [j2,List.length_set]
  show flat _ _ = flat _ _
  refine mu fun i hi=>?_
  congr 1
  unfold dI
  simp only [List.getD,List.getElem?_set]
  by_cases e:m = i
  · subst e; simp [hm]
  · simp [e,Ne.symm e]
structure Fz (A:World→Prop) (v:Value) (L:aQ α) [aZ L] (xs:List α):Prop where
  sl:jU v xs.length
  ro:∀w,A w→Ro w v L.n xs.length (ep L xs)
theorem Fz.mono {A B:World→Prop} {v:Value} {L:aQ α} [aZ L] {xs:List α} (h:Fz A v L xs) (m:∀w,B w→A w):Fz B v L xs:=⟨h.sl,fun w hw=>h.ro w (m w hw)⟩
theorem Fz.nil {A:World→Prop} {L:aQ α} [aZ L] {a:Option Addr} {cp:Nat}:Fz A (.slice a 0 cp) L ([]:List α):=⟨⟨_,_,rfl⟩,fun _ _=>⟨by simp [ep], .inl ⟨⟨_,_,rfl⟩,rfl⟩⟩⟩
theorem Fz.at {c:Cx} {H:List aL} {A:World→Prop} {v:Value} {L:aQ α} [aZ L] {xs:List α} (h:Fz A v L xs) [k:Kn c H A]:m5 c H v L.n xs.length (ep L xs):=⟨fun w h1 h2=>h.ro w (k.ok w h1 h2)⟩
theorem Fz.cut {A:World→Prop} {v:Value} {L:aQ α} [aZ L] {xs:List α} (h:Fz A v L xs) (l m sz:Nat) (hs:sz = L.n) (hl:l ≤ m) (hm:m ≤ xs.length):Fz A (ig l m sz v) L ((xs.drop l).take (m - l)):=by
  subst hs
  have hlen:((xs.drop l).take (m - l)).length = m - l:=by simp; omega
  refine ⟨?_,fun w hw=>?_⟩
  · obtain ⟨a,cp,rfl⟩:=h.sl
    rw [hlen]; exact ⟨_,_,rfl⟩
  · have:=(h.ro w hw).cut hl hm
    rw [sJ L xs l m hl hm] at this
    rw [hlen]; exact this
abbrev Row (v:Value) (e sz:Nat) (L:aQ α) [aZ L] (xs:List α):aL:=.row v e sz xs.length (ep L xs)
theorem Fz.row {v:Value} {e sz:Nat} {L:aQ α} [aZ L] {xs:List α} (hs:sz = L.n) (h:jU v xs.length):Fz (Hs [Row v e sz L xs]) v L xs:=⟨h,fun w hw=>by
  subst hs
  have h1:(Row v e L.n L xs).holds w:=(hw _ (List.mem_singleton.2 rfl)).1
  exact Ro.oV (e:=e) h1⟩
theorem Fz.cells {b T m:Nat} {L:aQ α} [aZ L] {xs:List α} (hm:m = xs.length):Fz (Hs [.cells b T (ep L xs)]) (.slice (some ⟨b,0,none⟩) m m) L xs:=by
  subst hm
  refine ⟨⟨_,_,rfl⟩,fun w hw=>?_⟩
  obtain ⟨h1,h2⟩:=hw _ (List.mem_singleton.2 rfl)
  refine ⟨k7 _ _, .inr ⟨b,0,_,rfl,h2 b (by simp [aL.fA]),Nat.le_refl _,fun j u hu=>?_⟩⟩
  rw [Nat.zero_add,cell_of h1]; exact hu
theorem tU (M:aQ β) [aZ M] [Inhabited β] (g:Nat→β) (m:Nat):ep M ((List.range m).map g) = flat (fun i=>M.enc (g i)) m:=by
  rw [j2]
  show flat _ _ = _
  rw [List.length_map,List.length_range]
  refine mu fun i hi=>?_
  simp [List.getD,hi]
theorem Fz.EF {W:World} {v:Value} {L:aQ α} [aZ L] [Inhabited α] {sz len:Nat} {g:Nat→α} (hs:sz = L.n) (hv:jU v len) (h:Ro W v sz len (flat (fun i=>L.enc (g i)) len)):Fz (fun w=>aY [] W w) v L ((List.range len).map g):=by
  subst hs
  refine ⟨by simpa using hv,fun w hw=>?_⟩
  rw [tU]
  have:=h.since hw
  simpa using this
instance AF (W:World):bT (fun w=>aY [] W w):=⟨fun _ _ h hs=>h.ext hs⟩
def oJ (L:aQ α) [aZ L]:aQ (List α) where
  n:=1
  rep A cs xs:=∃v,cs = [v]∧Fz A v L xs
  len:=fun ⟨v,h,_⟩=>by subst h; rfl
  one:=fun ⟨v,h,hf⟩=>by subst h; intro u hu; rw [List.mem_singleton.1 hu]; exact hf.sl.one
  mono m:=fun ⟨v,h,hf⟩=>⟨v,h,hf.mono m⟩
theorem bf.sl {L:aQ α} {M:aQ β} [aZ M] {o:Nat} {g:α→List β} {s:α→List β→α} (p:bf L (oJ M) o g s) {A cs x} (r:L.rep A cs x):∃v,cs[o]? = some v∧Fz A v M (g x):=by
  obtain ⟨v,h,hf⟩:=p.get r
  refine ⟨v,?_,hf⟩
  have h2:((cs.drop o).take (oJ M).n)[0]? = some v:=by rw [h]; rfl
  rw [List.getElem?_take,if_pos (by show 0 < 1; decide),List.getElem?_drop] at h2
  exact h2
end
section rules
variable {P:Program} {N:Nat} {c:Cx} {D:List Deferred} {Q:Exit→Act→World→Prop} {F:cC} {H:List aL} {d:Option Tmp} {ty:TypeId} {ps:String} {af:Array Edge} {g:Option (Nat × Bool)} {α β γ:Type}
section
variable {A:World→Prop} {v:Value} {L:aQ α} [aZ L] {xs:List α}
theorem fJ {x:Operand} {t e q:Nat} [ht:pP P t e q] (hf:Fz A v L xs) (hx:ev F x = some v) [Kn c H A]:VS P N c ⟨d, .call ⟨.builtin .len,#[x],#[t]⟩,ty,ps,af,g⟩ F H (.int .i64 (xs.length:Int)):=by
  haveI:=hf.at (c:=c) (H:=H)
  exact Dx hx
theorem gM {x y:Operand} {t e sz m:Nat} {k:IntKind} {i:Int} [ht:pP P t e sz] (hf:Fz A v L xs) (hs:L.n = sz) (hx:ev F x = some v) (hy:ev F y = some (.int k i)) [Kn c H A] (hi:i = (m:Int)) (hm:m < xs.length) :
    VS P N c ⟨d, .indexAddr t x y,ty,ps,af,g⟩ F H (jx v (m * sz)):=by
  haveI:=hf.at (c:=c) (H:=H)
  subst hs
  exact r8 hx hy hi hm
variable [Inhabited α]
theorem jT {k:IntKind} {o t:Nat} {y:Operand} {gg:(Nat→α)→Int} {s:(Nat→α)→Int→(Nat→α)} (hf:Fz A v L xs) (p:bf (LA L xs.length) (LI k) o gg s) (hx:ev F y = some (jx v o)) [Kn c H A] [jI P t]:VS P N c ⟨d, .load t y,ty,ps,af,g⟩ F H (.int k (gg (fun i=>xs.getD i default))):=by
  haveI:=hf.at (c:=c) (H:=H)
  exact tD hx (by rw [j2]; exact p.int (rp _ _))
theorem oG {M:aQ β} [aZ M] {o t q:Nat} {y:Operand} {gg:(Nat→α)→β} {s:(Nat→α)→β→(Nat→α)} (hf:Fz A v L xs) (p:bf (LA L xs.length) M o gg s) (hx:ev F y = some (jx v o)) [Kn c H A] [iw P t q] (hn:M.n = q) (h0:0 < q) :
    VS P N c ⟨d, .load t y,ty,ps,af,g⟩ F H (.agg (M.enc (gg (fun i=>xs.getD i default))).toArray):=by
  haveI:=hf.at (c:=c) (H:=H)
  subst hn
  exact r6 hx (by rw [j2]; exact p.agg _) (bF _ _) h0
end
def jY (n m b:Nat):Bool:=decide ((n + m) * b ≤ 140737488355328∧n + m ≤ 9223372036854775807)
theorem g5 {n m b:Nat} (h:jY n m b = true):(n + m) * b ≤ 140737488355328∧n + m ≤ 9223372036854775807:=of_decide_eq_true h
section
variable {A:World→Prop} {v:Value} {L:aQ α} [aZ L] {xs:List α}
theorem wC {x lo:Operand} {t e q l:Nat} {k:IntKind} {i:Int} [ht:pP P t e q] (hf:Fz A v L xs) (hx:ev F x = some v) (hlo:ev F lo = some (.int k i)) (hi:i = (l:Int)) (hl:l ≤ xs.length) [Kn c H A] :
    VS P N c ⟨d, .slice t x (some lo) none none,ty,ps,af,g⟩ F H (ig l xs.length q v):=by
  subst hi; haveI:=hf.at (c:=c) (H:=H); exact wE l hx hlo hl
theorem wD {x hi:Operand} {t e q m:Nat} {k:IntKind} {i:Int} [ht:pP P t e q] (hf:Fz A v L xs) (hx:ev F x = some v) (hhi:ev F hi = some (.int k i)) (hi' : i = (m:Int)) (hm:m ≤ xs.length) [Kn c H A] :
    VS P N c ⟨d, .slice t x none (some hi) none,ty,ps,af,g⟩ F H (ig 0 m q v):=by
  subst hi'; haveI:=hf.at (c:=c) (H:=H); exact wF m hx hhi hm
end
theorem dL {L:aQ α} {M:aQ β} {o b t T q:Nat} {y z:Operand} {gg:α→β} {s:α→β→α} {val:Value} {cs cs' : List Value} (vs:List Value) {x:α} {v:β} {A B:World→Prop} {H' : List aL} (p:bf L M o gg s) (r:L.rep A cs x) (rv:M.rep B vs v) (hx:ev F y = some (Ptr b o)) (hz:ev F z = some val) (hv:val.cells.toList = vs)
    [jZ H b T cs] [ht:y6 P t q] (hn:M.n = q) (hc:bw cs o vs = cs') [qd H b cs' H']:RX (α:=Unit) P N c ⟨d, .store t y z,ty,ps,af,g⟩ F H (fun _=>True) (fun _=>undef) (fun _=>H'):=by
  subst hn
  exact lG hx hz hv (M.len rv) (by rw [L.len r]; exact p.le) (M.one rv) hc
section
variable {v:Value} {L:aQ α} [aZ L] {xs:List α} {t e sz bytes:Nat} {f:aL→List aL}
theorem lQ {s x:Operand} {b T cp:Nat} {y:α} [yN P t e sz bytes] (hs:ev F s = some v) [hr:lF H v e sz xs.length (ep L xs) f] (hx:ev F x = some (.slice (some ⟨b,0,none⟩) 1 cp)) [hc:jZ H b T (L.enc y)] (hn:L.n = sz)
    (v9:(xs.length + 1) * bytes ≤ 140737488355328) (h63:xs.length + 1 ≤ 9223372036854775807) :
    RX P N c ⟨d, .call ⟨.builtin .append,#[s,x],#[t,t]⟩,ty,ps,af,g⟩ F H (fun v'=>jU v' (xs++[y]).length) (fun v'=>v') (fun v'=>f (Row v' e sz L (xs++[y]))):=by
  have h:=wH (P:=P) (N:=N) (c:=c) (F:=F) (H:=H) (d:=d) (ty:=ty) (p:=ps) (af:=af) (g:=g) (t:=t) (m:=1) hs hx (by rw [bF,hn]; omega) (oA L y) v9 h63 (hr:=hr) (hc:=hc)
  have e1:(xs++[y]).length = xs.length + 1:=by simp
  have e2:ep L (xs++[y]) = ep L xs++L.enc y:=by rw [k8,qq]
  unfold Row
  rw [e1,e2]; exact h
theorem AH {s x:Operand} {A:World→Prop} {u:Value} {ys:List α} [yN P t e sz bytes] (hf:Fz A u L ys) (hs:ev F s = some v) [hr:lF H v e sz xs.length (ep L xs) f] (hx:ev F x = some u) [Kn c H A] (hn:L.n = sz)
    (v9:(xs.length + ys.length) * bytes ≤ 140737488355328) (h63:xs.length + ys.length ≤ 9223372036854775807) :
    RX P N c ⟨d, .call ⟨.builtin .append,#[s,x],#[t,t]⟩,ty,ps,af,g⟩ F H (fun v'=>jU v' (xs++ys).length) (fun v'=>v') (fun v'=>f (Row v' e sz L (xs++ys))):=by
  subst hn
  have h:=se (P:=P) (N:=N) (c:=c) (F:=F) (H:=H) (d:=d) (ty:=ty) (p:=ps) (af:=af) (g:=g) (t:=t) hs hx (hr:=hr) (hu:=hf.at) (xh L ys) v9 h63
  have e1:(xs++ys).length = xs.length + ys.length:=by simp
  have e2:ep L (xs++ys) = ep L xs++ep L ys:=k8 _ _ _
  unfold Row
  rw [e1,e2]; exact h
theorem mE {x:Operand} (L:aQ α) [aZ L] (y:α) {zs:List Value} {val:Value} [ht:pP P t e sz] [hz:cK P e zs] (hx:ev F x = some val) (hc:val.cells.toList = L.enc y) (hl:L.n = sz) (GU:zs.length = sz) (h0:0 < sz) (hs:sz ≤ 16777216) :
    RX P N c ⟨d, .buildSlice t 1 #[(0,x)],ty,ps,af,g⟩ F H (fun _=>True) (fun b=>.slice (some ⟨b,0,none⟩) 1 1) (fun b=>.cells b e (L.enc y)::H):=pL hx hc (by rw [bF]; exact hl) GU h0 hs
end
theorem rY {x:Code} (e sz:Nat) (L:aQ α) [aZ L] (h:WP P N c D x Q F (Row (.slice none 0 0) e sz L []::H)):WP P N c D x Q F H:=Au e sz h
theorem Aq {x:Exit} (e sz:Nat) (L:aQ α) [aZ L] (h:WQ N c D Q x F (Row (.slice none 0 0) e sz L []::H)):WQ N c D Q x F H:=Ar e sz h
theorem zX {bs:List Nat} {n0:Nat} {w:World} (h:bN bs n0 H w):bN bs n0 (.ext [] (Hs [])::H) w:=
  h.cons (fun w' _ _ r hr=>by simp at hr) (fun b hb=>by simp [aL.fA] at hb) (fun s hs b hb=>by simp [aL.fA] at hb)
theorem mZ {x:Code} (h:WP P N c D x Q F (.ext [] (Hs [])::H)):WP P N c D x Q F H:=yE (fun _ _ _ hp=>zX hp) h
abbrev tJ (P:Program) (f:Nat) (args:List Value) (K:World→Prop) (p:(World→Prop)→Value→Prop):Prop:=
  Fn (α:=Value × List Nat × (World→Prop)) P f args K [] (fun x=>p (Hs [.ext x.2.1 x.2.2]) x.1) (fun x=>x.1) (fun x=>[.ext x.2.1 x.2.2])
theorem dy {args:List Operand} {ats:Array TypeId} {f:Nat} {vs:List Value} {K:World→Prop} {p:(World→Prop)→Value→Prop} (hc:tJ P f vs K p) (ha:og F args = some vs) [k:Kn c H K] :
    RX (α:=Value × List Nat × (World→Prop)) P N c ⟨d, .call ⟨.value (.func f),args.toArray,ats⟩,ty,ps,af,g⟩ F H (fun x=>p (Hs [.ext x.2.1 x.2.2]) x.1) (fun x=>x.1) (fun x=>.ext x.2.1 x.2.2::H):=fK hc ha k.ok
theorem yx {bs:List Nat} {n0:Nat} {w:World} {R H' : List aL} (h:bN bs n0 (R++H') w):bN bs n0 (.ext (bz R) (Hs R)::H') w:=by
  have hp:=List.pairwise_append.1 h.apart
  refine ⟨fun r hr=>?_,fun r hr b hb=>?_,?_⟩
  · rcases List.mem_cons.1 hr with rfl | hr
    · intro w' h1 h2 q hq
      have LZ:=h.holds q (List.mem_append_left _ hq)
      exact ⟨aL.jA LZ h1 fun b hb=>h2 b (cy.2 ⟨q,hq,hb⟩),fun b hb=>Nat.lt_of_lt_of_le (h.own q (List.mem_append_left _ hq) b hb).2 h1⟩
    · exact h.holds r (List.mem_append_right _ hr)
  · rcases List.mem_cons.1 hr with rfl | hr
    · obtain ⟨q,hq,hb⟩:=cy.1 hb; exact h.own q (List.mem_append_left _ hq) b hb
    · exact h.own r (List.mem_append_right _ hr) b hb
  · refine List.pairwise_cons.2 ⟨fun s hs b hb cU=>?_,hp.2.1⟩
    obtain ⟨q,hq,hb⟩:=cy.1 hb
    exact hp.2.2 q hq s hs b hb cU
theorem oD {e:Exit} {H' : List aL} {ks:List Nat} (hk:pick H ks = some H') (hn:ks.Nodup) (h:WQ N c D Q e F H'):WQ N c D Q e F H:=uS (fun _ _ _ hp=>hp.pick hk hn) h
theorem oE {e:Exit} {J:Nat→List Nat→World→Prop} {k n:Nat} {es:List Nat} {H' : List aL} (ek:k = n) (h:WQ N c D Q e F (.ext es (J n es)::H')):WQ N c D Q e F (.ext es (J k es)::H'):=ek ▸ h
theorem bP {e:Exit} {R H' : List aL} {ks:List Nat} (hk:pick H ks = some (R++H')) (hn:ks.Nodup) (h:WQ N c D Q e F (.ext (bz R) (Hs R)::H')):WQ N c D Q e F H:=uS (fun _ _ _ hp=>yx (hp.pick hk hn)) h
instance (priority:=60) Hq (bs:List Nat) (R:List aL) (r:aL) (S:List aL) [h:Bv (Hs R) r]:Bv (Hs (.ext bs (Hs R)::S)) r:=⟨fun w hw=>h.ok w (ext_get (hw (.ext bs (Hs R)) (by simp)).1)⟩
end rules
end Go.Bw
namespace Go.Bw
open Go Go.RowKit
section rules
variable {P:Program} {N:Nat} {c:Cx} {D:List Deferred} {Q:Exit→Act→World→Prop} {F:cC} {H:List aL} {d:Option Tmp} {ty:TypeId} {ps:String} {af:Array Edge} {g:Option (Nat × Bool)} {α β γ:Type}
def yV (bs:List Nat) (K:World→Prop) (w:World):Prop:=∀w',aY bs w w'→K w'
class vF (c:Cx) (R:List aL) (K:World→Prop):Prop where
  ok:∀w,aY c.bs c.w0 w→Hs R w→K w
instance (priority:=90) Hp (c:Cx) (R:List aL) (A B:World→Prop) [h:vF c R A] [k:vF c R B]:vF c R (fun w=>A w∧B w):=⟨fun w h1 h2=>⟨h.ok w h1 h2,k.ok w h1 h2⟩⟩
instance (priority:=80) J9 (c:Cx) (R S:List aL) [h:wJ (Hs R) (Hs S)]:vF c R (Hs S):=⟨fun w _ h2=>h.ok w h2⟩
instance (priority:=80) GD (c:Cx) (R:List aL):vF c R (fun _=>True):=⟨fun _ _ _=>trivial⟩
instance (priority:=20) MM (c:Cx) (H:List aL) (K:World→Prop) [h:vF c H K]:Kn c H K:=⟨fun w h1 h2=>h.ok w h1 (Be h2)⟩
theorem kB {c:Cx} {K:World→Prop} [hS:bT K] (cU:c.bs = []) (hpre:K c.w0):∀R,vF c R K:=fun R=>⟨fun w hs _=>hS.ok c.w0 w hpre (by rw [cU] at hs; exact hs)⟩
theorem iz {c:Cx} {K:World→Prop} {bs:List Nat} (cU:c.bs = bs) (hpre:yV bs K c.w0):∀R,vF c R K:=fun R=>⟨fun w hs _=>hpre w (cU ▸ hs)⟩
abbrev K3 (P:Program) (f:Nat) (args:List Value) (K:World→Prop) (l9:List aL) (p:(World→Prop)→Value→List aL→Prop):Prop:=
  Fn (α:=Value × List aL × List Nat × (World→Prop)) P f args (yV (bz l9) K) l9 (fun x=>p (Hs [.ext x.2.2.1 x.2.2.2]) x.1 x.2.1) (fun x=>x.1) (fun x=>.ext x.2.2.1 x.2.2.2::x.2.1)
theorem iU {α:Type} {x:Operand} {args:List Operand} {ats:Array TypeId} {f:Nat} {fst cap:Array Value} {us vs:List Value} {K:World→Prop} {l9 rest:List aL} {p:α→Prop} {fv:α→Value} {fH:α→List aL} {ks:List Nat}
    (hc:Fn P f vs (yV (bz l9) K) l9 p fv fH) (hx:ev F x = some (.func (.func f) fst cap)) (ha:og F args = some us) (hv:fst.toList++us++cap.toList = vs) (hkp:pick H ks = some (l9++rest)) (hn:ks.Nodup) [hK:vF c rest K] :
    RX P N c ⟨d, .call ⟨.value x,args.toArray,ats⟩,ty,ps,af,g⟩ F H p fv (fun i=>fH i++rest):=fun D a w next Q hst hk=>by
  refine ⟨fun _ _=>trivial,?_⟩
  have hs:Oper.semAt (FA c.ro).round a.eval (⟨d, .call ⟨.value x,args.toArray,ats⟩,ty,ps,af,g⟩ : Oper) = execOp a.eval ⟨d, .call ⟨.value x,args.toArray,ats⟩,ty,ps,af,g⟩:=Oper.semAt_eq _ _ _ (by simp)
  have hr:(execOp a.eval ⟨d, .call ⟨.value x,args.toArray,ats⟩,ty,ps,af,g⟩).run P w = .ok (.enter f vs.toArray) w:=by
    have e1:=bp hst.fr hx
    have e2:=nA hst.fr ha
    have e3:fst++(args.toArray.map a.eval)++cap = vs.toArray:=by
      rw [← hv,← e2]
      simp
    simp only [execOp,resolve,e1,Deferred.ofValue,Sem.run_bind,Sem.run_pure,Result.andThen_ok,invoke,e3]
    exact hc.enter _ _
  rw [hs,hr]
  refine ⟨fun h=>by simp at h,ij c.ro ?_⟩
  have hp:=hst.hp.pick hkp hn
  have hap:=List.pairwise_append.1 hp.apart
  have hin:bN (bz l9) w.heap.size l9 w:=⟨fun r hr=>hp.holds r (List.mem_append_left _ hr),fun r hr b hb=>⟨.inl (cy.2 ⟨r,hr,hb⟩),(hp.own r (List.mem_append_left _ hr) b hb).2⟩,hap.1⟩
  have hkeep:∀{w' : World},aY (bz l9) w w'→∀r ∈ rest,r.holds w'∧∀b ∈ r.fA,b < w'.heap.size:=fun hsi r hr=>by
    have hlt:∀b ∈ r.fA,b < w.heap.size:=fun b hb=>(hp.own r (List.mem_append_right _ hr) b hb).2
    refine ⟨aL.jA (hp.holds r (List.mem_append_right _ hr)) hsi.size fun b hb=>hsi.block b (hlt b hb) fun hm=>?_,fun b hb=>Nat.lt_of_lt_of_le (hlt b hb) hsi.size⟩
    obtain ⟨q,hq,FY⟩:=cy.1 hm
    exact hap.2.2 q hq r hr b FY hb
  have hown:∀b ∈ bz l9,b ∈ c.bs∨c.w0.heap.size ≤ b:=fun b hb=>by
    obtain ⟨q,hq,FY⟩:=cy.1 hb
    exact (hp.own q (List.mem_append_left _ hq) b FY).1
  have hpre:yV (bz l9) K w:=fun w' hsi=>hK.ok w' (hst.si.trans hsi hown) (hkeep hsi)
  have s7:=hc.calls w hpre hin
  intro cs
  obtain ⟨e,w',fr,⟨i,wg,he,hsi,hh⟩,more⟩:=s7 cs
  refine ⟨e,w',fr,?_,more⟩
  subst he
  have nY:=hkeep hsi
  refine hk i w' wg (hst.si.trans hsi hown) ⟨fun r hm=>?_,fun r hm b hb=>?_,List.pairwise_append.2 ⟨hh.apart,hap.2.1,fun r h1 s h2 b hb zS=>?_⟩⟩
  · rcases List.mem_append.1 hm with h1 | h1
    · exact hh.holds r h1
    · exact (nY r h1).1
  · rcases List.mem_append.1 hm with h1 | h1
    · obtain ⟨o,l⟩:=hh.own r h1 b hb
      refine ⟨?_,l⟩
      rcases o with o | o
      · exact hown b o
      · exact .inr (Nat.le_trans hst.si.size o)
    · exact ⟨(hp.own r (List.mem_append_right _ h1) b hb).1,(nY r h1).2 b hb⟩
  · obtain ⟨o,_⟩:=hh.own r h1 b hb
    rcases o with o | o
    · obtain ⟨q,hq,FY⟩:=cy.1 o
      exact hap.2.2 q hq s h2 b FY zS
    · have:=(hp.own s (List.mem_append_right _ h2) b zS).2
      omega
end rules
end Go.Bw
namespace Go.Bw
open Go Go.RowKit
structure vI (P:Program) (gf:Nat) (caps:List Value) (Hc:List aL) (K:World→Prop) (encs:Nat→List Value) (n:Nat):Prop where
  fn:∀(l:Nat) (J:Nat→List Nat→World→Prop) (Jx:List Nat→World→Prop) (bs:List Nat),
    Fn (α:=Bool × List Nat) P gf (.func (.yield l) #[] #[]::caps) (fun w=>yV (bs++bz Hc) K w∧Br P l (bs++bz Hc) w J Jx encs n) (.ext bs (J 0 bs)::Hc)
      (fun _=>True) (fun _=>.tuple #[]) (fun x=>.ext x.2 (bif x.1 then J n x.2 else Jx x.2)::Hc)
theorem ki {P:Program} {N:Nat} {c:Cx} {D:List Deferred} {Q:Exit→Act→World→Prop} {F:cC} {H:List aL} {g:Operand} {ps:List Nat} {assign body:Code}
    {gf n:Nat} {caps:Array Value} {Hc:List aL} {K:World→Prop} {encs:Nat→List Value} {α β:Type}
    (hro:c.ro = none) (hg:ev F g = some (.func (.func gf) #[] caps)) (hit:vI P gf caps.toList Hc K encs n) (hlen:∀k,(encs k).length = ps.length) (hps:ps.all (Nat.blt · N) = true)
    [JB:vF c [] K]
    (p:Nat→α→Prop) (I:Nat→α→List aL) (px:Code→β→Prop) (X:β→List aL) (i0:α) (zY:p 0 i0) {ks:List Nat} (hk:pick H ks = some (Hc++I 0 i0)) (hn:ks.Nodup)
    (hbody:∀(k:Nat) (i:α) (l dd:Nat) (rec:Loop) (c' : Cx),k < n→p k i→rec.state = .ready→rec.pending = none→c'.ro = some l→(∀w,aY c'.bs c'.w0 w→aY c.bs c.w0 w) →
      (∀b,(b ∈ c'.bs∨c'.w0.heap.size ≤ b)→(b ∈ c.bs∨c.w0.heap.size ≤ b)) →
      WP P N c' [] assign (uV P l body (uU c' (JW c.w0.heap.size c.bs (p (k + 1)) (fun i=>.obj dd (.deferred (some []))::.obj l (.loop rec)::I (k + 1) i))
        (JW c.w0.heap.size c.bs (fun q:Code × β=>px q.1 q.2) (fun q=>.obj dd (.deferred (some []))::.obj l (.loop { rec with state:=.done,pending:=some q.1 })::X q.2))))
        (oa ps (encs k) F) (.obj dd (.deferred (some []))::.obj l (.loop rec)::I k i))
    (hdone:∀dd i,p n i→WQ N c (mark dd::D) Q .normal F (.obj dd (.deferred (some []))::(Hc++I n i)))
    (xV:∀dd j i,px j i→WP P N c (mark dd::D) j Q F (.obj dd (.deferred (some []))::(Hc++X i))) :
    WP P N c D (.rangeFunc g ps.toArray assign body) Q F H:=fun a w hst=>by
  refine wpIn_rangeFunc fun fn _=>?_
  have mj:(FA c.ro).round = none:=hro
  rw [mj]
  obtain ⟨rec,kR⟩ : ∃rec:Loop,rec = { state:=.ready,pending:=none,fn,tmps:=a.tmps,params:=ps.toArray,assign,body,defers:=w.heap.size }:=⟨_,rfl⟩
  obtain ⟨W1,yc⟩ : ∃W1,(w.alloc (.deferred (some []))).alloc (.loop rec) = W1:=⟨_,rfl⟩
  have Cp:aY [] w W1:=by rw [← yc]; exact (aY.alloc w _).ext (aY.alloc _ _)
  have Iu:W1.heap.size = w.heap.size + 2:=by rw [← yc]; simp
  have JA:W1.heap[w.heap.size + 1]? = some (.loop rec):=by
    rw [← yc]; have:=World.alloc_heap_new (w.alloc (.deferred (some []))) (.loop rec); rwa [World.size_alloc] at this
  have JC:W1.heap[w.heap.size]? = some (.deferred (some [])):=by
    rw [← yc]; exact (Below.heap_alloc _ _ _ (by simp)).trans (World.alloc_heap_new w _)
  have Jh:=bp hst.fr hg
  have hfr:=hst.fr
  let J:Nat→List Nat→World→Prop:=fun k=>JW c.w0.heap.size c.bs (p k) (fun i=>.obj w.heap.size (.deferred (some []))::.obj (w.heap.size + 1) (.loop rec)::I k i)
  let Jx:List Nat→World→Prop:=JW c.w0.heap.size c.bs (fun q:Code × β=>px q.1 q.2) (fun q=>.obj w.heap.size (.deferred (some []))::.obj (w.heap.size + 1) (.loop { rec with state:=.done,pending:=some q.1 })::X q.2)
  have xP:=(hst.hp.ext Cp).pick hk hn
  have C9:bN c.bs c.w0.heap.size (.obj w.heap.size (.deferred (some []))::.obj (w.heap.size + 1) (.loop rec)::(Hc++I 0 i0)) W1:=by
    have hlt:∀s ∈ Hc++I 0 i0,∀b ∈ s.fA,b < w.heap.size:=fun s hs b hb=>by
      have hm:s ∈ H:=by
        obtain ⟨jj,hj⟩:=List.mem_iff_getElem?.1 hs
        obtain ⟨kk,_,hh⟩:=j5 hk jj s hj
        exact List.mem_of_getElem? hh
      exact (hst.hp.own s hm b hb).2
    have It:=hst.si.size
    refine bN.cons (bN.cons xP JA ?_ ?_) JC ?_ ?_
    · intro b hb; have e:b = w.heap.size + 1:=by simpa [aL.fA] using hb
      subst e; exact ⟨.inr (by omega),by omega⟩
    · intro s hs b hb cU
      have e:b = w.heap.size + 1:=by simpa [aL.fA] using hb
      have:=hlt s hs b cU; omega
    · intro b hb; have e:b = w.heap.size:=by simpa [aL.fA] using hb
      subst e; exact ⟨.inr (by omega),by omega⟩
    · intro s hs b hb cU
      have e:b = w.heap.size:=by simpa [aL.fA] using hb
      rcases List.mem_cons.1 hs with rfl | hs
      · have e2:b = w.heap.size + 1:=by simpa [aL.fA] using cU
        omega
      · have:=hlt s hs b cU; omega
  let I0:List aL:=.obj w.heap.size (.deferred (some []))::.obj (w.heap.size + 1) (.loop rec)::I 0 i0
  have C8:bN c.bs c.w0.heap.size I0 W1:=C9.sub (by
    refine List.Sublist.cons_cons _ (List.Sublist.cons_cons _ (List.sublist_append_right _ _)))
  have wO:bN c.bs c.w0.heap.size Hc W1:=C9.sub (by
    refine List.Sublist.cons _ (List.Sublist.cons _ (List.sublist_append_left _ _)))
  have hap:∀r ∈ I0,∀s ∈ Hc,r.apart s:=by
    intro r hr s hs
    have xO:=C9.apart
    rw [List.pairwise_cons,List.pairwise_cons,List.pairwise_append] at xO
    obtain ⟨q1,q2,_,_,q3⟩:=xO
    rcases List.mem_cons.1 hr with rfl | hr
    · exact q1 s (by simp [hs])
    · rcases List.mem_cons.1 hr with rfl | hr
      · exact q2 s (by simp [hs])
      · exact aL.iq (q3 s hs r hr)
  have hfn:=hit.fn (w.heap.size + 1) J Jx (bz I0)
  have uy:bz (aL.ext (bz I0) (J 0 (bz I0))::Hc) = bz I0++bz Hc:=by simp [bz,aL.fA]
  refine ⟨w.heap.size + 1,[mark w.heap.size],W1,{ target:=.fn (.func gf) caps,args:=#[.func (.yield (w.heap.size + 1)) #[] #[]] },W1,gf,
    (Value.func (.yield (w.heap.size + 1)) #[] #[]::caps.toList).toArray,W1,?_,?_,fun _ _=>trivial,?_,fun h=>by simp at h,?_⟩
  · rw [← yc,kR]; exact run_enterLoop_outer _ _ _ _ _
  · simp only [resolve,Jh]
    simp [go_sem]
  · have:=hfn.enter (#[.func (.yield (w.heap.size + 1)) #[] #[]]++caps) W1
    simp only [invoke]
    rw [this]
    congr 2
    simp
  · have hin:bN (bz I0++bz Hc) W1.heap.size (aL.ext (bz I0) (J 0 (bz I0))::Hc) W1:=by
      refine ⟨?_,?_,?_⟩
      · intro r hr
        rcases List.mem_cons.1 hr with rfl | hr
        · exact so (I:=fun i=>.obj w.heap.size (.deferred (some []))::.obj (w.heap.size + 1) (.loop rec)::I 0 i) i0 zY C8
        · exact wO.holds r hr
      · intro r hr b hb
        rcases List.mem_cons.1 hr with rfl | hr
        · obtain ⟨s,hs,cU⟩:=cy.1 hb
          exact ⟨.inl (List.mem_append_left _ hb),(C8.own s hs b cU).2⟩
        · exact ⟨.inl (List.mem_append_right _ (cy.2 ⟨r,hr,hb⟩)),(wO.own r hr b hb).2⟩
      · refine List.pairwise_cons.2 ⟨fun s hs b hb cU=>?_,wO.apart⟩
        obtain ⟨r,hr,rF⟩:=cy.1 hb
        exact hap r hr s hs b rF cU
    have nZ:∀b ∈ bz I0++bz Hc,b ∈ c.bs∨c.w0.heap.size ≤ b:=fun b hb=>by
      rcases List.mem_append.1 hb with h | h
      · obtain ⟨r,hr,rF⟩:=cy.1 h; exact (C8.own r hr b rF).1
      · obtain ⟨r,hr,rF⟩:=cy.1 h; exact (wO.own r hr b rF).1
    have sW:aY c.bs c.w0 W1:=hst.si.ext Cp
    have uw:=hfn.calls W1 ⟨fun w' Co=>JB.ok w' (sW.trans Co nZ) (fun r hr=>by cases hr),?_⟩ (by rw [uy]; exact hin)
    · refine ij c.ro ?_
      intro cs
      obtain ⟨e,w2,fr,⟨x,_,he,wc,xY⟩,uq,nY⟩:=uw cs
      refine ⟨e,w2,fr,?_,uq,nY⟩
      subst he
      rw [uy] at wc xY
      obtain ⟨go,bs'⟩:=x
      have xL:aY c.bs c.w0 w2:=sW.trans wc nZ
      have hex:=xY.holds _ (List.mem_cons_self)
      have C6:∀r ∈ Hc,r.holds w2:=fun r hr=>xY.holds r (List.mem_cons_of_mem _ hr)
      have C4:∀s ∈ Hc,∀b ∈ bs',b ∉ s.fA:=fun s hs b hb=>by
        have:=xY.apart
        rw [List.pairwise_cons] at this
        exact this.1 s hs b hb
      have both:∀(IL:List aL) (jump:Option Code) (st:LoopState),st ≠ .busy→bs' = bz (.obj w.heap.size (.deferred (some []))::.obj (w.heap.size + 1) (.loop { rec with state:=st,pending:=jump })::IL) →
          bN c.bs c.w0.heap.size (.obj w.heap.size (.deferred (some []))::.obj (w.heap.size + 1) (.loop { rec with state:=st,pending:=jump })::IL) w2 →
          ∃w4,(Instr.endLoop (w.heap.size + 1)).run P w2 = .ok jump w4∧St N c (mark w.heap.size::D) F (.obj w.heap.size (.deferred (some []))::(Hc++IL)) { a with defers:=mark w.heap.size::a.defers } w4:=by
        intro IL jump st rD cU hI
        have hl:w2.heap[w.heap.size + 1]? = some (.loop { rec with state:=st,pending:=jump }):=hI.holds (.obj (w.heap.size + 1) _) (by simp)
        have j9:bN c.bs c.w0.heap.size (.obj w.heap.size (.deferred (some []))::.obj (w.heap.size + 1) (.loop { rec with state:=st,pending:=jump })::(Hc++IL)) w2:=by
          have hq:=hI.apart
          rw [List.pairwise_cons,List.pairwise_cons] at hq
          refine ⟨?_,?_,?_⟩
          · intro r hr
            rcases List.mem_cons.1 hr with rfl | hr
            · exact hI.holds _ (by simp)
            · rcases List.mem_cons.1 hr with rfl | hr
              · exact hI.holds _ (by simp)
              · rcases List.mem_append.1 hr with h | h
                · exact C6 r h
                · exact hI.holds r (by simp [h])
          · intro r hr b hb
            rcases List.mem_cons.1 hr with rfl | hr
            · exact hI.own _ (by simp) b hb
            · rcases List.mem_cons.1 hr with rfl | hr
              · exact hI.own _ (by simp) b hb
              · rcases List.mem_append.1 hr with h | h
                · exact ⟨(wO.own r h b hb).1,Nat.lt_of_lt_of_le (wO.own r h b hb).2 wc.size⟩
                · exact hI.own r (by simp [h]) b hb
          · have CW:∀r,r ∈ (aL.obj w.heap.size (.deferred (some []))::.obj (w.heap.size + 1) (.loop { rec with state:=st,pending:=jump })::IL)→∀s ∈ Hc,r.apart s:=fun r hr s hs b hb z5 =>
              C4 s hs b (by rw [cU]; exact cy.2 ⟨r,hr,hb⟩) z5
            refine List.pairwise_cons.2 ⟨fun s hs=>?_,List.pairwise_cons.2 ⟨fun s hs=>?_,List.pairwise_append.2 ⟨wO.apart,hq.2.2,fun s hs r hr=>aL.iq (CW r (by simp [hr]) s hs)⟩⟩⟩
            · rcases List.mem_cons.1 hs with rfl | hs
              · exact hq.1 _ (by simp)
              · rcases List.mem_append.1 hs with h | h
                · exact CW _ (by simp) s h
                · exact hq.1 s (by simp [h])
            · rcases List.mem_append.1 hs with h | h
              · exact CW _ (by simp) s h
              · exact hq.2.1 s h
        have xK:St N c (mark w.heap.size::D) F (.obj w.heap.size (.deferred (some []))::.obj (w.heap.size + 1) (.loop { rec with state:=st,pending:=jump })::(Hc++IL)) { a with defers:=mark w.heap.size::a.defers } w2:=
          ⟨hst.tm,hfr,by simp [hst.df],xL,j9⟩
        have Iz:oq (.obj w.heap.size (.deferred (some []))::.obj (w.heap.size + 1) (.loop { rec with state:=st,pending:=jump })::(Hc++IL)) (w.heap.size + 1) (.loop { rec with state:=.exhausted,pending:=jump }) (.obj w.heap.size (.deferred (some []))::.obj (w.heap.size + 1) (.loop { rec with state:=.exhausted,pending:=jump })::(Hc++IL)):=inferInstance
        have ho:nO (.obj w.heap.size (.deferred (some []))::.obj (w.heap.size + 1) (.loop { rec with state:=st,pending:=jump })::(Hc++IL)) (w.heap.size + 1) (.loop { rec with state:=st,pending:=jump }):=inferInstance
        obtain ⟨h3,_⟩:=xK.xb ho Iz
        refine ⟨_,run_endLoop hl rD,⟨h3.tm,h3.fr,h3.df,h3.si,h3.hp.sub ?_⟩⟩
        exact List.Sublist.cons_cons _ (List.Sublist.cons _ (List.Sublist.refl _))
      cases go with
      | true =>
        obtain ⟨i,wg,hI,cU⟩:=ext_get hex
        have Ff:({ rec with state:=LoopState.ready,pending:=none }:Loop) = rec:=by rw [kR]
        obtain ⟨w4,h4,h5⟩:=both (I n i) none .ready (by simp) (by rw [Ff]; exact cU) (by rw [Ff]; exact hI)
        exact ⟨none,w4,h4,hdone _ i wg _ _ h5⟩
      | false =>
        obtain ⟨⟨j,i⟩,wg,hI,cU⟩:=ext_get hex
        obtain ⟨w4,h4,h5⟩:=both (X i) (some j) .done (by simp) cU hI
        exact ⟨some j,w4,h4,xV _ j i wg _ _ h5⟩
    ·
      intro k DX W bs IA Jw CN
      obtain ⟨i,wg,hI,cU⟩:=ext_get CN
      have hl:W.heap[w.heap.size + 1]? = some (.loop rec):=hI.holds (.obj (w.heap.size + 1) _) (by simp)
      have hy:=run_yield (P:=P) (args:=(encs k).toArray) hl (by rw [kR]; simpa using hlen k)
      refine ⟨_,_,_,_,hy,?_⟩
      have xM:aY c.bs c.w0 W:=sW.trans IA nZ
      have hsub:∀b,(b ∈ bz (aL.obj w.heap.size (.deferred (some []))::.obj (w.heap.size + 1) (.loop rec)::I k i)∨W.heap.size ≤ b)→(b ∈ c.bs∨c.w0.heap.size ≤ b):=fun b hb=>by
        rcases hb with hb | hb
        · obtain ⟨r,hr,rF⟩:=cy.1 hb; exact (hI.own r hr b rF).1
        · exact .inr (Nat.le_trans xM.size hb)
      have hb:=hbody k i (w.heap.size + 1) w.heap.size rec ⟨some (w.heap.size + 1),W,bs⟩ DX wg (by rw [kR]) (by rw [kR]) rfl (fun w' Co=>xM.trans Co fun b hb=>hsub b (.inl (by rw [← cU]; exact hb))) (fun b hb=>hsub b (by rw [← cU]; exact hb))
      have ht:=vk (ps:=ps) (vs:=encs k) hfr hst.tm hps
      have Cd:(rec.params.zip (encs k).toArray).foldl (fun tmps (t,a)=>tmps.setIfInBounds t a) rec.tmps = (ps.zip (encs k)).foldl (fun t q=>t.setIfInBounds q.1 q.2) a.tmps:=by
        rw [kR]; simp
      rw [Cd]
      have Fg:rec.assign = assign∧rec.body = body:=by rw [kR]; exact ⟨rfl,rfl⟩
      rw [Fg.1,Fg.2]
      have F0:bN bs W.heap.size (.obj w.heap.size (.deferred (some []))::.obj (w.heap.size + 1) (.loop rec)::I k i) W:=
        ⟨hI.holds,fun r hr b hb=>⟨.inl (by rw [cU]; exact cy.2 ⟨r,hr,hb⟩),(hI.own r hr b hb).2⟩,hI.apart⟩
      have mj:=roundIn_of_wpIn (F:=FA none) (n:=0) (P:=P) (l:=w.heap.size + 1) (f:=rec.fn) (R:=uU ⟨some (w.heap.size + 1),W,bs⟩ (J (k + 1)) Jx) trivial
        (hb { tmps:=(ps.zip (encs k)).foldl (fun t q=>t.setIfInBounds q.1 q.2) a.tmps,defers:=[] } W ⟨ht.2,ht.1,rfl,aY.refl _ _,F0⟩)
      refine mj.mono fun e W' hr=>?_
      rw [uy] at *
      exact hr
theorem ld {c c' : Cx} {K:World→Prop} [h:vF c [] K] (hsi:∀w,aY c'.bs c'.w0 w→aY c.bs c.w0 w):∀R,vF c' R K:=fun R=>⟨fun w hs _=>h.ok w (hsi w hs) (fun r hr=>by cases hr)⟩
def yl {β:Type} (e:β) (m:Option (List β)):Option (List β):=m.map (e::·)
theorem zb {β:Type} {e:β} {m:Option (List β)} {r:List β} (h:yl e m = some r):∃r',r = e::r'∧m = some r':=by
  cases m with
  | none=>cases h
  | some l=>exact ⟨l,(Option.some.inj h).symm,rfl⟩
theorem drop_cons {β:Type} [Inhabited β] {l r:List β} {k:Nat} {e:β} (h:l.drop k = e::r):k < l.length∧l.getD k default = e∧l.drop (k + 1) = r∧k + 1 ≤ l.length:=by
  have hlt:k < l.length:=by
    rcases Nat.lt_or_ge k l.length with h1 | h1
    · exact h1
    · rw [List.drop_eq_nil_of_le h1] at h; cases h
  rw [List.drop_eq_getElem_cons hlt] at h
  obtain ⟨h1,h2⟩:=List.cons.inj h
  refine ⟨hlt,?_,h2,hlt⟩
  rw [List.getD,List.getElem?_eq_getElem hlt]; exact h1
theorem drop_nil {β:Type} {l:List β} {k:Nat} (h:l.drop k = []) (hk:k ≤ l.length):k = l.length:=by
  have:=List.drop_eq_nil_iff.1 h
  omega
section
variable {α1 β ρ:Type}
def eD (B:β→(α1→Option ρ)→α1→Option ρ) (fin:α1→Option ρ):List β→α1→Option ρ
  | [],a1=>fin a1
  | x::l,a1=>B x (eD B fin l) a1
theorem o7 {B:β→(α1→Option ρ)→α1→Option ρ} {fin:α1→Option ρ} {l:List β} {a1:α1} {r:ρ} (h:eD B fin l a1 = some r):∃ib,ib = B∧∃fi,fi = fin∧eD ib fi (l.drop 0) a1 = some r:=⟨B,rfl,fin,rfl,h⟩
theorem o5 [Inhabited β] {ib B:β→(α1→Option ρ)→α1→Option ρ} {fi:α1→Option ρ} (e:ib = B) {l:List β} {k:Nat} (hk:k < l.length) {a1:α1} {r:ρ} (h:eD ib fi (l.drop k) a1 = some r):B (l.getD k default) (eD ib fi (l.drop (k + 1))) a1 = some r:=by
  subst e
  rw [List.drop_eq_getElem_cons hk] at h
  rw [List.getD,List.getElem?_eq_getElem hk]; exact h
theorem o6 {ib:β→(α1→Option ρ)→α1→Option ρ} {fi fin:α1→Option ρ} (e:fi = fin) {l:List β} {k:Nat} (hk:k = l.length) {a1:α1} {r:ρ} (h:eD ib fi (l.drop k) a1 = some r):fin a1 = some r:=by
  subst e; subst hk
  rw [List.drop_length] at h; exact h
end
section
variable {α1 α2 β ρ:Type}
end
section
variable {α1 α2 α3 β ρ:Type}
def ob (B:β→(α1→α2→α3→Option ρ)→α1→α2→α3→Option ρ) (fin:α1→α2→α3→Option ρ):List β→α1→α2→α3→Option ρ
  | [],a1,a2,a3=>fin a1 a2 a3
  | x::l,a1,a2,a3=>B x (ob B fin l) a1 a2 a3
theorem EY {B:β→(α1→α2→α3→Option ρ)→α1→α2→α3→Option ρ} {fin:α1→α2→α3→Option ρ} {l:List β} {a1:α1} {a2:α2} {a3:α3} {r:ρ} (h:ob B fin l a1 a2 a3 = some r):∃ib,ib = B∧∃fi,fi = fin∧ob ib fi (l.drop 0) a1 a2 a3 = some r:=⟨B,rfl,fin,rfl,h⟩
theorem EW [Inhabited β] {ib B:β→(α1→α2→α3→Option ρ)→α1→α2→α3→Option ρ} {fi:α1→α2→α3→Option ρ} (e:ib = B) {l:List β} {k:Nat} (hk:k < l.length) {a1:α1} {a2:α2} {a3:α3} {r:ρ} (h:ob ib fi (l.drop k) a1 a2 a3 = some r):B (l.getD k default) (ob ib fi (l.drop (k + 1))) a1 a2 a3 = some r:=by
  subst e
  rw [List.drop_eq_getElem_cons hk] at h
  rw [List.getD,List.getElem?_eq_getElem hk]; exact h
theorem EX {ib:β→(α1→α2→α3→Option ρ)→α1→α2→α3→Option ρ} {fi fin:α1→α2→α3→Option ρ} (e:fi = fin) {l:List β} {k:Nat} (hk:k = l.length) {a1:α1} {a2:α2} {a3:α3} {r:ρ} (h:ob ib fi (l.drop k) a1 a2 a3 = some r):fin a1 a2 a3 = some r:=by
  subst e; subst hk
  rw [List.drop_length] at h; exact h
end
section
variable {α1 α2 α3 α4 β ρ:Type}
end
section
variable {α1 α2 α3 α4 α5 β ρ:Type}
end
section
variable {α1 α2 α3 α4 α5 α6 β ρ:Type}
end
section
variable {α1 α2 α3 α4 α5 α6 α7 β ρ:Type}
end
section
variable {α1 α2 α3 α4 α5 α6 α7 α8 β ρ:Type}
end
section
variable {α1 α2 α3 α4 α5 α6 α7 α8 α9 β ρ:Type}
end
section
variable {α1 α2 α3 α4 α5 α6 α7 α8 α9 Hu β ρ:Type}
end
end Go.Bw
namespace Go.Bw
open Go Go.RowKit
section rules
variable {P:Program} {N:Nat} {c:Cx} {D:List Deferred} {Q:Exit→Act→World→Prop} {F:cC} {H:List aL} {d:Option Tmp} {ty:TypeId} {ps:String} {af:Array Edge} {g:Option (Nat × Bool)} {α β γ:Type}
theorem uW {L:aQ α} [aZ L] [Inhabited α] {M:aQ β} [aZ M] {v:Value} {xs:List α} {e sz off t q:Nat} {x y:Operand} {val:Value} {gg:(Nat→α)→β} {s:(Nat→α)→β→(Nat→α)} {f:aL→List aL} {z:α}
    (m:Nat) (p:bf (LA L xs.length) M off gg s) (u:β) (ys:List α) (hy:ys = xs.set m z) (hx:ev F x = some (jx v off)) (hz:ev F y = some val) (hv:val.cells.toList = M.enc u) (hs:s (fun i=>xs.getD i default) u = dI (fun i=>xs.getD i default) m z)
    (hm:m < xs.length) (hn:M.n = q) [hr:lF H v e sz xs.length (ep L xs) f] (hsz:L.n = sz) [ht:y6 P t q] :
    RX (α:=Unit) P N c ⟨d, .store t x y,ty,ps,af,g⟩ F H (fun _=>True) (fun _=>undef) (fun _=>f (Row v e sz L ys)):=fun D a w next Q hst hk=>by
  subst hn hsz
  obtain ⟨k,k1,k2⟩:=hr.ok
  have zZ:aL.row v e L.n xs.length (ep L xs) ∈ H:=List.mem_of_getElem? k1
  have hown:w.ownsRow 0 e L.n v xs.length (ep L xs):=hst.hp.holds _ zZ
  obtain ⟨hlen,qK⟩:=hown
  rcases qK with ⟨_,h0⟩ | ⟨gb,cap,cur,rfl,_,Bg,hnc,G1,hcs,vo⟩
  · omega
  have hle:off + M.n ≤ xs.length * L.n:=p.le
  have hmul:xs.length * L.n ≤ cap * L.n:=Nat.mul_le_mul_right _ hnc
  obtain ⟨cs,rfl⟩ : ∃cs:List Value,cur = cs.toArray:=⟨cur.toList,by simp⟩
  have Jk:cs.length = cap * L.n:=by simpa using hcs
  have DW:cs.take (xs.length * L.n) = ep L xs:=by simpa using vo
  have E9:(M.enc u).length = M.n:=bF M u
  obtain ⟨w',e1,e2,e3⟩:=kJ (P:=P) (t:=t) (b:=gb) (T:=e) (off:=off) (cs:=cs) (w:=w) Bg hv E9 (by omega) (oA M u)
  have xR:ys.length = xs.length:=by rw [hy,List.length_set]
  have hnew:(bw cs off (M.enc u)).take (xs.length * L.n) = ep L ys:=by
    have h1:bw (ep L xs) off (M.enc u) = ep L ys:=by
      rw [j2 L xs,hy,← xg L xs m z hm,← hs]
      exact p.put _ _
    rw [← h1,← DW]
    unfold bw
    rw [E9]
    have t1:(cs.take (xs.length * L.n)).take off = cs.take off:=by rw [List.take_take,Nat.min_eq_left (by omega)]
    have t2:(cs.take (xs.length * L.n)).drop (off + M.n) = (cs.drop (off + M.n)).take (xs.length * L.n - (off + M.n)):=by rw [List.drop_take]
    have t3:(cs.take off++M.enc u).length = off + M.n:=by rw [List.length_append,List.length_take,E9,Nat.min_eq_left (by omega)]
    rw [t1,t2,List.take_append,List.take_of_length_le (by omega),t3]
  refine qB (by simp) (w':=w') ?_ (hk () w' trivial (hst.si.store hst.hp zZ (by simp [aL.fA,Value.ownBlock]) e3) ?_)
  · simp [execOp,bp hst.fr hx,bp hst.fr hz,jx,Instr.storeAt,Instr.sureAddr,e1]
  · show bN c.bs c.w0.heap.size (f (Row _ e L.n L ys)) w'
    rw [Row,k2]
    refine hst.hp.set k1 e3.size (fun j hj hn=>e3.block j hj (by simpa [aL.fA,Value.ownBlock] using hn)) ?_ hst.si.size (fun b' hb'=>?_)
    · refine ⟨by rw [k7], .inr ⟨gb,cap,_,by rw [xR],Nat.zero_le _,e2,by omega,G1,?_,?_⟩⟩
      · simp only [List.size_toArray,bw,List.length_append,List.length_take,List.length_drop,E9]; omega
      · rw [xR]; simpa using hnew
    · have h5:b' = gb:=by simpa [aL.fA,Value.ownBlock] using hb'
      subst h5
      exact ⟨.inl (by simp [aL.fA,Value.ownBlock]),Nat.lt_of_lt_of_le (Array.getElem?_eq_some_iff.1 Bg).1 e3.size⟩
class Nq (P:Program) (t:TypeId) (q:outParam IntKind):Prop where
  ok:P.underlying t = some (.int q)
theorem jU.size {v:Value} {n:Nat} (h:jU v n):v.cells.size = 1:=by obtain ⟨a,cp,rfl⟩:=h; rfl
end rules
end Go.Bw
namespace Go.Bw
open Go Go.RowKit
section rules
variable {P:Program} {N:Nat} {c:Cx} {D:List Deferred} {Q:Exit→Act→World→Prop} {F:cC} {H:List aL} {d:Option Tmp} {ty:TypeId} {ps:String} {af:Array Edge} {g:Option (Nat × Bool)} {α β γ:Type}
end rules
end Go.Bw
namespace Go.Bw
open Go Go.RowKit Go.ChangeMaps
section
variable {β:Type}
def lZ:List (Int × β)→Int→Option (Nat × β)
  | [],_=>none
  | p::r,k=>bif k == p.1 then some (0,p.2) else (lZ r k).map fun q=>(q.1 + 1,q.2)
def xB (l:List (Int × β)) (k:Int) (z:β):β:=((lZ l k).map Prod.snd).getD z
def pV:List (Int × β)→Int→β→List (Int × β)
  | [],k,v=>[(k,v)]
  | p::r,k,v=>bif k == p.1 then (k,v)::r else p::pV r k v
end
class MJ {β:Type} (E:β→Value):Prop where
  ok:True
structure lI {β:Type} (q:IntKind) (E:β→Value) (es:Array MapEntry) (clock:Nat) (l:List (Int × β)):Prop where
  kv:es.toList.map (fun e=>(e.key,e.val)) = l.map fun p=>(Value.int q p.1,E p.2)
  born:∀e ∈ es.toList,e.born < clock
  nd:(es.toList.map (·.born)).Nodup
def KY {β:Type} (b:Nat) (q:IntKind) (E:β→Value) (l:List (Int × β)) (w:World):Prop:=∃es clock,w.heap[b]? = some (.map es clock)∧lI q E es clock l
abbrev Mp {β:Type} (b:Nat) (q:IntKind) (E:β→Value) (l:List (Int × β)):aL:=.ext [b] (KY b q E l)
theorem yT {β:Type} {b:Nat} {q:IntKind} {E:β→Value} {l:List (Int × β)} {w:World} (h:KY b q E l w):(Mp b q E l).holds w:=fun w' _ hb=>by
  obtain ⟨es,clock,h1,h2⟩:=h
  exact ⟨es,clock,(hb b (by simp)).trans h1,h2⟩
class GA (H:List aL) (b:Nat) (β:outParam Type) (q:outParam IntKind) (E:outParam (β→Value)) (l:outParam (List (Int × β))) (f:outParam (aL→List aL)):Prop where
  ok:∃k:Nat,H[k]? = some (Mp b q E l)∧∀r',f r' = H.set k r'
class ME (P:Program) (t:TypeId) (k e:outParam TypeId) (q:outParam IntKind):Prop where
  ok:P.underlying t = some (.map k e)∧P.underlying k = some (.int q)
section
variable {β:Type} {q:IntKind} {E:β→Value}
theorem qF {k:Int}:∀{l:List (Int × β)} {j:Nat} {y:β},lZ l k = some (j,y)→l[j]? = some (k,y)
  | [],_,_,h=>by simp [lZ] at h
  | p::r,j,y,h=>by
    unfold lZ at h
    cases hk:k == p.1 with
    | true =>
      rw [hk] at h
      simp only [cond_true,Option.some.injEq,Prod.mk.injEq] at h
      obtain ⟨rfl,rfl⟩:=h
      have:k = p.1:=by simpa using hk
      subst this; rfl
    | false =>
      rw [hk] at h
      simp only [cond_false] at h
      cases hr:lZ r k with
      | none=>simp [hr] at h
      | some z =>
        rw [hr] at h
        simp only [Option.map_some,Option.some.injEq,Prod.mk.injEq] at h
        obtain ⟨rfl,rfl⟩:=h
        have:=qF (l:=r) (j:=z.1) (y:=z.2) hr
        simpa using this
theorem lI.len {es:Array MapEntry} {clock:Nat} {l:List (Int × β)} (h:lI q E es clock l):es.size = l.length:=by
  have:=congrArg List.length h.kv
  simpa using this
theorem lI.push {es:Array MapEntry} {clock:Nat} {l:List (Int × β)} (h:lI q E es clock l) (k:Int) (v:β):lI q E (es.push ⟨.int q k,E v,clock⟩) (clock + 1) (l++[(k,v)]):=by
  refine ⟨by simp [h.kv],fun e he=>?_,?_⟩
  · rw [Array.toList_push,List.mem_append,List.mem_singleton] at he
    rcases he with he | rfl
    · exact Nat.lt_succ_of_lt (h.born e he)
    · exact Nat.lt_succ_self _
  · rw [Array.toList_push,List.map_append,List.nodup_append]
    refine ⟨h.nd,by simp,fun a ha b hb=>?_⟩
    obtain ⟨e,he,rfl⟩:=List.mem_map.1 ha
    have hb:b = clock:=by simpa using hb
    subst hb
    exact fun e'=>by have:=h.born e he; omega
theorem lN {γ δ:Type} (f:γ→δ):∀(l:List γ) (j:Nat),(l.eraseIdx j).map f = (l.map f).eraseIdx j
  | [],j=>by simp
  | x::r,0=>by simp
  | x::r,j + 1=>by simp [lN f r j]
theorem lI.erase {es:Array MapEntry} {clock:Nat} {l:List (Int × β)} (h:lI q E es clock l) (j:Nat):lI q E (es.eraseIdxIfInBounds j) clock (l.eraseIdx j):=by
  have ht:(es.eraseIdxIfInBounds j).toList = es.toList.eraseIdx j:=by
    unfold Array.eraseIdxIfInBounds
    split
    · simp
    · rename_i hj
      rw [List.eraseIdx_of_length_le (by simpa using hj)]
  refine ⟨?_,fun e he=>?_,?_⟩
  · rw [ht,lN,h.kv,← lN]
  · rw [ht] at he; exact h.born e (List.mem_of_mem_eraseIdx he)
  · rw [ht,lN]; exact h.nd.sublist (List.eraseIdx_sublist _ _)
end
section rules
variable {P:Program} {N:Nat} {c:Cx} {F:cC} {H:List aL} {d:Option Tmp} {ty:TypeId} {ps:String} {af:Array Edge} {g:Option (Nat × Bool)} {β:Type} {q:IntKind} {E:β→Value} {l:List (Int × β)} {f:aL→List aL} {b:Nat}
theorem GA.put {N:Nat} {D:List Deferred} {a:Act} {w:World} {l' : List (Int × β)} {es es' : Array MapEntry} {clock clock' : Nat} (h:GA H b β q E l f) (hst:St N c D F H a w) (he:w.heap[b]? = some (.map es clock)) (hok:lI q E es' clock' l') :
    aY c.bs c.w0 (w.putObj b (.map es' clock'))∧bN c.bs c.w0.heap.size (f (Mp b q E l')) (w.putObj b (.map es' clock')):=by
  obtain ⟨k,h1,h2⟩:=h.ok
  have hlt:=(Array.getElem?_eq_some_iff.1 he).1
  have lT:aY [b] w (w.putObj b (.map es' clock')):=⟨rfl,rfl,rfl,by simp [World.putObj],fun k _ hk=>World.putObj_heap_other (by simpa using hk)⟩
  refine ⟨hst.si.store hst.hp (List.mem_of_getElem? h1) (by simp [aL.fA]) lT,?_⟩
  rw [h2]
  refine hst.hp.set h1 lT.size (fun j hj hne=>lT.block j hj (by simpa [aL.fA] using hne)) (yT ⟨es',clock',World.putObj_heap_same hlt,hok⟩) hst.si.size (fun b' hb=>?_)
  have e:b' = b:=by simpa [aL.fA] using hb
  subst e
  exact ⟨.inl (by simp [aL.fA]),by rw [World.putObj]; simpa using hlt⟩
class KP (P:Program) (e:TypeId) (z:outParam Value):Prop where
  ok:(P.info? e).bind (·.zero) = some z
theorem BQ {e:TypeId} {z:Value} (h:KP P e z) (w:World):(zeroValue e).run P w = .ok z w:=by
  have:=h.ok
  cases hi:P.info? e with
  | none=>simp [hi] at this
  | some i =>
    simp [hi] at this
    simp [zeroValue,typeInfo,hi,this,Sem.run_bind,Sem.run,Result.andThen]
end rules
end Go.Bw
namespace Go.Bw
open Go Go.RowKit Go.ChangeMaps
section
variable {α1 β ρ:Type}
end
section
variable {α1 α2 β ρ:Type}
end
section
variable {α1 α2 α3 β ρ:Type}
end
section
variable {α1 α2 α3 α4 β ρ:Type}
end
section
variable {α1 α2 α3 α4 α5 β ρ:Type}
end
section
variable {α1 α2 α3 α4 α5 α6 β ρ:Type}
end
def MO {β:Type} (r b:Nat) (q:IntKind) (E:β→Value) (l rem:List (Int × β)) (last:Option (Int × β)) (w:World):Prop:=
  ∃es clock seen since c0,w.heap[b]? = some (.map es clock)∧w.heap[r]? = some (.mapIter (some b) since seen c0)∧lI q E es clock l∧(∀x ∈ es.toList,x.born < since)∧(since ≤ c0∧since ≤ clock) ∧
    (leftOf es seen).toList.map (fun e=>(e.key,e.val)) = rem.map (fun p=>(Value.int q p.1,E p.2)) ∧
    ∀p,last = some p→c0 = clock∧∃(s' : Array Nat) (e:MapEntry),seen = s'.push e.born∧e ∈ es.toList∧e.key = .int q p.1∧e.val = E p.2
abbrev MN {β:Type} (r b:Nat) (q:IntKind) (E:β→Value) (l rem:List (Int × β)) (last:Option (Int × β)):aL:=.ext [r,b] (MO r b q E l rem last)
class MP (H:List aL) (r:Nat) (b:outParam Nat) (β:outParam Type) (q:outParam IntKind) (E:outParam (β→Value)) (l rem:outParam (List (Int × β))) (last:outParam (Option (Int × β))) (f:outParam (aL→List aL)):Prop where
  ok:∃k:Nat,H[k]? = some (MN r b q E l rem last)∧∀r',f r' = H.set k r'
section rules
variable {P:Program} {N:Nat} {c:Cx} {F:cC} {H:List aL} {d:Option Tmp} {ty:TypeId} {ps:String} {af:Array Edge} {g:Option (Nat × Bool)} {β:Type} {q:IntKind} {E:β→Value} {l rem:List (Int × β)} {last:Option (Int × β)} {f:aL→List aL} {b r:Nat}
end rules
end Go.Bw
namespace Go.Bw
open Go Go.RowKit Go.ChangeShapes Go.WideShapes Go.Deep
theorem Below.xu {w w' : World} (h:aY [] w w'):Below w.heap.size w w':=⟨h.os,h.tape,h.output,h.size,fun k hk=>h.block k hk (by simp)⟩
theorem Ag {w:World} {a:Addr} {v:Value} (h:w.cell? a = some v):a.block < w.heap.size:=by
  rcases Nat.lt_or_ge a.block w.heap.size with h1 | h1
  · exact h1
  · have:w.heap[a.block]? = none:=Array.getElem?_eq_none h1
    simp [World.cell?,this] at h
section
variable {H:Type} {enc:TypeId × Value→H} {P:Program} {w:World} {base:Nat} {spare:Nat→Bool} {held:Bool}
theorem tP {t fuel:Nat} {fs:Array Field} {cs:List Value} {x:DataW H × List MemPlace} (ht:P.underlying t = some (.struct fs)) (h:DataW.trod enc P w base spare held fuel t cs = some x) :
    cs.length = P.cellsOf t∧∀(i:Nat) (f:Field),fs[i]? = some f→∃n y,DataW.trod enc P w base spare held n f.type ((cs.drop f.offset).take (P.cellsOf f.type)) = some y:=by
  obtain ⟨ys,n,_,_,hl,hy,hf⟩:=DataW.trod_struct ht h
  refine ⟨hl,fun i f hi=>?_⟩
  have hlt:i < ys.length:=by rw [hy]; exact (Array.getElem?_eq_some_iff.1 hi).1
  exact ⟨n,ys[i],(hf i f hi).trans (List.getElem?_eq_getElem hlt)⟩
theorem zz {α:Type} [Inhabited α] {t e sz fuel len cap:Nat} {a:Option Addr} {x:DataW H × List MemPlace} (E:α→List Value) (R:α→Prop) (ht:P.underlying t = some (.slice e)) (hC:P.cellsOf e = sz) (h0:0 < sz)
    (hE:∀z,(E z).length = sz) (hQ:∀(n:Nat) (cs:List Value) y,DataW.trod enc P w base spare held n e cs = some y→∃z,cs = E z∧R z) (h:DataW.trod enc P w base spare held fuel t [.slice a len cap] = some x) :
    ∃g:Nat→α,Ro w (.slice a len cap) sz len (flat (fun i=>E (g i)) len)∧(∀i,i < len→R (g i))∧len ≤ maxLen:=by
  rcases open_slice ht h with ⟨hcs,_⟩ | ⟨a',len',cap',m,n,D,Pl,hcs,_,hl,hm,zZ,_,hi⟩
  · simp at hcs
    obtain ⟨rfl,rfl,rfl⟩:=hcs
    exact ⟨fun _=>default,⟨by simp [flat], .inl ⟨⟨_,_,rfl⟩,rfl⟩⟩,fun i hi=>by omega,Nat.zero_le _⟩
  · simp at hcs
    obtain ⟨rfl,rfl,rfl⟩:=hcs
    have Nb:len ≤ m:=by rw [zZ]; split <;> omega
    have hex:∀i,i < len→∃z,R z∧∀j,j < sz→w.cell? (a'.add (i * sz + j)) = (E z)[j]?:=fun i pg=>by
      obtain ⟨cs',hc,ht'⟩:=hi i (by omega)
      obtain ⟨z,rfl,hz⟩:=hQ _ _ _ ht'
      rw [hC] at hc
      obtain ⟨_,_,KC⟩:=World.cells?_some hc
      refine ⟨z,hz,fun j hj=>?_⟩
      rw [← KC j hj,← Go.Deep.add_add]
    let g:Nat→α:=fun i=>if hh:i < len then Classical.choose (hex i hh) else default
    have hg:∀i,i < len→R (g i)∧∀j,j < sz→w.cell? (a'.add (i * sz + j)) = (E (g i))[j]?:=fun i pg=>by
      have:=Classical.choose_spec (hex i pg)
      simp only [g,pg,dif_pos]
      exact this
    refine ⟨g,⟨iM fun i _=>hE _,?_⟩,fun i pg=>(hg i pg).1,by omega⟩
    have x8:∀(j:Nat) u,(flat (fun i=>E (g i)) len)[j]? = some u→w.cell? (a'.add j) = some u:=fun j u hu=>by
      have hlen:(flat (fun i=>E (g i)) len).length = len * sz:=iM fun i _=>hE _
      have hj:j < len * sz:=by rw [← hlen]; exact (List.getElem?_eq_some_iff.1 hu).1
      have hd:j = (j / sz) * sz + j % sz:=by rw [Nat.mul_comm]; exact (Nat.div_add_mod j sz).symm
      have hq:j / sz < len:=(Nat.div_lt_iff_lt_mul h0).2 hj
      have hr:j % sz < sz:=Nat.mod_lt _ h0
      rw [hd,flat_get (g:=fun i=>E (g i)) (fun i _=>hE _) hq hr] at hu
      rw [hd,(hg _ hq).2 _ hr,hu]
    rcases Nat.eq_zero_or_pos len with e0 | e0
    · subst e0; exact .inl ⟨⟨_,_,rfl⟩,rfl⟩
    · obtain ⟨b,off,spot⟩:=a'
      have hz:(flat (fun i=>E (g i)) len)[0]? = some ((flat (fun i=>E (g i)) len)[0]'(by rw [iM (k:=sz) (fun i _=>hE _)]; exact Nat.mul_pos e0 h0)):=List.getElem?_eq_getElem _
      have h1:=x8 0 _ hz
      have Fa:spot = none:=by simpa [Addr.add] using World.cell?_spot h1
      subst Fa
      refine .inr ⟨b,off,cap,rfl,?_,by omega,fun j u hu=>?_⟩
      · simpa [Addr.add] using Ag h1
      · have:=x8 j u hu
        rwa [Addr.add_lit] at this
end
end Go.Bw
namespace Go.Bw
open Go Go.RowKit Go.ChangeShapes Go.WideShapes Go.Deep
def D6 {α:Type} (P:Program) (W:World) (t:TypeId) (L:aQ α) (R:α→Prop):Prop:=
  ∀(H:Type) (enc:TypeId × Value→H) (base:Nat) (spare:Nat→Bool) (held:Bool) (n:Nat) (cs:List Value) (y:DataW H × List MemPlace),DataW.trod enc P W base spare held n t cs = some y→∃z,L.rep (fun w=>aY [] W w) cs z∧R z
section
variable {P:Program} {W:World} {t e:TypeId} {α β:Type}
theorem AK (hu:P.underlying t = some (.int .i64)):D6 P W t (LI .i64) (fun z=>-9223372036854775808 ≤ z∧z ≤ 9223372036854775807):=fun _ _ _ _ _ _ _ _ h=>by obtain ⟨a,e,_,b⟩:=DataW.trod_int hu h; exact ⟨a,e,bounds_i64 b⟩
theorem DF (hu:P.underlying t = some (.int .u8)):D6 P W t (LI .u8) (fun z=>0 ≤ z∧z ≤ 255):=fun _ _ _ _ _ _ _ _ h=>by obtain ⟨a,e,_,b⟩:=DataW.trod_int hu h; exact ⟨a,e,bounds_u8 b⟩
theorem sg (hu:P.underlying t = some (.int .u32)):D6 P W t (LI .u32) (fun z=>0 ≤ z∧z ≤ 4294967295):=fun _ _ _ _ _ _ _ _ h=>by obtain ⟨a,e,_,b⟩:=DataW.trod_int hu h; exact ⟨a,e,bounds_u32 b⟩
theorem DG [Inhabited α] {L:aQ α} [aZ L] {R:α→Prop} {sz:Nat} (hu:P.underlying t = some (.slice e)) (hc:P.cellsOf e = sz) (hn:L.n = sz) (h0:0 < sz) (h:D6 P W e L R):D6 P W t (oJ L) (fun z=>∀x ∈ z,R x):=by
  intro H enc base spare held n cs y hy
  have hcs:∃a len cap,cs = [.slice a len cap]:=by
    rcases open_slice hu hy with ⟨hcs,_⟩ | ⟨a',len',cap',m,n,D,Pl,hcs,_⟩
    · exact ⟨_,_,_,hcs⟩
    · exact ⟨_,_,_,hcs⟩
  obtain ⟨a,len,cap,rfl⟩:=hcs
  obtain ⟨g,w,q,_⟩:=zz (α:=α) (sz:=sz) L.enc R hu hc h0 (fun z=>(bF L z).trans hn) (fun n cs y hy=>by
    obtain ⟨z,hz,hr⟩:=h H enc base spare held n cs y hy
    exact ⟨z,aZ.iff.1 hz,hr⟩) hy
  refine ⟨_,⟨_,rfl,Fz.EF (L:=L) hn.symm ⟨_,_,rfl⟩ w⟩,fun x hx=>?_⟩
  obtain ⟨i,hi,rfl⟩:=List.mem_map.1 hx
  exact q i (List.mem_range.1 hi)
theorem oK {A:aQ α} {B:aQ β} {J:World→Prop} {cs:List Value} {o na:Nat} {x:α} {y:β} (hn:A.n = na) (h1:A.rep J ((cs.drop o).take na) x) (h2:B.rep J (cs.drop (o + na)) y):(LP A B).rep J (cs.drop o) (x,y):=
  ⟨_,_,(List.take_append_drop na _).symm,h1,by rw [List.drop_drop]; exact h2⟩
theorem DH {A:aQ α} {J:World→Prop} {cs:List Value} {o na:Nat} {x:α} (hl:cs.length = o + na) (h1:A.rep J ((cs.drop o).take na) x):A.rep J (cs.drop o) x:=by
  rwa [List.take_of_length_le (by rw [List.length_drop]; omega)] at h1
theorem Er {L:aQ α} [aZ L] {A:World→Prop} {a:Option Addr} {len cap:Nat} {z:List α} (h:(oJ L).rep A (Value.slice a len cap).cells.toList z):Fz A (.slice a len cap) L z:=by
  obtain ⟨v,e,f⟩:=h
  have e:[Value.slice a len cap] = [v]:=e
  cases e
  exact f
end
end Go.Bw
namespace Go.Bw
open Go Go.RowKit Go.ChangeShapes Go.WideShapes Go.Deep
section
variable {α β:Type}
structure DO [Inhabited α] (A:World→Prop) (v:Value) (L:aQ α) (ws:List Value) (xs:List α):Prop where
  sl:jU v xs.length
  rep:(LA L xs.length).rep A ws (fun i=>xs.getD i default)
  ro:∀w,A w→Ro w v L.n xs.length ws
theorem DO.mono [Inhabited α] {A B:World→Prop} {v:Value} {L:aQ α} {ws:List Value} {xs:List α} (h:DO A v L ws xs) (m:∀w,B w→A w):DO B v L ws xs:=⟨h.sl,aQ.mono _ m h.rep,fun w hw=>h.ro w (m w hw)⟩
theorem DO.at [Inhabited α] {c:Cx} {H:List aL} {A:World→Prop} {v:Value} {L:aQ α} {ws:List Value} {xs:List α} (h:DO A v L ws xs) [k:Kn c H A]:m5 c H v L.n xs.length ws:=⟨fun w h1 h2=>h.ro w (k.ok w h1 h2)⟩
theorem DO.nil [Inhabited α] {A:World→Prop} {L:aQ α}:DO A (.slice none 0 0) L [] ([]:List α):=⟨⟨_,_,rfl⟩,⟨fun _=>[],rfl,fun i hi=>absurd hi (Nat.not_lt_zero _)⟩,fun _ _=>⟨by simp, .inl ⟨⟨_,_,rfl⟩,rfl⟩⟩⟩
end
theorem xj {β:Type} {M:aQ β} {A:World→Prop} {cs:List Value} {x:β} (h:M.rep A cs x):∃c,cs = c∧M.rep A c x:=⟨cs,rfl,h⟩
section rules
variable {P:Program} {N:Nat} {c:Cx} {D:List Deferred} {Q:Exit→Act→World→Prop} {F:cC} {H:List aL} {d:Option Tmp} {ty:TypeId} {ps:String} {af:Array Edge} {g:Option (Nat × Bool)} {α β γ:Type}
  {A:World→Prop} {v:Value} {L:aQ α} [Inhabited α] {ws:List Value} {xs:List α}
end rules
section
variable {P:Program} {W:World} {t e:TypeId} {α:Type}
end
def uL (P:Program) (T n:Nat) (k:IntKind):Bool:=match P.underlying T with
  | some (.array m e)=>Nat.beq m n && (match P.underlying e with | some (.int q)=>decide (q = k) | _=>false) && (P.info? e).isSome && Nat.beq (P.cellsOf e) 1 && !P.eqGuardType P.depth T
  | _=>false
class J6 (P:Program) (T:TypeId) (n:outParam Nat) (k:outParam IntKind):Prop where
  ok:uL P T n k = true
theorem J6.get {P:Program} {T n:Nat} {k:IntKind} (h:uL P T n k = true):∃e i,P.underlying T = some (.array n e)∧P.underlying e = some (.int k)∧P.info? e = some i∧P.cellsOf e = 1∧P.eqGuardType P.depth T = false:=by
  unfold uL at h
  split at h
  · rename_i m e hu
    simp only [Bool.and_eq_true,Bool.not_eq_true'] at h
    obtain ⟨⟨⟨⟨h1,h2⟩,h3⟩,h4⟩,h5⟩:=h
    have h1:=Nat.eq_of_beq_eq_true h1
    subst h1
    obtain ⟨i,hi⟩:=Option.isSome_iff_exists.1 h3
    split at h2
    · rename_i q hq
      have:q = k:=by simpa using h2
      subst this
      exact ⟨e,i,hu,hq,hi,Nat.eq_of_beq_eq_true h4,h5⟩
    · cases h2
  · cases h
section
variable {P:Program} {N:Nat} {c:Cx} {F:cC} {H:List aL} {d:Option Tmp} {ty:TypeId} {ps:String} {af:Array Edge} {g:Option (Nat × Bool)}
end
end Go.Bw
namespace Go.Bw
open Go Go.RowKit
section rules
variable {P:Program} {N:Nat} {c:Cx} {D:List Deferred} {Q:Exit→Act→World→Prop} {F:cC} {H:List aL} {d:Option Tmp} {ty:TypeId} {ps:String} {af:Array Edge} {g:Option (Nat × Bool)} {α β γ:Type}
theorem pS {z:Value} (hz:z.cells = #[z]) (n:Nat):(Builtin.zeroCells z.cells n).toList = List.replicate n z:=by
  rw [hz]
  simp [Builtin.zeroCells]
  apply List.ext_getElem
  · simp
  · intro i h1 h2
    simp [Nat.mod_one]
abbrev DE:=Option (Nat × List Value × List Nat × (World→Prop))
def Ez:DE→Value
  | none=>.pointer none
  | some y=>Ptr y.1 0
def EB (T:Nat):DE→List aL
  | none=>[]
  | some y=>[.cells y.1 T y.2.1, .ext y.2.2.1 y.2.2.2]
def EA (L:aQ α) (o:Option α):DE→Prop
  | none=>o = none
  | some y=>∃p,o = some p∧L.rep (Hs [.ext y.2.2.1 y.2.2.2]) y.2.1 p
theorem Fn.map {P:Program} {f:Nat} {args:List Value} {pre:World→Prop} {l9:List aL} {p:α→Prop} {fv:α→Value} {fH:α→List aL} {q:β→Prop} {gv:β→Value} {gH:β→List aL}
    (h:Fn P f args pre l9 p fv fH) (m:∀x,p x→∃y,q y∧fv x = gv y∧fH x = gH y):Fn P f args pre l9 q gv gH:=by
  refine ⟨h.enter,fun w hw hp cs=>?_⟩
  obtain ⟨e,w',fr,⟨x,px,he,hs,hh⟩,more⟩:=h.calls w hw hp cs
  obtain ⟨y,qy,e1,e2⟩:=m x px
  exact ⟨e,w',fr,⟨y,qy,he.trans (by rw [e1]),hs,by rw [← e2]; exact hh⟩,more⟩
theorem Ef.nil {P:Program} {f:Nat} {args:List Value} {pre:World→Prop} {L:aQ α} {o:Option α} {T:Nat} {g:Value→Value} (h:Fn P f args pre [] (EA L o) (fun x=>g (Ez x)) (EB T)) (ho:o = none) :
    Fn (α:=Unit) P f args pre [] (fun _=>True) (fun _=>g (.pointer none)) (fun _=>[]):=
  h.map fun x hx=>by
    match x,hx with
    | Option.none,_=>exact ⟨(),trivial,rfl,rfl⟩
    | Option.some y,⟨p,hp,_⟩=>rw [ho] at hp; cases hp
theorem Ef.some {P:Program} {f:Nat} {args:List Value} {pre:World→Prop} {L:aQ α} {o:Option α} {a:α} {T:Nat} {g:Value→Value} (h:Fn P f args pre [] (EA L o) (fun x=>g (Ez x)) (EB T)) (ho:o = Option.some a) :
    Fn (α:=Nat × List Value × List Nat × (World→Prop)) P f args pre [] (fun y=>L.rep (Hs [.ext y.2.2.1 y.2.2.2]) y.2.1 a) (fun y=>g (Ptr y.1 0)) (fun y=>[.cells y.1 T y.2.1, .ext y.2.2.1 y.2.2.2]):=
  h.map fun x hx=>by
    match x,hx with
    | Option.none,hx=>have:o = none:=hx; rw [ho] at this; cases this
    | Option.some y,⟨p,hp,hr⟩=>rw [ho] at hp; cases hp; exact ⟨y,hr,rfl,rfl⟩
end rules
end Go.Bw
namespace Go.Bw
open Go
universe u
theorem rf {α:Sort u} {a:α}:a = a:=rfl
abbrev A (c:List Value):Value:=.agg c.toArray
abbrev Vs:=List Value
class MD (P:Program) (t:TypeId):Prop where
  ok:P.underlying t = some .string
def look {α:Type}:List (Nat × α)→Nat→Option α
  | [],_=>none
  | (k,v)::r,d=>bif Nat.beq k d then some v else look r d
def Kj:IntKind→Nat
  | .i8=>0 | .i16=>1 | .i32=>2 | .i64=>3 | .u8=>4 | .u16=>5 | .u32=>6 | .u64=>7
def DT (k l:IntKind):Bool:=Nat.beq (Kj k) (Kj l)
theorem xI {k l:IntKind} (h:DT k l = true):k = l:=by cases k <;> cases l <;> first | rfl | (exact absurd h (by decide))
structure Tb where
  fl:List (Nat × List (Nat × Nat))
  ik:List (Nat × IntKind)
def yu (P:Program) (T:Tb):Bool:=
  (T.fl.all fun p=>p.2.all fun q=>rR P p.1 q.1 q.2) && T.ik.all fun p=>match P.underlying p.1 with | some (.int k)=>DT k p.2 | _=>false
class tE (P:Program) (T:outParam Tb):Prop where
  ok:yu P T = true
theorem oY {α:Type}:∀{l:List (Nat × α)} {d:Nat} {v:α},look l d = some v→(d,v) ∈ l:=by
  intro l
  induction l with
  | nil=>intro d v h; cases h
  | cons p r ih =>
    intro d v h
    obtain ⟨k,u⟩:=p
    simp only [look] at h
    by_cases e:k = d
    · subst e; rw [Nat.beq_refl] at h; simp at h; subst h; simp
    · rw [jE e] at h; simp at h; exact List.mem_cons_of_mem _ (ih h)
def Tb.off (T:Tb) (s f:Nat):Option Nat:=match look T.fl s with
  | some l=>look l f
  | none=>none
def Tb.int (T:Tb) (t:Nat):Option IntKind:=look T.ik t
theorem tE.Mj {P:Program} {T:Tb} (h:tE P T) {s f o:Nat} (e:T.off s f = some o):jo P s f o:=by
  have h:=h.ok
  unfold yu at h
  rw [Bool.and_eq_true] at h
  unfold Tb.off at e
  split at e
  · rename_i l h1
    exact ⟨List.all_eq_true.1 (List.all_eq_true.1 h.1 _ (oY h1)) _ (oY e)⟩
  · cases e
theorem tE.ty {P:Program} {T:Tb} (h:tE P T) {t:Nat} {k:IntKind} (e:T.int t = some k):yM P t k:=by
  have h:=h.ok
  unfold yu at h
  rw [Bool.and_eq_true] at h
  have h2:=List.all_eq_true.1 h.2 _ (oY e)
  dsimp only at h2
  split at h2
  · rename_i k' e2
    rw [xI h2] at e2; exact ⟨e2⟩
  · cases h2
def sint (o:BinOp) (k:IntKind) (a b:Int):Option Value:=match o with
  | .add=>some (.int k (k.wrap (a + b)))
  | .sub=>some (.int k (k.wrap (a - b)))
  | .mul=>some (.int k (k.wrap (a * b)))
  | .eql=>some (.bool (a == b))
  | .neq=>some (.bool (a != b))
  | .lss=>some (.bool (decide (a < b)))
  | .leq=>some (.bool (decide (a ≤ b)))
  | .gtr=>some (.bool (decide (b < a)))
  | .geq=>some (.bool (decide (b ≤ a)))
  | _=>none
def sv (T:Tb) (F:cC):Op→Option Value
  | .move x=>ev F x
  | .assign x=>ev F x
  | .nilCheck x=>match ev F x with
    | some (.pointer (some a))=>some (.pointer (some a))
    | _=>none
  | .unOp .not _ x=>match ev F x with
    | some (.bool b)=>some (.bool (!b))
    | _=>none
  | .unOp .neg _ x=>match ev F x with
    | some (.int k a)=>some (.int k (k.wrap (0 - a)))
    | _=>none
  | .binOp o _ x y _=>match ev F x with
    | some (.int k a)=>match ev F y with
      | some (.int l b)=>bif DT k l then sint o k a b else none
      | _=>none
    | _=>none
  | .convert S t x=>match ev F x with
    | some (.int k a)=>match T.int S with
      | some l=>bif DT l k then (match T.int t with
        | some k'=>some (.int k' (k'.wrap a))
        | none=>none) else none
      | none=>none
    | _=>none
  | .extract x i=>match ev F x with
    | some (.tuple vs)=>vs.toList[i]?
    | _=>none
  | .fieldAddr s x f=>match ev F x with
    | some (.pointer (some ⟨b,off,none⟩))=>match T.off s f with
      | some fo=>some (Ptr b (off + fo))
      | none=>none
    | _=>none
  | .makeFunc fn first cap=>match first.toList with
    | []=>match og F cap.toList with
      | some vs=>some (.func fn #[] vs.toArray)
      | none=>none
    | _=>none
  | _=>none
theorem w6 {P:Program} {T:Tb} [hT:tE P T] {N:Nat} {c:Cx} {F:cC} {H:List aL} {op:Op} {v:Value} {d:Option Tmp} {ty:TypeId} {ps:String} {af:Array Edge} {g:Option (Nat × Bool)}
    (h:sv T F op = some v):VS P N c ⟨d,op,ty,ps,af,g⟩ F H v:=by
  unfold sv at h
  split at h
  · exact ak h
  · exact aP h
  · split at h
    · rename_i a e; obtain rfl:=Option.some.inj h; exact n8 e
    · cases h
  · split at h
    · rename_i b e; obtain rfl:=Option.some.inj h; exact iu e
    · cases h
  · split at h
    · rename_i e; obtain rfl:=Option.some.inj h; exact Du e rfl
    · cases h
  · split at h
    · rename_i o _ x y _ k a e
      split at h
      · rename_i l b e2
        cases hb:DT k l with
        | false=>rw [hb] at h; cases h
        | true =>
          rw [hb] at h
          obtain rfl:=xI hb
          simp only [cond_true] at h
          unfold sint at h
          split at h
          · obtain rfl:=Option.some.inj h; exact mD e e2 rfl
          · obtain rfl:=Option.some.inj h; exact r5 e e2 rfl
          · obtain rfl:=Option.some.inj h; exact yL e e2 rfl
          · obtain rfl:=Option.some.inj h; exact dV e e2
          · obtain rfl:=Option.some.inj h; exact jG e e2
          · obtain rfl:=Option.some.inj h; exact mB e e2
          · obtain rfl:=Option.some.inj h; exact r7 e e2
          · obtain rfl:=Option.some.inj h; exact uT e e2
          · obtain rfl:=Option.some.inj h; exact lE e e2
          · cases h
      · cases h
    · cases h
  · split at h
    · rename_i S t x k a e
      split at h
      · rename_i l e1
        cases hb:DT l k with
        | false=>rw [hb] at h; cases h
        | true =>
          rw [hb] at h
          obtain rfl:=xI hb
          simp only [cond_true] at h
          split at h
          · rename_i k' e2
            obtain rfl:=Option.some.inj h
            haveI:=hT.ty e1
            haveI:=hT.ty e2
            exact Ay e rfl
          · cases h
      · cases h
    · cases h
  · split at h
    · rename_i vs e
      exact aM (vs:=vs.toList) e h
    · cases h
  · split at h
    · rename_i e
      split at h
      · rename_i fo e1
        obtain rfl:=Option.some.inj h
        haveI:=hT.Mj e1
        exact jH e
      · cases h
    · cases h
  · rename_i fn first cap
    split at h
    · rename_i e
      split at h
      · rename_i e1
        obtain rfl:=Option.some.inj h
        obtain ⟨l⟩:=first
        obtain rfl:l = []:=e
        exact n9 (cap:=cap.toList) e1
      · cases h
    · cases h
  · cases h
inductive Kf where
  | th (y:Code)
  | tk (K:Act→World→Prop)
  | bl (id:Nat)
def dq (P:Program) (ro:Option Nat) (Q:Exit→Act→World→Prop):List Kf→Exit→Act→World→Prop
  | []=>Q
  | .th y::ks=>Exit.then (y.wpIn (FA ro) 0 P (dq P ro Q ks)) (dq P ro Q ks)
  | .tk K::ks=>Exit.then K (dq P ro Q ks)
  | .bl id::ks=>Exit.inBlock id (dq P ro Q ks)
inductive Cf where
  | C (x:Code)
  | L (ops:Array Oper) (l:List Oper)
  | X (e:Exit)
def GG (P:Program) (N:Nat) (c:Cx) (D:List Deferred) (Q:Exit→Act→World→Prop) (ks:List Kf) (F:cC) (H:List aL):Cf→Prop
  | .C x=>WP P N c D x (dq P c.ro Q ks) F H
  | .L ops l=>WL P N c D ops (dq P c.ro Q ks) l F H
  | .X e=>WQ N c D (dq P c.ro Q ks) e F H
def s1 (T:Tb) (N:Nat):Cf→List Kf→cC→Option (Cf × List Kf × cC)
  | .C x,ks,F=>match x with
    | .seq x y=>some (.C x, .th y::ks,F)
    | .block id x=>some (.C x, .bl id::ks,F)
    | .region _ ops false=>some (.L ops ops.toList,ks,F)
    | .skip=>some (.X .normal,ks,F)
    | .label _=>some (.X .normal,ks,F)
    | .ret=>some (.X .ret,ks,F)
    | .exit id=>some (.X (.exit id),ks,F)
    | _=>none
  | .L ops l,ks,F=>match l with
    | []=>some (.X .normal,ks,F)
    | ⟨some d,op,_,_,_,none⟩::r=>match sv T F op with
      | some v=>bif Nat.blt d N then some (.L ops r,ks,(d,v)::F) else none
      | none=>none
    | _=>none
  | .X e,ks,F=>match e,ks with
    | .normal, .th y::ks=>some (.C y,ks,F)
    | .normal, .bl _::ks=>some (.X .normal,ks,F)
    | .ret, .th _::ks=>some (.X .ret,ks,F)
    | .ret, .tk _::ks=>some (.X .ret,ks,F)
    | .ret, .bl _::ks=>some (.X .ret,ks,F)
    | .exit i, .th _::ks=>some (.X (.exit i),ks,F)
    | .exit i, .tk _::ks=>some (.X (.exit i),ks,F)
    | .exit i, .bl k::ks=>bif Nat.beq i k then some (.X .normal,ks,F) else some (.X (.exit i),ks,F)
    | _,_=>none
def sp (T:Tb) (N:Nat):Nat→Cf→List Kf→cC→Option (Cf × List Kf × cC)
  | 0,cf,ks,F=>some (cf,ks,F)
  | n + 1,cf,ks,F=>match s1 T N cf ks F with
    | some (cf,ks,F)=>sp T N n cf ks F
    | none=>none
section
variable {P:Program} {T:Tb} [hT:tE P T] {N:Nat} {c:Cx} {D:List Deferred} {Q:Exit→Act→World→Prop} {ks ks' : List Kf} {F F' : cC} {H:List aL} {cf y5:Cf}
theorem Eu (h:s1 T N cf ks F = some (y5,ks',F')) (g:GG P N c D Q ks' F' H y5):GG P N c D Q ks F H cf:=by
  unfold s1 at h
  split at h
  · split at h
    all_goals first
      | (cases h; done)
      | skip
    · cases h; exact aU g
    · cases h; exact gC g
    · cases h; exact fun a w hst=>wpIn_region_lit (l:=Array.toList _) (g a w hst)
    · cases h; exact gG g
    · cases h; exact yH g
    · cases h; exact jb g
    · cases h; exact oF g
  · split at h
    · cases h; exact aW g
    · split at h
      · rename_i d op _ _ _ _ _ v hv
        cases hd:Nat.blt d N with
        | false=>rw [hd] at h; cases h
        | true =>
          rw [hd] at h
          cases h
          exact ah hd (w6 hv) g
      · cases h
    · cases h
  · split at h
    · cases h; exact aE g
    · cases h; exact gA g
    · cases h; exact cE g
    · cases h; exact cE g
    · cases h; exact dN g
    · cases h; exact eT g
    · cases h; exact eT g
    · rename_i i k ks
      cases hb:Nat.beq i k with
      | true =>
        rw [hb] at h; cases h
        obtain rfl:=Nat.eq_of_beq_eq_true hb
        exact iB g
      | false=>rw [hb] at h; cases h; exact qc hb g
    · cases h
theorem vg:∀{n:Nat} {cf:Cf} {ks:List Kf} {F:cC},sp T N n cf ks F = some (y5,ks',F')→GG P N c D Q ks' F' H y5→GG P N c D Q ks F H cf
  | 0,_,_,_,h,g=>by cases h; exact g
  | n + 1,_,_,_,h,g=>by
    simp only [sp] at h
    split at h
    · rename_i e; exact Eu e (vg h g)
    · cases h
class QF (P:Program) (ro:Option Nat) (Q:Exit→Act→World→Prop) (ks:outParam (List Kf)) (Q0:outParam (Exit→Act→World→Prop)):Prop where
  ok:Q = dq P ro Q0 ks
instance (priority:=100) KV (P ro Q ks):QF P ro (dq P ro Q ks) ks Q:=⟨rfl⟩
instance (priority:=60) KW (P ro id Q ks Q0) [h:QF P ro Q ks Q0]:QF P ro (Exit.inBlock id Q) (.bl id::ks) Q0:=⟨by rw [h.ok]; rfl⟩
instance (priority:=50) KU (P ro K Q ks Q0) [h:QF P ro Q ks Q0]:QF P ro (Exit.then K Q) (.tk K::ks) Q0:=⟨by rw [h.ok]; rfl⟩
instance (priority:=10) J7 (P ro Q):QF P ro Q [] Q:=⟨rfl⟩
theorem SC {x:Code} {Q0:Exit→Act→World→Prop} [q:QF P c.ro Q ks Q0] (n:Nat) (h:sp T N n (.C x) ks F = some (y5,ks',F')) (g:GG P N c D Q0 ks' F' H y5):WP P N c D x Q F H:=by
  have:=vg (H:=H) (D:=D) h g
  rw [q.ok]; exact this
theorem SL {ops:Array Oper} {l:List Oper} {Q0:Exit→Act→World→Prop} [q:QF P c.ro Q ks Q0] (n:Nat) (h:sp T N n (.L ops l) ks F = some (y5,ks',F')) (g:GG P N c D Q0 ks' F' H y5):WL P N c D ops Q l F H:=by
  have:=vg (H:=H) (D:=D) h g
  rw [q.ok]; exact this
class QX (Q:Exit→Act→World→Prop) (ro:Option Nat) (P:outParam Program) (ks:outParam (List Kf)) (Q0:outParam (Exit→Act→World→Prop)):Prop where
  ok:Q = dq P ro Q0 ks
instance (priority:=100) KT (P ro Q ks):QX (dq P ro Q ks) ro P ks Q:=⟨rfl⟩
theorem SX {e:Exit} {Q0:Exit→Act→World→Prop} [q:QX Q c.ro P ks Q0] (n:Nat) (h:sp T N n (.X e) ks F = some (y5,ks',F')) (g:GG P N c D Q0 ks' F' H y5):WQ N c D Q e F H:=by
  have:=vg (P:=P) (H:=H) (D:=D) h g
  rw [q.ok]; exact this
end
theorem sj {α:Type} {a b:α} (h:some a = some b):a = b:=Option.some.inj h
theorem mo {α:Type} {L:aQ α} {A B:World→Prop} {cs:Vs} {x:α} [wJ B A] (h:L.rep A cs x):L.rep B cs x:=aQ.mono _ dg h
theorem fl {α:Type} {L:aQ α} [aZ L] {J:World→Prop} {x:α}:L.rep J (L.enc x) x:=aZ.iff.2 rfl
def oW:List Nat→Bool
  | []=>true
  | k::r=>!(r.any (Nat.beq k)) && oW r
theorem qD:∀{l:List Nat},oW l = true→l.Nodup
  | [],_=>.nil
  | k::r,h=>by
    simp only [oW,Bool.and_eq_true,Bool.not_eq_true'] at h
    refine List.nodup_cons.2 ⟨fun hm=>?_,qD h.2⟩
    have:=List.any_eq_false.1 h.1 k hm
    rw [Nat.beq_refl] at this; exact this rfl
def qA (H:List aL) (ks:List Nat):Option (List aL):=bif oW ks then pick H ks else none
theorem jz {H R:List aL} {ks:List Nat} (h:qA H ks = some R):pick H ks = some R∧ks.Nodup:=by
  unfold qA at h
  cases hb:oW ks with
  | true=>rw [hb] at h; exact ⟨h,qD hb⟩
  | false=>rw [hb] at h; cases h
def vN (F:cC):cC→Option cC
  | []=>some []
  | (k,_)::r=>match lk F k with
    | some v=>match vN F r with
      | some l=>some ((k,v)::l)
      | none=>none
    | none=>none
theorem ox {F:cC}:∀{I:cC},vN F I = some I→Sub I F
  | [],_=>trivial
  | (k,u)::r,h=>by
    simp only [vN] at h
    split at h
    · rename_i v hv
      split at h
      · rename_i l hl
        simp only [Option.some.injEq,List.cons.injEq,Prod.mk.injEq,true_and] at h
        obtain ⟨h1,h2⟩:=h
        subst h1; subst h2
        exact ⟨hv,ox hl⟩
      · cases h
    · cases h
def o4 (F:cC):List Nat→Option cC
  | []=>some []
  | k::r=>match lk F k with
    | some v=>match o4 F r with
      | some l=>some ((k,v)::l)
      | none=>none
    | none=>none
theorem lf {F:cC}:∀{sl:List Nat} {K:cC},o4 F sl = some K→qh F sl K
  | [],K,h=>by obtain rfl:=Option.some.inj h; exact .nil
  | k::r,K,h=>by
    simp only [o4] at h
    split at h
    · rename_i v hv
      split at h
      · rename_i l hl
        obtain rfl:=Option.some.inj h
        exact .cons hv (lf hl)
      · cases h
    · cases h
section
variable {P:Program} {N:Nat} {c:Cx} {D:List Deferred} {Q:Exit→Act→World→Prop} {F:cC} {H:List aL} {d:Tmp} {op:Op} {ty:TypeId} {ps:String} {af:Array Edge} {g:Option (Nat × Bool)} {ops:Array Oper} {rest:List Oper} {α β:Type}
theorem W0 {H' : List aL} (h:RX (α:=Unit) P N c ⟨none,op,ty,ps,af,none⟩ F H (fun _=>True) (fun _=>undef) (fun _=>H')) (k:WL P N c D ops Q rest F H'):WL P N c D ops Q (⟨none,op,ty,ps,af,none⟩::rest) F H:=eU h fun _ _=>k
theorem W1 {fv:α→Value} {fH:α→List aL} (hd:Nat.blt d N = true) (h:RX P N c ⟨some d,op,ty,ps,af,none⟩ F H (fun _=>True) fv fH) (k:∀x,WL P N c D ops Q rest ((d,fv x)::F) (fH x)):WL P N c D ops Q (⟨some d,op,ty,ps,af,none⟩::rest) F H:=cu hd h fun x _=>k x
theorem CV {args:List Operand} {ats:Array TypeId} {f:Nat} {vs:List Value} {v:Value} {pre:World→Prop} (hc:wU P f vs pre v) (hd:Nat.blt d N = true) (ha:og F args = some vs) [q:Kn c H pre] (k:WL P N c D ops Q rest ((d,v)::F) H) :
    WL P N c D ops Q (⟨some d, .call ⟨.value (.func f),args.toArray,ats⟩,ty,ps,af,none⟩::rest) F H:=ah hd (bZ hc ha q.ok) k
theorem CB {args:List Operand} {ats:Array TypeId} {f:Nat} {vs:List Value} {K:World→Prop} {p:(World→Prop)→Value→Prop} (hc:tJ P f vs K p) (hd:Nat.blt d N = true) (ha:og F args = some vs) [q:Kn c H K]
    (k:∀v bs J,p (Hs [.ext bs J]) v→WL P N c D ops Q rest ((d,v)::F) (.ext bs J::H)) :
    WL P N c D ops Q (⟨some d, .call ⟨.value (.func f),args.toArray,ats⟩,ty,ps,af,none⟩::rest) F H:=cu hd (dy hc ha) fun x hp=>k x.1 x.2.1 x.2.2 hp
theorem jc {ρ:Type} {m1 m2:Option ρ} {r:ρ} {x:Operand} {y z:Code} {t:Bool} (h:cn t m1 m2 = some r) (hc:ev F x = some (.bool t)) (h1:t = true→m1 = some r→WP P N c D y Q F H) (h0:t = false→m2 = some r→WP P N c D z Q F H):WP P N c D (.cond x y z) Q F H:=
  gB hc (fun e=>h1 e (nC e h)) (fun e=>h0 e (nD e h))
structure Gy (n o:Nat) (cs vs cc:Vs):Prop where
  eq:bw cs o vs = cc
  lv:vs.length = n
  le:o + n ≤ cs.length
  one:hO vs
theorem Lf {L:aQ α} {M:aQ β} {o:Nat} {gg:α→β} {s:α→β→α} {cs vs:Vs} {x x' : α} {v:β} {C:World→Prop} (p:bf L M o gg s) (r:L.rep C cs x) (rv:M.rep C vs v) (e:x' = s x v):∃cc,Gy M.n o cs vs cc∧L.rep C cc x':=by
  subst e; exact ⟨_,⟨rfl,M.len rv,by rw [L.len r]; exact p.le,M.one rv⟩,p.set r rv⟩
theorem MH {o n m b t T:Nat} {y z:Operand} {val:Value} {cs cs' vs:Vs} {H' : List aL} {d:Option Tmp} (q:Gy n o cs vs cs') (hx:ev F y = some (Ptr b o)) (hz:ev F z = some val) (hv:val.cells.toList = vs) [jZ H b T cs] [y6 P t m] (hn:n = m) [qd H b cs' H'] :
    RX (α:=Unit) P N c ⟨d, .store t y z,ty,ps,af,g⟩ F H (fun _=>True) (fun _=>undef) (fun _=>H'):=by subst hn; exact lG hx hz hv q.lv q.le q.one q.eq
theorem ST {L:aQ α} {M:aQ β} {o m b t T:Nat} {gg:α→β} {s:α→β→α} {cs vs:Vs} {x:α} (x' : α) {v:β} {C:World→Prop} {y z:Operand} {val:Value} {H' : Vs→List aL} (p:bf L M o gg s) (r:L.rep C cs x) (rv:M.rep C vs v) (e:x' = s x v)
    (hx:ev F y = some (Ptr b o)) (hz:ev F z = some val) (hv:val.cells.toList = vs) [jZ H b T cs] [y6 P t m] (hn:M.n = m) [S:∀cc,qd H b cc (H' cc)] (k:∀cc,L.rep C cc x'→WL P N c D ops Q rest F (H' cc)) :
    WL P N c D ops Q (⟨none, .store t y z,ty,ps,af,none⟩::rest) F H:=by
  obtain ⟨cc,q,f⟩:=Lf p r rv e
  exact eU (MH q hx hz hv hn) fun _ _=>k cc f
theorem rn:jN P F H [] []:=.nil
theorem rt {t:Nat} {v:Value} {rs:List ResultVar} {vs:Vs} (hv:lk F t = some v) (h:jN P F H rs vs):jN P F H (.tmp t::rs) (v::vs):=.tmp hv h
theorem ra {t ty b T n:Nat} {cs:Vs} {rs:List ResultVar} {vs:Vs} (hv:lk F t = some (Ptr b 0)) [hr:jZ H b T cs] [ht:iw P ty n] (hl:cs.length = n) (h:jN P F H rs vs):jN P F H (.cell t ty::rs) (.agg cs.toArray::vs):=.agg hv hr ht hl h
theorem ro {t ty b T:Nat} {v:Value} {cs:Vs} {rs:List ResultVar} {vs:Vs} (hv:lk F t = some (Ptr b 0)) [hr:jZ H b T cs] [ht:jI P ty] (hl:cs = [v]) (h:jN P F H rs vs):jN P F H (.cell t ty::rs) (v::vs):=.one hv hr ht hl h
theorem RV {fn:Func} {rs:List ResultVar} {vs:Vs} {v:Value} (hf:fn.results.toList = rs) (hr:jN P F H rs vs) (hv:oR vs = v):WQ N c [] (Post P c fn (fun _:Unit=>True) (fun _=>v) (fun _=>[])) .ret F H:=cg () hf hr trivial hv (ks:=[]) rfl .nil
theorem pQ {fn:Func} {rs:List ResultVar} {vs:Vs} {R:List aL} {p:Value × List Nat × (World→Prop)→Prop} (ks:List Nat) (hk:qA H ks = some R) (hf:fn.results.toList = rs) (hr:jN P F H rs vs) (hp:p (oR vs,bz R,Hs R)) :
    WQ N c [] (Post P c fn p (fun x=>x.1) (fun x=>[.ext x.2.1 x.2.2])) .ret F H:=fun a w hst=>by
  show LeavesInM (FA none) 0 P fn a.tmps _ a.defers .returning w
  rw [hst.df]
  obtain ⟨h1,h2⟩:=jz hk
  exact ⟨_,nQ hf hst.fr hst.hp hr,(oR vs,bz R,Hs R),hp,rfl,hst.si,yx (H':=[]) (by rw [List.append_nil]; exact hst.hp.pick h1 h2)⟩
theorem LO {x:Code} (sl ks:List Nat) (I:Nat × β→cC) (J:Nat × β→List aL) (p:Nat × β→Prop) (i0:Nat × β) (zY:p i0) {K:cC} (hK:o4 F sl = some K) (hs:vN F (I i0) = some (I i0)) (hk:qA H ks = some (J i0))
    (hb:∀m y,p (m,y)→WP P N c D x (vE N c D Q sl K I J p (fun z=>z.1) (m,y)) (I (m,y)++K) (J (m,y))):WP P N c D (.loop x) Q F H:=
  mY sl (lf hK) I J p (fun z=>z.1) i0 zY (ox hs) (jz hk).1 (jz hk).2 fun i hi=>hb i.1 i.2 hi
theorem LN {K:cC} {sl:List Nat} {I:Nat × β→cC} {J:Nat × β→List aL} {p:Nat × β→Prop} {m:Nat} {y0:β} (ks:List Nat) (y:β) (hp:p (m,y)) (hs:vN F (I (m,y)) = some (I (m,y))) (hl:o4 F sl = some K) (hk:qA H ks = some (J (m,y))) :
    WQ N c D (vE N c D Q sl K I J p (fun z=>z.1) (m + 1,y0)) .normal F H:=mX (m,y) (Nat.lt_succ_self _) hp (ox hs) (lf hl) (jz hk).1 (jz hk).2
theorem CU {x y:Code} (sl:List Nat) {K:cC} (hK:o4 F sl = some K) (I:α→cC) (J:α→List aL) (p:α→Prop) (h1:WP P N c D x (AP N c D Q sl K I J p) F H) (h2:∀i,p i→WP P N c D y Q (I i++K) (J i)):WP P N c D (.seq x y) Q F H:=vy sl (lf hK) I J p h1 h2
theorem CE {K:cC} {sl:List Nat} {I:α→cC} {J:α→List aL} {p:α→Prop} (ks:List Nat) (i:α) (hp:p i) (hs:vN F (I i) = some (I i)) (hl:o4 F sl = some K) (hk:qA H ks = some (J i)):WQ N c D (AP N c D Q sl K I J p) .normal F H:=lP i hp (ox hs) (lf hl) (jz hk).1 (jz hk).2
end
def sn (T:Tb) (N:Nat) (ops:Array Oper):Nat→List Fl→cC→Option (List Fl × cC)
  | 0,l,F=>some (l,F)
  | n + 1,l,F=>match l with
    | (i,ks)::r=>match ops[i]? with
      | some ⟨some d,op,_,_,_,none⟩=>match sv T (iF F ks) op with
        | some v=>bif Nat.blt d N then sn T N ops n r ((d,v)::F) else none
        | none=>none
      | _=>none
    | []=>none
def sr (T:Tb) (ops:Array Oper) (F:cC):Nat→List Fl→Option (List Value × List Fl)
  | 0,l=>some ([],l)
  | n + 1,l=>match l with
    | (i,ks)::r=>match ops[i]? with
      | some ⟨some _,op,_,_,_,none⟩=>match sv T (iF F ks) op with
        | some v=>match sr T ops F n r with
          | some (vs,l')=>some (v::vs,l')
          | none=>none
        | none=>none
      | _=>none
    | []=>none
def sk (ops:Array Oper) (F:cC):Nat→List Fl→Option (List Value)
  | 0,_=>some []
  | n + 1,l=>match l with
    | (i,_)::r=>match ops[i]? with
      | some ⟨some d,_,_,_,_,none⟩=>match lk F d with
        | some v=>match sk ops F n r with
          | some vs=>some (v::vs)
          | none=>none
        | none=>none
      | _=>none
    | []=>none
section
variable {P:Program} {T:Tb} [hT:tE P T] {N:Nat} {c:Cx} {D:List Deferred} {ops:Array Oper} {Q:Exit→Act→World→Prop} {F F' : cC} {H:List aL} {l l' : List Fl}
theorem NS {K:cC→Prop} (n:Nat) (h:sn T N ops n l F = some (l',F')) (k:gQ P N c ops H l' F' K):gQ P N c ops H l F K:=by
  induction n generalizing l F with
  | zero=>cases h; exact k
  | succ n ih =>
    simp only [sn] at h
    split at h
    · rename_i i ks r
      split at h
      · rename_i d op _ _ _ ho
        split at h
        · rename_i v hv
          cases hd:Nat.blt d N with
          | false=>rw [hd] at h; cases h
          | true =>
            rw [hd] at h
            exact bx ho hd (kH rfl (w6 hv)) (ih h)
        · cases h
      · cases h
    · cases h
theorem NE {K:cC→Prop} (n:Nat) (h:sn T N ops n l F = some ([],F')) (k:K F'):gQ P N c ops H l F K:=NS n h k
theorem MI {vs:List Value} (n:Nat) (h:sr T ops F n l = some (vs,l')) (h2:sk ops F n l = some vs) (k:nM P N c ops F H l'):nM P N c ops F H l:=by
  induction n generalizing l vs with
  | zero=>simp only [sr,Option.some.injEq,Prod.mk.injEq] at h; rw [h.2]; exact k
  | succ n ih =>
    simp only [sr] at h
    simp only [sk] at h2
    split at h
    · rename_i i ks r
      split at h
      · rename_i d op _ _ _ ho
        dsimp only at h2
        rw [ho] at h2
        dsimp only at h2
        split at h
        · rename_i v hv
          split at h
          · rename_i us l2 h3
            simp only [Option.some.injEq,Prod.mk.injEq] at h
            obtain ⟨rfl,rfl⟩:=h
            split at h2
            · rename_i u hu
              split at h2
              · rename_i ws h4
                simp only [Option.some.injEq,List.cons.injEq] at h2
                obtain ⟨rfl,rfl⟩:=h2
                exact qT ho hu (kH rfl (w6 hv)) (ih h3 h4)
              · cases h2
            · cases h2
          · cases h
        · cases h
      · cases h
    · cases h
theorem RE {vs:List Value} (n:Nat) (h:sr T ops F n l = some (vs,[])) (h2:sk ops F n l = some vs):nM P N c ops F H l:=MI n h h2 trivial
end
section
variable {P:Program} {N:Nat} {c:Cx} {D:List Deferred} {ops:Array Oper} {Q:Exit→Act→World→Prop} {F:cC} {H:List aL} {i:Nat} {ks:List Nat} {q:List Fl} {d:Nat} {v v' : Value} {op:Op} {ty:TypeId} {ps:String} {af:Array Edge} {g:Option (Nat × Bool)} {α:Type}
theorem NV {K:cC→Prop} (ho:ops[i]? = some ⟨some d,op,ty,ps,af,none⟩) (hN:Nat.blt d N = true) (hv:VS P N c ⟨some d,op,ty,ps,af,none⟩ (iF F ks) H v) (hr:gQ P N c ops H q ((d,v)::F) K):gQ P N c ops H ((i,ks)::q) F K:=bx ho hN (kH rfl hv) hr
theorem NC {K:cC→Prop} {args:List Operand} {ats:Array TypeId} {f:Nat} {vs:List Value} {pre:World→Prop} (ho:ops[i]? = some ⟨some d, .call ⟨.value (.func f),args.toArray,ats⟩,ty,ps,af,none⟩) (hN:Nat.blt d N = true) (hc:wU P f vs pre v) (ha:og (iF F ks) args = some vs) [k:Kn c H pre] (hr:gQ P N c ops H q ((d,v)::F) K):gQ P N c ops H ((i,ks)::q) F K:=bx ho hN (kH rfl (bZ hc ha k.ok)) hr
theorem NG {K:cC→Prop} {b:Bool} (ho:ops[i]? = some ⟨some d,op,ty,ps,af,g⟩) (hN:Nat.blt d N = true) (hg:Gd ops (iF F ks) g b) (hv:b = true→VS P N c ⟨some d,op,ty,ps,af,g⟩ (iF F ks) H v) (hr:gQ P N c ops H q ((d,bif b then v else undef)::F) K):gQ P N c ops H ((i,ks)::q) F K:=bx ho hN (nJ hg hv) hr
theorem T0 {new:List Fl} {t:Tr} (h:gQ P N c ops H new F fun F'=>nL P N c D ops Q t F' H):nL P N c D ops Q (.oQ [] new t) F H:=⟨trivial,h⟩
theorem KR {t:Tr} (h:nL P N c D ops Q t F H):nL P N c D ops Q (.oQ [] [] t) F H:=⟨trivial,h⟩
theorem AO (h:WQ N c D Q .normal F H):nL P N c D ops Q (.fin [] []) F H:=⟨trivial,h⟩
theorem X0 {s:Nat} {here:Tr} {fH:List aL} (ho:ops[s]? = some ⟨none,op,ty,ps,af,none⟩) (hv:RX (α:=Unit) P N c ⟨none,op,ty,ps,af,none⟩ (iF F ks) H (fun _=>True) (fun _=>undef) (fun _=>fH)) (h:nL P N c D ops Q here F fH):nL P N c D ops Q (.alt s ks here .no) F H:=yO ho (AI rfl hv) (fun _ _=>h) trivial
theorem XV {s:Nat} {here:Tr} (ho:ops[s]? = some ⟨some d,op,ty,ps,af,none⟩) (hN:Nat.blt d N = true) (hv:VS P N c ⟨some d,op,ty,ps,af,none⟩ (iF F ks) H v) (h:nL P N c D ops Q here ((d,v)::F) H):nL P N c D ops Q (.alt s ks here .no) F H:=pK ho hN (AI rfl hv.rx) (fun _ _=>h) trivial
theorem GB {rest:List Oper} {j k:Nat} {want b:Bool} (hd:(ops[j]?).bind (·.dst) = some k) (hl:lk F k = some (.bool b)) (hN:Nat.blt d N = true) (hv:(b == want) = true→VS P N c ⟨some d,op,ty,ps,af,some (j,want)⟩ F H v)
    (h:WL P N c D ops Q rest ((d,bif (b == want) then v else undef)::F) H):WL P N c D ops Q (⟨some d,op,ty,ps,af,some (j,want)⟩::rest) F H:=cI (di hd hl) hN hv h
end
theorem fo {α:Type} {P:Program} {f:Nat} {fn:Func} {code:Code} {N:Nat} {args:Vs} {K:World→Prop} [S:bT K] {p:α→Prop} {fv:α→Value} {fH:α→List aL} (hf:P.funcs[f]? = some fn) (hname:(fn.name == "runtime.NumGoroutine") = false) (hb:fn.body = some code) (hN:fn.ntmps = N) (ha:Nat.ble args.length N = true)
    (h:∀c:Cx,(∀R,vF c R K)→c.ro = none→c.bs = []→K c.w0→WP P N c [] code (Post P c fn p fv fH) (uA 0 args) []):Fn P f args K [] p fv fH:=
  eF hf hname hb hN ha fun c cU hpre hro=>h c (kB cU hpre) hro cU hpre
end Go.Bw
namespace Go.Proofs.Ytbalnnoofdkbaaa
open Go Go.Bw
def tb:Tb:=⟨[(7,[(0,0),(1,1),(2,2),(3,3)]),(8,[(0,0),(1,1),(2,2),(3,3)]),(13,[(0,0),(1,1)]),(14,[(0,0),(1,1)]),(18,[(0,0)]),(19,[(0,0)]),(25,[(0,0),(1,1),(2,2)]),(26,[(0,0),(1,1),(2,2)]),(28,[(0,0)]),(29,[(0,0)]),(30,[(0,0)]),(31,[(0,0)]),(34,[(0,0),(1,1)]),(35,[(0,0),(1,1)]),(37,[(0,0),(1,1),(2,2),(3,4)]),(38,[(0,0),(1,1),(2,2),(3,4)]),(40,[(0,0),(1,96)]),(41,[(0,0),(1,96)]),(43,[(0,0),(1,32)]),(44,[(0,0),(1,32)]),(46,[(0,0),(1,1)]),(47,[(0,0),(1,1)]),(49,[(0,0),(1,1),(2,2),(3,4)]),(50,[(0,0),(1,1),(2,2),(3,4)]),(52,[(0,0),(1,64)]),(53,[(0,0),(1,64)]),(54,[(0,0),(1,1),(2,2),(3,3),(4,4)]),(55,[(0,0),(1,1),(2,2),(3,3),(4,4)]),(123,[(0,0),(1,1)]),(124,[(0,0),(1,1)]),(137,[(0,0)]),(138,[(0,0)]),(156,[(0,0),(1,1),(2,2),(3,3)]),(157,[(0,0),(1,1),(2,2),(3,3)]),(167,[(0,0),(1,1),(2,2),(3,3),(4,4),(5,5),(6,6),(7,7),(8,8),(9,9),(10,10)]),(168,[(0,0),(1,1),(2,2),(3,3),(4,4),(5,5),(6,6),(7,7),(8,8),(9,9),(10,10)])],[(2, .i64),(3, .i64),(5, .u8),(6, .u8),(12, .u64),(21, .i32),(23, .u32),(32, .u32),(57, .i64),(122, .u64),(161, .u8),(162, .u8),(165, .i32),(166, .i32)]⟩
instance:tE Try.prog tb:=⟨by kernel_rfl⟩
end Go.Proofs.Ytbalnnoofdkbaaa
