/- Part 1 of what a proof leans on; pruned and shortened by a program out of longer texts. -/
import Derived.RangeFuncNested
import Derived.RangeFuncBound
import Derived.RangeFuncCalls
import Derived.RangeFuncLeaves
import Derived.WalkKit
import Derived.TacticsIn
import Derived.KernelRfl
import Derived.OrdersIn
import Derived.Laws.AppendOwn
import Derived.Laws.StructEq
import Derived.Deep.Upon
import Derived.Test.YtmdpbdhkmfjlhaaProg
import Derived.Laws.CopyRow
import Derived.Laws.Cover3
import Derived.LoopNIn
import Derived.Great.BuildSlice
import Derived.ArgAppend
import Derived.Maps.RangeRun
import Derived.MapKept
import Derived.Carry
import Derived.ProofKit
import Derived.OpenShut
import Derived.ShutString
import Derived.ChangeOld
import Derived.Below
import Derived.Deep.Slices
import Derived.ChangeKeysEq
import Derived.Laws.Pointers
namespace Go.Bw
open Go Go.RowKit
abbrev FA (ro:Option Nat):Fence:={ fn:=fun _=>True,depth:=none,alive:=false,round:=ro }
abbrev cv:=List (Nat × Value)
def lk:cv→Nat→Option Value
  | [],_=>none
  | (k,v)::r,d=>bif Nat.beq k d then some v else lk r d
def ev (F:cv):Operand→Option Value
  | .tmp t=>lk F t
  | .const v=>some v
  | .global g=>some (.pointer (some ⟨g,0,none⟩))
  | .func f=>some (.func (.func f) #[] #[])
def k7 (F:cv) (t:Array Value):Prop:=∀d v,lk F d = some v→t[d]? = some v
theorem aV {F:cv} {a:Act} (h:k7 F a.tmps) {x:Operand} {v:Value} (hx:ev F x = some v):a.eval x = v:=by
  cases x with
  | tmp t=>have:=h t v hx; simp [Act.eval,this]
  | const u=>exact Option.some.inj hx
  | global g=>exact Option.some.inj hx
  | func f=>exact Option.some.inj hx
def nx (F:cv):List Operand→Option (List Value)
  | []=>some []
  | x::r=>match ev F x,nx F r with
    | some v,some vs=>some (v::vs)
    | _,_=>none
theorem o4 {F:cv} {a:Act} (h:k7 F a.tmps):∀{l:List Operand} {vs:List Value},nx F l = some vs→l.map a.eval = vs:=by
  intro l
  induction l with
  | nil=>intro vs hl; exact (Option.some.inj hl)
  | cons x l ih =>
    intro vs hl
    simp only [nx] at hl
    split at hl
    · rename_i v us h1 h2
      rw [← Option.some.inj hl]
      simp [aV h h1,ih h2]
    · cases hl
theorem jq {d k:Nat} (e:¬ d = k):Nat.beq d k = false:=by
  cases hb:Nat.beq d k with
  | false=>rfl
  | true=>exact absurd (Nat.eq_of_beq_eq_true hb) e
def pt (d:Option Tmp) (v:Value) (F:cv):cv:=match d with
  | some d=>(d,v)::F
  | none=>F
def DQ (N:Nat) (d:Option Tmp):Bool:=match d with
  | some d=>Nat.blt d N
  | none=>true
theorem k7.put {F:cv} {a:Act} {d:Option Tmp} {v:Value} {N:Nat} (h:k7 F a.tmps) (hs:a.tmps.size = N) (hd:DQ N d = true) :
    k7 (pt d v F) (a.put d v).tmps:=by
  cases d with
  | none=>exact h
  | some d =>
    intro k u hk
    simp only [pt,lk] at hk
    have hd' : d < a.tmps.size:=by simpa [DQ,hs,Nat.blt_eq] using hd
    by_cases e:d = k
    · subst e
      simp at hk; subst hk
      simp [Act.put,hd']
    · have:Nat.beq d k = false:=jq e
      rw [this] at hk
      simp only [cond_false] at hk
      simp only [Act.put,Array.getElem?_setIfInBounds,if_neg e]
      exact h k u hk
theorem k7.sub {F F' : cv} {t:Array Value} (h:k7 F t) (hs:∀d v,lk F' d = some v→lk F d = some v):k7 F' t:=fun d v hk=>h d v (hs d v hk)
def Sub:cv→cv→Prop
  | [],_=>True
  | p::r,F=>lk F p.1 = some p.2∧Sub r F
theorem Sub.lk {F' F:cv} (h:Sub F' F):∀d v,lk F' d = some v→lk F d = some v:=by
  induction F' with
  | nil=>intro d v hk; simp [Bw.lk] at hk
  | cons p r ih =>
    intro d v hk
    obtain ⟨h1,h2⟩:=h
    simp only [Bw.lk] at hk
    by_cases e:p.1 = d
    · subst e; simp at hk; subst hk; exact h1
    · have:Nat.beq p.1 d = false:=jq e
      rw [this] at hk
      exact ih h2 d v hk
structure aR (bs:List Nat) (w0 w:World):Prop where
  os:w.os = w0.os
  tape:w.tape = w0.tape
  output:w.output = w0.output
  size:w0.heap.size ≤ w.heap.size
  block:∀k,k < w0.heap.size→k ∉ bs→w.heap[k]? = w0.heap[k]?
theorem aR.refl (bs:List Nat) (w:World):aR bs w w:=⟨rfl,rfl,rfl,Nat.le_refl _,fun _ _ _=>rfl⟩
theorem aR.trans {bs bs' : List Nat} {w0 w w' : World} (h:aR bs w0 w) (k:aR bs' w w') (hb:∀b ∈ bs',b ∈ bs∨w0.heap.size ≤ b):aR bs w0 w':=
  ⟨k.os.trans h.os,k.tape.trans h.tape,k.output.trans h.output,Nat.le_trans h.size k.size,
   fun i hi hn=>(k.block i (Nat.lt_of_lt_of_le hi h.size) (fun hm=>by
     rcases hb i hm with h1 | h1
     · exact hn h1
     · omega)).trans (h.block i hi hn)⟩
theorem aR.ext {bs:List Nat} {w0 w w' : World} (h:aR bs w0 w) (k:aR [] w w'):aR bs w0 w':=h.trans k (fun _ hb=>by cases hb)
theorem aR.below {w0 w:World} (h:aR [] w0 w):Below w0.heap.size w0 w:=⟨h.os,h.tape,h.output,h.size,fun k hk=>h.block k hk (by simp)⟩
theorem aR.xy {w w' : World} {row:Option Nat} (h:w.grownBy w' row):aR row.toList w w':=
  ⟨h.os,h.tape,h.output,h.size,fun k hk hn=>h.block k hk (fun e=>hn (by rw [← e]; simp))⟩
theorem aR.alloc (w:World) (o:Obj):aR [] w (w.alloc o):=⟨rfl,rfl,rfl,by simp,fun k hk _=>Below.heap_alloc w o k hk⟩
theorem aR.drawn {w0 w:World} {bs:List Nat} (h:aR bs w0 w) (n:Nat):aR bs w0 { w with drawn:=n }:=⟨h.os,h.tape,h.output,h.size,h.block⟩
def Ro (w:World) (v:Value) (sz n:Nat) (xs:List Value):Prop:=
  xs.length = n * sz∧(((∃a cp,v = .slice a 0 cp)∧n = 0)∨∃g off cap,v = .slice (some ⟨g,off,none⟩) n cap∧g < w.heap.size∧n ≤ cap∧∀(j:Nat) u,xs[j]? = some u→w.cell? ⟨g,off + j,none⟩ = some u)
inductive aF where
  | cells (b:Nat) (t:TypeId) (cs:List Value)
  | row (v:Value) (e:TypeId) (sz:Nat) (n:Nat) (xs:List Value)
  | obj (b:Nat) (o:Obj)
  | sl (v:Value) (sz n:Nat) (xs:List Value)
  | ext (bs:List Nat) (J:World→Prop)
def aF.fG:aF→List Nat
  | .cells b _ _=>[b]
  | .row v _ _ _ _=>v.ownBlock.toList
  | .obj b _=>[b]
  | .sl v _ _ _=>v.ownBlock.toList
  | .ext bs _=>bs
def aF.holds (w:World):aF→Prop
  | .cells b t cs=>w.heap[b]? = some (.cells cs.toArray t (0,0))
  | .row v e sz n xs=>w.ownsRow 0 e sz v n xs
  | .obj b o=>w.heap[b]? = some o
  | .sl v sz n xs=>Ro w v sz n xs
  | .ext bs J=>∀w' : World,w.heap.size ≤ w'.heap.size→(∀b ∈ bs,w'.heap[b]? = w.heap[b]?)→J w'
def aF.apart (r s:aF):Prop:=∀b,b ∈ r.fG→b ∉ s.fG
theorem aF.g8 {r s:aF} (h:r.apart s):s.apart r:=fun b hs hr=>h b hr hs
theorem qQ {w w' : World} {base:Nat} {e:TypeId} {sz:Nat} {v:Value} {n:Nat} {xs:List Value} (h:w.ownsRow base e sz v n xs)
    (hb:∀b,v.ownBlock = some b→w'.heap[b]? = w.heap[b]?):w'.ownsRow base e sz v n xs:=by
  refine ⟨h.1,?_⟩
  rcases h.2 with hn | ⟨g,cap,cur,rfl,MF,x3,rest⟩
  · exact .inl hn
  · exact .inr ⟨g,cap,cur,rfl,MF,(hb g rfl).trans x3,rest⟩
theorem Ro.same {w w' : World} {v:Value} {sz n:Nat} {xs:List Value} (h:Ro w v sz n xs) (hs:w.heap.size ≤ w'.heap.size) (hb:∀b,v.ownBlock = some b→w'.heap[b]? = w.heap[b]?):Ro w' v sz n xs:=by
  refine ⟨h.1,?_⟩
  rcases h.2 with h0 | ⟨g,off,cap,rfl,h2,h3,h4⟩
  · exact .inl h0
  · exact .inr ⟨g,off,cap,rfl,Nat.lt_of_lt_of_le h2 hs,h3,fun j u hu=>(World.cell?_of_block (hb g rfl)).trans (h4 j u hu)⟩
theorem aF.jg {w w' : World} {r:aF} (h:r.holds w) (hs:w.heap.size ≤ w'.heap.size) (hb:∀b,b ∈ r.fG→w'.heap[b]? = w.heap[b]?):r.holds w':=by
  cases r with
  | cells b t cs=>exact (hb b (by simp [aF.fG])).trans h
  | row v e sz n xs=>exact qQ h fun b hv=>hb b (by simp [aF.fG,hv])
  | obj b o=>exact (hb b (by simp [aF.fG])).trans h
  | sl v sz n xs=>exact Ro.same h hs fun b hv=>hb b (by simp [aF.fG,hv])
  | ext bs J=>exact fun w2 h1 h2=>h w2 (Nat.le_trans hs h1) fun b hm=>(h2 b hm).trans (hb b hm)
structure bB (bs:List Nat) (n0:Nat) (H:List aF) (w:World):Prop where
  holds:∀r ∈ H,r.holds w
  own:∀r ∈ H,∀b,b ∈ r.fG→(b ∈ bs∨n0 ≤ b)∧b < w.heap.size
  apart:H.Pairwise aF.apart
theorem bB.nil (bs:List Nat) (n0:Nat) (w:World):bB bs n0 [] w:=⟨by simp,by simp, .nil⟩
theorem bB.same {bs bs' : List Nat} {n0 Ky:Nat} {H:List aF} {w w' : World} (h:bB bs n0 H w) (hs:w.heap.size ≤ w'.heap.size)
    (hb:∀r ∈ H,∀b,b ∈ r.fG→w'.heap[b]? = w.heap[b]?) (hw:∀b,(b ∈ bs∨n0 ≤ b)→b < w.heap.size→(b ∈ bs'∨Ky ≤ b)):bB bs' Ky H w':=
  ⟨fun r hr=>aF.jg (h.holds r hr) hs (hb r hr),fun r hr b hb'=>let ⟨o,l⟩:=h.own r hr b hb'; ⟨hw b o l,Nat.lt_of_lt_of_le l hs⟩,h.apart⟩
theorem bB.ext {bs:List Nat} {n0:Nat} {H:List aF} {w w' : World} (h:bB bs n0 H w) (hs:aR [] w w'):bB bs n0 H w':=
  h.same hs.size (fun r hr b hb=>hs.block b (h.own r hr b hb).2 (by simp)) (fun _ o _=>o)
theorem bB.cons {bs:List Nat} {n0:Nat} {H:List aF} {w:World} {r:aF} (h:bB bs n0 H w) (hr:r.holds w)
    (ho:∀b,b ∈ r.fG→(b ∈ bs∨n0 ≤ b)∧b < w.heap.size) (ha:∀s ∈ H,r.apart s):bB bs n0 (r::H) w:=
  ⟨fun s hs=>by cases hs with | head=>exact hr | tail _ hm=>exact h.holds s hm,
   fun s hs=>by cases hs with | head=>exact ho | tail _ hm=>exact h.own s hm,
   .cons ha h.apart⟩
theorem bB.fresh {bs:List Nat} {n0:Nat} {H:List aF} {w w' : World} {r:aF} (h:bB bs n0 H w) (hs:aR [] w w') (hr:r.holds w')
    (hn:n0 ≤ w.heap.size) (ho:∀b,b ∈ r.fG→w.heap.size ≤ b∧b < w'.heap.size):bB bs n0 (r::H) w':=
  (h.ext hs).cons hr (fun b hb=>⟨.inr (Nat.le_trans hn (ho b hb).1),(ho b hb).2⟩)
    (fun s hm b hb zT=>by have:=(h.own s hm b zT).2; have:=(ho b hb).1; omega)
theorem bB.sub {bs:List Nat} {n0:Nat} {H H' : List aF} {w:World} (h:bB bs n0 H w) (hs:H'.Sublist H):bB bs n0 H' w:=
  ⟨fun r hr=>h.holds r (hs.subset hr),fun r hr=>h.own r (hs.subset hr),h.apart.sublist hs⟩
theorem gS {H:List aF} (h:H.Pairwise aF.apart) {j k:Nat} {r s:aF} (hj:H[j]? = some r) (hk:H[k]? = some s) (hne:j ≠ k):r.apart s:=by
  obtain ⟨lj,rfl⟩:=List.getElem?_eq_some_iff.1 hj
  obtain ⟨lk,rfl⟩:=List.getElem?_eq_some_iff.1 hk
  rcases Nat.lt_or_ge j k with hlt | hge
  · exact List.pairwise_iff_getElem.1 h j k lj lk hlt
  · exact aF.g8 (List.pairwise_iff_getElem.1 h k j lk lj (by omega))
theorem bB.set {bs:List Nat} {n0:Nat} {H:List aF} {w w' : World} (h:bB bs n0 H w) {k:Nat} {r r' : aF} (hk:H[k]? = some r)
    (hs:w.heap.size ≤ w'.heap.size) (hb:∀j,j < w.heap.size→j ∉ r.fG→w'.heap[j]? = w.heap[j]?) (hr:r'.holds w') (hn:n0 ≤ w.heap.size)
    (ho:∀b,b ∈ r'.fG→(b ∈ r.fG∨w.heap.size ≤ b)∧b < w'.heap.size):bB bs n0 (H.set k r') w':=by
  have hmem:r ∈ H:=List.mem_of_getElem? hk
  refine ⟨fun s hm=>?_,fun s hm b cX=>?_,?_⟩
  · obtain ⟨j,hj⟩:=List.mem_iff_getElem?.1 hm
    rw [List.getElem?_set] at hj
    by_cases e:k = j
    · subst e
      have hl:=(List.getElem?_eq_some_iff.1 hk).1
      simp [hl] at hj; subst hj; exact hr
    · simp [e] at hj
      refine aF.jg (h.holds s (List.mem_of_getElem? hj)) hs (fun b KT=>hb b (h.own s (List.mem_of_getElem? hj) b KT).2 (fun hrb=>?_))
      exact gS h.apart hk hj e b hrb KT
  · obtain ⟨j,hj⟩:=List.mem_iff_getElem?.1 hm
    rw [List.getElem?_set] at hj
    by_cases e:k = j
    · subst e
      have hl:=(List.getElem?_eq_some_iff.1 hk).1
      simp [hl] at hj; subst hj
      obtain ⟨h1,h2⟩:=ho b cX
      refine ⟨?_,h2⟩
      rcases h1 with h1 | h1
      · exact (h.own r hmem b h1).1
      · exact .inr (Nat.le_trans hn h1)
    · simp [e] at hj
      obtain ⟨h1,h2⟩:=h.own s (List.mem_of_getElem? hj) b cX
      exact ⟨h1,Nat.lt_of_lt_of_le h2 hs⟩
  · rw [List.pairwise_iff_getElem]
    intro i j hi hj hij
    have hl:=(List.getElem?_eq_some_iff.1 hk).1
    have key:∀j s,H[j]? = some s→k ≠ j→r'.apart s:=fun j s KO hne b hrb zT=>by
      have h2:=(h.own s (List.mem_of_getElem? KO) b zT).2
      rcases (ho b hrb).1 with h1 | h1
      · exact gS h.apart hk KO hne b h1 zT
      · omega
    rw [List.length_set] at hi hj
    rw [List.getElem_set,List.getElem_set]
    by_cases e1:k = i
    · rw [if_pos e1,if_neg (by omega)]
      exact key j _ (List.getElem?_eq_getElem hj) (by omega)
    · rw [if_neg e1]
      by_cases e2:k = j
      · rw [if_pos e2]
        exact aF.g8 (key i _ (List.getElem?_eq_getElem hi) (by omega))
      · rw [if_neg e2]
        exact List.pairwise_iff_getElem.1 h.apart i j hi hj hij
theorem bB.w6 {bs:List Nat} {n0:Nat} {H:List aF} {w:World} (h:bB bs n0 H w) {k:Nat} {r r' : aF} (hk:H[k]? = some r) (hr:∀w:World,r.holds w→r'.holds w) (hb:∀b,b ∈ r'.fG→b ∈ r.fG):bB bs n0 (H.set k r') w:=by
  have hmem:r ∈ H:=List.mem_of_getElem? hk
  have hl:=(List.getElem?_eq_some_iff.1 hk).1
  have get:∀s ∈ H.set k r',(s = r'∨∃j,j ≠ k∧H[j]? = some s):=fun s hs=>by
    obtain ⟨j,hj⟩:=List.mem_iff_getElem?.1 hs
    rw [List.getElem?_set] at hj
    by_cases e:k = j
    · subst e; simp [hl] at hj; exact .inl hj.symm
    · simp [e] at hj; exact .inr ⟨j,Ne.symm e,hj⟩
  refine ⟨fun s hs=>?_,fun s hs b cX=>?_,?_⟩
  · rcases get s hs with rfl | ⟨j,_,hj⟩
    · exact hr w (h.holds r hmem)
    · exact h.holds s (List.mem_of_getElem? hj)
  · rcases get s hs with rfl | ⟨j,_,hj⟩
    · exact h.own r hmem b (hb b cX)
    · exact h.own s (List.mem_of_getElem? hj) b cX
  · rw [List.pairwise_iff_getElem]
    intro i j hi hj hij
    rw [List.length_set] at hi hj
    rw [List.getElem_set,List.getElem_set]
    by_cases e1:k = i
    · rw [if_pos e1,if_neg (by omega)]
      exact fun b JF CM=>gS h.apart hk (List.getElem?_eq_getElem hj) (by omega) b (hb b JF) CM
    · rw [if_neg e1]
      by_cases e2:k = j
      · rw [if_pos e2]
        exact fun b JF CM=>gS h.apart (List.getElem?_eq_getElem hi) hk (by omega) b JF (hb b CM)
      · rw [if_neg e2]
        exact List.pairwise_iff_getElem.1 h.apart i j hi hj hij
def pick (H:List aF):List Nat→Option (List aF)
  | []=>some []
  | k::ks=>match H[k]?,pick H ks with
    | some r,some l=>some (r::l)
    | _,_=>none
theorem jQ {H:List aF}:∀{ks:List Nat} {l:List aF},pick H ks = some l→∀(j:Nat) (r:aF),l[j]? = some r→∃k:Nat,ks[j]? = some k∧H[k]? = some r:=by
  intro ks
  induction ks with
  | nil=>intro l h j r hj; simp [pick] at h; subst h; simp at hj
  | cons k ks ih =>
    intro l h j r hj
    simp only [pick] at h
    split at h
    · rename_i r0 l0 h1 h2
      simp at h; subst h
      cases j with
      | zero=>simp at hj; subst hj; exact ⟨k,rfl,h1⟩
      | succ j=>obtain ⟨k',e1,e2⟩:=ih h2 j r (by simpa using hj); exact ⟨k',by simpa using e1,e2⟩
    · cases h
theorem bB.pick {bs:List Nat} {n0:Nat} {H l:List aF} {w:World} (h:bB bs n0 H w) {ks:List Nat} (hp:pick H ks = some l) (hn:ks.Nodup):bB bs n0 l w:=by
  refine ⟨fun r hr=>?_,fun r hr=>?_,?_⟩
  · obtain ⟨j,hj⟩:=List.mem_iff_getElem?.1 hr
    obtain ⟨k,_,e⟩:=jQ hp j r hj
    exact h.holds r (List.mem_of_getElem? e)
  · obtain ⟨j,hj⟩:=List.mem_iff_getElem?.1 hr
    obtain ⟨k,_,e⟩:=jQ hp j r hj
    exact h.own r (List.mem_of_getElem? e)
  · rw [List.pairwise_iff_getElem]
    intro i j hi hj hij
    obtain ⟨k1,e1,f1⟩:=jQ hp i _ (List.getElem?_eq_getElem hi)
    obtain ⟨k2,e2,f2⟩:=jQ hp j _ (List.getElem?_eq_getElem hj)
    refine gS h.apart f1 f2 (fun e=>?_)
    subst e
    obtain ⟨l1,q1⟩:=List.getElem?_eq_some_iff.1 e1
    obtain ⟨l2,q2⟩:=List.getElem?_eq_some_iff.1 e2
    exact absurd (q1.trans q2.symm) (by
      intro hq
      exact (List.pairwise_iff_getElem.1 hn i j l1 l2 hij) hq)
structure Cx where
  ro:Option Nat
  w0:World
  bs:List Nat
structure St (N:Nat) (c:Cx) (D:List Deferred) (F:cv) (H:List aF) (a:Act) (w:World):Prop where
  tm:a.tmps.size = N
  fr:k7 F a.tmps
  df:a.defers = D
  si:aR c.bs c.w0 w
  hp:bB c.bs c.w0.heap.size H w
theorem St.sub {N:Nat} {c:Cx} {D:List Deferred} {F F' : cv} {H:List aF} {a:Act} {w:World} (h:St N c D F H a w) (hs:∀d v,lk F' d = some v→lk F d = some v):St N c D F' H a w:=
  ⟨h.tm,h.fr.sub hs,h.df,h.si,h.hp⟩
theorem St.put {N:Nat} {c:Cx} {D:List Deferred} {F:cv} {H H' : List aF} {a:Act} {w w' : World} {d:Option Tmp} {v:Value} (h:St N c D F H a w) (hd:DQ N d = true)
    (hs:aR c.bs c.w0 w') (hp:bB c.bs c.w0.heap.size H' w'):St N c D (pt d v F) H' (a.put d v) w':=by
  refine ⟨?_,h.fr.put h.tm hd,?_,hs,hp⟩
  · cases d <;> simp [Act.put,h.tm]
  · cases d <;> simp [Act.put,h.df]
def WP (P:Program) (N:Nat) (c:Cx) (D:List Deferred) (code:Code) (Q:Exit→Act→World→Prop) (F:cv) (H:List aF):Prop:=
  ∀a w,St N c D F H a w→code.wpIn (FA c.ro) 0 P Q a w
def WQ (N:Nat) (c:Cx) (D:List Deferred) (Q:Exit→Act→World→Prop) (e:Exit) (F:cv) (H:List aF):Prop:=
  ∀a w,St N c D F H a w→Q e a w
def WL (P:Program) (N:Nat) (c:Cx) (D:List Deferred) (ops:Array Oper) (Q:Exit→Act→World→Prop) (l:List Oper) (F:cv) (H:List aF):Prop:=
  ∀a w,St N c D F H a w→wpListIn (FA c.ro) 0 P ops Q l a w
def VS (P:Program) (N:Nat) (c:Cx) (o:Oper) (F:cv) (H:List aF) (v:Value):Prop:=
  ∀D a w next Q,St N c D F H a w→(∀w',aR [] w w'→next (a.put o.dst v) w')→o.wpIn (FA c.ro) 0 P a w next Q
def RX {α:Type} (P:Program) (N:Nat) (c:Cx) (o:Oper) (F:cv) (H:List aF) (p:α→Prop) (fv:α→Value) (fH:α→List aF):Prop:=
  ∀D a w next Q,St N c D F H a w→(∀x w',p x→aR c.bs c.w0 w'→bB c.bs c.w0.heap.size (fH x) w'→next (a.put o.dst (fv x)) w')→o.wpIn (FA c.ro) 0 P a w next Q
theorem VS.rx {P:Program} {N:Nat} {c:Cx} {o:Oper} {F:cv} {H:List aF} {v:Value} (h:VS P N c o F H v):RX (α:=Unit) P N c o F H (fun _=>True) (fun _=>v) (fun _=>H):=
  fun D a w next Q hst hk=>h D a w next Q hst fun w' hw=>hk () w' trivial (hst.si.ext hw) (hst.hp.ext hw)
theorem eT {P:Program} {c:Cx} {o:Oper} {a:Act} {w w' : World} {v:Value} {next:Act→World→Prop} {Q:Exit→Act→World→Prop} (hd:∀cc,o.op ≠ .defer cc)
    (hr:(execOp a.eval o).run P w = .ok (.value v) w') (hk:next (a.put o.dst v) w'):o.wpIn (FA c.ro) 0 P a w next Q:=by
  refine ⟨fun _ _=>trivial,?_⟩
  have:Oper.semAt (FA c.ro).round a.eval o = execOp a.eval o:=Oper.semAt_eq _ _ _ hd
  rw [this,hr]
  exact hk
theorem ld {P:Program} {c:Cx} {o:Oper} {a:Act} {w w' : World} {next:Act→World→Prop} {Q:Exit→Act→World→Prop} (hd:∀cc,o.op ≠ .defer cc)
    (hr:(execOp a.eval o).run P w = .ok .skip w') (hk:next (a.put o.dst undef) w'):o.wpIn (FA c.ro) 0 P a w next Q:=by
  refine ⟨fun _ _=>trivial,?_⟩
  have:Oper.semAt (FA c.ro).round a.eval o = execOp a.eval o:=Oper.semAt_eq _ _ _ hd
  rw [this,hr]
  exact hk
theorem aN {P:Program} {N:Nat} {c:Cx} {o:Oper} {F:cv} {H:List aF} {v:Value} (hd:∀cc,o.op ≠ .defer cc)
    (h:∀(a:Act) (w:World),k7 F a.tmps→aR c.bs c.w0 w→bB c.bs c.w0.heap.size H w→(execOp a.eval o).run P w = .ok (.value v) w):VS P N c o F H v:=
  fun _ a w _ _ hst hk=>eT hd (h a w hst.fr hst.si hst.hp) (hk w (aR.refl _ _))
section lists
variable {P:Program} {N:Nat} {c:Cx} {D:List Deferred} {ops:Array Oper} {Q:Exit→Act→World→Prop} {o:Oper} {rest:List Oper} {F:cv} {H:List aF}
  {d:Tmp} {op:Op} {ty:TypeId} {ps:String} {af:Array Edge} {g:Option (Nat × Bool)}
theorem rL (h:WQ N c D Q .normal F H):WL P N c D ops Q [] F H:=fun a w hst=>h a w hst
theorem au {v:Value} (hd:Nat.blt d N = true) (hv:VS P N c ⟨some d,op,ty,ps,af,none⟩ F H v) (h:WL P N c D ops Q rest ((d,v)::F) H):WL P N c D ops Q (⟨some d,op,ty,ps,af,none⟩::rest) F H:=
  fun a w hst=>wpListIn_plain rfl fun K hK=>hv D a w K Q hst fun _ hw=>hK _ _ (h _ _ (hst.put (d:=some d) hd (hst.si.ext hw) (hst.hp.ext hw)))
theorem ef {α:Type} {p:α→Prop} {fv:α→Value} {fH:α→List aF} (hd:Nat.blt d N = true) (hv:RX P N c ⟨some d,op,ty,ps,af,none⟩ F H p fv fH)
    (h:∀x,p x→WL P N c D ops Q rest ((d,fv x)::F) (fH x)):WL P N c D ops Q (⟨some d,op,ty,ps,af,none⟩::rest) F H:=
  fun a w hst=>wpListIn_plain rfl fun K hK=>hv D a w K Q hst fun x _ hp hs hh=>hK _ _ (h x hp _ _ (hst.put (d:=some d) hd hs hh))
theorem vk {α:Type} {p:α→Prop} {fv:α→Value} {fH:α→List aF} (hv:RX P N c ⟨none,op,ty,ps,af,none⟩ F H p fv fH)
    (h:∀x,p x→WL P N c D ops Q rest F (fH x)):WL P N c D ops Q (⟨none,op,ty,ps,af,none⟩::rest) F H:=
  fun a w hst=>wpListIn_plain rfl fun K hK=>hv D a w K Q hst fun x _ hp hs hh=>hK _ _ (h x hp _ _ (hst.put (d:=none) rfl hs hh))
def gd (ops:Array Oper) (F:cv):Option (Nat × Bool)→Option Bool
  | none=>none
  | some (j,want)=>match ((ops[j]?).bind (·.dst)).bind (lk F) with
    | some (.bool b)=>some (b == want)
    | _=>none
def Gd (ops:Array Oper) (F:cv) (g:Option (Nat × Bool)) (B:Bool):Prop:=∀(o:Oper) (a:Act),o.guard = g→k7 F a.tmps→Region.wanted o (yielded ops a.tmps) = B
theorem ox {a:Act} {j:Nat} {k:Tmp} {v:Value} (hf:k7 F a.tmps) (hd:(ops[j]?).bind (·.dst) = some k) (hl:lk F k = some v):yielded ops a.tmps j = match v with | .bool b=>some b | _=>none:=by
  have h1:=hf _ _ hl
  cases ho:ops[j]? with
  | none=>simp [ho] at hd
  | some oj =>
    simp [ho] at hd
    cases v <;> simp [yielded,ho,hd,h1]
theorem cF {j:Nat} {want b:Bool} {k:Tmp} (hd:(ops[j]?).bind (·.dst) = some k) (hl:lk F k = some (.bool b)):Gd ops F (some (j,want)) (b == want):=fun o a hg hf=>by
  simp only [Region.wanted,hg,ox hf hd hl]
  cases b <;> cases want <;> rfl
theorem wD {j:Nat} {want b t:Bool} {k:Tmp} (hd:(ops[j]?).bind (·.dst) = some k) (hl:lk F k = some (bif t then .bool b else undef)):Gd ops F (some (j,want)) (t && (b == want)):=fun o a hg hf=>by
  simp only [Region.wanted,hg,ox hf hd hl]
  cases b <;> cases want <;> cases t <;> rfl
theorem oo (hg:Gd ops F g false) (hd:Nat.blt d N = true) (h:WL P N c D ops Q rest ((d,undef)::F) H):WL P N c D ops Q (⟨some d,op,ty,ps,af,g⟩::rest) F H:=by
  intro a w hst
  simp only [wpListIn,hg ⟨some d,op,ty,ps,af,g⟩ a rfl hst.fr]
  exact ⟨fun _ _=>trivial,h _ _ (hst.put (d:=some d) hd hst.si hst.hp)⟩
theorem uJ {b:Bool} {v:Value} (hg:Gd ops F g b) (hd:Nat.blt d N = true) (hv:b = true→VS P N c ⟨some d,op,ty,ps,af,g⟩ F H v)
    (h:WL P N c D ops Q rest ((d,bif b then v else undef)::F) H):WL P N c D ops Q (⟨some d,op,ty,ps,af,g⟩::rest) F H:=by
  cases b with
  | false=>exact oo hg hd h
  | true =>
    intro a w hst
    simp only [wpListIn,hg ⟨some d,op,ty,ps,af,g⟩ a rfl hst.fr,if_true]
    exact hv rfl D a w _ Q hst fun w' hw=>h _ _ (hst.put (d:=some d) hd (hst.si.ext hw) (hst.hp.ext hw))
theorem GM {α:Type} {b:Bool} {p:α→Prop} {fv:α→Value} {fH:α→List aF} (hg:Gd ops F g b) (hd:Nat.blt d N = true) (hv:b = true→RX P N c ⟨some d,op,ty,ps,af,g⟩ F H p fv fH)
    (h1:b = true→∀x,p x→WL P N c D ops Q rest ((d,fv x)::F) (fH x)) (h0:b = false→WL P N c D ops Q rest ((d,undef)::F) H):WL P N c D ops Q (⟨some d,op,ty,ps,af,g⟩::rest) F H:=by
  cases b with
  | false=>exact oo hg hd (h0 rfl)
  | true =>
    intro a w hst
    simp only [wpListIn,hg ⟨some d,op,ty,ps,af,g⟩ a rfl hst.fr,if_true]
    exact hv rfl D a w _ Q hst fun x w' hp hs hh=>h1 rfl x hp _ _ (hst.put (d:=some d) hd hs hh)
theorem cC {x:Operand} {t:Bool} {v:Value} (h:ev F x = some (bif t then v else undef)) (ht:t = true):ev F x = some v:=by subst ht; exact h
theorem JK {x:Operand} {s t:Bool} {v:Value} (h:ev F x = some (bif s && t then v else undef)) (ht:s = true):ev F x = some (bif t then v else undef):=by subst ht; exact h
theorem Dd {l:List Oper} {H' : List aF} (hH:∀bs n0 w,bB bs n0 H w→bB bs n0 H' w) (h:WL P N c D ops Q l F H'):WL P N c D ops Q l F H:=fun a w hst=>h a w ⟨hst.tm,hst.fr,hst.df,hst.si,hH _ _ _ hst.hp⟩
end lists
section code
variable {P:Program} {N:Nat} {c:Cx} {D:List Deferred} {Q:Exit→Act→World→Prop} {F:cv} {H:List aF}
theorem pe {x y:Code} (h:WP P N c D x (Exit.then (y.wpIn (FA c.ro) 0 P Q) Q) F H):WP P N c D (.seq x y) Q F H:=fun a w hst=>wpIn_seq (h a w hst)
theorem pg {id:Nat} {x:Code} (h:WP P N c D x (Exit.inBlock id Q) F H):WP P N c D (.block id x) Q F H:=fun a w hst=>wpIn_block (h a w hst)
theorem rJ (h:WQ N c D Q .normal F H):WP P N c D .skip Q F H:=fun a w hst=>wpIn_skip (h a w hst)
theorem yH {l:Nat} (h:WQ N c D Q .normal F H):WP P N c D (.label l) Q F H:=fun a w hst=>wpIn_label (h a w hst)
theorem Db (h:WQ N c D Q .ret F H):WP P N c D .ret Q F H:=fun a w hst=>wpIn_ret (h a w hst)
theorem Ar {id:Nat} (h:WQ N c D Q (.exit id) F H):WP P N c D (.exit id) Q F H:=fun a w hst=>wpIn_exit (h a w hst)
theorem g9 {id:Nat} {l:List Oper} (h:WL P N c D l.toArray Q l F H):WP P N c D (.region id l.toArray false) Q F H:=fun a w hst=>wpIn_region_lit (h a w hst)
theorem Ap {x:Operand} {y z:Code} (hc:ev F x = some (.bool true)) (h:WP P N c D y Q F H):WP P N c D (.cond x y z) Q F H:=
  fun a w hst=>wpIn_cond_true (aV hst.fr hc) (h a w hst)
theorem yI {x:Operand} {y z:Code} (hc:ev F x = some (.bool false)) (h:WP P N c D z Q F H):WP P N c D (.cond x y z) Q F H:=
  fun a w hst=>wpIn_cond_false (aV hst.fr hc) (h a w hst)
theorem yD {x:Code} {H' : List aF} (hH:∀bs n0 w,bB bs n0 H w→bB bs n0 H' w) (h:WP P N c D x Q F H'):WP P N c D x Q F H:=fun a w hst=>h a w ⟨hst.tm,hst.fr,hst.df,hst.si,hH _ _ _ hst.hp⟩
theorem uI {e:Exit} {H' : List aF} (hH:∀bs n0 w,bB bs n0 H w→bB bs n0 H' w) (h:WQ N c D Q e F H'):WQ N c D Q e F H:=fun a w hst=>h a w ⟨hst.tm,hst.fr,hst.df,hst.si,hH _ _ _ hst.hp⟩
class BP (t:Bool) (p:outParam Prop):Prop where
  iff:t = true↔p
theorem gA {y:Code} (h:WP P N c D y Q F H):WQ N c D (Exit.then (y.wpIn (FA c.ro) 0 P Q) Q) .normal F H:=h
theorem nX {K:Act→World→Prop} (h:WQ N c D Q .ret F H):WQ N c D (Exit.then K Q) .ret F H:=h
theorem mQ {K:Act→World→Prop} {id:Nat} (h:WQ N c D Q (.exit id) F H):WQ N c D (Exit.then K Q) (.exit id) F H:=h
theorem tc {id:Nat} (h:WQ N c D Q .normal F H):WQ N c D (Exit.inBlock id Q) .normal F H:=h
theorem rI {id:Nat} (h:WQ N c D Q .ret F H):WQ N c D (Exit.inBlock id Q) .ret F H:=h
theorem pX {id:Nat} (h:WQ N c D Q .normal F H):WQ N c D (Exit.inBlock id Q) (.exit id) F H:=fun a w hst=>by simpa [Exit.inBlock] using h a w hst
theorem pW {id k:Nat} (hne:Nat.beq k id = false) (h:WQ N c D Q (.exit k) F H):WQ N c D (Exit.inBlock id Q) (.exit k) F H:=fun a w hst=>by
  have:¬ k = id:=fun e=>by rw [e,Nat.beq_refl] at hne; cases hne
  simpa [Exit.inBlock,this] using h a w hst
theorem Dc {α:Type} {x y:Code} (I:α→cv) (J:α→List aF) (p:α→Prop)
    (h1:WP P N c D x (Exit.then (fun a w=>∃i,p i∧St N c D (I i) (J i) a w) Q) F H) (h2:∀i,p i→WP P N c D y Q (I i) (J i)):WP P N c D (.seq x y) Q F H:=
  fun _ _ hst=>wpIn_seq (wpIn_mono (h1 _ _ hst) fun e a' w' hq=>by
    cases e with
    | normal=>obtain ⟨i,hp,hs⟩:=hq; exact h2 i hp a' w' hs
    | _=>exact hq)
theorem yF {α:Type} {x:Code} (I:α→cv) (J:α→List aF) (p:α→Prop) (μ:α→Nat) (i0:α) (zY:p i0)
    (hbody:∀i,p i→WP P N c D x (Exit.then (fun a w=>∃i',μ i' < μ i∧p i'∧St N c D (I i') (J i') a w) Q) (I i) (J i)):WP P N c D (.loop x) Q (I i0) (J i0):=by
  intro a w hst b k cs hro hb hr
  have key:∀j i,μ i = j→p i→∀a w,St N c D (I i) (J i) a w →
      ∃e a' w',Q e a' w'∧ArrivesIn (Machine.fenced P (FA c.ro)) P (lone (b.atR a (.code x::.inLoop x::k)) cs w) b k cs e a' w':=by
    intro j
    induction j using Nat.strongRecOn with
    | _ j ih =>
      intro i hi hp a w hst
      obtain ⟨e,a₁,w₁,hq,sP⟩:=hbody i hp a w hst b (.inLoop x::k) cs hro hb hr
      cases e with
      | normal =>
        obtain ⟨i',hlt,Mr,xM⟩:=hq
        obtain ⟨e₂,a₂,w₂,Mn,F6⟩:=ih (μ i') (hi ▸ hlt) i' rfl Mr a₁ w₁ xM
        exact ⟨e₂,a₂,w₂,Mn, .of_steps (StepsIn.trans sP (.one (fenced_calm hb hr rfl) stepR_inLoop)) F6⟩
      | exit id=>exact ⟨_,a₁,w₁,hq, .pass (x:=.inLoop x) rfl (fun _ _=>.inl (by simp)) sP⟩
      | goto l=>exact ⟨_,a₁,w₁,hq, .pass (x:=.inLoop x) rfl (fun _ _=>.inl (by simp)) sP⟩
      | ret=>exact ⟨_,a₁,w₁,hq, .pass (x:=.inLoop x) rfl (fun _ _=>.inl (by simp)) sP⟩
      | panic ch=>exact ⟨_,a₁,w₁,hq, .pass (x:=.inLoop x) rfl (fun _ _=>.inl (by simp)) sP⟩
      | outgrown=>exact ⟨_,a₁,w₁,hq, .pass (x:=.inLoop x) rfl (fun _ _=>.inl (by simp)) sP⟩
  obtain ⟨e,a',w',hq,sP⟩:=key _ i0 rfl zY a w hst
  exact ⟨e,a',w',hq, .of_steps (.one (fenced_calm hb hr rfl) stepR_loop) sP⟩
def gK (F:cv):List Nat→cv
  | []=>[]
  | k::r=>match lk F k with
    | some v=>(k,v)::gK F r
    | none=>gK F r
theorem qT {F:cv}:∀{ks:List Nat} {d:Nat} {v:Value},lk (gK F ks) d = some v→d ∈ ks∧lk F d = some v:=by
  intro ks
  induction ks with
  | nil=>intro d v h; simp [gK,lk] at h
  | cons k r ih =>
    intro d v h
    simp only [gK] at h
    split at h
    · rename_i u hu
      simp only [lk] at h
      by_cases e:k = d
      · subst e; simp at h; subst h; exact ⟨by simp,hu⟩
      · rw [jq e] at h; obtain ⟨h1,h2⟩:=ih h; exact ⟨by simp [h1],h2⟩
    · obtain ⟨h1,h2⟩:=ih h; exact ⟨by simp [h1],h2⟩
def yW (G F:cv):List Nat→Prop
  | []=>True
  | k::r=>lk G k = lk F k∧yW G F r
theorem yW.get {G F:cv}:∀{ks:List Nat},yW G F ks→∀k ∈ ks,lk G k = lk F k:=by
  intro ks
  induction ks with
  | nil=>intro _ k h; simp at h
  | cons k r ih =>
    intro h j hj
    rcases List.mem_cons.1 hj with e | hj
    · rw [e]; exact h.1
    · exact ih h.2 j hj
inductive p6 (F:cv):List Nat→cv→Prop where
  | nil:p6 F [] []
  | cons {k:Nat} {v:Value} {ks:List Nat} {K:cv} (h:lk F k = some v) (r:p6 F ks K):p6 F (k::ks) ((k,v)::K)
theorem p6.lk {F:cv} {ks:List Nat} {K:cv} (h:p6 F ks K):∀d v,lk K d = some v→Bw.lk F d = some v:=by
  induction h with
  | nil=>intro d v hd; simp [Bw.lk] at hd
  | @cons k u ks K h r ih =>
    intro d v hd
    by_cases e:k = d
    · subst e; simp [Bw.lk] at hd; subst hd; exact h
    · simp only [Bw.lk,jq e,cond_false] at hd; exact ih d v hd
theorem qU {I K G:cv} (h1:Sub I G) (h2:∀d v,lk K d = some v→lk G d = some v):∀d v,lk (I++K) d = some v→lk G d = some v:=by
  induction I with
  | nil=>exact h2
  | cons q I ih =>
    obtain ⟨k,u⟩:=q
    obtain ⟨hq,hr⟩:=h1
    intro d v hd
    by_cases e:k = d
    · subst e; simp [lk] at hd; subst hd; exact hq
    · simp only [List.cons_append,lk,jq e,cond_false] at hd; exact ih hr d v hd
def GV {α:Type} (N:Nat) (c:Cx) (D:List Deferred) (sl:List Nat) (K:cv) (I:α→cv) (J:α→List aF) (p:α→Prop) (μ:α→Nat) (i0:α):Act→World→Prop:=
  fun a w=>match sl with | _=>∃i',μ i' < μ i0∧p i'∧St N c D (I i'++K) (J i') a w
abbrev vq {α:Type} (N:Nat) (c:Cx) (D:List Deferred) (Q:Exit→Act→World→Prop) (sl:List Nat) (K:cv) (I:α→cv) (J:α→List aF) (p:α→Prop) (μ:α→Nat) (i0:α):Exit→Act→World→Prop:=
  Exit.then (GV N c D sl K I J p μ i0) Q
def Kq {α:Type} (N:Nat) (c:Cx) (D:List Deferred) (sl:List Nat) (K:cv) (I:α→cv) (J:α→List aF) (p:α→Prop):Act→World→Prop:=
  fun a w=>match sl with | _=>∃i,p i∧St N c D (I i++K) (J i) a w
abbrev AP {α:Type} (N:Nat) (c:Cx) (D:List Deferred) (Q:Exit→Act→World→Prop) (sl:List Nat) (K:cv) (I:α→cv) (J:α→List aF) (p:α→Prop):Exit→Act→World→Prop:=
  Exit.then (Kq N c D sl K I J p) Q
theorem yE {α:Type} {x:Code} (sl:List Nat) {K:cv} (hK:p6 F sl K) (I:α→cv) (J:α→List aF) (p:α→Prop) (μ:α→Nat) (i0:α) (zY:p i0) (hs:Sub (I i0) F) {ks:List Nat} (hk:pick H ks = some (J i0)) (hn:ks.Nodup)
    (hbody:∀i,p i→WP P N c D x (vq N c D Q sl K I J p μ i) (I i++K) (J i)):WP P N c D (.loop x) Q F H:=by
  have h0:WP P N c D (.loop x) Q (I i0++K) (J i0):=by
    exact yF (fun i=>I i++K) J p μ i0 zY hbody
  intro a w hst
  exact h0 a w ⟨hst.tm,hst.fr.sub (qU hs hK.lk),hst.df,hst.si,hst.hp.pick hk hn⟩
theorem yC {α:Type} {K:cv} {sl:List Nat} {I:α→cv} {J:α→List aF} {p:α→Prop} {μ:α→Nat} {i0:α} (i:α) (hμ:μ i < μ i0) (hp:p i) (hs:Sub (I i) F) (hl:p6 F sl K) {ks:List Nat} (hk:pick H ks = some (J i)) (hn:ks.Nodup) :
    WQ N c D (vq N c D Q sl K I J p μ i0) .normal F H:=
  fun _ _ hst=>⟨i,hμ,hp,hst.tm,hst.fr.sub (qU hs hl.lk),hst.df,hst.si,hst.hp.pick hk hn⟩
theorem As {α:Type} {x y:Code} (sl:List Nat) {K:cv} (_:p6 F sl K) (I:α→cv) (J:α→List aF) (p:α→Prop)
    (h1:WP P N c D x (AP N c D Q sl K I J p) F H) (h2:∀i,p i→WP P N c D y Q (I i++K) (J i)):WP P N c D (.seq x y) Q F H:=
  Dc (fun i=>I i++K) J p h1 h2
theorem Ao {α:Type} {K:cv} {sl:List Nat} {I:α→cv} {J:α→List aF} {p:α→Prop} (i:α) (hp:p i) (hs:Sub (I i) F) (hl:p6 F sl K) {ks:List Nat} (hk:pick H ks = some (J i)) (hn:ks.Nodup) :
    WQ N c D (AP N c D Q sl K I J p) .normal F H:=
  fun _ _ hst=>⟨i,hp,hst.tm,hst.fr.sub (qU hs hl.lk),hst.df,hst.si,hst.hp.pick hk hn⟩
end code
end Go.Bw
namespace Go.Bw
open Go Go.RowKit
def nm:TypeDesc→Bool
  | .struct _=>true
  | .array _ _=>true
  | _=>false
def uC (P:Program) (t n:Nat):Bool:=match P.underlying t,P.info? t with
  | some d,some i=>nm d && Nat.beq i.size n
  | _,_=>false
def uy (P:Program) (t:Nat):Bool:=match P.underlying t,P.info? t with
  | some d,some i=>!nm d && Nat.beq i.size 1
  | _,_=>false
class iB (P:Program) (t:TypeId) (n:outParam Nat):Prop where
  ok:uC P t n = true
class jA (P:Program) (t:TypeId):Prop where
  ok:uy P t = true
class y7 (P:Program) (t:TypeId) (n:outParam Nat):Prop where
  ok:(P.info? t).map (·.size) = some n
section types
variable {P:Program} {t n:Nat}
theorem iB.get (h:uC P t n = true):∃d i,P.underlying t = some d∧nm d = true∧P.info? t = some i∧i.size = n:=by
  unfold uC at h
  split at h
  · rename_i d i h1 h2
    simp only [Bool.and_eq_true] at h
    exact ⟨d,i,h1,h.1,h2,Nat.eq_of_beq_eq_true h.2⟩
  · cases h
theorem jA.get (h:uy P t = true):∃d i,P.underlying t = some d∧nm d = false∧P.info? t = some i∧i.size = 1:=by
  unfold uy at h
  split at h
  · rename_i d i h1 h2
    simp only [Bool.and_eq_true,Bool.not_eq_true'] at h
    exact ⟨d,i,h1,h.1,h2,Nat.eq_of_beq_eq_true h.2⟩
  · cases h
instance (priority:=50) Hw [h:iB P t n]:y7 P t n:=⟨by obtain ⟨d,i,_,_,h3,h4⟩:=iB.get h.ok; simp [h3,h4]⟩
instance (priority:=40) Hv [h:jA P t]:y7 P t 1:=⟨by obtain ⟨d,i,_,_,h3,h4⟩:=jA.get h.ok; simp [h3,h4]⟩
theorem kK (w:World) [h:iB P t n]:(isAgg t).run P w = .ok true w:=by
  obtain ⟨d,i,h1,h2,_,_⟩:=iB.get h.ok
  unfold isAgg
  rw [Sem.run_bind,run_underlying h1 w]
  cases d <;> simp_all [nm]
theorem kq (w:World) [h:jA P t]:(isAgg t).run P w = .ok false w:=by
  obtain ⟨d,i,h1,h2,_,_⟩:=jA.get h.ok
  unfold isAgg
  rw [Sem.run_bind,run_underlying h1 w]
  cases d <;> simp_all [nm]
theorem run_sizeOf (w:World) [h:y7 P t n]:(sizeOf t).run P w = .ok n w:=by
  have:=h.ok
  cases hi:P.info? t with
  | none=>simp [hi] at this
  | some i=>simp [hi] at this; simp [sizeOf,typeInfo,hi,this]
end types
class j2 (H:List aF) (b:Nat) (T:outParam TypeId) (cs:outParam (List Value)):Prop where
  mem:aF.cells b T cs ∈ H
instance (priority:=100) D3 (b T cs) (H:List aF):j2 (.cells b T cs::H) b T cs:=⟨by simp⟩
instance (priority:=50) DF (r:aF) (H:List aF) (b T cs) [h:j2 H b T cs]:j2 (r::H) b T cs:=⟨by simp [h.mem]⟩
class rQ (H:List aF) (b:Nat) (cs' : List Value) (H' : outParam (List aF)):Prop where
  ok:∃k T cs,H[k]? = some (.cells b T cs)∧H' = H.set k (.cells b T cs')
instance (priority:=100) DW (b T cs cs') (H:List aF):rQ (.cells b T cs::H) b cs' (.cells b T cs'::H):=⟨0,T,cs,rfl,rfl⟩
instance (priority:=50) Ds (r:aF) (H H' : List aF) (b cs') [h:rQ H b cs' H']:rQ (r::H) b cs' (r::H'):=
  ⟨by obtain ⟨k,T,cs,h1,h2⟩:=h.ok; exact ⟨k + 1,T,cs,by simpa using h1,by simp [h2]⟩⟩
class Nl (H:List aF) (v:Value) (e sz n:outParam Nat) (xs:outParam (List Value)):Prop where
  mem:aF.row v e sz n xs ∈ H
class M9 (H:List aF) (v:Value) (r' : aF) (H' : outParam (List aF)):Prop where
  ok:∃k e sz n xs,H[k]? = some (.row v e sz n xs)∧H' = H.set k r'
class nH (H:List aF) (b:Nat) (o:outParam Obj):Prop where
  mem:aF.obj b o ∈ H
instance (priority:=100) D1 (b o) (H:List aF):nH (.obj b o::H) b o:=⟨by simp⟩
instance (priority:=50) DD (r:aF) (H:List aF) (b o) [h:nH H b o]:nH (r::H) b o:=⟨by simp [h.mem]⟩
class n9 (H:List aF) (b:Nat) (o' : Obj) (H' : outParam (List aF)):Prop where
  ok:∃k o,H[k]? = some (.obj b o)∧H' = H.set k (.obj b o')
instance (priority:=100) DV (b o o') (H:List aF):n9 (.obj b o::H) b o' (.obj b o'::H):=⟨0,o,rfl,rfl⟩
instance (priority:=50) Dr (r:aF) (H H' : List aF) (b o') [h:n9 H b o' H']:n9 (r::H) b o' (r::H'):=
  ⟨by obtain ⟨k,o,h1,h2⟩:=h.ok; exact ⟨k + 1,o,by simpa using h1,by simp [h2]⟩⟩
def Ptr (b off:Nat):Value:=.pointer (some ⟨b,off,none⟩)
attribute [reducible] Ptr
section ops
variable {P:Program} {N:Nat} {c:Cx} {F:cv} {H:List aF} {d:Option Tmp} {ty:TypeId} {p:String} {af:Array Edge} {g:Option (Nat × Bool)}
theorem ay {x:Operand} {v:Value} (hx:ev F x = some v):VS P N c ⟨d, .move x,ty,p,af,g⟩ F H v:=
  aN (by simp) fun a w hf _ _=>by simp [execOp,aV hf hx]
theorem ei {x:Operand} {v:Value} (hx:ev F x = some v):VS P N c ⟨d, .assign x,ty,p,af,g⟩ F H v:=
  aN (by simp) fun a w hf _ _=>by simp [execOp,aV hf hx]
theorem fz {x y:Operand} {b u:Bool} (hx:ev F x = some (.bool b)) (hy:ev F y = some (bif b == true then .bool u else undef)) :
    VS P N c ⟨d, .pick x y (.const (.bool false)),ty,p,af,g⟩ F H (.bool (b && u)):=
  aN (by simp) fun a w hf _ _=>by
    have e1:=aV hf hx
    have e2:=aV hf hy
    have e3:∀v,a.eval (.const v) = v:=fun _=>rfl
    cases b <;> (try simp at e2) <;> simp [execOp,e1,e2,e3,asBool]
theorem gl {x y:Operand} {b u:Bool} (hx:ev F x = some (.bool b)) (hy:ev F y = some (bif b == false then .bool u else undef)) :
    VS P N c ⟨d, .pick x (.const (.bool true)) y,ty,p,af,g⟩ F H (.bool (b || u)):=
  aN (by simp) fun a w hf _ _=>by
    have e1:=aV hf hx
    have e2:=aV hf hy
    have e3:∀v,a.eval (.const v) = v:=fun _=>rfl
    cases b <;> (try simp at e2) <;> simp [execOp,e1,e2,e3,asBool]
theorem jI {x:Operand} {b:Bool} (hx:ev F x = some (.bool b)) {T:TypeId}:VS P N c ⟨d, .unOp .not T x,ty,p,af,g⟩ F H (.bool (!b)):=
  aN (by simp) fun a w hf _ _=>by simp [execOp,aV hf hx,Op.unary]
section ints
variable {x y:Operand} {k:IntKind} {a b r:Int} {T U:TypeId}
theorem rP (hx:ev F x = some (.int k a)) (hy:ev F y = some (.int k b)) (h:k.wrap (a + b) = r):VS P N c ⟨d, .binOp .add T x y U,ty,p,af,g⟩ F H (.int k r):=
  aN (by simp) fun a' w hf _ _=>by simp [execOp,aV hf hx,aV hf hy,eqGuard,binOp,Op.intArith,h]
theorem po (hx:ev F x = some (.int k a)) (hy:ev F y = some (.int k b)) (h:k.wrap (a - b) = r):VS P N c ⟨d, .binOp .sub T x y U,ty,p,af,g⟩ F H (.int k r):=
  aN (by simp) fun a' w hf _ _=>by simp [execOp,aV hf hx,aV hf hy,eqGuard,binOp,Op.intArith,h]
theorem yJ (hx:ev F x = some (.int k a)) (hy:ev F y = some (.int k b)) (h:k.wrap (a * b) = r):VS P N c ⟨d, .binOp .mul T x y U,ty,p,af,g⟩ F H (.int k r):=
  aN (by simp) fun a' w hf _ _=>by simp [execOp,aV hf hx,aV hf hy,eqGuard,binOp,Op.intArith,h]
theorem Dg (hx:ev F x = some (.int k a)) (hy:ev F y = some (.int k b)) (h0:b ≠ 0) (h:a.tmod b = r):VS P N c ⟨d, .binOp .rem T x y U,ty,p,af,g⟩ F H (.int k r):=
  aN (by simp) fun a' w hf _ _=>by simp [execOp,aV hf hx,aV hf hy,eqGuard,binOp,Op.intDiv,h,h0]
theorem AA {op:BinOp} {v:Value} (hx:ev F x = some (.int k a)) (hy:ev F y = some (.int k b)) (ho:(op matches .and | .or | .xor | .andNot) = true)
    (h:∀P w,(Op.intBits op k a b).run P w = .ok v w):VS P N c ⟨d, .binOp op T x y U,ty,p,af,g⟩ F H v:=
  aN (by simp) fun a' w hf _ _=>by cases op <;> simp at ho <;> simp [execOp,aV hf hx,aV hf hy,eqGuard,binOp,h]
theorem Df {k' : IntKind} (hx:ev F x = some (.int k a)) (hy:ev F y = some (.int k' b)) (h0:0 ≤ b) (h:k.wrap (a * 2 ^ (min b.toNat k.bits)) = r):VS P N c ⟨d, .binOp .shl T x y U,ty,p,af,g⟩ F H (.int k r):=
  aN (by simp) fun a' w hf _ _=>by simp [execOp,aV hf hx,aV hf hy,eqGuard,binOp,Op.shift,h,Int.not_lt.2 h0]
theorem De {k' : IntKind} (hx:ev F x = some (.int k a)) (hy:ev F y = some (.int k' b)) (h0:0 ≤ b) (h:a.fdiv (2 ^ (min b.toNat k.bits)) = r):VS P N c ⟨d, .binOp .shr T x y U,ty,p,af,g⟩ F H (.int k r):=
  aN (by simp) fun a' w hf _ _=>by simp [execOp,aV hf hx,aV hf hy,eqGuard,binOp,Op.shift,h,Int.not_lt.2 h0]
theorem jt (hx:ev F x = some (.int k a)) (hy:ev F y = some (.int k b)):VS P N c ⟨d, .binOp .eql T x y U,ty,p,af,g⟩ F H (.bool (a == b)):=
  aN (by simp) fun a' w hf _ _=>by simp [execOp,aV hf hx,aV hf hy,eqGuard,binOp,Op.intCmp]
theorem l9 (hx:ev F x = some (.int k a)) (hy:ev F y = some (.int k b)):VS P N c ⟨d, .binOp .neq T x y U,ty,p,af,g⟩ F H (.bool (a != b)):=
  aN (by simp) fun a' w hf _ _=>by simp [execOp,aV hf hx,aV hf hy,eqGuard,binOp,Op.intCmp]
theorem yK (hx:ev F x = some (.int k a)) (hy:ev F y = some (.int k b)):VS P N c ⟨d, .binOp .lss T x y U,ty,p,af,g⟩ F H (.bool (decide (a < b))):=
  aN (by simp) fun a' w hf _ _=>by simp [execOp,aV hf hx,aV hf hy,eqGuard,binOp,Op.intCmp]
theorem rN (hx:ev F x = some (.int k a)) (hy:ev F y = some (.int k b)):VS P N c ⟨d, .binOp .leq T x y U,ty,p,af,g⟩ F H (.bool (decide (a ≤ b))):=
  aN (by simp) fun a' w hf _ _=>by simp [execOp,aV hf hx,aV hf hy,eqGuard,binOp,Op.intCmp]
theorem yL (hx:ev F x = some (.int k a)) (hy:ev F y = some (.int k b)):VS P N c ⟨d, .binOp .gtr T x y U,ty,p,af,g⟩ F H (.bool (decide (b < a))):=
  aN (by simp) fun a' w hf _ _=>by simp [execOp,aV hf hx,aV hf hy,eqGuard,binOp,Op.intCmp]
theorem pq (hx:ev F x = some (.int k a)) (hy:ev F y = some (.int k b)):VS P N c ⟨d, .binOp .geq T x y U,ty,p,af,g⟩ F H (.bool (decide (b ≤ a))):=
  aN (by simp) fun a' w hf _ _=>by simp [execOp,aV hf hx,aV hf hy,eqGuard,binOp,Op.intCmp]
theorem Dh (hx:ev F x = some (.int k a)) (h:k.wrap (0 - a) = r):VS P N c ⟨d, .unOp .neg T x,ty,p,af,g⟩ F H (.int k r):=
  aN (by simp) fun a' w hf _ _=>by simp at h; simp [execOp,aV hf hx,Op.unary,Op.intArith,h]
end ints
class Dm (P:Program) (t:TypeId) (k:outParam IntKind):Prop where
  ok:P.underlying t = some (.int k)
class Bn (P:Program) (t:TypeId):Prop where
  ok:P.underlying t = some .bool
theorem Az {x:Operand} {k k' : IntKind} {a r:Int} {S T:TypeId} (hx:ev F x = some (.int k a)) [hT:Dm P T k'] [hS:Dm P S k] (h:k'.wrap a = r) :
    VS P N c ⟨d, .convert S T x,ty,p,af,g⟩ F H (.int k' r):=
  aN (by simp) fun a' w hf _ _=>by
    have h1:=run_underlying hT.ok w
    have h2:=run_underlying hS.ok w
    simp [execOp,aV hf hx,convert,h1,h2,Conv.intToInt,h]
theorem Av {x y:Operand} {a b:Bool} {T U:TypeId} [hT:Bn P T] (hx:ev F x = some (.bool a)) (hy:ev F y = some (.bool b)) :
    VS P N c ⟨d, .binOp .neq T x y U,ty,p,af,g⟩ F H (.bool (a != b)):=
  aN (by simp) fun a' w hf _ _=>by
    have h1:=run_neq_bool (P:=P) w T a b hT.ok
    have e1:=aV hf hx
    have e2:=aV hf hy
    cases a <;> cases b <;> simp [execOp,e1,e2,eqGuard,h1]
theorem uK {x:Operand} {vs:List Value} {i:Nat} {v:Value} (hx:ev F x = some (.tuple vs.toArray)) (hv:vs[i]? = some v):VS P N c ⟨d, .extract x i,ty,p,af,g⟩ F H v:=
  aN (by simp) fun a w hf _ _=>by simp [execOp,aV hf hx,Instr.extract,hv]
def rC (P:Program) (s f off:Nat):Bool:=match P.underlying s with
  | some (.struct fs)=>match fs[f]? with
    | some fl=>Nat.beq fl.offset off && (match P.info? fl.type with | some i=>!Nat.beq i.size 0 | none=>false)
    | none=>false
  | _=>false
class jJ (P:Program) (s:TypeId) (f:Nat) (off:outParam Nat):Prop where
  ok:rC P s f off = true
theorem jJ.get {s f off:Nat} (h:rC P s f off = true):∃fs fl i,P.underlying s = some (.struct fs)∧fs[f]? = some fl∧fl.offset = off∧P.info? fl.type = some i∧i.size ≠ 0:=by
  unfold rC at h
  split at h
  · rename_i fs h1
    split at h
    · rename_i fl h2
      split at h
      · rename_i i h3
        simp only [Bool.and_eq_true,Bool.not_eq_true'] at h
        exact ⟨fs,fl,i,h1,h2,Nat.eq_of_beq_eq_true h.1,h3,fun e=>by rw [e] at h; exact absurd h.2 (by decide)⟩
      · simp at h
    · cases h
  · cases h
theorem nL {s f fo b off:Nat} [h:jJ P s f fo] (w:World):(Instr.fieldAt s (Ptr b off) f).run P w = .ok (Ptr b (off + fo)) w:=by
  obtain ⟨fs,fl,i,h1,h2,h3,h4,h5⟩:=jJ.get h.ok
  simp [Instr.fieldAt,run_underlying h1,h2,Instr.sureAddr,fieldPlace,sizeOf,typeInfo,h4,h5,Addr.add_lit,h3]
theorem aW {x:Operand} {s f fo b:Nat} [jJ P s f fo] (hx:ev F x = some (Ptr b 0)):VS P N c ⟨d, .fieldAddr s x f,ty,p,af,g⟩ F H (Ptr b fo):=
  aN (by simp) fun a w hf _ _=>by
    have:=nL (P:=P) (s:=s) (f:=f) (b:=b) (off:=0) w
    rw [Nat.zero_add] at this
    simp only [execOp,aV hf hx]
    simp [this]
theorem js {x:Operand} {s f fo b off:Nat} [jJ P s f fo] (hx:ev F x = some (Ptr b off)):VS P N c ⟨d, .fieldAddr s x f,ty,p,af,g⟩ F H (Ptr b (off + fo)):=
  aN (by simp) fun a w hf _ _=>by
    have:=nL (P:=P) (s:=s) (f:=f) (b:=b) (off:=off) w
    simp only [execOp,aV hf hx]
    simp [this]
def uB (P:Program) (t len e sz:Nat):Bool:=match P.underlying t with
  | some (.array l e')=>Nat.beq l len && Nat.beq e' e && (match P.info? e with | some i=>Nat.beq i.size sz | none=>false)
  | _=>false
class nF (P:Program) (t:TypeId) (len e sz:outParam Nat):Prop where
  ok:uB P t len e sz = true
theorem nF.get {t len e sz:Nat} (h:uB P t len e sz = true):∃i,P.underlying t = some (.array len e)∧P.info? e = some i∧i.size = sz:=by
  unfold uB at h
  split at h
  · rename_i l e' h1
    split at h
    · rename_i i h3
      simp only [Bool.and_eq_true] at h
      obtain ⟨⟨h4,h5⟩,h6⟩:=h
      rw [Nat.eq_of_beq_eq_true h4,Nat.eq_of_beq_eq_true h5] at h1
      exact ⟨i,h1,h3,Nat.eq_of_beq_eq_true h6⟩
    · simp at h
  · cases h
def vh (P:Program) (t e sz:Nat):Bool:=match P.underlying t with
  | some (.slice e')=>Nat.beq e' e && (match P.info? e with | some i=>Nat.beq i.size sz | none=>false)
  | _=>false
class n8 (P:Program) (t:TypeId) (e sz:outParam Nat):Prop where
  ok:vh P t e sz = true
theorem n8.get {t e sz:Nat} (h:vh P t e sz = true):∃i,P.underlying t = some (.slice e)∧P.info? e = some i∧i.size = sz:=by
  unfold vh at h
  split at h
  · rename_i e' h1
    split at h
    · rename_i i h3
      simp only [Bool.and_eq_true] at h
      obtain ⟨h4,h6⟩:=h
      rw [Nat.eq_of_beq_eq_true h4] at h1
      exact ⟨i,h1,h3,Nat.eq_of_beq_eq_true h6⟩
    · simp at h
  · cases h
theorem jZ {x y:Operand} {t len e sz b:Nat} {k:IntKind} {i:Int} {m:Nat} [h:nF P t len e sz] (hx:ev F x = some (Ptr b 0)) (hy:ev F y = some (.int k i)) (hi:i = (m:Int)) (hm:m < len) :
    VS P N c ⟨d, .indexAddr t x y,ty,p,af,g⟩ F H (Ptr b (m * sz)):=
  aN (by simp) fun a w hf _ _=>by
    obtain ⟨inf,h1,h2,h3⟩:=nF.get h.ok
    subst hi
    simp [execOp,aV hf hx,aV hf hy,Instr.indexAt,asIntOf,run_underlying h1,Instr.sureAddr,sizeOf,typeInfo,h2,h3,Addr.add_lit]
    intro hle
    omega
theorem gp {x y:Operand} {t len e sz b off:Nat} {k:IntKind} {i:Int} {m:Nat} [h:nF P t len e sz] (hx:ev F x = some (Ptr b off)) (hy:ev F y = some (.int k i)) (hi:i = (m:Int)) (hm:m < len) :
    VS P N c ⟨d, .indexAddr t x y,ty,p,af,g⟩ F H (Ptr b (off + m * sz)):=
  aN (by simp) fun a w hf _ _=>by
    obtain ⟨inf,h1,h2,h3⟩:=nF.get h.ok
    subst hi
    simp [execOp,aV hf hx,aV hf hy,Instr.indexAt,asIntOf,run_underlying h1,Instr.sureAddr,sizeOf,typeInfo,h2,h3,Addr.add_lit]
    intro hle
    omega
theorem td {x:Operand} {a:Addr} (hx:ev F x = some (.pointer (some a))):VS P N c ⟨d, .nilCheck x,ty,p,af,g⟩ F H (.pointer (some a)):=
  aN (by simp) fun a w hf _ _=>by simp [execOp,aV hf hx]
theorem cell_of {w:World} {b T:Nat} {cs:List Value} (h:(aF.cells b T cs).holds w) (j:Nat):w.cell? ⟨b,j,none⟩ = cs[j]?:=by
  have:w.heap[b]? = some (.cells cs.toArray T (0,0)):=h
  simp [World.cell?,this]
theorem iH {t:TypeId} {a:Addr} {v:Value} {w:World} [jA P t] (h:w.cell? a = some v):(loadVar t a).run P w = .ok v w:=by
  simp [loadVar,kq,load,Sem.run,h]
theorem gw {t:TypeId} {b off n:Nat} {vs:List Value} {w:World} [iB P t n] (hl:vs.length = n) (h:∀(j:Nat) v,vs[j]? = some v→w.cell? ⟨b,off + j,none⟩ = some v) :
    (loadVar t ⟨b,off,none⟩).run P w = .ok (.agg vs.toArray) w:=by
  have hl' : (loadCells ⟨b,off,none⟩ vs.length).run P w = .ok vs.toArray w:=
    run_loadCells_list (P:=P) w ⟨b,off,none⟩ vs (fun j v hv=>by rw [Addr.add_lit]; exact h j v hv)
  have hs:(sizeOf t).run P w = .ok n w:=run_sizeOf w
  simp [loadVar,Sem.run_bind,kK,hs,← hl,hl']
theorem cE {x:Operand} {t b off T:Nat} {cs:List Value} {v:Value} (hx:ev F x = some (Ptr b off)) [hr:j2 H b T cs] [jA P t] (hv:cs[off]? = some v):VS P N c ⟨d, .load t x,ty,p,af,g⟩ F H v:=
  aN (by simp) fun a w hf _ hp=>by
    have:=iH (P:=P) (t:=t) (a:=⟨b,off,none⟩) ((cell_of (hp.holds _ hr.mem) off).trans hv)
    simp [execOp,aV hf hx,Instr.loadAt,Instr.sureAddr,this]
theorem ak {x:Operand} {t b T n:Nat} {cs:List Value} (hx:ev F x = some (Ptr b 0)) [hr:j2 H b T cs] [iB P t n] (hl:cs.length = n):VS P N c ⟨d, .load t x,ty,p,af,g⟩ F H (.agg cs.toArray):=
  aN (by simp) fun a w hf _ hp=>by
    have:=gw (P:=P) (t:=t) (b:=b) (off:=0) (w:=w) hl (fun j v hv=>by rw [Nat.zero_add,cell_of (hp.holds _ hr.mem)]; exact hv)
    simp [execOp,aV hf hx,Instr.loadAt,Instr.sureAddr,this]
theorem bg {x:Operand} {t b off T n:Nat} {cs vs:List Value} (hx:ev F x = some (Ptr b off)) [hr:j2 H b T cs] [iB P t n] (hv:(cs.drop off).take n = vs) (hl:vs.length = n):VS P N c ⟨d, .load t x,ty,p,af,g⟩ F H (.agg vs.toArray):=
  aN (by simp) fun a w hf _ hp=>by
    have:=gw (P:=P) (t:=t) (b:=b) (off:=off) (w:=w) hl (fun j v hj=>by
      rw [cell_of (hp.holds _ hr.mem)]
      rw [← hv,List.getElem?_take] at hj
      split at hj
      · rwa [List.getElem?_drop] at hj
      · cases hj)
    simp [execOp,aV hf hx,Instr.loadAt,Instr.sureAddr,this]
def bW (cs:List Value) (off:Nat) (vs:List Value):List Value:=cs.take off++vs++cs.drop (off + vs.length)
def gW (vs:List Value):Prop:=∀v ∈ vs,v.oneCell' = true
theorem ko {t b off T n:Nat} {cs vs:List Value} {v:Value} {w:World} [y7 P t n] (h:(aF.cells b T cs).holds w) (hv:v.cells.toList = vs) (hl:vs.length = n) (ho:off + n ≤ cs.length) (h1:gW vs) :
    ∃w',(storeVar t ⟨b,off,none⟩ v).run P w = .ok () w'∧(aF.cells b T (bW cs off vs)).holds w'∧aR [b] w w':=by
  have hb:w.heap[b]? = some (.cells cs.toArray T (0,0)):=h
  have hst:=run_storeCells_at P b off T vs 0 cs.toArray w hb (by simp; omega) h1
  simp only [Nat.add_zero] at hst
  have hs:(sizeOf t).run P w = .ok n w:=run_sizeOf w
  have hsz:v.cells.size = n:=by rw [← hl,← hv]; simp
  refine ⟨w.setRow b (bW cs off vs).toArray,?_,?_,?_⟩
  · simp only [storeVar,Sem.run_bind,hs,Result.andThen_ok,hsz,hv,ne_eq,not_true_eq_false,if_false]
    exact hst
  · have:=setRow_heap w b cs.toArray (bW cs off vs).toArray T (0,0) hb
    simpa [aF.holds,bW] using this
  · exact ⟨rfl,rfl,rfl,by simp,fun k _ hk=>setRow_other w b k _ (by simpa using hk)⟩
theorem bB.HL {bs:List Nat} {n0 b:Nat} {H H' : List aF} {cs' : List Value} {w w' : World} (h:bB bs n0 H w) (hs:rQ H b cs' H') (hw:aR [b] w w') (hn:n0 ≤ w.heap.size)
    (hc:∀T cs,(aF.cells b T cs).holds w→(aF.cells b T cs').holds w'):bB bs n0 H' w':=by
  obtain ⟨k,T,cs,hk,rfl⟩:=hs.ok
  have hm:aF.cells b T cs ∈ H:=List.mem_of_getElem? hk
  refine h.set hk hw.size (fun j hj hne=>hw.block j hj hne) (hc T cs (h.holds _ hm)) hn (fun b' hb'=>?_)
  have e:b' = b:=by simpa [aF.fG] using hb'
  subst e
  exact ⟨.inl (by simp [aF.fG]),Nat.lt_of_lt_of_le (h.own _ hm b' (by simp [aF.fG])).2 hw.size⟩
theorem aR.store {bs:List Nat} {w0 w w' : World} {H:List aF} {r:aF} {b:Nat} (h:aR bs w0 w) (hp:bB bs w0.heap.size H w) (hm:r ∈ H) (hb:b ∈ r.fG) (hw:aR [b] w w'):aR bs w0 w':=
  h.trans hw (fun x hx=>by simp at hx; subst hx; exact (hp.own r hm _ hb).1)
theorem sW {w:World} {b T T' : Nat} {cs cs' : List Value} (h:(aF.cells b T cs).holds w) (h' : (aF.cells b T' cs').holds w):T = T'∧cs = cs':=by
  have h1:w.heap[b]? = some (.cells cs.toArray T (0,0)):=h
  have h2:w.heap[b]? = some (.cells cs'.toArray T' (0,0)):=h'
  rw [h1] at h2
  simp at h2
  exact ⟨h2.2,h2.1⟩
variable {D:List Deferred} {ops:Array Oper} {Q:Exit→Act→World→Prop} {rest:List Oper}
theorem mU {x y:Operand} {t b off T n:Nat} {cs vs cs' : List Value} {v:Value} {H' : List aF} (hx:ev F x = some (Ptr b off)) (hy:ev F y = some v) [hr:j2 H b T cs] [y7 P t n]
    (hv:v.cells.toList = vs) (hl:vs.length = n) (ho:off + n ≤ cs.length) (h1:gW vs) (hc:bW cs off vs = cs') [hs:rQ H b cs' H'] :
    RX (α:=Unit) P N c ⟨d, .store t x y,ty,p,af,g⟩ F H (fun _=>True) (fun _=>undef) (fun _=>H'):=fun D a w next Q hst hk=>by
  obtain ⟨w',e1,e2,e3⟩:=ko (P:=P) (t:=t) (off:=off) (hst.hp.holds _ hr.mem) hv hl ho h1
  refine ld (by simp) (w':=w') ?_ (hk () w' trivial (hst.si.store hst.hp hr.mem (by simp [aF.fG]) e3) (hst.hp.HL hs e3 hst.si.size ?_))
  · simp [execOp,aV hst.fr hx,aV hst.fr hy,Instr.storeAt,Instr.sureAddr,e1]
  · intro T' MR hT
    have:=sW (hst.hp.holds _ hr.mem) hT
    obtain ⟨rfl,rfl⟩:=this
    rw [← hc]; exact e2
def rB (P:Program) (t:Nat):Option (List Value):=(P.info? t).bind fun i=>i.zero.map fun z=>z.cells.toList
class cy (P:Program) (t:TypeId) (cs:outParam (List Value)):Prop where
  ok:rB P t = some cs
theorem cy.get {t:Nat} {cs:List Value} (h:rB P t = some cs):∃i z,P.info? t = some i∧i.zero = some z∧z.cells.toList = cs:=by
  unfold rB at h
  cases hi:P.info? t with
  | none=>simp [hi] at h
  | some i =>
    cases hz:i.zero with
    | none=>simp [hi,hz] at h
    | some z=>simp [hi,hz] at h; exact ⟨i,z,rfl,hz,h⟩
theorem bB.box {bs:List Nat} {n0:Nat} {H:List aF} {w:World} (h:bB bs n0 H w) (t:TypeId) (cs:List Value) (hn:n0 ≤ w.heap.size):bB bs n0 (.cells w.heap.size t cs::H) (w.alloc (.cells cs.toArray t)):=
  h.fresh (aR.alloc _ _) (by show (w.heap.push _)[w.heap.size]? = _; simp) hn (fun b hb=>by
    have e:b = w.heap.size:=by simpa [aF.fG] using hb
    subst e
    exact ⟨Nat.le_refl _,by simp⟩)
theorem uQ {x:Operand} {t:Nat} {v:Value} {cs:List Value} (hx:ev F x = some v) (hc:v.cells.toList = cs) :
    RX P N c ⟨d, .box t x,ty,p,af,g⟩ F H (fun _=>True) (fun b=>Ptr b 0) (fun b=>.cells b t cs::H):=fun D a w next Q hst hk=>by
  refine eT (by simp) (w':=w.alloc (.cells cs.toArray t)) ?_ (hk w.heap.size _ trivial (hst.si.ext (aR.alloc _ _)) (hst.hp.box t cs hst.si.size))
  subst hc
  simp [execOp,aV hst.fr hx,Instr.box,newVar,newRow,newObj,Sem.run]
theorem cO {x:Operand} {t:Nat} {cs:List Value} (hx:ev F x = some (.agg cs.toArray)) :
    RX P N c ⟨d, .box t x,ty,p,af,g⟩ F H (fun _=>True) (fun b=>Ptr b 0) (fun b=>.cells b t cs::H):=uQ hx rfl
theorem vp {x:Operand} {t:Nat} {v:Value} (hx:ev F x = some v) (hc:v.cells.toList = [v]) :
    RX P N c ⟨d, .box t x,ty,p,af,g⟩ F H (fun _=>True) (fun b=>Ptr b 0) (fun b=>.cells b t [v]::H):=uQ hx hc
theorem bG {t:Nat} {cs:List Value} [hz:cy P t cs] :
    RX P N c ⟨d, .alloc t,ty,p,af,g⟩ F H (fun _=>True) (fun b=>Ptr b 0) (fun b=>.cells b t cs::H):=fun D a w next Q hst hk=>by
  refine eT (by simp) (w':=w.alloc (.cells cs.toArray t)) ?_ (hk w.heap.size _ trivial (hst.si.ext (aR.alloc _ _)) (hst.hp.box t cs hst.si.size))
  obtain ⟨i,z,h1,h2,rfl⟩:=cy.get hz.ok
  simp [execOp,Instr.alloc,zeroValue,typeInfo,h1,h2,newVar,newRow,newObj,Sem.run]
theorem nY {fn:Fn} {cap:List Operand} {vs:List Value} (hc:nx F cap = some vs):VS P N c ⟨d, .makeFunc fn #[] cap.toArray,ty,p,af,g⟩ F H (.func fn #[] vs.toArray):=
  aN (by simp) fun a w hf _ _=>by simp [execOp,Instr.makeFunc,o4 hf hc]
end ops
end Go.Bw
namespace Go.Bw
open Go Go.RowKit
def br (H:List aF):List Nat:=H.flatMap aF.fG
structure Fn {α:Type} (P:Program) (f:Nat) (args:List Value) (pre:World→Prop) (lK:List aF) (p:α→Prop) (fv:α→Value) (fH:α→List aF):Prop where
  enter:∀args w,(callFunc f args).run P w = .ok (.enter f args) w
  calls:∀w,pre w→bB (br lK) w.heap.size lK w→Calls P f args.toArray w fun e w'=>∃x,p x∧e = .returned (fv x)∧aR (br lK) w w'∧bB (br lK) w.heap.size (fH x) w'
abbrev za (P:Program) (f:Nat) (args:List Value) (v:Value):Prop:=Fn (α:=Unit) P f args (fun _=>True) [] (fun _=>True) (fun _=>v) (fun _=>[])
abbrev wE (P:Program) (f:Nat) (args:List Value) (pre:World→Prop) (v:Value):Prop:=Fn (α:=Unit) P f args pre [] (fun _=>True) (fun _=>v) (fun _=>[])
inductive jB (P:Program) (F:cv) (H:List aF):List ResultVar→List Value→Prop where
  | nil:jB P F H [] []
  | tmp {t:Nat} {v:Value} {rs:List ResultVar} {vs:List Value} (hv:lk F t = some v) (h:jB P F H rs vs):jB P F H (.tmp t::rs) (v::vs)
  | agg {t ty b T n:Nat} {cs:List Value} {rs:List ResultVar} {vs:List Value} (hv:lk F t = some (Ptr b 0)) (hr:j2 H b T cs) (ht:iB P ty n) (hl:cs.length = n) (h:jB P F H rs vs):jB P F H (.cell t ty::rs) (.agg cs.toArray::vs)
  | one {t ty b T:Nat} {v:Value} {cs:List Value} {rs:List ResultVar} {vs:List Value} (hv:lk F t = some (Ptr b 0)) (hr:j2 H b T cs) (ht:jA P ty) (hl:cs = [v]) (h:jB P F H rs vs):jB P F H (.cell t ty::rs) (v::vs)
def oF:List Value→Value
  | [v]=>v
  | vs=>.tuple vs.toArray
def oG (t:Array Value):ResultVar→Sem Value
  | .tmp k=>pure (t.getD k undef)
  | .cell a ty=>do loadVar ty (← asAddr (t.getD a undef))
theorem nK {P:Program} {fn:Func} {F:cv} {H:List aF} {rs:List ResultVar} {vs:List Value} {t:Array Value} {bs:List Nat} {n0:Nat} {w:World} (hf:fn.results.toList = rs) (hF:k7 F t) (hp:bB bs n0 H w) (h:jB P F H rs vs) :
    (results fn t).run P w = .ok (oF vs) w:=by
  have get:∀{k:Nat} {v:Value},t[k]? = some v→t.getD k undef = v:=fun h=>by simp [h]
  have key:∀{rs vs},jB P F H rs vs→(rs.mapM (oG t)).run P w = .ok vs w:=by
    intro rs vs h
    induction h with
    | nil=>simp
    | tmp hv h ih =>
      have h1:oG t (.tmp _) = pure _:=congrArg pure (get (hF _ _ hv))
      simp only [List.mapM_cons,Sem.run_bind,h1,Sem.run_pure,Result.andThen_ok,ih]
    | @agg t' ty b T n cs LR vs' hv hr ht hl h ih =>
      have h1:=get (hF _ _ hv)
      have h2:=gw (P:=P) (t:=ty) (off:=0) (w:=w) hl (fun j v hv=>by rw [Nat.zero_add,cell_of (hp.holds _ hr.mem)]; exact hv)
      simp only [List.mapM_cons,Sem.run_bind,oG,h1,asAddr,Sem.run_pure,h2,Result.andThen_ok,ih]
    | @one t' ty b T v cs LR vs' hv hr ht hl h ih =>
      have h1:=get (hF _ _ hv)
      subst hl
      have h2:=iH (P:=P) (t:=ty) (a:=⟨b,0,none⟩) (v:=v) ((cell_of (hp.holds _ hr.mem) 0).trans rfl)
      simp only [List.mapM_cons,Sem.run_bind,oG,h1,asAddr,Sem.run_pure,h2,Result.andThen_ok,ih]
  have hr:fn.results = rs.toArray:=by rw [← hf]
  have hk:=key h
  show (do let vs ← fn.results.mapM (oG t); pure (if h:vs.size = 1 then vs[0] else .tuple vs):Sem Value).run P w = _
  rw [hr,List.mapM_toArray]
  simp only [Sem.run_bind,Sem.run_map,hk,Result.andThen_ok]
  match vs with
  | []=>simp [oF]
  | [v]=>simp [oF]
  | u::v::r=>simp [oF]
def Bq {α:Type} (c:Cx) (p:α→Prop) (fv:α→Value) (fH:α→List aF):Ending→World→Prop:=
  fun e w'=>∃x,p x∧e = .returned (fv x)∧aR c.bs c.w0 w'∧bB c.bs c.w0.heap.size (fH x) w'
def Post {α:Type} (P:Program) (c:Cx) (fn:Func) (p:α→Prop) (fv:α→Value) (fH:α→List aF):Exit→Act→World→Prop:=
  bodyPostM (FA none) 0 P fn (Bq c p fv fH)
section
variable {α:Type} {P:Program} {N:Nat} {c:Cx} {fn:Func} {p:α→Prop} {fv:α→Value} {fH:α→List aF} {F:cv} {H:List aF}
theorem nj {a:Act} {w:World} {vs:List Value} {rs:List ResultVar} (hst:St N c [] F H a w) (x:α) (hf:fn.results.toList = rs) (hr:jB P F H rs vs) (hp:p x) (hv:oF vs = fv x) {ks:List Nat}
    (hk:pick H ks = some (fH x)) (hn:ks.Nodup):LeavesInM (FA none) 0 P fn a.tmps (Bq c p fv fH) [] .returning w:=
  ⟨_,nK hf hst.fr hst.hp hr,x,hp,by rw [hv],hst.si,hst.hp.pick hk hn⟩
theorem dL (x:α) {vs:List Value} {rs:List ResultVar} (hf:fn.results.toList = rs) (hr:jB P F H rs vs) (hp:p x) (hv:oF vs = fv x) {ks:List Nat} (hk:pick H ks = some (fH x)) (hn:ks.Nodup) :
    WQ N c [] (Post P c fn p fv fH) .ret F H:=fun a w hst=>by
  show LeavesInM (FA none) 0 P fn a.tmps _ a.defers .returning w
  rw [hst.df]
  exact nj hst x hf hr hp hv hk hn
theorem rH (x:α) {vs:List Value} {rs:List ResultVar} (hf:fn.results.toList = rs) (hr:jB P F H rs vs) (hp:p x) (hv:oF vs = fv x) {ks:List Nat} (hk:pick H ks = some (fH x)) (hn:ks.Nodup) :
    WQ N c [] (Post P c fn p fv fH) .normal F H:=fun a w hst=>by
  show LeavesInM (FA none) 0 P fn a.tmps _ a.defers .returning w
  rw [hst.df]
  exact nj hst x hf hr hp hv hk hn
def mark (d:Nat):Deferred:={ target:=.collected d,args:=#[] }
theorem St.BF {D:List Deferred} {a:Act} {w:World} {d:Nat} {o' : Obj} {H' : List aF} (hst:St N c D F H a w) [ho:nH H d (.deferred (some []))] (hs:n9 H d o' H') :
    St N c D F H' a (w.putObj d o'):=by
  have hm:=hst.hp.holds _ ho.mem
  have hd:w.heap[d]? = some (.deferred (some [])):=hm
  have hlt:=(Array.getElem?_eq_some_iff.1 hd).1
  have lA:aR [d] w (w.putObj d o'):=⟨rfl,rfl,rfl,by simp [World.putObj],fun k _ hk=>World.putObj_heap_other (by simpa using hk)⟩
  refine ⟨hst.tm,hst.fr,hst.df,hst.si.store hst.hp ho.mem (by simp [aF.fG]) lA,?_⟩
  obtain ⟨k,o,hk,rfl⟩:=hs.ok
  refine hst.hp.set hk lA.size (fun j hj hne=>lA.block j hj hne) (World.putObj_heap_same hlt) hst.si.size (fun b hb=>?_)
  have e:b = d:=by simpa [aF.fG] using hb
  subst e
  exact ⟨.inl (by simp [aF.fG]),by rw [World.putObj]; simpa using hlt⟩
theorem tO {D:List Deferred} {a:Act} {w:World} {d:Nat} {H' : List aF} (hst:St N c (mark d::D) F H a w) [nH H d (.deferred (some []))] [hs:n9 H d (.deferred none) H'] {R:Ending→World→Prop}
    (h:St N c (mark d::D) F H' a (w.putObj d (.deferred none))→LeavesInM (FA none) 0 P fn a.tmps R D .returning (w.putObj d (.deferred none))) :
    LeavesInM (FA none) 0 P fn a.tmps R (mark d::D) .returning w:=by
  have ho:nH H d (.deferred (some [])):=inferInstance
  have hd:w.heap[d]? = some (.deferred (some [])):=hst.hp.holds _ ho.mem
  exact ⟨by simp, .inl ⟨d,_,rfl,run_takeDeferred hd,h (hst.BF hs)⟩⟩
theorem ic (x:α) {d:Nat} {H' : List aF} [nH H d (.deferred (some []))] [hs:n9 H d (.deferred none) H'] {vs:List Value} {rs:List ResultVar} (hf:fn.results.toList = rs) (hr:jB P F H' rs vs) (hp:p x) (hv:oF vs = fv x) {ks:List Nat} (hk:pick H' ks = some (fH x)) (hn:ks.Nodup) :
    WQ N c [mark d] (Post P c fn p fv fH) .ret F H:=fun a w hst=>by
  show LeavesInM (FA none) 0 P fn a.tmps _ a.defers .returning w
  rw [hst.df]
  exact tO (hs:=hs) hst fun h=>nj (a:={ a with defers:=[] }) ⟨h.tm,h.fr,rfl,h.si,h.hp⟩ x hf hr hp hv hk hn
end
def v7:Nat→List Value→cv
  | _,[]=>[]
  | i,v::r=>(i,v)::v7 (i + 1) r
theorem zF:∀(args:List Value) (i d:Nat) (v:Value),lk (v7 i args) d = some v→i ≤ d∧args[d - i]? = some v:=by
  intro args
  induction args with
  | nil=>intro i d v h; simp [v7,lk] at h
  | cons u r ih =>
    intro i d v h
    simp only [v7,lk] at h
    by_cases e:i = d
    · subst e; simp at h; subst h; simp
    · rw [jq e] at h
      obtain ⟨h1,h2⟩:=ih (i + 1) d v h
      exact ⟨by omega,by rw [show d - i = (d - (i + 1)) + 1 from by omega]; simpa using h2⟩
theorem fF {α:Type} {P:Program} {f:Nat} {fn:Func} {code:Code} {N:Nat} {args:List Value} {pre:World→Prop} {lK:List aF} {p:α→Prop} {fv:α→Value} {fH:α→List aF}
    (hf:P.funcs[f]? = some fn) (hname:(fn.name == "runtime.NumGoroutine") = false) (hb:fn.body = some code) (hN:fn.ntmps = N) (ha:Nat.ble args.length N = true)
    (h:∀c:Cx,c.bs = br lK→pre c.w0→c.ro = none→WP P N c [] code (Post P c fn p fv fH) (v7 0 args) lK):Fn P f args pre lK p fv fH:=by
  refine ⟨fun args w=>?_,fun w hw hH=>?_⟩
  · have h1:fn.name ≠ "runtime.NumGoroutine":=by simpa using hname
    simp [callFunc,hf,h1,hb,Go.mark]
  · refine (callsIn_wide (n:=0)).1 (callsIn_of_wp_marks (F:=Fence.wide) hf hb trivial ?_)
    refine h ⟨none,w,br lK⟩ rfl hw rfl _ w ⟨?_,?_,rfl,aR.refl _ _,hH⟩
    · have:=Nat.le_of_ble_eq_true ha
      simp; omega
    · intro d v hd
      obtain ⟨_,h2⟩:=zF args 0 d v hd
      simp only [Nat.sub_zero] at h2
      have hlt:=(List.getElem?_eq_some_iff.1 h2).1
      rw [Array.getElem?_append_left (by simpa using hlt)]
      simpa using h2
section
variable {α:Type} {P:Program} {N:Nat} {c:Cx} {F:cv} {H:List aF} {d:Option Tmp} {ty:TypeId} {ps:String} {af:Array Edge} {g:Option (Nat × Bool)}
theorem ji {P:Program} {f:Nat} {args:Array Value} {w:World} {R:Ending→World→Prop} (ro:Option Nat) (h:Calls P f args w R):CallsIn (FA ro) 0 P f args w R:=
  ⟨trivial,fun cs _=>by
    obtain ⟨e,w',fr,r,s,x⟩:=((callsIn_wide (n:=0)).2 h).2 cs (room_wide _)
    exact ⟨e,w',fr,r,s,x⟩⟩
theorem yR {x:Operand} {args:List Operand} {ats:Array TypeId} {f:Nat} {fst cap:Array Value} {us vs:List Value} {pre:World→Prop} {p:α→Prop} {fv:α→Value} {fH:α→List aF}
    (hc:Fn P f vs pre [] p fv fH) (hx:ev F x = some (.func (.func f) fst cap)) (ha:nx F args = some us) (hv:fst.toList++us++cap.toList = vs)
    (hpre:∀w,aR c.bs c.w0 w→bB c.bs c.w0.heap.size H w→pre w) :
    RX P N c ⟨d, .call ⟨.value x,args.toArray,ats⟩,ty,ps,af,g⟩ F H p fv (fun i=>fH i++H):=fun D a w next Q hst hk=>by
  refine ⟨fun _ _=>trivial,?_⟩
  have hs:Oper.semAt (FA c.ro).round a.eval (⟨d, .call ⟨.value x,args.toArray,ats⟩,ty,ps,af,g⟩ : Oper) = execOp a.eval ⟨d, .call ⟨.value x,args.toArray,ats⟩,ty,ps,af,g⟩:=Oper.semAt_eq _ _ _ (by simp)
  have hr:(execOp a.eval ⟨d, .call ⟨.value x,args.toArray,ats⟩,ty,ps,af,g⟩).run P w = .ok (.enter f vs.toArray) w:=by
    have e1:=aV hst.fr hx
    have e2:=o4 hst.fr ha
    have e3:fst++(args.toArray.map a.eval)++cap = vs.toArray:=by
      rw [← hv,← e2]
      simp
    simp only [execOp,resolve,e1,Deferred.ofValue,Sem.run_bind,Sem.run_pure,Result.andThen_ok,invoke,e3]
    exact hc.enter _ _
  rw [hs,hr]
  refine ⟨fun h=>by simp at h,ji c.ro ?_⟩
  have sO:=hc.calls w (hpre w hst.si hst.hp) (bB.nil _ _ _)
  intro cs
  obtain ⟨e,w',fr,⟨i,hp,he,hsi,hh⟩,rest⟩:=sO cs
  refine ⟨e,w',fr,?_,rest⟩
  subst he
  refine hk i w' hp (hst.si.ext hsi) ?_
  have hH:=hst.hp.ext hsi
  refine ⟨fun r hm=>?_,fun r hm b hb=>?_,?_⟩
  · rcases List.mem_append.1 hm with h1 | h1
    · exact hh.holds r h1
    · exact hH.holds r h1
  · rcases List.mem_append.1 hm with h1 | h1
    · obtain ⟨o,l⟩:=hh.own r h1 b hb
      simp [br] at o
      exact ⟨.inr (Nat.le_trans hst.si.size o),l⟩
    · exact hH.own r h1 b hb
  · refine List.pairwise_append.2 ⟨hh.apart,hH.apart,fun r h1 s h2 b hb zT=>?_⟩
    have l:=(hst.hp.own s h2 b zT).2
    obtain ⟨o,_⟩:=hh.own r h1 b hb
    simp [br] at o
    omega
theorem fI {args:List Operand} {ats:Array TypeId} {f:Nat} {vs:List Value} {pre:World→Prop} {p:α→Prop} {fv:α→Value} {fH:α→List aF}
    (hc:Fn P f vs pre [] p fv fH) (ha:nx F args = some vs) (hpre:∀w,aR c.bs c.w0 w→bB c.bs c.w0.heap.size H w→pre w) :
    RX P N c ⟨d, .call ⟨.value (.func f),args.toArray,ats⟩,ty,ps,af,g⟩ F H p fv (fun i=>fH i++H):=
  yR (fst:=#[]) (cap:=#[]) (us:=vs) hc rfl ha (by simp) hpre
theorem c9 {args:List Operand} {ats:Array TypeId} {f:Nat} {vs:List Value} {v:Value} {pre:World→Prop} (hc:wE P f vs pre v) (ha:nx F args = some vs) (hpre:∀w,aR c.bs c.w0 w→bB c.bs c.w0.heap.size H w→pre w) :
    VS P N c ⟨d, .call ⟨.value (.func f),args.toArray,ats⟩,ty,ps,af,g⟩ F H v:=fun D a w next Q hst hk=>by
  refine ⟨fun _ _=>trivial,?_⟩
  have hs:Oper.semAt (FA c.ro).round a.eval (⟨d, .call ⟨.value (.func f),args.toArray,ats⟩,ty,ps,af,g⟩ : Oper) = execOp a.eval ⟨d, .call ⟨.value (.func f),args.toArray,ats⟩,ty,ps,af,g⟩:=Oper.semAt_eq _ _ _ (by simp)
  have hr:(execOp a.eval ⟨d, .call ⟨.value (.func f),args.toArray,ats⟩,ty,ps,af,g⟩).run P w = .ok (.enter f vs.toArray) w:=by
    have e2:=o4 hst.fr ha
    have e1:a.eval (.func f) = .func (.func f) #[] #[]:=rfl
    have e3:#[]++(args.toArray.map a.eval)++#[] = vs.toArray:=by rw [← e2]; simp
    simp only [execOp,resolve,e1,Deferred.ofValue,Sem.run_bind,Sem.run_pure,Result.andThen_ok,invoke,e3]
    exact hc.enter _ _
  rw [hs,hr]
  refine ⟨fun h=>by simp at h,ji c.ro ?_⟩
  have sO:=hc.calls w (hpre w hst.si hst.hp) (bB.nil _ _ _)
  intro cs
  obtain ⟨e,w',fr,⟨i,hp,he,hsi,hh⟩,rest⟩:=sO cs
  refine ⟨e,w',fr,?_,rest⟩
  subst he
  exact hk w' hsi
end
end Go.Bw
namespace Go.Bw
open Go Go.RowKit
theorem qt {F:cv}:∀{ks:List Nat} {d:Nat} {v:Value},d ∈ ks→lk F d = some v→lk (gK F ks) d = some v:=by
  intro ks
  induction ks with
  | nil=>intro d v h; simp at h
  | cons k r ih =>
    intro d v h hl
    simp only [gK]
    by_cases e:k = d
    · subst e; rw [hl]; simp [lk]
    · have hm:d ∈ r:=by simpa [Ne.symm e] using h
      split
      · simp only [lk,jq e,cond_false]; exact ih hm hl
      · exact ih hm hl
section
variable (ops:Array Oper)
def rF (i:Nat):List Nat:=match ops[i]? with
  | some o=>(o.after.toList.filter fun e=>Region.binds .any e).map (·.on)
  | none=>[]
def gY (i:Nat):Option Nat:=(ops[i]?).bind (·.dst)
end
variable {P:Program} {N:Nat} {c:Cx} {D:List Deferred} {ops:Array Oper} {Q:Exit→Act→World→Prop}
def VG (P:Program) (N:Nat) (c:Cx) (ops:Array Oper) (o:Oper) (F:cv) (H:List aF) (v:Value):Prop:=
  ∀D a w next Q,St N c D F H a w→(∀w',aR [] w w'→next (a.put o.dst v) w')→if Region.wanted o (yielded ops a.tmps) then o.wpIn (FA c.ro) 0 P a w next Q else next (a.put o.dst undef) w
theorem yM {o:Oper} {F:cv} {H:List aF} {v:Value} (hg:o.guard = none) (h:VS P N c o F H v):VG P N c ops o F H v:=fun D a w next Q hst hk=>by
  simp only [Region.wanted,hg,if_true]
  exact h D a w next Q hst hk
theorem tg {o:Oper} {F:cv} {H:List aF} {v:Value} {b:Bool} (hg:Gd ops F o.guard b) (h:b = true→VS P N c o F H v):VG P N c ops o F H (bif b then v else undef):=fun D a w next Q hst hk=>by
  rw [hg o a rfl hst.fr]
  cases b with
  | false=>exact hk w (aR.refl _ _)
  | true=>exact h rfl D a w next Q hst hk
def RG {α:Type} (P:Program) (N:Nat) (c:Cx) (ops:Array Oper) (o:Oper) (F:cv) (H:List aF) (p:α→Prop) (fv:α→Value) (fH:α→List aF):Prop:=
  ∀D a w next Q,St N c D F H a w→(∀x w',p x→aR c.bs c.w0 w'→bB c.bs c.w0.heap.size (fH x) w'→next (a.put o.dst (fv x)) w')→if Region.wanted o (yielded ops a.tmps) then o.wpIn (FA c.ro) 0 P a w next Q else next (a.put o.dst undef) w
theorem AK {α:Type} {o:Oper} {F:cv} {H:List aF} {p:α→Prop} {fv:α→Value} {fH:α→List aF} (hg:o.guard = none) (h:RX P N c o F H p fv fH):RG P N c ops o F H p fv fH:=fun D a w next Q hst hk=>by
  simp only [Region.wanted,hg,if_true]
  exact h D a w next Q hst hk
abbrev Fl:=Nat × List Nat
def me (P:Program) (N:Nat) (c:Cx) (ops:Array Oper) (F:cv) (H:List aF):List Fl→Prop
  | []=>True
  | (i,ks)::r=>(∃o d v,ops[i]? = some o∧o.dst = some d∧lk F d = some v∧VG P N c ops o (gK F ks) H v)∧me P N c ops F H r
def gq (P:Program) (N:Nat) (c:Cx) (ops:Array Oper) (H:List aF):List Fl→cv→(cv→Prop)→Prop
  | [],F,K=>K F
  | (i,ks)::r,F,K=>∃o d v,ops[i]? = some o∧o.dst = some d∧Nat.blt d N = true∧VG P N c ops o (gK F ks) H v∧gq P N c ops H r ((d,v)::F) K
inductive Tr where
  | fin (re new:List Fl)
  | mm (re new:List Fl) (t:Tr)
  | alt (s:Nat) (ks:List Nat) (here more:Tr)
  | no
def Tr.alts:Tr→List Nat
  | .alt s _ _ more=>s::more.alts
  | _=>[]
def Tr.p9:Tr→Bool
  | .fin _ _=>true
  | .mm _ _ _=>true
  | _=>false
def lE (P:Program) (N:Nat) (c:Cx) (D:List Deferred) (ops:Array Oper) (Q:Exit→Act→World→Prop):Tr→cv→List aF→Prop
  | .fin re new,F,H=>me P N c ops F H re∧gq P N c ops H new F fun F'=>WQ N c D Q .normal F' H
  | .mm re new t,F,H=>me P N c ops F H re∧gq P N c ops H new F fun F'=>lE P N c D ops Q t F' H
  | .alt s ks here more,F,H=>(∃(o:Oper) (α:Type) (p:α→Prop) (fv:α→Value) (fH:α→List aF),ops[s]? = some o∧DQ N o.dst = true∧RG P N c ops o (gK F ks) H p fv fH∧∀x,p x→lE P N c D ops Q here (pt o.dst (fv x) F) (fH x))∧lE P N c D ops Q more F H
  | .no,_,_=>True
def Hu (ops:Array Oper) (s:Nat):List Nat:=(List.range s).reverse.foldl (fun acc j=>if (rF ops s).contains j || acc.any (fun k=>(rF ops k).contains j) then j::acc else acc) []
def jU (ops:Array Oper) (pu:List Nat) (i d:Nat):Bool:=pu.all fun j=>!(gY ops j == some d) || (rF ops i).contains j
def m9 (ops:Array Oper) (pu:List Nat):(seen:List Nat)→List Fl→Bool
  | _,[]=>true
  | seen,(i,ks)::r=>(rF ops i).all seen.contains && !seen.contains i && pu.contains i && ks.all (jU ops pu i) && m9 ops pu (i::seen) r
def xu (ops:Array Oper) (pu:List Nat):Tr→(en kC iQ:List Nat)→Bool
  | .fin re new,en,kC,iQ=>kC.all (re.map (·.1)).contains && re.all (fun q=>q.2.all (jU ops pu q.1)) && m9 ops pu (en++iQ) new &&
      (List.range ops.size).all fun i=>en.contains i || (new.map (·.1)).contains i || iQ.contains i
  | .mm re new t,en,kC,iQ =>
    kC.all (re.map (·.1)).contains && re.all (fun q=>q.2.all (jU ops pu q.1)) && m9 ops pu (en++iQ) new &&
    (List.range ops.size).all (fun i=>t.alts.contains i || (new.map (·.1)).contains i || en.contains i || iQ.contains i || (rF ops i).any fun j=>!((new.map (·.1)).contains j || en.contains j || iQ.contains j)) &&
    !t.alts.isEmpty && xu ops pu t (en++new.map (·.1)) (kC++new.map (·.1)) iQ
  | .alt s ks here more,en,kC,iQ=>ks.all (jU ops pu s) && !pu.contains s && !iQ.contains s && here.p9 && xu ops pu here en (kC.filter fun i=>!(Hu ops s).contains i) (s::iQ) && xu ops pu more en kC iQ
  | .no,_,_,_=>true
def zz (ops:Array Oper) (pu:List Nat):Bool:=
  (List.range ops.size).all (fun i=>(rF ops i).all fun j=>Nat.blt j i) &&
  pu.all fun j=>(List.range ops.size).all fun i=>i == j || !(gY ops i == gY ops j) || (gY ops j).isNone
def qj:Tr→List Nat
  | .fin _ new=>new.map (·.1)
  | .mm _ new t=>new.map (·.1)++qj t
  | .alt _ _ here more=>qj here++qj more
  | .no=>[]
def AX (ops:Array Oper) (t:Tr):Bool:=t.p9 && zz ops (qj t) && xu ops (qj t) t [] [] []
def dn (l:Array Bool) (j:Nat):Prop:=l.getD j false = true
theorem gD {l:Array Bool} {i j:Nat} (hi:i < l.size):dn (l.setIfInBounds i true) j↔dn l j∨j = i:=by
  unfold dn
  simp only [Array.getD_eq_getD_getElem?,Array.getElem?_setIfInBounds]
  by_cases e:i = j
  · subst e; simp [hi]
  · simp [e,Ne.symm e]
theorem mem_ready {l:Array Bool} {i:Nat} (hs:l.size = ops.size):i ∈ Region.ready .any ops l↔i < ops.size∧¬ dn l i∧∀j ∈ rF ops i,dn l j:=by
  unfold Region.ready dn rF
  simp only [List.mem_filter,List.mem_range,Bool.and_eq_true,Bool.not_eq_true']
  constructor
  · rintro ⟨h1,h2,h3⟩
    have hi:i < l.size:=by omega
    refine ⟨h1,?_,?_⟩
    · simp [Array.getD_eq_getD_getElem?,hi] at h2 ⊢; exact h2
    · cases ho:ops[i]? with
      | none=>simp
      | some o =>
        simp only [ho,Option.map_some,Option.getD_some,Array.all_eq_true'] at h3
        simp only [List.mem_map,List.mem_filter]
        rintro j ⟨e,⟨he,hb⟩,rfl⟩
        have:=h3 e (by simpa using he)
        simpa [hb] using this
  · rintro ⟨h1,h2,h3⟩
    have hi:i < l.size:=by omega
    have ho:ops[i]? = some ops[i]:=Array.getElem?_eq_getElem h1
    refine ⟨h1,?_,?_⟩
    · simp [Array.getD_eq_getD_getElem?,hi] at h2 ⊢; exact h2
    · simp only [ho,Option.map_some,Option.getD_some,Array.all_eq_true']
      simp only [ho,List.mem_map,List.mem_filter] at h3
      intro e he
      cases hb:Region.binds .any e with
      | false=>simp
      | true=>simp only [Bool.not_true,Bool.false_or]; exact h3 e.on ⟨e,⟨by simpa using he,hb⟩,rfl⟩
theorem yA {l:Array Bool} {s:Nat} (Jw:∀j,dn l j→∀k ∈ rF ops j,dn l k) (hs:∀j ∈ rF ops s,dn l j):∀j ∈ Hu ops s,dn l j:=by
  have key:∀(L:List Nat) (acc:List Nat),(∀j ∈ acc,dn l j)→∀j ∈ L.foldl (fun acc j=>if (rF ops s).contains j || acc.any (fun k=>(rF ops k).contains j) then j::acc else acc) acc,dn l j:=by
    intro L
    induction L with
    | nil=>intro acc h; exact h
    | cons x L ih =>
      intro acc h
      simp only [List.foldl_cons]
      refine ih _ ?_
      split
      · rename_i hc
        intro j hj
        rcases List.mem_cons.1 hj with rfl | hj
        · simp only [Bool.or_eq_true,List.contains_eq_mem,decide_eq_true_eq,List.any_eq_true] at hc
          rcases hc with hc | ⟨k,hk,hc⟩
          · exact hs _ hc
          · exact Jw k (h k hk) _ hc
        · exact h j hj
      · exact h
  exact key _ [] (by simp)
structure Inv (P:Program) (N:Nat) (c:Cx) (D:List Deferred) (ops:Array Oper) (pu en pn iQ:List Nat) (l:Array Bool) (F:cv) (H:List aF) (a:Act) (w:World):Prop where
  size:l.size = ops.size
  seen:∀j,dn l j→j ∈ en∨j ∈ iQ
  sp:∀j ∈ iQ,dn l j
  kC:∀j ∈ en,¬ dn l j→j ∈ pn
  v9:∀j ∈ en,j ∈ pu
  back:∀j ∈ en,∀k ∈ rF ops j,k ∈ en∨k ∈ iQ
  tm:a.tmps.size = N
  df:a.defers = D
  si:aR c.bs c.w0 w
  hp:bB c.bs c.w0.heap.size H w
  cl:∀j,dn l j→∀k ∈ rF ops j,dn l k
  fr:∀d v,lk F d = some v→(∀j ∈ en,gY ops j = some d→dn l j)→a.tmps[d]? = some v
def AE (P:Program) (N:Nat) (c:Cx) (ops:Array Oper) (pu:List Nat) (F:cv) (H:List aF) (j:Nat):Prop:=
  ∃ks o d v,ops[j]? = some o∧o.dst = some d∧Nat.blt d N = true∧lk F d = some v∧VG P N c ops o (gK F ks) H v∧∀k ∈ ks,jU ops pu j k = true
theorem Inv.st {pu en pn iQ:List Nat} {l:Array Bool} {F:cv} {H:List aF} {a:Act} {w:World} (h:Inv P N c D ops pu en pn iQ l F H a w) {i:Nat} {ks:List Nat} (hk:∀k ∈ ks,jU ops pu i k = true)
    (hr:∀j ∈ rF ops i,dn l j):St N c D (gK F ks) H a w:=by
  refine ⟨h.tm,fun d v hd=>?_,h.df,h.si,h.hp⟩
  obtain ⟨h1,h2⟩:=qT hd
  refine h.fr d v h2 fun j hj n5=>?_
  have:=hk d h1
  simp only [jU,List.all_eq_true,Bool.or_eq_true,Bool.not_eq_true',List.contains_eq_mem,decide_eq_true_eq] at this
  rcases this j (h.v9 j hj) with h3 | h3
  · rw [n5] at h3; simp at h3
  · exact hr j h3
theorem sy {pu:List Nat} (h:zz ops pu = true) {i j:Nat} (hi:i < ops.size) (hj:j ∈ rF ops i):j < i:=by
  simp only [zz,Bool.and_eq_true,List.all_eq_true,List.mem_range] at h
  have:=h.1 i hi j hj
  simpa [Nat.blt_eq] using this
theorem u6 {pu:List Nat} (h:zz ops pu = true) {i j d:Nat} (hj:j ∈ pu) (hi:gY ops i = some d) (hd:gY ops j = some d):i = j:=by
  simp only [zz,Bool.and_eq_true,List.all_eq_true,List.mem_range] at h
  have hlt:i < ops.size:=by
    unfold gY at hi
    cases ho:ops[i]? with
    | none=>simp [ho] at hi
    | some o=>exact (Array.getElem?_eq_some_iff.1 ho).1
  have:=h.2 j hj i hlt
  rw [hi,hd] at this
  simpa using this
theorem mJ {i:Nat} {o:Oper} {d:Nat} (ho:ops[i]? = some o) (hd:o.dst = some d):gY ops i = some d:=by simp [gY,ho,hd]
theorem vO {pu:List Nat} (hD:zz ops pu = true) {H:List aF} {K:cv→Prop}:∀{new:List Fl} {seen:List Nat} {F:cv},gq P N c ops H new F K→m9 ops pu seen new = true →
    ∃F2,K F2∧(∀i ∈ new.map (·.1),i ∈ pu∧i ∉ seen) ∧
      (∀d,(∀j ∈ new.map (·.1),gY ops j ≠ some d)→lk F2 d = lk F d) ∧
      (∀i ∈ new.map (·.1),AE P N c ops pu F2 H i)∧(∀i ∈ new.map (·.1),∀k ∈ rF ops i,k ∈ seen∨k ∈ new.map (·.1)):=by
  intro new
  induction new with
  | nil=>intro seen F h _; exact ⟨F,h,by simp,by simp,by simp,by simp⟩
  | cons q r ih =>
    obtain ⟨i,ks⟩:=q
    intro seen F h hc
    obtain ⟨o,d,v,ho,hd,hN,hv,hn⟩:=h
    simp only [m9,Bool.and_eq_true,Bool.not_eq_true',List.all_eq_true,List.contains_eq_mem,decide_eq_true_eq,decide_eq_false_iff_not] at hc
    obtain ⟨⟨⟨⟨h1,h2⟩,h3⟩,h4⟩,h5⟩:=hc
    obtain ⟨F2,k1,k2,k3,k4,k5⟩:=ih hn h5
    have FX:=mJ ho hd
    refine ⟨F2,k1,?_,?_,?_,?_⟩
    · intro j hj
      rcases List.mem_cons.1 hj with rfl | hj
      · exact ⟨h3,h2⟩
      · obtain ⟨e1,e2⟩:=k2 j hj
        exact ⟨e1,fun hm=>e2 (by simp [hm])⟩
    · intro d' hd'
      rw [k3 d' (fun j hj=>hd' j (by simp only [List.map_cons]; exact List.mem_cons_of_mem _ hj))]
      have:¬ d = d':=fun e=>hd' i (by simp) (by rw [FX,e])
      simp [lk,jq this]
    · intro j hj
      rcases List.mem_cons.1 hj with rfl | hj
      · refine ⟨ks,o,d,v,ho,hd,hN,?_,?_,h4⟩
        · rw [k3 d (fun j hj n5=>by
            have:=u6 hD (k2 j hj).1 FX n5
            exact (k2 j hj).2 (by simp [← this]))]
          simp [lk]
        · intro D' a w next Q' hst hk
          refine hv D' a w next Q' (hst.sub fun d' v' hl=>?_) hk
          obtain ⟨e1,e2⟩:=qT hl
          refine qt e1 ?_
          rw [k3 d' (fun j hj n5=>by
            have hkk:=h4 d' e1
            simp only [jU,List.all_eq_true,Bool.or_eq_true,Bool.not_eq_true',List.contains_eq_mem,decide_eq_true_eq] at hkk
            rcases hkk j (k2 j hj).1 with h6 | h6
            · rw [n5] at h6; simp at h6
            · exact (k2 j hj).2 (by simp [h1 j h6]))]
          have:¬ d = d':=fun e=>by
            have hkk:=h4 d' e1
            simp only [jU,List.all_eq_true,Bool.or_eq_true,Bool.not_eq_true',List.contains_eq_mem,decide_eq_true_eq] at hkk
            rcases hkk j h3 with h6 | h6
            · rw [FX,e] at h6; simp at h6
            · exact h2 (h1 j h6)
          simp only [lk,jq this,cond_false]
          exact e2
      · exact k4 j hj
    · intro j hj k hk
      rcases List.mem_cons.1 hj with rfl | hj
      · exact .inl (h1 k hk)
      · rcases k5 j hj k hk with h6 | h6
        · rcases List.mem_cons.1 h6 with rfl | h6
          · exact .inr (by simp)
          · exact .inl h6
        · exact .inr (by simp only [List.map_cons]; exact List.mem_cons_of_mem _ h6)
theorem xn {F:cv} {H:List aF}:∀{re:List Fl} {i:Nat},me P N c ops F H re→i ∈ re.map (·.1)→∃ks o d v,(i,ks) ∈ re∧ops[i]? = some o∧o.dst = some d∧lk F d = some v∧VG P N c ops o (gK F ks) H v:=by
  intro re
  induction re with
  | nil=>intro i _ hi; simp at hi
  | cons q r ih =>
    obtain ⟨j,ks⟩:=q
    intro i h hi
    obtain ⟨⟨o,d,v,h1,h2,h3,h4⟩,h5⟩:=h
    rcases List.mem_cons.1 hi with rfl | hi
    · exact ⟨ks,o,d,v,by simp,h1,h2,h3,h4⟩
    · obtain ⟨ks',o',d',v',e1,e2⟩:=ih h5 hi
      exact ⟨ks',o',d',v',by simp [e1],e2⟩
def Cont (P:Program) (N:Nat) (c:Cx) (D:List Deferred) (ops:Array Oper) (Q:Exit→Act→World→Prop) (pu:List Nat) (en pn iQ:List Nat) (F:cv) (H:List aF):Prop:=
  ((∀i,i < ops.size→i ∈ en∨i ∈ iQ)∧WQ N c D Q .normal F H) ∨
  ∃t:Tr,lE P N c D ops Q t F H∧xu ops pu t en pn iQ = true∧t.alts ≠ []∧(∀i,i < ops.size→i ∈ t.alts∨i ∈ en∨i ∈ iQ∨∃j ∈ rF ops i,j ∉ en∧j ∉ iQ)
theorem vj {pu en pn iQ:List Nat} {F:cv} {H:List aF} {i:Nat}:∀{t:Tr},i ∈ t.alts→lE P N c D ops Q t F H→xu ops pu t en pn iQ = true →
    ∃(ks:List Nat) (o:Oper) (α:Type) (p:α→Prop) (fv:α→Value) (fH:α→List aF) (r:Tr),ops[i]? = some o∧DQ N o.dst = true∧RG P N c ops o (gK F ks) H p fv fH∧(∀x,p x→lE P N c D ops Q r (pt o.dst (fv x) F) (fH x)) ∧
      (∀k ∈ ks,jU ops pu i k = true)∧i ∉ pu∧i ∉ iQ∧r.p9 = true∧xu ops pu r en (pn.filter fun j=>!(Hu ops i).contains j) (i::iQ) = true:=by
  intro t
  induction t with
  | fin re new=>intro h; simp [Tr.alts] at h
  | mm re new t _=>intro h; simp [Tr.alts] at h
  | no=>intro h; simp [Tr.alts] at h
  | alt s ks here more _ ih =>
    intro h hs hc
    obtain ⟨h1,h2⟩:=hs
    simp only [xu,Bool.and_eq_true,Bool.not_eq_true',List.all_eq_true] at hc
    obtain ⟨⟨⟨⟨⟨c1,c2⟩,c3⟩,c4⟩,c5⟩,c6⟩:=hc
    rcases List.mem_cons.1 h with rfl | h
    · obtain ⟨o,α,p,fv,fH,e1,e2,e3,e4⟩:=h1
      exact ⟨ks,o,α,p,fv,fH,here,e1,e2,e3,e4,c1,by simpa using c2,by simpa using c3,c4,c5⟩
    · exact ih h h2 c6
theorem BO {i:Nat} {d:Nat} (h:gY ops i = some d):i < ops.size:=by
  unfold gY at h
  cases ho:ops[i]? with
  | none=>simp [ho] at h
  | some o=>exact (Array.getElem?_eq_some_iff.1 ho).1
theorem enter {pu:List Nat} (hD:zz ops pu = true) {en kC iQ:List Nat} {l:Array Bool} {F:cv} {H:List aF} {a:Act} {w:World} {st:Tr} (hst:st.p9 = true)
    (hI:Inv P N c D ops pu en kC iQ l F H a w) (hN:∀j ∈ en,∀d,gY ops j = some d→Nat.blt d N = true) (hs:lE P N c D ops Q st F H) (hc:xu ops pu st en kC iQ = true) :
    ∃Bj DL F2,Inv P N c D ops pu Bj DL iQ l F2 H a w∧(∀j ∈ Bj,∀d,gY ops j = some d→Nat.blt d N = true)∧(∀j ∈ Bj,¬ dn l j→AE P N c ops pu F2 H j)∧Cont P N c D ops Q pu Bj DL iQ F2 H:=by
  have key:∀{re new:List Fl} {K:cv→Prop},me P N c ops F H re→gq P N c ops H new F K→(∀j ∈ kC,j ∈ re.map (·.1))→(∀q ∈ re,∀k ∈ q.2,jU ops pu q.1 k = true)→m9 ops pu (en++iQ) new = true →
      ∃F2,K F2∧Inv P N c D ops pu (en++new.map (·.1)) (kC++new.map (·.1)) iQ l F2 H a w∧(∀j ∈ en++new.map (·.1),∀d,gY ops j = some d→Nat.blt d N = true)∧(∀j ∈ en++new.map (·.1),¬ dn l j→AE P N c ops pu F2 H j):=by
    intro re new K Fm hnew hp hk ME
    obtain ⟨F2,k1,k2,k3,k4,k5⟩:=vO hD hnew ME
    refine ⟨F2,k1,⟨hI.size,?_,hI.sp,?_,?_,?_,hI.tm,hI.df,hI.si,hI.hp,hI.cl,?_⟩,?_,?_⟩
    · intro j hj; rcases hI.seen j hj with h | h
      · exact .inl (by simp [h])
      · exact .inr h
    · intro j hj vY
      rcases List.mem_append.1 hj with h | h
      · exact List.mem_append_left _ (hI.kC j h vY)
      · exact List.mem_append_right _ h
    · intro j hj
      rcases List.mem_append.1 hj with h | h
      · exact hI.v9 j h
      · exact (k2 j h).1
    · intro j hj k hk'
      rcases List.mem_append.1 hj with h | h
      · rcases hI.back j h k hk' with h1 | h1
        · exact .inl (by simp [h1])
        · exact .inr h1
      · rcases k5 j h k hk' with h1 | h1
        · rcases List.mem_append.1 h1 with h2 | h2
          · exact .inl (by simp [h2])
          · exact .inr h2
        · exact .inl (List.mem_append_right _ h1)
    · intro d v hl hdn
      by_cases hex:∃j ∈ new.map (·.1),gY ops j = some d
      · obtain ⟨j,hj,n5⟩:=hex
        have h1:=hdn j (List.mem_append_right _ hj) n5
        exact absurd (hI.seen j h1) (fun h2=>(k2 j hj).2 (by rcases h2 with h2 | h2 <;> simp [h2]))
      · rw [k3 d (fun j hj n5=>hex ⟨j,hj,n5⟩)] at hl
        exact hI.fr d v hl (fun j hj n5=>hdn j (List.mem_append_left _ hj) n5)
    · intro j hj d n5
      rcases List.mem_append.1 hj with h | h
      · exact hN j h d n5
      · obtain ⟨ks,o,d',v,e1,e2,e3,_⟩:=k4 j h
        have:=mJ e1 e2
        rw [n5] at this; cases this; exact e3
    · intro j hj vY
      rcases List.mem_append.1 hj with h | h
      · obtain ⟨ks,o,d,v,e0,e1,e2,e3,e4⟩:=xn Fm (hp j (hI.kC j h vY))
        have n5:=mJ e1 e2
        have hkk:∀k ∈ ks,jU ops pu j k = true:=fun k hk'=>hk _ e0 k hk'
        refine ⟨ks,o,d,v,e1,e2,hN j h d n5,?_,?_,hkk⟩
        · rw [k3 d (fun j' hj' CD=>by
            have:=u6 hD (k2 j' hj').1 n5 CD
            subst this
            exact (k2 _ hj').2 (by simp [h]))]
          exact e3
        · intro D' a' w' next Q' hst hk'
          refine e4 D' a' w' next Q' (hst.sub fun d' v' hl=>?_) hk'
          obtain ⟨f1,f2⟩:=qT hl
          refine qt f1 ?_
          rw [k3 d' (fun j' hj' CD=>by
            have hq:=hkk d' f1
            simp only [jU,List.all_eq_true,Bool.or_eq_true,Bool.not_eq_true',List.contains_eq_mem,decide_eq_true_eq] at hq
            rcases hq j' (k2 j' hj').1 with h6 | h6
            · rw [CD] at h6; simp at h6
            · refine (k2 j' hj').2 ?_
              rcases hI.back j h j' h6 with h7 | h7 <;> simp [h7])]
          exact f2
      · exact k4 j h
  cases st with
  | no=>simp [Tr.p9] at hst
  | alt _ _ _ _=>simp [Tr.p9] at hst
  | fin re new =>
    obtain ⟨Fm,hnew⟩:=hs
    simp only [xu,Bool.and_eq_true,List.all_eq_true,List.contains_eq_mem,decide_eq_true_eq,List.mem_range,Bool.or_eq_true] at hc
    obtain ⟨⟨⟨c1,c2⟩,c3⟩,c4⟩:=hc
    obtain ⟨F2,k1,k2,k3,k4⟩:=key Fm hnew c1 c2 c3
    exact ⟨_,_,F2,k2,k3,k4, .inl ⟨fun i hi=>by
      rcases c4 i hi with (h | h) | h
      · exact .inl (by simp [h])
      · exact .inl (List.mem_append_right _ h)
      · exact .inr h,k1⟩⟩
  | mm re new t =>
    obtain ⟨Fm,hnew⟩:=hs
    simp only [xu,Bool.and_eq_true,List.all_eq_true,List.contains_eq_mem,decide_eq_true_eq,List.mem_range,Bool.or_eq_true,Bool.not_eq_true',List.any_eq_true] at hc
    obtain ⟨⟨⟨⟨⟨c1,c2⟩,c3⟩,c7⟩,c6⟩,c8⟩:=hc
    obtain ⟨F2,k1,k2,k3,k4⟩:=key Fm hnew c1 c2 c3
    refine ⟨_,_,F2,k2,k3,k4, .inr ⟨t,k1,c8,fun e=>by simp [e] at c6,fun i hi=>?_⟩⟩
    rcases c7 i hi with (((h | h) | h) | h) | h
    · exact .inl h
    · exact .inr (.inl (List.mem_append_right _ h))
    · exact .inr (.inl (by simp [h]))
    · exact .inr (.inr (.inl h))
    · obtain ⟨j,hj,hn⟩:=h
      refine .inr (.inr (.inr ⟨j,hj,fun hm=>?_,fun hm=>?_⟩))
      · rcases List.mem_append.1 hm with h1 | h1
        · simp [h1] at hn
        · have MM:decide (j ∈ new.map (·.1)) = true:=decide_eq_true h1
          rw [MM] at hn; simp at hn
      · simp [hm] at hn
theorem yB {pu:List Nat} (hD:zz ops pu = true) {l:Array Bool} (hs:l.size = ops.size) (hr:Region.ready .any ops l = []):∀i,i < ops.size→dn l i:=by
  intro i
  induction i using Nat.strongRecOn with
  | _ i ih =>
    intro hi
    by_cases hd:dn l i
    · exact hd
    · have:i ∈ Region.ready .any ops l:=(mem_ready hs).2 ⟨hi,hd,fun j hj=>ih j (sy hD hi hj) (Nat.lt_trans (sy hD hi hj) hi)⟩
      rw [hr] at this; simp at this
def lQ (ops:Array Oper) (l:Array Bool):Nat:=((List.range ops.size).filter fun i=>!l.getD i false).length
theorem filter_le {p q:Nat→Bool} (h:∀x,q x = true→p x = true):∀(L:List Nat),(L.filter q).length ≤ (L.filter p).length:=by
  intro L
  induction L with
  | nil=>simp
  | cons x L ih =>
    by_cases hq:q x = true
    · simp [hq,h x hq,ih]
    · by_cases hp:p x = true
      · simp [hq,hp]; omega
      · simp [hq,hp,ih]
theorem filter_lt {p q:Nat→Bool} (h:∀x,q x = true→p x = true) {i:Nat} (hp:p i = true) (hq:q i = false):∀(L:List Nat),i ∈ L→(L.filter q).length < (L.filter p).length:=by
  intro L
  induction L with
  | nil=>intro hi; simp at hi
  | cons x L ih =>
    intro hi
    by_cases e:i = x
    · subst e
      have:=filter_le h L
      simp [hp,hq]; omega
    · have hi' : i ∈ L:=by simpa [e] using hi
      have:=ih hi'
      by_cases Hg:q x = true
      · simp [Hg,h x Hg]; omega
      · by_cases KJ:p x = true
        · simp [Hg,KJ]; omega
        · simp [Hg,KJ]; omega
theorem tC {l:Array Bool} {i:Nat} (hs:l.size = ops.size) (hi:i < ops.size) (hd:¬ dn l i):lQ ops (l.setIfInBounds i true) < lQ ops l:=by
  unfold lQ
  have oW:i < l.size:=by omega
  refine filter_lt (i:=i) (fun x hx=>?_) ?_ ?_ _ (by simpa using hi)
  · have h1:¬ dn (l.setIfInBounds i true) x:=by simpa [dn] using hx
    have h2:¬ dn l x:=fun h=>h1 ((gD oW).2 (.inl h))
    simpa [dn] using h2
  · simpa [dn] using hd
  · have:dn (l.setIfInBounds i true) i:=(gD oW).2 (.inr rfl)
    simpa [dn] using this
theorem vC {pu:List Nat} (hD:zz ops pu = true):∀(fuel:Nat) (l:Array Bool) (a:Act) (w:World) (en pn iQ:List Nat) (F:cv) (H:List aF),lQ ops l ≤ fuel →
    Inv P N c D ops pu en pn iQ l F H a w→(∀j ∈ en,∀d,gY ops j = some d→Nat.blt d N = true)→(∀j ∈ en,¬ dn l j→AE P N c ops pu F H j)→Cont P N c D ops Q pu en pn iQ F H →
    wpAnyIn (FA c.ro) 0 P .any ops Q fuel l a w:=by
  intro fuel
  have yf:∀(l:Array Bool) (a:Act) (w:World) (en pn iQ:List Nat) (F:cv) (H:List aF),Inv P N c D ops pu en pn iQ l F H a w→Cont P N c D ops Q pu en pn iQ F H→(∀i,i < ops.size→dn l i)→Q .normal a w:=by
    intro l a w en pn iQ F H hI hC jV
    rcases hC with ⟨_,hq⟩ | ⟨t,hst,hok,hne,_⟩
    · refine hq a w ⟨hI.tm,fun d v hl=>hI.fr d v hl fun j _ n5=>jV j (BO n5),hI.df,hI.si,hI.hp⟩
    · obtain ⟨s,hs⟩:=List.exists_mem_of_ne_nil _ hne
      obtain ⟨ks,o,α,p,fv,fH,r,e1,_,_,_,_,e5,e6,_,_⟩:=vj hs hst hok
      have hlt:=(Array.getElem?_eq_some_iff.1 e1).1
      rcases hI.seen s (jV s hlt) with h | h
      · exact absurd (hI.v9 s h) e5
      · exact absurd h e6
  induction fuel with
  | zero =>
    intro l a w en pn iQ F H hu hI hN hV hC
    have jV:∀i,i < ops.size→dn l i:=fun i hi=>by
      unfold lQ at hu
      have h0:(List.range ops.size).filter (fun i=>!l.getD i false) = []:=List.length_eq_zero_iff.1 (by omega)
      rw [List.filter_eq_nil_iff] at h0
      have:=h0 i (by simpa using hi)
      simpa [dn] using this
    refine ⟨?_,yf l a w en pn iQ F H hI hC jV⟩
    cases hr:Region.ready .any ops l with
    | nil=>rfl
    | cons i r =>
      have:i ∈ Region.ready .any ops l:=by rw [hr]; simp
      obtain ⟨h1,h2,_⟩:=(mem_ready hI.size).1 this
      exact absurd (jV i h1) h2
  | succ fuel ih =>
    intro l a w en pn iQ F H hu hI hN hV hC
    refine ⟨fun hr=>yf l a w en pn iQ F H hI hC (yB hD hI.size hr),fun i hi=>?_⟩
    obtain ⟨h1,h2,h3⟩:=(mem_ready hI.size).1 hi
    have oW:i < l.size:=by rw [hI.size]; exact h1
    have KI:lQ ops (l.setIfInBounds i true) ≤ fuel:=by have:=tC hI.size h1 h2; omega
    have F4:∀j,dn (l.setIfInBounds i true) j→∀k ∈ rF ops j,dn (l.setIfInBounds i true) k:=fun j hj k hk=>by
      rcases (gD oW).1 hj with h | rfl
      · exact (gD oW).2 (.inl (hI.cl j h k hk))
      · exact (gD oW).2 (.inl (h3 k hk))
    by_cases Hj:i ∈ en
    ·
      obtain ⟨ks,o,d,v,e1,e2,e3,e4,e5,e6⟩:=hV i Hj h2
      have hst:=hI.st (i:=i) e6 h3
      have FX:=mJ e1 e2
      have step:=e5 D a w (wpAnyIn (FA c.ro) 0 P .any ops Q fuel (l.setIfInBounds i true)) Q hst
      have xA:∀w',aR [] w w'→wpAnyIn (FA c.ro) 0 P .any ops Q fuel (l.setIfInBounds i true) (a.put o.dst v) w':=by
        intro w' hw
        refine ih _ _ _ en pn iQ F H KI ⟨by simp [hI.size],?_,?_,?_,hI.v9,hI.back,?_,?_,hI.si.ext hw,hI.hp.ext hw,F4,?_⟩ hN ?_ hC
        · intro j hj
          rcases (gD oW).1 hj with h | rfl
          · exact hI.seen j h
          · exact .inl Hj
        · intro j hj; exact (gD oW).2 (.inl (hI.sp j hj))
        · intro j hj vY; exact hI.kC j hj fun h=>vY ((gD oW).2 (.inl h))
        · rw [e2]; simp [Act.put,hI.tm]
        · rw [e2]; simp [Act.put,hI.df]
        · intro d' v' hl hdn
          rw [e2]
          have MB:d < a.tmps.size:=by rw [hI.tm]; simpa [Nat.blt_eq] using e3
          by_cases e:d = d'
          · subst e
            rw [e4] at hl; cases hl
            simp [Act.put,MB]
          · simp only [Act.put,Array.getElem?_setIfInBounds,if_neg e]
            refine hI.fr d' v' hl fun j hj n5=>?_
            rcases (gD oW).1 (hdn j hj n5) with h | rfl
            · exact h
            · rw [FX] at n5; cases n5; exact absurd rfl e
        · intro j hj vY
          exact hV j hj fun h=>vY ((gD oW).2 (.inl h))
      have step:=step xA
      unfold wpOpIn
      simp only [e1]
      split
      · rename_i hw; simp only [hw,if_true] at step; exact step
      · rename_i hw; simp only [hw] at step; exact ⟨fun _ _=>trivial,step⟩
    ·
      have hsp:i ∉ iQ:=fun h=>h2 (hI.sp i h)
      rcases hC with ⟨jV,_⟩ | ⟨t,IS,hok,_,e8⟩
      · rcases jV i h1 with h | h
        · exact absurd h Hj
        · exact absurd h hsp
      · have Mx:i ∈ t.alts:=by
          rcases e8 i h1 with h | h | h | ⟨j,hj,h4,h5⟩
          · exact h
          · exact absurd h Hj
          · exact absurd h hsp
          · rcases hI.seen j (h3 j hj) with h | h
            · exact absurd h h4
            · exact absurd h h5
        obtain ⟨ks,o,α,p,fv,fH,r,e1,e2,e3,e4,e5,e6,e7,MO,e9⟩:=vj Mx IS hok
        have hst:=hI.st (i:=i) e5 h3
        have step:=e3 D a w (wpAnyIn (FA c.ro) 0 P .any ops Q fuel (l.setIfInBounds i true)) Q hst
        have xA:∀x w',p x→aR c.bs c.w0 w'→bB c.bs c.w0.heap.size (fH x) w'→wpAnyIn (FA c.ro) 0 P .any ops Q fuel (l.setIfInBounds i true) (a.put o.dst (fv x)) w':=by
          intro x w' hp hsi Jq
          have F8:Inv P N c D ops pu en (pn.filter fun j=>!(Hu ops i).contains j) (i::iQ) (l.setIfInBounds i true) (pt o.dst (fv x) F) (fH x) (a.put o.dst (fv x)) w':=by
            refine ⟨by simp [hI.size],?_,?_,?_,hI.v9,?_,?_,?_,hsi,Jq,F4,?_⟩
            · intro j hj
              rcases (gD oW).1 hj with h | rfl
              · rcases hI.seen j h with h | h
                · exact .inl h
                · exact .inr (by simp [h])
              · exact .inr (by simp)
            · intro j hj
              rcases List.mem_cons.1 hj with rfl | h
              · exact (gD oW).2 (.inr rfl)
              · exact (gD oW).2 (.inl (hI.sp j h))
            · intro j hj vY
              have Fq:¬ dn l j:=fun h=>vY ((gD oW).2 (.inl h))
              simp only [List.mem_filter,Bool.not_eq_true',List.contains_eq_mem,decide_eq_false_iff_not]
              exact ⟨hI.kC j hj Fq,fun hm=>Fq (yA hI.cl h3 j hm)⟩
            · intro j hj k hk
              rcases hI.back j hj k hk with h | h
              · exact .inl h
              · exact .inr (by simp [h])
            · cases o.dst <;> simp [Act.put,hI.tm]
            · cases o.dst <;> simp [Act.put,hI.df]
            · intro d v hl hdn
              have old:lk F d = some v→a.tmps[d]? = some v:=fun hl'=>hI.fr d v hl' fun j hj n5=>by
                rcases (gD oW).1 (hdn j hj n5) with h | rfl
                · exact h
                · exact absurd (hI.v9 _ hj) e6
              cases ho:o.dst with
              | none=>rw [ho] at hl; exact old hl
              | some k =>
                rw [ho] at hl e2
                have Mw:k < a.tmps.size:=by rw [hI.tm]; simpa [DQ,Nat.blt_eq] using e2
                simp only [pt,lk] at hl
                by_cases e:k = d
                · subst e; simp at hl; subst hl; simp [Act.put,Mw]
                · rw [jq e] at hl
                  simp only [Act.put,Array.getElem?_setIfInBounds,if_neg e]
                  exact old hl
          obtain ⟨Bj,DL,F2,k1,k2,k3,k4⟩:=enter hD MO F8 hN (e4 x hp) e9
          exact ih _ _ _ Bj DL (i::iQ) F2 (fH x) KI k1 k2 k3 k4
        have step:=step xA
        unfold wpOpIn
        simp only [e1]
        split
        · rename_i hw; simp only [hw,if_true] at step; exact step
        · rename_i hw; simp only [hw] at step; exact ⟨fun _ _=>trivial,step⟩
section
variable {F:cv} {H:List aF}
theorem pz:me P N c ops F H []:=trivial
theorem gj {i:Nat} {ks:List Nat} {r:List Fl} {d:Nat} {v:Value} {op:Op} {ty:TypeId} {ps:String} {af:Array Edge} {g:Option (Nat × Bool)} (ho:ops[i]? = some ⟨some d,op,ty,ps,af,g⟩) (hl:lk F d = some v) (hv:VG P N c ops ⟨some d,op,ty,ps,af,g⟩ (gK F ks) H v) (hr:me P N c ops F H r) :
    me P N c ops F H ((i,ks)::r):=⟨⟨_,d,v,ho,rfl,hl,hv⟩,hr⟩
theorem cT {K:cv→Prop} (h:K F):gq P N c ops H [] F K:=h
theorem ki {i:Nat} {ks:List Nat} {r:List Fl} {K:cv→Prop} {d:Nat} {v:Value} {op:Op} {ty:TypeId} {ps:String} {af:Array Edge} {g:Option (Nat × Bool)} (ho:ops[i]? = some ⟨some d,op,ty,ps,af,g⟩) (hN:Nat.blt d N = true)
    (hv:VG P N c ops ⟨some d,op,ty,ps,af,g⟩ (gK F ks) H v) (hr:gq P N c ops H r ((d,v)::F) K):gq P N c ops H ((i,ks)::r) F K:=⟨_,d,v,ho,rfl,hN,hv,hr⟩
theorem AG {re new:List Fl} (h1:me P N c ops F H re) (h2:gq P N c ops H new F fun F'=>WQ N c D Q .normal F' H):lE P N c D ops Q (.fin re new) F H:=⟨h1,h2⟩
theorem lp {re new:List Fl} {t:Tr} (h1:me P N c ops F H re) (h2:gq P N c ops H new F fun F'=>lE P N c D ops Q t F' H):lE P N c D ops Q (.mm re new t) F H:=⟨h1,h2⟩
theorem uL:lE P N c D ops Q .no F H:=trivial
theorem kY {s:Nat} {ks:List Nat} {here more:Tr} {d:Nat} {op:Op} {ty:TypeId} {ps:String} {af:Array Edge} {g:Option (Nat × Bool)} {α:Type} {p:α→Prop} {fv:α→Value} {fH:α→List aF}
    (ho:ops[s]? = some ⟨some d,op,ty,ps,af,g⟩) (hN:Nat.blt d N = true) (hv:RG P N c ops ⟨some d,op,ty,ps,af,g⟩ (gK F ks) H p fv fH) (h:∀x,p x→lE P N c D ops Q here ((d,fv x)::F) (fH x)) (hm:lE P N c D ops Q more F H):lE P N c D ops Q (.alt s ks here more) F H:=
  ⟨⟨_,α,p,fv,fH,ho,hN,hv,h⟩,hm⟩
theorem yO {s:Nat} {ks:List Nat} {here more:Tr} {op:Op} {ty:TypeId} {ps:String} {af:Array Edge} {g:Option (Nat × Bool)} {α:Type} {p:α→Prop} {fv:α→Value} {fH:α→List aF}
    (ho:ops[s]? = some ⟨none,op,ty,ps,af,g⟩) (hv:RG P N c ops ⟨none,op,ty,ps,af,g⟩ (gK F ks) H p fv fH) (h:∀x,p x→lE P N c D ops Q here F (fH x)) (hm:lE P N c D ops Q more F H):lE P N c D ops Q (.alt s ks here more) F H:=
  ⟨⟨_,α,p,fv,fH,ho,rfl,hv,h⟩,hm⟩
end
theorem eV {id:Nat} {l:List Oper} {F:cv} {H:List aF} (hm:P.follows .mixedOrders = true) (st:Tr) (hok:AX l.toArray st = true)
    (h:lE P N c D l.toArray Q st F H):WP P N c D (.region id l.toArray true) Q F H:=fun a w hst=>by
  simp only [AX,Bool.and_eq_true] at hok
  refine wpIn_region_any hm ?_
  have hdn:∀j,¬ dn (Array.replicate l.toArray.size false) j:=fun j h=>by
    unfold dn at h
    simp only [Array.getD_eq_getD_getElem?,Array.getElem?_replicate] at h
    split at h <;> simp at h
  have hI:Inv P N c D l.toArray (qj st) [] [] [] (Array.replicate l.toArray.size false) F H a { w with drawn:=w.drawn + 1 }:=
    ⟨by simp,fun j hj=>absurd hj (hdn j),by simp,by simp,by simp,by simp,hst.tm,hst.df,hst.si.drawn _,⟨fun r hr=>hst.hp.holds r hr,hst.hp.own,hst.hp.apart⟩,fun j hj=>absurd hj (hdn j),fun d v hl _=>hst.fr d v hl⟩
  obtain ⟨Bj,DL,F2,k1,k2,k3,k4⟩:=enter hok.1.2 hok.1.1 hI (by simp) h hok.2
  refine vC hok.1.2 _ _ _ _ Bj DL [] F2 H ?_ k1 k2 k3 k4
  unfold lQ
  exact Nat.le_trans (List.length_filter_le _ _) (by simp)
end Go.Bw
namespace Go.Bw
open Go Go.RowKit
theorem aL {F:cv} {x:Operand} {r:List Operand} {v:Value} {vs:List Value} (h:ev F x = some v) (hr:nx F r = some vs):nx F (x::r) = some (v::vs):=by simp [nx,h,hr]
def jc (v:Value) (k:Nat):Value:=match v with
  | .slice (some a) _ _=>.pointer (some ⟨a.block,a.off + k,none⟩)
  | _=>undef
theorem Ro.since {w w' : World} {v:Value} {sz n:Nat} {xs:List Value} (h:Ro w v sz n xs) (hs:aR [] w w'):Ro w' v sz n xs:=by
  refine ⟨h.1,?_⟩
  rcases h.2 with h0 | ⟨g,off,cap,h1,h2,h3,h4⟩
  · exact .inl h0
  · exact .inr ⟨g,off,cap,h1,Nat.lt_of_lt_of_le h2 hs.size,h3,fun j u hu=>(World.cell?_of_block (hs.block g h2 (by simp))).trans (h4 j u hu)⟩
theorem Ro.oJ {w:World} {v:Value} {e sz n:Nat} {xs:List Value} (h:(aF.row v e sz n xs).holds w):Ro w v sz n xs:=by
  have h' : w.ownsRow 0 e sz v n xs:=h
  refine ⟨h'.1,?_⟩
  rcases h'.2 with h0 | ⟨g,cap,cur,h1,_,h3,h4,_,h5,h6⟩
  · exact .inl ⟨⟨_,_,h0.1⟩,h0.2⟩
  · refine .inr ⟨g,0,cap,h1,(Array.getElem?_eq_some_iff.1 h3).1,h4,fun j u hu=>?_⟩
    have:=World.ownsRow.cells (g:=g) h' (by rw [h1]; rfl) j u hu
    rwa [Addr.add_lit] at this
theorem Ro.at {w:World} {v:Value} {sz n m:Nat} {xs:List Value} (h:Ro w v sz n xs) (hm:m < n):∃g off cap,v = .slice (some ⟨g,off,none⟩) n cap∧g < w.heap.size∧n ≤ cap∧∀(j:Nat) u,xs[j]? = some u→w.cell? ⟨g,off + j,none⟩ = some u:=by
  rcases h.2 with ⟨_,h0⟩ | h1
  · omega
  · exact h1
section
variable {P:Program} {N:Nat} {c:Cx} {F:cv} {H:List aF} {d:Option Tmp} {ty:TypeId} {p:String} {af:Array Edge} {g:Option (Nat × Bool)}
class mS (c:Cx) (H:List aF) (v:Value) (sz n:outParam Nat) (xs:outParam (List Value)):Prop where
  ro:∀w,aR c.bs c.w0 w→bB c.bs c.w0.heap.size H w→Ro w v sz n xs
class Nk (H:List aF) (v:Value) (sz n:outParam Nat) (xs:outParam (List Value)):Prop where
  mem:aF.sl v sz n xs ∈ H
theorem Dj {x:Operand} {v:Value} {t e q sz n:Nat} {xs:List Value} [ht:n8 P t e q] (hx:ev F x = some v) [h:mS c H v sz n xs]:VS P N c ⟨d, .call ⟨.builtin .len,#[x],#[t]⟩,ty,p,af,g⟩ F H (.int .i64 n):=
  aN (by simp) fun a w hf hs hp=>by
    have hr:=h.ro w hs hp
    obtain ⟨inf,h1,_,_⟩:=n8.get ht.ok
    rcases hr.2 with ⟨⟨a0,cp,rfl⟩,rfl⟩ | ⟨g,off,cap,rfl,_⟩ <;> simp [execOp,resolve,invoke,builtin,aV hf hx,Builtin.len_,goInt,run_underlying h1]
theorem rO {x y:Operand} {t e sz n:Nat} {v:Value} {xs:List Value} {k:IntKind} {i:Int} {m:Nat} [ht:n8 P t e sz] (hx:ev F x = some v) (hy:ev F y = some (.int k i)) [h:mS c H v sz n xs] (hi:i = (m:Int)) (hm:m < n) :
    VS P N c ⟨d, .indexAddr t x y,ty,p,af,g⟩ F H (jc v (m * sz)):=
  aN (by simp) fun a w hf hs hp=>by
    obtain ⟨g,off,cap,rfl,_,_,_⟩:=(h.ro w hs hp).at hm
    obtain ⟨inf,h1,h2,h3⟩:=n8.get ht.ok
    subst hi
    simp [execOp,aV hf hx,aV hf hy,Instr.indexAt,asIntOf,run_underlying h1,sizeOf,typeInfo,h2,h3,Addr.add_lit,jc]
    intro hle
    omega
theorem tf {x:Operand} {t k sz n:Nat} {v u:Value} {xs:List Value} (hx:ev F x = some (jc v k)) [h:mS c H v sz n xs] [jA P t] (hv:xs[k]? = some u):VS P N c ⟨d, .load t x,ty,p,af,g⟩ F H u:=
  aN (by simp) fun a w hf hs hp=>by
    have hr:=h.ro w hs hp
    have hl:=(List.getElem?_eq_some_iff.1 hv).1
    have hn:0 < n:=by
      rcases Nat.eq_zero_or_pos n with h0 | h0
      · subst h0; have:=hr.1; omega
      · exact h0
    obtain ⟨g,off,cap,rfl,_,_,h4⟩:=hr.at hn
    have:=iH (P:=P) (t:=t) (a:=⟨g,off + k,none⟩) (h4 k u hv)
    simp [execOp,aV hf hx,jc,Instr.loadAt,Instr.sureAddr,this]
theorem rM {x:Operand} {t k sz n q:Nat} {v:Value} {xs us:List Value} (hx:ev F x = some (jc v k)) [h:mS c H v sz n xs] [iB P t q] (hv:(xs.drop k).take q = us) (hq:us.length = q) (h0:0 < q):VS P N c ⟨d, .load t x,ty,p,af,g⟩ F H (.agg us.toArray):=
  aN (by simp) fun a w hf hs hp=>by
    have hr:=h.ro w hs hp
    have hl:0 < xs.length:=by
      have:us.length ≤ xs.length:=by rw [← hv]; simp; omega
      omega
    have hn:0 < n:=by
      rcases Nat.eq_zero_or_pos n with h0 | h0
      · subst h0; have:=hr.1; omega
      · exact h0
    obtain ⟨g,off,cap,rfl,_,_,h4⟩:=hr.at hn
    have:=gw (P:=P) (t:=t) (b:=g) (off:=off + k) (w:=w) hq (fun j u hj=>by
      rw [← hv,List.getElem?_take] at hj
      split at hj
      · rw [List.getElem?_drop] at hj; rw [Nat.add_assoc]; exact h4 _ u hj
      · cases hj)
    simp [execOp,aV hf hx,jc,Instr.loadAt,Instr.sureAddr,this]
theorem Di {x y:Operand} {k:IntKind} {a b:Int} {ats:Array TypeId} (hx:ev F x = some (.int k a)) (hy:ev F y = some (.int k b)):VS P N c ⟨d, .call ⟨.builtin .max,#[x,y],ats⟩,ty,p,af,g⟩ F H (.int k (if a < b then b else a)):=
  aN (by simp) fun a' w hf _ _=>by simp [execOp,resolve,invoke,builtin,aV hf hx,aV hf hy,Builtin.max_,Builtin.max2]
def placesOf (P:Program) (t:Nat):Option (List (Nat × Nat)):=match P.underlying t with
  | some (.struct fs)=>fs.toList.mapM fun f=>(P.info? f.type).map fun i=>(f.offset,i.size)
  | _=>none
def mI (pl:List (Nat × Nat)):List Value→List (Nat × Value)→Option (List Value)
  | cs,[]=>some cs
  | cs,(i,v)::r=>match pl[i]? with
    | none=>none
    | some (off,sz)=>if v.cells.size ≠ sz || decide (off + v.cells.size > cs.length) then none else mI pl (bW cs off v.cells.toList) r
class DT (P:Program) (t:TypeId) (pl:outParam (List (Nat × Nat))):Prop where
  ok:placesOf P t = some pl
theorem foldl_set (vs:List Value):∀(cs:Array Value) (off j:Nat),off + j + vs.length ≤ cs.size→((vs.zipIdx j).foldl (fun (cs:Array Value) (q:Value × Nat)=>cs.setIfInBounds (off + q.2) q.1) cs).toList = bW cs.toList (off + j) vs:=by
  induction vs with
  | nil=>intro cs off j h; simp [bW]
  | cons v r ih =>
    intro cs off j h
    simp only [List.zipIdx_cons,List.foldl_cons]
    have hl:off + j + (r.length + 1) ≤ cs.size:=h
    rw [ih (cs.setIfInBounds (off + j) v) off (j + 1) (by simp; omega)]
    refine List.ext_getElem? fun m=>?_
    have g:∀(G2:List Value) (o:Nat) (us:List Value),o + us.length ≤ G2.length→∀m:Nat,(bW G2 o us)[m]? = if o ≤ m∧m < o + us.length then us[m - o]? else G2[m]?:=by
      intro G2 o us h m
      unfold bW
      by_cases h1:m < o
      · rw [if_neg (by omega),List.append_assoc,List.getElem?_append_left (by simp; omega),List.getElem?_take,if_pos h1]
      · by_cases h2:m < o + us.length
        · rw [if_pos (by omega),List.append_assoc,List.getElem?_append_right (by simp; omega),List.getElem?_append_left (by simp; omega)]
          congr 1; simp; omega
        · rw [if_neg (by omega),List.getElem?_append_right (by simp; omega),List.getElem?_drop]
          congr 1; simp; omega
    rw [g _ _ _ (by simp; omega),g _ _ _ (by simp; omega)]
    simp only [Array.toList_setIfInBounds,List.length_cons]
    by_cases e:m = off + j
    · subst e
      rw [if_neg (by omega),if_pos (by omega)]
      have hc:off + j < cs.size:=by omega
      simp [hc]
    · by_cases h1:off + (j + 1) ≤ m∧m < off + (j + 1) + r.length
      · rw [if_pos h1,if_pos (by omega)]
        have:m - (off + j) = (m - (off + (j + 1))) + 1:=by omega
        rw [this,List.getElem?_cons_succ]
      · rw [if_neg h1,if_neg (by omega)]
        rw [List.getElem?_set_ne (by omega)]
theorem lY {place:Nat→Option (Nat × Nat)} {pl:List (Nat × Nat)} (hp:∀i,place i = pl[i]?):∀(parts:List (Nat × Value)) (cs:Array Value) (out:List Value),mI pl cs.toList parts = some out→Instr.fill place cs parts = some out.toArray:=by
  intro parts
  induction parts with
  | nil=>intro cs out h; simp [mI] at h; simp [Instr.fill,← h]
  | cons q r ih =>
    obtain ⟨i,v⟩:=q
    intro cs out h
    simp only [mI] at h
    simp only [Instr.fill,hp i]
    split at h
    · cases h
    · rename_i off sz KK
      rw [KK]
      simp only
      split at h
      · cases h
      · rename_i hc
        simp only [Array.length_toList] at hc
        rw [if_neg (by simpa using hc)]
        refine ih _ out ?_
        have hle:off + v.cells.size ≤ cs.size:=by
          simp only [Bool.or_eq_true,decide_eq_true_eq,not_or] at hc
          omega
        have:=foldl_set v.cells.toList cs off 0 (by simpa using hle)
        rw [← h]
        congr 1
        rw [Nat.add_zero] at this
        rw [← this,← Array.foldl_toList]
        simp only [Array.toList_zipIdx]
theorem run_places {P:Program} {t:Nat} {pl:List (Nat × Nat)} [h:DT P t pl] (w:World):∃fs,P.underlying t = some (.struct fs)∧((fs.mapM (m:=Sem) fun f=>do pure (f.offset,← sizeOf f.type)).run P w = .ok pl.toArray w):=by
  have:=h.ok
  unfold placesOf at this
  split at this
  · rename_i fs hu
    refine ⟨fs,hu,?_⟩
    have key:∀(l:List Field) (pl:List (Nat × Nat)),(l.mapM fun f=>(P.info? f.type).map fun i=>(f.offset,i.size)) = some pl→(l.mapM (m:=Sem) fun f=>do pure (f.offset,← sizeOf f.type)).run P w = .ok pl w:=by
      intro l
      induction l with
      | nil=>intro pl h; simp at h; subst h; simp
      | cons f r ih =>
        intro pl h
        cases hi:P.info? f.type with
        | none=>simp [hi] at h
        | some i =>
          simp only [List.mapM_cons,hi,Option.map_some,Option.pure_def,Option.bind_eq_bind,Option.bind_some] at h
          cases hr:(r.mapM fun f=>(P.info? f.type).map fun i=>(f.offset,i.size)) with
          | none=>simp [hr] at h
          | some q =>
            simp only [hr,Option.bind_some,Option.some.injEq] at h
            subst h
            have hs:(sizeOf f.type).run P w = .ok i.size w:=by simp [sizeOf,typeInfo,hi]
            simp only [List.mapM_cons,Sem.run_bind,hs,Result.andThen_ok,Sem.run_pure,ih q hr]
    have hk:=key _ _ this
    have e:fs = fs.toList.toArray:=by simp
    rw [e,List.mapM_toArray]
    simp only [Sem.run_map,hk,Result.andThen_ok]
  · cases this
theorem KY {F:cv} {a:Act} (hf:k7 F a.tmps):∀{parts:List (Nat × Operand)} {vs:List Value},nx F (parts.map (·.2)) = some vs→parts.map (fun q=>(q.1,a.eval q.2)) = (parts.map (·.1)).zip vs:=by
  intro parts
  induction parts with
  | nil=>intro vs _; simp
  | cons q r ih =>
    intro vs h
    simp only [List.map_cons,nx] at h
    split at h
    · rename_i v us h1 h2
      rw [← Option.some.inj h]
      simp [aV hf h1,ih h2]
    · cases h
theorem iA {t:Nat} {parts:List (Nat × Operand)} {vs zs cs:List Value} {pl:List (Nat × Nat)} [hz:cy P t zs] [KK:DT P t pl] (hv:nx F (parts.map (·.2)) = some vs) (hc:mI pl zs ((parts.map (·.1)).zip vs) = some cs) :
    VS P N c ⟨d, .build t parts.toArray,ty,p,af,g⟩ F H (.agg cs.toArray):=
  aN (by simp) fun a w hf _ _=>by
    obtain ⟨i,z,h1,h2,h3⟩:=cy.get hz.ok
    obtain ⟨fs,h4,h5⟩:=run_places (P:=P) (t:=t) w
    have h6:(zeroValue t).run P w = .ok z w:=by simp [zeroValue,typeInfo,h1,h2]
    have h7:=lY (place:=fun i=>(pl.toArray)[i]?) (pl:=pl) (by simp) ((parts.map (·.1)).zip vs) z.cells cs (by rw [h3]; exact hc)
    have h8:=KY hf hv
    simp only [execOp,Instr.build,Sem.run_bind,h6,Result.andThen_ok,run_underlying h4,h5]
    have h9:(Array.map (fun x=>(x.fst,a.eval x.snd)) parts.toArray).toList = (parts.map (·.1)).zip vs:=by simpa using h8
    simp only [h9,h7]
    rfl
class kZ (H:List aF) (v:Value) (e sz n:outParam Nat) (xs:outParam (List Value)) (f:outParam (aF→List aF)):Prop where
  ok:∃k,H[k]? = some (.row v e sz n xs)∧∀r,f r = H.set k r
instance (priority:=100) Dq (v e sz n xs) (H:List aF):kZ (.row v e sz n xs::H) v e sz n xs (fun r=>r::H):=⟨⟨0,rfl,fun _=>rfl⟩⟩
instance (priority:=50) Bo (r:aF) (H:List aF) (v e sz n xs f) [h:kZ H v e sz n xs f]:kZ (r::H) v e sz n xs (fun q=>r::f q):=
  ⟨by obtain ⟨k,h1,h2⟩:=h.ok; exact ⟨k + 1,by simpa using h1,fun q=>by simp [h2]⟩⟩
def yu (P:Program) (t e sz bytes:Nat):Bool:=match P.underlying t,P.info? e with
  | some (.slice e'),some i=>Nat.beq e' e && Nat.beq i.size sz && Nat.beq i.bytes bytes && (match i.zero with | some z=>Nat.beq z.cells.size sz | none=>false) && !Nat.beq sz 0
  | _,_=>false
class yN (P:Program) (t:TypeId) (e sz bytes:outParam Nat):Prop where
  ok:yu P t e sz bytes = true
theorem yN.get {P:Program} {t e sz bytes:Nat} (h:yu P t e sz bytes = true):∃i z,P.underlying t = some (.slice e)∧P.info? e = some i∧i.zero = some z∧i.size = sz∧i.bytes = bytes∧z.cells.size = sz∧0 < sz:=by
  unfold yu at h
  split at h
  · rename_i e' i h1 h2
    simp only [Bool.and_eq_true,Bool.not_eq_true'] at h
    obtain ⟨⟨⟨⟨a1,a2⟩,a3⟩,a4⟩,a5⟩:=h
    cases hz:i.zero with
    | none=>simp [hz] at a4
    | some z =>
      simp only [hz] at a4
      rw [Nat.eq_of_beq_eq_true a1] at h1
      refine ⟨i,z,h1,h2,hz,Nat.eq_of_beq_eq_true a2,Nat.eq_of_beq_eq_true a3,Nat.eq_of_beq_eq_true a4,Nat.pos_of_ne_zero fun e0=>?_⟩
      rw [e0] at a5; exact absurd a5 (by decide)
  · cases h
theorem kL {P:Program} {t ty e sz bytes n m cp:Nat} {v:Value} {xs news:List Value} {w:World} {b off:Nat} [ht:yN P t e sz bytes] (hown:w.ownsRow 0 e sz v n xs) (hl:news.length = m * sz)
    (hn:∀(j:Nat) u,news[j]? = some u→w.cell? ⟨b,off + j,none⟩ = some u) (h1:gW news) (vT:(n + m) * bytes ≤ 140737488355328) (h63:n + m ≤ 9223372036854775807) :
    ∃v' w',(Builtin.append_ #[t,t] ty #[v, .slice (some ⟨b,off,none⟩) m cp]).run P w = .ok v' w'∧w'.ownsRow 0 e sz v' (n + m) (xs++news)∧aR v.ownBlock.toList w w' ∧
      (∀k,v'.ownBlock = some k→(v.ownBlock = some k∨w.heap.size ≤ k)∧k < w'.heap.size):=by
  obtain ⟨i,z,e1,e2,e3,e4,e5,e6,e7⟩:=yN.get ht.ok
  have hn' : ∀(j:Nat) u,news[j]? = some u→w.cell? ((⟨b,off,none⟩ : Addr).add j) = some u:=fun j u hj=>by rw [Addr.add_lit]; exact hn j u hj
  have KN:n + m ≤ maxLen:=by simp only [maxLen]; omega
  obtain ⟨v',w',hr,hown',hg,_⟩:=run_append_own w 0 t ty e i z sz bytes e1 e2 e3 e4 e5 e6 e7 v n xs hown ⟨b,off,none⟩ m cp news hl hn' h1 KN vT (Nat.zero_le _)
  refine ⟨v',w',hr,hown',aR.xy hg,fun k hk=>⟨?_,(hown'.lt k hk).2⟩⟩
  subst e4; subst e5
  rcases hown.2 with ⟨rfl,rfl⟩ | ⟨gb,cap,cur,rfl,_,Be,hnc,Hl,hcs,u9⟩
  · obtain ⟨v2,w2,Bd,Fp,_,_⟩:=run_append_own w w.heap.size t ty e i z i.size i.bytes e1 e2 e3 rfl rfl e6 e7 (.slice none 0 0) 0 xs ⟨hown.1, .inl ⟨rfl,rfl⟩⟩ ⟨b,off,none⟩ m cp news hl hn' h1 KN vT (Nat.le_refl _)
    rw [hr] at Bd
    cases Bd
    exact .inr (Fp.lt k hk).1
  · by_cases hroom:n + m ≤ cap
    · have hfit:n * i.size + news.length ≤ cur.size:=by rw [hl,hcs,← Nat.add_mul]; exact Nat.mul_le_mul_right _ hroom
      have Bd:=run_append_room (P:=P) w t ty e i e1 e2 gb n cap cur Be ⟨b,off,none⟩ m cp news hl hn' h1 hroom hfit
      rw [hr] at Bd
      cases Bd
      exact .inl hk
    · have Bd:=run_append_grow (P:=P) w t ty e i z e1 e2 e3 ⟨gb,0,none⟩ n cap xs hown.1 (hown.cells (g:=gb) rfl) ⟨b,off,none⟩ m cp news hl hn' (by omega) (by omega) (growslice_fits (by omega) vT)
      rw [hr] at Bd
      cases Bd
      simp [Value.ownBlock] at hk
      exact .inr (by omega)
def y8 (v:Value):Prop:=∃a n cp,v = .slice a n cp
theorem y8.cells {v:Value} (h:y8 v):v.cells.toList = [v]:=by obtain ⟨a,n,cp,rfl⟩:=h; rfl
theorem y8.one {v:Value} (h:y8 v):v.oneCell' = true:=by obtain ⟨a,n,cp,rfl⟩:=h; cases a <;> rfl
def jw (v:Value) (n:Nat):Prop:=∃a cp,v = .slice a n cp
theorem jw.Kx {v:Value} {n:Nat} (h:jw v n):y8 v:=by obtain ⟨a,cp,rfl⟩:=h; exact ⟨_,_,_,rfl⟩
theorem jw.cells {v:Value} {n:Nat} (h:jw v n):v.cells.toList = [v]:=h.Kx.cells
theorem jw.one {v:Value} {n:Nat} (h:jw v n):v.oneCell' = true:=h.Kx.one
theorem jw.oJ {w:World} {v:Value} {e sz n:Nat} {xs:List Value} (h:w.ownsRow 0 e sz v n xs):jw v n:=by
  rcases h.2 with ⟨rfl,rfl⟩ | ⟨_,_,_,rfl,_⟩
  · exact ⟨_,_,rfl⟩
  · exact ⟨_,_,rfl⟩
theorem y8.oJ {w:World} {v:Value} {e sz n:Nat} {xs:List Value} (h:w.ownsRow 0 e sz v n xs):y8 v:=by
  rcases h.2 with ⟨rfl,_⟩ | ⟨_,_,_,rfl,_⟩
  · exact ⟨_,_,_,rfl⟩
  · exact ⟨_,_,_,rfl⟩
theorem wC {s x:Operand} {t e sz bytes n m b T cp:Nat} {v:Value} {xs news:List Value} {f:aF→List aF} [yN P t e sz bytes] (hs:ev F s = some v) [hr:kZ H v e sz n xs f] (hx:ev F x = some (.slice (some ⟨b,0,none⟩) m cp)) [hc:j2 H b T news]
    (hl:news.length = m * sz) (h1:gW news) (vT:(n + m) * bytes ≤ 140737488355328) (h63:n + m ≤ 9223372036854775807) :
    RX P N c ⟨d, .call ⟨.builtin .append,#[s,x],#[t,t]⟩,ty,p,af,g⟩ F H (fun v'=>jw v' (n + m)) (fun v'=>v') (fun v'=>f (.row v' e sz (n + m) (xs++news))):=fun D a w next Q hst hk=>by
  obtain ⟨k,k1,k2⟩:=hr.ok
  have hm:aF.row v e sz n xs ∈ H:=List.mem_of_getElem? k1
  obtain ⟨v',w',q1,q2,q3,q4⟩:=kL (P:=P) (t:=t) (ty:=ty) (cp:=cp) (b:=b) (off:=0) (hst.hp.holds _ hm) hl (fun j u hj=>by rw [Nat.zero_add,cell_of (hst.hp.holds _ hc.mem)]; exact hj) h1 vT h63
  refine eT (by simp) (v:=v') (w':=w') ?_ (hk v' w' (jw.oJ q2) (hst.si.trans q3 fun b' hb'=>(hst.hp.own _ hm b' hb').1) ?_)
  · simp [execOp,resolve,invoke,builtin,aV hst.fr hs,aV hst.fr hx,q1]
  · show bB c.bs c.w0.heap.size (f (.row v' e sz (n + m) (xs++news))) w'
    rw [k2]
    refine hst.hp.set k1 q3.size (fun j hj hn=>q3.block j hj hn) q2 hst.si.size (fun b' hb'=>?_)
    have:=q4 b' (by simpa [aF.fG] using hb')
    exact ⟨this.1.imp (fun h=>by simpa [aF.fG] using h) id,this.2⟩
theorem pB {x:Operand} {t e sz:Nat} {v:Value} {cs zs:List Value} [ht:n8 P t e sz] [hz:cy P e zs] (hx:ev F x = some v) (hc:v.cells.toList = cs) (hl:cs.length = sz) (He:zs.length = sz) (h0:0 < sz) (hs:sz ≤ 16777216) :
    RX P N c ⟨d, .buildSlice t 1 #[(0,x)],ty,p,af,g⟩ F H (fun _=>True) (fun b=>.slice (some ⟨b,0,none⟩) 1 1) (fun b=>.cells b e cs::H):=fun D a w next Q hst hk=>by
  obtain ⟨i,h1,h2,h3⟩:=n8.get ht.ok
  obtain ⟨i',z,h4,h5,h6⟩:=cy.get hz.ok
  rw [h2] at h4; cases h4
  have hsz:v.cells.size = sz:=by rw [← hl,← hc]; simp
  refine eT (by simp) (w':=w.alloc (.cells cs.toArray e)) ?_ (hk w.heap.size _ trivial (hst.si.ext (aR.alloc _ _)) (hst.hp.box e cs hst.si.size))
  have FR:Instr.fill (fun i=>some (i * sz,sz)) ((Array.range sz).map (z.cells[· % z.cells.size]!)) [(0,v)] = some cs.toArray:=by
    have:=lY (place:=fun i=>if i = 0 then some (0,sz) else none) (pl:=[(0,sz)]) (by intro i; cases i <;> simp) [(0,v)] ((Array.range sz).map (z.cells[· % z.cells.size]!)) cs (by
      simp only [mI,List.getElem?_cons_zero,hsz,hc,Array.length_toList,Array.size_map,Array.size_range,Nat.zero_add,ne_eq,not_true_eq_false,decide_false,Bool.false_or,gt_iff_lt,Nat.lt_irrefl,Bool.false_eq_true,if_false]
      simp [bW,hl])
    have e:∀cells:Array Value,Instr.fill (fun i=>some (i * sz,sz)) cells [(0,v)] = Instr.fill (fun i=>if i = 0 then some (0,sz) else none) cells [(0,v)]:=fun cells=>by simp [Instr.fill]
    rw [e]; exact this
  have Mu:¬ sz = 0:=by omega
  have JE:¬ 16777216 < sz:=by omega
  simp only [execOp,Instr.buildSlice,Sem.run_bind,run_underlying h1,Result.andThen_ok,sizeOf,typeInfo]
  simp [h2,h3,Mu,JE,aV hst.fr hx,FR,zeroValue,typeInfo,h5,newRow,newObj,Sem.run]
theorem va {bs:List Nat} {n0 e sz:Nat} {w:World} (h:bB bs n0 H w):bB bs n0 (.row (.slice none 0 0) e sz 0 []::H) w:=
  h.cons ⟨by simp, .inl ⟨rfl,rfl⟩⟩ (fun b hb=>by simp [aF.fG,Value.ownBlock] at hb) (fun s _ b hb=>by simp [aF.fG,Value.ownBlock] at hb)
theorem Aq {D:List Deferred} {Q:Exit→Act→World→Prop} {x:Code} (e sz:Nat) (h:WP P N c D x Q F (.row (.slice none 0 0) e sz 0 []::H)):WP P N c D x Q F H:=yD (fun _ _ _ hp=>va hp) h
theorem An {D:List Deferred} {Q:Exit→Act→World→Prop} {x:Exit} (e sz:Nat) (h:WQ N c D Q x F (.row (.slice none 0 0) e sz 0 []::H)):WQ N c D Q x F H:=uI (fun _ _ _ hp=>va hp) h
end
end Go.Bw
namespace Go.Bw
open Go Go.RowKit
def uD:Option Value→Option Value→Bool
  | some (.int _ a),some (.int _ b)=>a == b
  | some (.bool a),some (.bool b)=>a == b
  | _,_=>false
def lS (k:Option IntKind):Option Value→Bool
  | some (.int k' _)=>match k with | some k=>decide (k = k') | none=>false
  | some (.bool _)=>k.isNone
  | _=>false
def uu:List (Nat × Option IntKind)→List Value→List Value→Bool
  | [],_,_=>true
  | (o,_)::r,cs,ds=>uD cs[o]? ds[o]? && uu r cs ds
def vN:List (Nat × Option IntKind)→List Value→Bool
  | [],_=>true
  | (o,k)::r,cs=>lS k cs[o]? && vN r cs
def Bi (P:Program) (f:Field) (q:Nat × Option IntKind):Bool:=
  f.name != "_" && Nat.beq f.offset q.1 && (match P.underlying f.type,q.2 with | some (.int k),some k'=>decide (k = k') | some .bool,none=>true | _,_=>false)
def lW (P:Program):List Field→List (Nat × Option IntKind)→Bool
  | [],[]=>true
  | f::fs,q::qs=>Bi P f q && lW P fs qs
  | _,_=>false
def uz (P:Program) (t:Nat) (ks:List (Nat × Option IntKind)):Bool:=match P.underlying t with
  | some (.struct fs)=>!P.stoodInHeld t && !P.eqGuardType P.depth t && lW P fs.toList ks
  | _=>false
class AF (P:Program) (t:TypeId) (ks:outParam (List (Nat × Option IntKind))):Prop where
  ok:uz P t ks = true
theorem iS {P:Program} {t off:Nat} {cs:Array Value} {v:Value} {w:World} (ht:(∃k,P.underlying t = some (.int k))∨P.underlying t = some .bool) (h:cs[off]? = some v):(part t cs off).run P w = .ok v w:=by
  rcases ht with ⟨k,hk⟩ | hk <;> simp [part,isAgg,run_underlying hk,h]
theorem mz {P:Program} {w:World} (n:Nat) {cs ds:List Value}:∀{fs:List Field} {ks:List (Nat × Option IntKind)},lW P fs ks = true→vN ks cs = true→vN ks ds = true →
    (Op.eqFields (n + 1) cs.toArray ds.toArray fs).run P w = .ok (uu ks cs ds) w:=by
  intro fs
  induction fs with
  | nil=>intro ks h _ _; cases ks with
    | nil=>simp [Op.eqFields,uu]
    | cons _ _=>simp [lW] at h
  | cons f fs ih =>
    intro ks h h1 h2
    cases ks with
    | nil=>simp [lW] at h
    | cons q qs =>
      obtain ⟨o,k⟩:=q
      simp only [lW,Bi,Bool.and_eq_true,bne_iff_ne,ne_eq] at h
      obtain ⟨⟨⟨hn,ho⟩,hk⟩,hr⟩:=h
      have ho:f.offset = o:=Nat.eq_of_beq_eq_true ho
      simp only [vN,Bool.and_eq_true] at h1 h2
      have kD:=ih hr h1.2 h2.2
      subst ho
      have k1:=h1.1
      have k2:=h2.1
      match hu:P.underlying f.type,k,hk with
      | some (.int kk),some k',hk =>
        have e:kk = k':=by simpa using hk
        subst e
        match hc:cs[f.offset]?,k1 with
        | some (.int ka a),k1 =>
          have e1:kk = ka:=by simpa [lS] using k1
          subst e1
          match hd:ds[f.offset]?,k2 with
          | some (.int kb b),k2 =>
            have e2:kk = kb:=by simpa [lS] using k2
            subst e2
            have p1:=iS (w:=w) (.inl ⟨_,hu⟩) (show cs.toArray[f.offset]? = some (.int kk a) by simpa using hc)
            have p2:=iS (w:=w) (.inl ⟨_,hu⟩) (show ds.toArray[f.offset]? = some (.int kk b) by simpa using hd)
            have p3:=run_equalIn_int (P:=P) w n f.type kk kk a b hu
            simp only [Op.eqFields,hn,ne_eq,not_false_eq_true,if_true,Sem.run_bind,p1,p2,p3,Result.andThen_ok]
            simp only [uu,hc,hd,uD]
            cases a == b <;> simp [kD]
          | some (.bool _),k2=>simp [lS] at k2
        | some (.bool _),k1=>simp [lS] at k1
      | some .bool,none,_ =>
        match hc:cs[f.offset]?,k1 with
        | some (.bool a),_ =>
          match hd:ds[f.offset]?,k2 with
          | some (.bool b),_ =>
            have p1:=iS (w:=w) (.inr hu) (show cs.toArray[f.offset]? = some (.bool a) by simpa using hc)
            have p2:=iS (w:=w) (.inr hu) (show ds.toArray[f.offset]? = some (.bool b) by simpa using hd)
            have p3:=run_equalIn_bool' (P:=P) w n f.type a b hu
            simp only [Op.eqFields,hn,ne_eq,not_false_eq_true,if_true,Sem.run_bind,p1,p2,p3,Result.andThen_ok]
            simp only [uu,hc,hd,uD]
            cases a == b <;> simp [kD]
          | some (.int _ _),k2=>simp [lS] at k2
        | some (.int _ _),k1=>simp [lS] at k1
section
variable {P:Program} {N:Nat} {c:Cx} {F:cv} {H:List aF} {d:Option Tmp} {ty:TypeId} {p:String} {af:Array Edge} {g:Option (Nat × Bool)}
theorem AF.get {t:Nat} {ks:List (Nat × Option IntKind)} (h:uz P t ks = true):P.underlying t = some (.struct (P.fieldsOf t))∧P.stoodInHeld t = false∧P.eqGuardType P.depth t = false∧lW P (P.fieldsOf t).toList ks = true:=by
  unfold uz at h
  split at h
  · rename_i fs hu
    simp only [Bool.and_eq_true,Bool.not_eq_true'] at h
    have e:P.fieldsOf t = fs:=by simp [Program.fieldsOf,hu]
    rw [e]
    exact ⟨hu,h.1.1,h.1.2,h.2⟩
  · cases h
theorem Ay {x y:Operand} {cs ds:List Value} {T U:TypeId} {ks:List (Nat × Option IntKind)} [hT:AF P T ks] (hx:ev F x = some (.agg cs.toArray)) (hy:ev F y = some (.agg ds.toArray)) (h1:vN ks cs = true) (h2:vN ks ds = true) :
    VS P N c ⟨d, .binOp .eql T x y U,ty,p,af,g⟩ F H (.bool (uu ks cs ds)):=
  aN (by simp) fun a' w hf _ _=>by
    obtain ⟨e1,e2,e3,e4⟩:=AF.get hT.ok
    have q1:=run_eqGuard_agg (P:=P) w .eql T x y cs.toArray ds.toArray e3
    have q2:=run_eql_struct (P:=P) w T cs.toArray ds.toArray
    rw [run_equalIn_struct w 9999 T _ _ e1 e2,mz 9998 e4 h1 h2] at q2
    simp only [Result.andThen_ok] at q2
    simp [execOp,aV hf hx,aV hf hy,q1,q2]
def g7 (l h sz:Nat):Value→Value
  | .slice a _ cap=>.slice (if cap = l then a else a.map (·.add (l * sz))) (h - l) (cap - l)
  | v=>v
theorem Ro.cut {w:World} {v:Value} {sz n l h:Nat} {xs:List Value} (hr:Ro w v sz n xs) (hl:l ≤ h) (hh:h ≤ n):Ro w (g7 l h sz v) sz (h - l) ((xs.drop (l * sz)).take ((h - l) * sz)):=by
  have hlen:((xs.drop (l * sz)).take ((h - l) * sz)).length = (h - l) * sz:=by
    have:(h - l) * sz + l * sz ≤ n * sz:=by rw [← Nat.add_mul]; exact Nat.mul_le_mul_right _ (by omega)
    simp [hr.1]; omega
  refine ⟨hlen,?_⟩
  rcases hr.2 with ⟨⟨a,cp,rfl⟩,rfl⟩ | ⟨gb,off,cap,rfl,h2,h3,h4⟩
  · have e1:l = 0:=by omega
    have e2:h = 0:=by omega
    subst e1; subst e2
    exact .inl ⟨⟨_,_,rfl⟩,rfl⟩
  · by_cases e:cap = l
    · have e2:h = l:=by omega
      subst e2
      exact .inl ⟨⟨some ⟨gb,off,none⟩,cap - h,by simp [g7,e]⟩,by omega⟩
    · refine .inr ⟨gb,off + l * sz,cap - l,by simp [g7,e,Addr.add_lit],h2,by omega,fun j u hu=>?_⟩
      rw [List.getElem?_take] at hu
      split at hu
      · rw [List.getElem?_drop] at hu
        rw [Nat.add_assoc]
        exact h4 _ u hu
      · cases hu
theorem yp (l h sz:Nat) (v:Value):(g7 l h sz v).ownBlock = v.ownBlock:=by
  cases v with
  | slice a n cap=>cases a <;> simp only [g7] <;> split <;> simp [Value.ownBlock,Addr.add] <;> split <;> rfl
  | _=>rfl
theorem y8.cut {l h sz:Nat} {v:Value} (hv:y8 v):y8 (g7 l h sz v):=by obtain ⟨a,n,cp,rfl⟩:=hv; exact ⟨_,_,_,rfl⟩
theorem qE {k:IntKind} {l n:Nat} {code:BoundsCode} {w:World} (h:l ≤ n):(Instr.sliceBound (.int k l) n code).run P w = .ok l w:=by
  have h2:(l:Int) ≤ (n:Int):=by omega
  simp [Instr.sliceBound,asIntOf,h2]
theorem wz {x lo:Operand} {t e q sz n:Nat} (l:Nat) {v:Value} {xs:List Value} {k:IntKind} [ht:n8 P t e q] (hx:ev F x = some v) (hlo:ev F lo = some (.int k l)) [h:mS c H v sz n xs] (hl:l ≤ n) :
    VS P N c ⟨d, .slice t x (some lo) none none,ty,p,af,g⟩ F H (g7 l n q v):=
  aN (by simp) fun a w hf hs hp=>by
    obtain ⟨i,h1,h2,h3⟩:=n8.get ht.ok
    obtain ⟨a0,cp,rfl⟩ : ∃a0 cp,v = .slice a0 n cp:=by
      rcases (h.ro w hs hp).2 with ⟨⟨a0,cp,rfl⟩,rfl⟩ | ⟨gb,off,cap,rfl,_⟩ <;> exact ⟨_,_,rfl⟩
    have b1:=qE (P:=P) (k:=k) (w:=w) (code:=.sliceB) hl
    simp [execOp,aV hf hx,aV hf hlo,Instr.sliceAt,run_underlying h1,Instr.slice,Instr.sliceBounds,b1,sizeOf,typeInfo,h2,h3,g7]
theorem wA {x hi:Operand} {t e q sz n:Nat} (m:Nat) {v:Value} {xs:List Value} {k:IntKind} [ht:n8 P t e q] (hx:ev F x = some v) (hhi:ev F hi = some (.int k m)) [h:mS c H v sz n xs] (hm:m ≤ n) :
    VS P N c ⟨d, .slice t x none (some hi) none,ty,p,af,g⟩ F H (g7 0 m q v):=
  aN (by simp) fun a w hf hs hp=>by
    obtain ⟨i,h1,h2,h3⟩:=n8.get ht.ok
    obtain ⟨a0,cp,rfl,MC⟩ : ∃a0 cp,v = .slice a0 n cp∧m ≤ cp:=by
      rcases (h.ro w hs hp).2 with ⟨⟨a0,cp,rfl⟩,rfl⟩ | ⟨gb,off,cap,rfl,_,hle,_⟩
      · exact ⟨_,_,rfl,by omega⟩
      · exact ⟨_,_,rfl,by omega⟩
    have b1:=qE (P:=P) (k:=k) (w:=w) (code:=.sliceAcap) MC
    simp [execOp,aV hf hx,aV hf hhi,Instr.sliceAt,run_underlying h1,Instr.slice,Instr.sliceBounds,b1,sizeOf,typeInfo,h2,g7]
theorem pM {t ty e sz bytes n m:Nat} {v x:Value} {xs news:List Value} {w:World} [ht:yN P t e sz bytes] (hown:w.ownsRow 0 e sz v n xs) (hx:Ro w x sz m news) (h1:gW news) (vT:(n + m) * bytes ≤ 140737488355328) (h63:n + m ≤ 9223372036854775807) :
    ∃v' w',(Builtin.append_ #[t,t] ty #[v,x]).run P w = .ok v' w'∧w'.ownsRow 0 e sz v' (n + m) (xs++news)∧aR v.ownBlock.toList w w' ∧
      (∀k,v'.ownBlock = some k→(v.ownBlock = some k∨w.heap.size ≤ k)∧k < w'.heap.size):=by
  rcases hx.2 with ⟨⟨a,cp,rfl⟩,rfl⟩ | ⟨gb,off,cap,rfl,_,_,h4⟩
  · obtain ⟨i,z,e1,e2,e3,e4,e5,e6,e7⟩:=yN.get ht.ok
    have Jd:news = []:=List.length_eq_zero_iff.1 (by rw [hx.1]; simp)
    subst Jd
    have hsrc:Src P i.size t (.slice a 0 cp) 0 [] w:=by
      cases a with
      | none=>exact Src.ofNil w e1 cp
      | some a=>exact Src.ofSlice w e1 a 0 cp [] (by simp) (by simp) (by simp)
    obtain ⟨base,sCap,hv,hle⟩ : ∃base sCap,v = .slice base n sCap∧n ≤ sCap:=by
      rcases hown.2 with ⟨rfl,rfl⟩ | ⟨g,cap,cur,rfl,_,_,hc,_⟩
      · exact ⟨_,_,rfl,Nat.le_refl _⟩
      · exact ⟨_,_,rfl,hc⟩
    have hrun:=run_append_nothing (P:=P) w t t ty e i e1 e2 base n sCap hle _ hsrc
    rw [← hv] at hrun
    refine ⟨v,w,hrun,by simpa using hown,aR.refl _ _,fun k hk=>⟨.inl hk,?_⟩⟩
    rcases hown.2 with ⟨rfl,_⟩ | ⟨g,cap,cur,rfl,_,hg,_⟩
    · cases hk
    · cases hk; exact (Array.getElem?_eq_some_iff.1 hg).1
  · exact kL hown hx.1 h4 h1 vT h63
theorem rT {s x:Operand} {t e sz bytes n m:Nat} {v u:Value} {xs news:List Value} {f:aF→List aF} [yN P t e sz bytes] (hs:ev F s = some v) [hr:kZ H v e sz n xs f] (hx:ev F x = some u) [hu:mS c H u sz m news]
    (h1:gW news) (vT:(n + m) * bytes ≤ 140737488355328) (h63:n + m ≤ 9223372036854775807) :
    RX P N c ⟨d, .call ⟨.builtin .append,#[s,x],#[t,t]⟩,ty,p,af,g⟩ F H (fun v'=>jw v' (n + m)) (fun v'=>v') (fun v'=>f (.row v' e sz (n + m) (xs++news))):=fun D a w next Q hst hk=>by
  obtain ⟨k,k1,k2⟩:=hr.ok
  have hm:aF.row v e sz n xs ∈ H:=List.mem_of_getElem? k1
  obtain ⟨v',w',q1,q2,q3,q4⟩:=pM (P:=P) (t:=t) (ty:=ty) (hst.hp.holds _ hm) (hu.ro w hst.si hst.hp) h1 vT h63
  refine eT (by simp) (v:=v') (w':=w') ?_ (hk v' w' (jw.oJ q2) (hst.si.trans q3 fun b' hb'=>(hst.hp.own _ hm b' hb').1) ?_)
  · simp [execOp,resolve,invoke,builtin,aV hst.fr hs,aV hst.fr hx,q1]
  · show bB c.bs c.w0.heap.size (f (.row v' e sz (n + m) (xs++news))) w'
    rw [k2]
    refine hst.hp.set k1 q3.size (fun j hj hn=>q3.block j hj hn) q2 hst.si.size (fun b' hb'=>?_)
    have:=q4 b' (by simpa [aF.fG] using hb')
    exact ⟨this.1.imp (fun h=>by simpa [aF.fG] using h) id,this.2⟩
structure Sl where
  v:Value
  sz:Nat
  n:Nat
  xs:List Value
def Sl.ok (w:World) (q:Sl):Prop:=Ro w q.v q.sz q.n q.xs
def BN (l:List Sl):List Nat:=l.flatMap fun q=>q.v.ownBlock.toList
def Ew (l:List Sl):aF:=.ext (BN l) fun w=>∀q ∈ l,q.ok w
class Nm (H:List aF) (v:Value) (sz n:outParam Nat) (xs:outParam (List Value)):Prop where
  ok:∃l,Ew l ∈ H∧(⟨v,sz,n,xs⟩ : Sl) ∈ l
class Nc (l:List Sl) (v:Value) (sz n:outParam Nat) (xs:outParam (List Value)):Prop where
  ok:(⟨v,sz,n,xs⟩ : Sl) ∈ l
class Na (H:List aF) (l:outParam (List Sl)) (f:outParam (aF→List aF)):Prop where
  ok:∃k,H[k]? = some (Ew l)∧∀r,f r = H.set k r
end
end Go.Bw
namespace Go.Bw
open Go Go.RowKit
def IntKind.up (k:IntKind):Nat:=if k.signed then k.bits - 1 else k.bits
theorem zf {k:IntKind} {r:Nat} (h:r < 2 ^ IntKind.up k):k.wrap (r:Int) = r:=by
  cases k <;> simp only [IntKind.up,IntKind.signed,IntKind.bits,if_true,Bool.false_eq_true,if_false] at h <;>
    simp [IntKind.wrap,IntKind.signed,IntKind.bits] at h ⊢ <;> omega
theorem Ah (k:IntKind):IntKind.up k ≤ k.bits:=by cases k <;> simp [IntKind.up,IntKind.signed,IntKind.bits]
section
variable {P:Program} {N:Nat} {c:Cx} {F:cv} {H:List aF} {d:Option Tmp} {ty:TypeId} {p:String} {af:Array Edge} {g:Option (Nat × Bool)} {x y:Operand} {k:IntKind} {T U:TypeId}
theorem wo {x y:Operand} {T len e sz q m:Nat} {i:Int} {k:IntKind} {cs us:List Value} [hT:nF P T len e sz] [hA:iB P e q] (hx:ev F x = some (.agg cs.toArray)) (hy:ev F y = some (.int k i)) (hi:i = (m:Int)) (hm:m < len)
    (hv:(cs.drop (m * sz)).take sz = us):VS P N c ⟨d, .index T x y,ty,p,af,g⟩ F H (.agg us.toArray):=
  aN (by simp) fun a w hf _ _=>by
    obtain ⟨inf,h1,h2,h3⟩:=nF.get hT.ok
    subst hi
    have hs:(sizeOf e).run P w = .ok sz w:=by simp [sizeOf,typeInfo,h2,h3]
    have F7:(isAgg e).run P w = .ok true w:=kK w
    have he:cs.toArray.extract (m * sz) (m * sz + sz) = us.toArray:=by
      apply Array.ext'
      rw [← hv]
      simp [List.extract_eq_take_drop,Nat.add_sub_cancel_left]
    have hp:(part e cs.toArray (m * sz)).run P w = .ok (.agg us.toArray) w:=by
      unfold part
      rw [Sem.run_bind,F7]
      simp only [Result.andThen_ok,if_true,Sem.run_bind,hs,Sem.run_pure,he]
    simp [execOp,aV hf hx,aV hf hy,Instr.index,asIntOf,run_underlying h1,hm,hs,hp]
theorem wq {x y:Operand} {T len e sz m:Nat} {i:Int} {k:IntKind} {cs:List Value} {u:Value} [hT:nF P T len e sz] [hA:jA P e] (hx:ev F x = some (.agg cs.toArray)) (hy:ev F y = some (.int k i)) (hi:i = (m:Int)) (hm:m < len)
    (hv:cs[m * sz]? = some u):VS P N c ⟨d, .index T x y,ty,p,af,g⟩ F H u:=
  aN (by simp) fun a w hf _ _=>by
    obtain ⟨inf,h1,h2,h3⟩:=nF.get hT.ok
    subst hi
    have hs:(sizeOf e).run P w = .ok sz w:=by simp [sizeOf,typeInfo,h2,h3]
    have F7:(isAgg e).run P w = .ok false w:=kq w
    have hp:(part e cs.toArray (m * sz)).run P w = .ok u w:=by simp [part,F7,hv]
    simp [execOp,aV hf hx,aV hf hy,Instr.index,asIntOf,run_underlying h1,hm,hs,hp]
end
end Go.Bw
namespace Go.Bw
open Go
def dx {α:Type} (g:Nat→α) (i:Nat) (v:α):Nat→α:=fun j=>if j = i then v else g j
@[simp] theorem wY {α:Type} (g:Nat→α) (i:Nat) (v:α):dx g i v i = v:=by simp [dx]
theorem vy {α:Type} (g:Nat→α) {i j:Nat} (v:α) (h:j ≠ i):dx g i v j = g j:=by simp [dx,h]
def flat (g:Nat→List Value):Nat→List Value
  | 0=>[]
  | n + 1=>flat g n++g n
theorem iu {g:Nat→List Value} {k:Nat}:∀{n:Nat},(∀i,i < n→(g i).length = k)→(flat g n).length = n * k:=by
  intro n
  induction n with
  | zero=>intro _; simp [flat]
  | succ n ih=>intro h; simp [flat,ih (fun i hi=>h i (by omega)),h n (by omega),Nat.add_mul]
theorem lX {g g' : Nat→List Value}:∀{n:Nat},(∀i,i < n→g i = g' i)→flat g n = flat g' n:=by
  intro n
  induction n with
  | zero=>intro _; rfl
  | succ n ih=>intro h; simp [flat,ih (fun i hi=>h i (by omega)),h n (by omega)]
theorem flat_get {g:Nat→List Value} {k:Nat}:∀{n i j:Nat},(∀i,i < n→(g i).length = k)→i < n→j < k→(flat g n)[i * k + j]? = (g i)[j]?:=by
  intro n
  induction n with
  | zero=>intro i j _ hi; omega
  | succ n ih =>
    intro i j h hi hj
    have hl:=iu (n:=n) (fun i hi=>h i (by omega))
    by_cases e:i = n
    · subst e
      rw [flat,List.getElem?_append_right (by omega),hl]
      congr 1; omega
    · have:i * k + j < n * k:=by
        have h1:(i + 1) * k ≤ n * k:=Nat.mul_le_mul_right k (by omega)
        rw [Nat.add_mul] at h1; omega
      rw [flat,List.getElem?_append_left (by omega)]
      exact ih (fun i hi=>h i (by omega)) (by omega) hj
theorem oN {l m:List Value} (h:∀j:Nat,l[j]? = m[j]?):l = m:=List.ext_getElem? h
theorem tG {cs vs:List Value} {off:Nat} (h:off + vs.length ≤ cs.length):(bW cs off vs).length = cs.length:=by
  simp [bW]; omega
theorem j7 {cs vs:List Value} {off:Nat} (h:off + vs.length ≤ cs.length) (j:Nat):(bW cs off vs)[j]? = if off ≤ j∧j < off + vs.length then vs[j - off]? else cs[j]?:=by
  unfold bW
  by_cases h1:j < off
  · rw [if_neg (by omega),List.append_assoc,List.getElem?_append_left (by simp; omega),List.getElem?_take,if_pos h1]
  · by_cases h2:j < off + vs.length
    · rw [if_pos (by omega),List.append_assoc,List.getElem?_append_right (by simp; omega),List.getElem?_append_left (by simp; omega)]
      congr 1; simp; omega
    · rw [if_neg (by omega),List.getElem?_append_right (by simp; omega),List.getElem?_drop]
      congr 1; simp; omega
theorem qM {p q vs:List Value} {off:Nat}:bW (p++q) (p.length + off) vs = p++bW q off vs:=by
  unfold bW
  have h1:(p++q).take (p.length + off) = p++q.take off:=by simp [List.take_append,List.take_of_length_le (show p.length ≤ p.length + off by omega)]
  have h2:(p++q).drop (p.length + off + vs.length) = q.drop (off + vs.length):=by
    rw [Nat.add_assoc,List.drop_append,List.drop_eq_nil_of_le (by omega)]
    simp
  rw [h1,h2]; simp
theorem se {p q vs:List Value} {off:Nat} (h:off + vs.length ≤ p.length):bW (p++q) off vs = bW p off vs++q:=by
  unfold bW
  rw [List.take_append_of_le_length (by omega),List.drop_append_of_le_length h]
  simp
theorem sQ {g:Nat→List Value} {k n i:Nat} {vs:List Value} (h:∀i,i < n→(g i).length = k) (hi:i < n) (hv:vs.length = k):bW (flat g n) (i * k) vs = flat (dx g i vs) n:=by
  have hl:=iu (n:=n) h
  have h' : ∀j,j < n→(dx g i vs j).length = k:=fun j hj=>by by_cases e:j = i <;> simp [dx,e,hv,h j hj]
  have hl':=iu (n:=n) h'
  have hb:(i + 1) * k ≤ n * k:=Nat.mul_le_mul_right k (by omega)
  rw [Nat.add_mul] at hb
  refine oN fun j=>?_
  rw [j7 (by omega)]
  by_cases hj:j < n * k
  · have hk:0 < k:=by
      rcases Nat.eq_zero_or_pos k with h0 | h0
      · subst h0; omega
      · exact h0
    have hd:j = j / k * k + j % k:=by rw [Nat.mul_comm]; exact (Nat.div_add_mod j k).symm
    have hm:=Nat.mod_lt j hk
    have hq:j / k < n:=Nat.div_lt_of_lt_mul (by rw [Nat.mul_comm]; exact hj)
    by_cases e:j / k = i
    · rw [if_pos (by subst e; omega)]
      rw [hd,flat_get h' hq hm,e,wY]
      congr 1; subst e; omega
    · rw [if_neg]
      · rw [hd,flat_get h' hq hm,flat_get h hq hm,vy _ _ e]
      · rintro ⟨h1,h2⟩
        apply e
        have:i ≤ j / k:=(Nat.le_div_iff_mul_le hk).2 h1
        have:j / k < i + 1:=(Nat.div_lt_iff_lt_mul hk).2 (by rw [Nat.add_mul]; omega)
        omega
  · rw [if_neg (by omega),List.getElem?_eq_none (by omega),List.getElem?_eq_none (by omega)]
theorem v8 {g:Nat→List Value} {k n i:Nat} {t:List Value} (h:∀i,i < n→(g i).length = k) (hi:i < n):((flat g n++t).drop (i * k)).take k = g i:=by
  have hl:=iu (n:=n) h
  have hb:(i + 1) * k ≤ n * k:=Nat.mul_le_mul_right k (by omega)
  rw [Nat.add_mul] at hb
  refine oN fun j=>?_
  rw [List.getElem?_take,List.getElem?_drop]
  by_cases hj:j < k
  · rw [if_pos hj,List.getElem?_append_left (by omega),flat_get h hi hj]
  · rw [if_neg hj,List.getElem?_eq_none (by rw [h i hi]; omega)]
theorem gW.app {a b:List Value} (ha:gW a) (hb:gW b):gW (a++b):=fun v hv=>(List.mem_append.1 hv).elim (ha v) (hb v)
@[simp] theorem gW.set {cs:List Value} {i:Nat} {v:Value} (h:gW cs) (hv:v.oneCell' = true):gW (cs.set i v):=fun u hu=>by
  rcases List.mem_or_eq_of_mem_set hu with h1 | h1
  · exact h u h1
  · rw [h1]; exact hv
@[simp] theorem gW.nil:gW []:=fun _ h=>by cases h
@[simp] theorem gW.cons {v:Value} {r:List Value} (hv:v.oneCell' = true) (h:gW r):gW (v::r):=fun u hu=>by
  rcases List.mem_cons.1 hu with h1 | h1
  · rw [h1]; exact hv
  · exact h u h1
theorem rV {vs:List Value} (h:vs.all (·.oneCell') = true):gW vs:=fun v hv=>List.all_eq_true.1 h v hv
theorem gW.flat {g:Nat→List Value}:∀{n:Nat},(∀i,i < n→gW (g i))→gW (flat g n):=by
  intro n
  induction n with
  | zero=>intro _ v hv; simp [Bw.flat] at hv
  | succ n ih=>intro h; exact (ih fun i hi=>h i (by omega)).app (h n (by omega))
end Go.Bw
namespace Go.Bw
open Go Go.RowKit
def Bp (P:Program) (l:Nat) (K4:List Nat) (w1:World) (J:Nat→List Nat→World→Prop) (Jx:List Nat→World→Prop) (encs:Nat→List Value) (n:Nat):Prop:=
  ∀k,k < n→∀W bs,aR K4 w1 W→(∀b ∈ bs,(b ∈ K4∨w1.heap.size ≤ b)∧b < W.heap.size)→(aF.ext bs (J k bs)).holds W →
    YieldAt (FA none) 0 P l (encs k).toArray W fun e W'=>∃bs',(∀b ∈ bs',(b ∈ bs∨W.heap.size ≤ b)∧b < W'.heap.size)∧aR bs W W' ∧
      ((e = .returned (.bool true)∧(aF.ext bs' (J (k + 1) bs')).holds W')∨(e = .returned (.bool false)∧(aF.ext bs' (Jx bs')).holds W'))
structure Ko (P:Program) (gf:Nat) (caps:List Value) (Hc:List aF) (pre:World→Prop) (encs:Nat→List Value) (n:Nat):Prop where
  fn:∀(l:Nat) (J:Nat→List Nat→World→Prop) (Jx:List Nat→World→Prop) (bs:List Nat),
    Fn (α:=Bool × List Nat) P gf (.func (.yield l) #[] #[]::caps) (fun w=>pre w∧Bp P l (bs++br Hc) w J Jx encs n) (.ext bs (J 0 bs)::Hc)
      (fun _=>True) (fun _=>.tuple #[]) (fun x=>.ext x.2 (bif x.1 then J n x.2 else Jx x.2)::Hc)
class AO (H:List aF) (bs:List Nat) (J:World→Prop) (f:outParam (aF→List aF)):Prop where
  ok:∃k,H[k]? = some (.ext bs J)∧∀r,f r = H.set k r
instance (priority:=100) D2 (bs J) (H:List aF):AO (.ext bs J::H) bs J (fun r=>r::H):=⟨⟨0,rfl,fun _=>rfl⟩⟩
instance (priority:=50) DE (r:aF) (H:List aF) (bs J f) [h:AO H bs J f]:AO (r::H) bs J (fun q=>r::f q):=
  ⟨by obtain ⟨k,h1,h2⟩:=h.ok; exact ⟨k + 1,by simpa using h1,fun q=>by simp [h2]⟩⟩
section
variable {P:Program} {N:Nat} {c:Cx} {F:cv} {H:List aF} {d:Option Tmp} {ty:TypeId} {p:String} {af:Array Edge} {g:Option (Nat × Bool)}
theorem mT {x:Operand} {args:List Operand} {ats:Array TypeId} {l n k:Nat} {encs:Nat→List Value} {J:Nat→List Nat→World→Prop} {Jx:List Nat→World→Prop} {bs:List Nat} {f:aF→List aF}
    (hR:Bp P l c.bs c.w0 J Jx encs n) (hk:k < n) (hro:c.ro = none) (hx:ev F x = some (.func (.yield l) #[] #[])) (ha:nx F args = some (encs k)) [he:AO H bs (J k bs) f] :
    RX (α:=Bool × List Nat) P N c ⟨d, .call ⟨.value x,args.toArray,ats⟩,ty,p,af,g⟩ F H (fun _=>True) (fun x=>.bool x.1) (fun x=>f (.ext x.2 (bif x.1 then J (k + 1) x.2 else Jx x.2))):=fun D a w next Q hst hkk=>by
  obtain ⟨kk,h1,h2⟩:=he.ok
  have hm:aF.ext bs (J k bs) ∈ H:=List.mem_of_getElem? h1
  have cX:∀b ∈ bs,(b ∈ c.bs∨c.w0.heap.size ≤ b)∧b < w.heap.size:=fun b hb=>hst.hp.own _ hm b hb
  obtain ⟨fn,tmps,assign,body,hy,hF,hr⟩:=hR k hk w bs hst.si cX (hst.hp.holds _ hm)
  refine ⟨fun _ _=>trivial,?_⟩
  have hs:Oper.semAt (FA c.ro).round a.eval (⟨d, .call ⟨.value x,args.toArray,ats⟩,ty,p,af,g⟩ : Oper) = execOp a.eval ⟨d, .call ⟨.value x,args.toArray,ats⟩,ty,p,af,g⟩:=Oper.semAt_eq _ _ _ (by simp)
  have hrun:(execOp a.eval ⟨d, .call ⟨.value x,args.toArray,ats⟩,ty,p,af,g⟩).run P w = .ok (.round l fn tmps assign body) w:=by
    have e1:=aV hst.fr hx
    have e2:=o4 hst.fr ha
    have e3:#[]++(args.toArray.map a.eval) = (encs k).toArray:=by rw [← e2]; simp
    simp only [execOp,resolve,e1,Deferred.ofValue,Sem.run_bind,Sem.run_pure,Result.andThen_ok,invoke,e3]
    exact hy
  rw [hs,hrun]
  refine ⟨fun h=>by simp at h,⟨trivial,fun cf cs hroom=>?_⟩⟩
  have KR:FA c.ro = FA none:=by rw [hro]
  rw [KR]
  obtain ⟨e,W',hpost,CJ⟩:=hr cf cs (by rw [← KR]; exact hroom)
  refine ⟨e,W',?_,CJ⟩
  obtain ⟨bs',hb',hsi,qv⟩:=hpost
  have fin:∀b:Bool,(aF.ext bs' (bif b then J (k + 1) bs' else Jx bs')).holds W'→next (a.put d (.bool b)) W':=fun b hh=>by
    refine hkk (b,bs') W' trivial (hst.si.trans hsi fun b hb=>(cX b hb).1) ?_
    show bB c.bs c.w0.heap.size (f (aF.ext bs' (bif b then J (k + 1) bs' else Jx bs'))) W'
    rw [h2]
    exact hst.hp.set h1 hsi.size (fun j hj hn=>hsi.block j hj hn) hh hst.si.size (fun b hb=>hb' b hb)
  rcases qv with ⟨rfl,hh⟩ | ⟨rfl,hh⟩
  · exact fin true hh
  · exact fin false hh
end
def n3:List Nat→List Value→cv→cv
  | p::ps,v::vs,F=>n3 ps vs ((p,v)::F)
  | _,_,F=>F
theorem u5:∀{ps:List Nat} {vs:List Value} {F:cv} {t:Array Value} {N:Nat},k7 F t→t.size = N→ps.all (Nat.blt · N) = true→k7 (n3 ps vs F) ((ps.zip vs).foldl (fun t q=>t.setIfInBounds q.1 q.2) t)∧((ps.zip vs).foldl (fun t q=>t.setIfInBounds q.1 q.2) t).size = N:=by
  intro ps
  induction ps with
  | nil=>intro vs F t N h hs _; cases vs <;> exact ⟨h,hs⟩
  | cons p ps ih =>
    intro vs F t N h hs ha
    cases vs with
    | nil=>exact ⟨h,hs⟩
    | cons v vs =>
      simp only [List.all_cons,Bool.and_eq_true] at ha
      have h1:=k7.put (a:=⟨t,[]⟩) (d:=some p) (v:=v) (N:=N) h hs ha.1
      exact ih h1 (by simpa using hs) ha.2
def uN (P:Program) (l:Nat) (body:Code) (R:Ending→World→Prop):Exit→Act→World→Prop:=
  Exit.then (fun a₁ w₁=>∃w₂,(Instr.beginRound l).run P w₁ = .ok () w₂∧body.wpIn (FA (some l)) 0 P (roundPost P l R) a₁ w₂) (fun _ _ _=>False)
def uM (c' : Cx) (JT JX:List Nat→World→Prop):Ending→World→Prop:=fun e W' =>
  ∃bs',(∀b ∈ bs',(b ∈ c'.bs∨c'.w0.heap.size ≤ b)∧b < W'.heap.size)∧aR c'.bs c'.w0 W'∧((e = .returned (.bool true)∧(aF.ext bs' (JT bs')).holds W')∨(e = .returned (.bool false)∧(aF.ext bs' (JX bs')).holds W'))
def JW {α:Type} (n0:Nat) (cb:List Nat) (p:α→Prop) (I:α→List aF):List Nat→World→Prop:=fun bs W=>∃i,p i∧bB cb n0 (I i) W∧bs = br (I i)
theorem bY {H:List aF} {b:Nat}:b ∈ br H↔∃r ∈ H,b ∈ r.fG:=by simp [br]
theorem rW {α:Type} {n0:Nat} {cb:List Nat} {p:α→Prop} {I:α→List aF} {W:World} (i:α) (hp:p i) (h:bB cb n0 (I i) W):(aF.ext (br (I i)) (JW n0 cb p I (br (I i)))).holds W:=
  fun _ hs hb=>⟨i,hp,h.same hs (fun r hr b q9=>hb b (bY.2 ⟨r,hr,q9⟩)) (fun _ o _=>o),rfl⟩
theorem ext_get {bs:List Nat} {J:World→Prop} {W:World} (h:(aF.ext bs J).holds W):J W:=h W (Nat.le_refl _) fun _ _=>rfl
section rules
variable {P:Program} {N:Nat} {c:Cx} {F:cv} {H H' : List aF} {l:Nat} {body:Code} {R:Ending→World→Prop}
theorem St.xe {N:Nat} {D:List Deferred} {a:Act} {w:World} {b:Nat} {o o' : Obj} (hst:St N c D F H a w) (ho:nH H b o) (hs:n9 H b o' H'):St N c D F H' a (w.putObj b o')∧w.heap[b]? = some o:=by
  have hm:=hst.hp.holds _ ho.mem
  have hd:w.heap[b]? = some o:=hm
  have hlt:=(Array.getElem?_eq_some_iff.1 hd).1
  have lA:aR [b] w (w.putObj b o'):=⟨rfl,rfl,rfl,by simp [World.putObj],fun k _ hk=>World.putObj_heap_other (by simpa using hk)⟩
  refine ⟨⟨hst.tm,hst.fr,hst.df,hst.si.store hst.hp ho.mem (by simp [aF.fG]) lA,?_⟩,hd⟩
  obtain ⟨k,o,hk,rfl⟩:=hs.ok
  refine hst.hp.set hk lA.size (fun j hj hne=>lA.block j hj hne) (World.putObj_heap_same hlt) hst.si.size (fun b' hb=>?_)
  have e:b' = b:=by simpa [aF.fG] using hb
  subst e
  exact ⟨.inl (by simp [aF.fG]),by rw [World.putObj]; simpa using hlt⟩
theorem iz {rec:Loop} (hr:rec.state = .ready) (hro:c.ro = some l) [ho:nH H l (.loop rec)] [hs:n9 H l (.loop { rec with state:=.busy }) H'] (h:WP P N c [] body (roundPost P l R) F H') :
    WQ N c [] (uN P l body R) .normal F H:=fun a w hst=>by
  obtain ⟨h1,h2⟩:=hst.xe ho hs
  refine ⟨_,run_beginRound h2 hr,?_⟩
  have:=h _ _ h1
  rw [hro] at this
  exact this
variable {α β:Type} {n0:Nat} {cb:List Nat} {p:α→Prop} {I:α→List aF} {px:β→Prop} {X:β→List aF}
theorem aR.owned {c' : Cx} {H:List aF} {w:World} (hp:bB c'.bs c'.w0.heap.size H w) {b:Nat} (hb:b ∈ br H):(b ∈ c'.bs∨c'.w0.heap.size ≤ b)∧b < w.heap.size:=by
  obtain ⟨r,hr,q9⟩:=bY.1 hb
  exact hp.own r hr b q9
theorem gT {rec:Loop} (hr:rec.state = .ready) (qZ:rec.pending = none) (hT:∀b,(b ∈ c.bs∨c.w0.heap.size ≤ b)→(b ∈ cb∨n0 ≤ b)) {JX:List Nat→World→Prop} [ho:nH H l (.loop { rec with state:=.busy })] [hs:n9 H l (.loop rec) H']
    (i:α) (hp:p i) {ks:List Nat} (hk:pick H' ks = some (I i)) (hn:ks.Nodup):WQ N c [] (roundPost P l (uM c (JW n0 cb p I) JX)) .normal F H:=fun a w hst=>by
  obtain ⟨h1,h2⟩:=hst.xe ho hs
  have e:({ { rec with state:=LoopState.busy } with state:=if (none:Option Code).isNone then LoopState.ready else .done,pending:=none }:Loop) = rec:=by cases rec; simp_all
  have hrun:=run_endRound (P:=P) none h2
  rw [e] at hrun
  refine ⟨_,_,hrun,br (I i),?_,h1.si, .inl ⟨rfl,?_⟩⟩
  · intro b hb; exact aR.owned (h1.hp.pick hk hn) hb
  · refine rW i hp ?_
    have:=h1.hp.pick hk hn
    exact ⟨this.holds,fun r hr b hb=>⟨hT b (this.own r hr b hb).1,(this.own r hr b hb).2⟩,this.apart⟩
theorem Al {rec:Loop} (hT:∀b,(b ∈ c.bs∨c.w0.heap.size ≤ b)→(b ∈ cb∨n0 ≤ b)) {JT:List Nat→World→Prop} [ho:nH H l (.loop { rec with state:=.busy })] {e:Exit} {j:Code}
    (hj:(e = .ret∧j = .ret)∨(∃id,e = .exit id∧j = .exit id)) [hs:n9 H l (.loop { rec with state:=.done,pending:=some j }) H']
    (i:β) (hp:px i) {ks:List Nat} (hk:pick H' ks = some (X i)) (hn:ks.Nodup):WQ N c [] (roundPost P l (uM c JT (JW n0 cb px X))) e F H:=fun a w hst=>by
  obtain ⟨h1,h2⟩:=hst.xe ho hs
  have hrun:=run_endRound (P:=P) (some j) h2
  have fin:∃v w',(Instr.endRound l (some j)).run P w = .ok v w'∧uM c JT (JW n0 cb px X) (.returned v) w':=by
    refine ⟨_,_,hrun,br (X i),?_,h1.si, .inr ⟨rfl,?_⟩⟩
    · intro b hb; exact aR.owned (h1.hp.pick hk hn) hb
    · refine rW i hp ?_
      have:=h1.hp.pick hk hn
      exact ⟨this.holds,fun r hr b hb=>⟨hT b (this.own r hr b hb).1,(this.own r hr b hb).2⟩,this.apart⟩
  rcases hj with ⟨rfl,rfl⟩ | ⟨id,rfl,rfl⟩
  · exact fin
  · exact fin
end rules
end Go.Bw
namespace Go.Proofs.Ytmdpbdhkmfjlhaa
open Go Go.Bw
instance:jA Try.prog 3:=⟨by kernel_rfl⟩
instance:cy Try.prog 3 ([.int .i64 0]):=⟨by kernel_rfl⟩
instance:jA Try.prog 4:=⟨by kernel_rfl⟩
instance:Bn Try.prog 4:=⟨by kernel_rfl⟩
instance:jA Try.prog 5:=⟨by kernel_rfl⟩
instance:jA Try.prog 44:=⟨by kernel_rfl⟩
instance:n8 Try.prog 44 57 2:=⟨by kernel_rfl⟩
instance:yN Try.prog 44 57 2 16:=⟨by kernel_rfl⟩
instance:iB Try.prog 46 1:=⟨by kernel_rfl⟩
instance:DT Try.prog 46 [(0,1)]:=⟨by kernel_rfl⟩
instance:cy Try.prog 46 ([.slice none 0 0]):=⟨by kernel_rfl⟩
instance:iB Try.prog 57 2:=⟨by kernel_rfl⟩
instance:jJ Try.prog 57 0 0:=⟨by kernel_rfl⟩
instance:jJ Try.prog 57 1 1:=⟨by kernel_rfl⟩
instance:DT Try.prog 57 [(0,1),(1,1)]:=⟨by kernel_rfl⟩
instance:cy Try.prog 57 ([.int .i64 0, .int .i64 0]):=⟨by kernel_rfl⟩
instance:jA Try.prog 61:=⟨by kernel_rfl⟩
instance:iB Try.prog 63 3:=⟨by kernel_rfl⟩
instance:jJ Try.prog 63 0 0:=⟨by kernel_rfl⟩
instance:jJ Try.prog 63 1 1:=⟨by kernel_rfl⟩
instance:jJ Try.prog 63 2 2:=⟨by kernel_rfl⟩
instance:DT Try.prog 63 [(0,1),(1,1),(2,1)]:=⟨by kernel_rfl⟩
instance:AF Try.prog 63 [(0,some .u32),(1,none),(2,none)]:=⟨by kernel_rfl⟩
instance:cy Try.prog 63 ([.int .u32 0, .bool false, .bool false]):=⟨by kernel_rfl⟩
instance:iB Try.prog 64 96:=⟨by kernel_rfl⟩
instance:nF Try.prog 64 32 63 3:=⟨by kernel_rfl⟩
instance:iB Try.prog 66 96:=⟨by kernel_rfl⟩
instance:jJ Try.prog 66 0 0:=⟨by kernel_rfl⟩
instance:iB Try.prog 68 96:=⟨by kernel_rfl⟩
instance:jJ Try.prog 68 0 0:=⟨by kernel_rfl⟩
instance:jA Try.prog 69:=⟨by kernel_rfl⟩
instance:cy Try.prog 69 ([.int .u32 0]):=⟨by kernel_rfl⟩
instance:iB Try.prog 71 2:=⟨by kernel_rfl⟩
instance:jJ Try.prog 71 1 1:=⟨by kernel_rfl⟩
instance:iB Try.prog 72 8:=⟨by kernel_rfl⟩
instance:nF Try.prog 72 8 69 1:=⟨by kernel_rfl⟩
instance:iB Try.prog 74 12:=⟨by kernel_rfl⟩
instance:jJ Try.prog 74 0 0:=⟨by kernel_rfl⟩
instance:jJ Try.prog 74 2 2:=⟨by kernel_rfl⟩
instance:jJ Try.prog 74 3 4:=⟨by kernel_rfl⟩
instance:DT Try.prog 74 [(0,1),(1,1),(2,2),(4,8)]:=⟨by kernel_rfl⟩
instance:cy Try.prog 74 ([.int .u32 0, .int .i64 0, .slice none 0 0, .int .i64 0, .int .u32 0, .int .u32 0, .int .u32 0, .int .u32 0, .int .u32 0, .int .u32 0, .int .u32 0, .int .u32 0]):=⟨by kernel_rfl⟩
instance:nF Try.prog 75 32 74 12:=⟨by kernel_rfl⟩
instance:iB Try.prog 77 480:=⟨by kernel_rfl⟩
instance:jJ Try.prog 77 0 0:=⟨by kernel_rfl⟩
instance:jJ Try.prog 77 1 96:=⟨by kernel_rfl⟩
instance:jA Try.prog 93:=⟨by kernel_rfl⟩
instance:n8 Try.prog 93 69 1:=⟨by kernel_rfl⟩
instance:yN Try.prog 93 69 1 4:=⟨by kernel_rfl⟩
instance:jA Try.prog 109:=⟨by kernel_rfl⟩
instance:n8 Try.prog 111 114 5:=⟨by kernel_rfl⟩
instance:iB Try.prog 114 5:=⟨by kernel_rfl⟩
instance:jJ Try.prog 114 2 2:=⟨by kernel_rfl⟩
instance:jJ Try.prog 114 3 3:=⟨by kernel_rfl⟩
instance:n8 Try.prog 118 3 1:=⟨by kernel_rfl⟩
theorem mixed:Try.prog.follows .mixedOrders = true:=by kernel_rfl
end Go.Proofs.Ytmdpbdhkmfjlhaa
namespace Go.Bw
open Go Go.RowKit
structure aY (α:Type) where
  n:Nat
  rep:(World→Prop)→List Value→α→Prop
  len:∀{J cs x},rep J cs x→cs.length = n
  one:∀{J cs x},rep J cs x→gW cs
  mono:∀{J J' : World→Prop} {cs x},(∀w,J' w→J w)→rep J cs x→rep J' cs x
class aP {α:Type} (L:aY α) where
  enc:α→List Value
  iff:∀{J cs x},L.rep J cs x↔cs = enc x
def aY.enc {α:Type} (L:aY α) [aP L] (x:α):List Value:=aP.enc L x
section
variable {α β γ S:Type}
theorem rp (L:aY α) [aP L] (x:α):L.rep (fun _=>True) (L.enc x) x:=aP.iff.2 rfl
theorem bw (L:aY α) [aP L] (x:α):(L.enc x).length = L.n:=L.len (rp L x)
theorem oe (L:aY α) [aP L] (x:α):gW (L.enc x):=L.one (rp L x)
def LI (k:IntKind):aY Int where
  n:=1
  rep _ cs x:=cs = [.int k x]
  len h:=by subst h; rfl
  one h:=by subst h; exact rV rfl
  mono _ h:=h
instance (k:IntKind):aP (LI k):=⟨fun x=>[.int k x],Iff.rfl⟩
def LB:aY Bool where
  n:=1
  rep _ cs x:=cs = [.bool x]
  len h:=by subst h; rfl
  one h:=by subst h; exact rV rfl
  mono _ h:=h
instance:aP LB:=⟨fun x=>[.bool x],Iff.rfl⟩
def LP (A:aY α) (B:aY β):aY (α × β) where
  n:=A.n + B.n
  rep J cs x:=∃c1 c2,cs = c1++c2∧A.rep J c1 x.1∧B.rep J c2 x.2
  len:=fun ⟨c1,c2,h,h1,h2⟩=>by subst h; simp [A.len h1,B.len h2]
  one:=fun ⟨c1,c2,h,h1,h2⟩=>by subst h; exact (A.one h1).app (B.one h2)
  mono m:=fun ⟨c1,c2,h,h1,h2⟩=>⟨c1,c2,h,A.mono m h1,B.mono m h2⟩
instance (A:aY α) (B:aY β) [aP A] [aP B]:aP (LP A B):=⟨fun x=>A.enc x.1++B.enc x.2,by
  intro J cs x
  constructor
  · rintro ⟨c1,c2,rfl,h1,h2⟩
    rw [aP.iff] at h1 h2; subst h1 h2; rfl
  · intro h; exact ⟨_,_,h,aP.iff.2 rfl,aP.iff.2 rfl⟩⟩
def aY.via (A:aY α) (f:S→α):aY S where
  n:=A.n
  rep J cs s:=A.rep J cs (f s)
  len h:=A.len h
  one h:=A.one h
  mono m h:=A.mono m h
instance (A:aY α) (f:S→α) [aP A]:aP (A.via f):=⟨fun s=>A.enc (f s),aP.iff (L:=A)⟩
def LA (L:aY α) (m:Nat):aY (Nat→α) where
  n:=m * L.n
  rep J cs a:=∃cc:Nat→List Value,cs = flat cc m∧∀i,i < m→L.rep J (cc i) (a i)
  len:=fun ⟨cc,h,h1⟩=>by subst h; exact iu fun i hi=>L.len (h1 i hi)
  one:=fun ⟨cc,h,h1⟩=>by subst h; exact gW.flat fun i hi=>L.one (h1 i hi)
  mono m':=fun ⟨cc,h,h1⟩=>⟨cc,h,fun i hi=>L.mono m' (h1 i hi)⟩
instance (L:aY α) (m:Nat) [aP L]:aP (LA L m):=⟨fun a=>flat (fun i=>L.enc (a i)) m,by
  intro J cs a
  constructor
  · rintro ⟨cc,rfl,h⟩
    exact lX fun i hi=>aP.iff.1 (h i hi)
  · intro h; exact ⟨_,h,fun i _=>aP.iff.2 rfl⟩⟩
structure aS (L:aY α) (M:aY β) (o:Nat) (g:α→β) (s:α→β→α):Prop where
  get:∀{J cs x},L.rep J cs x→M.rep J ((cs.drop o).take M.n) (g x)
  set:∀{J cs x vs v},L.rep J cs x→M.rep J vs v→L.rep J (bW cs o vs) (s x v)
  le:o + M.n ≤ L.n
theorem aS.id {L:aY α}:aS L L 0 (fun x=>x) (fun _ v=>v) where
  get h:=by rw [List.drop_zero,List.take_of_length_le (by rw [L.len h]; exact Nat.le_refl _)]; exact h
  set:=@fun J cs x vs v h hv=>by
    have:bW cs 0 vs = vs:=tH (by rw [L.len h,L.len hv])
    rw [this]; exact hv
  le:=by omega
where tH {cs vs:List Value} (h:cs.length = vs.length):bW cs 0 vs = vs:=by simp [bW,← h]
theorem aS.fst {A:aY α} {B:aY β} {M:aY γ} {o:Nat} {g:α→γ} {s:α→γ→α} (p:aS A M o g s):aS (LP A B) M o (fun x=>g x.1) (fun x v=>(s x.1 v,x.2)) where
  get:=fun ⟨c1,c2,h,h1,h2⟩=>by
    subst h
    have hl:=A.len h1
    have:=p.le
    rw [List.drop_append_of_le_length (by omega),List.take_append_of_le_length (by simp; omega)]
    exact p.get h1
  set:=fun ⟨c1,c2,h,h1,h2⟩ hv=>by
    subst h
    have hl:=A.len h1
    have:=p.le
    exact ⟨_,_,se (by rw [M.len hv]; omega),p.set h1 hv,h2⟩
  le:=by have:=p.le; show o + M.n ≤ A.n + B.n; omega
theorem aS.snd {A:aY α} {B:aY β} {M:aY γ} {o:Nat} {g:β→γ} {s:β→γ→β} (p:aS B M o g s):aS (LP A B) M (A.n + o) (fun x=>g x.2) (fun x v=>(x.1,s x.2 v)) where
  get:=fun ⟨c1,c2,h,h1,h2⟩=>by
    subst h
    have hl:=A.len h1
    rw [← hl,← List.drop_drop,List.drop_left]
    exact p.get h2
  set:=fun ⟨c1,c2,h,h1,h2⟩ hv=>by
    subst h
    have hl:=A.len h1
    exact ⟨c1,_,by rw [← hl]; exact qM,h1,p.set h2 hv⟩
  le:=by have:=p.le; show A.n + o + M.n ≤ A.n + B.n; omega
theorem aS.via {A:aY α} {M:aY γ} {o:Nat} {g:α→γ} {s:α→γ→α} (p:aS A M o g s) (f:S→α) (g' : S→γ) (s' : S→γ→S) (o' : Nat) (ho:o' = o) (hg:∀x,g' x = g (f x)) (hs:∀x v,f (s' x v) = s (f x) v):aS (A.via f) M o' g' s' where
  get h:=by subst ho; rw [hg]; exact p.get h
  set h hv:=by
    subst ho
    show A.rep _ _ (f (s' _ _))
    rw [hs]; exact p.set h hv
  le:=by subst ho; exact p.le
theorem aS.idx {L:aY α} {m:Nat} (i:Nat) (h:i < m) {k:Nat} (hk:k = L.n):aS (LA L m) L (i * k) (fun a=>a i) (fun a v=>dx a i v) where
  get:=fun ⟨cc,hc,h1⟩=>by
    subst hc hk
    have:=v8 (g:=cc) (t:=[]) (fun j hj=>L.len (h1 j hj)) h
    rw [List.append_nil] at this
    rw [this]; exact h1 i h
  set:=@fun J cs x vs v hh hv=>by
    obtain ⟨cc,hc,h1⟩:=hh
    subst hc hk
    refine ⟨dx cc i vs,sQ (fun j hj=>L.len (h1 j hj)) h (L.len hv),fun j hj=>?_⟩
    unfold dx
    split
    · exact hv
    · exact h1 j hj
  le:=by
    subst hk
    show i * L.n + L.n ≤ m * L.n
    rw [← Nat.succ_mul]; exact Nat.mul_le_mul_right _ h
theorem aS.comp {L:aY α} {M:aY β} {K:aY γ} {o1 o2:Nat} {g1:α→β} {s1:α→β→α} {g2:β→γ} {s2:β→γ→β} (p:aS L M o1 g1 s1) (q:aS M K o2 g2 s2):aS L K (o1 + o2) (fun x=>g2 (g1 x)) (fun x v=>s1 x (s2 (g1 x) v)) where
  get h:=by
    have h2:=q.get (p.get h)
    have:=q.le
    rw [List.drop_take,List.take_take,List.drop_drop,Nat.min_eq_left (by omega)] at h2
    exact h2
  set:=@fun J cs x vs v h hv=>by
    have hl:=L.len h
    have h2:=p.set h (q.set (p.get h) hv)
    have KH:=K.len hv
    have:=q.le; have:=p.le
    have e:bW cs o1 (bW ((cs.drop o1).take M.n) o2 vs) = bW cs (o1 + o2) vs:=by
      refine oN fun j=>?_
      have hm:=M.len (p.get h)
      have hlen:(bW ((cs.drop o1).take M.n) o2 vs).length = M.n:=by
        rw [tG (by omega)]; exact hm
      rw [j7 (by omega),j7 (cs:=cs) (vs:=vs) (by omega),hlen,KH]
      by_cases h1:o1 ≤ j∧j < o1 + M.n
      · rw [if_pos h1,j7 (by omega),KH]
        by_cases h3:o1 + o2 ≤ j∧j < o1 + o2 + K.n
        · rw [if_pos h3,if_pos (by omega),show j - o1 - o2 = j - (o1 + o2) by omega]
        · rw [if_neg h3,if_neg (by omega),List.getElem?_take,if_pos (by omega),List.getElem?_drop,show o1 + (j - o1) = j by omega]
      · rw [if_neg h1,if_neg (by omega)]
    rw [e] at h2; exact h2
  le:=by have:=q.le; have:=p.le; omega
theorem aS.c0 {L:aY α} {M:aY β} {K:aY γ} {o2:Nat} {g1:α→β} {s1:α→β→α} {g2:β→γ} {s2:β→γ→β} (p:aS L M 0 g1 s1) (q:aS M K o2 g2 s2):aS L K o2 (fun x=>g2 (g1 x)) (fun x v=>s1 x (s2 (g1 x) v)):=by
  have:=p.comp q
  rwa [Nat.zero_add] at this
theorem aS.int {L:aY α} {k:IntKind} {o:Nat} {g:α→Int} {s:α→Int→α} (p:aS L (LI k) o g s) {J cs x} (r:L.rep J cs x):cs[o]? = some (.int k (g x)):=by
  have h:(cs.drop o).take 1 = [.int k (g x)]:=p.get r
  have h2:((cs.drop o).take 1)[0]? = some (.int k (g x)):=by rw [h]; rfl
  rw [List.getElem?_take,if_pos (by decide),List.getElem?_drop] at h2
  exact h2
theorem aS.bool {L:aY α} {o:Nat} {g:α→Bool} {s:α→Bool→α} (p:aS L LB o g s) {J cs x} (r:L.rep J cs x):cs[o]? = some (.bool (g x)):=by
  have h:(cs.drop o).take 1 = [.bool (g x)]:=p.get r
  have h2:((cs.drop o).take 1)[0]? = some (.bool (g x)):=by rw [h]; rfl
  rw [List.getElem?_take,if_pos (by decide),List.getElem?_drop] at h2
  exact h2
theorem aS.agg {L:aY α} {M:aY β} [aP L] [aP M] {o:Nat} {g:α→β} {s:α→β→α} (p:aS L M o g s) (x:α):((L.enc x).drop o).take M.n = M.enc (g x):=aP.iff.1 (p.get (rp L x))
theorem aS.put {L:aY α} {M:aY β} [aP L] [aP M] {o:Nat} {g:α→β} {s:α→β→α} (p:aS L M o g s) (x:α) (v:β):bW (L.enc x) o (M.enc v) = L.enc (s x v):=aP.iff.1 (p.set (rp L x) (rp M v))
end
section words
variable {α ρ:Type}
def lt (a:α) (f:α→Option ρ):Option ρ:=f a
def gu (b:Bool) (k:Option ρ):Option ρ:=bif b then k else none
def bd (m:Option α) (f:α→Option ρ):Option ρ:=m.bind f
def cn (b:Bool) (x y:Option ρ):Option ρ:=bif b then x else y
def cl (g:Bool) (m:Option α) (z:α) (f:α→Option ρ):Option ρ:=bif g then m.bind f else f z
def cV (i:Int) (n:Nat):Bool:=decide (0 ≤ i) && decide (i < (n:Int))
abbrev wr (k:IntKind) (n:Int):Int:=k.wrap n
def zm (k:IntKind) (a b:Int):Int:=k.wrap (a * 2 ^ (min b.toNat k.bits))
def tI (k:IntKind) (a b:Int):Int:=a.fdiv (2 ^ (min b.toNat k.bits))
def s7 (k:IntKind) (a b:Int):Int:=k.wrap ((BitVec.ofInt k.bits a &&& BitVec.ofInt k.bits b).toNat:Int)
theorem cW {a:α} {f:α→Option ρ} {r:ρ} (h:lt a f = some r):∃x,x = a∧f x = some r:=⟨a,rfl,h⟩
theorem dZ {b:Bool} {k:Option ρ} {r:ρ} (h:gu b k = some r):b = true∧k = some r:=by cases b with | true=>exact ⟨rfl,h⟩ | false=>cases h
theorem bz {m:Option α} {f:α→Option ρ} {r:ρ} (h:bd m f = some r):∃x,m = some x∧f x = some r:=by cases m with | none=>cases h | some x=>exact ⟨x,rfl,h⟩
theorem Gq {b:Bool} {x y:Option ρ} {r:ρ} (hb:b = true) (h:cn b x y = some r):x = some r:=by subst hb; exact h
theorem Gr {b:Bool} {x y:Option ρ} {r:ρ} (hb:b = false) (h:cn b x y = some r):y = some r:=by subst hb; exact h
theorem iU {g:Bool} {m:Option α} {z:α} {f:α→Option ρ} {r:ρ} (h:cl g m z f = some r):∃x,(g = true→m = some x)∧(g = false→x = z)∧f x = some r:=by
  cases g with
  | true=>obtain ⟨x,h1,h2⟩:=bz h; exact ⟨x,fun _=>h1,nofun,h2⟩
  | false=>exact ⟨z,nofun,fun _=>rfl,h⟩
theorem aE {i:Int} {n:Nat} (h:cV i n = true):i = (i.toNat:Int)∧i.toNat < n:=by
  simp [cV] at h; omega
theorem kz {g p:Bool} (h:(!g || p) = true) (hg:g = true):p = true:=by subst hg; simpa using h
end words
section
variable {α1 ρ:Type}
def dz (B:(α1→Option ρ)→α1→Option ρ):Nat→α1→Option ρ
  | 0,_=>none
  | n + 1,a1=>B (dz B n) a1
theorem mB {B:(α1→Option ρ)→α1→Option ρ} {n:Nat} {a1:α1} {r:ρ} (h:dz B n a1 = some r):∃lb,lb = B∧dz lb n a1 = some r:=⟨B,rfl,h⟩
theorem mA {lb B:(α1→Option ρ)→α1→Option ρ} (e:lb = B) {m:Nat} {a1:α1} {r:ρ} (h:dz lb m a1 = some r):∃m',m = m' + 1∧B (dz lb m') a1 = some r:=by
  subst e
  cases m with
  | zero=>cases h
  | succ m=>exact ⟨m,rfl,h⟩
theorem ES {j B:α1→Option ρ} (e:j = B) {a1:α1} {r:ρ} (h:j a1 = some r):B a1 = some r:=e ▸ h
theorem fY {B:(α1→Option ρ)→α1→Option ρ} (I:α1→Prop) (μ:α1→Nat) (Q:Option ρ→Prop) (hB:∀k a1,I a1→(∀b1,I b1→μ b1 < μ a1→Q (k b1))→Q (B k a1)):∀n a1,I a1→μ a1 < n→Q (dz B n a1):=by
  intro n
  induction n with
  | zero=>intro a1 _ h; exact absurd h (Nat.not_lt_zero _)
  | succ n ih=>intro a1 hi hm; exact hB _ a1 hi fun b1 hj hl=>ih b1 hj (by omega)
end
section
variable {α1 α2 ρ:Type}
def cP (B:(α1→α2→Option ρ)→α1→α2→Option ρ):Nat→α1→α2→Option ρ
  | 0,_,_=>none
  | n + 1,a1,a2=>B (cP B n) a1 a2
theorem nQ {B:(α1→α2→Option ρ)→α1→α2→Option ρ} {n:Nat} {a1:α1} {a2:α2} {r:ρ} (h:cP B n a1 a2 = some r):∃lb,lb = B∧cP lb n a1 a2 = some r:=⟨B,rfl,h⟩
theorem nP {lb B:(α1→α2→Option ρ)→α1→α2→Option ρ} (e:lb = B) {m:Nat} {a1:α1} {a2:α2} {r:ρ} (h:cP lb m a1 a2 = some r):∃m',m = m' + 1∧B (cP lb m') a1 a2 = some r:=by
  subst e
  cases m with
  | zero=>cases h
  | succ m=>exact ⟨m,rfl,h⟩
theorem ER {j B:α1→α2→Option ρ} (e:j = B) {a1:α1} {a2:α2} {r:ρ} (h:j a1 a2 = some r):B a1 a2 = some r:=e ▸ h
theorem de {B:(α1→α2→Option ρ)→α1→α2→Option ρ} (I:α1→α2→Prop) (μ:α1→α2→Nat) (Q:Option ρ→Prop) (hB:∀k a1 a2,I a1 a2→(∀b1 b2,I b1 b2→μ b1 b2 < μ a1 a2→Q (k b1 b2))→Q (B k a1 a2)):∀n a1 a2,I a1 a2→μ a1 a2 < n→Q (cP B n a1 a2):=by
  intro n
  induction n with
  | zero=>intro a1 a2 _ h; exact absurd h (Nat.not_lt_zero _)
  | succ n ih=>intro a1 a2 hi hm; exact hB _ a1 a2 hi fun b1 b2 hj hl=>ih b1 b2 hj (by omega)
end
section
variable {α1 α2 α3 ρ:Type}
def ku (B:(α1→α2→α3→Option ρ)→α1→α2→α3→Option ρ):Nat→α1→α2→α3→Option ρ
  | 0,_,_,_=>none
  | n + 1,a1,a2,a3=>B (ku B n) a1 a2 a3
theorem AZ {B:(α1→α2→α3→Option ρ)→α1→α2→α3→Option ρ} {n:Nat} {a1:α1} {a2:α2} {a3:α3} {r:ρ} (h:ku B n a1 a2 a3 = some r):∃lb,lb = B∧ku lb n a1 a2 a3 = some r:=⟨B,rfl,h⟩
theorem AY {lb B:(α1→α2→α3→Option ρ)→α1→α2→α3→Option ρ} (e:lb = B) {m:Nat} {a1:α1} {a2:α2} {a3:α3} {r:ρ} (h:ku lb m a1 a2 a3 = some r):∃m',m = m' + 1∧B (ku lb m') a1 a2 a3 = some r:=by
  subst e
  cases m with
  | zero=>cases h
  | succ m=>exact ⟨m,rfl,h⟩
theorem nh {B:(α1→α2→α3→Option ρ)→α1→α2→α3→Option ρ} (I:α1→α2→α3→Prop) (μ:α1→α2→α3→Nat) (Q:Option ρ→Prop) (hB:∀k a1 a2 a3,I a1 a2 a3→(∀b1 b2 b3,I b1 b2 b3→μ b1 b2 b3 < μ a1 a2 a3→Q (k b1 b2 b3))→Q (B k a1 a2 a3)):∀n a1 a2 a3,I a1 a2 a3→μ a1 a2 a3 < n→Q (ku B n a1 a2 a3):=by
  intro n
  induction n with
  | zero=>intro a1 a2 a3 _ h; exact absurd h (Nat.not_lt_zero _)
  | succ n ih=>intro a1 a2 a3 hi hm; exact hB _ a1 a2 a3 hi fun b1 b2 b3 hj hl=>ih b1 b2 b3 hj (by omega)
end
section
variable {α1 α2 α3 α4 ρ:Type}
end
section
variable {α1 α2 α3 α4 α5 ρ:Type}
end
section
variable {α1 α2 α3 α4 α5 α6 ρ:Type}
end
section
variable {α1 α2 α3 α4 α5 α6 α7 ρ:Type}
end
section
variable {α1 α2 α3 α4 α5 α6 α7 α8 ρ:Type}
end
section
variable {α1 α2 α3 α4 α5 α6 α7 α8 α9 ρ:Type}
end
section
variable {α1 α2 α3 α4 α5 α6 α7 α8 α9 HD ρ:Type}
end
section
variable {α1 α2 α3 α4 α5 α6 α7 α8 α9 HD Lq ρ:Type}
end
section
variable {α1 α2 α3 α4 α5 α6 α7 α8 α9 HD Lq No ρ:Type}
end
section rules
variable {P:Program} {N:Nat} {c:Cx} {D:List Deferred} {Q:Exit→Act→World→Prop} {F:cv} {H:List aF} {d:Option Tmp} {ty:TypeId} {ps:String} {af:Array Edge} {g:Option (Nat × Bool)} {α β γ:Type}
theorem qF {x:Operand} {y z:Code} {t:Bool} (hc:ev F x = some (.bool t)) (h1:t = true→WP P N c D y Q F H) (h0:t = false→WP P N c D z Q F H):WP P N c D (.cond x y z) Q F H:=by
  cases t with
  | true=>exact Ap hc (h1 rfl)
  | false=>exact yI hc (h0 rfl)
theorem nE {o:Oper} {v v' : Value} (h:VS P N c o F H v) (e:v = v'):VS P N c o F H v':=e ▸ h
theorem AB {T U:TypeId} {x y:Operand} {k:IntKind} {a b:Int} (hx:ev F x = some (.int k a)) (hy:ev F y = some (.int k b)):VS P N c ⟨d, .binOp .and T x y U,ty,ps,af,g⟩ F H (.int k (s7 k a b)):=AA hx hy rfl fun _ _=>rfl
theorem Au {T U:TypeId} {x y:Operand} {k k' : IntKind} {a b:Int} (hx:ev F x = some (.int k a)) (hy:ev F y = some (.int k' b)) (h0:0 ≤ b):VS P N c ⟨d, .binOp .shl T x y U,ty,ps,af,g⟩ F H (.int k (zm k a b)):=Df hx hy h0 rfl
theorem vm {T U:TypeId} {x y:Operand} {k k' : IntKind} {a b:Int} (hx:ev F x = some (.int k a)) (hy:ev F y = some (.int k' b)) (h0:0 ≤ b):VS P N c ⟨d, .binOp .shr T x y U,ty,ps,af,g⟩ F H (.int k (tI k a b)):=De hx hy h0 rfl
theorem bt {L:aY α} [aP L] {x:α} {k:IntKind} {o b t T:Nat} {y:Operand} {gg:α→Int} {s:α→Int→α} (p:aS L (LI k) o gg s) (hx:ev F y = some (Ptr b o)) [j2 H b T (L.enc x)] [jA P t]:VS P N c ⟨d, .load t y,ty,ps,af,g⟩ F H (.int k (gg x)):=cE hx (p.int (rp L x))
theorem mb {L:aY α} [aP L] {x:α} {o b t T:Nat} {y:Operand} {gg:α→Bool} {s:α→Bool→α} (p:aS L LB o gg s) (hx:ev F y = some (Ptr b o)) [j2 H b T (L.enc x)] [jA P t]:VS P N c ⟨d, .load t y,ty,ps,af,g⟩ F H (.bool (gg x)):=cE hx (p.bool (rp L x))
theorem eA {L:aY α} {M:aY β} [aP L] [aP M] {x:α} {o b t T q:Nat} {y:Operand} {gg:α→β} {s:α→β→α} (p:aS L M o gg s) (hx:ev F y = some (Ptr b o)) [j2 H b T (L.enc x)] [ht:iB P t q] (hn:M.n = q):VS P N c ⟨d, .load t y,ty,ps,af,g⟩ F H (.agg (M.enc (gg x)).toArray):=by
  subst hn; exact bg hx (p.agg x) (bw _ _)
theorem dA {L:aY α} {M:aY β} [aP L] [aP M] {x:α} {o b t T q:Nat} {y z:Operand} {gg:α→β} {s:α→β→α} {val:Value} {H' : List aF} (p:aS L M o gg s) (v:β) (x' : α) (e:x' = s x v) (hx:ev F y = some (Ptr b o)) (hz:ev F z = some val) (hv:val.cells.toList = M.enc v)
    [j2 H b T (L.enc x)] [ht:y7 P t q] (hn:M.n = q) [rQ H b (L.enc x') H']:RX (α:=Unit) P N c ⟨d, .store t y z,ty,ps,af,g⟩ F H (fun _=>True) (fun _=>undef) (fun _=>H'):=by
  subst hn; subst e
  exact mU hx hz hv (bw _ _) (by rw [bw]; exact p.le) (oe _ _) (p.put x v)
theorem fk (L:aY α) [aP L] (x:α) {y:Operand} {t:Nat} {val:Value} (hx:ev F y = some val) (hv:val.cells.toList = L.enc x) :
    RX P N c ⟨d, .box t y,ty,ps,af,g⟩ F H (fun _=>True) (fun b=>Ptr b 0) (fun b=>.cells b t (L.enc x)::H):=uQ hx hv
theorem cJ {L:aY α} [aP L] {z:α} {t:Nat} (hz:cy P t (L.enc z)) :
    RX P N c ⟨d, .alloc t,ty,ps,af,g⟩ F H (fun _=>True) (fun b=>Ptr b 0) (fun b=>.cells b t (L.enc z)::H):=bG (hz:=hz)
theorem Dk {L:aY α} [aP L] {A:Nat→α} {x y:Operand} {T len e sz q m:Nat} {i:Int} {k:IntKind} [hT:nF P T len e sz] [hA:iB P e q] (hx:ev F x = some (.agg ((LA L len).enc A).toArray)) (hy:ev F y = some (.int k i)) (hi:i = (m:Int)) (hm:m < len) (h1:L.n = sz) (h2:L.n = q) :
    VS P N c ⟨d, .index T x y,ty,ps,af,g⟩ F H (.agg (L.enc (A m)).toArray):=by
  subst h2
  have:=(aS.idx (L:=L) (m:=len) m hm (k:=sz) h1.symm).agg A
  rw [h1] at this
  exact wo hx hy hi hm this
end rules
end Go.Bw
namespace Go.Bw
open Go Go.RowKit
def Hs (R:List aF) (w:World):Prop:=∀r ∈ R,r.holds w∧∀b ∈ r.fG,b < w.heap.size
class bL (K:World→Prop):Prop where
  ok:∀w w',K w→aR [] w w'→K w'
instance DU (R:List aF):bL (Hs R):=⟨fun w w' h hs r hr=>⟨aF.jg (h r hr).1 hs.size fun b hb=>hs.block b ((h r hr).2 b hb) (by simp),fun b hb=>Nat.lt_of_lt_of_le ((h r hr).2 b hb) hs.size⟩⟩
instance Dn (A B:World→Prop) [bL A] [bL B]:bL (fun w=>A w∧B w):=⟨fun w w' h hs=>⟨bL.ok w w' h.1 hs,bL.ok w w' h.2 hs⟩⟩
class Bt (A:World→Prop) (r:aF):Prop where
  ok:∀w,A w→r.holds w∧∀b ∈ r.fG,b < w.heap.size
instance (priority:=100) GZ (r:aF) (R:List aF):Bt (Hs (r::R)) r:=⟨fun _ h=>h r (by simp)⟩
instance (priority:=50) D4 (r s:aF) (R:List aF) [h:Bt (Hs R) r]:Bt (Hs (s::R)) r:=⟨fun w hw=>h.ok w fun q hq=>hw q (by simp [hq])⟩
instance (priority:=30) Lm (A B:World→Prop) (r:aF) [h:Bt B r]:Bt (fun w=>A w∧B w) r:=⟨fun w hw=>h.ok w hw.2⟩
class wF (A B:World→Prop):Prop where
  ok:∀w,A w→B w
theorem od {A B:World→Prop} [h:wF A B]:∀w,A w→B w:=h.ok
instance (priority:=100) G0 (A:World→Prop):wF A A:=⟨fun _ h=>h⟩
instance (priority:=90) HC (A B C:World→Prop) [h:wF A B] [k:wF A C]:wF A (fun w=>B w∧C w):=⟨fun w hw=>⟨h.ok w hw,k.ok w hw⟩⟩
instance (priority:=80) HB (A:World→Prop):wF A (Hs []):=⟨fun _ _ _ h=>by simp at h⟩
instance (priority:=70) G1 (A:World→Prop) (r:aF) (R:List aF) [h:Bt A r] [k:wF A (Hs R)]:wF A (Hs (r::R)):=⟨fun w hw q hq=>by
  rcases List.mem_cons.1 hq with rfl | hq
  · exact h.ok w hw
  · exact k.ok w hw q hq⟩
instance (priority:=40) Lp (A B C:World→Prop) [h:wF A C]:wF (fun w=>A w∧B w) C:=⟨fun w hw=>h.ok w hw.1⟩
class Kn (c:Cx) (H:List aF) (A:World→Prop):Prop where
  ok:∀w,aR c.bs c.w0 w→bB c.bs c.w0.heap.size H w→A w
theorem kn {c:Cx} {H:List aF} {A:World→Prop} [h:Kn c H A]:∀w,aR c.bs c.w0 w→bB c.bs c.w0.heap.size H w→A w:=h.ok
theorem Bc {c:Cx} {H:List aF} {w:World} (h:bB c.bs c.w0.heap.size H w):Hs H w:=fun r hr=>⟨h.holds r hr,fun b hb=>(h.own r hr b hb).2⟩
instance (priority:=90) Kl (c:Cx) (H:List aF) (A B:World→Prop) [h:Kn c H A] [k:Kn c H B]:Kn c H (fun w=>A w∧B w):=⟨fun w h1 h2=>⟨h.ok w h1 h2,k.ok w h1 h2⟩⟩
instance (priority:=80) Lh (c:Cx) (H R:List aF) [h:wF (Hs H) (Hs R)]:Kn c H (Hs R):=⟨fun w _ h2=>h.ok w (Bc h2)⟩
instance (priority:=80) Hy (c:Cx) (H:List aF):Kn c H (fun _=>True):=⟨fun _ _ _=>trivial⟩
section
variable {α β:Type}
def dR (L:aY α) [aP L] (xs:List α):List Value:=(xs.map L.enc).flatten
theorem kM (L:aY α) [aP L] (xs:List α):(dR L xs).length = xs.length * L.n:=by
  induction xs with
  | nil=>simp [dR]
  | cons x xs ih=>simp only [dR,List.map_cons,List.flatten_cons,List.length_append,List.length_cons,bw] at *; rw [ih,Nat.succ_mul]; omega
theorem xk (L:aY α) [aP L] (xs:List α):gW (dR L xs):=by
  intro v hv
  simp only [dR,List.mem_flatten,List.mem_map] at hv
  obtain ⟨l,⟨x,_,rfl⟩,h⟩:=hv
  exact oe L x v h
theorem kN (L:aY α) [aP L] (xs ys:List α):dR L (xs++ys) = dR L xs++dR L ys:=by simp [dR]
theorem qc (L:aY α) [aP L] (x:α):dR L [x] = L.enc x:=by simp [dR]
theorem um (g:Nat→List Value):∀n,flat g (n + 1) = g 0++flat (fun i=>g (i + 1)) n:=by
  intro n
  induction n with
  | zero=>simp [flat]
  | succ n ih=>rw [flat,ih,flat,List.append_assoc]
theorem jN (L:aY α) [aP L] [Inhabited α] (xs:List α):dR L xs = (LA L xs.length).enc (fun i=>xs.getD i default):=by
  show _ = flat (fun i=>L.enc (xs.getD i default)) xs.length
  induction xs with
  | nil=>rfl
  | cons x xs ih=>rw [List.length_cons,um]; simp only [dR,List.map_cons,List.flatten_cons] at *; rw [ih]; rfl
theorem su (L:aY α) [aP L] (xs:List α) (l h:Nat) (hl:l ≤ h) (hh:h ≤ xs.length):((dR L xs).drop (l * L.n)).take ((h - l) * L.n) = dR L ((xs.drop l).take (h - l)):=by
  have e1:xs = xs.take l++((xs.drop l).take (h - l)++(xs.drop l).drop (h - l)):=by rw [List.take_append_drop,List.take_append_drop]
  have l1:(dR L (xs.take l)).length = l * L.n:=by rw [kM,List.length_take,Nat.min_eq_left (by omega)]
  have l2:(dR L ((xs.drop l).take (h - l))).length = (h - l) * L.n:=by rw [kM]; congr 1; simp; omega
  conv=>lhs; rw [e1,kN,kN]
  rw [← l1,List.drop_left,← l2,List.take_left]
theorem xj (L:aY α) [aP L] [Inhabited α] (xs:List α) (m:Nat) (y:α) (hm:m < xs.length):(LA L xs.length).enc (dx (fun i=>xs.getD i default) m y) = dR L (xs.set m y):=by
  rw [jN,List.length_set]
  show flat _ _ = flat _ _
  refine lX fun i hi=>?_
  congr 1
  unfold dx
  simp only [List.getD,List.getElem?_set]
  by_cases e:m = i
  · subst e; simp [hm]
  · simp [e,Ne.symm e]
structure Fz (A:World→Prop) (v:Value) (L:aY α) [aP L] (xs:List α):Prop where
  sl:jw v xs.length
  ro:∀w,A w→Ro w v L.n xs.length (dR L xs)
theorem Fz.mono {A B:World→Prop} {v:Value} {L:aY α} [aP L] {xs:List α} (h:Fz A v L xs) (m:∀w,B w→A w):Fz B v L xs:=⟨h.sl,fun w hw=>h.ro w (m w hw)⟩
theorem Fz.nil {A:World→Prop} {L:aY α} [aP L] {a:Option Addr} {cp:Nat}:Fz A (.slice a 0 cp) L ([]:List α):=⟨⟨_,_,rfl⟩,fun _ _=>⟨by simp [dR], .inl ⟨⟨_,_,rfl⟩,rfl⟩⟩⟩
theorem Fz.at {c:Cx} {H:List aF} {A:World→Prop} {v:Value} {L:aY α} [aP L] {xs:List α} (h:Fz A v L xs) [k:Kn c H A]:mS c H v L.n xs.length (dR L xs):=⟨fun w h1 h2=>h.ro w (k.ok w h1 h2)⟩
theorem Fz.cut {A:World→Prop} {v:Value} {L:aY α} [aP L] {xs:List α} (h:Fz A v L xs) (l m sz:Nat) (hs:sz = L.n) (hl:l ≤ m) (hm:m ≤ xs.length):Fz A (g7 l m sz v) L ((xs.drop l).take (m - l)):=by
  subst hs
  have hlen:((xs.drop l).take (m - l)).length = m - l:=by simp; omega
  refine ⟨?_,fun w hw=>?_⟩
  · obtain ⟨a,cp,rfl⟩:=h.sl
    rw [hlen]; exact ⟨_,_,rfl⟩
  · have:=(h.ro w hw).cut hl hm
    rw [su L xs l m hl hm] at this
    rw [hlen]; exact this
abbrev Row (v:Value) (e sz:Nat) (L:aY α) [aP L] (xs:List α):aF:=.row v e sz xs.length (dR L xs)
theorem Fz.row {v:Value} {e sz:Nat} {L:aY α} [aP L] {xs:List α} (hs:sz = L.n) (h:jw v xs.length):Fz (Hs [Row v e sz L xs]) v L xs:=⟨h,fun w hw=>by
  subst hs
  have h1:(Row v e L.n L xs).holds w:=(hw _ (List.mem_singleton.2 rfl)).1
  exact Ro.oJ (e:=e) h1⟩
theorem Fz.cells {b T m:Nat} {L:aY α} [aP L] {xs:List α} (hm:m = xs.length):Fz (Hs [.cells b T (dR L xs)]) (.slice (some ⟨b,0,none⟩) m m) L xs:=by
  subst hm
  refine ⟨⟨_,_,rfl⟩,fun w hw=>?_⟩
  obtain ⟨h1,h2⟩:=hw _ (List.mem_singleton.2 rfl)
  refine ⟨kM _ _, .inr ⟨b,0,_,rfl,h2 b (by simp [aF.fG]),Nat.le_refl _,fun j u hu=>?_⟩⟩
  rw [Nat.zero_add,cell_of h1]; exact hu
theorem tJ (M:aY β) [aP M] [Inhabited β] (g:Nat→β) (m:Nat):dR M ((List.range m).map g) = flat (fun i=>M.enc (g i)) m:=by
  rw [jN]
  show flat _ _ = _
  rw [List.length_map,List.length_range]
  refine lX fun i hi=>?_
  simp [List.getD,hi]
theorem Fz.Ex {W:World} {v:Value} {L:aY α} [aP L] [Inhabited α] {sz len:Nat} {g:Nat→α} (hs:sz = L.n) (hv:jw v len) (h:Ro W v sz len (flat (fun i=>L.enc (g i)) len)):Fz (fun w=>aR [] W w) v L ((List.range len).map g):=by
  subst hs
  refine ⟨by simpa using hv,fun w hw=>?_⟩
  rw [tJ]
  have:=h.since hw
  simpa using this
instance AH (W:World):bL (fun w=>aR [] W w):=⟨fun _ _ h hs=>h.ext hs⟩
def ou (L:aY α) [aP L]:aY (List α) where
  n:=1
  rep A cs xs:=∃v,cs = [v]∧Fz A v L xs
  len:=fun ⟨v,h,_⟩=>by subst h; rfl
  one:=fun ⟨v,h,hf⟩=>by subst h; intro u hu; rw [List.mem_singleton.1 hu]; exact hf.sl.one
  mono m:=fun ⟨v,h,hf⟩=>⟨v,h,hf.mono m⟩
theorem aS.sl {L:aY α} {M:aY β} [aP M] {o:Nat} {g:α→List β} {s:α→List β→α} (p:aS L (ou M) o g s) {A cs x} (r:L.rep A cs x):∃v,cs[o]? = some v∧Fz A v M (g x):=by
  obtain ⟨v,h,hf⟩:=p.get r
  refine ⟨v,?_,hf⟩
  have h2:((cs.drop o).take (ou M).n)[0]? = some v:=by rw [h]; rfl
  rw [List.getElem?_take,if_pos (by show 0 < 1; decide),List.getElem?_drop] at h2
  exact h2
end
section rules
variable {P:Program} {N:Nat} {c:Cx} {D:List Deferred} {Q:Exit→Act→World→Prop} {F:cv} {H:List aF} {d:Option Tmp} {ty:TypeId} {ps:String} {af:Array Edge} {g:Option (Nat × Bool)} {α β γ:Type}
section
variable {A:World→Prop} {v:Value} {L:aY α} [aP L] {xs:List α}
theorem cu {x:Operand} {t e q:Nat} [ht:n8 P t e q] (hf:Fz A v L xs) (hx:ev F x = some v) [Kn c H A]:VS P N c ⟨d, .call ⟨.builtin .len,#[x],#[t]⟩,ty,ps,af,g⟩ F H (.int .i64 (xs.length:Int)):=by
  haveI:=hf.at (c:=c) (H:=H)
  exact Dj hx
theorem eD {x y:Operand} {t e sz m:Nat} {k:IntKind} {i:Int} [ht:n8 P t e sz] (hf:Fz A v L xs) (hs:L.n = sz) (hx:ev F x = some v) (hy:ev F y = some (.int k i)) [Kn c H A] (hi:i = (m:Int)) (hm:m < xs.length) :
    VS P N c ⟨d, .indexAddr t x y,ty,ps,af,g⟩ F H (jc v (m * sz)):=by
  haveI:=hf.at (c:=c) (H:=H)
  subst hs
  exact rO hx hy hi hm
variable [Inhabited α]
theorem fj {k:IntKind} {o t:Nat} {y:Operand} {gg:(Nat→α)→Int} {s:(Nat→α)→Int→(Nat→α)} (hf:Fz A v L xs) (p:aS (LA L xs.length) (LI k) o gg s) (hx:ev F y = some (jc v o)) [Kn c H A] [jA P t]:VS P N c ⟨d, .load t y,ty,ps,af,g⟩ F H (.int k (gg (fun i=>xs.getD i default))):=by
  haveI:=hf.at (c:=c) (H:=H)
  exact tf hx (by rw [jN]; exact p.int (rp _ _))
theorem oq {M:aY β} [aP M] {o t q:Nat} {y:Operand} {gg:(Nat→α)→β} {s:(Nat→α)→β→(Nat→α)} (hf:Fz A v L xs) (p:aS (LA L xs.length) M o gg s) (hx:ev F y = some (jc v o)) [Kn c H A] [iB P t q] (hn:M.n = q) (h0:0 < q) :
    VS P N c ⟨d, .load t y,ty,ps,af,g⟩ F H (.agg (M.enc (gg (fun i=>xs.getD i default))).toArray):=by
  haveI:=hf.at (c:=c) (H:=H)
  subst hn
  exact rM hx (by rw [jN]; exact p.agg _) (bw _ _) h0
end
def jH (n m b:Nat):Bool:=decide ((n + m) * b ≤ 140737488355328∧n + m ≤ 9223372036854775807)
theorem gR {n m b:Nat} (h:jH n m b = true):(n + m) * b ≤ 140737488355328∧n + m ≤ 9223372036854775807:=of_decide_eq_true h
section
variable {A:World→Prop} {v:Value} {L:aY α} [aP L] {xs:List α}
theorem wu {x lo:Operand} {t e q l:Nat} {k:IntKind} {i:Int} [ht:n8 P t e q] (hf:Fz A v L xs) (hx:ev F x = some v) (hlo:ev F lo = some (.int k i)) (hi:i = (l:Int)) (hl:l ≤ xs.length) [Kn c H A] :
    VS P N c ⟨d, .slice t x (some lo) none none,ty,ps,af,g⟩ F H (g7 l xs.length q v):=by
  subst hi; haveI:=hf.at (c:=c) (H:=H); exact wz l hx hlo hl
theorem wv {x hi:Operand} {t e q m:Nat} {k:IntKind} {i:Int} [ht:n8 P t e q] (hf:Fz A v L xs) (hx:ev F x = some v) (hhi:ev F hi = some (.int k i)) (hi' : i = (m:Int)) (hm:m ≤ xs.length) [Kn c H A] :
    VS P N c ⟨d, .slice t x none (some hi) none,ty,ps,af,g⟩ F H (g7 0 m q v):=by
  subst hi'; haveI:=hf.at (c:=c) (H:=H); exact wA m hx hhi hm
end
theorem pA {L:aY α} {M:aY β} {o b t T q:Nat} {y z:Operand} {gg:α→β} {s:α→β→α} {val:Value} {cs cs' : List Value} (vs:List Value) {x:α} {v:β} {A B:World→Prop} {H' : List aF} (p:aS L M o gg s) (r:L.rep A cs x) (rv:M.rep B vs v) (hx:ev F y = some (Ptr b o)) (hz:ev F z = some val) (hv:val.cells.toList = vs)
    [j2 H b T cs] [ht:y7 P t q] (hn:M.n = q) (hc:bW cs o vs = cs') [rQ H b cs' H']:RX (α:=Unit) P N c ⟨d, .store t y z,ty,ps,af,g⟩ F H (fun _=>True) (fun _=>undef) (fun _=>H'):=by
  subst hn
  exact mU hx hz hv (M.len rv) (by rw [L.len r]; exact p.le) (M.one rv) hc
section
variable {v:Value} {L:aY α} [aP L] {xs:List α} {t e sz bytes:Nat} {f:aF→List aF}
theorem lq {s x:Operand} {b T cp:Nat} {y:α} [yN P t e sz bytes] (hs:ev F s = some v) [hr:kZ H v e sz xs.length (dR L xs) f] (hx:ev F x = some (.slice (some ⟨b,0,none⟩) 1 cp)) [hc:j2 H b T (L.enc y)] (hn:L.n = sz)
    (vT:(xs.length + 1) * bytes ≤ 140737488355328) (h63:xs.length + 1 ≤ 9223372036854775807) :
    RX P N c ⟨d, .call ⟨.builtin .append,#[s,x],#[t,t]⟩,ty,ps,af,g⟩ F H (fun v'=>jw v' (xs++[y]).length) (fun v'=>v') (fun v'=>f (Row v' e sz L (xs++[y]))):=by
  have h:=wC (P:=P) (N:=N) (c:=c) (F:=F) (H:=H) (d:=d) (ty:=ty) (p:=ps) (af:=af) (g:=g) (t:=t) (m:=1) hs hx (by rw [bw,hn]; omega) (oe L y) vT h63 (hr:=hr) (hc:=hc)
  have e1:(xs++[y]).length = xs.length + 1:=by simp
  have e2:dR L (xs++[y]) = dR L xs++L.enc y:=by rw [kN,qc]
  unfold Row
  rw [e1,e2]; exact h
theorem AJ {s x:Operand} {A:World→Prop} {u:Value} {ys:List α} [yN P t e sz bytes] (hf:Fz A u L ys) (hs:ev F s = some v) [hr:kZ H v e sz xs.length (dR L xs) f] (hx:ev F x = some u) [Kn c H A] (hn:L.n = sz)
    (vT:(xs.length + ys.length) * bytes ≤ 140737488355328) (h63:xs.length + ys.length ≤ 9223372036854775807) :
    RX P N c ⟨d, .call ⟨.builtin .append,#[s,x],#[t,t]⟩,ty,ps,af,g⟩ F H (fun v'=>jw v' (xs++ys).length) (fun v'=>v') (fun v'=>f (Row v' e sz L (xs++ys))):=by
  subst hn
  have h:=rT (P:=P) (N:=N) (c:=c) (F:=F) (H:=H) (d:=d) (ty:=ty) (p:=ps) (af:=af) (g:=g) (t:=t) hs hx (hr:=hr) (hu:=hf.at) (xk L ys) vT h63
  have e1:(xs++ys).length = xs.length + ys.length:=by simp
  have e2:dR L (xs++ys) = dR L xs++dR L ys:=kN _ _ _
  unfold Row
  rw [e1,e2]; exact h
theorem mg {x:Operand} (L:aY α) [aP L] (y:α) {zs:List Value} {val:Value} [ht:n8 P t e sz] [hz:cy P e zs] (hx:ev F x = some val) (hc:val.cells.toList = L.enc y) (hl:L.n = sz) (He:zs.length = sz) (h0:0 < sz) (hs:sz ≤ 16777216) :
    RX P N c ⟨d, .buildSlice t 1 #[(0,x)],ty,ps,af,g⟩ F H (fun _=>True) (fun b=>.slice (some ⟨b,0,none⟩) 1 1) (fun b=>.cells b e (L.enc y)::H):=pB hx hc (by rw [bw]; exact hl) He h0 hs
end
theorem rK {x:Code} (e sz:Nat) (L:aY α) [aP L] (h:WP P N c D x Q F (Row (.slice none 0 0) e sz L []::H)):WP P N c D x Q F H:=Aq e sz h
theorem Am {x:Exit} (e sz:Nat) (L:aY α) [aP L] (h:WQ N c D Q x F (Row (.slice none 0 0) e sz L []::H)):WQ N c D Q x F H:=An e sz h
theorem q7 {bs:List Nat} {n0:Nat} {w:World} (h:bB bs n0 H w):bB bs n0 (.ext [] (Hs [])::H) w:=
  h.cons (fun w' _ _ r hr=>by simp at hr) (fun b hb=>by simp [aF.fG] at hb) (fun s hs b hb=>by simp [aF.fG] at hb)
theorem mR {x:Code} (h:WP P N c D x Q F (.ext [] (Hs [])::H)):WP P N c D x Q F H:=yD (fun _ _ _ hp=>q7 hp) h
abbrev tv (P:Program) (f:Nat) (args:List Value) (K:World→Prop) (p:(World→Prop)→Value→Prop):Prop:=
  Fn (α:=Value × List Nat × (World→Prop)) P f args K [] (fun x=>p (Hs [.ext x.2.1 x.2.2]) x.1) (fun x=>x.1) (fun x=>[.ext x.2.1 x.2.2])
theorem gU {args:List Operand} {ats:Array TypeId} {f:Nat} {vs:List Value} {K:World→Prop} {p:(World→Prop)→Value→Prop} (hc:tv P f vs K p) (ha:nx F args = some vs) [k:Kn c H K] :
    RX (α:=Value × List Nat × (World→Prop)) P N c ⟨d, .call ⟨.value (.func f),args.toArray,ats⟩,ty,ps,af,g⟩ F H (fun x=>p (Hs [.ext x.2.1 x.2.2]) x.1) (fun x=>x.1) (fun x=>.ext x.2.1 x.2.2::H):=fI hc ha k.ok
theorem wk {D:List Deferred} {ops:Array Oper} {rest:List Oper} {args:List Operand} {ats:Array TypeId} {f:Nat} {vs:List Value} {K:World→Prop} {p:(World→Prop)→Value→Prop} {dd:Tmp} {gg:Option (Nat × Bool)} {b:Bool}
    (hg:Gd ops F gg b) (hd:Nat.blt dd N = true) (hc:b = true→tv P f vs K p) (ha:b = true→nx F args = some vs) (k:b = true→Kn c H K)
    (h:∀x:Value × List Nat × (World→Prop),(b = true→p (Hs [.ext x.2.1 x.2.2]) x.1)→WL P N c D ops Q rest ((dd,bif b then x.1 else undef)::F) (.ext x.2.1 x.2.2::H)) :
    WL P N c D ops Q (⟨some dd, .call ⟨.value (.func f),args.toArray,ats⟩,ty,ps,af,gg⟩::rest) F H:=by
  cases b with
  | false=>exact oo hg hd (Dd (fun _ _ _ hp=>q7 hp) (h (undef,[],Hs []) nofun))
  | true =>
    intro a w hst
    simp only [wpListIn,hg ⟨some dd, .call ⟨.value (.func f),args.toArray,ats⟩,ty,ps,af,gg⟩ a rfl hst.fr,if_true]
    haveI:=k rfl
    exact gU (hc rfl) (ha rfl) D a w _ Q hst fun x w' hp hs hh=>h x (fun _=>hp) _ _ (hst.put (d:=some dd) hd hs hh)
theorem tp {ops:Array Oper} {args:List Operand} {ats:Array TypeId} {f:Nat} {vs:List Value} {K:World→Prop} {p:(World→Prop)→Value→Prop} {gg:Option (Nat × Bool)} {b:Bool}
    (hg:Gd ops F gg b) (hc:b = true→tv P f vs K p) (ha:b = true→nx F args = some vs) (k:b = true→Kn c H K) :
    RG (α:=Value × List Nat × (World→Prop)) P N c ops ⟨d, .call ⟨.value (.func f),args.toArray,ats⟩,ty,ps,af,gg⟩ F H (fun x=>b = true→p (Hs [.ext x.2.1 x.2.2]) x.1) (fun x=>bif b then x.1 else undef) (fun x=>.ext x.2.1 x.2.2::H):=fun D a w next Q hst hk=>by
  rw [hg ⟨d, .call ⟨.value (.func f),args.toArray,ats⟩,ty,ps,af,gg⟩ a rfl hst.fr]
  cases b with
  | false=>exact hk (undef,[],Hs []) w nofun hst.si (q7 hst.hp)
  | true =>
    haveI:=k rfl
    exact gU (hc rfl) (ha rfl) D a w next Q hst fun x w' hp hs hh=>hk x w' (fun _=>hp) hs hh
theorem rD {bs:List Nat} {n0:Nat} {w:World} {R H' : List aF} (h:bB bs n0 (R++H') w):bB bs n0 (.ext (br R) (Hs R)::H') w:=by
  have hp:=List.pairwise_append.1 h.apart
  refine ⟨fun r hr=>?_,fun r hr b hb=>?_,?_⟩
  · rcases List.mem_cons.1 hr with rfl | hr
    · intro w' h1 h2 q hq
      have Mq:=h.holds q (List.mem_append_left _ hq)
      exact ⟨aF.jg Mq h1 fun b hb=>h2 b (bY.2 ⟨q,hq,hb⟩),fun b hb=>Nat.lt_of_lt_of_le (h.own q (List.mem_append_left _ hq) b hb).2 h1⟩
    · exact h.holds r (List.mem_append_right _ hr)
  · rcases List.mem_cons.1 hr with rfl | hr
    · obtain ⟨q,hq,hb⟩:=bY.1 hb; exact h.own q (List.mem_append_left _ hq) b hb
    · exact h.own r (List.mem_append_right _ hr) b hb
  · refine List.pairwise_cons.2 ⟨fun s hs b hb cX=>?_,hp.2.1⟩
    obtain ⟨q,hq,hb⟩:=bY.1 hb
    exact hp.2.2 q hq s hs b hb cX
theorem oh {e:Exit} {H' : List aF} {ks:List Nat} (hk:pick H ks = some H') (hn:ks.Nodup) (h:WQ N c D Q e F H'):WQ N c D Q e F H:=uI (fun _ _ _ hp=>hp.pick hk hn) h
theorem om {e:Exit} {J:Nat→List Nat→World→Prop} {k n:Nat} {es:List Nat} {H' : List aF} (ek:k = n) (h:WQ N c D Q e F (.ext es (J n es)::H')):WQ N c D Q e F (.ext es (J k es)::H'):=ek ▸ h
theorem bV {e:Exit} {R H' : List aF} {ks:List Nat} (hk:pick H ks = some (R++H')) (hn:ks.Nodup) (h:WQ N c D Q e F (.ext (br R) (Hs R)::H')):WQ N c D Q e F H:=uI (fun _ _ _ hp=>rD (hp.pick hk hn)) h
instance (priority:=60) HA (bs:List Nat) (R:List aF) (r:aF) (S:List aF) [h:Bt (Hs R) r]:Bt (Hs (.ext bs (Hs R)::S)) r:=⟨fun w hw=>h.ok w (ext_get (hw (.ext bs (Hs R)) (by simp)).1)⟩
end rules
end Go.Bw
namespace Go.Bw
open Go Go.RowKit
section rules
variable {P:Program} {N:Nat} {c:Cx} {D:List Deferred} {Q:Exit→Act→World→Prop} {F:cv} {H:List aF} {d:Option Tmp} {ty:TypeId} {ps:String} {af:Array Edge} {g:Option (Nat × Bool)} {α β γ:Type}
def yU (bs:List Nat) (K:World→Prop) (w:World):Prop:=∀w',aR bs w w'→K w'
class vt (c:Cx) (R:List aF) (K:World→Prop):Prop where
  ok:∀w,aR c.bs c.w0 w→Hs R w→K w
instance (priority:=90) Hz (c:Cx) (R:List aF) (A B:World→Prop) [h:vt c R A] [k:vt c R B]:vt c R (fun w=>A w∧B w):=⟨fun w h1 h2=>⟨h.ok w h1 h2,k.ok w h1 h2⟩⟩
instance (priority:=80) Km (c:Cx) (R S:List aF) [h:wF (Hs R) (Hs S)]:vt c R (Hs S):=⟨fun w _ h2=>h.ok w h2⟩
instance (priority:=80) GX (c:Cx) (R:List aF):vt c R (fun _=>True):=⟨fun _ _ _=>trivial⟩
instance (priority:=20) Nf (c:Cx) (H:List aF) (K:World→Prop) [h:vt c H K]:Kn c H K:=⟨fun w h1 h2=>h.ok w h1 (Bc h2)⟩
theorem zG {c:Cx} {K:World→Prop} [hS:bL K] (cX:c.bs = []) (hpre:K c.w0):∀R,vt c R K:=fun R=>⟨fun w hs _=>hS.ok c.w0 w hpre (by rw [cX] at hs; exact hs)⟩
theorem hO {c:Cx} {K:World→Prop} {bs:List Nat} (cX:c.bs = bs) (hpre:yU bs K c.w0):∀R,vt c R K:=fun R=>⟨fun w hs _=>hpre w (cX ▸ hs)⟩
abbrev Lo (P:Program) (f:Nat) (args:List Value) (K:World→Prop) (lK:List aF) (p:(World→Prop)→Value→List aF→Prop):Prop:=
  Fn (α:=Value × List aF × List Nat × (World→Prop)) P f args (yU (br lK) K) lK (fun x=>p (Hs [.ext x.2.2.1 x.2.2.2]) x.1 x.2.1) (fun x=>x.1) (fun x=>.ext x.2.2.1 x.2.2.2::x.2.1)
theorem iD {α:Type} {x:Operand} {args:List Operand} {ats:Array TypeId} {f:Nat} {fst cap:Array Value} {us vs:List Value} {K:World→Prop} {lK rest:List aF} {p:α→Prop} {fv:α→Value} {fH:α→List aF} {ks:List Nat}
    (hc:Fn P f vs (yU (br lK) K) lK p fv fH) (hx:ev F x = some (.func (.func f) fst cap)) (ha:nx F args = some us) (hv:fst.toList++us++cap.toList = vs) (hkp:pick H ks = some (lK++rest)) (hn:ks.Nodup) [hK:vt c rest K] :
    RX P N c ⟨d, .call ⟨.value x,args.toArray,ats⟩,ty,ps,af,g⟩ F H p fv (fun i=>fH i++rest):=fun D a w next Q hst hk=>by
  refine ⟨fun _ _=>trivial,?_⟩
  have hs:Oper.semAt (FA c.ro).round a.eval (⟨d, .call ⟨.value x,args.toArray,ats⟩,ty,ps,af,g⟩ : Oper) = execOp a.eval ⟨d, .call ⟨.value x,args.toArray,ats⟩,ty,ps,af,g⟩:=Oper.semAt_eq _ _ _ (by simp)
  have hr:(execOp a.eval ⟨d, .call ⟨.value x,args.toArray,ats⟩,ty,ps,af,g⟩).run P w = .ok (.enter f vs.toArray) w:=by
    have e1:=aV hst.fr hx
    have e2:=o4 hst.fr ha
    have e3:fst++(args.toArray.map a.eval)++cap = vs.toArray:=by
      rw [← hv,← e2]
      simp
    simp only [execOp,resolve,e1,Deferred.ofValue,Sem.run_bind,Sem.run_pure,Result.andThen_ok,invoke,e3]
    exact hc.enter _ _
  rw [hs,hr]
  refine ⟨fun h=>by simp at h,ji c.ro ?_⟩
  have hp:=hst.hp.pick hkp hn
  have hap:=List.pairwise_append.1 hp.apart
  have hin:bB (br lK) w.heap.size lK w:=⟨fun r hr=>hp.holds r (List.mem_append_left _ hr),fun r hr b hb=>⟨.inl (bY.2 ⟨r,hr,hb⟩),(hp.own r (List.mem_append_left _ hr) b hb).2⟩,hap.1⟩
  have hkeep:∀{w' : World},aR (br lK) w w'→∀r ∈ rest,r.holds w'∧∀b ∈ r.fG,b < w'.heap.size:=fun hsi r hr=>by
    have hlt:∀b ∈ r.fG,b < w.heap.size:=fun b hb=>(hp.own r (List.mem_append_right _ hr) b hb).2
    refine ⟨aF.jg (hp.holds r (List.mem_append_right _ hr)) hsi.size fun b hb=>hsi.block b (hlt b hb) fun hm=>?_,fun b hb=>Nat.lt_of_lt_of_le (hlt b hb) hsi.size⟩
    obtain ⟨q,hq,F5⟩:=bY.1 hm
    exact hap.2.2 q hq r hr b F5 hb
  have hown:∀b ∈ br lK,b ∈ c.bs∨c.w0.heap.size ≤ b:=fun b hb=>by
    obtain ⟨q,hq,F5⟩:=bY.1 hb
    exact (hp.own q (List.mem_append_left _ hq) b F5).1
  have hpre:yU (br lK) K w:=fun w' hsi=>hK.ok w' (hst.si.trans hsi hown) (hkeep hsi)
  have sO:=hc.calls w hpre hin
  intro cs
  obtain ⟨e,w',fr,⟨i,vX,he,hsi,hh⟩,more⟩:=sO cs
  refine ⟨e,w',fr,?_,more⟩
  subst he
  have nS:=hkeep hsi
  refine hk i w' vX (hst.si.trans hsi hown) ⟨fun r hm=>?_,fun r hm b hb=>?_,List.pairwise_append.2 ⟨hh.apart,hap.2.1,fun r h1 s h2 b hb zT=>?_⟩⟩
  · rcases List.mem_append.1 hm with h1 | h1
    · exact hh.holds r h1
    · exact (nS r h1).1
  · rcases List.mem_append.1 hm with h1 | h1
    · obtain ⟨o,l⟩:=hh.own r h1 b hb
      refine ⟨?_,l⟩
      rcases o with o | o
      · exact hown b o
      · exact .inr (Nat.le_trans hst.si.size o)
    · exact ⟨(hp.own r (List.mem_append_right _ h1) b hb).1,(nS r h1).2 b hb⟩
  · obtain ⟨o,_⟩:=hh.own r h1 b hb
    rcases o with o | o
    · obtain ⟨q,hq,F5⟩:=bY.1 o
      exact hap.2.2 q hq s h2 b F5 zT
    · have:=(hp.own s (List.mem_append_right _ h2) b zT).2
      omega
end rules
end Go.Bw
namespace Go.Bw
open Go Go.RowKit
structure vv (P:Program) (gf:Nat) (caps:List Value) (Hc:List aF) (K:World→Prop) (encs:Nat→List Value) (n:Nat):Prop where
  fn:∀(l:Nat) (J:Nat→List Nat→World→Prop) (Jx:List Nat→World→Prop) (bs:List Nat),
    Fn (α:=Bool × List Nat) P gf (.func (.yield l) #[] #[]::caps) (fun w=>yU (bs++br Hc) K w∧Bp P l (bs++br Hc) w J Jx encs n) (.ext bs (J 0 bs)::Hc)
      (fun _=>True) (fun _=>.tuple #[]) (fun x=>.ext x.2 (bif x.1 then J n x.2 else Jx x.2)::Hc)
theorem jY {P:Program} {N:Nat} {c:Cx} {D:List Deferred} {Q:Exit→Act→World→Prop} {F:cv} {H:List aF} {g:Operand} {ps:List Nat} {assign body:Code}
    {gf n:Nat} {caps:Array Value} {Hc:List aF} {K:World→Prop} {encs:Nat→List Value} {α β:Type}
    (hro:c.ro = none) (hg:ev F g = some (.func (.func gf) #[] caps)) (hit:vv P gf caps.toList Hc K encs n) (hlen:∀k,(encs k).length = ps.length) (hps:ps.all (Nat.blt · N) = true)
    [JH:vt c [] K]
    (p:Nat→α→Prop) (I:Nat→α→List aF) (px:Code→β→Prop) (X:β→List aF) (i0:α) (zY:p 0 i0) {ks:List Nat} (hk:pick H ks = some (Hc++I 0 i0)) (hn:ks.Nodup)
    (hbody:∀(k:Nat) (i:α) (l dd:Nat) (rec:Loop) (c' : Cx),k < n→p k i→rec.state = .ready→rec.pending = none→c'.ro = some l→(∀w,aR c'.bs c'.w0 w→aR c.bs c.w0 w) →
      (∀b,(b ∈ c'.bs∨c'.w0.heap.size ≤ b)→(b ∈ c.bs∨c.w0.heap.size ≤ b)) →
      WP P N c' [] assign (uN P l body (uM c' (JW c.w0.heap.size c.bs (p (k + 1)) (fun i=>.obj dd (.deferred (some []))::.obj l (.loop rec)::I (k + 1) i))
        (JW c.w0.heap.size c.bs (fun q:Code × β=>px q.1 q.2) (fun q=>.obj dd (.deferred (some []))::.obj l (.loop { rec with state:=.done,pending:=some q.1 })::X q.2))))
        (n3 ps (encs k) F) (.obj dd (.deferred (some []))::.obj l (.loop rec)::I k i))
    (hdone:∀dd i,p n i→WQ N c (mark dd::D) Q .normal F (.obj dd (.deferred (some []))::(Hc++I n i)))
    (xW:∀dd j i,px j i→WP P N c (mark dd::D) j Q F (.obj dd (.deferred (some []))::(Hc++X i))) :
    WP P N c D (.rangeFunc g ps.toArray assign body) Q F H:=fun a w hst=>by
  refine wpIn_rangeFunc fun fn _=>?_
  have lU:(FA c.ro).round = none:=hro
  rw [lU]
  obtain ⟨rec,kD⟩ : ∃rec:Loop,rec = { state:=.ready,pending:=none,fn,tmps:=a.tmps,params:=ps.toArray,assign,body,defers:=w.heap.size }:=⟨_,rfl⟩
  obtain ⟨W1,yc⟩ : ∃W1,(w.alloc (.deferred (some []))).alloc (.loop rec) = W1:=⟨_,rfl⟩
  have Cd:aR [] w W1:=by rw [← yc]; exact (aR.alloc w _).ext (aR.alloc _ _)
  have IP:W1.heap.size = w.heap.size + 2:=by rw [← yc]; simp
  have JG:W1.heap[w.heap.size + 1]? = some (.loop rec):=by
    rw [← yc]; have:=World.alloc_heap_new (w.alloc (.deferred (some []))) (.loop rec); rwa [World.size_alloc] at this
  have JI:W1.heap[w.heap.size]? = some (.deferred (some [])):=by
    rw [← yc]; exact (Below.heap_alloc _ _ _ (by simp)).trans (World.alloc_heap_new w _)
  have Jt:=aV hst.fr hg
  have hfr:=hst.fr
  let J:Nat→List Nat→World→Prop:=fun k=>JW c.w0.heap.size c.bs (p k) (fun i=>.obj w.heap.size (.deferred (some []))::.obj (w.heap.size + 1) (.loop rec)::I k i)
  let Jx:List Nat→World→Prop:=JW c.w0.heap.size c.bs (fun q:Code × β=>px q.1 q.2) (fun q=>.obj w.heap.size (.deferred (some []))::.obj (w.heap.size + 1) (.loop { rec with state:=.done,pending:=some q.1 })::X q.2)
  have xQ:=(hst.hp.ext Cd).pick hk hn
  have CQ:bB c.bs c.w0.heap.size (.obj w.heap.size (.deferred (some []))::.obj (w.heap.size + 1) (.loop rec)::(Hc++I 0 i0)) W1:=by
    have hlt:∀s ∈ Hc++I 0 i0,∀b ∈ s.fG,b < w.heap.size:=fun s hs b hb=>by
      have hm:s ∈ H:=by
        obtain ⟨jj,hj⟩:=List.mem_iff_getElem?.1 hs
        obtain ⟨kk,_,hh⟩:=jQ hk jj s hj
        exact List.mem_of_getElem? hh
      exact (hst.hp.own s hm b hb).2
    have IN:=hst.si.size
    refine bB.cons (bB.cons xQ JG ?_ ?_) JI ?_ ?_
    · intro b hb; have e:b = w.heap.size + 1:=by simpa [aF.fG] using hb
      subst e; exact ⟨.inr (by omega),by omega⟩
    · intro s hs b hb cX
      have e:b = w.heap.size + 1:=by simpa [aF.fG] using hb
      have:=hlt s hs b cX; omega
    · intro b hb; have e:b = w.heap.size:=by simpa [aF.fG] using hb
      subst e; exact ⟨.inr (by omega),by omega⟩
    · intro s hs b hb cX
      have e:b = w.heap.size:=by simpa [aF.fG] using hb
      rcases List.mem_cons.1 hs with rfl | hs
      · have e2:b = w.heap.size + 1:=by simpa [aF.fG] using cX
        omega
      · have:=hlt s hs b cX; omega
  let I0:List aF:=.obj w.heap.size (.deferred (some []))::.obj (w.heap.size + 1) (.loop rec)::I 0 i0
  have CP:bB c.bs c.w0.heap.size I0 W1:=CQ.sub (by
    refine List.Sublist.cons_cons _ (List.Sublist.cons_cons _ (List.sublist_append_right _ _)))
  have wM:bB c.bs c.w0.heap.size Hc W1:=CQ.sub (by
    refine List.Sublist.cons _ (List.Sublist.cons _ (List.sublist_append_left _ _)))
  have hap:∀r ∈ I0,∀s ∈ Hc,r.apart s:=by
    intro r hr s hs
    have xP:=CQ.apart
    rw [List.pairwise_cons,List.pairwise_cons,List.pairwise_append] at xP
    obtain ⟨q1,q2,_,_,q3⟩:=xP
    rcases List.mem_cons.1 hr with rfl | hr
    · exact q1 s (by simp [hs])
    · rcases List.mem_cons.1 hr with rfl | hr
      · exact q2 s (by simp [hs])
      · exact aF.g8 (q3 s hs r hr)
  have hfn:=hit.fn (w.heap.size + 1) J Jx (br I0)
  have uk:br (aF.ext (br I0) (J 0 (br I0))::Hc) = br I0++br Hc:=by simp [br,aF.fG]
  refine ⟨w.heap.size + 1,[mark w.heap.size],W1,{ target:=.fn (.func gf) caps,args:=#[.func (.yield (w.heap.size + 1)) #[] #[]] },W1,gf,
    (Value.func (.yield (w.heap.size + 1)) #[] #[]::caps.toList).toArray,W1,?_,?_,fun _ _=>trivial,?_,fun h=>by simp at h,?_⟩
  · rw [← yc,kD]; exact run_enterLoop_outer _ _ _ _ _
  · simp only [resolve,Jt]
    simp [go_sem]
  · have:=hfn.enter (#[.func (.yield (w.heap.size + 1)) #[] #[]]++caps) W1
    simp only [invoke]
    rw [this]
    congr 2
    simp
  · have hin:bB (br I0++br Hc) W1.heap.size (aF.ext (br I0) (J 0 (br I0))::Hc) W1:=by
      refine ⟨?_,?_,?_⟩
      · intro r hr
        rcases List.mem_cons.1 hr with rfl | hr
        · exact rW (I:=fun i=>.obj w.heap.size (.deferred (some []))::.obj (w.heap.size + 1) (.loop rec)::I 0 i) i0 zY CP
        · exact wM.holds r hr
      · intro r hr b hb
        rcases List.mem_cons.1 hr with rfl | hr
        · obtain ⟨s,hs,cX⟩:=bY.1 hb
          exact ⟨.inl (List.mem_append_left _ hb),(CP.own s hs b cX).2⟩
        · exact ⟨.inl (List.mem_append_right _ (bY.2 ⟨r,hr,hb⟩)),(wM.own r hr b hb).2⟩
      · refine List.pairwise_cons.2 ⟨fun s hs b hb cX=>?_,wM.apart⟩
        obtain ⟨r,hr,q9⟩:=bY.1 hb
        exact hap r hr s hs b q9 cX
    have nT:∀b ∈ br I0++br Hc,b ∈ c.bs∨c.w0.heap.size ≤ b:=fun b hb=>by
      rcases List.mem_append.1 hb with h | h
      · obtain ⟨r,hr,q9⟩:=bY.1 h; exact (CP.own r hr b q9).1
      · obtain ⟨r,hr,q9⟩:=bY.1 h; exact (wM.own r hr b q9).1
    have sI:aR c.bs c.w0 W1:=hst.si.ext Cd
    have uj:=hfn.calls W1 ⟨fun w' Cb=>JH.ok w' (sI.trans Cb nT) (fun r hr=>by cases hr),?_⟩ (by rw [uk]; exact hin)
    · refine ji c.ro ?_
      intro cs
      obtain ⟨e,w2,fr,⟨x,_,he,vU,xZ⟩,tZ,nS⟩:=uj cs
      refine ⟨e,w2,fr,?_,tZ,nS⟩
      subst he
      rw [uk] at vU xZ
      obtain ⟨go,bs'⟩:=x
      have xN:aR c.bs c.w0 w2:=sI.trans vU nT
      have hex:=xZ.holds _ (List.mem_cons_self)
      have CO:∀r ∈ Hc,r.holds w2:=fun r hr=>xZ.holds r (List.mem_cons_of_mem _ hr)
      have CN:∀s ∈ Hc,∀b ∈ bs',b ∉ s.fG:=fun s hs b hb=>by
        have:=xZ.apart
        rw [List.pairwise_cons] at this
        exact this.1 s hs b hb
      have both:∀(IL:List aF) (jump:Option Code) (st:LoopState),st ≠ .busy→bs' = br (.obj w.heap.size (.deferred (some []))::.obj (w.heap.size + 1) (.loop { rec with state:=st,pending:=jump })::IL) →
          bB c.bs c.w0.heap.size (.obj w.heap.size (.deferred (some []))::.obj (w.heap.size + 1) (.loop { rec with state:=st,pending:=jump })::IL) w2 →
          ∃w4,(Instr.endLoop (w.heap.size + 1)).run P w2 = .ok jump w4∧St N c (mark w.heap.size::D) F (.obj w.heap.size (.deferred (some []))::(Hc++IL)) { a with defers:=mark w.heap.size::a.defers } w4:=by
        intro IL jump st xM cX hI
        have hl:w2.heap[w.heap.size + 1]? = some (.loop { rec with state:=st,pending:=jump }):=hI.holds (.obj (w.heap.size + 1) _) (by simp)
        have jV:bB c.bs c.w0.heap.size (.obj w.heap.size (.deferred (some []))::.obj (w.heap.size + 1) (.loop { rec with state:=st,pending:=jump })::(Hc++IL)) w2:=by
          have hq:=hI.apart
          rw [List.pairwise_cons,List.pairwise_cons] at hq
          refine ⟨?_,?_,?_⟩
          · intro r hr
            rcases List.mem_cons.1 hr with rfl | hr
            · exact hI.holds _ (by simp)
            · rcases List.mem_cons.1 hr with rfl | hr
              · exact hI.holds _ (by simp)
              · rcases List.mem_append.1 hr with h | h
                · exact CO r h
                · exact hI.holds r (by simp [h])
          · intro r hr b hb
            rcases List.mem_cons.1 hr with rfl | hr
            · exact hI.own _ (by simp) b hb
            · rcases List.mem_cons.1 hr with rfl | hr
              · exact hI.own _ (by simp) b hb
              · rcases List.mem_append.1 hr with h | h
                · exact ⟨(wM.own r h b hb).1,Nat.lt_of_lt_of_le (wM.own r h b hb).2 vU.size⟩
                · exact hI.own r (by simp [h]) b hb
          · have CK:∀r,r ∈ (aF.obj w.heap.size (.deferred (some []))::.obj (w.heap.size + 1) (.loop { rec with state:=st,pending:=jump })::IL)→∀s ∈ Hc,r.apart s:=fun r hr s hs b hb CM =>
              CN s hs b (by rw [cX]; exact bY.2 ⟨r,hr,hb⟩) CM
            refine List.pairwise_cons.2 ⟨fun s hs=>?_,List.pairwise_cons.2 ⟨fun s hs=>?_,List.pairwise_append.2 ⟨wM.apart,hq.2.2,fun s hs r hr=>aF.g8 (CK r (by simp [hr]) s hs)⟩⟩⟩
            · rcases List.mem_cons.1 hs with rfl | hs
              · exact hq.1 _ (by simp)
              · rcases List.mem_append.1 hs with h | h
                · exact CK _ (by simp) s h
                · exact hq.1 s (by simp [h])
            · rcases List.mem_append.1 hs with h | h
              · exact CK _ (by simp) s h
              · exact hq.2.1 s h
        have xL:St N c (mark w.heap.size::D) F (.obj w.heap.size (.deferred (some []))::.obj (w.heap.size + 1) (.loop { rec with state:=st,pending:=jump })::(Hc++IL)) { a with defers:=mark w.heap.size::a.defers } w2:=
          ⟨hst.tm,hfr,by simp [hst.df],xN,jV⟩
        have IU:n9 (.obj w.heap.size (.deferred (some []))::.obj (w.heap.size + 1) (.loop { rec with state:=st,pending:=jump })::(Hc++IL)) (w.heap.size + 1) (.loop { rec with state:=.exhausted,pending:=jump }) (.obj w.heap.size (.deferred (some []))::.obj (w.heap.size + 1) (.loop { rec with state:=.exhausted,pending:=jump })::(Hc++IL)):=inferInstance
        have ho:nH (.obj w.heap.size (.deferred (some []))::.obj (w.heap.size + 1) (.loop { rec with state:=st,pending:=jump })::(Hc++IL)) (w.heap.size + 1) (.loop { rec with state:=st,pending:=jump }):=inferInstance
        obtain ⟨h3,_⟩:=xL.xe ho IU
        refine ⟨_,run_endLoop hl xM,⟨h3.tm,h3.fr,h3.df,h3.si,h3.hp.sub ?_⟩⟩
        exact List.Sublist.cons_cons _ (List.Sublist.cons _ (List.Sublist.refl _))
      cases go with
      | true =>
        obtain ⟨i,vX,hI,cX⟩:=ext_get hex
        have Fj:({ rec with state:=LoopState.ready,pending:=none }:Loop) = rec:=by rw [kD]
        obtain ⟨w4,h4,h5⟩:=both (I n i) none .ready (by simp) (by rw [Fj]; exact cX) (by rw [Fj]; exact hI)
        exact ⟨none,w4,h4,hdone _ i vX _ _ h5⟩
      | false =>
        obtain ⟨⟨j,i⟩,vX,hI,cX⟩:=ext_get hex
        obtain ⟨w4,h4,h5⟩:=both (X i) (some j) .done (by simp) cX hI
        exact ⟨some j,w4,h4,xW _ j i vX _ _ h5⟩
    ·
      intro k DO W bs IV JD CC
      obtain ⟨i,vX,hI,cX⟩:=ext_get CC
      have hl:W.heap[w.heap.size + 1]? = some (.loop rec):=hI.holds (.obj (w.heap.size + 1) _) (by simp)
      have hy:=run_yield (P:=P) (args:=(encs k).toArray) hl (by rw [kD]; simpa using hlen k)
      refine ⟨_,_,_,_,hy,?_⟩
      have xO:aR c.bs c.w0 W:=sI.trans IV nT
      have hsub:∀b,(b ∈ br (aF.obj w.heap.size (.deferred (some []))::.obj (w.heap.size + 1) (.loop rec)::I k i)∨W.heap.size ≤ b)→(b ∈ c.bs∨c.w0.heap.size ≤ b):=fun b hb=>by
        rcases hb with hb | hb
        · obtain ⟨r,hr,q9⟩:=bY.1 hb; exact (hI.own r hr b q9).1
        · exact .inr (Nat.le_trans xO.size hb)
      have hb:=hbody k i (w.heap.size + 1) w.heap.size rec ⟨some (w.heap.size + 1),W,bs⟩ DO vX (by rw [kD]) (by rw [kD]) rfl (fun w' Cb=>xO.trans Cb fun b hb=>hsub b (.inl (by rw [← cX]; exact hb))) (fun b hb=>hsub b (by rw [← cX]; exact hb))
      have ht:=u5 (ps:=ps) (vs:=encs k) hfr hst.tm hps
      have B2:(rec.params.zip (encs k).toArray).foldl (fun tmps (t,a)=>tmps.setIfInBounds t a) rec.tmps = (ps.zip (encs k)).foldl (fun t q=>t.setIfInBounds q.1 q.2) a.tmps:=by
        rw [kD]; simp
      rw [B2]
      have Fk:rec.assign = assign∧rec.body = body:=by rw [kD]; exact ⟨rfl,rfl⟩
      rw [Fk.1,Fk.2]
      have F8:bB bs W.heap.size (.obj w.heap.size (.deferred (some []))::.obj (w.heap.size + 1) (.loop rec)::I k i) W:=
        ⟨hI.holds,fun r hr b hb=>⟨.inl (by rw [cX]; exact bY.2 ⟨r,hr,hb⟩),(hI.own r hr b hb).2⟩,hI.apart⟩
      have lU:=roundIn_of_wpIn (F:=FA none) (n:=0) (P:=P) (l:=w.heap.size + 1) (f:=rec.fn) (R:=uM ⟨some (w.heap.size + 1),W,bs⟩ (J (k + 1)) Jx) trivial
        (hb { tmps:=(ps.zip (encs k)).foldl (fun t q=>t.setIfInBounds q.1 q.2) a.tmps,defers:=[] } W ⟨ht.2,ht.1,rfl,aR.refl _ _,F8⟩)
      refine lU.mono fun e W' hr=>?_
      rw [uk] at *
      exact hr
theorem kP {c c' : Cx} {K:World→Prop} [h:vt c [] K] (hsi:∀w,aR c'.bs c'.w0 w→aR c.bs c.w0 w):∀R,vt c' R K:=fun R=>⟨fun w hs _=>h.ok w (hsi w hs) (fun r hr=>by cases hr)⟩
def yl {β:Type} (e:β) (m:Option (List β)):Option (List β):=m.map (e::·)
theorem zb {β:Type} {e:β} {m:Option (List β)} {r:List β} (h:yl e m = some r):∃r',r = e::r'∧m = some r':=by
  cases m with
  | none=>cases h
  | some l=>exact ⟨l,(Option.some.inj h).symm,rfl⟩
theorem drop_cons {β:Type} [Inhabited β] {l r:List β} {k:Nat} {e:β} (h:l.drop k = e::r):k < l.length∧l.getD k default = e∧l.drop (k + 1) = r∧k + 1 ≤ l.length:=by
  have hlt:k < l.length:=by
    rcases Nat.lt_or_ge k l.length with h1 | h1
    · exact h1
    · rw [List.drop_eq_nil_of_le h1] at h; cases h
  rw [List.drop_eq_getElem_cons hlt] at h
  obtain ⟨h1,h2⟩:=List.cons.inj h
  refine ⟨hlt,?_,h2,hlt⟩
  rw [List.getD,List.getElem?_eq_getElem hlt]; exact h1
theorem drop_nil {β:Type} {l:List β} {k:Nat} (h:l.drop k = []) (hk:k ≤ l.length):k = l.length:=by
  have:=List.drop_eq_nil_iff.1 h
  omega
section
variable {α1 β ρ:Type}
def eB (B:β→(α1→Option ρ)→α1→Option ρ) (fin:α1→Option ρ):List β→α1→Option ρ
  | [],a1=>fin a1
  | x::l,a1=>B x (eB B fin l) a1
theorem oR {B:β→(α1→Option ρ)→α1→Option ρ} {fin:α1→Option ρ} {l:List β} {a1:α1} {r:ρ} (h:eB B fin l a1 = some r):∃ib,ib = B∧∃fi,fi = fin∧eB ib fi (l.drop 0) a1 = some r:=⟨B,rfl,fin,rfl,h⟩
theorem oP [Inhabited β] {ib B:β→(α1→Option ρ)→α1→Option ρ} {fi:α1→Option ρ} (e:ib = B) {l:List β} {k:Nat} (hk:k < l.length) {a1:α1} {r:ρ} (h:eB ib fi (l.drop k) a1 = some r):B (l.getD k default) (eB ib fi (l.drop (k + 1))) a1 = some r:=by
  subst e
  rw [List.drop_eq_getElem_cons hk] at h
  rw [List.getD,List.getElem?_eq_getElem hk]; exact h
theorem oQ {ib:β→(α1→Option ρ)→α1→Option ρ} {fi fin:α1→Option ρ} (e:fi = fin) {l:List β} {k:Nat} (hk:k = l.length) {a1:α1} {r:ρ} (h:eB ib fi (l.drop k) a1 = some r):fin a1 = some r:=by
  subst e; subst hk
  rw [List.drop_length] at h; exact h
end
section
variable {α1 α2 β ρ:Type}
end
section
variable {α1 α2 α3 β ρ:Type}
def n4 (B:β→(α1→α2→α3→Option ρ)→α1→α2→α3→Option ρ) (fin:α1→α2→α3→Option ρ):List β→α1→α2→α3→Option ρ
  | [],a1,a2,a3=>fin a1 a2 a3
  | x::l,a1,a2,a3=>B x (n4 B fin l) a1 a2 a3
theorem EV {B:β→(α1→α2→α3→Option ρ)→α1→α2→α3→Option ρ} {fin:α1→α2→α3→Option ρ} {l:List β} {a1:α1} {a2:α2} {a3:α3} {r:ρ} (h:n4 B fin l a1 a2 a3 = some r):∃ib,ib = B∧∃fi,fi = fin∧n4 ib fi (l.drop 0) a1 a2 a3 = some r:=⟨B,rfl,fin,rfl,h⟩
theorem ET [Inhabited β] {ib B:β→(α1→α2→α3→Option ρ)→α1→α2→α3→Option ρ} {fi:α1→α2→α3→Option ρ} (e:ib = B) {l:List β} {k:Nat} (hk:k < l.length) {a1:α1} {a2:α2} {a3:α3} {r:ρ} (h:n4 ib fi (l.drop k) a1 a2 a3 = some r):B (l.getD k default) (n4 ib fi (l.drop (k + 1))) a1 a2 a3 = some r:=by
  subst e
  rw [List.drop_eq_getElem_cons hk] at h
  rw [List.getD,List.getElem?_eq_getElem hk]; exact h
theorem EU {ib:β→(α1→α2→α3→Option ρ)→α1→α2→α3→Option ρ} {fi fin:α1→α2→α3→Option ρ} (e:fi = fin) {l:List β} {k:Nat} (hk:k = l.length) {a1:α1} {a2:α2} {a3:α3} {r:ρ} (h:n4 ib fi (l.drop k) a1 a2 a3 = some r):fin a1 a2 a3 = some r:=by
  subst e; subst hk
  rw [List.drop_length] at h; exact h
end
section
variable {α1 α2 α3 α4 β ρ:Type}
end
section
variable {α1 α2 α3 α4 α5 β ρ:Type}
end
section
variable {α1 α2 α3 α4 α5 α6 β ρ:Type}
end
section
variable {α1 α2 α3 α4 α5 α6 α7 β ρ:Type}
end
section
variable {α1 α2 α3 α4 α5 α6 α7 α8 β ρ:Type}
end
section
variable {α1 α2 α3 α4 α5 α6 α7 α8 α9 β ρ:Type}
end
section
variable {α1 α2 α3 α4 α5 α6 α7 α8 α9 HD β ρ:Type}
end
end Go.Bw
namespace Go.Bw
open Go Go.RowKit
section rules
variable {P:Program} {N:Nat} {c:Cx} {D:List Deferred} {Q:Exit→Act→World→Prop} {F:cv} {H:List aF} {d:Option Tmp} {ty:TypeId} {ps:String} {af:Array Edge} {g:Option (Nat × Bool)} {α β γ:Type}
theorem uO {L:aY α} [aP L] [Inhabited α] {M:aY β} [aP M] {v:Value} {xs:List α} {e sz off t q:Nat} {x y:Operand} {val:Value} {gg:(Nat→α)→β} {s:(Nat→α)→β→(Nat→α)} {f:aF→List aF} {z:α}
    (m:Nat) (p:aS (LA L xs.length) M off gg s) (u:β) (ys:List α) (hy:ys = xs.set m z) (hx:ev F x = some (jc v off)) (hz:ev F y = some val) (hv:val.cells.toList = M.enc u) (hs:s (fun i=>xs.getD i default) u = dx (fun i=>xs.getD i default) m z)
    (hm:m < xs.length) (hn:M.n = q) [hr:kZ H v e sz xs.length (dR L xs) f] (hsz:L.n = sz) [ht:y7 P t q] :
    RX (α:=Unit) P N c ⟨d, .store t x y,ty,ps,af,g⟩ F H (fun _=>True) (fun _=>undef) (fun _=>f (Row v e sz L ys)):=fun D a w next Q hst hk=>by
  subst hn hsz
  obtain ⟨k,k1,k2⟩:=hr.ok
  have zZ:aF.row v e L.n xs.length (dR L xs) ∈ H:=List.mem_of_getElem? k1
  have hown:w.ownsRow 0 e L.n v xs.length (dR L xs):=hst.hp.holds _ zZ
  obtain ⟨hlen,qv⟩:=hown
  rcases qv with ⟨_,h0⟩ | ⟨gb,cap,cur,rfl,_,Be,hnc,Hl,hcs,u9⟩
  · omega
  have hle:off + M.n ≤ xs.length * L.n:=p.le
  have hmul:xs.length * L.n ≤ cap * L.n:=Nat.mul_le_mul_right _ hnc
  obtain ⟨cs,rfl⟩ : ∃cs:List Value,cur = cs.toArray:=⟨cur.toList,by simp⟩
  have Jw:cs.length = cap * L.n:=by simpa using hcs
  have y3:cs.take (xs.length * L.n) = dR L xs:=by simpa using u9
  have Fe:(M.enc u).length = M.n:=bw M u
  obtain ⟨w',e1,e2,e3⟩:=ko (P:=P) (t:=t) (b:=gb) (T:=e) (off:=off) (cs:=cs) (w:=w) Be hv Fe (by omega) (oe M u)
  have xT:ys.length = xs.length:=by rw [hy,List.length_set]
  have hnew:(bW cs off (M.enc u)).take (xs.length * L.n) = dR L ys:=by
    have h1:bW (dR L xs) off (M.enc u) = dR L ys:=by
      rw [jN L xs,hy,← xj L xs m z hm,← hs]
      exact p.put _ _
    rw [← h1,← y3]
    unfold bW
    rw [Fe]
    have t1:(cs.take (xs.length * L.n)).take off = cs.take off:=by rw [List.take_take,Nat.min_eq_left (by omega)]
    have t2:(cs.take (xs.length * L.n)).drop (off + M.n) = (cs.drop (off + M.n)).take (xs.length * L.n - (off + M.n)):=by rw [List.drop_take]
    have t3:(cs.take off++M.enc u).length = off + M.n:=by rw [List.length_append,List.length_take,Fe,Nat.min_eq_left (by omega)]
    rw [t1,t2,List.take_append,List.take_of_length_le (by omega),t3]
  refine ld (by simp) (w':=w') ?_ (hk () w' trivial (hst.si.store hst.hp zZ (by simp [aF.fG,Value.ownBlock]) e3) ?_)
  · simp [execOp,aV hst.fr hx,aV hst.fr hz,jc,Instr.storeAt,Instr.sureAddr,e1]
  · show bB c.bs c.w0.heap.size (f (Row _ e L.n L ys)) w'
    rw [Row,k2]
    refine hst.hp.set k1 e3.size (fun j hj hn=>e3.block j hj (by simpa [aF.fG,Value.ownBlock] using hn)) ?_ hst.si.size (fun b' hb'=>?_)
    · refine ⟨by rw [kM], .inr ⟨gb,cap,_,by rw [xT],Nat.zero_le _,e2,by omega,Hl,?_,?_⟩⟩
      · simp only [List.size_toArray,bW,List.length_append,List.length_take,List.length_drop,Fe]; omega
      · rw [xT]; simpa using hnew
    · have h5:b' = gb:=by simpa [aF.fG,Value.ownBlock] using hb'
      subst h5
      exact ⟨.inl (by simp [aF.fG,Value.ownBlock]),Nat.lt_of_lt_of_le (Array.getElem?_eq_some_iff.1 Be).1 e3.size⟩
class NZ (P:Program) (t:TypeId) (q:outParam IntKind):Prop where
  ok:P.underlying t = some (.int q)
theorem jw.size {v:Value} {n:Nat} (h:jw v n):v.cells.size = 1:=by obtain ⟨a,cp,rfl⟩:=h; rfl
theorem oZ {p q:Nat→Option (Nat × Nat)}:∀(parts:List (Nat × Value)) (cells:Array Value),(∀x ∈ parts,p x.1 = q x.1)→Instr.fill p cells parts = Instr.fill q cells parts
  | [],_,_=>rfl
  | (i,v)::r,cells,h=>by
    have h1:=h (i,v) (by simp)
    simp only at h1
    simp only [Instr.fill,h1]
    split
    · rfl
    · split
      · rfl
      · exact oZ r _ fun x hx=>h x (List.mem_cons_of_mem _ hx)
def lvl (n sz:Nat):List (Nat × Nat):=(List.range n).map fun i=>(i * sz,sz)
theorem zE {n sz i:Nat} (h:i < n):(lvl n sz)[i]? = some (i * sz,sz):=by simp [lvl,h]
theorem Dt {t n e sz:Nat} {parts:List (Nat × Operand)} {vs zs cs:List Value} [ht:n8 P t e sz] [hz:cy P e zs] (hv:nx F (parts.map (·.2)) = some vs) (hc:mI (lvl n sz) ((List.range (n * sz)).map fun j=>zs[j % zs.length]!) ((parts.map (·.1)).zip vs) = some cs)
    (hi:((parts.map (·.1)).all fun i=>decide (i < n)) = true) (h0:0 < n * sz) (hs:n * sz ≤ 16777216) :
    RX P N c ⟨d, .buildSlice t n parts.toArray,ty,ps,af,g⟩ F H (fun _=>True) (fun b=>.slice (some ⟨b,0,none⟩) n n) (fun b=>.cells b e cs::H):=fun D a w next Q hst hk=>by
  obtain ⟨i,h1,h2,h3⟩:=n8.get ht.ok
  obtain ⟨i',z,h4,h5,h6⟩:=cy.get hz.ok
  rw [h2] at h4; cases h4
  subst h3
  refine eT (by simp) (w':=w.alloc (.cells cs.toArray e)) ?_ (hk w.heap.size _ trivial (hst.si.ext (aR.alloc _ _)) (hst.hp.box e cs hst.si.size))
  have h9:=KY hst.fr hv
  have ML:(Array.map (fun x=>(x.fst,a.eval x.snd)) parts.toArray).toList = (parts.map (·.1)).zip vs:=by simpa using h9
  have MK:=oZ (p:=fun k=>some (k * i.size,i.size)) (q:=fun k=>((lvl n i.size).toArray)[k]?) ((parts.map (·.1)).zip vs) ((Array.range (n * i.size)).map (z.cells[· % z.cells.size]!)) (fun x hx=>by
      have:=List.all_eq_true.1 hi x.1 (List.of_mem_zip hx).1
      simp only [decide_eq_true_eq] at this
      simp [zE this])
  have Ip:z.cells = zs.toArray:=by rw [← h6]
  have h8:=lY (place:=fun k=>((lvl n i.size).toArray)[k]?) (pl:=lvl n i.size) (by simp) ((parts.map (·.1)).zip vs) ((Array.range (n * i.size)).map (z.cells[· % z.cells.size]!)) cs (by
    rw [← hc]; congr 1; rw [Ip]; simp [Array.toList_range])
  have e3:(fun x=>(x.fst,a.eval x.snd)) = (fun (x:Nat × Operand)=>(x.1,a.eval x.2)):=rfl
  have hb:(Instr.buildSlice t n (Array.map (fun x=>(x.fst,a.eval x.snd)) parts.toArray)).run P w = .ok (.slice (some ⟨w.heap.size,0,none⟩) n n) (w.alloc (.cells cs.toArray e)):=
    run_buildSlice w t e n _ cs.toArray i z h1 h2 h5 (by omega) (by omega) (by rw [ML,MK,h8])
  simp only [execOp,Sem.run_bind]
  rw [hb]
  rfl
end rules
end Go.Bw
namespace Go.Bw
open Go Go.RowKit
section rules
variable {P:Program} {N:Nat} {c:Cx} {D:List Deferred} {Q:Exit→Act→World→Prop} {F:cv} {H:List aF} {d:Option Tmp} {ty:TypeId} {ps:String} {af:Array Edge} {g:Option (Nat × Bool)} {α β γ:Type}
end rules
end Go.Bw
namespace Go.Bw
open Go Go.RowKit Go.ChangeMaps
section
variable {β:Type}
def fD:List (Int × β)→Int→Option (Nat × β)
  | [],_=>none
  | p::r,k=>bif k == p.1 then some (0,p.2) else (fD r k).map fun q=>(q.1 + 1,q.2)
def nc (l:List (Int × β)) (k:Int) (z:β):β:=((fD l k).map Prod.snd).getD z
def Ey (l:List (Int × β)) (k:Int):Bool:=(fD l k).isSome
def lz:List (Int × β)→Int→β→List (Int × β)
  | [],k,v=>[(k,v)]
  | p::r,k,v=>bif k == p.1 then (k,v)::r else p::lz r k v
end
class Nb {β:Type} (E:β→Value):Prop where
  ok:True
structure ju {β:Type} (q:IntKind) (E:β→Value) (es:Array MapEntry) (clock:Nat) (l:List (Int × β)):Prop where
  kv:es.toList.map (fun e=>(e.key,e.val)) = l.map fun p=>(Value.int q p.1,E p.2)
  born:∀e ∈ es.toList,e.born < clock
  nd:(es.toList.map (·.born)).Nodup
def GU {β:Type} (b:Nat) (q:IntKind) (E:β→Value) (l:List (Int × β)) (w:World):Prop:=∃es clock,w.heap[b]? = some (.map es clock)∧ju q E es clock l
abbrev Mp {β:Type} (b:Nat) (q:IntKind) (E:β→Value) (l:List (Int × β)):aF:=.ext [b] (GU b q E l)
theorem tq {β:Type} {b:Nat} {q:IntKind} {E:β→Value} {l:List (Int × β)} {w:World} (h:GU b q E l w):(Mp b q E l).holds w:=fun w' _ hb=>by
  obtain ⟨es,clock,h1,h2⟩:=h
  exact ⟨es,clock,(hb b (by simp)).trans h1,h2⟩
theorem Dx {β:Type} {b:Nat} {q:IntKind} {E:β→Value} {l:List (Int × β)} {w:World} (h:(Mp b q E l).holds w):GU b q E l w:=ext_get h
class p5 (H:List aF) (b:Nat) (β:outParam Type) (q:outParam IntKind) (E:outParam (β→Value)) (l:outParam (List (Int × β))) (f:outParam (aF→List aF)):Prop where
  ok:∃k:Nat,H[k]? = some (Mp b q E l)∧∀r',f r' = H.set k r'
instance (priority:=100) DY {β:Type} (b:Nat) (q:IntKind) (E:β→Value) (l:List (Int × β)) (H:List aF):p5 (Mp b q E l::H) b β q E l (fun r'=>r'::H):=⟨0,rfl,fun _=>rfl⟩
instance (priority:=50) Dy (r:aF) (H:List aF) (b:Nat) (β:Type) (q:IntKind) (E:β→Value) (l f) [h:p5 H b β q E l f]:p5 (r::H) b β q E l (fun r'=>r::f r'):=
  ⟨by obtain ⟨k,h1,h2⟩:=h.ok; exact ⟨k + 1,by simpa using h1,fun r'=>by rw [h2 r']; simp⟩⟩
class tn (P:Program) (t:TypeId) (k e:outParam TypeId) (q:outParam IntKind):Prop where
  ok:P.underlying t = some (.map k e)∧P.underlying k = some (.int q)
section
variable {β:Type} {q:IntKind} {E:β→Value}
theorem oY {k:Int}:∀(es:List MapEntry) (l:List (Int × β)) (i:Nat),es.map (fun e=>(e.key,e.val)) = l.map (fun p=>(Value.int q p.1,E p.2)) →
    Instr.findNow (.int q) (.int q k) es i = some ((fD l k).map fun p=>(i + p.1,E p.2))
  | [],[],i,_=>rfl
  | [],p::r,i,h=>by simp at h
  | e::es,[],i,h=>by simp at h
  | e::es,p::r,i,h=>by
    simp only [List.map_cons,List.cons.injEq,Prod.mk.injEq] at h
    obtain ⟨⟨h1,h2⟩,h3⟩:=h
    have ih:=oY (k:=k) es r (i + 1) h3
    unfold Instr.findNow fD
    rw [h1]
    have hs:Instr.sameNow (.int q) (.int q k) (.int q p.1) = some (k == p.1):=by simp [Instr.sameNow]
    rw [hs]
    cases hk:k == p.1 with
    | true=>simp [h2]
    | false =>
      simp only [ih,cond_false,Option.map_map]
      congr 1
      cases fD r k with
      | none=>rfl
      | some z=>simp [Function.comp]; omega
theorem kr {P:Program} {kt:TypeId} {k:Int} {es:Array MapEntry} {clock:Nat} {l:List (Int × β)} (w:World) (hk:P.underlying kt = some (.int q)) (h:ju q E es clock l) :
    (Instr.findKey kt (.int q k) es.toList).run P w = .ok ((fD l k).map fun p=>(p.1,E p.2)) w:=by
  unfold Instr.findKey
  rw [Sem.run_bind,run_underlying hk w]
  simp only [Result.andThen]
  rw [oY es.toList l 0 h.kv]
  cases fD l k with
  | none=>rfl
  | some z=>simp [Sem.run]
theorem nf {k:Int}:∀{l:List (Int × β)} {j:Nat} {y:β},fD l k = some (j,y)→l[j]? = some (k,y)
  | [],_,_,h=>by simp [fD] at h
  | p::r,j,y,h=>by
    unfold fD at h
    cases hk:k == p.1 with
    | true =>
      rw [hk] at h
      simp only [cond_true,Option.some.injEq,Prod.mk.injEq] at h
      obtain ⟨rfl,rfl⟩:=h
      have:k = p.1:=by simpa using hk
      subst this; rfl
    | false =>
      rw [hk] at h
      simp only [cond_false] at h
      cases hr:fD r k with
      | none=>simp [hr] at h
      | some z =>
        rw [hr] at h
        simp only [Option.map_some,Option.some.injEq,Prod.mk.injEq] at h
        obtain ⟨rfl,rfl⟩:=h
        have:=nf (l:=r) (j:=z.1) (y:=z.2) hr
        simpa using this
theorem qo {k:Int} {v:β}:∀{l:List (Int × β)},fD l k = none→lz l k v = l++[(k,v)]
  | [],_=>rfl
  | p::r,h=>by
    unfold fD at h
    cases hk:k == p.1 with
    | true=>rw [hk] at h; simp at h
    | false =>
      rw [hk] at h
      simp only [cond_false,Option.map_eq_none_iff] at h
      unfold lz
      rw [hk,cond_false,qo h]; rfl
theorem qn {k:Int} {v:β}:∀{l:List (Int × β)} {j:Nat} {y:β},fD l k = some (j,y)→lz l k v = l.set j (k,v)
  | [],_,_,h=>by simp [fD] at h
  | p::r,j,y,h=>by
    unfold fD at h
    unfold lz
    cases hk:k == p.1 with
    | true =>
      rw [hk] at h
      simp only [cond_true,Option.some.injEq,Prod.mk.injEq] at h
      obtain ⟨rfl,rfl⟩:=h
      rfl
    | false =>
      rw [hk] at h
      simp only [cond_false] at h
      cases hr:fD r k with
      | none=>simp [hr] at h
      | some z =>
        rw [hr] at h
        simp only [Option.map_some,Option.some.injEq,Prod.mk.injEq] at h
        obtain ⟨rfl,rfl⟩:=h
        rw [cond_false,qn (j:=z.1) (y:=z.2) hr]; rfl
theorem ju.len {es:Array MapEntry} {clock:Nat} {l:List (Int × β)} (h:ju q E es clock l):es.size = l.length:=by
  have:=congrArg List.length h.kv
  simpa using this
theorem ju.push {es:Array MapEntry} {clock:Nat} {l:List (Int × β)} (h:ju q E es clock l) (k:Int) (v:β):ju q E (es.push ⟨.int q k,E v,clock⟩) (clock + 1) (l++[(k,v)]):=by
  refine ⟨by simp [h.kv],fun e he=>?_,?_⟩
  · rw [Array.toList_push,List.mem_append,List.mem_singleton] at he
    rcases he with he | rfl
    · exact Nat.lt_succ_of_lt (h.born e he)
    · exact Nat.lt_succ_self _
  · rw [Array.toList_push,List.map_append,List.nodup_append]
    refine ⟨h.nd,by simp,fun a ha b hb=>?_⟩
    obtain ⟨e,he,rfl⟩:=List.mem_map.1 ha
    have hb:b = clock:=by simpa using hb
    subst hb
    exact fun e'=>by have:=h.born e he; omega
theorem kx {γ:Type} (f:MapEntry→MapEntry) (g:MapEntry→γ) (x:γ):∀(es:List MapEntry) (j:Nat),(∀e,g (f e) = x)→(es.modify j f).map g = (es.map g).set j x
  | [],j,_=>by simp
  | e::es,0,h=>by simp [h]
  | e::es,j + 1,h=>by simp [kx f g x es j h]
theorem jR {γ:Type} (f:MapEntry→MapEntry) (g:MapEntry→γ):∀(es:List MapEntry) (j:Nat),(∀e,g (f e) = g e)→(es.modify j f).map g = es.map g
  | [],j,_=>by simp
  | e::es,0,h=>by simp [h]
  | e::es,j + 1,h=>by simp [jR f g es j h]
theorem ju.modify {es:Array MapEntry} {clock:Nat} {l:List (Int × β)} (h:ju q E es clock l) (j:Nat) (k:Int) (v:β):ju q E (es.modify j fun e=>{ e with key:=.int q k,val:=E v }) clock (l.set j (k,v)):=by
  have hb:(es.modify j fun e=>{ e with key:=.int q k,val:=E v }).toList.map (·.born) = es.toList.map (·.born):=by
    rw [Array.toList_modify]; exact jR _ _ _ _ fun _=>rfl
  refine ⟨?_,fun e he=>?_,?_⟩
  · rw [Array.toList_modify,kx _ _ (Value.int q k,E v) _ _ (fun _=>rfl),h.kv,List.map_set]
  · have:e.born ∈ es.toList.map (·.born):=by rw [← hb]; exact List.mem_map_of_mem he
    obtain ⟨e',he',hee⟩:=List.mem_map.1 this
    rw [← hee]; exact h.born e' he'
  · rw [hb]; exact h.nd
theorem lg {γ δ:Type} (f:γ→δ):∀(l:List γ) (j:Nat),(l.eraseIdx j).map f = (l.map f).eraseIdx j
  | [],j=>by simp
  | x::r,0=>by simp
  | x::r,j + 1=>by simp [lg f r j]
theorem ju.erase {es:Array MapEntry} {clock:Nat} {l:List (Int × β)} (h:ju q E es clock l) (j:Nat):ju q E (es.eraseIdxIfInBounds j) clock (l.eraseIdx j):=by
  have ht:(es.eraseIdxIfInBounds j).toList = es.toList.eraseIdx j:=by
    unfold Array.eraseIdxIfInBounds
    split
    · simp
    · rename_i hj
      rw [List.eraseIdx_of_length_le (by simpa using hj)]
  refine ⟨?_,fun e he=>?_,?_⟩
  · rw [ht,lg,h.kv,← lg]
  · rw [ht] at he; exact h.born e (List.mem_of_mem_eraseIdx he)
  · rw [ht,lg]; exact h.nd.sublist (List.eraseIdx_sublist _ _)
end
section rules
variable {P:Program} {N:Nat} {c:Cx} {F:cv} {H:List aF} {d:Option Tmp} {ty:TypeId} {ps:String} {af:Array Edge} {g:Option (Nat × Bool)} {β:Type} {q:IntKind} {E:β→Value} {l:List (Int × β)} {f:aF→List aF} {b:Nat}
theorem p5.CS {bs:List Nat} {n0:Nat} {w:World} (h:p5 H b β q E l f) (hp:bB bs n0 H w):GU b q E l w:=by
  obtain ⟨k,h1,_⟩:=h.ok
  exact Dx (hp.holds _ (List.mem_of_getElem? h1))
theorem p5.put {N:Nat} {D:List Deferred} {a:Act} {w:World} {l' : List (Int × β)} {es es' : Array MapEntry} {clock clock' : Nat} (h:p5 H b β q E l f) (hst:St N c D F H a w) (he:w.heap[b]? = some (.map es clock)) (hok:ju q E es' clock' l') :
    aR c.bs c.w0 (w.putObj b (.map es' clock'))∧bB c.bs c.w0.heap.size (f (Mp b q E l')) (w.putObj b (.map es' clock')):=by
  obtain ⟨k,h1,h2⟩:=h.ok
  have hlt:=(Array.getElem?_eq_some_iff.1 he).1
  have lA:aR [b] w (w.putObj b (.map es' clock')):=⟨rfl,rfl,rfl,by simp [World.putObj],fun k _ hk=>World.putObj_heap_other (by simpa using hk)⟩
  refine ⟨hst.si.store hst.hp (List.mem_of_getElem? h1) (by simp [aF.fG]) lA,?_⟩
  rw [h2]
  refine hst.hp.set h1 lA.size (fun j hj hne=>lA.block j hj (by simpa [aF.fG] using hne)) (tq ⟨es',clock',World.putObj_heap_same hlt,hok⟩) hst.si.size (fun b' hb=>?_)
  have e:b' = b:=by simpa [aF.fG] using hb
  subst e
  exact ⟨.inl (by simp [aF.fG]),by rw [World.putObj]; simpa using hlt⟩
theorem uP (q:IntKind) (E:β→Value) {t k e:TypeId} {q' : IntKind} [tn P t k e q'] :
    RX P N c ⟨d, .makeMap t none,ty,ps,af,g⟩ F H (fun _=>True) (fun b=>.map (some b)) (fun b=>Mp b q E []::H):=fun D a w next Q hst hk=>by
  refine eT (by simp) (w':=w.alloc (.map #[] 0)) ?_ (hk w.heap.size _ trivial (hst.si.ext (aR.alloc _ _)) (hst.hp.fresh (aR.alloc _ _) (tq ⟨#[],0,by show (w.heap.push _)[w.heap.size]? = _; simp,⟨rfl,by simp,by simp⟩⟩) hst.si.size (fun b hb=>?_)))
  · simp [execOp,Instr.makeMap,newObj,Sem.run,Result.andThen]
  · have e:b = w.heap.size:=by simpa [aF.fG] using hb
    subst e
    exact ⟨Nat.le_refl _,by simp⟩
class Dl (P:Program) (e:TypeId) (z:outParam Value):Prop where
  ok:(P.info? e).bind (·.zero) = some z
theorem xg {e:TypeId} {z:Value} (h:Dl P e z) (w:World):(zeroValue e).run P w = .ok z w:=by
  have:=h.ok
  cases hi:P.info? e with
  | none=>simp [hi] at this
  | some i =>
    simp [hi] at this
    simp [zeroValue,typeInfo,hi,this,Sem.run_bind,Sem.run,Result.andThen]
theorem oD {t kt e:TypeId} {k:Int} {z:β} {commaOk:Bool} (w:World) (ht:tn P t kt e q) (hz:Dl P e (E z)) (h:GU b q E l w) :
    (Instr.lookup t (.map (some b)) (.int q k) commaOk).run P w = .ok (if commaOk then .tuple #[E (nc l k z), .bool (Ey l k)] else E (nc l k z)) w:=by
  obtain ⟨es,clock,h1,h2⟩:=h
  obtain ⟨t1,t2⟩:=ht.ok
  have hf:=kr (k:=k) w t2 h2
  have hc:∀em,(Instr.checkKey em 10000 kt (.int q k)).run P w = .ok () w:=fun em=>MapKept.run_checkKey (k:=.int q k) t2 (show q = q from rfl) em 9999
  simp only [Instr.lookup,Sem.run_bind,run_underlying t1,Result.andThen,MapKept.run_getObj_map h1,Sem.run]
  rw [Sem.run_pure]
  dsimp only
  rw [hc]
  dsimp only
  rw [hf]
  dsimp only
  unfold nc Ey
  cases fD l k with
  | none=>cases commaOk <;> simp [xg hz,Result.andThen]
  | some p=>cases commaOk <;> simp [Result.andThen]
theorem wm {x y:Operand} {t kt e:TypeId} {k:Int} (z:β) [ht:tn P t kt e q] [hz:Dl P e (E z)] (hx:ev F x = some (.map (some b))) (hy:ev F y = some (.int q k)) [hm:p5 H b β q E l f] :
    VS P N c ⟨d, .lookup t x y false,ty,ps,af,g⟩ F H (E (nc l k z)):=aN (by simp) fun a w hf _ hp=>by
  simp [execOp,aV hf hx,aV hf hy,oD w ht hz (hm.CS hp),Result.andThen]
theorem Aw {x:Operand} {t kt e:TypeId} [ht:tn P t kt e q] (hx:ev F x = some (.map (some b))) [hm:p5 H b β q E l f] :
    VS P N c ⟨d, .call ⟨.builtin .len,#[x],#[t]⟩,ty,ps,af,g⟩ F H (.int .i64 (l.length:Int)):=aN (by simp) fun a w hf _ hp=>by
  obtain ⟨es,clock,h1,h2⟩:=hm.CS hp
  simp [execOp,resolve,invoke,builtin,aV hf hx,Builtin.len_,Builtin.lenOf,run_underlying ht.ok.1,MapKept.run_getObj_map h1,h2.len,goInt,Result.andThen,Sem.run]
theorem rS {x y z:Operand} {t kt e:TypeId} {k:Int} {v:Value} (u:β) [ht:tn P t kt e q] (hx:ev F x = some (.map (some b))) (hy:ev F y = some (.int q k)) (hz:ev F z = some v) [hm:p5 H b β q E l f] (hv:v = E u) :
    RX (α:=Unit) P N c ⟨d, .mapUpdate t x y z,ty,ps,af,g⟩ F H (fun _=>True) (fun _=>undef) (fun _=>f (Mp b q E (lz l k u))):=fun D a w next Q hst hk=>by
  subst hv
  obtain ⟨es,clock,h1,h2⟩:=hm.CS hst.hp
  obtain ⟨t1,t2⟩:=ht.ok
  have hf:=kr (k:=k) w t2 h2
  have hc:∀em,(Instr.checkKey em 10000 kt (.int q k)).run P w = .ok () w:=fun em=>MapKept.run_checkKey (k:=.int q k) t2 (show q = q from rfl) em 9999
  cases Ft:fD l k with
  | none =>
    obtain ⟨p1,p2⟩:=hm.put hst h1 (h2.push k u)
    refine ld (by simp) (w':=w.putObj b (.map (es.push ⟨.int q k,E u,clock⟩) (clock + 1))) ?_ (hk () _ trivial p1 (by rw [qo Ft]; exact p2))
    rw [Ft] at hf
    simp [execOp,aV hst.fr hx,aV hst.fr hy,aV hst.fr hz,Instr.mapUpdate,run_underlying t1,MapKept.run_getObj_map h1,hc,hf,MapKept.run_setObj_map _ h1,Result.andThen,World.putObj]
  | some p =>
    have hg:=nf (j:=p.1) (y:=p.2) Ft
    obtain ⟨p1,p2⟩:=hm.put hst h1 (h2.modify p.1 k u)
    refine ld (by simp) (w':=w.putObj b (.map (es.modify p.1 fun e=>{ e with key:=.int q k,val:=E u }) clock)) ?_ (hk () _ trivial p1 (by rw [qn (j:=p.1) (y:=p.2) Ft]; exact p2))
    rw [Ft] at hf
    have hkey:((es[p.1]?).map (·.key)) = some (.int q k):=by
      have:(es.toList.map fun e=>(e.key,e.val))[p.1]? = some (Value.int q k,E p.2):=by rw [h2.kv,List.getElem?_map,hg]; rfl
      rw [List.getElem?_map,Array.getElem?_toList] at this
      cases he:es[p.1]? with
      | none=>simp [he] at this
      | some e0=>simp [he] at this; simp [this.1]
    simp [execOp,aV hst.fr hx,aV hst.fr hy,aV hst.fr hz,Instr.mapUpdate,run_underlying t1,MapKept.run_getObj_map h1,hc,hf,hkey,MapKept.run_keyThatStays (show MapKept.IsKey (.int q) (.int q k) from rfl),MapKept.run_setObj_map _ h1,Result.andThen,World.putObj]
end rules
end Go.Bw
namespace Go.Bw
open Go Go.RowKit Go.ChangeMaps
section
variable {α1 β ρ:Type}
end
section
variable {α1 α2 β ρ:Type}
end
section
variable {α1 α2 α3 β ρ:Type}
end
section
variable {α1 α2 α3 α4 β ρ:Type}
end
section
variable {α1 α2 α3 α4 α5 β ρ:Type}
end
section
variable {α1 α2 α3 α4 α5 α6 β ρ:Type}
end
def Ni {β:Type} (r b:Nat) (q:IntKind) (E:β→Value) (l rem:List (Int × β)) (last:Option (Int × β)) (w:World):Prop:=
  ∃es clock seen since c0,w.heap[b]? = some (.map es clock)∧w.heap[r]? = some (.mapIter (some b) since seen c0)∧ju q E es clock l∧(∀x ∈ es.toList,x.born < since)∧(since ≤ c0∧since ≤ clock) ∧
    (leftOf es seen).toList.map (fun e=>(e.key,e.val)) = rem.map (fun p=>(Value.int q p.1,E p.2)) ∧
    ∀p,last = some p→c0 = clock∧∃(s' : Array Nat) (e:MapEntry),seen = s'.push e.born∧e ∈ es.toList∧e.key = .int q p.1∧e.val = E p.2
abbrev Nh {β:Type} (r b:Nat) (q:IntKind) (E:β→Value) (l rem:List (Int × β)) (last:Option (Int × β)):aF:=.ext [r,b] (Ni r b q E l rem last)
class Nj (H:List aF) (r:Nat) (b:outParam Nat) (β:outParam Type) (q:outParam IntKind) (E:outParam (β→Value)) (l rem:outParam (List (Int × β))) (last:outParam (Option (Int × β))) (f:outParam (aF→List aF)):Prop where
  ok:∃k:Nat,H[k]? = some (Nh r b q E l rem last)∧∀r',f r' = H.set k r'
section rules
variable {P:Program} {N:Nat} {c:Cx} {F:cv} {H:List aF} {d:Option Tmp} {ty:TypeId} {ps:String} {af:Array Edge} {g:Option (Nat × Bool)} {β:Type} {q:IntKind} {E:β→Value} {l rem:List (Int × β)} {last:Option (Int × β)} {f:aF→List aF} {b r:Nat}
end rules
end Go.Bw
namespace Go.Bw
open Go Go.RowKit Go.ChangeShapes Go.WideShapes Go.Deep
theorem Below.xx {w w' : World} (h:aR [] w w'):Below w.heap.size w w':=⟨h.os,h.tape,h.output,h.size,fun k hk=>h.block k hk (by simp)⟩
theorem Ad {w:World} {a:Addr} {v:Value} (h:w.cell? a = some v):a.block < w.heap.size:=by
  rcases Nat.lt_or_ge a.block w.heap.size with h1 | h1
  · exact h1
  · have:w.heap[a.block]? = none:=Array.getElem?_eq_none h1
    simp [World.cell?,this] at h
section
variable {H:Type} {enc:TypeId × Value→H} {P:Program} {w:World} {base:Nat} {spare:Nat→Bool} {held:Bool}
theorem tF {t fuel:Nat} {fs:Array Field} {cs:List Value} {x:DataW H × List MemPlace} (ht:P.underlying t = some (.struct fs)) (h:DataW.trod enc P w base spare held fuel t cs = some x) :
    cs.length = P.cellsOf t∧∀(i:Nat) (f:Field),fs[i]? = some f→∃n y,DataW.trod enc P w base spare held n f.type ((cs.drop f.offset).take (P.cellsOf f.type)) = some y:=by
  obtain ⟨ys,n,_,_,hl,hy,hf⟩:=DataW.trod_struct ht h
  refine ⟨hl,fun i f hi=>?_⟩
  have hlt:i < ys.length:=by rw [hy]; exact (Array.getElem?_eq_some_iff.1 hi).1
  exact ⟨n,ys[i],(hf i f hi).trans (List.getElem?_eq_getElem hlt)⟩
theorem zy {α:Type} [Inhabited α] {t e sz fuel len cap:Nat} {a:Option Addr} {x:DataW H × List MemPlace} (E:α→List Value) (R:α→Prop) (ht:P.underlying t = some (.slice e)) (hC:P.cellsOf e = sz) (h0:0 < sz)
    (hE:∀z,(E z).length = sz) (hQ:∀(n:Nat) (cs:List Value) y,DataW.trod enc P w base spare held n e cs = some y→∃z,cs = E z∧R z) (h:DataW.trod enc P w base spare held fuel t [.slice a len cap] = some x) :
    ∃g:Nat→α,Ro w (.slice a len cap) sz len (flat (fun i=>E (g i)) len)∧(∀i,i < len→R (g i))∧len ≤ maxLen:=by
  rcases open_slice ht h with ⟨hcs,_⟩ | ⟨a',len',cap',m,n,D,Pl,hcs,_,hl,hm,zZ,_,hi⟩
  · simp at hcs
    obtain ⟨rfl,rfl,rfl⟩:=hcs
    exact ⟨fun _=>default,⟨by simp [flat], .inl ⟨⟨_,_,rfl⟩,rfl⟩⟩,fun i hi=>by omega,Nat.zero_le _⟩
  · simp at hcs
    obtain ⟨rfl,rfl,rfl⟩:=hcs
    have ND:len ≤ m:=by rw [zZ]; split <;> omega
    have hex:∀i,i < len→∃z,R z∧∀j,j < sz→w.cell? (a'.add (i * sz + j)) = (E z)[j]?:=fun i oW=>by
      obtain ⟨cs',hc,ht'⟩:=hi i (by omega)
      obtain ⟨z,rfl,hz⟩:=hQ _ _ _ ht'
      rw [hC] at hc
      obtain ⟨_,_,KU⟩:=World.cells?_some hc
      refine ⟨z,hz,fun j hj=>?_⟩
      rw [← KU j hj,← Go.Deep.add_add]
    let g:Nat→α:=fun i=>if hh:i < len then Classical.choose (hex i hh) else default
    have hg:∀i,i < len→R (g i)∧∀j,j < sz→w.cell? (a'.add (i * sz + j)) = (E (g i))[j]?:=fun i oW=>by
      have:=Classical.choose_spec (hex i oW)
      simp only [g,oW,dif_pos]
      exact this
    refine ⟨g,⟨iu fun i _=>hE _,?_⟩,fun i oW=>(hg i oW).1,by omega⟩
    have q8:∀(j:Nat) u,(flat (fun i=>E (g i)) len)[j]? = some u→w.cell? (a'.add j) = some u:=fun j u hu=>by
      have hlen:(flat (fun i=>E (g i)) len).length = len * sz:=iu fun i _=>hE _
      have hj:j < len * sz:=by rw [← hlen]; exact (List.getElem?_eq_some_iff.1 hu).1
      have hd:j = (j / sz) * sz + j % sz:=by rw [Nat.mul_comm]; exact (Nat.div_add_mod j sz).symm
      have hq:j / sz < len:=(Nat.div_lt_iff_lt_mul h0).2 hj
      have hr:j % sz < sz:=Nat.mod_lt _ h0
      rw [hd,flat_get (g:=fun i=>E (g i)) (fun i _=>hE _) hq hr] at hu
      rw [hd,(hg _ hq).2 _ hr,hu]
    rcases Nat.eq_zero_or_pos len with e0 | e0
    · subst e0; exact .inl ⟨⟨_,_,rfl⟩,rfl⟩
    · obtain ⟨b,off,spot⟩:=a'
      have hz:(flat (fun i=>E (g i)) len)[0]? = some ((flat (fun i=>E (g i)) len)[0]'(by rw [iu (k:=sz) (fun i _=>hE _)]; exact Nat.mul_pos e0 h0)):=List.getElem?_eq_getElem _
      have h1:=q8 0 _ hz
      have Ff:spot = none:=by simpa [Addr.add] using World.cell?_spot h1
      subst Ff
      refine .inr ⟨b,off,cap,rfl,?_,by omega,fun j u hu=>?_⟩
      · simpa [Addr.add] using Ad h1
      · have:=q8 j u hu
        rwa [Addr.add_lit] at this
end
end Go.Bw
namespace Go.Bw
open Go Go.RowKit Go.ChangeShapes Go.WideShapes Go.Deep
def DX {α:Type} (P:Program) (W:World) (t:TypeId) (L:aY α) (R:α→Prop):Prop:=
  ∀(H:Type) (enc:TypeId × Value→H) (base:Nat) (spare:Nat→Bool) (held:Bool) (n:Nat) (cs:List Value) (y:DataW H × List MemPlace),DataW.trod enc P W base spare held n t cs = some y→∃z,L.rep (fun w=>aR [] W w) cs z∧R z
section
variable {P:Program} {W:World} {t e:TypeId} {α β:Type}
theorem AL (hu:P.underlying t = some (.int .i64)):DX P W t (LI .i64) (fun z=>-9223372036854775808 ≤ z∧z ≤ 9223372036854775807):=fun _ _ _ _ _ _ _ _ h=>by obtain ⟨a,e,_,b⟩:=DataW.trod_int hu h; exact ⟨a,e,bounds_i64 b⟩
theorem Dv (hu:P.underlying t = some (.int .u8)):DX P W t (LI .u8) (fun z=>0 ≤ z∧z ≤ 255):=fun _ _ _ _ _ _ _ _ h=>by obtain ⟨a,e,_,b⟩:=DataW.trod_int hu h; exact ⟨a,e,bounds_u8 b⟩
theorem rU (hu:P.underlying t = some (.int .u32)):DX P W t (LI .u32) (fun z=>0 ≤ z∧z ≤ 4294967295):=fun _ _ _ _ _ _ _ _ h=>by obtain ⟨a,e,_,b⟩:=DataW.trod_int hu h; exact ⟨a,e,bounds_u32 b⟩
theorem Dw [Inhabited α] {L:aY α} [aP L] {R:α→Prop} {sz:Nat} (hu:P.underlying t = some (.slice e)) (hc:P.cellsOf e = sz) (hn:L.n = sz) (h0:0 < sz) (h:DX P W e L R):DX P W t (ou L) (fun z=>∀x ∈ z,R x):=by
  intro H enc base spare held n cs y hy
  have hcs:∃a len cap,cs = [.slice a len cap]:=by
    rcases open_slice hu hy with ⟨hcs,_⟩ | ⟨a',len',cap',m,n,D,Pl,hcs,_⟩
    · exact ⟨_,_,_,hcs⟩
    · exact ⟨_,_,_,hcs⟩
  obtain ⟨a,len,cap,rfl⟩:=hcs
  obtain ⟨g,w,q,_⟩:=zy (α:=α) (sz:=sz) L.enc R hu hc h0 (fun z=>(bw L z).trans hn) (fun n cs y hy=>by
    obtain ⟨z,hz,hr⟩:=h H enc base spare held n cs y hy
    exact ⟨z,aP.iff.1 hz,hr⟩) hy
  refine ⟨_,⟨_,rfl,Fz.Ex (L:=L) hn.symm ⟨_,_,rfl⟩ w⟩,fun x hx=>?_⟩
  obtain ⟨i,hi,rfl⟩:=List.mem_map.1 hx
  exact q i (List.mem_range.1 hi)
theorem ow {A:aY α} {B:aY β} {J:World→Prop} {cs:List Value} {o na:Nat} {x:α} {y:β} (hn:A.n = na) (h1:A.rep J ((cs.drop o).take na) x) (h2:B.rep J (cs.drop (o + na)) y):(LP A B).rep J (cs.drop o) (x,y):=
  ⟨_,_,(List.take_append_drop na _).symm,h1,by rw [List.drop_drop]; exact h2⟩
theorem Dz {A:aY α} {J:World→Prop} {cs:List Value} {o na:Nat} {x:α} (hl:cs.length = o + na) (h1:A.rep J ((cs.drop o).take na) x):A.rep J (cs.drop o) x:=by
  rwa [List.take_of_length_le (by rw [List.length_drop]; omega)] at h1
theorem Ei {L:aY α} [aP L] {A:World→Prop} {a:Option Addr} {len cap:Nat} {z:List α} (h:(ou L).rep A (Value.slice a len cap).cells.toList z):Fz A (.slice a len cap) L z:=by
  obtain ⟨v,e,f⟩:=h
  have e:[Value.slice a len cap] = [v]:=e
  cases e
  exact f
end
end Go.Bw
namespace Go.Bw
open Go Go.RowKit Go.ChangeShapes Go.WideShapes Go.Deep
section
variable {α β:Type}
structure DG [Inhabited α] (A:World→Prop) (v:Value) (L:aY α) (ws:List Value) (xs:List α):Prop where
  sl:jw v xs.length
  rep:(LA L xs.length).rep A ws (fun i=>xs.getD i default)
  ro:∀w,A w→Ro w v L.n xs.length ws
theorem DG.mono [Inhabited α] {A B:World→Prop} {v:Value} {L:aY α} {ws:List Value} {xs:List α} (h:DG A v L ws xs) (m:∀w,B w→A w):DG B v L ws xs:=⟨h.sl,aY.mono _ m h.rep,fun w hw=>h.ro w (m w hw)⟩
theorem DG.at [Inhabited α] {c:Cx} {H:List aF} {A:World→Prop} {v:Value} {L:aY α} {ws:List Value} {xs:List α} (h:DG A v L ws xs) [k:Kn c H A]:mS c H v L.n xs.length ws:=⟨fun w h1 h2=>h.ro w (k.ok w h1 h2)⟩
theorem DG.nil [Inhabited α] {A:World→Prop} {L:aY α}:DG A (.slice none 0 0) L [] ([]:List α):=⟨⟨_,_,rfl⟩,⟨fun _=>[],rfl,fun i hi=>absurd hi (Nat.not_lt_zero _)⟩,fun _ _=>⟨by simp, .inl ⟨⟨_,_,rfl⟩,rfl⟩⟩⟩
end
theorem xl {β:Type} {M:aY β} {A:World→Prop} {cs:List Value} {x:β} (h:M.rep A cs x):∃c,cs = c∧M.rep A c x:=⟨cs,rfl,h⟩
section rules
variable {P:Program} {N:Nat} {c:Cx} {D:List Deferred} {Q:Exit→Act→World→Prop} {F:cv} {H:List aF} {d:Option Tmp} {ty:TypeId} {ps:String} {af:Array Edge} {g:Option (Nat × Bool)} {α β γ:Type}
  {A:World→Prop} {v:Value} {L:aY α} [Inhabited α] {ws:List Value} {xs:List α}
end rules
section
variable {P:Program} {W:World} {t e:TypeId} {α:Type}
end
def uA (P:Program) (T n:Nat) (k:IntKind):Bool:=match P.underlying T with
  | some (.array m e)=>Nat.beq m n && (match P.underlying e with | some (.int q)=>decide (q = k) | _=>false) && (P.info? e).isSome && Nat.beq (P.cellsOf e) 1 && !P.eqGuardType P.depth T
  | _=>false
class Ki (P:Program) (T:TypeId) (n:outParam Nat) (k:outParam IntKind):Prop where
  ok:uA P T n k = true
theorem Ki.get {P:Program} {T n:Nat} {k:IntKind} (h:uA P T n k = true):∃e i,P.underlying T = some (.array n e)∧P.underlying e = some (.int k)∧P.info? e = some i∧P.cellsOf e = 1∧P.eqGuardType P.depth T = false:=by
  unfold uA at h
  split at h
  · rename_i m e hu
    simp only [Bool.and_eq_true,Bool.not_eq_true'] at h
    obtain ⟨⟨⟨⟨h1,h2⟩,h3⟩,h4⟩,h5⟩:=h
    have h1:=Nat.eq_of_beq_eq_true h1
    subst h1
    obtain ⟨i,hi⟩:=Option.isSome_iff_exists.1 h3
    split at h2
    · rename_i q hq
      have:q = k:=by simpa using h2
      subst this
      exact ⟨e,i,hu,hq,hi,Nat.eq_of_beq_eq_true h4,h5⟩
    · cases h2
  · cases h
section
variable {P:Program} {N:Nat} {c:Cx} {F:cv} {H:List aF} {d:Option Tmp} {ty:TypeId} {ps:String} {af:Array Edge} {g:Option (Nat × Bool)}
end
end Go.Bw
namespace Go.Bw
open Go Go.RowKit
section rules
variable {P:Program} {N:Nat} {c:Cx} {D:List Deferred} {Q:Exit→Act→World→Prop} {F:cv} {H:List aF} {d:Option Tmp} {ty:TypeId} {ps:String} {af:Array Edge} {g:Option (Nat × Bool)} {α β γ:Type}
theorem pJ {z:Value} (hz:z.cells = #[z]) (n:Nat):(Builtin.zeroCells z.cells n).toList = List.replicate n z:=by
  rw [hz]
  simp [Builtin.zeroCells]
  apply List.ext_getElem
  · simp
  · intro i h1 h2
    simp [Nat.mod_one]
abbrev Du:=Option (Nat × List Value × List Nat × (World→Prop))
def Et:Du→Value
  | none=>.pointer none
  | some y=>Ptr y.1 0
def Ev (T:Nat):Du→List aF
  | none=>[]
  | some y=>[.cells y.1 T y.2.1, .ext y.2.2.1 y.2.2.2]
def Eu (L:aY α) (o:Option α):Du→Prop
  | none=>o = none
  | some y=>∃p,o = some p∧L.rep (Hs [.ext y.2.2.1 y.2.2.2]) y.2.1 p
theorem Fn.map {P:Program} {f:Nat} {args:List Value} {pre:World→Prop} {lK:List aF} {p:α→Prop} {fv:α→Value} {fH:α→List aF} {q:β→Prop} {gv:β→Value} {gH:β→List aF}
    (h:Fn P f args pre lK p fv fH) (m:∀x,p x→∃y,q y∧fv x = gv y∧fH x = gH y):Fn P f args pre lK q gv gH:=by
  refine ⟨h.enter,fun w hw hp cs=>?_⟩
  obtain ⟨e,w',fr,⟨x,px,he,hs,hh⟩,more⟩:=h.calls w hw hp cs
  obtain ⟨y,qy,e1,e2⟩:=m x px
  exact ⟨e,w',fr,⟨y,qy,he.trans (by rw [e1]),hs,by rw [← e2]; exact hh⟩,more⟩
theorem Nn.nil {P:Program} {f:Nat} {args:List Value} {pre:World→Prop} {L:aY α} {o:Option α} {T:Nat} {g:Value→Value} (h:Fn P f args pre [] (Eu L o) (fun x=>g (Et x)) (Ev T)) (ho:o = none) :
    Fn (α:=Unit) P f args pre [] (fun _=>True) (fun _=>g (.pointer none)) (fun _=>[]):=
  h.map fun x hx=>by
    match x,hx with
    | Option.none,_=>exact ⟨(),trivial,rfl,rfl⟩
    | Option.some y,⟨p,hp,_⟩=>rw [ho] at hp; cases hp
theorem Nn.some {P:Program} {f:Nat} {args:List Value} {pre:World→Prop} {L:aY α} {o:Option α} {a:α} {T:Nat} {g:Value→Value} (h:Fn P f args pre [] (Eu L o) (fun x=>g (Et x)) (Ev T)) (ho:o = Option.some a) :
    Fn (α:=Nat × List Value × List Nat × (World→Prop)) P f args pre [] (fun y=>L.rep (Hs [.ext y.2.2.1 y.2.2.2]) y.2.1 a) (fun y=>g (Ptr y.1 0)) (fun y=>[.cells y.1 T y.2.1, .ext y.2.2.1 y.2.2.2]):=
  h.map fun x hx=>by
    match x,hx with
    | Option.none,hx=>have:o = none:=hx; rw [ho] at this; cases this
    | Option.some y,⟨p,hp,hr⟩=>rw [ho] at hp; cases hp; exact ⟨y,hr,rfl,rfl⟩
end rules
end Go.Bw
